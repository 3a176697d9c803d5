/- A text of a proof. -/
import Derived.Test.YtfnacgojmdbjmaaGreatDoorRo8
namespace Go.Det
variable {P : Program}

theorem resW_some {l : Tmps} : ∀ {rs : List ResultVar} {s : St} {K : List Value → St → Prop}, resW P l s rs K → ∃ vs s', resD P l s rs = some (vs, s') ∧ K vs s'
  | [], s, K, h => ⟨[], s, rfl, h⟩
  | .tmp t :: rest, s, K, h => by
    obtain ⟨vs, s', e, k⟩ := resW_some (rs := rest) h
    exact ⟨lget l t :: vs, s', by rw [resD_tmp, e], k⟩
  | .cell a t :: rest, s, K, h => by
    obtain ⟨v, s1, e1, h⟩ := loadW_some h
    obtain ⟨vs, s', e, k⟩ := resW_some (rs := rest) h
    exact ⟨v :: vs, s', by rw [resD_cell, e1]; simp only [e], k⟩

theorem Fr.le {n : Nat} {φ : Ren} {l l' : Tmps} {a : Act} (h : Fr n φ l a) (k : LE l l') : Fr n φ l' a := ⟨h.size, fun t => by rw [← k t]; exact h.tmp t, h.defers⟩

section
variable {w0 : World} {φ0 : Ren} {n G : Nat} {call : Call} {cw : Cw}

theorem At.le' {l l' : Tmps} {s : St} {a : Act} {w : World} {φ : Ren} (h : At w0 φ0 n l s a w φ) (k : LE l l') : At w0 φ0 n l' s a w φ := ⟨h.hr, h.le, h.fr.le k, h.fresh, h.none_, h.hi⟩

theorem At.next {l l1 : Tmps} {s s1 : St} {a a1 : Act} {w w1 : World} {φ φ1 : Ren} (h : At w0 φ0 n l s a w φ) (g : G1 s s1) (e : Ext φ φ1 s.next s1.next) (H : HR φ1 s1.h w0 w1) (F : Fr n φ1 l1 a1) :
    At w0 φ0 n l1 s1 a1 w1 φ1 := by
  refine ⟨H, h.le.trans e.le, F, fun id q => ?_, fun id q => ?_, g.inv h.hi⟩
  · cases hφ : φ1 id with
    | none => rfl
    | some y =>
      rcases e.new id (by rw [hφ]; simp) with r | r
      · exact absurd (h.fresh id (Nat.le_trans g.next q)) r
      · omega
  · cases hh : s1.h.get id with
    | none => rfl
    | some y =>
      rcases g.dom id (by rw [hh]; simp) with r | r
      · exact absurd (h.none_ id (Nat.le_trans g.next q)) r
      · omega

def PostW (w0 : World) (φ0 : Ren) (n : Nat) (K : KC) (e : Exit) (a : Act) (w : World) : Prop := ∃ ex l s φ, e = Ex.out ex ∧ K ex l s ∧ At w0 φ0 n l s a w φ

theorem region_soundW (ho : CwOk call cw) (hcall : CallOk P w0 G call) (hT : ∀ f args, Tr (call f args)) (hm : P.follows .mixedOrders = true) (hG : Glob G φ0) {id : Nat} {ops : Array Oper} {draw : Bool}
    (hok : okCode n G (.region id ops draw) = true) {l : Tmps} {s : St} {K : KC} {a : Act} {w : World} {φ : Ren} (h : codeW P cw (.region id ops draw) l s K) (A : At w0 φ0 n l s a w φ) :
    (Code.region id ops draw).wp P (PostW w0 φ0 n K) a w := by
  have hs := code_sound (P := P) (w0 := w0) hcall hT hm 0 (.region id ops draw) hok
  have key : ∃ l1 s1 l', codeD P call 0 (.region id ops draw) l s = some (.normal, l1, s1) ∧ LE l1 l' ∧ K .normal l' s1 ∧ G1 s s1 := by
    cases draw with
    | true =>
      obtain ⟨l1, s1, l', e, q1, q2⟩ := drawW_some (P := P) ho (K := K .normal) h l (LE.refl l) []
      refine ⟨l1, s1, l', ?_, q1, q2, (drawD_tr (P := P) hT _ _ _ _ _ _ _ _ e).1⟩
      show ofTS (drawD P call ops.toList ops.toList [] [] l s) = _
      rw [e]; rfl
    | false =>
      obtain ⟨l1, s1, l', e, q1, q2⟩ := opsW_some (P := P) ho (K := K .normal) h l (LE.refl l)
      refine ⟨l1, s1, l', ?_, q1, q2, (opsD_tr (P := P) hT _ _ _ _ _ _ e).1⟩
      show ofTS (opsD P call ops.toList ops.toList l s) = _
      rw [e]; rfl
  obtain ⟨l1, s1, l', e, q1, q2, g⟩ := key
  refine hs l s _ l1 s1 φ a w e ⟨A.hr, hG.mono A.le, A.fr, fun id p _ => A.fresh id p, ⟨A.hi, fun id p _ => A.none_ id p⟩⟩ _ fun φ' a' w' po => ?_
  obtain ⟨e1, H1, F1⟩ := po
  exact ⟨.normal, l', s1, φ', rfl, q2, (A.next g e1 H1 F1).le' q1⟩

theorem lknow_le {l : Tmps} {c : Operand} {b : Bool} (h : evalO l c = .bool b) : LE l (lknow l c b) := by
  cases c with
  | tmp t => exact (LE.refl l).know h
  | _ => exact LE.refl l

theorem codeW_sound (ho : CwOk call cw) (hcall : CallOk P w0 G call) (hT : ∀ f args, Tr (call f args)) (hm : P.follows .mixedOrders = true) (hG : Glob G φ0) (h64 : ∀ id, 64 ≤ id → φ0 id = none) (c : Code) (hok : okCode n G c = true) :
    ∀ (l : Tmps) (s : St) (K : KC) (a : Act) (w : World) (φ : Ren), codeW P cw c l s K → At w0 φ0 n l s a w φ → c.wp P (PostW w0 φ0 n K) a w := by
  induction c with
  | skip => exact fun l s K a w φ h A => wp_skip ⟨.normal, l, s, φ, rfl, h, A⟩
  | region id ops draw => exact fun l s K a w φ h A => region_soundW ho hcall hT hm hG hok h A
  | seq a b ha hb =>
    intro l s K ac w φ h A
    simp only [okCode, Bool.and_eq_true] at hok
    refine wp_seq (wp_mono (ha hok.1 l s _ ac w φ h A) ?_)
    rintro e a1 w1 ⟨ex, l1, s1, φ1, rfl, k, A1⟩
    cases ex with
    | normal => exact hb hok.2 l1 s1 K a1 w1 φ1 k A1
    | exit i => exact ⟨.exit i, l1, s1, φ1, rfl, k, A1⟩
    | ret => exact ⟨.ret, l1, s1, φ1, rfl, k, A1⟩
  | cond c a b ha hb =>
    intro l s K ac w φ h A
    simp only [okCode, Bool.and_eq_true] at hok
    have hv := evalO_ok (hG.mono A.le) A.fr hok.1
    unfold codeW at h
    split at h
    case h_2 => exact h.elim
    rename_i t ht
    rw [ht] at hv
    refine wp_cond (t := t) (bool_inv hv) ?_
    cases t with
    | true => exact ha hok.2.1 _ s K ac w φ h (A.le' (lknow_le ht))
    | false => exact hb hok.2.2 _ s K ac w φ h (A.le' (lknow_le ht))
  | block id c ih =>
    intro l s K ac w φ h A
    refine wp_block (wp_mono (ih hok l s _ ac w φ h A) ?_)
    rintro e a1 w1 ⟨ex, l1, s1, φ1, rfl, k, A1⟩
    cases ex with
    | normal => exact ⟨.normal, l1, s1, φ1, rfl, k, A1⟩
    | ret => exact ⟨.ret, l1, s1, φ1, rfl, k, A1⟩
    | exit i =>
      show (if i = id then PostW w0 φ0 n K .normal a1 w1 else PostW w0 φ0 n K (.exit i) a1 w1)
      simp only at k
      cases hb : Nat.beq i id with
      | true =>
        rw [hb] at k
        rw [if_pos (Nat.eq_of_beq_eq_true hb)]
        exact ⟨.normal, l1, s1, φ1, rfl, k, A1⟩
      | false =>
        rw [hb] at k
        rw [if_neg (Nat.ne_of_beq_eq_false hb)]
        exact ⟨.exit i, l1, s1, φ1, rfl, k, A1⟩
  | loop c ih =>
    intro l s K ac w φ h A
    have key : ∀ a w φ, At w0 φ0 n l s a w φ → ∀ (b : Frame) (t : List Item) (cs : List Frame), ∃ e a' w', PostW w0 φ0 n K e a' w' ∧ Arrives P (lone (b.at a (.code c :: .inLoop c :: t)) cs w) b t cs e a' w' := by
      refine h (fun l s => ∀ a w φ, At w0 φ0 n l s a w φ → ∀ (b : Frame) (t : List Item) (cs : List Frame), ∃ e a' w', PostW w0 φ0 n K e a' w' ∧ Arrives P (lone (b.at a (.code c :: .inLoop c :: t)) cs w) b t cs e a' w') ?_ ?_
      · intro l s hb a w φ A b t cs
        obtain ⟨e, a1, w1, ⟨ex, l1, s1, φ1, rfl, k, A1⟩, harr⟩ := ih hok l s _ a w φ hb A b (.inLoop c :: t) cs
        cases ex with
        | normal =>
          obtain ⟨e2, a2, w2, hq2, harr2⟩ := k a1 w1 φ1 A1 b t cs
          exact ⟨e2, a2, w2, hq2, .of_steps (Steps.trans harr (.one step_inLoop)) harr2⟩
        | exit i => exact ⟨_, a1, w1, ⟨.exit i, l1, s1, φ1, rfl, k, A1⟩, .pass (x := .inLoop c) rfl (fun _ _ => .inl (by simp [Ex.out])) harr⟩
        | ret => exact ⟨_, a1, w1, ⟨.ret, l1, s1, φ1, rfl, k, A1⟩, .pass (x := .inLoop c) rfl (fun _ _ => .inl (by simp [Ex.out])) harr⟩
      · intro l s l' s' hw hr a w φ A
        obtain ⟨φ', A'⟩ := hw w0 φ0 n a w φ h64 A
        exact hr a w φ' A'
    intro b t cs
    obtain ⟨e, a', w', hq, harr⟩ := key ac w φ A b t cs
    exact ⟨e, a', w', hq, .of_steps (.one step_loop) harr⟩
  | exit id => exact fun l s K a w φ h A => wp_exit ⟨.exit id, l, s, φ, rfl, h, A⟩
  | ret => exact fun l s K a w φ h A => wp_ret ⟨.ret, l, s, φ, rfl, h, A⟩
  | _ => intro l s K a w φ h; exact h.elim

/-- A function's call. -/
theorem fnW_calls (ho : CwOk call cw) (hcall : CallOk P w0 G call) (hT : ∀ f args, Tr (call f args)) (hm : P.follows .mixedOrders = true) (hG : Glob G φ0) (h64 : ∀ id, 64 ≤ id → φ0 id = none)
    {f : FuncId} {fn : Func} {c : Code} (hf : P.funcs[f]? = some fn) (hb : fn.body = some c) (hok : okFunc G fn = true)
    {args args' : List Value} {s : St} {w : World} {Q : KV} (hle : Nat.ble args.length fn.ntmps = true)
    (H : HR φ0 s.h w0 w) (hA : VRL φ0 args args') (hfr : ∀ id, s.next ≤ id → φ0 id = none) (hno : ∀ id, s.next ≤ id → s.h.get id = none) (hhi : s.next ≤ s.hi)
    (h : codeW P cw c (inTab args 8) s (retW P fn Q)) :
    Calls P f ⟨args'⟩ w fun e w' => ∃ v v' s' φ', e = .returned v' ∧ Q v s' ∧ VR φ' v v' ∧ HR φ' s'.h w0 w' ∧ Le φ0 φ' ∧ (∀ id, s'.next ≤ id → φ' id = none) := by
  refine calls_of_wp hf hb ?_
  unfold okFunc at hok
  rw [hb] at hok
  simp only [Bool.and_eq_true] at hok
  have A : At w0 φ0 fn.ntmps (inTab args 8) s { tmps := (⟨args'⟩ : Array Value) ++ Array.replicate (fn.ntmps - (⟨args'⟩ : Array Value).size) undef, defers := [] } w φ0 :=
    ⟨H, Le.refl _, enter_frame hA (Nat.le_of_ble_eq_true hle), hfr, hno, hhi⟩
  refine wp_mono (codeW_sound ho hcall hT hm hG h64 c hok.1 _ _ _ _ _ _ h A) ?_
  rintro e a1 w1 ⟨ex, l1, s1, φ1, rfl, k, A1⟩
  have hend : resW P l1 s1 fn.results.toList (fun vs s => Q (valOf vs) s) → a1.defers = [] ∧ ∃ v2, (results fn a1.tmps).run P w1 = .ok v2 w1 ∧ ∃ v v' s' φ', Ending.returned v2 = .returned v' ∧ Q v s' ∧ VR φ' v v' ∧ HR φ' s'.h w0 w1 ∧ Le φ0 φ' ∧ (∀ id, s'.next ≤ id → φ' id = none) := by
    intro k
    obtain ⟨vs, s2, e2, q⟩ := resW_some k
    obtain ⟨vs', r1, r3, r4, r5⟩ := resD_ok fn.results.toList e2 A1.hr A1.fr.tmp
    exact ⟨A1.fr.defers, valOf vs', results_run r1, valOf vs, valOf vs', s2, φ1, rfl, q, valOf_ok r3, by rw [r4]; exact A1.hr, A1.le, fun id p => A1.fresh id (by rw [← r5]; exact p)⟩
  cases ex with
  | normal => exact hend k
  | ret => exact hend k
  | exit i => exact k.elim

end

/-! own entries, at every later world -/
structure Later (W w : World) : Prop where
  size : W.heap.size ≤ w.heap.size
  old : ∀ b, b < W.heap.size → w.heap[b]? = W.heap[b]?
theorem Later.refl (W : World) : Later W W := ⟨Nat.le_refl _, fun _ _ => rfl⟩
theorem Later.trans {A B C : World} (h : Later A B) (k : Later B C) : Later A C := ⟨Nat.le_trans h.size k.size, fun b q => (k.old b (Nat.lt_of_lt_of_le q h.size)).trans (h.old b q)⟩
theorem HR.later {φ : Ren} {h : Heap} {W w : World} (H : HR φ h W w) : Later W w := ⟨H.size, H.old⟩

def OwnAll (P : Program) (W : World) (G : Nat) (f : FuncId) (g : Own) : Prop := OwnTr g ∧ ∀ w, Later W w → OwnOk P w G f g
theorem OwnAll.later {W w : World} {G : Nat} {f : FuncId} {g : Own} (h : OwnAll P W G f g) (k : Later W w) : OwnAll P w G f g := ⟨h.1, fun w' q => h.2 w' (k.trans q)⟩

noncomputable def ownCall (l : List (Nat × Own)) : Call := fun f args s => match extL l f with | some g => g args s | none => none
def OwnsAll (P : Program) (W : World) (G : Nat) (l : List (Nat × Own)) : Prop := ∀ x ∈ l, OwnAll P W G x.1 x.2
theorem ownsAll_nil (W : World) (G : Nat) : OwnsAll P W G [] := fun _ h => by cases h
theorem OwnsAll.cons {W : World} {G : Nat} {l : List (Nat × Own)} {f : Nat} {g : Own} (h : OwnAll P W G f g) (k : OwnsAll P W G l) : OwnsAll P W G ((f, g) :: l) := by
  intro x hx
  rcases List.mem_cons.1 hx with rfl | hx
  · exact h
  · exact k x hx
theorem ownCall_tr {W : World} {G : Nat} {l : List (Nat × Own)} (h : OwnsAll P W G l) (f : FuncId) (args : List Value) : Tr (ownCall l f args) := by
  unfold ownCall
  cases he : extL l f with
  | none => exact none_tr fun _ => rfl
  | some g => exact (h _ (extL_mem he)).1 args
theorem ownCall_ok {W w : World} {G : Nat} {l : List (Nat × Own)} (h : OwnsAll P W G l) (k : Later W w) : CallOk P w G (ownCall l) := by
  intro f args s v s' e
  unfold ownCall at e
  split at e
  · rename_i g he
    exact (h _ (extL_mem he)).2 w k args s v s' e
  · cases e

/-- A function of numbers, bools and strings alone, that answers what F says. -/
theorem own_flat {cw : Cw} {W : World} {G : Nat} {l : List (Nat × Own)} {h : Heap} {f : FuncId} {fn : Func} {c : Code} {F : List Value → Option Value} (L : Laying G W h) (hGW : G ≤ W.heap.size) (hG64 : G ≤ 64)
    (hm : P.follows .mixedOrders = true) (hl : OwnsAll P W G l) (ho : CwOk (ownCall l) cw) (hf : P.funcs[f]? = some fn) (hb : fn.body = some c) (hok : okFunc G fn = true)
    (hF : ∀ args v, F args = some v → flat2L args = true ∧ flat v = true ∧ Nat.ble args.length fn.ntmps = true ∧ codeW P cw c (inTab args 8) (birth h 64) (retW P fn fun v' _ => v' = v)) : OwnAll P W G f (pureD F) := by
  refine ⟨pureD_tr F, fun W1 k1 args s v s' e φ w args' H _ hA _ _ => ?_⟩
  unfold pureD at e
  split at e
  case h_2 => cases e
  rename_i r hr
  cases e
  obtain ⟨h1, h2, h3, h4⟩ := hF args v hr
  have hn : (fn.name == "runtime.NumGoroutine") = false := by
    unfold okFunc at hok
    rw [hb] at hok
    simp only [Bool.and_eq_true, Bool.not_eq_true'] at hok
    exact hok.2
  rw [flat2L_inv h1 hA, callFunc_run hf hb hn]
  have kw : Later W w := k1.trans H.later
  have Lw := L.move kw.size kw.old hGW
  refine (fnW_calls (P := P) (w0 := w) (φ0 := glob G w) (G := G) ho (ownCall_ok hl kw) (ownCall_tr hl) hm (glob_glob G w) (fun id q => glob_top G w hG64 id q) hf hb hok h3 Lw.hr (flat2L_self h1 _) (fun id q => glob_top G w hG64 id q) (fun id q => Lw.top id (Nat.le_trans hG64 q)) (Nat.le_refl 64) h4).mono ?_
  rintro e W' ⟨v1, v', s1, φ', rfl, rfl, hv, H', _, _⟩
  exact ⟨v', φ, rfl, Ext.refl _ _ _, flat_any h2 hv, H.keep H'.kept H'.tape⟩

end Go.Det
