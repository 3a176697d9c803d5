/- A function at listed arguments: what closed runs of it came to, as an entry for its callers. -/
import Derived.Test.YtfnacgojmdbjmaaGreatDoorRo3
namespace Go.Det
variable {P : Program}

/-- the same value, of those without addresses -/
noncomputable def eqB (a b : ByteArray) : Bool := preB a.data.toList b.data.toList && preB b.data.toList a.data.toList
noncomputable def intEqb (a b : Int) : Bool := decide (a = b)
noncomputable def eqV1 : Value → Value → Bool
  | .int k a, .int k' b => kindEq k k' && intEqb a b
  | .bool a, .bool b => a == b
  | .string a, .string b => eqB a b
  | _, _ => false
noncomputable def eqVL : List Value → List Value → Bool
  | [], [] => true
  | a :: s, b :: t => eqV1 a b && eqVL s t
  | _, _ => false
noncomputable def eqV2 : Value → Value → Bool
  | .agg a, .agg b => eqVL a.toList b.toList
  | a, b => eqV1 a b
noncomputable def eqV2L : List Value → List Value → Bool
  | [], [] => true
  | a :: s, b :: t => eqV2 a b && eqV2L s t
  | _, _ => false
noncomputable def eqV : Value → Value → Bool
  | .tuple a, .tuple b => eqV2L a.toList b.toList
  | a, b => eqV2 a b

theorem preB_antisymm : ∀ {a b : List UInt8}, preB a b = true → preB b a = true → a = b
  | [], [], _, _ => rfl
  | [], _ :: _, _, h => by cases h
  | _ :: _, [], h, _ => by cases h
  | x :: s, y :: t, h, k => by
    unfold preB at h k
    split at h
    · rename_i hb
      split at k
      · rw [UInt8.toNat_inj.1 (Nat.eq_of_beq_eq_true hb), preB_antisymm h k]
      · cases k
    · cases h
theorem eqB_eq {a b : ByteArray} (h : eqB a b = true) : a = b := by
  unfold eqB at h
  rw [Bool.and_eq_true] at h
  have := preB_antisymm h.1 h.2
  cases a with | mk a => cases b with | mk b =>
    cases a with | mk a => cases b with | mk b => simp at this; rw [this]
theorem eqV1_eq {a b : Value} (h : eqV1 a b = true) : a = b := by
  unfold eqV1 at h
  split at h
  · rw [Bool.and_eq_true] at h
    rw [kindEq_eq h.1, of_decide_eq_true h.2]
  · rw [eq_of_beq h]
  · rw [eqB_eq h]
  · cases h
theorem eqVL_eq : ∀ {a b : List Value}, eqVL a b = true → a = b
  | [], [], _ => rfl
  | [], _ :: _, h => by cases h
  | _ :: _, [], h => by cases h
  | x :: s, y :: t, h => by
    unfold eqVL at h
    rw [Bool.and_eq_true] at h
    rw [eqV1_eq h.1, eqVL_eq h.2]
theorem eqV2_eq {a b : Value} (h : eqV2 a b = true) : a = b := by
  unfold eqV2 at h
  split at h
  · rename_i a b; have := eqVL_eq h; cases a; cases b; simp at this; rw [this]
  · exact eqV1_eq h
theorem eqV2L_eq : ∀ {a b : List Value}, eqV2L a b = true → a = b
  | [], [], _ => rfl
  | [], _ :: _, h => by cases h
  | _ :: _, [], h => by cases h
  | x :: s, y :: t, h => by
    unfold eqV2L at h
    rw [Bool.and_eq_true] at h
    rw [eqV2_eq h.1, eqV2L_eq h.2]
theorem eqV_eq {a b : Value} (h : eqV a b = true) : a = b := by
  unfold eqV at h
  split at h
  · rename_i a b; have := eqV2L_eq h; cases a; cases b; simp at this; rw [this]
  · exact eqV2_eq h

abbrev Tbl := List (List Value × Value)
noncomputable def lookT (args : List Value) : Tbl → Option Value
  | [] => none
  | e :: t => match eqV2L e.1 args with | true => some e.2 | false => lookT args t
noncomputable def tabD (t : Tbl) : Own := pureD fun args => lookT args t
theorem tabD_tr (t : Tbl) : OwnTr (tabD t) := pureD_tr _
theorem lookT_some {args : List Value} {v : Value} : ∀ {t : Tbl}, lookT args t = some v → (args, v) ∈ t
  | [], h => by cases h
  | e :: t, h => by
    unfold lookT at h
    split at h
    · rename_i hb
      cases h
      rw [← eqV2L_eq hb]
      exact List.mem_cons_self
    · exact List.mem_cons_of_mem _ (lookT_some h)

noncomputable def isRes (r : Option (Value × St)) (v : Value) : Bool := match r with | some x => eqV x.1 v | none => false
/-- each row of the table is what a run comes to -/
noncomputable def tabOk (run : List Value → Option (Value × St)) : Tbl → Bool
  | [] => true
  | e :: t => match flat2L e.1 && (flat e.2 && isRes (run e.1) e.2) with | true => tabOk run t | false => false
theorem tabOk_mem {run : List Value → Option (Value × St)} : ∀ {t : Tbl}, tabOk run t = true → ∀ e ∈ t, flat2L e.1 = true ∧ flat e.2 = true ∧ ∃ s, run e.1 = some (e.2, s)
  | [], _, e, h => by cases h
  | x :: t, h, e, he => by
    unfold tabOk at h
    split at h
    case h_2 => cases h
    rename_i hb
    rcases List.mem_cons.1 he with rfl | he
    · simp only [Bool.and_eq_true] at hb
      obtain ⟨h1, h2, h3⟩ := hb
      refine ⟨h1, h2, ?_⟩
      unfold isRes at h3
      split at h3
      · rename_i y hy
        exact ⟨y.2, by rw [hy, ← eqV_eq h3]⟩
      · cases h3
    · exact tabOk_mem h e he
theorem tabOk_append {run : List Value → Option (Value × St)} : ∀ {s t : Tbl}, tabOk run s = true → tabOk run t = true → tabOk run (s ++ t) = true
  | [], _, _, h => h
  | x :: s, t, h, k => by
    unfold tabOk at h
    split at h
    case h_2 => cases h
    rename_i hb
    show (match flat2L x.1 && (flat x.2 && isRes (run x.1) x.2) with | true => tabOk run (s ++ t) | false => false) = true
    rw [hb]
    exact tabOk_append h k

/-- a function at the arguments of a table -/
theorem tab_ok {W : World} {G mask N n k top : Nat} {ext : Intr} {f : FuncId} {fn : Func} {c : Code} {h : Heap} {t : Tbl} (L : Laying G W h) (hGW : G ≤ W.heap.size) (hGt : G ≤ top)
    (hm : P.follows .mixedOrders = true) (hok : (Nat.ble (mask + 1) (Nat.shiftLeft 1 N) && okMask P G mask N) = true) (hit : IntrTr ext) (hio : ∀ w, W.heap.size ≤ w.heap.size → (∀ b, b < W.heap.size → w.heap[b]? = W.heap[b]?) → IntrOk P w G ext)
    (hf : P.funcs[f]? = some fn) (hb : fn.body = some c) (hn : (fn.name == "runtime.NumGoroutine") = false)
    (e : tabOk (fun args => callD P (mkIntr mask ext) n k f args (birth h top)) t = true) : OwnOk P W G f (tabD t) := by
  intro args s v s' ed φ w args' H _ hA _ _
  unfold tabD pureD at ed
  split at ed
  case h_2 => cases ed
  rename_i r hr
  cases ed
  obtain ⟨h1, h2, s1, e⟩ := tabOk_mem e _ (lookT_some hr)
  rw [flat2L_inv h1 hA, callFunc_run hf hb hn]
  have Lw := L.move H.size H.old hGW
  refine (run_call (args := args) hm hok hit (hio w H.size H.old) hf hb hn Lw.hr (glob_glob G w) (flat2L_self h1 _) (glob_top G w hGt) (fun id q => Lw.top id (Nat.le_trans hGt q)) e).mono ?_
  rintro e W' ⟨v', φ', rfl, _, hv, H'⟩
  exact ⟨v', φ, rfl, Ext.refl _ _ _, flat_any h2 hv, H.keep H'.kept H'.tape⟩

end Go.Det
