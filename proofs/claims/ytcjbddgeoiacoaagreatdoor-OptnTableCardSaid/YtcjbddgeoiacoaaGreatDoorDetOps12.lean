/- A part of an evaluator of closed runs and of its soundness. -/
import Derived.Test.YtcjbddgeoiacoaaGreatDoorDetOps11
namespace Go.Det
variable {P : Program}
open Go.WideMaps

theorem keyD_law {k : TypeId} (h : keyD P k = true) : KeyLaw P k := by
  unfold keyD at h
  split at h
  · rename_i hu; exact string_law hu
  · rename_i hu
    rw [Bool.and_eq_true] at h
    exact deep_law (m := 12) (by decide) h.1 h.2 (by rw [hu])
  · rename_i hu
    rw [Bool.and_eq_true] at h
    exact deep_law (m := 12) (by decide) h.1 h.2 (by rw [hu])
  · cases h

theorem strEq_iff {a b : ByteArray} : strEq a b = true ↔ a = b := by
  unfold strEq
  rw [beq_iff_eq]
  constructor
  · intro h
    obtain ⟨⟨a⟩⟩ := a; obtain ⟨⟨b⟩⟩ := b
    simp only at h
    rw [h]
  · rintro rfl; rfl
theorem cellEq_iff {a b : Value} {r : Bool} (h : cellEq a b = some r) : r = true ↔ a = b := by
  unfold cellEq at h
  split at h
  · split at h
    · rename_i hk; cases h; have := kindEq_eq hk; subst this; simp
    · cases h
  · cases h; simp
  · cases h; rw [strEq_iff]; simp
  · cases h
theorem cellsEq_iff : ∀ {a b : List Value} {r : Bool}, cellsEq a b = some r → (r = true ↔ a = b)
  | [], [], r, h => by cases h; simp
  | [], _ :: _, r, h => by cases h
  | _ :: _, [], r, h => by cases h
  | a :: s, b :: t, r, h => by
    unfold cellsEq at h
    split at h
    case h_2 => cases h
    rename_i q hq
    have e := cellEq_iff hq
    split at h
    · have := cellsEq_iff h
      simp only [true_iff] at e
      rw [this, e]; simp
    · cases h
      simp only [Bool.false_eq_true, false_iff] at e ⊢
      intro k; cases k; exact e rfl
theorem keyEq_iff {a b : Value} {r : Bool} (h : keyEq a b = some r) : r = true ↔ a = b := by
  unfold keyEq at h
  split at h
  · rename_i p q
    rw [cellsEq_iff h]
    constructor
    · intro e; obtain ⟨p⟩ := p; obtain ⟨q⟩ := q; simp only at e; rw [e]
    · intro e; cases e; rfl
  · exact cellEq_iff h

/-- what was found -/
theorem findD_spec {kt : TypeId} {k : Value} : ∀ {es : List (Value × Value)} {r : Option Nat}, findD P kt k es = some r →
    (∀ e ∈ es, ∃ l, keyOf P kt e.1 = some l) ∧ (match r with | none => ∀ e ∈ es, e.1 ≠ k | some j => (∃ v, es[j]? = some (k, v)) ∧ ∀ i e, es[i]? = some e → e.1 = k → i = j)
  | [], r, h => by cases h; exact ⟨by simp, by simp⟩
  | e :: t, r, h => by
    unfold findD at h
    split at h
    case h_2 => cases h
    rename_i hl
    have hl := Option.isSome_iff_exists.1 hl
    split at h
    case h_2 => cases h
    rename_i r0 hr
    obtain ⟨i1, i2⟩ := findD_spec hr
    split at h
    case h_2 => cases h
    rename_i q hq
    have hk := keyEq_iff hq
    refine ⟨fun x hx => by rcases List.mem_cons.1 hx with rfl | hx; exact hl; exact i1 x hx, ?_⟩
    split at h
    · simp only [true_iff] at hk
      split at h
      · cases h
        simp only at i2 ⊢
        refine ⟨⟨e.2, by rw [← hk]; rfl⟩, fun i x hi hx => ?_⟩
        cases i with
        | zero => rfl
        | succ i => exact absurd hx (i2 x (List.mem_of_getElem? (by simpa using hi)))
      · cases h
    · simp only [Bool.false_eq_true, false_iff] at hk
      split at h
      · cases h
        simp only at i2 ⊢
        intro x hx
        rcases List.mem_cons.1 hx with rfl | hx
        · exact hk
        · exact i2 x hx
      · rename_i j
        cases h
        simp only at i2 ⊢
        obtain ⟨⟨v, hv⟩, h2⟩ := i2
        refine ⟨⟨v, by simpa using hv⟩, fun i x hi hx => ?_⟩
        cases i with
        | zero => simp only [List.getElem?_cons_zero, Option.some.injEq] at hi; subst hi; exact absurd hx hk
        | succ i => rw [h2 i x (by simpa using hi) hx]

theorem MapR.len {φ : Ren} {es : List (Value × Value)} {ms : List MapEntry} (h : MapR φ es ms) : es.length = ms.length := by
  induction h with
  | nil => rfl
  | cons _ _ _ ih => simp [ih]
theorem MapR.at {φ : Ren} {es : List (Value × Value)} {ms : List MapEntry} (h : MapR φ es ms) : ∀ {i : Nat} {m : MapEntry}, ms[i]? = some m → ∃ e, es[i]? = some e ∧ m.key = e.1 ∧ VR φ e.2 m.val := by
  induction h with
  | nil => intro i m q; simp at q
  | cons e v _ ih =>
    intro i m q
    cases i with
    | zero => simp only [List.getElem?_cons_zero, Option.some.injEq] at q; subst q; exact ⟨_, rfl, e, v⟩
    | succ i => obtain ⟨x, h1, h2⟩ := ih (by simpa using q); exact ⟨x, by simpa using h1, h2⟩
theorem MapR.mem {φ : Ren} {es : List (Value × Value)} {ms : List MapEntry} (h : MapR φ es ms) {m : MapEntry} (hm : m ∈ ms) : ∃ e ∈ es, m.key = e.1 := by
  obtain ⟨i, hi⟩ := List.getElem?_of_mem hm
  obtain ⟨e, h1, h2, _⟩ := h.at hi
  exact ⟨e, List.mem_of_getElem? h1, h2⟩

/-- the machine finds the same -/
theorem find_run {φ : Ren} {kt : TypeId} {k : Value} {es : List (Value × Value)} {ms : List MapEntry} {r : Option Nat} (hK : KeyLaw P kt) (hk : (keyOf P kt k).isSome = true) (h : findD P kt k es = some r) (hR : MapR φ es ms) (w : World) :
    (match r with
      | none => (Instr.findKey kt k ms).run P w = .ok none w
      | some j => ∃ m v, ms[j]? = some m ∧ es[j]? = some (k, v) ∧ m.key = k ∧ VR φ v m.val ∧ (Instr.findKey kt k ms).run P w = .ok (some (j, m.val)) w) := by
  obtain ⟨l, hl⟩ := Option.isSome_iff_exists.1 hk
  obtain ⟨h1, h2⟩ := findD_spec h
  have hall : ∀ m ∈ ms, ∃ l, keyOf P kt m.key = some l := fun m hm => by
    obtain ⟨e, he, q⟩ := hR.mem hm
    rw [q]; exact h1 e he
  rcases hK.find w hl ms hall with ⟨q1, q2⟩ | ⟨j, m, q1, q2, q3⟩
  · cases r with
    | none => exact q1
    | some j =>
      obtain ⟨⟨v, hv⟩, _⟩ := h2
      have hlt : j < ms.length := by rw [← hR.len]; exact (List.getElem?_eq_some_iff.1 hv).1
      obtain ⟨e, p1, p2, _⟩ := hR.at (List.getElem?_eq_getElem hlt)
      rw [hv] at p1; cases p1
      exact absurd p2 (q2 _ (List.getElem_mem hlt))
  · obtain ⟨e, p1, p2, p3⟩ := hR.at q2
    cases r with
    | none => exact absurd (by rw [← p2]; exact q3) (h2 e (List.mem_of_getElem? p1))
    | some j' =>
      obtain ⟨⟨v, hv⟩, hu⟩ := h2
      have := hu j e p1 (by rw [← p2]; exact q3)
      subst this
      rw [hv] at p1; cases p1
      exact ⟨m, v, q2, hv, q3, p3, q1⟩

theorem mapv_inv {φ : Ren} {id : Nat} {x : Value} {b sh sz : Nat} (h : VR φ (.map (some id)) x) (k : φ id = some (b, sh, sz)) : x = .map (some b) := by
  cases h with | map _ b' _ _ e => rw [k] at e; cases e; rfl

theorem MapR.push {φ : Ren} {es : List (Value × Value)} {ms : List MapEntry} (h : MapR φ es ms) {k v : Value} {m : MapEntry} (hk : m.key = k) (hv : VR φ v m.val) : MapR φ (es ++ [(k, v)]) (ms ++ [m]) := by
  induction h with
  | nil => exact .cons hk hv .nil
  | cons e q _ ih => exact .cons e q ih
theorem MapR.set {φ : Ren} {es : List (Value × Value)} {ms : List MapEntry} (h : MapR φ es ms) {k v v' : Value} (hv : VR φ v v') : ∀ {j : Nat}, (∃ x, es[j]? = some (k, x)) →
    MapR φ (setVal v es j) (ms.modify j fun e => { e with key := k, val := v' }) := by
  induction h with
  | nil => rintro j ⟨x, q⟩; simp at q
  | cons e q t ih =>
    rintro j ⟨x, h1⟩
    cases j with
    | zero =>
      simp only [List.getElem?_cons_zero, Option.some.injEq] at h1
      cases h1
      simp only [setVal, List.modify_zero_cons]
      exact .cons rfl hv t
    | succ j =>
      simp only [setVal, List.modify_succ_cons]
      exact .cons e q (ih ⟨x, by simpa using h1⟩)

section
variable {w0 w : World} {φ : Ren} {l : Tmps} {s s' : St} {v : Value} {ρ : Operand → Value} {lo : Nat}

theorem opMakeMap_ok {t : TypeId} {r : Option Operand} (h : opMakeMap r l s = some (v, s')) (H : HR φ s.h w0 w) (hf : ∀ id, s.next ≤ id → id < s'.next → φ id = none) :
    Gives P w0 φ s.next s' v ((do pure (Next.value (← Instr.makeMap t (r.map ρ))) : Sem Next).run P w) := by
  unfold opMakeMap at h
  split at h
  case h_2 => cases h
  cases h
  have hn : φ s.next = none := hf _ (Nat.le_refl _) (Nat.lt_succ_self _)
  simp [Instr.makeMap, Result.andThen]
  exact ⟨upd φ s.next (w.heap.size, 0, 0), Ext.upd hn _, .map _ _ _ _ (upd_same _ _ _), H.mapNew hn rfl rfl rfl rfl⟩

theorem lookRes_ok {φ : Ren} {ok b : Bool} {v v' : Value} (h : VR φ v v') : VR φ (lookRes ok v b) (if ok = true then .tuple #[v', .bool b] else v') := by
  cases ok with
  | true => exact VR.tuple_of (VRL.cons h (VRL.cons (.bool b) (VRL.nil _)))
  | false => exact h

theorem opLookup_ok {t : TypeId} {x k : Operand} {ok : Bool} (h : opLookup P t x k ok l s = some (v, s')) (H : HR φ s.h w0 w) (hx : VR φ (evalO l x) (ρ x)) (hk : VR φ (evalO l k) (ρ k)) :
    Gives P w0 φ lo s' v ((do pure (Next.value (← Instr.lookup t (ρ x) (ρ k) ok)) : Sem Next).run P w) := by
  unfold opLookup lookupD at h
  split at h
  case h_2 => cases h
  rename_i kt e ht
  have ht : P.underlying t = some (.map kt e) := ht
  split at h
  case h_2 => cases h
  rename_i hc
  simp only [Bool.and_eq_true] at hc
  obtain ⟨c1, c2, c3⟩ := hc
  have hK := keyD_law c1
  rw [flat2_inv c2 hk]
  obtain ⟨kl, hkl⟩ := Option.isSome_iff_exists.1 c3
  unfold mapOf at h
  split at h
  case h_2 => cases h
  rename_i r hr
  obtain ⟨es, s1⟩ := r
  simp only at h
  split at h
  case h_2 => cases h
  rename_i v' hv
  cases h
  have main : ∀ (ms : List MapEntry), MapR φ es ms → ∃ y, VR φ v y ∧ ∀ em : Bool, (do
      Instr.checkKey em 10000 kt (evalO l k)
      let (v, b) ← match ← Instr.findKey kt (evalO l k) ms with
        | some (_, v) => pure (v, true)
        | none => pure (← zeroValue e, false)
      pure (if ok then .tuple #[v, .bool b] else v) : Sem Value).run P w = .ok y w := by
    intro ms hR
    unfold lookVal at hv
    split at hv
    · rename_i j hj
      have hfind := find_run hK c3 hj hR w
      obtain ⟨m, x0, f1, f2, f3, f4, f5⟩ := hfind
      rw [nth_eq, f2] at hv
      cases hv
      refine ⟨_, lookRes_ok (ok := ok) (b := true) f4, fun em => ?_⟩
      simp [hK.check w em hkl, f5, Result.andThen]
    · rename_i hj
      have hfind := find_run hK c3 hj hR w
      simp only at hfind
      split at hv
      case h_2 => cases hv
      rename_i z hz
      cases hv
      refine ⟨_, lookRes_ok (ok := ok) (b := false) (flat2_self (zeroOf_flat hz) φ), fun em => ?_⟩
      simp [hK.check w em hkl, hfind, zeroOf_run hz, Result.andThen]
    · cases hv
  split at hr
  case h_2 => cases hr
  rename_i a ha
  rw [ha] at hx
  split at hr
  · cases hr
    rw [mnil_inv hx]
    obtain ⟨y, h1, h2⟩ := main [] .nil
    refine gives_pure H h1 ?_
    have := h2 true
    simp only [Instr.lookup, Sem.run_bind, run_underlying ht, Result.andThen_ok, Sem.run_pure] at this ⊢
    exact this
  · rename_i id
    split at hr
    case h_2 => cases hr
    rename_i es' hg
    cases hr
    obtain ⟨b, sh, sz, ms, ck, M⟩ := H.maps _ _ hg
    obtain ⟨y, h1, h2⟩ := main ms.toList M.ent
    have hxe : ρ x = .map (some b) := mapv_inv hx M.at_
    rw [hxe]
    refine gives_pure (s := s.read id) H h1 ?_
    have := h2 ms.isEmpty
    simp only [Instr.lookup, Sem.run_bind, run_underlying ht, Result.andThen_ok, Sem.run_pure, MapKept.run_getObj_map M.blk] at this ⊢
    exact this

theorem opMapUpdate_ok {t : TypeId} {x k y : Operand} (h : opMapUpdate P t x k y l s = some (v, s')) (H : HR φ s.h w0 w) (hx : VR φ (evalO l x) (ρ x)) (hk : VR φ (evalO l k) (ρ k)) (hy : VR φ (evalO l y) (ρ y)) :
    Gives P w0 φ lo s' v ((do Instr.mapUpdate t (ρ x) (ρ k) (ρ y); pure Next.skip : Sem Next).run P w) := by
  unfold opMapUpdate updateD at h
  split at h
  case h_2 => cases h
  rename_i kt e id ht hxv
  have ht : P.underlying t = some (.map kt e) := ht
  split at h
  case h_2 => cases h
  rename_i hc
  simp only [Bool.and_eq_true] at hc
  obtain ⟨c1, c2, c3⟩ := hc
  have hK := keyD_law c1
  rw [flat2_inv c2 hk]
  obtain ⟨kl, hkl⟩ := Option.isSome_iff_exists.1 c3
  split at h
  case h_2 => cases h
  rename_i es hg
  split at h
  case h_2 => cases h
  rename_i es' hu
  cases h
  obtain ⟨b, sh, sz, ms, ck, M⟩ := H.maps _ _ hg
  rw [hxv] at hx
  have hxe : ρ x = .map (some b) := mapv_inv hx M.at_
  rw [hxe]
  unfold updEs at hu
  split at hu
  · rename_i j hj
    cases hu
    obtain ⟨m, x0, f1, f2, f3, f4, f5⟩ := find_run hK c3 hj M.ent w
    have hm : ms[j]? = some m := by simpa using f1
    have hrun : (do Instr.mapUpdate t (.map (some b)) (evalO l k) (ρ y); pure Next.skip : Sem Next).run P w = .ok .skip { w with heap := w.heap.setIfInBounds b (.map (ms.modify j fun e => { e with key := evalO l k, val := ρ y }) ck) } := by
      simp [Instr.mapUpdate, run_underlying ht, MapKept.run_getObj_map M.blk, hK.check w false hkl, f5, hm, f3, hK.stays w hkl, MapKept.run_setObj_map _ M.blk, Result.andThen]
    rw [hrun]
    refine ⟨φ, Ext.refl _ _ _, .any _, H.mapTurn hg M.at_ rfl rfl rfl rfl ?_⟩
    rw [Array.toList_modify]
    exact M.ent.set hy ⟨x0, f2⟩
  · rename_i hj
    cases hu
    have f5 := find_run hK c3 hj M.ent w
    simp only at f5
    have hrun : (do Instr.mapUpdate t (.map (some b)) (evalO l k) (ρ y); pure Next.skip : Sem Next).run P w = .ok .skip { w with heap := w.heap.setIfInBounds b (.map (ms.push { key := evalO l k, val := ρ y, born := ck }) (ck + 1)) } := by
      simp [Instr.mapUpdate, run_underlying ht, MapKept.run_getObj_map M.blk, hK.check w false hkl, f5, MapKept.run_setObj_map _ M.blk, Result.andThen]
    rw [hrun]
    refine ⟨φ, Ext.refl _ _ _, .any _, H.mapTurn hg M.at_ rfl rfl rfl rfl ?_⟩
    rw [Array.toList_push]
    exact M.ent.push rfl hy
  · cases hu

end
end Go.Det
