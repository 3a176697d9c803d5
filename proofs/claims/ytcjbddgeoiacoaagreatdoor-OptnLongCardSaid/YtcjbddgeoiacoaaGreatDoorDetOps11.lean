/- A part of an evaluator of closed runs and of its soundness. -/
import Derived.Test.YtcjbddgeoiacoaaGreatDoorDetOps10
namespace Go.Det
variable {P : Program}
section
variable {w0 w : World} {φ : Ren} {l : Tmps} {s s' : St} {v : Value} {ρ : Operand → Value} {lo : Nat}

theorem gives_next {m : Sem Next} {m' : Sem Value} (h : m = (do pure (Next.value (← m')))) (g : Gives P w0 φ lo s' v ((do pure (Next.value (← m')) : Sem Next).run P w)) : Gives P w0 φ lo s' v (m.run P w) := by rw [h]; exact g

theorem lenB_ok {ts : Array TypeId} {type t : TypeId} {rest : List TypeId} {x : Value} {args : List Value} {args' : Array Value} {n : Nat} (ha : ts.toList = t :: rest) (h : lenB P (P.underlying t) x = some n)
    (hx : VRL φ (x :: args) args'.toList) (w : World) : (Builtin.len_ ts type args').run P w = .ok (.int .i64 n) w := by
  obtain ⟨x', t', e, hx', _⟩ := hx.head
  have h0 := toList_head ha
  have h1 := toList_head e
  unfold lenB at h
  split at h
  · rename_i hu
    split at h
    · cases h
      have := string_inv hx'
      subst this
      simp [Builtin.len_, h0, h1, run_underlying hu, goInt]
    · cases h
  · rename_i el hu
    split at h
    · cases h
      rcases slice_inv hx' with ⟨_, a', rfl, _⟩ | ⟨_, _, _, _, _, _, _, _, _, _, _, _, _, rfl⟩ <;> simp [Builtin.len_, h0, h1, run_underlying hu, goInt]
    · cases h
      obtain ⟨a, c, rfl⟩ := emp_inv hx'
      simp [Builtin.len_, h0, h1, run_underlying hu, goInt]
    · cases h
  · rename_i k el hu
    split at h
    · cases h
      have := mnil_inv hx'
      subst this
      simp [Builtin.len_, h0, h1, run_underlying hu, goInt]
    · cases h
  · rename_i m el hu
    cases h
    simp [Builtin.len_, h0, h1, run_underlying hu, goInt]
  · rename_i arr hu
    unfold typ at h
    split at h
    · rename_i m el hu2
      cases h
      simp [Builtin.len_, h0, h1, run_underlying hu, run_underlying hu2, goInt]
    · cases h
  · cases h

theorem capB_ok {ts : Array TypeId} {type t : TypeId} {rest : List TypeId} {x : Value} {args : List Value} {args' : Array Value} {n : Nat} (ha : ts.toList = t :: rest) (h : capB (P.underlying t) x = some n)
    (hx : VRL φ (x :: args) args'.toList) (w : World) : (Builtin.cap_ ts type args').run P w = .ok (.int .i64 n) w := by
  obtain ⟨x', t', e, hx', _⟩ := hx.head
  have h0 := toList_head ha
  have h1 := toList_head e
  unfold capB at h
  split at h
  · rename_i el hu
    split at h
    · rename_i a k c
      split at h
      · cases h
      · rename_i hc
        cases h
        have hc : n < capU := by simpa using hc
        rcases slice_inv hx' with ⟨_, a', rfl, _⟩ | ⟨_, _, _, _, _, es, _, _, q, _, _, _, _, _⟩
        · simp [Builtin.cap_, h0, h1, run_underlying hu, goInt]
        · omega
    · cases h
  · cases h

theorem clearD_ok {argTypes : Array TypeId} {type : TypeId} {args : List Value} {args' : Array Value} {r : Value × St} (h : clearD P s argTypes args = some r) (H : HR φ s.h w0 w)
    (hx : VRL φ args args'.toList) :
    Gives P w0 φ lo r.2 r.1 ((do pure (Next.value (← Builtin.clear_ argTypes type args')) : Sem Next).run P w) ∧ r.2.next = s.next := by
  unfold clearD typ at h
  split at h
  case h_2 => cases h
  rename_i dT x ha
  split at h
  case h_2 => cases h
  rename_i elem hu
  obtain ⟨x', e, hx'⟩ := hx.one
  have e2 : args' = #[x'] := by apply Array.ext'; simpa using e
  subst e2
  have h0 : argTypes[0]? = some dT := toList_head ha
  have h1 : (#[x'] : Array Value)[0]? = some x' := rfl
  split at h
  · cases h
    obtain ⟨a, c, rfl⟩ := emp_inv hx'
    refine ⟨gives_of (w' := w) (v' := .tuple #[]) ?_ (Ext.refl _ _ _) (.any _) H, rfl⟩
    cases a <;> simp [Builtin.clear_, h0, run_underlying hu]
  · rename_i base n c
    split at h
    · cases h
      refine ⟨gives_of (w' := w) (v' := .tuple #[]) ?_ (Ext.refl _ _ _) (.any _) H, rfl⟩
      rcases slice_inv hx' with ⟨_, a', rfl, _⟩ | ⟨_, _, _, _, _, _, c', _, _, _, _, _, _, rfl⟩
      · cases a' <;> simp [Builtin.clear_, h0, run_underlying hu]
      · simp [Builtin.clear_, h0, run_underlying hu]
    · rename_i m
      split at h
      case h_2 => cases h
      rename_i z hz
      unfold clearTo at h
      split at h
      case h_2 => cases h
      rename_i id off ho
      split at h
      case h_2 => cases h
      rename_i cs e hg
      split at h
      case h_2 => cases h
      rename_i c2 hp
      cases h
      obtain ⟨b, sh, sz, c0, fz, k⟩ := H.cells _ _ _ _ hg
      obtain ⟨ie, e1, _, e3, _⟩ := zeroOf_info hz
      have hrel : VRL φ (repeatL (cellsOfV z) (m + 1)) (Builtin.zeroCells z.cells (m + 1)).toList := by
        have := zero_row hz e1 φ (m + 1)
        have hlen : z.cells.size = ie.size := by have := (zero_cells hz φ).1; simp at this; omega
        unfold Builtin.zeroCells
        rw [hlen]
        rw [hlen] at this
        exact this
      obtain ⟨q1, q2⟩ := storeCells_ok (P := P) H hg k hp ho hrel
      have hx2 : ∃ c', x' = .slice (some ⟨b, sh + off, none⟩) (m + 1) c' := by
        rcases slice_inv hx' with ⟨_, a', rfl, k2⟩ | ⟨id2, off2, b2, sh2, sz2, es, c', k0, _, hat, _, _, _, rfl⟩
        · rcases k2 with ⟨k2, _⟩ | ⟨id2, off2, b2, sh2, sz2, k1, hat, rfl⟩
          · cases k2
          · cases k1
            rw [k.at_] at hat; cases hat
            exact ⟨_, rfl⟩
        · cases k0
          rw [k.at_] at hat; cases hat
          exact ⟨_, rfl⟩
      obtain ⟨c', rfl⟩ := hx2
      refine ⟨gives_of (w' := w.setCells b (sh + off) (Builtin.zeroCells z.cells (m + 1)).toList) (v' := .tuple #[]) ?_ (Ext.refl _ _ _) (.any _) q2, rfl⟩
      simp [Builtin.clear_, h0, run_underlying hu, zeroOf_run hz, Result.andThen, q1]
  · cases h

/-- What an operation that calls comes to is known of the calls. -/
theorem opBuiltin_ok {b : Builtin} {ts : Array TypeId} {type : TypeId} {xs : Array Operand} {consts : Array Bool} (h : opBuiltin P b ts type xs l s = some (v, s')) (H : HR φ s.h w0 w) (hf : ∀ id, s.next ≤ id → id < s'.next → φ id = none)
    (hx : ∀ x ∈ xs.toList, VR φ (evalO l x) (ρ x)) : Gives P w0 φ s.next s' v ((builtin b ts type consts (xs.map ρ)).run P w) ∧ s.next ≤ s'.next := by
  have hL : VRL φ (evalL l xs.toList) (xs.map ρ).toList := by rw [Array.toList_map]; exact evalL_ok hx
  unfold opBuiltin builtinD at h
  split at h
  · exact appendD_ok h H hL hf
  · obtain ⟨g, e⟩ := copyD_ok (P := P) (type := type) (lo := s.next) h H hL; exact ⟨g, Nat.le_of_eq e.symm⟩
  · obtain ⟨g, e⟩ := clearD_ok (P := P) (type := type) (lo := s.next) h H hL; exact ⟨g, Nat.le_of_eq e.symm⟩
  · split at h
    · rename_i t rest x args ha he
      rw [he] at hL
      unfold ofN typ at h
      split at h
      · rename_i n hn
        cases h
        exact ⟨gives_of (w' := w) (v' := .int .i64 n) (lenB_ok ha hn hL w) (Ext.refl _ _ _) (.int _ _) H, Nat.le_refl _⟩
      · cases h
    · cases h
  · split at h
    · rename_i t rest x args ha he
      rw [he] at hL
      unfold ofN typ at h
      split at h
      · rename_i n hn
        cases h
        exact ⟨gives_of (w' := w) (v' := .int .i64 n) (capB_ok ha hn hL w) (Ext.refl _ _ _) (.int _ _) H, Nat.le_refl _⟩
      · cases h
    · cases h
  · unfold sliceDataD at h
    split at h
    · rename_i a n c he
      rw [he] at hL
      obtain ⟨x', e, hx'⟩ := hL.one
      have e2 : xs.map ρ = #[x'] := by apply Array.ext'; simpa using e
      rw [e2]
      split at h
      · cases h
        have := snil_inv hx'
        subst this
        exact ⟨gives_of (w' := w) (v' := .pointer none) (Lib.run_unsafeSliceData_nil w ts type n c) (Ext.refl _ _ _) .pnil H, Nat.le_refl _⟩
      · rename_i a
        split at h
        · rename_i hU
          have hU : capU ≤ c := by simpa using hU
          split at h
          case isFalse => cases h
          rename_i hc
          cases h
          have hc : 1 ≤ n := by simpa using hc
          rcases slice_inv hx' with ⟨q, a', rfl, k⟩ | ⟨id, off, b, sh, sz, es, c', k0, rfl, hat, _, _, k, rfl⟩
          · omega
          · cases k0
            exact ⟨gives_of (w' := w) (v' := .pointer (some ⟨b, sh + off, none⟩)) (Lib.run_unsafeSliceData_row w ts type _ n c' (by omega)) (Ext.refl _ _ _) (.ptr _ _ _ _ _ hat) H, Nat.le_refl _⟩
        · rename_i hU
          have hU : ¬ capU ≤ c := by simpa using hU
          split at h
          case isFalse => cases h
          rename_i hc
          cases h
          have hc : 1 ≤ c := by simpa using hc
          rcases slice_inv hx' with ⟨q, a', rfl, k⟩ | ⟨id, off, b, sh, sz, es, c', k0, rfl, hat, _, _, k, rfl⟩
          · rcases k with ⟨k, _⟩ | ⟨id, off, b, sh, sz, k1, hat, rfl⟩
            · cases k
            · cases k1
              exact ⟨gives_of (w' := w) (v' := .pointer (some ⟨b, sh + off, none⟩)) (Lib.run_unsafeSliceData_row w ts type _ n c (by omega)) (Ext.refl _ _ _) (.ptr _ _ _ _ _ hat) H, Nat.le_refl _⟩
          · omega
    · cases h
  · split at h
    · rename_i pt rest ha
      obtain ⟨g, e⟩ := unsafeString_ok (P := P) (type := type) (lo := s.next) ha h H hL; exact ⟨g, Nat.le_of_eq e.symm⟩
    · cases h
  all_goals first
    | (unfold minMaxD at h
       split at h
       · rename_i hfl
         split at h
         · rename_i r hr
           split at h
           · rename_i hfr
             cases h
             have e := flat2L_inv hfl hL
             have e2 : xs.map ρ = (evalL l xs.toList).toArray := by apply Array.ext'; simpa using e
             refine ⟨?_, Nat.le_refl _⟩
             have := pureRun_run hr w
             rw [e2]
             refine (show Gives P w0 φ s.next s v (Result.ok (Next.value v) w) from ⟨φ, Ext.refl _ _ _, flat_self hfr φ, H⟩) |> fun g => ?_
             rw [← this] at g
             exact g
           · cases h
         · cases h
       · cases h)
    | cases h

end
end Go.Det
