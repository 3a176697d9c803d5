/- A part of an evaluator of closed runs and of its soundness. -/
import Derived.Test.YtcjbddgeoiacoaaGreatDoorDetDraw3
namespace Go.Det
variable {P : Program}

/-- how many of the first k are listed -/
def cnt (listed : Array Bool) : Nat → Nat
  | 0 => 0
  | k + 1 => cnt listed k + (if listed.getD k false = true then 1 else 0)
theorem cnt_le (listed : Array Bool) : ∀ k, cnt listed k ≤ k
  | 0 => Nat.le_refl _
  | k + 1 => by have := cnt_le listed k; unfold cnt; split <;> omega
theorem cnt_all {listed : Array Bool} : ∀ {k : Nat}, cnt listed k = k → ∀ j, j < k → listed.getD j false = true
  | 0, _, j, hj => by omega
  | k + 1, h, j, hj => by
    have h1 := cnt_le listed k
    unfold cnt at h
    split at h
    · rename_i hk
      by_cases e : j = k
      · rw [e]; exact hk
      · exact cnt_all (k := k) (by omega) j (by omega)
    · omega
theorem getD_set (listed : Array Bool) (i j : Nat) (hi : i < listed.size) : (listed.setIfInBounds i true).getD j false = if j = i then true else listed.getD j false := by
  by_cases e : j = i
  · subst e; simp [Array.getD_eq_getD_getElem?, hi]
  · simp [Array.getD_eq_getD_getElem?, Array.getElem?_setIfInBounds_ne (Ne.symm e), e]
theorem cnt_set {listed : Array Bool} {i : Nat} (hi : i < listed.size) (hn : listed.getD i false = false) : ∀ k, cnt (listed.setIfInBounds i true) k = cnt listed k + (if i < k then 1 else 0)
  | 0 => by simp [cnt]
  | k + 1 => by
    unfold cnt
    rw [cnt_set hi hn k, getD_set _ _ _ hi]
    by_cases e : k = i
    · subst e; rw [hn]; simp
    · rw [if_neg e]
      by_cases q : i < k
      · have q' : i < k + 1 := by omega
        simp only [q, q', if_true]; omega
      · have q' : ¬ i < k + 1 := by omega
        simp only [q, q', if_false]; omega

section
variable {w0 : World} {n G : Nat} {call : Call} {ops : Array Oper} {fs : List Foot} {ss : List Soft} {L : Nat → Tmps} {S X : Nat → St} {V : Nat → Value} {φ0 : Ren}

theorem ready_mem {listed : Array Bool} {i : Nat} (h : i ∈ Region.ready .any ops listed) (hs : listed.size = ops.size) : ∃ o, Ready ops (fun j => listed.getD j false = true) i o := by
  unfold Region.ready at h
  rw [List.mem_filter, List.mem_range] at h
  obtain ⟨hi, h⟩ := h
  rw [Bool.and_eq_true] at h
  obtain ⟨h1, h2⟩ := h
  have ho : ops[i]? = some ops[i] := Array.getElem?_eq_getElem hi
  refine ⟨ops[i], by rw [Array.getElem?_toList]; exact ho, ?_, ?_⟩
  · intro hl
    have e : listed.getD i true = listed.getD i false := by simp [Array.getD_eq_getD_getElem?, hs ▸ hi]
    rw [e, hl] at h1
    simp at h1
  · intro e he hb
    rw [ho] at h2
    simp only [Option.map_some, Option.getD_some, Array.all_eq_true'] at h2
    have := h2 e (by simpa using he)
    rw [hb] at this
    simpa using this

theorem ready_of {listed : Array Bool} {i : Nat} {o : Oper} (R : Ready ops (fun j => listed.getD j false = true) i o) (hs : listed.size = ops.size) : i ∈ Region.ready .any ops listed := by
  have hi : i < ops.size := by have := R.lt; simpa using this
  unfold Region.ready
  rw [List.mem_filter, List.mem_range]
  refine ⟨hi, ?_⟩
  have ho : ops[i]? = some o := by rw [← Array.getElem?_toList]; exact R.op
  rw [Bool.and_eq_true]
  refine ⟨?_, ?_⟩
  · have e : listed.getD i true = listed.getD i false := by simp [Array.getD_eq_getD_getElem?, hs ▸ hi]
    rw [e]
    cases hl : listed.getD i false
    · rfl
    · exact absurd hl R.new
  · rw [ho]
    simp only [Option.map_some, Option.getD_some, Array.all_eq_true']
    intro e he
    cases hb : Region.binds .any e with
    | false => rfl
    | true => rw [R.edges e (by simpa using he) hb]; rfl

theorem all_listed (C : Ctx P w0 n G call ops fs ss L S X V φ0) {listed : Array Bool} (hs : listed.size = ops.size) (hr : Region.ready .any ops listed = []) : ∀ j, j < ops.toList.length → listed.getD j false = true := by
  intro j
  induction j using Nat.strongRecOn with
  | _ j ih =>
    intro hj
    obtain ⟨o, ho⟩ := opAt hj
    refine Classical.byContradiction fun hn => ?_
    have := ready_of (ops := ops) (i := j) (o := o) ⟨ho, hn, fun e he hb => ih e.on (C.T.edge ho he hb) (Nat.lt_trans (C.T.edge ho he hb) hj)⟩ hs
    rw [hr] at this
    cases this

theorem Ctx.final (C : Ctx P w0 n G call ops fs ss L S X V φ0) {E : Nat → Prop} {φ : Ren} {h : Heap} {l : Tmps} {a : Act} {w : World} (D : Done w0 n ops L S X V φ0 E φ h l a w)
    (hE : ∀ j, j < ops.toList.length → E j) : Ext φ0 φ (S 0).next (S ops.toList.length).next ∧ HR φ (S ops.toList.length).h w0 w ∧ Fr n φ (L ops.toList.length) a := by
  have hiff : ∀ j, E j ↔ j < ops.toList.length := fun j => ⟨D.inside j, hE j⟩
  refine ⟨⟨D.le, fun id hid => ?_⟩, D.hr.same (fun id cs t ro hg => ?_) (fun id es hg => ?_), ⟨D.fr.size, fun t => ?_, D.fr.defers⟩⟩
  · rcases D.new id hid with r | ⟨j, r1, r2, r3⟩
    · exact .inl r
    · right
      have hj := D.inside j r1
      have := C.xnext hj
      have := C.xhi hj (Nat.le_refl _)
      have := C.zero (Nat.le_of_lt hj)
      omega
  · rw [(D.bl id).unique (C.lastM id _ (Nat.le_refl _)) fun j _ => hiff j]; exact hg
  · rw [(D.bl id).unique (C.lastM id _ (Nat.le_refl _)) fun j _ => hiff j]; exact hg
  · rw [← (D.tm t).unique (C.lastT t _ (Nat.le_refl _)) fun j _ => hiff j]; exact D.fr.tmp t

theorem wpAny_ok (C : Ctx P w0 n G call ops fs ss L S X V φ0) {Q : Exit → Act → World → Prop}
    (hQ : ∀ φ a w, Ext φ0 φ (S 0).next (S ops.toList.length).next → HR φ (S ops.toList.length).h w0 w → Fr n φ (L ops.toList.length) a → Q .normal a w) :
    ∀ (fuel : Nat) (listed : Array Bool) (φ : Ren) (h : Heap) (l : Tmps) (a : Act) (w : World), listed.size = ops.size → ops.size ≤ cnt listed ops.size + fuel →
      Done w0 n ops L S X V φ0 (fun j => listed.getD j false = true) φ h l a w → wpAny P .any ops Q fuel listed a w
  | 0, listed, φ, h, l, a, w, hs, hc, D => by
    have hall : ∀ j, j < ops.toList.length → listed.getD j false = true := fun j hj => cnt_all (k := ops.size) (by have := cnt_le listed ops.size; omega) j (by simpa using hj)
    refine ⟨?_, ?_⟩
    · cases hr : Region.ready .any ops listed with
      | nil => rfl
      | cons i t =>
        obtain ⟨o, R⟩ := ready_mem (ops := ops) (i := i) (listed := listed) (by rw [hr]; simp) hs
        exact absurd (hall i R.lt) R.new
    · obtain ⟨e1, e2, e3⟩ := C.final D hall
      exact hQ φ a w e1 e2 e3
  | fuel + 1, listed, φ, h, l, a, w, hs, hc, D => by
    refine ⟨fun hr => ?_, fun i hi => ?_⟩
    · obtain ⟨e1, e2, e3⟩ := C.final D (all_listed C hs hr)
      exact hQ φ a w e1 e2 e3
    · obtain ⟨o, R⟩ := ready_mem hi hs
      have him : i < ops.size := by have := R.lt; simpa using this
      have hil : i < listed.size := hs ▸ him
      refine Done.step C D R fun φ' h' l' a' w' D' => ?_
      refine wpAny_ok C hQ fuel _ φ' h' l' a' w' (by simpa using hs) ?_ ?_
      · have hn : listed.getD i false = false := by
          cases hl : listed.getD i false
          · rfl
          · exact absurd hl R.new
        rw [cnt_set hil hn, if_pos him]; omega
      · have e : (fun j => j = i ∨ listed.getD j false = true) = (fun j => (listed.setIfInBounds i true).getD j false = true) := by
          funext j
          rw [getD_set _ _ _ hil]
          by_cases q : j = i
          · simp [q]
          · simp [q]
        rw [← e]; exact D'

theorem drawD_ok (hcall : CallOk P w0 G call) (hT : ∀ f args, Tr (call f args)) (hm : P.follows .mixedOrders = true) {ops : Array Oper} (hok : ∀ o ∈ ops.toList, okOper n G o = true) {Q : Exit → Act → World → Prop}
    {id : Nat} {l : Tmps} {s : St} {l' : Tmps} {s' : St} {φ : Ren} {a : Act} {w : World} (h : drawD P call ops.toList ops.toList [] [] l s = some (l', s')) (H : HR φ s.h w0 w) (hG : Glob G φ) (hF : Fr n φ l a)
    (hf : ∀ id, s.next ≤ id → id < s'.hi → φ id = none) (hi : Full s'.hi s)
    (k : ∀ φ' a' w', Ext φ φ' s.next s'.next → HR φ' s'.h w0 w' → Fr n φ' l' a' → Q .normal a' w') : (Code.region id ops true).wp P Q a w := by
  obtain ⟨fs, ss, L, S, X, V, T, e1, e2, e3, e4⟩ := drawD_trace _ _ _ _ _ _ _ h
  subst e1; subst e2; subst e3; subst e4
  have C : Ctx P w0 n G call ops fs ss L S X V φ := ⟨hcall, hT, T, hi, hf, hG, hok⟩
  refine wp_region_any hm (wpAny_ok C k ops.size _ φ (S 0).h (L 0) a _ (by simp) (by omega) ?_)
  have hno : ∀ j, ¬ ((Array.replicate ops.size false).getD j false = true) := by
    intro j
    by_cases hj : j < ops.size <;> simp [Array.getD_eq_getD_getElem?, hj]
  exact ⟨H.drawn _, hF, fun t => .inr ⟨fun j hj => absurd hj (hno j), rfl⟩, fun id => .inr ⟨fun j hj => absurd hj (hno j), rfl⟩, Le.refl _, fun id h => .inl h, fun j hj => absurd hj (hno j), fun j _ _ hj => absurd hj (hno j)⟩

end
end Go.Det
