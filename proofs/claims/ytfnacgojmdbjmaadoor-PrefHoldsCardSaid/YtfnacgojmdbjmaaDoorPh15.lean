/- Texts of a proof, joined: words of the print (those that are named here) and printed functions. -/
import Derived.Test.YtfnacgojmdbjmaaDoorPh14

section
/- Rows of groups: the printed functions (row, zeros, text), as contracts of calls in W. No conditions. -/
namespace Go.Det
/-- so many numbers, each unknown -/
def exN : Nat → (List Int → Prop) → Prop
  | 0, k => k []
  | n + 1, k => ∃ x : Int, exN n fun l => k (x :: l)
theorem exN_intro {k : List Int → Prop} : ∀ {n : Nat} {l : List Int}, l.length = n → k l → exN n k
  | 0, [], _, h => h
  | n + 1, x :: t, e, h => ⟨x, exN_intro (n := n) (l := t) (by simpa using e) h⟩
  | 0, _ :: _, e, _ => by simp at e
  | _ + 1, [], e, _ => by simp at e
theorem exN_some {k : List Int → Prop} : ∀ {n : Nat}, exN n k → ∃ l, l.length = n ∧ k l
  | 0, h => ⟨[], rfl, h⟩
  | n + 1, h => by
    obtain ⟨x, h⟩ := h
    obtain ⟨l, e, h⟩ := exN_some (n := n) h
    exact ⟨x :: l, by simp [e], h⟩
/-- one of these -/
def oneOf {α : Type} : List α → (α → Prop) → Prop
  | [], _ => False
  | x :: t, k => k x ∨ oneOf t k
theorem oneOf_some {α : Type} {k : α → Prop} : ∀ {l : List α}, oneOf l k → ∃ x ∈ l, k x
  | [], h => h.elim
  | x :: t, h => by
    rcases h with h | h
    · exact ⟨x, List.mem_cons_self, h⟩
    · obtain ⟨y, h1, h2⟩ := oneOf_some h
      exact ⟨y, List.mem_cons_of_mem _ h1, h2⟩
theorem oneOf_intro {α : Type} {k : α → Prop} : ∀ {l : List α} {x : α}, x ∈ l → k x → oneOf l k
  | y :: t, x, h, hk => by
    rcases List.mem_cons.1 h with rfl | h
    · exact .inl hk
    · exact .inr (oneOf_intro h hk)

/-- as `Con.reads`, but the answer is one of these -/
noncomputable def Con.readsS {β γ δ : Type} (shapes : List δ) (d : Value → Option β) (dr : List Value → Option γ) (F : List β → γ → Option δ) (enc : δ → Value) : Con where
  own := readD d dr F enc
  w := fun args s K => match args with
    | v :: rest => (match isSl v with
      | true => (match dr rest with
        | some g => (match lenD v with
          | some n => (match srcCells s 1 n v with
            | some x => (match decL d x.1 with
              | some l => oneOf shapes fun r => F l g = some r ∧ K (enc r) x.2
              | none => False)
            | none => False)
          | none => False)
        | none => False)
      | false => False)
    | [] => False
  ok := by
    intro args s K h
    unfold readD
    split at h
    case h_2 => exact h.elim
    split at h
    case h_2 => exact h.elim
    rename_i h1
    split at h
    case h_2 => exact h.elim
    rename_i g h2
    split at h
    case h_2 => exact h.elim
    rename_i n h3
    split at h
    case h_2 => exact h.elim
    rename_i x h4
    split at h
    case h_2 => exact h.elim
    rename_i l h5
    obtain ⟨r, hm, hr, hk⟩ := oneOf_some h
    exact ⟨enc r, x.2, by simp only [h1, h2, h3, h4, h5, hr], hk, fun K' k => oneOf_intro hm ⟨hr, k⟩⟩
  mono := by
    intro args s K K' k h
    split at h
    case h_2 => exact h.elim
    split at h
    case h_2 => exact h.elim
    rename_i h1
    split at h
    case h_2 => exact h.elim
    rename_i g h2
    split at h
    case h_2 => exact h.elim
    rename_i n h3
    split at h
    case h_2 => exact h.elim
    rename_i x h4
    split at h
    case h_2 => exact h.elim
    rename_i l h5
    obtain ⟨r, hm, hr, hk⟩ := oneOf_some h
    first | exact oneOf_intro hm ⟨hr, k _ _ hk⟩ | (simp only [*]; exact oneOf_intro hm ⟨hr, k _ _ hk⟩)

noncomputable def decSL : List Value → Option (ByteArray × Bool)
  | [.string t, .bool last] => some (t, last)
  | _ => none
theorem decSL_enc {args : List Value} {a : ByteArray × Bool} (h : decSL args = some a) : args = [.string a.1, .bool a.2] := by
  unfold decSL at h
  split at h
  case h_2 => cases h
  cases h; rfl
/-- a row of numbers of its own, and whether it is one; of no text: nothing -/
noncomputable def rowD (F : ByteArray × Bool → Option (List Int × Bool)) (e : TypeId) (args : List Value) (s : St) : Option (Value × St) :=
  match decSL args with
  | some a => (match F a with
    | some r => (match a.1.data.toList with
      | [] => some (.tuple #[.slice none 0 0, .bool r.2], s)
      | _ :: _ => (match r.1 with
        | [] => some (.tuple #[emp, .bool r.2], s)
        | _ :: _ => some (.tuple #[.slice (some ⟨s.next, 0, none⟩) r.1.length (capU + 1), .bool r.2], s.new (.cells (r.1.map (Value.int .u64)) (2 * e) false))))
    | none => none)
  | none => none
theorem rowD_tr (F : ByteArray × Bool → Option (List Int × Bool)) (e : TypeId) (args : List Value) : Tr (rowD F e args) := by
  cases h1 : decSL args with
  | none => exact pure_tr none fun s => by unfold rowD; simp only [h1]
  | some a =>
    cases h2 : F a with
    | none => exact pure_tr none fun s => by unfold rowD; simp only [h1, h2]
    | some r =>
      cases h3 : a.1.data.toList with
      | nil => exact pure_tr (some (.tuple #[.slice none 0 0, .bool r.2])) fun s => by unfold rowD; simp only [h1, h2, h3]
      | cons x t =>
        cases h4 : r.1 with
        | nil => exact pure_tr (some (.tuple #[emp, .bool r.2])) fun s => by unfold rowD; simp only [h1, h2, h3, h4]
        | cons y u => exact new_tr (some (Blk.cells (r.1.map (Value.int .u64)) (2 * e) false, fun k => .tuple #[.slice (some ⟨k, 0, none⟩) r.1.length (capU + 1), .bool r.2])) fun s => by unfold rowD; simp only [h1, h2, h3, h4]

/-- the row's shape is known: `n` numbers (no text: none), and it is one; `t`: of the last row, `h`: of the other -/
noncomputable def Con.rowS (F : ByteArray × Bool → Option (List Int × Bool)) (e : TypeId) (h t : Nat) : Con where
  own := rowD F e
  w := fun args s K => match decSL args with
    | some a => (match (match a.2 with | true => t | false => h) with
      | 0 => a.1.data.toList = [] ∧ (F a = some ([], true) ∧ K (.tuple #[.slice none 0 0, .bool true]) s)
      | n + 1 => a.1.data.toList ≠ [] ∧ exN (n + 1) fun l => F a = some (l, true) ∧ K (.tuple #[.slice (some ⟨s.next, 0, none⟩) (n + 1) (capU + 1), .bool true]) (s.new (.cells (l.map (Value.int .u64)) (2 * e) false)))
    | none => False
  ok := by
    intro args s K h
    unfold rowD
    split at h
    case h_2 => exact h.elim
    rename_i a h1
    split at h
    · rename_i hn
      obtain ⟨h2, h3, hk⟩ := h
      exact ⟨_, _, by simp only [h1, h3, h2], hk, fun K' k => by (try simp only [h1, hn]); exact ⟨h2, h3, k⟩⟩
    · rename_i n hn
      obtain ⟨h2, h⟩ := h
      obtain ⟨l, hl, h3, hk⟩ := exN_some h
      cases hl2 : a.1.data.toList with
      | nil => exact absurd hl2 h2
      | cons x u =>
        cases l with
        | nil => simp at hl
        | cons y v =>
          refine ⟨_, _, by simp only [h1, h3, hl2]; rfl, by rw [hl]; exact hk, fun K' k => ?_⟩
          rw [hl] at k
          try simp only [h1, hn]
          exact ⟨by simp, exN_intro hl ⟨h3, k⟩⟩
  mono := by
    intro args s K K' k h
    split at h
    case h_2 => exact h.elim
    rename_i a h1
    split at h
    · rename_i hn
      try simp only [h1, hn]
      exact ⟨h.1, h.2.1, k _ _ h.2.2⟩
    · rename_i n hn
      obtain ⟨h2, h⟩ := h
      obtain ⟨l, hl, h3, hk⟩ := exN_some h
      try simp only [h1, hn]
      exact ⟨h2, exN_intro hl ⟨h3, k _ _ hk⟩⟩
/-- nothing is known of the row's shape -/
noncomputable def Con.rowB (F : ByteArray × Bool → Option (List Int × Bool)) (e : TypeId) : Con where
  own := rowD F e
  w := fun args s K => match decSL args with
    | some a => ∃ r : List Int × Bool, F a = some r ∧ ((a.1.data.toList = [] ∧ K (.tuple #[.slice none 0 0, .bool r.2]) s) ∨ ((a.1.data.toList ≠ [] ∧ (r.1 = [] ∧ K (.tuple #[emp, .bool r.2]) s)) ∨ (a.1.data.toList ≠ [] ∧ (r.1 ≠ [] ∧ K (.tuple #[.slice (some ⟨s.next, 0, none⟩) r.1.length (capU + 1), .bool r.2]) (s.new (.cells (r.1.map (Value.int .u64)) (2 * e) false))))))
    | none => False
  ok := by
    intro args s K h
    unfold rowD
    split at h
    case h_2 => exact h.elim
    rename_i a h1
    obtain ⟨r, h2, h | h | h⟩ := h
    · exact ⟨_, _, by simp only [h1, h2, h.1], h.2, fun K' k => by (try simp only [h1]); exact ⟨r, h2, .inl ⟨h.1, k⟩⟩⟩
    · cases hl : a.1.data.toList with
      | nil => exact absurd hl h.1
      | cons x t => exact ⟨_, _, by simp only [h1, h2, hl, h.2.1], h.2.2, fun K' k => by (try simp only [h1]); exact ⟨r, h2, .inr (.inl ⟨by simp, h.2.1, k⟩)⟩⟩
    · cases hl : a.1.data.toList with
      | nil => exact absurd hl h.1
      | cons x t => cases hr : r.1 with
        | nil => exact absurd hr h.2.1
        | cons y u =>
          refine ⟨_, _, by simp only [h1, h2, hl, hr]; rfl, by rw [← hr]; exact h.2.2, fun K' k => ?_⟩
          rw [← hr] at k
          try simp only [h1]
          exact ⟨r, h2, .inr (.inr ⟨by simp, h.2.1, k⟩)⟩
  mono := by
    intro args s K K' k h
    split at h
    case h_2 => exact h.elim
    rename_i a h1
    obtain ⟨r, h2, h | h | h⟩ := h
    · (try simp only [h1]); exact ⟨r, h2, .inl ⟨h.1, k _ _ h.2⟩⟩
    · (try simp only [h1]); exact ⟨r, h2, .inr (.inl ⟨h.1, h.2.1, k _ _ h.2.2⟩)⟩
    · (try simp only [h1]); exact ⟨r, h2, .inr (.inr ⟨h.1, h.2.1, k _ _ h.2.2⟩)⟩
/-- The entry is kept: by what the call comes to, and by a closed entry at no text. -/
theorem own_rowD {P : Program} {W : World} {G : Nat} {Gd : World → Prop} {f : FuncId} {fn : Func} {c : Code} {F : ByteArray × Bool → Option (List Int × Bool)} {e : TypeId} {g : Own}
    (hW : ∀ w, Later W w → Gd w) (hf : P.funcs[f]? = some fn) (hb : fn.body = some c) (hnm : (fn.name == "runtime.NumGoroutine") = false)
    (hE : OwnAll P W G f g) (hg : ∀ last r s, F (⟨⟨[]⟩⟩, last) = some r → g [.string ⟨⟨[]⟩⟩, .bool last] s = some (.tuple #[.slice none 0 0, .bool r.2], s))
    (h : ∀ t last r, F (t, last) = some r → ∀ w, Gd w → Calls P f #[.string t, .bool last] w fun z w' => ∃ v, z = .returned (.tuple #[v, .bool r.2]) ∧ (w'.os = w.os ∧ w'.tape = w.tape ∧ w'.output = w.output ∧ w.heap.size ≤ w'.heap.size ∧ ∀ j, j < w.heap.size → w'.heap[j]? = w.heap[j]?) ∧ w'.ownsRow w.heap.size e 1 v r.1.length (r.1.map (Value.int .u64))) :
    OwnAll P W G f (rowD F e) := by
  refine ⟨rowD_tr F e, fun W1 k1 args s v s' ed φ w args' H hGl hA hfr hfull => ?_⟩
  unfold rowD at ed
  split at ed
  case h_2 => cases ed
  rename_i a h1
  obtain rfl := decSL_enc h1
  split at ed
  case h_2 => cases ed
  rename_i r h2
  obtain ⟨t, last⟩ := a
  split at ed
  · rename_i h3
    cases ed
    have ht : t = ⟨⟨[]⟩⟩ := by
      obtain ⟨⟨l⟩⟩ := t
      have : l = [] := h3
      rw [this]
    subst ht
    exact hE.2 W1 k1 _ _ _ _ (hg last r s h2) φ w args' H hGl hA hfr hfull
  · have kw : Later W w := k1.trans H.later
    rw [flat2L_inv (show flat2L [.string t, .bool last] = true from rfl) hA, callFunc_run hf hb hnm]
    have hc := h t last r h2 w (hW w kw)
    split at ed
    · rename_i h4
      cases ed
      refine Calls.mono hc ?_
      rintro z W' ⟨v, rfl, hB, hl, ho⟩
      refine ⟨_, φ, rfl, Ext.refl _ _ _, VR.tuple_of ⟨rfl, fun i => ?_⟩, H.keep ⟨hB.1, hB.2.2.1, hB.2.2.2.1, hB.2.2.2.2⟩ hB.2.1⟩
      match i with
      | 0 =>
        rw [h4] at ho
        rcases ho with ⟨rfl, _⟩ | ⟨g, cap, cur, rfl, _⟩
        · exact VR.emp none 0 (by intro x hx; cases hx)
        · exact VR.emp _ cap (by intro x hx; cases hx; rfl)
      | 1 => exact VR.bool _
      | n + 2 => exact VR.any _
    · rename_i x u h4
      cases ed
      refine Calls.mono hc ?_
      rintro z W' ⟨v, rfl, hB, hl, ho⟩
      rcases ho with ⟨_, ho⟩ | ⟨g, cap, cur, rfl, hg', hblk, hcap, _, hsz, hcur⟩
      · rw [h4] at ho; simp at ho
      have hnew : φ s.next = none := hfr s.next (Nat.le_refl _) (by show s.next < Nat.max s.hi (s.next + 1); exact Nat.lt_of_lt_of_le (Nat.lt_succ_self _) (Nat.le_max_right _ _))
      rw [Nat.mul_one] at hsz hl hcur
      refine ⟨_, upd φ s.next (g, 0, cur.size), rfl, Ext.upd hnew _, VR.tuple_of ⟨rfl, fun i => ?_⟩, ?_⟩
      · match i with
        | 0 => exact VR.sliceU (φ := upd φ s.next (g, 0, cur.size)) s.next 0 g 0 cur.size r.1.length cap 1 (upd_same _ _ _) (by decide) (by omega) hcap
        | 1 => exact VR.bool _
        | n + 2 => exact VR.any _
      · refine H.adopt (w' := W') hnew hB.1 hB.2.2.1 hB.2.1 hB.2.2.2.1 (fun j hj _ => hB.2.2.2.2 j hj) (Nat.le_trans H.size hg') (fz := (0, 0)) (c := cur) (by rw [half0]; exact hblk) (fun _ => rfl) ?_ rfl ?_ (fun i hi => ?_) (fun _ o _ => by simp) (fun O q => by rw [Array.getElem?_eq_none hg'] at q; cases q)
        · intro j cj ej rj bj sj zj _ a'
          have := H.dom _ _ _ _ a'
          omega
        · rw [hl, hsz]; omega
        · have hv : (r.1.map (Value.int .u64)).getD i und = cur.getD i und := by
            rw [← hcur, List.getD_eq_getElem?_getD, Array.getD_eq_getD_getElem?, List.getElem?_take, if_pos (by rw [← hl]; exact hi)]
            simp
          rw [Nat.zero_add, hv]
          refine flat_self ?_ _
          rw [← hv, List.getD_eq_getElem?_getD, List.getElem?_eq_getElem hi]
          have hm := List.getElem_mem hi
          obtain ⟨y, _, hy⟩ := List.mem_map.1 hm
          simp only [Option.getD_some]
          rw [← hy]; rfl
end Go.Det
end

section
/- Conditions, reckoned by the kernel. -/
namespace Go.Proofs.YtfnacgojmdbjmaaDoor
open Go.Det Go.RowKit  Go.Proofs.YtfnacgojmdbjmaaDoorW.PrintWords
set_option maxRecDepth 100000

theorem vr0 (l : Bool) (Q : Value → Prop) : codeU Tryd.prog (cwC []) ox0 0 (bodyOf Tryd.f75) (inTab [.string ⟨⟨[]⟩⟩, .bool l] 8) (birth [] 64) (retW Tryd.prog Tryd.f75 fun v _ => Q v) = (bifW (cdec (Array.toList (ByteArray.data { data := { toList := [] } }) = Array.toList (ByteArray.data { data := #[] }))) (Q (Value.tuple #[Value.slice Option.none 0 0, Value.bool Bool.true])) (False)) := by kernel_rfl

end Go.Proofs.YtfnacgojmdbjmaaDoor
end

section
/- Rows of groups: row, zeros, text as contracts of calls in W. No conditions. -/
namespace Go.Proofs.YtfnacgojmdbjmaaDoor
open Go.Det Go.RowKit Go.Proofs.YtfnacgojmdbjmaaDoorW.PrintWords Go.Proofs.YtfnacgojmdbjmaaDoor.PPH
set_option maxRecDepth 100000

theorem reps_map {α : Type} {R : α → List Value → Prop} {enc : α → Value} (hR : ∀ p c, R p c → c = [enc p]) : ∀ {ps : List α} {cs : List Value}, Reps R 1 ps cs → cs = ps.map enc
  | [], cs, h => by
    have := h.1
    simp at this
    simpa using this
  | x :: t, cs, h => by
    have h0 := hR _ _ (h.2 0 x rfl)
    rw [Nat.zero_mul, List.drop_zero] at h0
    have ht : Reps R 1 t (cs.drop 1) := by
      refine ⟨by rw [List.length_drop, h.1, List.length_cons, Nat.succ_mul]; omega, fun j p hj => ?_⟩
      have := h.2 (j + 1) p (by simpa using hj)
      rw [List.drop_drop, show 1 + j * 1 = (j + 1) * 1 by omega]
      exact this
    rw [List.map_cons, ← reps_map hR ht]
    conv => lhs; rw [← List.take_append_drop 1 cs, h0]
    rfl

/-! addr.row -/
def rowF (x : ByteArray × Bool) : Option (List Int × Bool) := addr_row.f 1000 x.1 x.2
noncomputable def decE : List Value → Option Bool
  | [.string ⟨⟨[]⟩⟩, .bool l] => some l
  | _ => none
theorem decE_enc {args : List Value} {a : Bool} (h : decE args = some a) : args = [.string ⟨⟨[]⟩⟩, .bool a] := by
  unfold decE at h
  split at h
  case h_2 => cases h
  cases h; rfl
noncomputable def con75e : Con := Con.flat decE (fun _ => true) fun _ => .tuple #[.slice none 0 0, .bool true]
theorem om75e {W : World} (hW : GoodW W) : OwnAll Tryd.prog W 6 75 con75e.own :=
  con_flat (fun l : Bool => [.string ⟨⟨[]⟩⟩, .bool l]) (Laying.empty hW.size) hW.size (by decide) dt_mixed (l := []) (ownsAll_nil W 6) Tryd.func75 (fn := Tryd.f75) (c := bodyOf Tryd.f75) (by kernel_rfl) (by kernel_rfl) (fun _ _ h => decE_enc h) (fun a => ⟨rfl, rfl, (by kernel_rfl)⟩) fun a _ =>
    codeU_codeW (cwC_mono _) ox0_ok (by kernel_rfl) ((vr0 a _).mpr (bifW_t rfl rfl))
theorem rowE {l : Bool} {r : List Int × Bool} (h : rowF (⟨⟨[]⟩⟩, l) = some r) : r = ([], true) := by
  unfold rowF addr_row.f at h
  rw [if_pos (show ByteArray.toList ⟨⟨[]⟩⟩ = [] by rw [ByteArray.toList_eq])] at h
  cases h; rfl
theorem om75 {W : World} (hW : GoodW W) : OwnAll Tryd.prog W 6 75 (rowD rowF 27) :=
  own_rowD (fn := Tryd.f75) (c := bodyOf Tryd.f75) (Gd := GoodW) (g := con75e.own) (fun w k => hW.later k.size k.old) Tryd.func75 (by kernel_rfl) (by kernel_rfl) (om75e hW)
    (fun last r s h => by cases rowE h; rfl)
    fun t last r h w hG => (addr_row.calls 1000 t last r.1 r.2 w hG h).mono (by
      rintro e w' ⟨v, rfl, hR, hB⟩
      obtain ⟨_, inner, ho, hreps⟩ := hR
      obtain rfl := reps_map (enc := Value.int .u64) (fun p c h => h) hreps
      exact ⟨v, rfl, ⟨hB.os, hB.tape, hB.output, hB.size, hB.block⟩, ho⟩)
noncomputable def con75 (h t : Nat) : Con := Con.rowS rowF 27 h t
noncomputable def con75b : Con := Con.rowB rowF 27

/-! addr.zeros, addr.text -/
noncomputable def dU : Value → Option Int
  | .int .u64 n => some n
  | _ => none
noncomputable def dNo : List Value → Option Unit
  | [] => some ()
  | _ => none
theorem dU_enc {v : Value} {b : Int} (h : dU v = some b) : v = .int .u64 b := by
  unfold dU at h
  split at h
  · cases h; rfl
  · cases h
theorem dNo_enc {r : List Value} {g : Unit} (h : dNo r = some g) : r = [] := by
  unfold dNo at h
  split at h
  · rfl
  · cases h
theorem row_reads {w : World} {A : Option Addr} {l : List Int} (hl : l.length ≤ 9223372036854775807) (h : RowAt (Value.int .u64) w A l) : Kd.C (Kd.int .u64) w A l.length l := by
  refine ⟨rfl, hl, fun h0 => ?_⟩
  rcases h with rfl | ⟨b, o, rfl, h⟩
  · simp at h0
  refine ⟨_, rfl, fun j p hj => ⟨[.int .u64 p], rfl, rfl, fun i u hu => ?_⟩⟩
  match i, hu with
  | 0, hu =>
    cases hu
    have := h j p hj
    unfold Addr.add
    split
    · rename_i q
      have : j = 0 := by simpa [Kd.int, Kd.scalar] using q
      subst this; simpa using ‹w.cell? _ = _›
    · simpa [Kd.int, Kd.scalar] using this
  | i + 1, hu => simp at hu
def zerosF (l : List Int) (_ : Unit) : Option (Int × Int) := if l.length ≤ 8 then addr_zeros.f 300 l else none
def textF (l : List Int) (_ : Unit) : Option ByteArray := if l.length ≤ 8 then addr_text.f 300 l else none
noncomputable def enII (y : Int × Int) : Value := .tuple #[.int .i64 y.1, .int .i64 y.2]
noncomputable def enS (y : ByteArray) : Value := .string y
theorem om57 {W : World} (hW : GoodW W) : OwnAll Tryd.prog W 6 57 (readD dU dNo zerosF enII) :=
  own_reads (fn := Tryd.f57) (c := bodyOf Tryd.f57) (e := Value.int .u64) (er := fun _ => []) (Gd := GoodW) (fun w k => hW.later k.size k.old) Tryd.func57 (by kernel_rfl) (by kernel_rfl) (fun v b h => dU_enc h) (fun b => ⟨rfl, by intro h; cases h⟩) (fun r g h => dNo_enc h) (fun _ => rfl) fun l g r hF => ⟨rfl, (by intro h; cases h), fun w A c hG hc hR => by
    unfold zerosF at hF
    split at hF
    case isFalse => cases hF
    rename_i hl
    refine (addr_zeros.calls 300 A c l r.1 r.2 w (row_reads (by omega) hR) hc hG hF).mono ?_
    rintro e w' ⟨rfl, hB⟩
    have hB := hB.below
    exact ⟨rfl, hB.os, hB.tape, hB.output, hB.size, hB.block⟩⟩
theorem om58 {W : World} (hW : GoodW W) : OwnAll Tryd.prog W 6 58 (readD dU dNo textF enS) :=
  own_reads (fn := Tryd.f58) (c := bodyOf Tryd.f58) (e := Value.int .u64) (er := fun _ => []) (Gd := GoodW) (fun w k => hW.later k.size k.old) Tryd.func58 (by kernel_rfl) (by kernel_rfl) (fun v b h => dU_enc h) (fun b => ⟨rfl, by intro h; cases h⟩) (fun r g h => dNo_enc h) (fun _ => rfl) fun l g r hF => ⟨rfl, (by intro h; cases h), fun w A c hG hc hR => by
    unfold textF at hF
    split at hF
    case isFalse => cases hF
    rename_i hl
    refine (addr_text.calls 300 A c l r w (row_reads (by omega) hR) hc hG hF).mono ?_
    rintro e w' ⟨rfl, hB⟩
    exact ⟨rfl, hB.os, hB.tape, hB.output, hB.size, hB.block⟩⟩
/-- from where, to where -/
def zpairs : List (Int × Int) := [(0, 0), (0, 2), (0, 3), (0, 4), (0, 5), (0, 6), (0, 7), (0, 8), (1, 3), (1, 4), (1, 5), (1, 6), (1, 7), (1, 8), (2, 4), (2, 5), (2, 6), (2, 7), (2, 8), (3, 5), (3, 6), (3, 7), (3, 8), (4, 6), (4, 7), (4, 8), (5, 7), (5, 8), (6, 8)]
noncomputable def con57 : Con := Con.readsS zpairs dU dNo zerosF enII
noncomputable def con58 : Con := Con.reads dU dNo textF enS

end Go.Proofs.YtfnacgojmdbjmaaDoor
end

section
/- addr.six: its words: the cut known to be there, or not. No conditions. -/
namespace Go.Proofs.YtfnacgojmdbjmaaDoor
open Go.Det Go.RowKit Go.Proofs.YtfnacgojmdbjmaaDoorW.PrintWords Go.Proofs.YtfnacgojmdbjmaaDoor.PPH
set_option maxRecDepth 100000

/-- the cut, known to be there or not -/
noncomputable def con60k (b : Bool) : Con where
  own := con60.own
  w := fun args s K => match decSS args with
    | some a => ∃ x y : ByteArray, cutF a.1 a.2 = some (x, y, b) ∧ K (.tuple #[.string x, .string y, .bool b]) s
    | none => False
  ok := by
    intro args s K h
    split at h
    · rename_i a ha
      obtain ⟨x, y, h, hk⟩ := h
      exact ⟨.tuple #[.string x, .string y, .bool b], s, by unfold con60 Con.opt pureD; simp only [ha, h], hk, fun K' k => ⟨x, y, h, k⟩⟩
    · exact h.elim
  mono := by
    intro args s K K' k h
    split at h
    · obtain ⟨x, y, h, hk⟩ := h
      exact ⟨x, y, h, k _ _ hk⟩
    · exact h.elim
noncomputable def LsixT (h t : Nat) : List (Nat × Con) := [(60, con60k true), (75, con75 h t)]
noncomputable def LsixB (b : Bool) : List (Nat × Con) := [(60, con60k b), (75, con75b)]

/-- the row at the left is whole, the one at the right nothing -/
noncomputable def con75w : Con where
  own := rowD rowF 27
  w := fun args s K => match decSL args with
    | some a => (a.1.data.toList = [] ∧ (rowF a = some ([], true) ∧ K (.tuple #[.slice none 0 0, .bool true]) s)) ∨ (a.1.data.toList ≠ [] ∧ exN 8 fun l => rowF a = some (l, true) ∧ K (.tuple #[.slice (some ⟨s.next, 0, none⟩) 8 (capU + 1), .bool true]) (s.new (.cells (l.map (Value.int .u64)) (2 * 27) false)))
    | none => False
  ok := by
    intro args s K h
    split at h
    case h_2 => exact h.elim
    rename_i a ha
    rcases h with ⟨h2, h3, hk⟩ | ⟨h2, h⟩
    · refine ⟨_, _, by unfold rowD; simp only [ha, h3, h2], hk, fun K' k => .inl ⟨h2, h3, k⟩⟩
    · obtain ⟨l, hl, h3, hk⟩ := exN_some h
      cases hl2 : a.1.data.toList with
      | nil => exact absurd hl2 h2
      | cons x u =>
        cases l with
        | nil => simp at hl
        | cons y v =>
          refine ⟨_, _, by unfold rowD; simp only [ha, h3, hl2]; rfl, by rw [hl]; exact hk, fun K' k => ?_⟩
          rw [hl] at k
          exact .inr ⟨by simp, exN_intro hl ⟨h3, k⟩⟩
  mono := by
    intro args s K K' k h
    split at h
    case h_2 => exact h.elim
    rename_i a ha
    rcases h with ⟨h2, h3, hk⟩ | ⟨h2, h⟩
    · exact .inl ⟨h2, h3, k _ _ hk⟩
    · obtain ⟨l, hl, h3, hk⟩ := exN_some h
      exact .inr ⟨h2, exN_intro hl ⟨h3, k _ _ hk⟩⟩
noncomputable def LsixW : List (Nat × Con) := [(60, con60k false), (75, con75w)]
end Go.Proofs.YtfnacgojmdbjmaaDoor
end

section
/- Conditions, reckoned by the kernel. -/
namespace Go.Proofs.YtfnacgojmdbjmaaDoor
open Go.Det Go.RowKit  Go.Proofs.YtfnacgojmdbjmaaDoorW.PrintWords
set_option maxRecDepth 100000

theorem vs01 (s : ByteArray) (Q : Value → Prop) : codeU Tryd.prog (cwC (LsixT 0 1)) (oxE [51, 59, 68, 76]) 9 (bodyOf Tryd.f52) (inTab [.string s] 8) (birth [] 64) (retW Tryd.prog Tryd.f52 fun v _ => Q v) = ((∃ x0 : ByteArray, (∃ x1 : ByteArray, ((cutF s { data := #[58, 58] } = some (x0, x1, true)) ∧ ((x0.data.toList = []) ∧ ((rowF (x0, !true) = some ([], true)) ∧ ((x1.data.toList ≠ []) ∧ (∃ x2 : Int, ((rowF (x1, true) = some ([x2], true)) ∧ bifW (cdec (s.data.toList = Array.toList (ByteArray.data { data := #[] }))) (Q (Value.tuple #[Value.agg #[Value.int .i64 0, Value.int .u64 0, Value.int .u64 0], Value.bool false])) (((true = true) ∧ ((true = true) ∧ ((true = true) ∧ ((true = true) ∧ ((true = true) ∧ ((true = true) ∧ ((true = true) ∧ ((true = true) ∧ ((true = true) ∧ ((true = true) ∧ (((0 : Int) ≤ 16) ∧ ((((0 : Int) ≤ 0) ∧ (0 < (↑8 : Int))) ∧ (((0 : Int) ≤ 16) ∧ ((((0 : Int) ≤ 4) ∧ (4 < (↑8 : Int))) ∧ ((true = true) ∧ (((0 : Int) ≤ 16) ∧ ((((0 : Int) ≤ 1) ∧ (1 < (↑8 : Int))) ∧ (((0 : Int) ≤ 16) ∧ ((((0 : Int) ≤ 5) ∧ (5 < (↑8 : Int))) ∧ ((true = true) ∧ (((0 : Int) ≤ 16) ∧ ((((0 : Int) ≤ 2) ∧ (2 < (↑8 : Int))) ∧ (((0 : Int) ≤ 16) ∧ ((((0 : Int) ≤ 6) ∧ (6 < (↑8 : Int))) ∧ ((true = true) ∧ (((0 : Int) ≤ 16) ∧ ((((0 : Int) ≤ 3) ∧ (3 < (↑8 : Int))) ∧ (((0 : Int) ≤ 16) ∧ ((((0 : Int) ≤ 7) ∧ (7 < (↑8 : Int))) ∧ ((true = true) ∧ Q (Value.tuple #[Value.agg #[Value.int .i64 6, Value.int .u64 (orI .u64 (shlI .u64 (orI .u64 (shlI .u64 (orI .u64 (shlI .u64 (orI .u64 (shlI .u64 0 16) 0) 16) 0) 16) 0) 16) 0), Value.int .u64 (orI .u64 (shlI .u64 (orI .u64 (shlI .u64 (orI .u64 (shlI .u64 (orI .u64 (shlI .u64 0 16) 0) 16) 0) 16) 0) 16) x2)], Value.bool true]))))))))))))))))))))))))))))))))))))))))) := by kernel_rfl

theorem vs03 (s : ByteArray) (Q : Value → Prop) : codeU Tryd.prog (cwC (LsixT 0 3)) (oxE [51, 59, 68, 76]) 9 (bodyOf Tryd.f52) (inTab [.string s] 8) (birth [] 64) (retW Tryd.prog Tryd.f52 fun v _ => Q v) = ((∃ x0 : ByteArray, (∃ x1 : ByteArray, ((cutF s { data := #[58, 58] } = some (x0, x1, true)) ∧ ((x0.data.toList = []) ∧ ((rowF (x0, !true) = some ([], true)) ∧ ((x1.data.toList ≠ []) ∧ (∃ x2 : Int, (∃ x3 : Int, (∃ x4 : Int, ((rowF (x1, true) = some ([x2, x3, x4], true)) ∧ bifW (cdec (s.data.toList = Array.toList (ByteArray.data { data := #[] }))) (Q (Value.tuple #[Value.agg #[Value.int .i64 0, Value.int .u64 0, Value.int .u64 0], Value.bool false])) (((true = true) ∧ ((true = true) ∧ ((true = true) ∧ ((true = true) ∧ ((true = true) ∧ ((true = true) ∧ ((true = true) ∧ ((true = true) ∧ (((0 : Int) ≤ 16) ∧ ((((0 : Int) ≤ 0) ∧ (0 < (↑8 : Int))) ∧ (((0 : Int) ≤ 16) ∧ ((((0 : Int) ≤ 4) ∧ (4 < (↑8 : Int))) ∧ ((true = true) ∧ (((0 : Int) ≤ 16) ∧ ((((0 : Int) ≤ 1) ∧ (1 < (↑8 : Int))) ∧ (((0 : Int) ≤ 16) ∧ ((((0 : Int) ≤ 5) ∧ (5 < (↑8 : Int))) ∧ ((true = true) ∧ (((0 : Int) ≤ 16) ∧ ((((0 : Int) ≤ 2) ∧ (2 < (↑8 : Int))) ∧ (((0 : Int) ≤ 16) ∧ ((((0 : Int) ≤ 6) ∧ (6 < (↑8 : Int))) ∧ ((true = true) ∧ (((0 : Int) ≤ 16) ∧ ((((0 : Int) ≤ 3) ∧ (3 < (↑8 : Int))) ∧ (((0 : Int) ≤ 16) ∧ ((((0 : Int) ≤ 7) ∧ (7 < (↑8 : Int))) ∧ ((true = true) ∧ Q (Value.tuple #[Value.agg #[Value.int .i64 6, Value.int .u64 (orI .u64 (shlI .u64 (orI .u64 (shlI .u64 (orI .u64 (shlI .u64 (orI .u64 (shlI .u64 0 16) 0) 16) 0) 16) 0) 16) 0), Value.int .u64 (orI .u64 (shlI .u64 (orI .u64 (shlI .u64 (orI .u64 (shlI .u64 (orI .u64 (shlI .u64 0 16) 0) 16) x2) 16) x3) 16) x4)], Value.bool true]))))))))))))))))))))))))))))))))))))))))) := by kernel_rfl

theorem vs05 (s : ByteArray) (Q : Value → Prop) : codeU Tryd.prog (cwC (LsixT 0 5)) (oxE [51, 59, 68, 76]) 9 (bodyOf Tryd.f52) (inTab [.string s] 8) (birth [] 64) (retW Tryd.prog Tryd.f52 fun v _ => Q v) = ((∃ x0 : ByteArray, (∃ x1 : ByteArray, ((cutF s { data := #[58, 58] } = some (x0, x1, true)) ∧ ((x0.data.toList = []) ∧ ((rowF (x0, !true) = some ([], true)) ∧ ((x1.data.toList ≠ []) ∧ (∃ x2 : Int, (∃ x3 : Int, (∃ x4 : Int, (∃ x5 : Int, (∃ x6 : Int, ((rowF (x1, true) = some ([x2, x3, x4, x5, x6], true)) ∧ bifW (cdec (s.data.toList = Array.toList (ByteArray.data { data := #[] }))) (Q (Value.tuple #[Value.agg #[Value.int .i64 0, Value.int .u64 0, Value.int .u64 0], Value.bool false])) (((true = true) ∧ ((true = true) ∧ ((true = true) ∧ ((true = true) ∧ ((true = true) ∧ ((true = true) ∧ (((0 : Int) ≤ 16) ∧ ((((0 : Int) ≤ 0) ∧ (0 < (↑8 : Int))) ∧ (((0 : Int) ≤ 16) ∧ ((((0 : Int) ≤ 4) ∧ (4 < (↑8 : Int))) ∧ ((true = true) ∧ (((0 : Int) ≤ 16) ∧ ((((0 : Int) ≤ 1) ∧ (1 < (↑8 : Int))) ∧ (((0 : Int) ≤ 16) ∧ ((((0 : Int) ≤ 5) ∧ (5 < (↑8 : Int))) ∧ ((true = true) ∧ (((0 : Int) ≤ 16) ∧ ((((0 : Int) ≤ 2) ∧ (2 < (↑8 : Int))) ∧ (((0 : Int) ≤ 16) ∧ ((((0 : Int) ≤ 6) ∧ (6 < (↑8 : Int))) ∧ ((true = true) ∧ (((0 : Int) ≤ 16) ∧ ((((0 : Int) ≤ 3) ∧ (3 < (↑8 : Int))) ∧ (((0 : Int) ≤ 16) ∧ ((((0 : Int) ≤ 7) ∧ (7 < (↑8 : Int))) ∧ ((true = true) ∧ Q (Value.tuple #[Value.agg #[Value.int .i64 6, Value.int .u64 (orI .u64 (shlI .u64 (orI .u64 (shlI .u64 (orI .u64 (shlI .u64 (orI .u64 (shlI .u64 0 16) 0) 16) 0) 16) 0) 16) x2), Value.int .u64 (orI .u64 (shlI .u64 (orI .u64 (shlI .u64 (orI .u64 (shlI .u64 (orI .u64 (shlI .u64 0 16) x3) 16) x4) 16) x5) 16) x6)], Value.bool true]))))))))))))))))))))))))))))))))))))))))) := by kernel_rfl

theorem vs07 (s : ByteArray) (Q : Value → Prop) : codeU Tryd.prog (cwC (LsixT 0 7)) (oxE [51, 59, 68, 76]) 9 (bodyOf Tryd.f52) (inTab [.string s] 8) (birth [] 64) (retW Tryd.prog Tryd.f52 fun v _ => Q v) = ((∃ x0 : ByteArray, (∃ x1 : ByteArray, ((cutF s { data := #[58, 58] } = some (x0, x1, true)) ∧ ((x0.data.toList = []) ∧ ((rowF (x0, !true) = some ([], true)) ∧ ((x1.data.toList ≠ []) ∧ (∃ x2 : Int, (∃ x3 : Int, (∃ x4 : Int, (∃ x5 : Int, (∃ x6 : Int, (∃ x7 : Int, (∃ x8 : Int, ((rowF (x1, true) = some ([x2, x3, x4, x5, x6, x7, x8], true)) ∧ bifW (cdec (s.data.toList = Array.toList (ByteArray.data { data := #[] }))) (Q (Value.tuple #[Value.agg #[Value.int .i64 0, Value.int .u64 0, Value.int .u64 0], Value.bool false])) (((true = true) ∧ ((true = true) ∧ ((true = true) ∧ ((true = true) ∧ (((0 : Int) ≤ 16) ∧ ((((0 : Int) ≤ 0) ∧ (0 < (↑8 : Int))) ∧ (((0 : Int) ≤ 16) ∧ ((((0 : Int) ≤ 4) ∧ (4 < (↑8 : Int))) ∧ ((true = true) ∧ (((0 : Int) ≤ 16) ∧ ((((0 : Int) ≤ 1) ∧ (1 < (↑8 : Int))) ∧ (((0 : Int) ≤ 16) ∧ ((((0 : Int) ≤ 5) ∧ (5 < (↑8 : Int))) ∧ ((true = true) ∧ (((0 : Int) ≤ 16) ∧ ((((0 : Int) ≤ 2) ∧ (2 < (↑8 : Int))) ∧ (((0 : Int) ≤ 16) ∧ ((((0 : Int) ≤ 6) ∧ (6 < (↑8 : Int))) ∧ ((true = true) ∧ (((0 : Int) ≤ 16) ∧ ((((0 : Int) ≤ 3) ∧ (3 < (↑8 : Int))) ∧ (((0 : Int) ≤ 16) ∧ ((((0 : Int) ≤ 7) ∧ (7 < (↑8 : Int))) ∧ ((true = true) ∧ Q (Value.tuple #[Value.agg #[Value.int .i64 6, Value.int .u64 (orI .u64 (shlI .u64 (orI .u64 (shlI .u64 (orI .u64 (shlI .u64 (orI .u64 (shlI .u64 0 16) 0) 16) x2) 16) x3) 16) x4), Value.int .u64 (orI .u64 (shlI .u64 (orI .u64 (shlI .u64 (orI .u64 (shlI .u64 (orI .u64 (shlI .u64 0 16) x5) 16) x6) 16) x7) 16) x8)], Value.bool true]))))))))))))))))))))))))))))))))))))))))) := by kernel_rfl

theorem vs11 (s : ByteArray) (Q : Value → Prop) : codeU Tryd.prog (cwC (LsixT 1 1)) (oxE [51, 59, 68, 76]) 9 (bodyOf Tryd.f52) (inTab [.string s] 8) (birth [] 64) (retW Tryd.prog Tryd.f52 fun v _ => Q v) = ((∃ x0 : ByteArray, (∃ x1 : ByteArray, ((cutF s { data := #[58, 58] } = some (x0, x1, true)) ∧ ((x0.data.toList ≠ []) ∧ (∃ x2 : Int, ((rowF (x0, !true) = some ([x2], true)) ∧ ((x1.data.toList ≠ []) ∧ (∃ x3 : Int, ((rowF (x1, true) = some ([x3], true)) ∧ bifW (cdec (s.data.toList = Array.toList (ByteArray.data { data := #[] }))) (Q (Value.tuple #[Value.agg #[Value.int .i64 0, Value.int .u64 0, Value.int .u64 0], Value.bool false])) (((true = true) ∧ ((true = true) ∧ ((true = true) ∧ ((true = true) ∧ ((true = true) ∧ ((true = true) ∧ ((true = true) ∧ ((true = true) ∧ ((true = true) ∧ (((0 : Int) ≤ 16) ∧ ((((0 : Int) ≤ 0) ∧ (0 < (↑8 : Int))) ∧ (((0 : Int) ≤ 16) ∧ ((((0 : Int) ≤ 4) ∧ (4 < (↑8 : Int))) ∧ ((true = true) ∧ (((0 : Int) ≤ 16) ∧ ((((0 : Int) ≤ 1) ∧ (1 < (↑8 : Int))) ∧ (((0 : Int) ≤ 16) ∧ ((((0 : Int) ≤ 5) ∧ (5 < (↑8 : Int))) ∧ ((true = true) ∧ (((0 : Int) ≤ 16) ∧ ((((0 : Int) ≤ 2) ∧ (2 < (↑8 : Int))) ∧ (((0 : Int) ≤ 16) ∧ ((((0 : Int) ≤ 6) ∧ (6 < (↑8 : Int))) ∧ ((true = true) ∧ (((0 : Int) ≤ 16) ∧ ((((0 : Int) ≤ 3) ∧ (3 < (↑8 : Int))) ∧ (((0 : Int) ≤ 16) ∧ ((((0 : Int) ≤ 7) ∧ (7 < (↑8 : Int))) ∧ ((true = true) ∧ Q (Value.tuple #[Value.agg #[Value.int .i64 6, Value.int .u64 (orI .u64 (shlI .u64 (orI .u64 (shlI .u64 (orI .u64 (shlI .u64 (orI .u64 (shlI .u64 0 16) x2) 16) 0) 16) 0) 16) 0), Value.int .u64 (orI .u64 (shlI .u64 (orI .u64 (shlI .u64 (orI .u64 (shlI .u64 (orI .u64 (shlI .u64 0 16) 0) 16) 0) 16) 0) 16) x3)], Value.bool true]))))))))))))))))))))))))))))))))))))))))) := by kernel_rfl

theorem vs13 (s : ByteArray) (Q : Value → Prop) : codeU Tryd.prog (cwC (LsixT 1 3)) (oxE [51, 59, 68, 76]) 9 (bodyOf Tryd.f52) (inTab [.string s] 8) (birth [] 64) (retW Tryd.prog Tryd.f52 fun v _ => Q v) = ((∃ x0 : ByteArray, (∃ x1 : ByteArray, ((cutF s { data := #[58, 58] } = some (x0, x1, true)) ∧ ((x0.data.toList ≠ []) ∧ (∃ x2 : Int, ((rowF (x0, !true) = some ([x2], true)) ∧ ((x1.data.toList ≠ []) ∧ (∃ x3 : Int, (∃ x4 : Int, (∃ x5 : Int, ((rowF (x1, true) = some ([x3, x4, x5], true)) ∧ bifW (cdec (s.data.toList = Array.toList (ByteArray.data { data := #[] }))) (Q (Value.tuple #[Value.agg #[Value.int .i64 0, Value.int .u64 0, Value.int .u64 0], Value.bool false])) (((true = true) ∧ ((true = true) ∧ ((true = true) ∧ ((true = true) ∧ ((true = true) ∧ ((true = true) ∧ ((true = true) ∧ (((0 : Int) ≤ 16) ∧ ((((0 : Int) ≤ 0) ∧ (0 < (↑8 : Int))) ∧ (((0 : Int) ≤ 16) ∧ ((((0 : Int) ≤ 4) ∧ (4 < (↑8 : Int))) ∧ ((true = true) ∧ (((0 : Int) ≤ 16) ∧ ((((0 : Int) ≤ 1) ∧ (1 < (↑8 : Int))) ∧ (((0 : Int) ≤ 16) ∧ ((((0 : Int) ≤ 5) ∧ (5 < (↑8 : Int))) ∧ ((true = true) ∧ (((0 : Int) ≤ 16) ∧ ((((0 : Int) ≤ 2) ∧ (2 < (↑8 : Int))) ∧ (((0 : Int) ≤ 16) ∧ ((((0 : Int) ≤ 6) ∧ (6 < (↑8 : Int))) ∧ ((true = true) ∧ (((0 : Int) ≤ 16) ∧ ((((0 : Int) ≤ 3) ∧ (3 < (↑8 : Int))) ∧ (((0 : Int) ≤ 16) ∧ ((((0 : Int) ≤ 7) ∧ (7 < (↑8 : Int))) ∧ ((true = true) ∧ Q (Value.tuple #[Value.agg #[Value.int .i64 6, Value.int .u64 (orI .u64 (shlI .u64 (orI .u64 (shlI .u64 (orI .u64 (shlI .u64 (orI .u64 (shlI .u64 0 16) x2) 16) 0) 16) 0) 16) 0), Value.int .u64 (orI .u64 (shlI .u64 (orI .u64 (shlI .u64 (orI .u64 (shlI .u64 (orI .u64 (shlI .u64 0 16) 0) 16) x3) 16) x4) 16) x5)], Value.bool true]))))))))))))))))))))))))))))))))))))))))) := by kernel_rfl

theorem vs15 (s : ByteArray) (Q : Value → Prop) : codeU Tryd.prog (cwC (LsixT 1 5)) (oxE [51, 59, 68, 76]) 9 (bodyOf Tryd.f52) (inTab [.string s] 8) (birth [] 64) (retW Tryd.prog Tryd.f52 fun v _ => Q v) = ((∃ x0 : ByteArray, (∃ x1 : ByteArray, ((cutF s { data := #[58, 58] } = some (x0, x1, true)) ∧ ((x0.data.toList ≠ []) ∧ (∃ x2 : Int, ((rowF (x0, !true) = some ([x2], true)) ∧ ((x1.data.toList ≠ []) ∧ (∃ x3 : Int, (∃ x4 : Int, (∃ x5 : Int, (∃ x6 : Int, (∃ x7 : Int, ((rowF (x1, true) = some ([x3, x4, x5, x6, x7], true)) ∧ bifW (cdec (s.data.toList = Array.toList (ByteArray.data { data := #[] }))) (Q (Value.tuple #[Value.agg #[Value.int .i64 0, Value.int .u64 0, Value.int .u64 0], Value.bool false])) (((true = true) ∧ ((true = true) ∧ ((true = true) ∧ ((true = true) ∧ ((true = true) ∧ (((0 : Int) ≤ 16) ∧ ((((0 : Int) ≤ 0) ∧ (0 < (↑8 : Int))) ∧ (((0 : Int) ≤ 16) ∧ ((((0 : Int) ≤ 4) ∧ (4 < (↑8 : Int))) ∧ ((true = true) ∧ (((0 : Int) ≤ 16) ∧ ((((0 : Int) ≤ 1) ∧ (1 < (↑8 : Int))) ∧ (((0 : Int) ≤ 16) ∧ ((((0 : Int) ≤ 5) ∧ (5 < (↑8 : Int))) ∧ ((true = true) ∧ (((0 : Int) ≤ 16) ∧ ((((0 : Int) ≤ 2) ∧ (2 < (↑8 : Int))) ∧ (((0 : Int) ≤ 16) ∧ ((((0 : Int) ≤ 6) ∧ (6 < (↑8 : Int))) ∧ ((true = true) ∧ (((0 : Int) ≤ 16) ∧ ((((0 : Int) ≤ 3) ∧ (3 < (↑8 : Int))) ∧ (((0 : Int) ≤ 16) ∧ ((((0 : Int) ≤ 7) ∧ (7 < (↑8 : Int))) ∧ ((true = true) ∧ Q (Value.tuple #[Value.agg #[Value.int .i64 6, Value.int .u64 (orI .u64 (shlI .u64 (orI .u64 (shlI .u64 (orI .u64 (shlI .u64 (orI .u64 (shlI .u64 0 16) x2) 16) 0) 16) 0) 16) x3), Value.int .u64 (orI .u64 (shlI .u64 (orI .u64 (shlI .u64 (orI .u64 (shlI .u64 (orI .u64 (shlI .u64 0 16) x4) 16) x5) 16) x6) 16) x7)], Value.bool true]))))))))))))))))))))))))))))))))))))))))) := by kernel_rfl

theorem vs20 (s : ByteArray) (Q : Value → Prop) : codeU Tryd.prog (cwC (LsixT 2 0)) (oxE [51, 59, 68, 76]) 9 (bodyOf Tryd.f52) (inTab [.string s] 8) (birth [] 64) (retW Tryd.prog Tryd.f52 fun v _ => Q v) = ((∃ x0 : ByteArray, (∃ x1 : ByteArray, ((cutF s { data := #[58, 58] } = some (x0, x1, true)) ∧ ((x0.data.toList ≠ []) ∧ (∃ x2 : Int, (∃ x3 : Int, ((rowF (x0, !true) = some ([x2, x3], true)) ∧ ((x1.data.toList = []) ∧ ((rowF (x1, true) = some ([], true)) ∧ bifW (cdec (s.data.toList = Array.toList (ByteArray.data { data := #[] }))) (Q (Value.tuple #[Value.agg #[Value.int .i64 0, Value.int .u64 0, Value.int .u64 0], Value.bool false])) (((true = true) ∧ ((true = true) ∧ ((true = true) ∧ ((true = true) ∧ ((true = true) ∧ ((true = true) ∧ ((true = true) ∧ ((true = true) ∧ ((true = true) ∧ (((0 : Int) ≤ 16) ∧ ((((0 : Int) ≤ 0) ∧ (0 < (↑8 : Int))) ∧ (((0 : Int) ≤ 16) ∧ ((((0 : Int) ≤ 4) ∧ (4 < (↑8 : Int))) ∧ ((true = true) ∧ (((0 : Int) ≤ 16) ∧ ((((0 : Int) ≤ 1) ∧ (1 < (↑8 : Int))) ∧ (((0 : Int) ≤ 16) ∧ ((((0 : Int) ≤ 5) ∧ (5 < (↑8 : Int))) ∧ ((true = true) ∧ (((0 : Int) ≤ 16) ∧ ((((0 : Int) ≤ 2) ∧ (2 < (↑8 : Int))) ∧ (((0 : Int) ≤ 16) ∧ ((((0 : Int) ≤ 6) ∧ (6 < (↑8 : Int))) ∧ ((true = true) ∧ (((0 : Int) ≤ 16) ∧ ((((0 : Int) ≤ 3) ∧ (3 < (↑8 : Int))) ∧ (((0 : Int) ≤ 16) ∧ ((((0 : Int) ≤ 7) ∧ (7 < (↑8 : Int))) ∧ ((true = true) ∧ Q (Value.tuple #[Value.agg #[Value.int .i64 6, Value.int .u64 (orI .u64 (shlI .u64 (orI .u64 (shlI .u64 (orI .u64 (shlI .u64 (orI .u64 (shlI .u64 0 16) x2) 16) x3) 16) 0) 16) 0), Value.int .u64 (orI .u64 (shlI .u64 (orI .u64 (shlI .u64 (orI .u64 (shlI .u64 (orI .u64 (shlI .u64 0 16) 0) 16) 0) 16) 0) 16) 0)], Value.bool true]))))))))))))))))))))))))))))))))))))))))) := by kernel_rfl

theorem vs22 (s : ByteArray) (Q : Value → Prop) : codeU Tryd.prog (cwC (LsixT 2 2)) (oxE [51, 59, 68, 76]) 9 (bodyOf Tryd.f52) (inTab [.string s] 8) (birth [] 64) (retW Tryd.prog Tryd.f52 fun v _ => Q v) = ((∃ x0 : ByteArray, (∃ x1 : ByteArray, ((cutF s { data := #[58, 58] } = some (x0, x1, true)) ∧ ((x0.data.toList ≠ []) ∧ (∃ x2 : Int, (∃ x3 : Int, ((rowF (x0, !true) = some ([x2, x3], true)) ∧ ((x1.data.toList ≠ []) ∧ (∃ x4 : Int, (∃ x5 : Int, ((rowF (x1, true) = some ([x4, x5], true)) ∧ bifW (cdec (s.data.toList = Array.toList (ByteArray.data { data := #[] }))) (Q (Value.tuple #[Value.agg #[Value.int .i64 0, Value.int .u64 0, Value.int .u64 0], Value.bool false])) (((true = true) ∧ ((true = true) ∧ ((true = true) ∧ ((true = true) ∧ ((true = true) ∧ ((true = true) ∧ ((true = true) ∧ (((0 : Int) ≤ 16) ∧ ((((0 : Int) ≤ 0) ∧ (0 < (↑8 : Int))) ∧ (((0 : Int) ≤ 16) ∧ ((((0 : Int) ≤ 4) ∧ (4 < (↑8 : Int))) ∧ ((true = true) ∧ (((0 : Int) ≤ 16) ∧ ((((0 : Int) ≤ 1) ∧ (1 < (↑8 : Int))) ∧ (((0 : Int) ≤ 16) ∧ ((((0 : Int) ≤ 5) ∧ (5 < (↑8 : Int))) ∧ ((true = true) ∧ (((0 : Int) ≤ 16) ∧ ((((0 : Int) ≤ 2) ∧ (2 < (↑8 : Int))) ∧ (((0 : Int) ≤ 16) ∧ ((((0 : Int) ≤ 6) ∧ (6 < (↑8 : Int))) ∧ ((true = true) ∧ (((0 : Int) ≤ 16) ∧ ((((0 : Int) ≤ 3) ∧ (3 < (↑8 : Int))) ∧ (((0 : Int) ≤ 16) ∧ ((((0 : Int) ≤ 7) ∧ (7 < (↑8 : Int))) ∧ ((true = true) ∧ Q (Value.tuple #[Value.agg #[Value.int .i64 6, Value.int .u64 (orI .u64 (shlI .u64 (orI .u64 (shlI .u64 (orI .u64 (shlI .u64 (orI .u64 (shlI .u64 0 16) x2) 16) x3) 16) 0) 16) 0), Value.int .u64 (orI .u64 (shlI .u64 (orI .u64 (shlI .u64 (orI .u64 (shlI .u64 (orI .u64 (shlI .u64 0 16) 0) 16) 0) 16) x4) 16) x5)], Value.bool true]))))))))))))))))))))))))))))))))))))))))) := by kernel_rfl

theorem vs24 (s : ByteArray) (Q : Value → Prop) : codeU Tryd.prog (cwC (LsixT 2 4)) (oxE [51, 59, 68, 76]) 9 (bodyOf Tryd.f52) (inTab [.string s] 8) (birth [] 64) (retW Tryd.prog Tryd.f52 fun v _ => Q v) = ((∃ x0 : ByteArray, (∃ x1 : ByteArray, ((cutF s { data := #[58, 58] } = some (x0, x1, true)) ∧ ((x0.data.toList ≠ []) ∧ (∃ x2 : Int, (∃ x3 : Int, ((rowF (x0, !true) = some ([x2, x3], true)) ∧ ((x1.data.toList ≠ []) ∧ (∃ x4 : Int, (∃ x5 : Int, (∃ x6 : Int, (∃ x7 : Int, ((rowF (x1, true) = some ([x4, x5, x6, x7], true)) ∧ bifW (cdec (s.data.toList = Array.toList (ByteArray.data { data := #[] }))) (Q (Value.tuple #[Value.agg #[Value.int .i64 0, Value.int .u64 0, Value.int .u64 0], Value.bool false])) (((true = true) ∧ ((true = true) ∧ ((true = true) ∧ ((true = true) ∧ ((true = true) ∧ (((0 : Int) ≤ 16) ∧ ((((0 : Int) ≤ 0) ∧ (0 < (↑8 : Int))) ∧ (((0 : Int) ≤ 16) ∧ ((((0 : Int) ≤ 4) ∧ (4 < (↑8 : Int))) ∧ ((true = true) ∧ (((0 : Int) ≤ 16) ∧ ((((0 : Int) ≤ 1) ∧ (1 < (↑8 : Int))) ∧ (((0 : Int) ≤ 16) ∧ ((((0 : Int) ≤ 5) ∧ (5 < (↑8 : Int))) ∧ ((true = true) ∧ (((0 : Int) ≤ 16) ∧ ((((0 : Int) ≤ 2) ∧ (2 < (↑8 : Int))) ∧ (((0 : Int) ≤ 16) ∧ ((((0 : Int) ≤ 6) ∧ (6 < (↑8 : Int))) ∧ ((true = true) ∧ (((0 : Int) ≤ 16) ∧ ((((0 : Int) ≤ 3) ∧ (3 < (↑8 : Int))) ∧ (((0 : Int) ≤ 16) ∧ ((((0 : Int) ≤ 7) ∧ (7 < (↑8 : Int))) ∧ ((true = true) ∧ Q (Value.tuple #[Value.agg #[Value.int .i64 6, Value.int .u64 (orI .u64 (shlI .u64 (orI .u64 (shlI .u64 (orI .u64 (shlI .u64 (orI .u64 (shlI .u64 0 16) x2) 16) x3) 16) 0) 16) 0), Value.int .u64 (orI .u64 (shlI .u64 (orI .u64 (shlI .u64 (orI .u64 (shlI .u64 (orI .u64 (shlI .u64 0 16) x4) 16) x5) 16) x6) 16) x7)], Value.bool true]))))))))))))))))))))))))))))))))))))))))) := by kernel_rfl

theorem vs30 (s : ByteArray) (Q : Value → Prop) : codeU Tryd.prog (cwC (LsixT 3 0)) (oxE [51, 59, 68, 76]) 9 (bodyOf Tryd.f52) (inTab [.string s] 8) (birth [] 64) (retW Tryd.prog Tryd.f52 fun v _ => Q v) = ((∃ x0 : ByteArray, (∃ x1 : ByteArray, ((cutF s { data := #[58, 58] } = some (x0, x1, true)) ∧ ((x0.data.toList ≠ []) ∧ (∃ x2 : Int, (∃ x3 : Int, (∃ x4 : Int, ((rowF (x0, !true) = some ([x2, x3, x4], true)) ∧ ((x1.data.toList = []) ∧ ((rowF (x1, true) = some ([], true)) ∧ bifW (cdec (s.data.toList = Array.toList (ByteArray.data { data := #[] }))) (Q (Value.tuple #[Value.agg #[Value.int .i64 0, Value.int .u64 0, Value.int .u64 0], Value.bool false])) (((true = true) ∧ ((true = true) ∧ ((true = true) ∧ ((true = true) ∧ ((true = true) ∧ ((true = true) ∧ ((true = true) ∧ ((true = true) ∧ (((0 : Int) ≤ 16) ∧ ((((0 : Int) ≤ 0) ∧ (0 < (↑8 : Int))) ∧ (((0 : Int) ≤ 16) ∧ ((((0 : Int) ≤ 4) ∧ (4 < (↑8 : Int))) ∧ ((true = true) ∧ (((0 : Int) ≤ 16) ∧ ((((0 : Int) ≤ 1) ∧ (1 < (↑8 : Int))) ∧ (((0 : Int) ≤ 16) ∧ ((((0 : Int) ≤ 5) ∧ (5 < (↑8 : Int))) ∧ ((true = true) ∧ (((0 : Int) ≤ 16) ∧ ((((0 : Int) ≤ 2) ∧ (2 < (↑8 : Int))) ∧ (((0 : Int) ≤ 16) ∧ ((((0 : Int) ≤ 6) ∧ (6 < (↑8 : Int))) ∧ ((true = true) ∧ (((0 : Int) ≤ 16) ∧ ((((0 : Int) ≤ 3) ∧ (3 < (↑8 : Int))) ∧ (((0 : Int) ≤ 16) ∧ ((((0 : Int) ≤ 7) ∧ (7 < (↑8 : Int))) ∧ ((true = true) ∧ Q (Value.tuple #[Value.agg #[Value.int .i64 6, Value.int .u64 (orI .u64 (shlI .u64 (orI .u64 (shlI .u64 (orI .u64 (shlI .u64 (orI .u64 (shlI .u64 0 16) x2) 16) x3) 16) x4) 16) 0), Value.int .u64 (orI .u64 (shlI .u64 (orI .u64 (shlI .u64 (orI .u64 (shlI .u64 (orI .u64 (shlI .u64 0 16) 0) 16) 0) 16) 0) 16) 0)], Value.bool true]))))))))))))))))))))))))))))))))))))))))) := by kernel_rfl

theorem vs32 (s : ByteArray) (Q : Value → Prop) : codeU Tryd.prog (cwC (LsixT 3 2)) (oxE [51, 59, 68, 76]) 9 (bodyOf Tryd.f52) (inTab [.string s] 8) (birth [] 64) (retW Tryd.prog Tryd.f52 fun v _ => Q v) = ((∃ x0 : ByteArray, (∃ x1 : ByteArray, ((cutF s { data := #[58, 58] } = some (x0, x1, true)) ∧ ((x0.data.toList ≠ []) ∧ (∃ x2 : Int, (∃ x3 : Int, (∃ x4 : Int, ((rowF (x0, !true) = some ([x2, x3, x4], true)) ∧ ((x1.data.toList ≠ []) ∧ (∃ x5 : Int, (∃ x6 : Int, ((rowF (x1, true) = some ([x5, x6], true)) ∧ bifW (cdec (s.data.toList = Array.toList (ByteArray.data { data := #[] }))) (Q (Value.tuple #[Value.agg #[Value.int .i64 0, Value.int .u64 0, Value.int .u64 0], Value.bool false])) (((true = true) ∧ ((true = true) ∧ ((true = true) ∧ ((true = true) ∧ ((true = true) ∧ ((true = true) ∧ (((0 : Int) ≤ 16) ∧ ((((0 : Int) ≤ 0) ∧ (0 < (↑8 : Int))) ∧ (((0 : Int) ≤ 16) ∧ ((((0 : Int) ≤ 4) ∧ (4 < (↑8 : Int))) ∧ ((true = true) ∧ (((0 : Int) ≤ 16) ∧ ((((0 : Int) ≤ 1) ∧ (1 < (↑8 : Int))) ∧ (((0 : Int) ≤ 16) ∧ ((((0 : Int) ≤ 5) ∧ (5 < (↑8 : Int))) ∧ ((true = true) ∧ (((0 : Int) ≤ 16) ∧ ((((0 : Int) ≤ 2) ∧ (2 < (↑8 : Int))) ∧ (((0 : Int) ≤ 16) ∧ ((((0 : Int) ≤ 6) ∧ (6 < (↑8 : Int))) ∧ ((true = true) ∧ (((0 : Int) ≤ 16) ∧ ((((0 : Int) ≤ 3) ∧ (3 < (↑8 : Int))) ∧ (((0 : Int) ≤ 16) ∧ ((((0 : Int) ≤ 7) ∧ (7 < (↑8 : Int))) ∧ ((true = true) ∧ Q (Value.tuple #[Value.agg #[Value.int .i64 6, Value.int .u64 (orI .u64 (shlI .u64 (orI .u64 (shlI .u64 (orI .u64 (shlI .u64 (orI .u64 (shlI .u64 0 16) x2) 16) x3) 16) x4) 16) 0), Value.int .u64 (orI .u64 (shlI .u64 (orI .u64 (shlI .u64 (orI .u64 (shlI .u64 (orI .u64 (shlI .u64 0 16) 0) 16) 0) 16) x5) 16) x6)], Value.bool true]))))))))))))))))))))))))))))))))))))))))) := by kernel_rfl

theorem vs34 (s : ByteArray) (Q : Value → Prop) : codeU Tryd.prog (cwC (LsixT 3 4)) (oxE [51, 59, 68, 76]) 9 (bodyOf Tryd.f52) (inTab [.string s] 8) (birth [] 64) (retW Tryd.prog Tryd.f52 fun v _ => Q v) = ((∃ x0 : ByteArray, (∃ x1 : ByteArray, ((cutF s { data := #[58, 58] } = some (x0, x1, true)) ∧ ((x0.data.toList ≠ []) ∧ (∃ x2 : Int, (∃ x3 : Int, (∃ x4 : Int, ((rowF (x0, !true) = some ([x2, x3, x4], true)) ∧ ((x1.data.toList ≠ []) ∧ (∃ x5 : Int, (∃ x6 : Int, (∃ x7 : Int, (∃ x8 : Int, ((rowF (x1, true) = some ([x5, x6, x7, x8], true)) ∧ bifW (cdec (s.data.toList = Array.toList (ByteArray.data { data := #[] }))) (Q (Value.tuple #[Value.agg #[Value.int .i64 0, Value.int .u64 0, Value.int .u64 0], Value.bool false])) (((true = true) ∧ ((true = true) ∧ ((true = true) ∧ ((true = true) ∧ (((0 : Int) ≤ 16) ∧ ((((0 : Int) ≤ 0) ∧ (0 < (↑8 : Int))) ∧ (((0 : Int) ≤ 16) ∧ ((((0 : Int) ≤ 4) ∧ (4 < (↑8 : Int))) ∧ ((true = true) ∧ (((0 : Int) ≤ 16) ∧ ((((0 : Int) ≤ 1) ∧ (1 < (↑8 : Int))) ∧ (((0 : Int) ≤ 16) ∧ ((((0 : Int) ≤ 5) ∧ (5 < (↑8 : Int))) ∧ ((true = true) ∧ (((0 : Int) ≤ 16) ∧ ((((0 : Int) ≤ 2) ∧ (2 < (↑8 : Int))) ∧ (((0 : Int) ≤ 16) ∧ ((((0 : Int) ≤ 6) ∧ (6 < (↑8 : Int))) ∧ ((true = true) ∧ (((0 : Int) ≤ 16) ∧ ((((0 : Int) ≤ 3) ∧ (3 < (↑8 : Int))) ∧ (((0 : Int) ≤ 16) ∧ ((((0 : Int) ≤ 7) ∧ (7 < (↑8 : Int))) ∧ ((true = true) ∧ Q (Value.tuple #[Value.agg #[Value.int .i64 6, Value.int .u64 (orI .u64 (shlI .u64 (orI .u64 (shlI .u64 (orI .u64 (shlI .u64 (orI .u64 (shlI .u64 0 16) x2) 16) x3) 16) x4) 16) 0), Value.int .u64 (orI .u64 (shlI .u64 (orI .u64 (shlI .u64 (orI .u64 (shlI .u64 (orI .u64 (shlI .u64 0 16) x5) 16) x6) 16) x7) 16) x8)], Value.bool true]))))))))))))))))))))))))))))))))))))))))) := by kernel_rfl

theorem vs41 (s : ByteArray) (Q : Value → Prop) : codeU Tryd.prog (cwC (LsixT 4 1)) (oxE [51, 59, 68, 76]) 9 (bodyOf Tryd.f52) (inTab [.string s] 8) (birth [] 64) (retW Tryd.prog Tryd.f52 fun v _ => Q v) = ((∃ x0 : ByteArray, (∃ x1 : ByteArray, ((cutF s { data := #[58, 58] } = some (x0, x1, true)) ∧ ((x0.data.toList ≠ []) ∧ (∃ x2 : Int, (∃ x3 : Int, (∃ x4 : Int, (∃ x5 : Int, ((rowF (x0, !true) = some ([x2, x3, x4, x5], true)) ∧ ((x1.data.toList ≠ []) ∧ (∃ x6 : Int, ((rowF (x1, true) = some ([x6], true)) ∧ bifW (cdec (s.data.toList = Array.toList (ByteArray.data { data := #[] }))) (Q (Value.tuple #[Value.agg #[Value.int .i64 0, Value.int .u64 0, Value.int .u64 0], Value.bool false])) (((true = true) ∧ ((true = true) ∧ ((true = true) ∧ ((true = true) ∧ ((true = true) ∧ ((true = true) ∧ (((0 : Int) ≤ 16) ∧ ((((0 : Int) ≤ 0) ∧ (0 < (↑8 : Int))) ∧ (((0 : Int) ≤ 16) ∧ ((((0 : Int) ≤ 4) ∧ (4 < (↑8 : Int))) ∧ ((true = true) ∧ (((0 : Int) ≤ 16) ∧ ((((0 : Int) ≤ 1) ∧ (1 < (↑8 : Int))) ∧ (((0 : Int) ≤ 16) ∧ ((((0 : Int) ≤ 5) ∧ (5 < (↑8 : Int))) ∧ ((true = true) ∧ (((0 : Int) ≤ 16) ∧ ((((0 : Int) ≤ 2) ∧ (2 < (↑8 : Int))) ∧ (((0 : Int) ≤ 16) ∧ ((((0 : Int) ≤ 6) ∧ (6 < (↑8 : Int))) ∧ ((true = true) ∧ (((0 : Int) ≤ 16) ∧ ((((0 : Int) ≤ 3) ∧ (3 < (↑8 : Int))) ∧ (((0 : Int) ≤ 16) ∧ ((((0 : Int) ≤ 7) ∧ (7 < (↑8 : Int))) ∧ ((true = true) ∧ Q (Value.tuple #[Value.agg #[Value.int .i64 6, Value.int .u64 (orI .u64 (shlI .u64 (orI .u64 (shlI .u64 (orI .u64 (shlI .u64 (orI .u64 (shlI .u64 0 16) x2) 16) x3) 16) x4) 16) x5), Value.int .u64 (orI .u64 (shlI .u64 (orI .u64 (shlI .u64 (orI .u64 (shlI .u64 (orI .u64 (shlI .u64 0 16) 0) 16) 0) 16) 0) 16) x6)], Value.bool true]))))))))))))))))))))))))))))))))))))))))) := by kernel_rfl

theorem vs43 (s : ByteArray) (Q : Value → Prop) : codeU Tryd.prog (cwC (LsixT 4 3)) (oxE [51, 59, 68, 76]) 9 (bodyOf Tryd.f52) (inTab [.string s] 8) (birth [] 64) (retW Tryd.prog Tryd.f52 fun v _ => Q v) = ((∃ x0 : ByteArray, (∃ x1 : ByteArray, ((cutF s { data := #[58, 58] } = some (x0, x1, true)) ∧ ((x0.data.toList ≠ []) ∧ (∃ x2 : Int, (∃ x3 : Int, (∃ x4 : Int, (∃ x5 : Int, ((rowF (x0, !true) = some ([x2, x3, x4, x5], true)) ∧ ((x1.data.toList ≠ []) ∧ (∃ x6 : Int, (∃ x7 : Int, (∃ x8 : Int, ((rowF (x1, true) = some ([x6, x7, x8], true)) ∧ bifW (cdec (s.data.toList = Array.toList (ByteArray.data { data := #[] }))) (Q (Value.tuple #[Value.agg #[Value.int .i64 0, Value.int .u64 0, Value.int .u64 0], Value.bool false])) (((true = true) ∧ ((true = true) ∧ ((true = true) ∧ ((true = true) ∧ (((0 : Int) ≤ 16) ∧ ((((0 : Int) ≤ 0) ∧ (0 < (↑8 : Int))) ∧ (((0 : Int) ≤ 16) ∧ ((((0 : Int) ≤ 4) ∧ (4 < (↑8 : Int))) ∧ ((true = true) ∧ (((0 : Int) ≤ 16) ∧ ((((0 : Int) ≤ 1) ∧ (1 < (↑8 : Int))) ∧ (((0 : Int) ≤ 16) ∧ ((((0 : Int) ≤ 5) ∧ (5 < (↑8 : Int))) ∧ ((true = true) ∧ (((0 : Int) ≤ 16) ∧ ((((0 : Int) ≤ 2) ∧ (2 < (↑8 : Int))) ∧ (((0 : Int) ≤ 16) ∧ ((((0 : Int) ≤ 6) ∧ (6 < (↑8 : Int))) ∧ ((true = true) ∧ (((0 : Int) ≤ 16) ∧ ((((0 : Int) ≤ 3) ∧ (3 < (↑8 : Int))) ∧ (((0 : Int) ≤ 16) ∧ ((((0 : Int) ≤ 7) ∧ (7 < (↑8 : Int))) ∧ ((true = true) ∧ Q (Value.tuple #[Value.agg #[Value.int .i64 6, Value.int .u64 (orI .u64 (shlI .u64 (orI .u64 (shlI .u64 (orI .u64 (shlI .u64 (orI .u64 (shlI .u64 0 16) x2) 16) x3) 16) x4) 16) x5), Value.int .u64 (orI .u64 (shlI .u64 (orI .u64 (shlI .u64 (orI .u64 (shlI .u64 (orI .u64 (shlI .u64 0 16) 0) 16) x6) 16) x7) 16) x8)], Value.bool true]))))))))))))))))))))))))))))))))))))))))) := by kernel_rfl

theorem vs51 (s : ByteArray) (Q : Value → Prop) : codeU Tryd.prog (cwC (LsixT 5 1)) (oxE [51, 59, 68, 76]) 9 (bodyOf Tryd.f52) (inTab [.string s] 8) (birth [] 64) (retW Tryd.prog Tryd.f52 fun v _ => Q v) = ((∃ x0 : ByteArray, (∃ x1 : ByteArray, ((cutF s { data := #[58, 58] } = some (x0, x1, true)) ∧ ((x0.data.toList ≠ []) ∧ (∃ x2 : Int, (∃ x3 : Int, (∃ x4 : Int, (∃ x5 : Int, (∃ x6 : Int, ((rowF (x0, !true) = some ([x2, x3, x4, x5, x6], true)) ∧ ((x1.data.toList ≠ []) ∧ (∃ x7 : Int, ((rowF (x1, true) = some ([x7], true)) ∧ bifW (cdec (s.data.toList = Array.toList (ByteArray.data { data := #[] }))) (Q (Value.tuple #[Value.agg #[Value.int .i64 0, Value.int .u64 0, Value.int .u64 0], Value.bool false])) (((true = true) ∧ ((true = true) ∧ ((true = true) ∧ ((true = true) ∧ ((true = true) ∧ (((0 : Int) ≤ 16) ∧ ((((0 : Int) ≤ 0) ∧ (0 < (↑8 : Int))) ∧ (((0 : Int) ≤ 16) ∧ ((((0 : Int) ≤ 4) ∧ (4 < (↑8 : Int))) ∧ ((true = true) ∧ (((0 : Int) ≤ 16) ∧ ((((0 : Int) ≤ 1) ∧ (1 < (↑8 : Int))) ∧ (((0 : Int) ≤ 16) ∧ ((((0 : Int) ≤ 5) ∧ (5 < (↑8 : Int))) ∧ ((true = true) ∧ (((0 : Int) ≤ 16) ∧ ((((0 : Int) ≤ 2) ∧ (2 < (↑8 : Int))) ∧ (((0 : Int) ≤ 16) ∧ ((((0 : Int) ≤ 6) ∧ (6 < (↑8 : Int))) ∧ ((true = true) ∧ (((0 : Int) ≤ 16) ∧ ((((0 : Int) ≤ 3) ∧ (3 < (↑8 : Int))) ∧ (((0 : Int) ≤ 16) ∧ ((((0 : Int) ≤ 7) ∧ (7 < (↑8 : Int))) ∧ ((true = true) ∧ Q (Value.tuple #[Value.agg #[Value.int .i64 6, Value.int .u64 (orI .u64 (shlI .u64 (orI .u64 (shlI .u64 (orI .u64 (shlI .u64 (orI .u64 (shlI .u64 0 16) x2) 16) x3) 16) x4) 16) x5), Value.int .u64 (orI .u64 (shlI .u64 (orI .u64 (shlI .u64 (orI .u64 (shlI .u64 (orI .u64 (shlI .u64 0 16) x6) 16) 0) 16) 0) 16) x7)], Value.bool true]))))))))))))))))))))))))))))))))))))))))) := by kernel_rfl

theorem vs60 (s : ByteArray) (Q : Value → Prop) : codeU Tryd.prog (cwC (LsixT 6 0)) (oxE [51, 59, 68, 76]) 9 (bodyOf Tryd.f52) (inTab [.string s] 8) (birth [] 64) (retW Tryd.prog Tryd.f52 fun v _ => Q v) = ((∃ x0 : ByteArray, (∃ x1 : ByteArray, ((cutF s { data := #[58, 58] } = some (x0, x1, true)) ∧ ((x0.data.toList ≠ []) ∧ (∃ x2 : Int, (∃ x3 : Int, (∃ x4 : Int, (∃ x5 : Int, (∃ x6 : Int, (∃ x7 : Int, ((rowF (x0, !true) = some ([x2, x3, x4, x5, x6, x7], true)) ∧ ((x1.data.toList = []) ∧ ((rowF (x1, true) = some ([], true)) ∧ bifW (cdec (s.data.toList = Array.toList (ByteArray.data { data := #[] }))) (Q (Value.tuple #[Value.agg #[Value.int .i64 0, Value.int .u64 0, Value.int .u64 0], Value.bool false])) (((true = true) ∧ ((true = true) ∧ ((true = true) ∧ ((true = true) ∧ ((true = true) ∧ (((0 : Int) ≤ 16) ∧ ((((0 : Int) ≤ 0) ∧ (0 < (↑8 : Int))) ∧ (((0 : Int) ≤ 16) ∧ ((((0 : Int) ≤ 4) ∧ (4 < (↑8 : Int))) ∧ ((true = true) ∧ (((0 : Int) ≤ 16) ∧ ((((0 : Int) ≤ 1) ∧ (1 < (↑8 : Int))) ∧ (((0 : Int) ≤ 16) ∧ ((((0 : Int) ≤ 5) ∧ (5 < (↑8 : Int))) ∧ ((true = true) ∧ (((0 : Int) ≤ 16) ∧ ((((0 : Int) ≤ 2) ∧ (2 < (↑8 : Int))) ∧ (((0 : Int) ≤ 16) ∧ ((((0 : Int) ≤ 6) ∧ (6 < (↑8 : Int))) ∧ ((true = true) ∧ (((0 : Int) ≤ 16) ∧ ((((0 : Int) ≤ 3) ∧ (3 < (↑8 : Int))) ∧ (((0 : Int) ≤ 16) ∧ ((((0 : Int) ≤ 7) ∧ (7 < (↑8 : Int))) ∧ ((true = true) ∧ Q (Value.tuple #[Value.agg #[Value.int .i64 6, Value.int .u64 (orI .u64 (shlI .u64 (orI .u64 (shlI .u64 (orI .u64 (shlI .u64 (orI .u64 (shlI .u64 0 16) x2) 16) x3) 16) x4) 16) x5), Value.int .u64 (orI .u64 (shlI .u64 (orI .u64 (shlI .u64 (orI .u64 (shlI .u64 (orI .u64 (shlI .u64 0 16) x6) 16) x7) 16) 0) 16) 0)], Value.bool true]))))))))))))))))))))))))))))))))))))))))) := by kernel_rfl

theorem vs70 (s : ByteArray) (Q : Value → Prop) : codeU Tryd.prog (cwC (LsixT 7 0)) (oxE [51, 59, 68, 76]) 9 (bodyOf Tryd.f52) (inTab [.string s] 8) (birth [] 64) (retW Tryd.prog Tryd.f52 fun v _ => Q v) = ((∃ x0 : ByteArray, (∃ x1 : ByteArray, ((cutF s { data := #[58, 58] } = some (x0, x1, true)) ∧ ((x0.data.toList ≠ []) ∧ (∃ x2 : Int, (∃ x3 : Int, (∃ x4 : Int, (∃ x5 : Int, (∃ x6 : Int, (∃ x7 : Int, (∃ x8 : Int, ((rowF (x0, !true) = some ([x2, x3, x4, x5, x6, x7, x8], true)) ∧ ((x1.data.toList = []) ∧ ((rowF (x1, true) = some ([], true)) ∧ bifW (cdec (s.data.toList = Array.toList (ByteArray.data { data := #[] }))) (Q (Value.tuple #[Value.agg #[Value.int .i64 0, Value.int .u64 0, Value.int .u64 0], Value.bool false])) (((true = true) ∧ ((true = true) ∧ ((true = true) ∧ ((true = true) ∧ (((0 : Int) ≤ 16) ∧ ((((0 : Int) ≤ 0) ∧ (0 < (↑8 : Int))) ∧ (((0 : Int) ≤ 16) ∧ ((((0 : Int) ≤ 4) ∧ (4 < (↑8 : Int))) ∧ ((true = true) ∧ (((0 : Int) ≤ 16) ∧ ((((0 : Int) ≤ 1) ∧ (1 < (↑8 : Int))) ∧ (((0 : Int) ≤ 16) ∧ ((((0 : Int) ≤ 5) ∧ (5 < (↑8 : Int))) ∧ ((true = true) ∧ (((0 : Int) ≤ 16) ∧ ((((0 : Int) ≤ 2) ∧ (2 < (↑8 : Int))) ∧ (((0 : Int) ≤ 16) ∧ ((((0 : Int) ≤ 6) ∧ (6 < (↑8 : Int))) ∧ ((true = true) ∧ (((0 : Int) ≤ 16) ∧ ((((0 : Int) ≤ 3) ∧ (3 < (↑8 : Int))) ∧ (((0 : Int) ≤ 16) ∧ ((((0 : Int) ≤ 7) ∧ (7 < (↑8 : Int))) ∧ ((true = true) ∧ Q (Value.tuple #[Value.agg #[Value.int .i64 6, Value.int .u64 (orI .u64 (shlI .u64 (orI .u64 (shlI .u64 (orI .u64 (shlI .u64 (orI .u64 (shlI .u64 0 16) x2) 16) x3) 16) x4) 16) x5), Value.int .u64 (orI .u64 (shlI .u64 (orI .u64 (shlI .u64 (orI .u64 (shlI .u64 (orI .u64 (shlI .u64 0 16) x6) 16) x7) 16) x8) 16) 0)], Value.bool true]))))))))))))))))))))))))))))))))))))))))) := by kernel_rfl

end Go.Proofs.YtfnacgojmdbjmaaDoor
end

section
/- Conditions, reckoned by the kernel. -/
namespace Go.Proofs.YtfnacgojmdbjmaaDoor
open Go.Det Go.RowKit  Go.Proofs.YtfnacgojmdbjmaaDoorW.PrintWords
set_option maxRecDepth 100000

theorem vs00 (s : ByteArray) (Q : Value → Prop) : codeU Tryd.prog (cwC (LsixT 0 0)) (oxE [51, 59, 68, 76]) 9 (bodyOf Tryd.f52) (inTab [.string s] 8) (birth [] 64) (retW Tryd.prog Tryd.f52 fun v _ => Q v) = ((∃ x0 : ByteArray, (∃ x1 : ByteArray, ((cutF s { data := #[58, 58] } = some (x0, x1, true)) ∧ ((x0.data.toList = []) ∧ ((rowF (x0, !true) = some ([], true)) ∧ ((x1.data.toList = []) ∧ ((rowF (x1, true) = some ([], true)) ∧ bifW (cdec (s.data.toList = Array.toList (ByteArray.data { data := #[] }))) (Q (Value.tuple #[Value.agg #[Value.int .i64 0, Value.int .u64 0, Value.int .u64 0], Value.bool false])) (((true = true) ∧ ((true = true) ∧ ((true = true) ∧ ((true = true) ∧ ((true = true) ∧ ((true = true) ∧ ((true = true) ∧ ((true = true) ∧ ((true = true) ∧ ((true = true) ∧ ((true = true) ∧ (((0 : Int) ≤ 16) ∧ ((((0 : Int) ≤ 0) ∧ (0 < (↑8 : Int))) ∧ (((0 : Int) ≤ 16) ∧ ((((0 : Int) ≤ 4) ∧ (4 < (↑8 : Int))) ∧ ((true = true) ∧ (((0 : Int) ≤ 16) ∧ ((((0 : Int) ≤ 1) ∧ (1 < (↑8 : Int))) ∧ (((0 : Int) ≤ 16) ∧ ((((0 : Int) ≤ 5) ∧ (5 < (↑8 : Int))) ∧ ((true = true) ∧ (((0 : Int) ≤ 16) ∧ ((((0 : Int) ≤ 2) ∧ (2 < (↑8 : Int))) ∧ (((0 : Int) ≤ 16) ∧ ((((0 : Int) ≤ 6) ∧ (6 < (↑8 : Int))) ∧ ((true = true) ∧ (((0 : Int) ≤ 16) ∧ ((((0 : Int) ≤ 3) ∧ (3 < (↑8 : Int))) ∧ (((0 : Int) ≤ 16) ∧ ((((0 : Int) ≤ 7) ∧ (7 < (↑8 : Int))) ∧ ((true = true) ∧ Q (Value.tuple #[Value.agg #[Value.int .i64 6, Value.int .u64 (orI .u64 (shlI .u64 (orI .u64 (shlI .u64 (orI .u64 (shlI .u64 (orI .u64 (shlI .u64 0 16) 0) 16) 0) 16) 0) 16) 0), Value.int .u64 (orI .u64 (shlI .u64 (orI .u64 (shlI .u64 (orI .u64 (shlI .u64 (orI .u64 (shlI .u64 0 16) 0) 16) 0) 16) 0) 16) 0)], Value.bool true]))))))))))))))))))))))))))))))))))))))))) := by kernel_rfl

theorem vs02 (s : ByteArray) (Q : Value → Prop) : codeU Tryd.prog (cwC (LsixT 0 2)) (oxE [51, 59, 68, 76]) 9 (bodyOf Tryd.f52) (inTab [.string s] 8) (birth [] 64) (retW Tryd.prog Tryd.f52 fun v _ => Q v) = ((∃ x0 : ByteArray, (∃ x1 : ByteArray, ((cutF s { data := #[58, 58] } = some (x0, x1, true)) ∧ ((x0.data.toList = []) ∧ ((rowF (x0, !true) = some ([], true)) ∧ ((x1.data.toList ≠ []) ∧ (∃ x2 : Int, (∃ x3 : Int, ((rowF (x1, true) = some ([x2, x3], true)) ∧ bifW (cdec (s.data.toList = Array.toList (ByteArray.data { data := #[] }))) (Q (Value.tuple #[Value.agg #[Value.int .i64 0, Value.int .u64 0, Value.int .u64 0], Value.bool false])) (((true = true) ∧ ((true = true) ∧ ((true = true) ∧ ((true = true) ∧ ((true = true) ∧ ((true = true) ∧ ((true = true) ∧ ((true = true) ∧ ((true = true) ∧ (((0 : Int) ≤ 16) ∧ ((((0 : Int) ≤ 0) ∧ (0 < (↑8 : Int))) ∧ (((0 : Int) ≤ 16) ∧ ((((0 : Int) ≤ 4) ∧ (4 < (↑8 : Int))) ∧ ((true = true) ∧ (((0 : Int) ≤ 16) ∧ ((((0 : Int) ≤ 1) ∧ (1 < (↑8 : Int))) ∧ (((0 : Int) ≤ 16) ∧ ((((0 : Int) ≤ 5) ∧ (5 < (↑8 : Int))) ∧ ((true = true) ∧ (((0 : Int) ≤ 16) ∧ ((((0 : Int) ≤ 2) ∧ (2 < (↑8 : Int))) ∧ (((0 : Int) ≤ 16) ∧ ((((0 : Int) ≤ 6) ∧ (6 < (↑8 : Int))) ∧ ((true = true) ∧ (((0 : Int) ≤ 16) ∧ ((((0 : Int) ≤ 3) ∧ (3 < (↑8 : Int))) ∧ (((0 : Int) ≤ 16) ∧ ((((0 : Int) ≤ 7) ∧ (7 < (↑8 : Int))) ∧ ((true = true) ∧ Q (Value.tuple #[Value.agg #[Value.int .i64 6, Value.int .u64 (orI .u64 (shlI .u64 (orI .u64 (shlI .u64 (orI .u64 (shlI .u64 (orI .u64 (shlI .u64 0 16) 0) 16) 0) 16) 0) 16) 0), Value.int .u64 (orI .u64 (shlI .u64 (orI .u64 (shlI .u64 (orI .u64 (shlI .u64 (orI .u64 (shlI .u64 0 16) 0) 16) 0) 16) x2) 16) x3)], Value.bool true]))))))))))))))))))))))))))))))))))))))))) := by kernel_rfl

theorem vs04 (s : ByteArray) (Q : Value → Prop) : codeU Tryd.prog (cwC (LsixT 0 4)) (oxE [51, 59, 68, 76]) 9 (bodyOf Tryd.f52) (inTab [.string s] 8) (birth [] 64) (retW Tryd.prog Tryd.f52 fun v _ => Q v) = ((∃ x0 : ByteArray, (∃ x1 : ByteArray, ((cutF s { data := #[58, 58] } = some (x0, x1, true)) ∧ ((x0.data.toList = []) ∧ ((rowF (x0, !true) = some ([], true)) ∧ ((x1.data.toList ≠ []) ∧ (∃ x2 : Int, (∃ x3 : Int, (∃ x4 : Int, (∃ x5 : Int, ((rowF (x1, true) = some ([x2, x3, x4, x5], true)) ∧ bifW (cdec (s.data.toList = Array.toList (ByteArray.data { data := #[] }))) (Q (Value.tuple #[Value.agg #[Value.int .i64 0, Value.int .u64 0, Value.int .u64 0], Value.bool false])) (((true = true) ∧ ((true = true) ∧ ((true = true) ∧ ((true = true) ∧ ((true = true) ∧ ((true = true) ∧ ((true = true) ∧ (((0 : Int) ≤ 16) ∧ ((((0 : Int) ≤ 0) ∧ (0 < (↑8 : Int))) ∧ (((0 : Int) ≤ 16) ∧ ((((0 : Int) ≤ 4) ∧ (4 < (↑8 : Int))) ∧ ((true = true) ∧ (((0 : Int) ≤ 16) ∧ ((((0 : Int) ≤ 1) ∧ (1 < (↑8 : Int))) ∧ (((0 : Int) ≤ 16) ∧ ((((0 : Int) ≤ 5) ∧ (5 < (↑8 : Int))) ∧ ((true = true) ∧ (((0 : Int) ≤ 16) ∧ ((((0 : Int) ≤ 2) ∧ (2 < (↑8 : Int))) ∧ (((0 : Int) ≤ 16) ∧ ((((0 : Int) ≤ 6) ∧ (6 < (↑8 : Int))) ∧ ((true = true) ∧ (((0 : Int) ≤ 16) ∧ ((((0 : Int) ≤ 3) ∧ (3 < (↑8 : Int))) ∧ (((0 : Int) ≤ 16) ∧ ((((0 : Int) ≤ 7) ∧ (7 < (↑8 : Int))) ∧ ((true = true) ∧ Q (Value.tuple #[Value.agg #[Value.int .i64 6, Value.int .u64 (orI .u64 (shlI .u64 (orI .u64 (shlI .u64 (orI .u64 (shlI .u64 (orI .u64 (shlI .u64 0 16) 0) 16) 0) 16) 0) 16) 0), Value.int .u64 (orI .u64 (shlI .u64 (orI .u64 (shlI .u64 (orI .u64 (shlI .u64 (orI .u64 (shlI .u64 0 16) x2) 16) x3) 16) x4) 16) x5)], Value.bool true]))))))))))))))))))))))))))))))))))))))))) := by kernel_rfl

theorem vs06 (s : ByteArray) (Q : Value → Prop) : codeU Tryd.prog (cwC (LsixT 0 6)) (oxE [51, 59, 68, 76]) 9 (bodyOf Tryd.f52) (inTab [.string s] 8) (birth [] 64) (retW Tryd.prog Tryd.f52 fun v _ => Q v) = ((∃ x0 : ByteArray, (∃ x1 : ByteArray, ((cutF s { data := #[58, 58] } = some (x0, x1, true)) ∧ ((x0.data.toList = []) ∧ ((rowF (x0, !true) = some ([], true)) ∧ ((x1.data.toList ≠ []) ∧ (∃ x2 : Int, (∃ x3 : Int, (∃ x4 : Int, (∃ x5 : Int, (∃ x6 : Int, (∃ x7 : Int, ((rowF (x1, true) = some ([x2, x3, x4, x5, x6, x7], true)) ∧ bifW (cdec (s.data.toList = Array.toList (ByteArray.data { data := #[] }))) (Q (Value.tuple #[Value.agg #[Value.int .i64 0, Value.int .u64 0, Value.int .u64 0], Value.bool false])) (((true = true) ∧ ((true = true) ∧ ((true = true) ∧ ((true = true) ∧ ((true = true) ∧ (((0 : Int) ≤ 16) ∧ ((((0 : Int) ≤ 0) ∧ (0 < (↑8 : Int))) ∧ (((0 : Int) ≤ 16) ∧ ((((0 : Int) ≤ 4) ∧ (4 < (↑8 : Int))) ∧ ((true = true) ∧ (((0 : Int) ≤ 16) ∧ ((((0 : Int) ≤ 1) ∧ (1 < (↑8 : Int))) ∧ (((0 : Int) ≤ 16) ∧ ((((0 : Int) ≤ 5) ∧ (5 < (↑8 : Int))) ∧ ((true = true) ∧ (((0 : Int) ≤ 16) ∧ ((((0 : Int) ≤ 2) ∧ (2 < (↑8 : Int))) ∧ (((0 : Int) ≤ 16) ∧ ((((0 : Int) ≤ 6) ∧ (6 < (↑8 : Int))) ∧ ((true = true) ∧ (((0 : Int) ≤ 16) ∧ ((((0 : Int) ≤ 3) ∧ (3 < (↑8 : Int))) ∧ (((0 : Int) ≤ 16) ∧ ((((0 : Int) ≤ 7) ∧ (7 < (↑8 : Int))) ∧ ((true = true) ∧ Q (Value.tuple #[Value.agg #[Value.int .i64 6, Value.int .u64 (orI .u64 (shlI .u64 (orI .u64 (shlI .u64 (orI .u64 (shlI .u64 (orI .u64 (shlI .u64 0 16) 0) 16) 0) 16) x2) 16) x3), Value.int .u64 (orI .u64 (shlI .u64 (orI .u64 (shlI .u64 (orI .u64 (shlI .u64 (orI .u64 (shlI .u64 0 16) x4) 16) x5) 16) x6) 16) x7)], Value.bool true]))))))))))))))))))))))))))))))))))))))))) := by kernel_rfl

theorem vs10 (s : ByteArray) (Q : Value → Prop) : codeU Tryd.prog (cwC (LsixT 1 0)) (oxE [51, 59, 68, 76]) 9 (bodyOf Tryd.f52) (inTab [.string s] 8) (birth [] 64) (retW Tryd.prog Tryd.f52 fun v _ => Q v) = ((∃ x0 : ByteArray, (∃ x1 : ByteArray, ((cutF s { data := #[58, 58] } = some (x0, x1, true)) ∧ ((x0.data.toList ≠ []) ∧ (∃ x2 : Int, ((rowF (x0, !true) = some ([x2], true)) ∧ ((x1.data.toList = []) ∧ ((rowF (x1, true) = some ([], true)) ∧ bifW (cdec (s.data.toList = Array.toList (ByteArray.data { data := #[] }))) (Q (Value.tuple #[Value.agg #[Value.int .i64 0, Value.int .u64 0, Value.int .u64 0], Value.bool false])) (((true = true) ∧ ((true = true) ∧ ((true = true) ∧ ((true = true) ∧ ((true = true) ∧ ((true = true) ∧ ((true = true) ∧ ((true = true) ∧ ((true = true) ∧ ((true = true) ∧ (((0 : Int) ≤ 16) ∧ ((((0 : Int) ≤ 0) ∧ (0 < (↑8 : Int))) ∧ (((0 : Int) ≤ 16) ∧ ((((0 : Int) ≤ 4) ∧ (4 < (↑8 : Int))) ∧ ((true = true) ∧ (((0 : Int) ≤ 16) ∧ ((((0 : Int) ≤ 1) ∧ (1 < (↑8 : Int))) ∧ (((0 : Int) ≤ 16) ∧ ((((0 : Int) ≤ 5) ∧ (5 < (↑8 : Int))) ∧ ((true = true) ∧ (((0 : Int) ≤ 16) ∧ ((((0 : Int) ≤ 2) ∧ (2 < (↑8 : Int))) ∧ (((0 : Int) ≤ 16) ∧ ((((0 : Int) ≤ 6) ∧ (6 < (↑8 : Int))) ∧ ((true = true) ∧ (((0 : Int) ≤ 16) ∧ ((((0 : Int) ≤ 3) ∧ (3 < (↑8 : Int))) ∧ (((0 : Int) ≤ 16) ∧ ((((0 : Int) ≤ 7) ∧ (7 < (↑8 : Int))) ∧ ((true = true) ∧ Q (Value.tuple #[Value.agg #[Value.int .i64 6, Value.int .u64 (orI .u64 (shlI .u64 (orI .u64 (shlI .u64 (orI .u64 (shlI .u64 (orI .u64 (shlI .u64 0 16) x2) 16) 0) 16) 0) 16) 0), Value.int .u64 (orI .u64 (shlI .u64 (orI .u64 (shlI .u64 (orI .u64 (shlI .u64 (orI .u64 (shlI .u64 0 16) 0) 16) 0) 16) 0) 16) 0)], Value.bool true]))))))))))))))))))))))))))))))))))))))))) := by kernel_rfl

theorem vs12 (s : ByteArray) (Q : Value → Prop) : codeU Tryd.prog (cwC (LsixT 1 2)) (oxE [51, 59, 68, 76]) 9 (bodyOf Tryd.f52) (inTab [.string s] 8) (birth [] 64) (retW Tryd.prog Tryd.f52 fun v _ => Q v) = ((∃ x0 : ByteArray, (∃ x1 : ByteArray, ((cutF s { data := #[58, 58] } = some (x0, x1, true)) ∧ ((x0.data.toList ≠ []) ∧ (∃ x2 : Int, ((rowF (x0, !true) = some ([x2], true)) ∧ ((x1.data.toList ≠ []) ∧ (∃ x3 : Int, (∃ x4 : Int, ((rowF (x1, true) = some ([x3, x4], true)) ∧ bifW (cdec (s.data.toList = Array.toList (ByteArray.data { data := #[] }))) (Q (Value.tuple #[Value.agg #[Value.int .i64 0, Value.int .u64 0, Value.int .u64 0], Value.bool false])) (((true = true) ∧ ((true = true) ∧ ((true = true) ∧ ((true = true) ∧ ((true = true) ∧ ((true = true) ∧ ((true = true) ∧ ((true = true) ∧ (((0 : Int) ≤ 16) ∧ ((((0 : Int) ≤ 0) ∧ (0 < (↑8 : Int))) ∧ (((0 : Int) ≤ 16) ∧ ((((0 : Int) ≤ 4) ∧ (4 < (↑8 : Int))) ∧ ((true = true) ∧ (((0 : Int) ≤ 16) ∧ ((((0 : Int) ≤ 1) ∧ (1 < (↑8 : Int))) ∧ (((0 : Int) ≤ 16) ∧ ((((0 : Int) ≤ 5) ∧ (5 < (↑8 : Int))) ∧ ((true = true) ∧ (((0 : Int) ≤ 16) ∧ ((((0 : Int) ≤ 2) ∧ (2 < (↑8 : Int))) ∧ (((0 : Int) ≤ 16) ∧ ((((0 : Int) ≤ 6) ∧ (6 < (↑8 : Int))) ∧ ((true = true) ∧ (((0 : Int) ≤ 16) ∧ ((((0 : Int) ≤ 3) ∧ (3 < (↑8 : Int))) ∧ (((0 : Int) ≤ 16) ∧ ((((0 : Int) ≤ 7) ∧ (7 < (↑8 : Int))) ∧ ((true = true) ∧ Q (Value.tuple #[Value.agg #[Value.int .i64 6, Value.int .u64 (orI .u64 (shlI .u64 (orI .u64 (shlI .u64 (orI .u64 (shlI .u64 (orI .u64 (shlI .u64 0 16) x2) 16) 0) 16) 0) 16) 0), Value.int .u64 (orI .u64 (shlI .u64 (orI .u64 (shlI .u64 (orI .u64 (shlI .u64 (orI .u64 (shlI .u64 0 16) 0) 16) 0) 16) x3) 16) x4)], Value.bool true]))))))))))))))))))))))))))))))))))))))))) := by kernel_rfl

theorem vs14 (s : ByteArray) (Q : Value → Prop) : codeU Tryd.prog (cwC (LsixT 1 4)) (oxE [51, 59, 68, 76]) 9 (bodyOf Tryd.f52) (inTab [.string s] 8) (birth [] 64) (retW Tryd.prog Tryd.f52 fun v _ => Q v) = ((∃ x0 : ByteArray, (∃ x1 : ByteArray, ((cutF s { data := #[58, 58] } = some (x0, x1, true)) ∧ ((x0.data.toList ≠ []) ∧ (∃ x2 : Int, ((rowF (x0, !true) = some ([x2], true)) ∧ ((x1.data.toList ≠ []) ∧ (∃ x3 : Int, (∃ x4 : Int, (∃ x5 : Int, (∃ x6 : Int, ((rowF (x1, true) = some ([x3, x4, x5, x6], true)) ∧ bifW (cdec (s.data.toList = Array.toList (ByteArray.data { data := #[] }))) (Q (Value.tuple #[Value.agg #[Value.int .i64 0, Value.int .u64 0, Value.int .u64 0], Value.bool false])) (((true = true) ∧ ((true = true) ∧ ((true = true) ∧ ((true = true) ∧ ((true = true) ∧ ((true = true) ∧ (((0 : Int) ≤ 16) ∧ ((((0 : Int) ≤ 0) ∧ (0 < (↑8 : Int))) ∧ (((0 : Int) ≤ 16) ∧ ((((0 : Int) ≤ 4) ∧ (4 < (↑8 : Int))) ∧ ((true = true) ∧ (((0 : Int) ≤ 16) ∧ ((((0 : Int) ≤ 1) ∧ (1 < (↑8 : Int))) ∧ (((0 : Int) ≤ 16) ∧ ((((0 : Int) ≤ 5) ∧ (5 < (↑8 : Int))) ∧ ((true = true) ∧ (((0 : Int) ≤ 16) ∧ ((((0 : Int) ≤ 2) ∧ (2 < (↑8 : Int))) ∧ (((0 : Int) ≤ 16) ∧ ((((0 : Int) ≤ 6) ∧ (6 < (↑8 : Int))) ∧ ((true = true) ∧ (((0 : Int) ≤ 16) ∧ ((((0 : Int) ≤ 3) ∧ (3 < (↑8 : Int))) ∧ (((0 : Int) ≤ 16) ∧ ((((0 : Int) ≤ 7) ∧ (7 < (↑8 : Int))) ∧ ((true = true) ∧ Q (Value.tuple #[Value.agg #[Value.int .i64 6, Value.int .u64 (orI .u64 (shlI .u64 (orI .u64 (shlI .u64 (orI .u64 (shlI .u64 (orI .u64 (shlI .u64 0 16) x2) 16) 0) 16) 0) 16) 0), Value.int .u64 (orI .u64 (shlI .u64 (orI .u64 (shlI .u64 (orI .u64 (shlI .u64 (orI .u64 (shlI .u64 0 16) x3) 16) x4) 16) x5) 16) x6)], Value.bool true]))))))))))))))))))))))))))))))))))))))))) := by kernel_rfl

theorem vs16 (s : ByteArray) (Q : Value → Prop) : codeU Tryd.prog (cwC (LsixT 1 6)) (oxE [51, 59, 68, 76]) 9 (bodyOf Tryd.f52) (inTab [.string s] 8) (birth [] 64) (retW Tryd.prog Tryd.f52 fun v _ => Q v) = ((∃ x0 : ByteArray, (∃ x1 : ByteArray, ((cutF s { data := #[58, 58] } = some (x0, x1, true)) ∧ ((x0.data.toList ≠ []) ∧ (∃ x2 : Int, ((rowF (x0, !true) = some ([x2], true)) ∧ ((x1.data.toList ≠ []) ∧ (∃ x3 : Int, (∃ x4 : Int, (∃ x5 : Int, (∃ x6 : Int, (∃ x7 : Int, (∃ x8 : Int, ((rowF (x1, true) = some ([x3, x4, x5, x6, x7, x8], true)) ∧ bifW (cdec (s.data.toList = Array.toList (ByteArray.data { data := #[] }))) (Q (Value.tuple #[Value.agg #[Value.int .i64 0, Value.int .u64 0, Value.int .u64 0], Value.bool false])) (((true = true) ∧ ((true = true) ∧ ((true = true) ∧ ((true = true) ∧ (((0 : Int) ≤ 16) ∧ ((((0 : Int) ≤ 0) ∧ (0 < (↑8 : Int))) ∧ (((0 : Int) ≤ 16) ∧ ((((0 : Int) ≤ 4) ∧ (4 < (↑8 : Int))) ∧ ((true = true) ∧ (((0 : Int) ≤ 16) ∧ ((((0 : Int) ≤ 1) ∧ (1 < (↑8 : Int))) ∧ (((0 : Int) ≤ 16) ∧ ((((0 : Int) ≤ 5) ∧ (5 < (↑8 : Int))) ∧ ((true = true) ∧ (((0 : Int) ≤ 16) ∧ ((((0 : Int) ≤ 2) ∧ (2 < (↑8 : Int))) ∧ (((0 : Int) ≤ 16) ∧ ((((0 : Int) ≤ 6) ∧ (6 < (↑8 : Int))) ∧ ((true = true) ∧ (((0 : Int) ≤ 16) ∧ ((((0 : Int) ≤ 3) ∧ (3 < (↑8 : Int))) ∧ (((0 : Int) ≤ 16) ∧ ((((0 : Int) ≤ 7) ∧ (7 < (↑8 : Int))) ∧ ((true = true) ∧ Q (Value.tuple #[Value.agg #[Value.int .i64 6, Value.int .u64 (orI .u64 (shlI .u64 (orI .u64 (shlI .u64 (orI .u64 (shlI .u64 (orI .u64 (shlI .u64 0 16) x2) 16) 0) 16) x3) 16) x4), Value.int .u64 (orI .u64 (shlI .u64 (orI .u64 (shlI .u64 (orI .u64 (shlI .u64 (orI .u64 (shlI .u64 0 16) x5) 16) x6) 16) x7) 16) x8)], Value.bool true]))))))))))))))))))))))))))))))))))))))))) := by kernel_rfl

theorem vs21 (s : ByteArray) (Q : Value → Prop) : codeU Tryd.prog (cwC (LsixT 2 1)) (oxE [51, 59, 68, 76]) 9 (bodyOf Tryd.f52) (inTab [.string s] 8) (birth [] 64) (retW Tryd.prog Tryd.f52 fun v _ => Q v) = ((∃ x0 : ByteArray, (∃ x1 : ByteArray, ((cutF s { data := #[58, 58] } = some (x0, x1, true)) ∧ ((x0.data.toList ≠ []) ∧ (∃ x2 : Int, (∃ x3 : Int, ((rowF (x0, !true) = some ([x2, x3], true)) ∧ ((x1.data.toList ≠ []) ∧ (∃ x4 : Int, ((rowF (x1, true) = some ([x4], true)) ∧ bifW (cdec (s.data.toList = Array.toList (ByteArray.data { data := #[] }))) (Q (Value.tuple #[Value.agg #[Value.int .i64 0, Value.int .u64 0, Value.int .u64 0], Value.bool false])) (((true = true) ∧ ((true = true) ∧ ((true = true) ∧ ((true = true) ∧ ((true = true) ∧ ((true = true) ∧ ((true = true) ∧ ((true = true) ∧ (((0 : Int) ≤ 16) ∧ ((((0 : Int) ≤ 0) ∧ (0 < (↑8 : Int))) ∧ (((0 : Int) ≤ 16) ∧ ((((0 : Int) ≤ 4) ∧ (4 < (↑8 : Int))) ∧ ((true = true) ∧ (((0 : Int) ≤ 16) ∧ ((((0 : Int) ≤ 1) ∧ (1 < (↑8 : Int))) ∧ (((0 : Int) ≤ 16) ∧ ((((0 : Int) ≤ 5) ∧ (5 < (↑8 : Int))) ∧ ((true = true) ∧ (((0 : Int) ≤ 16) ∧ ((((0 : Int) ≤ 2) ∧ (2 < (↑8 : Int))) ∧ (((0 : Int) ≤ 16) ∧ ((((0 : Int) ≤ 6) ∧ (6 < (↑8 : Int))) ∧ ((true = true) ∧ (((0 : Int) ≤ 16) ∧ ((((0 : Int) ≤ 3) ∧ (3 < (↑8 : Int))) ∧ (((0 : Int) ≤ 16) ∧ ((((0 : Int) ≤ 7) ∧ (7 < (↑8 : Int))) ∧ ((true = true) ∧ Q (Value.tuple #[Value.agg #[Value.int .i64 6, Value.int .u64 (orI .u64 (shlI .u64 (orI .u64 (shlI .u64 (orI .u64 (shlI .u64 (orI .u64 (shlI .u64 0 16) x2) 16) x3) 16) 0) 16) 0), Value.int .u64 (orI .u64 (shlI .u64 (orI .u64 (shlI .u64 (orI .u64 (shlI .u64 (orI .u64 (shlI .u64 0 16) 0) 16) 0) 16) 0) 16) x4)], Value.bool true]))))))))))))))))))))))))))))))))))))))))) := by kernel_rfl

theorem vs23 (s : ByteArray) (Q : Value → Prop) : codeU Tryd.prog (cwC (LsixT 2 3)) (oxE [51, 59, 68, 76]) 9 (bodyOf Tryd.f52) (inTab [.string s] 8) (birth [] 64) (retW Tryd.prog Tryd.f52 fun v _ => Q v) = ((∃ x0 : ByteArray, (∃ x1 : ByteArray, ((cutF s { data := #[58, 58] } = some (x0, x1, true)) ∧ ((x0.data.toList ≠ []) ∧ (∃ x2 : Int, (∃ x3 : Int, ((rowF (x0, !true) = some ([x2, x3], true)) ∧ ((x1.data.toList ≠ []) ∧ (∃ x4 : Int, (∃ x5 : Int, (∃ x6 : Int, ((rowF (x1, true) = some ([x4, x5, x6], true)) ∧ bifW (cdec (s.data.toList = Array.toList (ByteArray.data { data := #[] }))) (Q (Value.tuple #[Value.agg #[Value.int .i64 0, Value.int .u64 0, Value.int .u64 0], Value.bool false])) (((true = true) ∧ ((true = true) ∧ ((true = true) ∧ ((true = true) ∧ ((true = true) ∧ ((true = true) ∧ (((0 : Int) ≤ 16) ∧ ((((0 : Int) ≤ 0) ∧ (0 < (↑8 : Int))) ∧ (((0 : Int) ≤ 16) ∧ ((((0 : Int) ≤ 4) ∧ (4 < (↑8 : Int))) ∧ ((true = true) ∧ (((0 : Int) ≤ 16) ∧ ((((0 : Int) ≤ 1) ∧ (1 < (↑8 : Int))) ∧ (((0 : Int) ≤ 16) ∧ ((((0 : Int) ≤ 5) ∧ (5 < (↑8 : Int))) ∧ ((true = true) ∧ (((0 : Int) ≤ 16) ∧ ((((0 : Int) ≤ 2) ∧ (2 < (↑8 : Int))) ∧ (((0 : Int) ≤ 16) ∧ ((((0 : Int) ≤ 6) ∧ (6 < (↑8 : Int))) ∧ ((true = true) ∧ (((0 : Int) ≤ 16) ∧ ((((0 : Int) ≤ 3) ∧ (3 < (↑8 : Int))) ∧ (((0 : Int) ≤ 16) ∧ ((((0 : Int) ≤ 7) ∧ (7 < (↑8 : Int))) ∧ ((true = true) ∧ Q (Value.tuple #[Value.agg #[Value.int .i64 6, Value.int .u64 (orI .u64 (shlI .u64 (orI .u64 (shlI .u64 (orI .u64 (shlI .u64 (orI .u64 (shlI .u64 0 16) x2) 16) x3) 16) 0) 16) 0), Value.int .u64 (orI .u64 (shlI .u64 (orI .u64 (shlI .u64 (orI .u64 (shlI .u64 (orI .u64 (shlI .u64 0 16) 0) 16) x4) 16) x5) 16) x6)], Value.bool true]))))))))))))))))))))))))))))))))))))))))) := by kernel_rfl

theorem vs25 (s : ByteArray) (Q : Value → Prop) : codeU Tryd.prog (cwC (LsixT 2 5)) (oxE [51, 59, 68, 76]) 9 (bodyOf Tryd.f52) (inTab [.string s] 8) (birth [] 64) (retW Tryd.prog Tryd.f52 fun v _ => Q v) = ((∃ x0 : ByteArray, (∃ x1 : ByteArray, ((cutF s { data := #[58, 58] } = some (x0, x1, true)) ∧ ((x0.data.toList ≠ []) ∧ (∃ x2 : Int, (∃ x3 : Int, ((rowF (x0, !true) = some ([x2, x3], true)) ∧ ((x1.data.toList ≠ []) ∧ (∃ x4 : Int, (∃ x5 : Int, (∃ x6 : Int, (∃ x7 : Int, (∃ x8 : Int, ((rowF (x1, true) = some ([x4, x5, x6, x7, x8], true)) ∧ bifW (cdec (s.data.toList = Array.toList (ByteArray.data { data := #[] }))) (Q (Value.tuple #[Value.agg #[Value.int .i64 0, Value.int .u64 0, Value.int .u64 0], Value.bool false])) (((true = true) ∧ ((true = true) ∧ ((true = true) ∧ ((true = true) ∧ (((0 : Int) ≤ 16) ∧ ((((0 : Int) ≤ 0) ∧ (0 < (↑8 : Int))) ∧ (((0 : Int) ≤ 16) ∧ ((((0 : Int) ≤ 4) ∧ (4 < (↑8 : Int))) ∧ ((true = true) ∧ (((0 : Int) ≤ 16) ∧ ((((0 : Int) ≤ 1) ∧ (1 < (↑8 : Int))) ∧ (((0 : Int) ≤ 16) ∧ ((((0 : Int) ≤ 5) ∧ (5 < (↑8 : Int))) ∧ ((true = true) ∧ (((0 : Int) ≤ 16) ∧ ((((0 : Int) ≤ 2) ∧ (2 < (↑8 : Int))) ∧ (((0 : Int) ≤ 16) ∧ ((((0 : Int) ≤ 6) ∧ (6 < (↑8 : Int))) ∧ ((true = true) ∧ (((0 : Int) ≤ 16) ∧ ((((0 : Int) ≤ 3) ∧ (3 < (↑8 : Int))) ∧ (((0 : Int) ≤ 16) ∧ ((((0 : Int) ≤ 7) ∧ (7 < (↑8 : Int))) ∧ ((true = true) ∧ Q (Value.tuple #[Value.agg #[Value.int .i64 6, Value.int .u64 (orI .u64 (shlI .u64 (orI .u64 (shlI .u64 (orI .u64 (shlI .u64 (orI .u64 (shlI .u64 0 16) x2) 16) x3) 16) 0) 16) x4), Value.int .u64 (orI .u64 (shlI .u64 (orI .u64 (shlI .u64 (orI .u64 (shlI .u64 (orI .u64 (shlI .u64 0 16) x5) 16) x6) 16) x7) 16) x8)], Value.bool true]))))))))))))))))))))))))))))))))))))))))) := by kernel_rfl

theorem vs31 (s : ByteArray) (Q : Value → Prop) : codeU Tryd.prog (cwC (LsixT 3 1)) (oxE [51, 59, 68, 76]) 9 (bodyOf Tryd.f52) (inTab [.string s] 8) (birth [] 64) (retW Tryd.prog Tryd.f52 fun v _ => Q v) = ((∃ x0 : ByteArray, (∃ x1 : ByteArray, ((cutF s { data := #[58, 58] } = some (x0, x1, true)) ∧ ((x0.data.toList ≠ []) ∧ (∃ x2 : Int, (∃ x3 : Int, (∃ x4 : Int, ((rowF (x0, !true) = some ([x2, x3, x4], true)) ∧ ((x1.data.toList ≠ []) ∧ (∃ x5 : Int, ((rowF (x1, true) = some ([x5], true)) ∧ bifW (cdec (s.data.toList = Array.toList (ByteArray.data { data := #[] }))) (Q (Value.tuple #[Value.agg #[Value.int .i64 0, Value.int .u64 0, Value.int .u64 0], Value.bool false])) (((true = true) ∧ ((true = true) ∧ ((true = true) ∧ ((true = true) ∧ ((true = true) ∧ ((true = true) ∧ ((true = true) ∧ (((0 : Int) ≤ 16) ∧ ((((0 : Int) ≤ 0) ∧ (0 < (↑8 : Int))) ∧ (((0 : Int) ≤ 16) ∧ ((((0 : Int) ≤ 4) ∧ (4 < (↑8 : Int))) ∧ ((true = true) ∧ (((0 : Int) ≤ 16) ∧ ((((0 : Int) ≤ 1) ∧ (1 < (↑8 : Int))) ∧ (((0 : Int) ≤ 16) ∧ ((((0 : Int) ≤ 5) ∧ (5 < (↑8 : Int))) ∧ ((true = true) ∧ (((0 : Int) ≤ 16) ∧ ((((0 : Int) ≤ 2) ∧ (2 < (↑8 : Int))) ∧ (((0 : Int) ≤ 16) ∧ ((((0 : Int) ≤ 6) ∧ (6 < (↑8 : Int))) ∧ ((true = true) ∧ (((0 : Int) ≤ 16) ∧ ((((0 : Int) ≤ 3) ∧ (3 < (↑8 : Int))) ∧ (((0 : Int) ≤ 16) ∧ ((((0 : Int) ≤ 7) ∧ (7 < (↑8 : Int))) ∧ ((true = true) ∧ Q (Value.tuple #[Value.agg #[Value.int .i64 6, Value.int .u64 (orI .u64 (shlI .u64 (orI .u64 (shlI .u64 (orI .u64 (shlI .u64 (orI .u64 (shlI .u64 0 16) x2) 16) x3) 16) x4) 16) 0), Value.int .u64 (orI .u64 (shlI .u64 (orI .u64 (shlI .u64 (orI .u64 (shlI .u64 (orI .u64 (shlI .u64 0 16) 0) 16) 0) 16) 0) 16) x5)], Value.bool true]))))))))))))))))))))))))))))))))))))))))) := by kernel_rfl

theorem vs33 (s : ByteArray) (Q : Value → Prop) : codeU Tryd.prog (cwC (LsixT 3 3)) (oxE [51, 59, 68, 76]) 9 (bodyOf Tryd.f52) (inTab [.string s] 8) (birth [] 64) (retW Tryd.prog Tryd.f52 fun v _ => Q v) = ((∃ x0 : ByteArray, (∃ x1 : ByteArray, ((cutF s { data := #[58, 58] } = some (x0, x1, true)) ∧ ((x0.data.toList ≠ []) ∧ (∃ x2 : Int, (∃ x3 : Int, (∃ x4 : Int, ((rowF (x0, !true) = some ([x2, x3, x4], true)) ∧ ((x1.data.toList ≠ []) ∧ (∃ x5 : Int, (∃ x6 : Int, (∃ x7 : Int, ((rowF (x1, true) = some ([x5, x6, x7], true)) ∧ bifW (cdec (s.data.toList = Array.toList (ByteArray.data { data := #[] }))) (Q (Value.tuple #[Value.agg #[Value.int .i64 0, Value.int .u64 0, Value.int .u64 0], Value.bool false])) (((true = true) ∧ ((true = true) ∧ ((true = true) ∧ ((true = true) ∧ ((true = true) ∧ (((0 : Int) ≤ 16) ∧ ((((0 : Int) ≤ 0) ∧ (0 < (↑8 : Int))) ∧ (((0 : Int) ≤ 16) ∧ ((((0 : Int) ≤ 4) ∧ (4 < (↑8 : Int))) ∧ ((true = true) ∧ (((0 : Int) ≤ 16) ∧ ((((0 : Int) ≤ 1) ∧ (1 < (↑8 : Int))) ∧ (((0 : Int) ≤ 16) ∧ ((((0 : Int) ≤ 5) ∧ (5 < (↑8 : Int))) ∧ ((true = true) ∧ (((0 : Int) ≤ 16) ∧ ((((0 : Int) ≤ 2) ∧ (2 < (↑8 : Int))) ∧ (((0 : Int) ≤ 16) ∧ ((((0 : Int) ≤ 6) ∧ (6 < (↑8 : Int))) ∧ ((true = true) ∧ (((0 : Int) ≤ 16) ∧ ((((0 : Int) ≤ 3) ∧ (3 < (↑8 : Int))) ∧ (((0 : Int) ≤ 16) ∧ ((((0 : Int) ≤ 7) ∧ (7 < (↑8 : Int))) ∧ ((true = true) ∧ Q (Value.tuple #[Value.agg #[Value.int .i64 6, Value.int .u64 (orI .u64 (shlI .u64 (orI .u64 (shlI .u64 (orI .u64 (shlI .u64 (orI .u64 (shlI .u64 0 16) x2) 16) x3) 16) x4) 16) 0), Value.int .u64 (orI .u64 (shlI .u64 (orI .u64 (shlI .u64 (orI .u64 (shlI .u64 (orI .u64 (shlI .u64 0 16) 0) 16) x5) 16) x6) 16) x7)], Value.bool true]))))))))))))))))))))))))))))))))))))))))) := by kernel_rfl

theorem vs40 (s : ByteArray) (Q : Value → Prop) : codeU Tryd.prog (cwC (LsixT 4 0)) (oxE [51, 59, 68, 76]) 9 (bodyOf Tryd.f52) (inTab [.string s] 8) (birth [] 64) (retW Tryd.prog Tryd.f52 fun v _ => Q v) = ((∃ x0 : ByteArray, (∃ x1 : ByteArray, ((cutF s { data := #[58, 58] } = some (x0, x1, true)) ∧ ((x0.data.toList ≠ []) ∧ (∃ x2 : Int, (∃ x3 : Int, (∃ x4 : Int, (∃ x5 : Int, ((rowF (x0, !true) = some ([x2, x3, x4, x5], true)) ∧ ((x1.data.toList = []) ∧ ((rowF (x1, true) = some ([], true)) ∧ bifW (cdec (s.data.toList = Array.toList (ByteArray.data { data := #[] }))) (Q (Value.tuple #[Value.agg #[Value.int .i64 0, Value.int .u64 0, Value.int .u64 0], Value.bool false])) (((true = true) ∧ ((true = true) ∧ ((true = true) ∧ ((true = true) ∧ ((true = true) ∧ ((true = true) ∧ ((true = true) ∧ (((0 : Int) ≤ 16) ∧ ((((0 : Int) ≤ 0) ∧ (0 < (↑8 : Int))) ∧ (((0 : Int) ≤ 16) ∧ ((((0 : Int) ≤ 4) ∧ (4 < (↑8 : Int))) ∧ ((true = true) ∧ (((0 : Int) ≤ 16) ∧ ((((0 : Int) ≤ 1) ∧ (1 < (↑8 : Int))) ∧ (((0 : Int) ≤ 16) ∧ ((((0 : Int) ≤ 5) ∧ (5 < (↑8 : Int))) ∧ ((true = true) ∧ (((0 : Int) ≤ 16) ∧ ((((0 : Int) ≤ 2) ∧ (2 < (↑8 : Int))) ∧ (((0 : Int) ≤ 16) ∧ ((((0 : Int) ≤ 6) ∧ (6 < (↑8 : Int))) ∧ ((true = true) ∧ (((0 : Int) ≤ 16) ∧ ((((0 : Int) ≤ 3) ∧ (3 < (↑8 : Int))) ∧ (((0 : Int) ≤ 16) ∧ ((((0 : Int) ≤ 7) ∧ (7 < (↑8 : Int))) ∧ ((true = true) ∧ Q (Value.tuple #[Value.agg #[Value.int .i64 6, Value.int .u64 (orI .u64 (shlI .u64 (orI .u64 (shlI .u64 (orI .u64 (shlI .u64 (orI .u64 (shlI .u64 0 16) x2) 16) x3) 16) x4) 16) x5), Value.int .u64 (orI .u64 (shlI .u64 (orI .u64 (shlI .u64 (orI .u64 (shlI .u64 (orI .u64 (shlI .u64 0 16) 0) 16) 0) 16) 0) 16) 0)], Value.bool true]))))))))))))))))))))))))))))))))))))))))) := by kernel_rfl

theorem vs42 (s : ByteArray) (Q : Value → Prop) : codeU Tryd.prog (cwC (LsixT 4 2)) (oxE [51, 59, 68, 76]) 9 (bodyOf Tryd.f52) (inTab [.string s] 8) (birth [] 64) (retW Tryd.prog Tryd.f52 fun v _ => Q v) = ((∃ x0 : ByteArray, (∃ x1 : ByteArray, ((cutF s { data := #[58, 58] } = some (x0, x1, true)) ∧ ((x0.data.toList ≠ []) ∧ (∃ x2 : Int, (∃ x3 : Int, (∃ x4 : Int, (∃ x5 : Int, ((rowF (x0, !true) = some ([x2, x3, x4, x5], true)) ∧ ((x1.data.toList ≠ []) ∧ (∃ x6 : Int, (∃ x7 : Int, ((rowF (x1, true) = some ([x6, x7], true)) ∧ bifW (cdec (s.data.toList = Array.toList (ByteArray.data { data := #[] }))) (Q (Value.tuple #[Value.agg #[Value.int .i64 0, Value.int .u64 0, Value.int .u64 0], Value.bool false])) (((true = true) ∧ ((true = true) ∧ ((true = true) ∧ ((true = true) ∧ ((true = true) ∧ (((0 : Int) ≤ 16) ∧ ((((0 : Int) ≤ 0) ∧ (0 < (↑8 : Int))) ∧ (((0 : Int) ≤ 16) ∧ ((((0 : Int) ≤ 4) ∧ (4 < (↑8 : Int))) ∧ ((true = true) ∧ (((0 : Int) ≤ 16) ∧ ((((0 : Int) ≤ 1) ∧ (1 < (↑8 : Int))) ∧ (((0 : Int) ≤ 16) ∧ ((((0 : Int) ≤ 5) ∧ (5 < (↑8 : Int))) ∧ ((true = true) ∧ (((0 : Int) ≤ 16) ∧ ((((0 : Int) ≤ 2) ∧ (2 < (↑8 : Int))) ∧ (((0 : Int) ≤ 16) ∧ ((((0 : Int) ≤ 6) ∧ (6 < (↑8 : Int))) ∧ ((true = true) ∧ (((0 : Int) ≤ 16) ∧ ((((0 : Int) ≤ 3) ∧ (3 < (↑8 : Int))) ∧ (((0 : Int) ≤ 16) ∧ ((((0 : Int) ≤ 7) ∧ (7 < (↑8 : Int))) ∧ ((true = true) ∧ Q (Value.tuple #[Value.agg #[Value.int .i64 6, Value.int .u64 (orI .u64 (shlI .u64 (orI .u64 (shlI .u64 (orI .u64 (shlI .u64 (orI .u64 (shlI .u64 0 16) x2) 16) x3) 16) x4) 16) x5), Value.int .u64 (orI .u64 (shlI .u64 (orI .u64 (shlI .u64 (orI .u64 (shlI .u64 (orI .u64 (shlI .u64 0 16) 0) 16) 0) 16) x6) 16) x7)], Value.bool true]))))))))))))))))))))))))))))))))))))))))) := by kernel_rfl

theorem vs50 (s : ByteArray) (Q : Value → Prop) : codeU Tryd.prog (cwC (LsixT 5 0)) (oxE [51, 59, 68, 76]) 9 (bodyOf Tryd.f52) (inTab [.string s] 8) (birth [] 64) (retW Tryd.prog Tryd.f52 fun v _ => Q v) = ((∃ x0 : ByteArray, (∃ x1 : ByteArray, ((cutF s { data := #[58, 58] } = some (x0, x1, true)) ∧ ((x0.data.toList ≠ []) ∧ (∃ x2 : Int, (∃ x3 : Int, (∃ x4 : Int, (∃ x5 : Int, (∃ x6 : Int, ((rowF (x0, !true) = some ([x2, x3, x4, x5, x6], true)) ∧ ((x1.data.toList = []) ∧ ((rowF (x1, true) = some ([], true)) ∧ bifW (cdec (s.data.toList = Array.toList (ByteArray.data { data := #[] }))) (Q (Value.tuple #[Value.agg #[Value.int .i64 0, Value.int .u64 0, Value.int .u64 0], Value.bool false])) (((true = true) ∧ ((true = true) ∧ ((true = true) ∧ ((true = true) ∧ ((true = true) ∧ ((true = true) ∧ (((0 : Int) ≤ 16) ∧ ((((0 : Int) ≤ 0) ∧ (0 < (↑8 : Int))) ∧ (((0 : Int) ≤ 16) ∧ ((((0 : Int) ≤ 4) ∧ (4 < (↑8 : Int))) ∧ ((true = true) ∧ (((0 : Int) ≤ 16) ∧ ((((0 : Int) ≤ 1) ∧ (1 < (↑8 : Int))) ∧ (((0 : Int) ≤ 16) ∧ ((((0 : Int) ≤ 5) ∧ (5 < (↑8 : Int))) ∧ ((true = true) ∧ (((0 : Int) ≤ 16) ∧ ((((0 : Int) ≤ 2) ∧ (2 < (↑8 : Int))) ∧ (((0 : Int) ≤ 16) ∧ ((((0 : Int) ≤ 6) ∧ (6 < (↑8 : Int))) ∧ ((true = true) ∧ (((0 : Int) ≤ 16) ∧ ((((0 : Int) ≤ 3) ∧ (3 < (↑8 : Int))) ∧ (((0 : Int) ≤ 16) ∧ ((((0 : Int) ≤ 7) ∧ (7 < (↑8 : Int))) ∧ ((true = true) ∧ Q (Value.tuple #[Value.agg #[Value.int .i64 6, Value.int .u64 (orI .u64 (shlI .u64 (orI .u64 (shlI .u64 (orI .u64 (shlI .u64 (orI .u64 (shlI .u64 0 16) x2) 16) x3) 16) x4) 16) x5), Value.int .u64 (orI .u64 (shlI .u64 (orI .u64 (shlI .u64 (orI .u64 (shlI .u64 (orI .u64 (shlI .u64 0 16) x6) 16) 0) 16) 0) 16) 0)], Value.bool true]))))))))))))))))))))))))))))))))))))))))) := by kernel_rfl

theorem vs52 (s : ByteArray) (Q : Value → Prop) : codeU Tryd.prog (cwC (LsixT 5 2)) (oxE [51, 59, 68, 76]) 9 (bodyOf Tryd.f52) (inTab [.string s] 8) (birth [] 64) (retW Tryd.prog Tryd.f52 fun v _ => Q v) = ((∃ x0 : ByteArray, (∃ x1 : ByteArray, ((cutF s { data := #[58, 58] } = some (x0, x1, true)) ∧ ((x0.data.toList ≠ []) ∧ (∃ x2 : Int, (∃ x3 : Int, (∃ x4 : Int, (∃ x5 : Int, (∃ x6 : Int, ((rowF (x0, !true) = some ([x2, x3, x4, x5, x6], true)) ∧ ((x1.data.toList ≠ []) ∧ (∃ x7 : Int, (∃ x8 : Int, ((rowF (x1, true) = some ([x7, x8], true)) ∧ bifW (cdec (s.data.toList = Array.toList (ByteArray.data { data := #[] }))) (Q (Value.tuple #[Value.agg #[Value.int .i64 0, Value.int .u64 0, Value.int .u64 0], Value.bool false])) (((true = true) ∧ ((true = true) ∧ ((true = true) ∧ ((true = true) ∧ (((0 : Int) ≤ 16) ∧ ((((0 : Int) ≤ 0) ∧ (0 < (↑8 : Int))) ∧ (((0 : Int) ≤ 16) ∧ ((((0 : Int) ≤ 4) ∧ (4 < (↑8 : Int))) ∧ ((true = true) ∧ (((0 : Int) ≤ 16) ∧ ((((0 : Int) ≤ 1) ∧ (1 < (↑8 : Int))) ∧ (((0 : Int) ≤ 16) ∧ ((((0 : Int) ≤ 5) ∧ (5 < (↑8 : Int))) ∧ ((true = true) ∧ (((0 : Int) ≤ 16) ∧ ((((0 : Int) ≤ 2) ∧ (2 < (↑8 : Int))) ∧ (((0 : Int) ≤ 16) ∧ ((((0 : Int) ≤ 6) ∧ (6 < (↑8 : Int))) ∧ ((true = true) ∧ (((0 : Int) ≤ 16) ∧ ((((0 : Int) ≤ 3) ∧ (3 < (↑8 : Int))) ∧ (((0 : Int) ≤ 16) ∧ ((((0 : Int) ≤ 7) ∧ (7 < (↑8 : Int))) ∧ ((true = true) ∧ Q (Value.tuple #[Value.agg #[Value.int .i64 6, Value.int .u64 (orI .u64 (shlI .u64 (orI .u64 (shlI .u64 (orI .u64 (shlI .u64 (orI .u64 (shlI .u64 0 16) x2) 16) x3) 16) x4) 16) x5), Value.int .u64 (orI .u64 (shlI .u64 (orI .u64 (shlI .u64 (orI .u64 (shlI .u64 (orI .u64 (shlI .u64 0 16) x6) 16) 0) 16) x7) 16) x8)], Value.bool true]))))))))))))))))))))))))))))))))))))))))) := by kernel_rfl

theorem vs61 (s : ByteArray) (Q : Value → Prop) : codeU Tryd.prog (cwC (LsixT 6 1)) (oxE [51, 59, 68, 76]) 9 (bodyOf Tryd.f52) (inTab [.string s] 8) (birth [] 64) (retW Tryd.prog Tryd.f52 fun v _ => Q v) = ((∃ x0 : ByteArray, (∃ x1 : ByteArray, ((cutF s { data := #[58, 58] } = some (x0, x1, true)) ∧ ((x0.data.toList ≠ []) ∧ (∃ x2 : Int, (∃ x3 : Int, (∃ x4 : Int, (∃ x5 : Int, (∃ x6 : Int, (∃ x7 : Int, ((rowF (x0, !true) = some ([x2, x3, x4, x5, x6, x7], true)) ∧ ((x1.data.toList ≠ []) ∧ (∃ x8 : Int, ((rowF (x1, true) = some ([x8], true)) ∧ bifW (cdec (s.data.toList = Array.toList (ByteArray.data { data := #[] }))) (Q (Value.tuple #[Value.agg #[Value.int .i64 0, Value.int .u64 0, Value.int .u64 0], Value.bool false])) (((true = true) ∧ ((true = true) ∧ ((true = true) ∧ ((true = true) ∧ (((0 : Int) ≤ 16) ∧ ((((0 : Int) ≤ 0) ∧ (0 < (↑8 : Int))) ∧ (((0 : Int) ≤ 16) ∧ ((((0 : Int) ≤ 4) ∧ (4 < (↑8 : Int))) ∧ ((true = true) ∧ (((0 : Int) ≤ 16) ∧ ((((0 : Int) ≤ 1) ∧ (1 < (↑8 : Int))) ∧ (((0 : Int) ≤ 16) ∧ ((((0 : Int) ≤ 5) ∧ (5 < (↑8 : Int))) ∧ ((true = true) ∧ (((0 : Int) ≤ 16) ∧ ((((0 : Int) ≤ 2) ∧ (2 < (↑8 : Int))) ∧ (((0 : Int) ≤ 16) ∧ ((((0 : Int) ≤ 6) ∧ (6 < (↑8 : Int))) ∧ ((true = true) ∧ (((0 : Int) ≤ 16) ∧ ((((0 : Int) ≤ 3) ∧ (3 < (↑8 : Int))) ∧ (((0 : Int) ≤ 16) ∧ ((((0 : Int) ≤ 7) ∧ (7 < (↑8 : Int))) ∧ ((true = true) ∧ Q (Value.tuple #[Value.agg #[Value.int .i64 6, Value.int .u64 (orI .u64 (shlI .u64 (orI .u64 (shlI .u64 (orI .u64 (shlI .u64 (orI .u64 (shlI .u64 0 16) x2) 16) x3) 16) x4) 16) x5), Value.int .u64 (orI .u64 (shlI .u64 (orI .u64 (shlI .u64 (orI .u64 (shlI .u64 (orI .u64 (shlI .u64 0 16) x6) 16) x7) 16) 0) 16) x8)], Value.bool true]))))))))))))))))))))))))))))))))))))))))) := by kernel_rfl

end Go.Proofs.YtfnacgojmdbjmaaDoor
end

section
/- Conditions, reckoned by the kernel. -/
namespace Go.Proofs.YtfnacgojmdbjmaaDoor
open Go.Det Go.RowKit  Go.Proofs.YtfnacgojmdbjmaaDoorW.PrintWords
set_option maxRecDepth 100000

theorem vsw (s : ByteArray) (Q : Value → Prop) : codeU Tryd.prog (cwC LsixW) (oxE [51, 59, 68, 76]) 9 (bodyOf Tryd.f52) (inTab [.string s] 8) (birth [] 64) (retW Tryd.prog Tryd.f52 fun v _ => Q v) = ((∃ x0 : ByteArray, (∃ x1 : ByteArray, ((cutF s { data := #[58, 58] } = some (x0, x1, false)) ∧ (((x0.data.toList = []) ∧ ((rowF (x0, !false) = some ([], true)) ∧ (((x1.data.toList = []) ∧ ((rowF (x1, true) = some ([], true)) ∧ bifW (cdec (s.data.toList = Array.toList (ByteArray.data { data := #[] }))) (Q (Value.tuple #[Value.agg #[Value.int .i64 0, Value.int .u64 0, Value.int .u64 0], Value.bool false])) (((true = true) ∧ Q (Value.tuple #[Value.agg #[Value.int .i64 0, Value.int .u64 0, Value.int .u64 0], Value.bool false]))))) ∨ ((x1.data.toList ≠ []) ∧ (∃ x2 : Int, (∃ x3 : Int, (∃ x4 : Int, (∃ x5 : Int, (∃ x6 : Int, (∃ x7 : Int, (∃ x8 : Int, (∃ x9 : Int, ((rowF (x1, true) = some ([x2, x3, x4, x5, x6, x7, x8, x9], true)) ∧ bifW (cdec (s.data.toList = Array.toList (ByteArray.data { data := #[] }))) (Q (Value.tuple #[Value.agg #[Value.int .i64 0, Value.int .u64 0, Value.int .u64 0], Value.bool false])) (((true = true) ∧ ((true = true) ∧ ((true = true) ∧ (((0 : Int) ≤ 16) ∧ ((((0 : Int) ≤ 0) ∧ (0 < (↑8 : Int))) ∧ (((0 : Int) ≤ 16) ∧ ((((0 : Int) ≤ 4) ∧ (4 < (↑8 : Int))) ∧ ((true = true) ∧ (((0 : Int) ≤ 16) ∧ ((((0 : Int) ≤ 1) ∧ (1 < (↑8 : Int))) ∧ (((0 : Int) ≤ 16) ∧ ((((0 : Int) ≤ 5) ∧ (5 < (↑8 : Int))) ∧ ((true = true) ∧ (((0 : Int) ≤ 16) ∧ ((((0 : Int) ≤ 2) ∧ (2 < (↑8 : Int))) ∧ (((0 : Int) ≤ 16) ∧ ((((0 : Int) ≤ 6) ∧ (6 < (↑8 : Int))) ∧ ((true = true) ∧ (((0 : Int) ≤ 16) ∧ ((((0 : Int) ≤ 3) ∧ (3 < (↑8 : Int))) ∧ (((0 : Int) ≤ 16) ∧ ((((0 : Int) ≤ 7) ∧ (7 < (↑8 : Int))) ∧ ((true = true) ∧ Q (Value.tuple #[Value.agg #[Value.int .i64 6, Value.int .u64 (orI .u64 (shlI .u64 (orI .u64 (shlI .u64 (orI .u64 (shlI .u64 (orI .u64 (shlI .u64 0 16) x2) 16) x3) 16) x4) 16) x5), Value.int .u64 (orI .u64 (shlI .u64 (orI .u64 (shlI .u64 (orI .u64 (shlI .u64 (orI .u64 (shlI .u64 0 16) x6) 16) x7) 16) x8) 16) x9)], Value.bool true])))))))))))))))))))))))))))))))))))))) ∨ ((x0.data.toList ≠ []) ∧ (∃ x2 : Int, (∃ x3 : Int, (∃ x4 : Int, (∃ x5 : Int, (∃ x6 : Int, (∃ x7 : Int, (∃ x8 : Int, (∃ x9 : Int, ((rowF (x0, !false) = some ([x2, x3, x4, x5, x6, x7, x8, x9], true)) ∧ (((x1.data.toList = []) ∧ ((rowF (x1, true) = some ([], true)) ∧ bifW (cdec (s.data.toList = Array.toList (ByteArray.data { data := #[] }))) (Q (Value.tuple #[Value.agg #[Value.int .i64 0, Value.int .u64 0, Value.int .u64 0], Value.bool false])) (((true = true) ∧ ((true = true) ∧ ((true = true) ∧ (((0 : Int) ≤ 16) ∧ ((((0 : Int) ≤ 0) ∧ (0 < (↑8 : Int))) ∧ (((0 : Int) ≤ 16) ∧ ((((0 : Int) ≤ 4) ∧ (4 < (↑8 : Int))) ∧ ((true = true) ∧ (((0 : Int) ≤ 16) ∧ ((((0 : Int) ≤ 1) ∧ (1 < (↑8 : Int))) ∧ (((0 : Int) ≤ 16) ∧ ((((0 : Int) ≤ 5) ∧ (5 < (↑8 : Int))) ∧ ((true = true) ∧ (((0 : Int) ≤ 16) ∧ ((((0 : Int) ≤ 2) ∧ (2 < (↑8 : Int))) ∧ (((0 : Int) ≤ 16) ∧ ((((0 : Int) ≤ 6) ∧ (6 < (↑8 : Int))) ∧ ((true = true) ∧ (((0 : Int) ≤ 16) ∧ ((((0 : Int) ≤ 3) ∧ (3 < (↑8 : Int))) ∧ (((0 : Int) ≤ 16) ∧ ((((0 : Int) ≤ 7) ∧ (7 < (↑8 : Int))) ∧ ((true = true) ∧ Q (Value.tuple #[Value.agg #[Value.int .i64 6, Value.int .u64 (orI .u64 (shlI .u64 (orI .u64 (shlI .u64 (orI .u64 (shlI .u64 (orI .u64 (shlI .u64 0 16) x2) 16) x3) 16) x4) 16) x5), Value.int .u64 (orI .u64 (shlI .u64 (orI .u64 (shlI .u64 (orI .u64 (shlI .u64 (orI .u64 (shlI .u64 0 16) x6) 16) x7) 16) x8) 16) x9)], Value.bool true]))))))))))))))))))))))))))) ∨ ((x1.data.toList ≠ []) ∧ (∃ x10 : Int, (∃ x11 : Int, (∃ x12 : Int, (∃ x13 : Int, (∃ x14 : Int, (∃ x15 : Int, (∃ x16 : Int, (∃ x17 : Int, ((rowF (x1, true) = some ([x10, x11, x12, x13, x14, x15, x16, x17], true)) ∧ bifW (cdec (s.data.toList = Array.toList (ByteArray.data { data := #[] }))) (Q (Value.tuple #[Value.agg #[Value.int .i64 0, Value.int .u64 0, Value.int .u64 0], Value.bool false])) (((true = true) ∧ Q (Value.tuple #[Value.agg #[Value.int .i64 0, Value.int .u64 0, Value.int .u64 0], Value.bool false]))))))))))))))))))))))))))))) := by kernel_rfl

theorem vsB1 (s : ByteArray) (Q : Value → Prop) : codeU Tryd.prog (cwC (LsixB true)) (oxE []) 0 (bodyOf Tryd.f52) (inTab [.string s] 8) (birth [] 64) (retW Tryd.prog Tryd.f52 fun v _ => Q v) = ((∃ x0 : ByteArray, (∃ x1 : ByteArray, ((cutF s { data := #[58, 58] } = some (x0, x1, true)) ∧ (∃ x2 : List Int × Bool, ((rowF (x0, !true) = some x2) ∧ (((x0.data.toList = []) ∧ (∃ x3 : List Int × Bool, ((rowF (x1, true) = some x3) ∧ (((x1.data.toList = []) ∧ bifW (!x2.2) (Q (Value.tuple #[Value.agg #[Value.int .i64 0, Value.int .u64 0, Value.int .u64 0], Value.bool false])) (bifW (!x3.2) (Q (Value.tuple #[Value.agg #[Value.int .i64 0, Value.int .u64 0, Value.int .u64 0], Value.bool false])) (bifW (cdec (s.data.toList = Array.toList (ByteArray.data { data := #[] }))) (Q (Value.tuple #[Value.agg #[Value.int .i64 0, Value.int .u64 0, Value.int .u64 0], Value.bool false])) (bifW (cdec (8 ≤ IntKind.wrap .i64 ((↑0 : Int) + (↑0 : Int)))) (Q (Value.tuple #[Value.agg #[Value.int .i64 0, Value.int .u64 0, Value.int .u64 0], Value.bool false])) (False))))) ∨ (((x1.data.toList ≠ []) ∧ ((x3.1 = []) ∧ bifW (!x2.2) (Q (Value.tuple #[Value.agg #[Value.int .i64 0, Value.int .u64 0, Value.int .u64 0], Value.bool false])) (bifW (!x3.2) (Q (Value.tuple #[Value.agg #[Value.int .i64 0, Value.int .u64 0, Value.int .u64 0], Value.bool false])) (bifW (cdec (s.data.toList = Array.toList (ByteArray.data { data := #[] }))) (Q (Value.tuple #[Value.agg #[Value.int .i64 0, Value.int .u64 0, Value.int .u64 0], Value.bool false])) (bifW (cdec (8 ≤ IntKind.wrap .i64 ((↑0 : Int) + (↑0 : Int)))) (Q (Value.tuple #[Value.agg #[Value.int .i64 0, Value.int .u64 0, Value.int .u64 0], Value.bool false])) (False)))))) ∨ ((x1.data.toList ≠ []) ∧ ((x3.1 ≠ []) ∧ bifW (!x2.2) (Q (Value.tuple #[Value.agg #[Value.int .i64 0, Value.int .u64 0, Value.int .u64 0], Value.bool false])) (bifW (!x3.2) (Q (Value.tuple #[Value.agg #[Value.int .i64 0, Value.int .u64 0, Value.int .u64 0], Value.bool false])) (bifW (cdec (s.data.toList = Array.toList (ByteArray.data { data := #[] }))) (Q (Value.tuple #[Value.agg #[Value.int .i64 0, Value.int .u64 0, Value.int .u64 0], Value.bool false])) (bifW (cdec (8 ≤ IntKind.wrap .i64 ((↑0 : Int) + (↑(List.length (x3.1)) : Int)))) (Q (Value.tuple #[Value.agg #[Value.int .i64 0, Value.int .u64 0, Value.int .u64 0], Value.bool false])) (False))))))))))) ∨ (((x0.data.toList ≠ []) ∧ ((x2.1 = []) ∧ (∃ x3 : List Int × Bool, ((rowF (x1, true) = some x3) ∧ (((x1.data.toList = []) ∧ bifW (!x2.2) (Q (Value.tuple #[Value.agg #[Value.int .i64 0, Value.int .u64 0, Value.int .u64 0], Value.bool false])) (bifW (!x3.2) (Q (Value.tuple #[Value.agg #[Value.int .i64 0, Value.int .u64 0, Value.int .u64 0], Value.bool false])) (bifW (cdec (s.data.toList = Array.toList (ByteArray.data { data := #[] }))) (Q (Value.tuple #[Value.agg #[Value.int .i64 0, Value.int .u64 0, Value.int .u64 0], Value.bool false])) (bifW (cdec (8 ≤ IntKind.wrap .i64 ((↑0 : Int) + (↑0 : Int)))) (Q (Value.tuple #[Value.agg #[Value.int .i64 0, Value.int .u64 0, Value.int .u64 0], Value.bool false])) (False))))) ∨ (((x1.data.toList ≠ []) ∧ ((x3.1 = []) ∧ bifW (!x2.2) (Q (Value.tuple #[Value.agg #[Value.int .i64 0, Value.int .u64 0, Value.int .u64 0], Value.bool false])) (bifW (!x3.2) (Q (Value.tuple #[Value.agg #[Value.int .i64 0, Value.int .u64 0, Value.int .u64 0], Value.bool false])) (bifW (cdec (s.data.toList = Array.toList (ByteArray.data { data := #[] }))) (Q (Value.tuple #[Value.agg #[Value.int .i64 0, Value.int .u64 0, Value.int .u64 0], Value.bool false])) (bifW (cdec (8 ≤ IntKind.wrap .i64 ((↑0 : Int) + (↑0 : Int)))) (Q (Value.tuple #[Value.agg #[Value.int .i64 0, Value.int .u64 0, Value.int .u64 0], Value.bool false])) (False)))))) ∨ ((x1.data.toList ≠ []) ∧ ((x3.1 ≠ []) ∧ bifW (!x2.2) (Q (Value.tuple #[Value.agg #[Value.int .i64 0, Value.int .u64 0, Value.int .u64 0], Value.bool false])) (bifW (!x3.2) (Q (Value.tuple #[Value.agg #[Value.int .i64 0, Value.int .u64 0, Value.int .u64 0], Value.bool false])) (bifW (cdec (s.data.toList = Array.toList (ByteArray.data { data := #[] }))) (Q (Value.tuple #[Value.agg #[Value.int .i64 0, Value.int .u64 0, Value.int .u64 0], Value.bool false])) (bifW (cdec (8 ≤ IntKind.wrap .i64 ((↑0 : Int) + (↑(List.length (x3.1)) : Int)))) (Q (Value.tuple #[Value.agg #[Value.int .i64 0, Value.int .u64 0, Value.int .u64 0], Value.bool false])) (False)))))))))))) ∨ ((x0.data.toList ≠ []) ∧ ((x2.1 ≠ []) ∧ (∃ x3 : List Int × Bool, ((rowF (x1, true) = some x3) ∧ (((x1.data.toList = []) ∧ bifW (!x2.2) (Q (Value.tuple #[Value.agg #[Value.int .i64 0, Value.int .u64 0, Value.int .u64 0], Value.bool false])) (bifW (!x3.2) (Q (Value.tuple #[Value.agg #[Value.int .i64 0, Value.int .u64 0, Value.int .u64 0], Value.bool false])) (bifW (cdec (s.data.toList = Array.toList (ByteArray.data { data := #[] }))) (Q (Value.tuple #[Value.agg #[Value.int .i64 0, Value.int .u64 0, Value.int .u64 0], Value.bool false])) (bifW (cdec (8 ≤ IntKind.wrap .i64 ((↑(List.length (x2.1)) : Int) + (↑0 : Int)))) (Q (Value.tuple #[Value.agg #[Value.int .i64 0, Value.int .u64 0, Value.int .u64 0], Value.bool false])) (False))))) ∨ (((x1.data.toList ≠ []) ∧ ((x3.1 = []) ∧ bifW (!x2.2) (Q (Value.tuple #[Value.agg #[Value.int .i64 0, Value.int .u64 0, Value.int .u64 0], Value.bool false])) (bifW (!x3.2) (Q (Value.tuple #[Value.agg #[Value.int .i64 0, Value.int .u64 0, Value.int .u64 0], Value.bool false])) (bifW (cdec (s.data.toList = Array.toList (ByteArray.data { data := #[] }))) (Q (Value.tuple #[Value.agg #[Value.int .i64 0, Value.int .u64 0, Value.int .u64 0], Value.bool false])) (bifW (cdec (8 ≤ IntKind.wrap .i64 ((↑(List.length (x2.1)) : Int) + (↑0 : Int)))) (Q (Value.tuple #[Value.agg #[Value.int .i64 0, Value.int .u64 0, Value.int .u64 0], Value.bool false])) (False)))))) ∨ ((x1.data.toList ≠ []) ∧ ((x3.1 ≠ []) ∧ bifW (!x2.2) (Q (Value.tuple #[Value.agg #[Value.int .i64 0, Value.int .u64 0, Value.int .u64 0], Value.bool false])) (bifW (!x3.2) (Q (Value.tuple #[Value.agg #[Value.int .i64 0, Value.int .u64 0, Value.int .u64 0], Value.bool false])) (bifW (cdec (s.data.toList = Array.toList (ByteArray.data { data := #[] }))) (Q (Value.tuple #[Value.agg #[Value.int .i64 0, Value.int .u64 0, Value.int .u64 0], Value.bool false])) (bifW (cdec (8 ≤ IntKind.wrap .i64 ((↑(List.length (x2.1)) : Int) + (↑(List.length (x3.1)) : Int)))) (Q (Value.tuple #[Value.agg #[Value.int .i64 0, Value.int .u64 0, Value.int .u64 0], Value.bool false])) (False)))))))))))))))))))) := by kernel_rfl

theorem vsB0 (s : ByteArray) (Q : Value → Prop) : codeU Tryd.prog (cwC (LsixB false)) (oxE []) 0 (bodyOf Tryd.f52) (inTab [.string s] 8) (birth [] 64) (retW Tryd.prog Tryd.f52 fun v _ => Q v) = ((∃ x0 : ByteArray, (∃ x1 : ByteArray, ((cutF s { data := #[58, 58] } = some (x0, x1, false)) ∧ (∃ x2 : List Int × Bool, ((rowF (x0, !false) = some x2) ∧ (((x0.data.toList = []) ∧ (∃ x3 : List Int × Bool, ((rowF (x1, true) = some x3) ∧ (((x1.data.toList = []) ∧ bifW (!x2.2) (Q (Value.tuple #[Value.agg #[Value.int .i64 0, Value.int .u64 0, Value.int .u64 0], Value.bool false])) (bifW (!x3.2) (Q (Value.tuple #[Value.agg #[Value.int .i64 0, Value.int .u64 0, Value.int .u64 0], Value.bool false])) (bifW (cdec (s.data.toList = Array.toList (ByteArray.data { data := #[] }))) (Q (Value.tuple #[Value.agg #[Value.int .i64 0, Value.int .u64 0, Value.int .u64 0], Value.bool false])) (bifW (cdec (IntKind.wrap .i64 ((↑0 : Int) + (↑0 : Int)) ≠ 8)) (Q (Value.tuple #[Value.agg #[Value.int .i64 0, Value.int .u64 0, Value.int .u64 0], Value.bool false])) (False))))) ∨ (((x1.data.toList ≠ []) ∧ ((x3.1 = []) ∧ bifW (!x2.2) (Q (Value.tuple #[Value.agg #[Value.int .i64 0, Value.int .u64 0, Value.int .u64 0], Value.bool false])) (bifW (!x3.2) (Q (Value.tuple #[Value.agg #[Value.int .i64 0, Value.int .u64 0, Value.int .u64 0], Value.bool false])) (bifW (cdec (s.data.toList = Array.toList (ByteArray.data { data := #[] }))) (Q (Value.tuple #[Value.agg #[Value.int .i64 0, Value.int .u64 0, Value.int .u64 0], Value.bool false])) (bifW (cdec (IntKind.wrap .i64 ((↑0 : Int) + (↑0 : Int)) ≠ 8)) (Q (Value.tuple #[Value.agg #[Value.int .i64 0, Value.int .u64 0, Value.int .u64 0], Value.bool false])) (False)))))) ∨ ((x1.data.toList ≠ []) ∧ ((x3.1 ≠ []) ∧ bifW (!x2.2) (Q (Value.tuple #[Value.agg #[Value.int .i64 0, Value.int .u64 0, Value.int .u64 0], Value.bool false])) (bifW (!x3.2) (Q (Value.tuple #[Value.agg #[Value.int .i64 0, Value.int .u64 0, Value.int .u64 0], Value.bool false])) (bifW (cdec (s.data.toList = Array.toList (ByteArray.data { data := #[] }))) (Q (Value.tuple #[Value.agg #[Value.int .i64 0, Value.int .u64 0, Value.int .u64 0], Value.bool false])) (bifW (cdec (IntKind.wrap .i64 ((↑0 : Int) + (↑(List.length (x3.1)) : Int)) ≠ 8)) (Q (Value.tuple #[Value.agg #[Value.int .i64 0, Value.int .u64 0, Value.int .u64 0], Value.bool false])) (False))))))))))) ∨ (((x0.data.toList ≠ []) ∧ ((x2.1 = []) ∧ (∃ x3 : List Int × Bool, ((rowF (x1, true) = some x3) ∧ (((x1.data.toList = []) ∧ bifW (!x2.2) (Q (Value.tuple #[Value.agg #[Value.int .i64 0, Value.int .u64 0, Value.int .u64 0], Value.bool false])) (bifW (!x3.2) (Q (Value.tuple #[Value.agg #[Value.int .i64 0, Value.int .u64 0, Value.int .u64 0], Value.bool false])) (bifW (cdec (s.data.toList = Array.toList (ByteArray.data { data := #[] }))) (Q (Value.tuple #[Value.agg #[Value.int .i64 0, Value.int .u64 0, Value.int .u64 0], Value.bool false])) (bifW (cdec (IntKind.wrap .i64 ((↑0 : Int) + (↑0 : Int)) ≠ 8)) (Q (Value.tuple #[Value.agg #[Value.int .i64 0, Value.int .u64 0, Value.int .u64 0], Value.bool false])) (False))))) ∨ (((x1.data.toList ≠ []) ∧ ((x3.1 = []) ∧ bifW (!x2.2) (Q (Value.tuple #[Value.agg #[Value.int .i64 0, Value.int .u64 0, Value.int .u64 0], Value.bool false])) (bifW (!x3.2) (Q (Value.tuple #[Value.agg #[Value.int .i64 0, Value.int .u64 0, Value.int .u64 0], Value.bool false])) (bifW (cdec (s.data.toList = Array.toList (ByteArray.data { data := #[] }))) (Q (Value.tuple #[Value.agg #[Value.int .i64 0, Value.int .u64 0, Value.int .u64 0], Value.bool false])) (bifW (cdec (IntKind.wrap .i64 ((↑0 : Int) + (↑0 : Int)) ≠ 8)) (Q (Value.tuple #[Value.agg #[Value.int .i64 0, Value.int .u64 0, Value.int .u64 0], Value.bool false])) (False)))))) ∨ ((x1.data.toList ≠ []) ∧ ((x3.1 ≠ []) ∧ bifW (!x2.2) (Q (Value.tuple #[Value.agg #[Value.int .i64 0, Value.int .u64 0, Value.int .u64 0], Value.bool false])) (bifW (!x3.2) (Q (Value.tuple #[Value.agg #[Value.int .i64 0, Value.int .u64 0, Value.int .u64 0], Value.bool false])) (bifW (cdec (s.data.toList = Array.toList (ByteArray.data { data := #[] }))) (Q (Value.tuple #[Value.agg #[Value.int .i64 0, Value.int .u64 0, Value.int .u64 0], Value.bool false])) (bifW (cdec (IntKind.wrap .i64 ((↑0 : Int) + (↑(List.length (x3.1)) : Int)) ≠ 8)) (Q (Value.tuple #[Value.agg #[Value.int .i64 0, Value.int .u64 0, Value.int .u64 0], Value.bool false])) (False)))))))))))) ∨ ((x0.data.toList ≠ []) ∧ ((x2.1 ≠ []) ∧ (∃ x3 : List Int × Bool, ((rowF (x1, true) = some x3) ∧ (((x1.data.toList = []) ∧ bifW (!x2.2) (Q (Value.tuple #[Value.agg #[Value.int .i64 0, Value.int .u64 0, Value.int .u64 0], Value.bool false])) (bifW (!x3.2) (Q (Value.tuple #[Value.agg #[Value.int .i64 0, Value.int .u64 0, Value.int .u64 0], Value.bool false])) (bifW (cdec (s.data.toList = Array.toList (ByteArray.data { data := #[] }))) (Q (Value.tuple #[Value.agg #[Value.int .i64 0, Value.int .u64 0, Value.int .u64 0], Value.bool false])) (bifW (cdec (IntKind.wrap .i64 ((↑(List.length (x2.1)) : Int) + (↑0 : Int)) ≠ 8)) (Q (Value.tuple #[Value.agg #[Value.int .i64 0, Value.int .u64 0, Value.int .u64 0], Value.bool false])) (False))))) ∨ (((x1.data.toList ≠ []) ∧ ((x3.1 = []) ∧ bifW (!x2.2) (Q (Value.tuple #[Value.agg #[Value.int .i64 0, Value.int .u64 0, Value.int .u64 0], Value.bool false])) (bifW (!x3.2) (Q (Value.tuple #[Value.agg #[Value.int .i64 0, Value.int .u64 0, Value.int .u64 0], Value.bool false])) (bifW (cdec (s.data.toList = Array.toList (ByteArray.data { data := #[] }))) (Q (Value.tuple #[Value.agg #[Value.int .i64 0, Value.int .u64 0, Value.int .u64 0], Value.bool false])) (bifW (cdec (IntKind.wrap .i64 ((↑(List.length (x2.1)) : Int) + (↑0 : Int)) ≠ 8)) (Q (Value.tuple #[Value.agg #[Value.int .i64 0, Value.int .u64 0, Value.int .u64 0], Value.bool false])) (False)))))) ∨ ((x1.data.toList ≠ []) ∧ ((x3.1 ≠ []) ∧ bifW (!x2.2) (Q (Value.tuple #[Value.agg #[Value.int .i64 0, Value.int .u64 0, Value.int .u64 0], Value.bool false])) (bifW (!x3.2) (Q (Value.tuple #[Value.agg #[Value.int .i64 0, Value.int .u64 0, Value.int .u64 0], Value.bool false])) (bifW (cdec (s.data.toList = Array.toList (ByteArray.data { data := #[] }))) (Q (Value.tuple #[Value.agg #[Value.int .i64 0, Value.int .u64 0, Value.int .u64 0], Value.bool false])) (bifW (cdec (IntKind.wrap .i64 ((↑(List.length (x2.1)) : Int) + (↑(List.length (x3.1)) : Int)) ≠ 8)) (Q (Value.tuple #[Value.agg #[Value.int .i64 0, Value.int .u64 0, Value.int .u64 0], Value.bool false])) (False)))))))))))))))))))) := by kernel_rfl

end Go.Proofs.YtfnacgojmdbjmaaDoor
end

section
/- Rows of groups: what is true of what `row` answers, whatever the text. Plain. -/
namespace Go.Proofs.YtfnacgojmdbjmaaDoor
open Go.Det Go.RowKit Go.Proofs.YtfnacgojmdbjmaaDoorW.PrintWords Go.Proofs.YtfnacgojmdbjmaaDoor.PPH
set_option maxRecDepth 100000

theorem row_inv (k : Nat) :
    (∀ x1 x6 x7 x18 x19 x20 r b, addr_row.l0 k x1 x6 x7 x18 x19 x20 = some (r, b) → r.length ≤ x6.length + k + 2 ∧ (b = true → x6 ≠ [] ∨ x20 < x19 → r ≠ [])) ∧
    (∀ x1 x6 x7 x9 x18 x19 x20 x36 r b, addr_row.j1 k x1 x6 x7 x9 x18 x19 x20 x36 = some (r, b) → r.length ≤ x6.length + k + 2 ∧ (b = true → r ≠ [])) := by
  induction k with
  | zero => exact ⟨fun _ _ _ _ _ _ _ _ h => by simp [addr_row.l0] at h, fun _ _ _ _ _ _ _ _ _ _ h => by simp [addr_row.j1] at h⟩
  | succ k ih =>
    obtain ⟨i0, i1⟩ := ih
    refine ⟨fun x1 x6 x7 x18 x19 x20 r b h => ?_, fun x1 x6 x7 x9 x18 x19 x20 x36 r b h => ?_⟩
    · unfold addr_row.l0 at h
      split at h
      · split at h
        case isFalse => cases h
        split at h
        case isFalse => cases h
        split at h
        · split at h
          · obtain ⟨t, _, h⟩ := Option.bind_eq_some_iff.1 h
            have := i1 _ _ _ _ _ _ _ _ _ _ h
            exact ⟨by omega, fun hb _ => this.2 hb⟩
          · have := i1 _ _ _ _ _ _ _ _ _ _ h
            exact ⟨by omega, fun hb _ => this.2 hb⟩
        · have := i1 _ _ _ _ _ _ _ _ _ _ h
          exact ⟨by omega, fun hb _ => this.2 hb⟩
      · rename_i hn
        cases h
        exact ⟨by omega, fun _ q => by rcases q with q | q; exact q; exact absurd q hn⟩
    · unfold addr_row.j1 at h
      split at h
      · obtain ⟨t, _, h⟩ := Option.bind_eq_some_iff.1 h
        obtain ⟨u, hu, h⟩ := Option.bind_eq_some_iff.1 h
        cases hu
        split at h
        case isFalse => cases h
        cases h
        exact ⟨by (simp; try omega), fun _ => by simp⟩
      · obtain ⟨t, _, h⟩ := Option.bind_eq_some_iff.1 h
        split at h
        · split at h
          case isFalse => cases h
          have := i0 _ _ _ _ _ _ _ _ h
          exact ⟨by have := this.1; simp at this; omega, fun hb => this.2 hb (.inl (by simp))⟩
        · cases h
          exact ⟨by simp, fun hb => by cases hb⟩
theorem splitB_ne (sep : ByteArray) (k : Nat) (s : ByteArray) : Lib.splitB sep 0 k s ≠ [] := by
  cases k with
  | zero => simp [Lib.splitB]
  | succ k =>
    unfold Lib.splitB
    split <;> simp
theorem rowF_inv {s : ByteArray} {l : Bool} {r : List Int} {b : Bool} (h : rowF (s, l) = some (r, b)) : r.length ≤ 1002 ∧ (b = true → r = [] → s.data.toList = []) := by
  unfold rowF addr_row.f at h
  split at h
  · rename_i h0
    cases h
    simp only [ByteArray.toList_eq] at h0
    exact ⟨by simp, fun _ _ => h0⟩
  · obtain ⟨t, ht, h⟩ := Option.bind_eq_some_iff.1 h
    have q := (row_inv 1000).1 _ _ _ _ _ _ _ _ h
    refine ⟨by have := q.1; simp at this; omega, fun hb hr => ?_⟩
    refine absurd hr (q.2 hb (.inr ?_))
    unfold strings_Split.f at ht
    split at ht
    case isFalse => cases ht
    cases ht
    have := List.length_pos_iff.2 (splitB_ne ⟨#[58]⟩ (Lib.countB s ⟨#[58]⟩) s)
    simp only
    omega

end Go.Proofs.YtfnacgojmdbjmaaDoor
end

section
/- addr.six: what it answers, whatever the text. No conditions. -/
namespace Go.Det
variable {P : Program}
/-- as `own_flat`, with words that may hang on the arguments -/
theorem own_flat2 {W : World} {G : Nat} {l : List (Nat × Own)} {h : Heap} {f : FuncId} {fn : Func} {c : Code} {F : List Value → Option Value} (L : Laying G W h) (hGW : G ≤ W.heap.size) (hG64 : G ≤ 64)
    (hm : P.follows .mixedOrders = true) (hl : OwnsAll P W G l) (hf : P.funcs[f]? = some fn) (hb : fn.body = some c) (hok : okFunc G fn = true)
    (hF : ∀ args v, F args = some v → flat2L args = true ∧ flat v = true ∧ Nat.ble args.length fn.ntmps = true ∧ ∃ cw, CwOk (ownCall l) cw ∧ codeW P cw c (inTab args 8) (birth h 64) (retW P fn fun v' _ => v' = v)) : OwnAll P W G f (pureD F) := by
  refine ⟨pureD_tr F, fun W1 k1 args s v s' e φ w args' H _ hA _ _ => ?_⟩
  unfold pureD at e
  split at e
  case h_2 => cases e
  rename_i r hr
  cases e
  obtain ⟨h1, h2, h3, cw, ho, h4⟩ := hF args v hr
  have hn : (fn.name == "runtime.NumGoroutine") = false := by
    unfold okFunc at hok
    rw [hb] at hok
    simp only [Bool.and_eq_true, Bool.not_eq_true'] at hok
    exact hok.2
  rw [flat2L_inv h1 hA, callFunc_run hf hb hn]
  have kw : Later W w := k1.trans H.later
  have Lw := L.move kw.size kw.old hGW
  refine (fnW_calls (P := P) (w0 := w) (φ0 := glob G w) (G := G) ho (ownCall_ok hl kw) (ownCall_tr hl) hm (glob_glob G w) (fun id q => glob_top G w hG64 id q) hf hb hok h3 Lw.hr (flat2L_self h1 _) (fun id q => glob_top G w hG64 id q) (fun id q => Lw.top id (Nat.le_trans hG64 q)) (Nat.le_refl 64) h4).mono ?_
  rintro e W' ⟨v1, v', s1, φ', rfl, rfl, hv, H', _, _⟩
  exact ⟨v', φ, rfl, Ext.refl _ _ _, flat_any h2 hv, H.keep H'.kept H'.tape⟩
end Go.Det
namespace Go.Proofs.YtfnacgojmdbjmaaDoor
open Go.Det Go.RowKit Go.Proofs.YtfnacgojmdbjmaaDoorW.PrintWords Go.Proofs.YtfnacgojmdbjmaaDoor.PPH
set_option maxRecDepth 100000

def comb4 (a b c d : Int) : Int := orI .u64 (shlI .u64 (orI .u64 (shlI .u64 (orI .u64 (shlI .u64 (orI .u64 (shlI .u64 0 16) a) 16) b) 16) c) 16) d
def comb8 : List Int → Int × Int
  | [a, b, c, d, e, f, g, h] => (comb4 a b c d, comb4 e f g h)
  | _ => (0, 0)
def sixB (s : ByteArray) (cut : Bool) (a b : List Int × Bool) : Bool :=
  !a.2 || (!b.2 || (decide (s.data.toList = []) || (match cut with | true => decide (8 ≤ a.1.length + b.1.length) | false => decide (a.1.length + b.1.length ≠ 8))))
def sixF (s : ByteArray) : Option (Int × Int × Int × Bool) :=
  (cutF s { data := #[58, 58] }).bind fun c => (rowF (c.1, !c.2.2)).bind fun a => (rowF (c.2.1, true)).bind fun b =>
    if sixB s c.2.2 a b = true then some (0, 0, 0, false) else some (6, (comb8 (a.1 ++ List.replicate (8 - (a.1.length + b.1.length)) 0 ++ b.1)).1, (comb8 (a.1 ++ List.replicate (8 - (a.1.length + b.1.length)) 0 ++ b.1)).2, true)
noncomputable def enAB (y : Int × Int × Int × Bool) : Value := .tuple #[.agg #[.int .i64 y.1, .int .u64 y.2.1, .int .u64 y.2.2.1], .bool y.2.2.2]
theorem wrap_i64 {x : Int} (h : 0 ≤ x ∧ x < 9223372036854775808) : IntKind.wrap .i64 x = x := by
  unfold IntKind.wrap
  simp [IntKind.signed, IntKind.bits]
  omega
theorem leafT {b2 b3 : Bool} {s t : List UInt8} {p q : Nat} {Q0 : Prop} (hQ : Q0) (hp : p ≤ 1002) (hq : q ≤ 1002) (H : b2 = false ∨ b3 = false ∨ s = t ∨ 8 ≤ p + q) :
    bifW (!b2) Q0 (bifW (!b3) Q0 (bifW (cdec (s = t)) Q0 (bifW (cdec (8 ≤ IntKind.wrap .i64 ((p : Int) + (q : Int)))) Q0 False))) := by
  rw [wrap_i64 ⟨by omega, by omega⟩]
  refine bifW_n (fun h2 => bifW_n (fun h3 => bifW_c (fun _ => hQ) fun h4 => bifW_c (fun _ => hQ) fun h5 => ?_) fun _ => hQ) fun _ => hQ
  rcases H with H | H | H | H
  · rw [H] at h2; cases h2
  · rw [H] at h3; cases h3
  · exact h4 H
  · omega
theorem leafF {b2 b3 : Bool} {s t : List UInt8} {p q : Nat} {Q0 : Prop} (hQ : Q0) (hp : p ≤ 1002) (hq : q ≤ 1002) (H : b2 = false ∨ b3 = false ∨ s = t ∨ p + q ≠ 8) :
    bifW (!b2) Q0 (bifW (!b3) Q0 (bifW (cdec (s = t)) Q0 (bifW (cdec (IntKind.wrap .i64 ((p : Int) + (q : Int)) ≠ 8)) Q0 False))) := by
  rw [wrap_i64 ⟨by omega, by omega⟩]
  refine bifW_n (fun h2 => bifW_n (fun h3 => bifW_c (fun _ => hQ) fun h4 => bifW_c (fun _ => hQ) fun h5 => ?_) fun _ => hQ) fun _ => hQ
  rcases H with H | H | H | H
  · rw [H] at h2; cases h2
  · rw [H] at h3; cases h3
  · exact h4 H
  · omega
theorem nil_of {x : ByteArray} {l : Bool} {r : List Int × Bool} (hx : x.data.toList = []) (h : rowF (x, l) = some r) : r = ([], true) := by
  obtain ⟨⟨t⟩⟩ := x
  have : t = [] := hx
  subst this
  exact rowE h

/-- six comes to this answer -/
def SixG (cw : Cw) (s : ByteArray) (y : Int × Int × Int × Bool) : Prop := codeW Tryd.prog cw (bodyOf Tryd.f52) (inTab [.string s] 8) (birth [] 64) (retW Tryd.prog Tryd.f52 fun v' _ => v' = enAB y)
def sixY (a b : List Int) : Int × Int × Int × Bool := (6, (comb8 (a ++ List.replicate (8 - (a.length + b.length)) 0 ++ b)).1, (comb8 (a ++ List.replicate (8 - (a.length + b.length)) 0 ++ b)).2, true)
theorem sx_of {h t : Nat} {s : ByteArray} {y : Int × Int × Int × Bool} (k : codeU Tryd.prog (cwC (LsixT h t)) (oxE [51, 59, 68, 76]) 9 (bodyOf Tryd.f52) (inTab [.string s] 8) (birth [] 64) (retW Tryd.prog Tryd.f52 fun v' _ => v' = enAB y)) : SixG (cwC (LsixT h t)) s y := codeU_codeW (cwC_mono _) (oxE_ok _) (n := 9) (by kernel_rfl) k
/-- the cut is there, the rows are these -/
structure SixH (s x0 x1 : ByteArray) (a b : List Int) : Prop where
  c : cutF s { data := #[58, 58] } = some (x0, x1, true)
  a : rowF (x0, !true) = some (a, true)
  b : rowF (x1, true) = some (b, true)
  s : ¬ s.data.toList = []
noncomputable def Lsix0 : List (Nat × Own) := [(60, con60.own), (75, rowD rowF 27)]
theorem six_zT {s x0 x1 : ByteArray} {a b : List Int × Bool} (hc : cutF s { data := #[58, 58] } = some (x0, x1, true)) (ha : rowF (x0, !true) = some a) (hb : rowF (x1, true) = some b) (H : sixB s true a b = true) :
    codeW Tryd.prog (cwC (LsixB true)) (bodyOf Tryd.f52) (inTab [.string s] 8) (birth [] 64) (retW Tryd.prog Tryd.f52 fun v' _ => v' = enAB (0, 0, 0, false)) := by
  refine codeU_codeW (cwC_mono _) (oxE_ok _) (n := 0) (by kernel_rfl) ((vsB1 s _).mpr ⟨x0, x1, hc, a, ha, ?_⟩)
  have la := (rowF_inv (r := a.1) (b := a.2) ha).1
  have lb := (rowF_inv (r := b.1) (b := b.2) hb).1
  have H : a.2 = false ∨ b.2 = false ∨ s.data.toList = [] ∨ 8 ≤ a.1.length + b.1.length := by
    unfold sixB at H
    simp only [Bool.or_eq_true, Bool.not_eq_true', decide_eq_true_eq] at H
    exact H
  by_cases h0 : x0.data.toList = []
  · have e0 := nil_of h0 ha
    refine .inl ⟨h0, b, hb, ?_⟩
    by_cases h1 : x1.data.toList = []
    · have e1 := nil_of h1 hb
      exact .inl ⟨h1, leafT (p := 0) (q := 0) rfl (by omega) (by omega) (by rw [e0, e1] at H ⊢; exact H)⟩
    · by_cases h2 : b.1 = []
      · exact .inr (.inl ⟨h1, h2, leafT (p := 0) (q := 0) rfl (by omega) (by omega) (by rw [h2, e0] at H; rw [e0]; exact H)⟩)
      · exact .inr (.inr ⟨h1, h2, leafT (p := 0) rfl (by omega) (by omega) (by rw [e0] at H ⊢; exact H)⟩)
  · by_cases h2 : a.1 = []
    · refine .inr (.inl ⟨h0, h2, b, hb, ?_⟩)
      by_cases h1 : x1.data.toList = []
      · have e1 := nil_of h1 hb
        exact .inl ⟨h1, leafT (p := 0) (q := 0) rfl (by omega) (by omega) (by rw [h2, e1] at H; rw [e1]; exact H)⟩
      · by_cases h3 : b.1 = []
        · exact .inr (.inl ⟨h1, h3, leafT (p := 0) (q := 0) rfl (by omega) (by omega) (by rw [h2, h3] at H; exact H)⟩)
        · exact .inr (.inr ⟨h1, h3, leafT (p := 0) rfl (by omega) (by omega) (by rw [h2] at H; exact H)⟩)
    · refine .inr (.inr ⟨h0, h2, b, hb, ?_⟩)
      by_cases h1 : x1.data.toList = []
      · have e1 := nil_of h1 hb
        exact .inl ⟨h1, leafT (q := 0) rfl (by omega) (by omega) (by rw [e1] at H ⊢; exact H)⟩
      · by_cases h3 : b.1 = []
        · exact .inr (.inl ⟨h1, h3, leafT (q := 0) rfl (by omega) (by omega) (by rw [h3] at H; exact H)⟩)
        · exact .inr (.inr ⟨h1, h3, leafT rfl (by omega) (by omega) H⟩)
theorem six_zF {s x0 x1 : ByteArray} {a b : List Int × Bool} (hc : cutF s { data := #[58, 58] } = some (x0, x1, false)) (ha : rowF (x0, !false) = some a) (hb : rowF (x1, true) = some b) (H : sixB s false a b = true) :
    codeW Tryd.prog (cwC (LsixB false)) (bodyOf Tryd.f52) (inTab [.string s] 8) (birth [] 64) (retW Tryd.prog Tryd.f52 fun v' _ => v' = enAB (0, 0, 0, false)) := by
  refine codeU_codeW (cwC_mono _) (oxE_ok _) (n := 0) (by kernel_rfl) ((vsB0 s _).mpr ⟨x0, x1, hc, a, ha, ?_⟩)
  have la := (rowF_inv (r := a.1) (b := a.2) ha).1
  have lb := (rowF_inv (r := b.1) (b := b.2) hb).1
  have H : a.2 = false ∨ b.2 = false ∨ s.data.toList = [] ∨ a.1.length + b.1.length ≠ 8 := by
    unfold sixB at H
    simp only [Bool.or_eq_true, Bool.not_eq_true', decide_eq_true_eq] at H
    exact H
  by_cases h0 : x0.data.toList = []
  · have e0 := nil_of h0 ha
    refine .inl ⟨h0, b, hb, ?_⟩
    by_cases h1 : x1.data.toList = []
    · have e1 := nil_of h1 hb
      exact .inl ⟨h1, leafF (p := 0) (q := 0) rfl (by omega) (by omega) (by rw [e0, e1] at H ⊢; exact H)⟩
    · by_cases h2 : b.1 = []
      · exact .inr (.inl ⟨h1, h2, leafF (p := 0) (q := 0) rfl (by omega) (by omega) (by rw [h2, e0] at H; rw [e0]; exact H)⟩)
      · exact .inr (.inr ⟨h1, h2, leafF (p := 0) rfl (by omega) (by omega) (by rw [e0] at H ⊢; exact H)⟩)
  · by_cases h2 : a.1 = []
    · refine .inr (.inl ⟨h0, h2, b, hb, ?_⟩)
      by_cases h1 : x1.data.toList = []
      · have e1 := nil_of h1 hb
        exact .inl ⟨h1, leafF (p := 0) (q := 0) rfl (by omega) (by omega) (by rw [h2, e1] at H; rw [e1]; exact H)⟩
      · by_cases h3 : b.1 = []
        · exact .inr (.inl ⟨h1, h3, leafF (p := 0) (q := 0) rfl (by omega) (by omega) (by rw [h2, h3] at H; exact H)⟩)
        · exact .inr (.inr ⟨h1, h3, leafF (p := 0) rfl (by omega) (by omega) (by rw [h2] at H; exact H)⟩)
    · refine .inr (.inr ⟨h0, h2, b, hb, ?_⟩)
      by_cases h1 : x1.data.toList = []
      · have e1 := nil_of h1 hb
        exact .inl ⟨h1, leafF (q := 0) rfl (by omega) (by omega) (by rw [e1] at H ⊢; exact H)⟩
      · by_cases h3 : b.1 = []
        · exact .inr (.inl ⟨h1, h3, leafF (q := 0) rfl (by omega) (by omega) (by rw [h3] at H; exact H)⟩)
        · exact .inr (.inr ⟨h1, h3, leafF rfl (by omega) (by omega) H⟩)

theorem ex0 {l : List Int} (h : l.length = 0) : l = [] := List.eq_nil_of_length_eq_zero h
theorem ex1 {l : List Int} (h : l.length = 1) : ∃ a0 : Int, l = [a0] := by
  match l, h with
  | [a0], _ => exact ⟨a0, rfl⟩
theorem ex2 {l : List Int} (h : l.length = 2) : ∃ a0 a1 : Int, l = [a0, a1] := by
  match l, h with
  | [a0, a1], _ => exact ⟨a0, a1, rfl⟩
theorem ex3 {l : List Int} (h : l.length = 3) : ∃ a0 a1 a2 : Int, l = [a0, a1, a2] := by
  match l, h with
  | [a0, a1, a2], _ => exact ⟨a0, a1, a2, rfl⟩
theorem ex4 {l : List Int} (h : l.length = 4) : ∃ a0 a1 a2 a3 : Int, l = [a0, a1, a2, a3] := by
  match l, h with
  | [a0, a1, a2, a3], _ => exact ⟨a0, a1, a2, a3, rfl⟩
theorem ex5 {l : List Int} (h : l.length = 5) : ∃ a0 a1 a2 a3 a4 : Int, l = [a0, a1, a2, a3, a4] := by
  match l, h with
  | [a0, a1, a2, a3, a4], _ => exact ⟨a0, a1, a2, a3, a4, rfl⟩
theorem ex6 {l : List Int} (h : l.length = 6) : ∃ a0 a1 a2 a3 a4 a5 : Int, l = [a0, a1, a2, a3, a4, a5] := by
  match l, h with
  | [a0, a1, a2, a3, a4, a5], _ => exact ⟨a0, a1, a2, a3, a4, a5, rfl⟩
theorem ex7 {l : List Int} (h : l.length = 7) : ∃ a0 a1 a2 a3 a4 a5 a6 : Int, l = [a0, a1, a2, a3, a4, a5, a6] := by
  match l, h with
  | [a0, a1, a2, a3, a4, a5, a6], _ => exact ⟨a0, a1, a2, a3, a4, a5, a6, rfl⟩
theorem ex8 {l : List Int} (h : l.length = 8) : ∃ a0 a1 a2 a3 a4 a5 a6 a7 : Int, l = [a0, a1, a2, a3, a4, a5, a6, a7] := by
  match l, h with
  | [a0, a1, a2, a3, a4, a5, a6, a7], _ => exact ⟨a0, a1, a2, a3, a4, a5, a6, a7, rfl⟩

end Go.Proofs.YtfnacgojmdbjmaaDoor
end

section
/- addr.six at rows of known lengths. No conditions but these. -/
namespace Go.Proofs.YtfnacgojmdbjmaaDoor
open Go.Det Go.RowKit Go.Proofs.YtfnacgojmdbjmaaDoorW.PrintWords Go.Proofs.YtfnacgojmdbjmaaDoor.PPH
set_option maxRecDepth 100000

theorem ne_of {x : ByteArray} {l b : Bool} {r : List Int} (hr : r ≠ []) (h : rowF (x, l) = some (r, b)) : x.data.toList ≠ [] := by
  intro hx
  have := nil_of hx h
  cases this
  exact hr rfl
theorem eq_of_nil {x : ByteArray} {l : Bool} (h : rowF (x, l) = some ([], true)) : x.data.toList = [] := (rowF_inv h).2 rfl rfl
variable {s x y : ByteArray}
theorem sx00 (k : SixH s x y [] []) : SixG (cwC (LsixT 0 0)) s (sixY [] []) := by
  refine sx_of ((vs00 s _).mpr ⟨x, y, k.c, eq_of_nil k.a, k.a, eq_of_nil k.b, k.b, bifW_f k.s ?_⟩)
  repeat' (first | rfl | decide | refine And.intro ?_ ?_)
theorem sx01 {b0 : Int} (k : SixH s x y [] [b0]) : SixG (cwC (LsixT 0 1)) s (sixY [] [b0]) := by
  refine sx_of ((vs01 s _).mpr ⟨x, y, k.c, eq_of_nil k.a, k.a, ne_of (by simp) k.b, b0, k.b, bifW_f k.s ?_⟩)
  repeat' (first | rfl | decide | refine And.intro ?_ ?_)
theorem sx02 {b0 b1 : Int} (k : SixH s x y [] [b0, b1]) : SixG (cwC (LsixT 0 2)) s (sixY [] [b0, b1]) := by
  refine sx_of ((vs02 s _).mpr ⟨x, y, k.c, eq_of_nil k.a, k.a, ne_of (by simp) k.b, b0, b1, k.b, bifW_f k.s ?_⟩)
  repeat' (first | rfl | decide | refine And.intro ?_ ?_)
theorem sx03 {b0 b1 b2 : Int} (k : SixH s x y [] [b0, b1, b2]) : SixG (cwC (LsixT 0 3)) s (sixY [] [b0, b1, b2]) := by
  refine sx_of ((vs03 s _).mpr ⟨x, y, k.c, eq_of_nil k.a, k.a, ne_of (by simp) k.b, b0, b1, b2, k.b, bifW_f k.s ?_⟩)
  repeat' (first | rfl | decide | refine And.intro ?_ ?_)
theorem sx04 {b0 b1 b2 b3 : Int} (k : SixH s x y [] [b0, b1, b2, b3]) : SixG (cwC (LsixT 0 4)) s (sixY [] [b0, b1, b2, b3]) := by
  refine sx_of ((vs04 s _).mpr ⟨x, y, k.c, eq_of_nil k.a, k.a, ne_of (by simp) k.b, b0, b1, b2, b3, k.b, bifW_f k.s ?_⟩)
  repeat' (first | rfl | decide | refine And.intro ?_ ?_)
theorem sx05 {b0 b1 b2 b3 b4 : Int} (k : SixH s x y [] [b0, b1, b2, b3, b4]) : SixG (cwC (LsixT 0 5)) s (sixY [] [b0, b1, b2, b3, b4]) := by
  refine sx_of ((vs05 s _).mpr ⟨x, y, k.c, eq_of_nil k.a, k.a, ne_of (by simp) k.b, b0, b1, b2, b3, b4, k.b, bifW_f k.s ?_⟩)
  repeat' (first | rfl | decide | refine And.intro ?_ ?_)
theorem sx06 {b0 b1 b2 b3 b4 b5 : Int} (k : SixH s x y [] [b0, b1, b2, b3, b4, b5]) : SixG (cwC (LsixT 0 6)) s (sixY [] [b0, b1, b2, b3, b4, b5]) := by
  refine sx_of ((vs06 s _).mpr ⟨x, y, k.c, eq_of_nil k.a, k.a, ne_of (by simp) k.b, b0, b1, b2, b3, b4, b5, k.b, bifW_f k.s ?_⟩)
  repeat' (first | rfl | decide | refine And.intro ?_ ?_)
theorem sx07 {b0 b1 b2 b3 b4 b5 b6 : Int} (k : SixH s x y [] [b0, b1, b2, b3, b4, b5, b6]) : SixG (cwC (LsixT 0 7)) s (sixY [] [b0, b1, b2, b3, b4, b5, b6]) := by
  refine sx_of ((vs07 s _).mpr ⟨x, y, k.c, eq_of_nil k.a, k.a, ne_of (by simp) k.b, b0, b1, b2, b3, b4, b5, b6, k.b, bifW_f k.s ?_⟩)
  repeat' (first | rfl | decide | refine And.intro ?_ ?_)
theorem sx10 {a0 : Int} (k : SixH s x y [a0] []) : SixG (cwC (LsixT 1 0)) s (sixY [a0] []) := by
  refine sx_of ((vs10 s _).mpr ⟨x, y, k.c, ne_of (by simp) k.a, a0, k.a, eq_of_nil k.b, k.b, bifW_f k.s ?_⟩)
  repeat' (first | rfl | decide | refine And.intro ?_ ?_)
theorem sx11 {a0 b0 : Int} (k : SixH s x y [a0] [b0]) : SixG (cwC (LsixT 1 1)) s (sixY [a0] [b0]) := by
  refine sx_of ((vs11 s _).mpr ⟨x, y, k.c, ne_of (by simp) k.a, a0, k.a, ne_of (by simp) k.b, b0, k.b, bifW_f k.s ?_⟩)
  repeat' (first | rfl | decide | refine And.intro ?_ ?_)
theorem sx12 {a0 b0 b1 : Int} (k : SixH s x y [a0] [b0, b1]) : SixG (cwC (LsixT 1 2)) s (sixY [a0] [b0, b1]) := by
  refine sx_of ((vs12 s _).mpr ⟨x, y, k.c, ne_of (by simp) k.a, a0, k.a, ne_of (by simp) k.b, b0, b1, k.b, bifW_f k.s ?_⟩)
  repeat' (first | rfl | decide | refine And.intro ?_ ?_)
theorem sx13 {a0 b0 b1 b2 : Int} (k : SixH s x y [a0] [b0, b1, b2]) : SixG (cwC (LsixT 1 3)) s (sixY [a0] [b0, b1, b2]) := by
  refine sx_of ((vs13 s _).mpr ⟨x, y, k.c, ne_of (by simp) k.a, a0, k.a, ne_of (by simp) k.b, b0, b1, b2, k.b, bifW_f k.s ?_⟩)
  repeat' (first | rfl | decide | refine And.intro ?_ ?_)
theorem sx14 {a0 b0 b1 b2 b3 : Int} (k : SixH s x y [a0] [b0, b1, b2, b3]) : SixG (cwC (LsixT 1 4)) s (sixY [a0] [b0, b1, b2, b3]) := by
  refine sx_of ((vs14 s _).mpr ⟨x, y, k.c, ne_of (by simp) k.a, a0, k.a, ne_of (by simp) k.b, b0, b1, b2, b3, k.b, bifW_f k.s ?_⟩)
  repeat' (first | rfl | decide | refine And.intro ?_ ?_)
theorem sx15 {a0 b0 b1 b2 b3 b4 : Int} (k : SixH s x y [a0] [b0, b1, b2, b3, b4]) : SixG (cwC (LsixT 1 5)) s (sixY [a0] [b0, b1, b2, b3, b4]) := by
  refine sx_of ((vs15 s _).mpr ⟨x, y, k.c, ne_of (by simp) k.a, a0, k.a, ne_of (by simp) k.b, b0, b1, b2, b3, b4, k.b, bifW_f k.s ?_⟩)
  repeat' (first | rfl | decide | refine And.intro ?_ ?_)
theorem sx16 {a0 b0 b1 b2 b3 b4 b5 : Int} (k : SixH s x y [a0] [b0, b1, b2, b3, b4, b5]) : SixG (cwC (LsixT 1 6)) s (sixY [a0] [b0, b1, b2, b3, b4, b5]) := by
  refine sx_of ((vs16 s _).mpr ⟨x, y, k.c, ne_of (by simp) k.a, a0, k.a, ne_of (by simp) k.b, b0, b1, b2, b3, b4, b5, k.b, bifW_f k.s ?_⟩)
  repeat' (first | rfl | decide | refine And.intro ?_ ?_)
theorem sx20 {a0 a1 : Int} (k : SixH s x y [a0, a1] []) : SixG (cwC (LsixT 2 0)) s (sixY [a0, a1] []) := by
  refine sx_of ((vs20 s _).mpr ⟨x, y, k.c, ne_of (by simp) k.a, a0, a1, k.a, eq_of_nil k.b, k.b, bifW_f k.s ?_⟩)
  repeat' (first | rfl | decide | refine And.intro ?_ ?_)
theorem sx21 {a0 a1 b0 : Int} (k : SixH s x y [a0, a1] [b0]) : SixG (cwC (LsixT 2 1)) s (sixY [a0, a1] [b0]) := by
  refine sx_of ((vs21 s _).mpr ⟨x, y, k.c, ne_of (by simp) k.a, a0, a1, k.a, ne_of (by simp) k.b, b0, k.b, bifW_f k.s ?_⟩)
  repeat' (first | rfl | decide | refine And.intro ?_ ?_)
theorem sx22 {a0 a1 b0 b1 : Int} (k : SixH s x y [a0, a1] [b0, b1]) : SixG (cwC (LsixT 2 2)) s (sixY [a0, a1] [b0, b1]) := by
  refine sx_of ((vs22 s _).mpr ⟨x, y, k.c, ne_of (by simp) k.a, a0, a1, k.a, ne_of (by simp) k.b, b0, b1, k.b, bifW_f k.s ?_⟩)
  repeat' (first | rfl | decide | refine And.intro ?_ ?_)
theorem sx23 {a0 a1 b0 b1 b2 : Int} (k : SixH s x y [a0, a1] [b0, b1, b2]) : SixG (cwC (LsixT 2 3)) s (sixY [a0, a1] [b0, b1, b2]) := by
  refine sx_of ((vs23 s _).mpr ⟨x, y, k.c, ne_of (by simp) k.a, a0, a1, k.a, ne_of (by simp) k.b, b0, b1, b2, k.b, bifW_f k.s ?_⟩)
  repeat' (first | rfl | decide | refine And.intro ?_ ?_)
theorem sx24 {a0 a1 b0 b1 b2 b3 : Int} (k : SixH s x y [a0, a1] [b0, b1, b2, b3]) : SixG (cwC (LsixT 2 4)) s (sixY [a0, a1] [b0, b1, b2, b3]) := by
  refine sx_of ((vs24 s _).mpr ⟨x, y, k.c, ne_of (by simp) k.a, a0, a1, k.a, ne_of (by simp) k.b, b0, b1, b2, b3, k.b, bifW_f k.s ?_⟩)
  repeat' (first | rfl | decide | refine And.intro ?_ ?_)
theorem sx25 {a0 a1 b0 b1 b2 b3 b4 : Int} (k : SixH s x y [a0, a1] [b0, b1, b2, b3, b4]) : SixG (cwC (LsixT 2 5)) s (sixY [a0, a1] [b0, b1, b2, b3, b4]) := by
  refine sx_of ((vs25 s _).mpr ⟨x, y, k.c, ne_of (by simp) k.a, a0, a1, k.a, ne_of (by simp) k.b, b0, b1, b2, b3, b4, k.b, bifW_f k.s ?_⟩)
  repeat' (first | rfl | decide | refine And.intro ?_ ?_)
theorem sx30 {a0 a1 a2 : Int} (k : SixH s x y [a0, a1, a2] []) : SixG (cwC (LsixT 3 0)) s (sixY [a0, a1, a2] []) := by
  refine sx_of ((vs30 s _).mpr ⟨x, y, k.c, ne_of (by simp) k.a, a0, a1, a2, k.a, eq_of_nil k.b, k.b, bifW_f k.s ?_⟩)
  repeat' (first | rfl | decide | refine And.intro ?_ ?_)
theorem sx31 {a0 a1 a2 b0 : Int} (k : SixH s x y [a0, a1, a2] [b0]) : SixG (cwC (LsixT 3 1)) s (sixY [a0, a1, a2] [b0]) := by
  refine sx_of ((vs31 s _).mpr ⟨x, y, k.c, ne_of (by simp) k.a, a0, a1, a2, k.a, ne_of (by simp) k.b, b0, k.b, bifW_f k.s ?_⟩)
  repeat' (first | rfl | decide | refine And.intro ?_ ?_)
theorem sx32 {a0 a1 a2 b0 b1 : Int} (k : SixH s x y [a0, a1, a2] [b0, b1]) : SixG (cwC (LsixT 3 2)) s (sixY [a0, a1, a2] [b0, b1]) := by
  refine sx_of ((vs32 s _).mpr ⟨x, y, k.c, ne_of (by simp) k.a, a0, a1, a2, k.a, ne_of (by simp) k.b, b0, b1, k.b, bifW_f k.s ?_⟩)
  repeat' (first | rfl | decide | refine And.intro ?_ ?_)
theorem sx33 {a0 a1 a2 b0 b1 b2 : Int} (k : SixH s x y [a0, a1, a2] [b0, b1, b2]) : SixG (cwC (LsixT 3 3)) s (sixY [a0, a1, a2] [b0, b1, b2]) := by
  refine sx_of ((vs33 s _).mpr ⟨x, y, k.c, ne_of (by simp) k.a, a0, a1, a2, k.a, ne_of (by simp) k.b, b0, b1, b2, k.b, bifW_f k.s ?_⟩)
  repeat' (first | rfl | decide | refine And.intro ?_ ?_)
theorem sx34 {a0 a1 a2 b0 b1 b2 b3 : Int} (k : SixH s x y [a0, a1, a2] [b0, b1, b2, b3]) : SixG (cwC (LsixT 3 4)) s (sixY [a0, a1, a2] [b0, b1, b2, b3]) := by
  refine sx_of ((vs34 s _).mpr ⟨x, y, k.c, ne_of (by simp) k.a, a0, a1, a2, k.a, ne_of (by simp) k.b, b0, b1, b2, b3, k.b, bifW_f k.s ?_⟩)
  repeat' (first | rfl | decide | refine And.intro ?_ ?_)
theorem sx40 {a0 a1 a2 a3 : Int} (k : SixH s x y [a0, a1, a2, a3] []) : SixG (cwC (LsixT 4 0)) s (sixY [a0, a1, a2, a3] []) := by
  refine sx_of ((vs40 s _).mpr ⟨x, y, k.c, ne_of (by simp) k.a, a0, a1, a2, a3, k.a, eq_of_nil k.b, k.b, bifW_f k.s ?_⟩)
  repeat' (first | rfl | decide | refine And.intro ?_ ?_)
theorem sx41 {a0 a1 a2 a3 b0 : Int} (k : SixH s x y [a0, a1, a2, a3] [b0]) : SixG (cwC (LsixT 4 1)) s (sixY [a0, a1, a2, a3] [b0]) := by
  refine sx_of ((vs41 s _).mpr ⟨x, y, k.c, ne_of (by simp) k.a, a0, a1, a2, a3, k.a, ne_of (by simp) k.b, b0, k.b, bifW_f k.s ?_⟩)
  repeat' (first | rfl | decide | refine And.intro ?_ ?_)
theorem sx42 {a0 a1 a2 a3 b0 b1 : Int} (k : SixH s x y [a0, a1, a2, a3] [b0, b1]) : SixG (cwC (LsixT 4 2)) s (sixY [a0, a1, a2, a3] [b0, b1]) := by
  refine sx_of ((vs42 s _).mpr ⟨x, y, k.c, ne_of (by simp) k.a, a0, a1, a2, a3, k.a, ne_of (by simp) k.b, b0, b1, k.b, bifW_f k.s ?_⟩)
  repeat' (first | rfl | decide | refine And.intro ?_ ?_)
theorem sx43 {a0 a1 a2 a3 b0 b1 b2 : Int} (k : SixH s x y [a0, a1, a2, a3] [b0, b1, b2]) : SixG (cwC (LsixT 4 3)) s (sixY [a0, a1, a2, a3] [b0, b1, b2]) := by
  refine sx_of ((vs43 s _).mpr ⟨x, y, k.c, ne_of (by simp) k.a, a0, a1, a2, a3, k.a, ne_of (by simp) k.b, b0, b1, b2, k.b, bifW_f k.s ?_⟩)
  repeat' (first | rfl | decide | refine And.intro ?_ ?_)
theorem sx50 {a0 a1 a2 a3 a4 : Int} (k : SixH s x y [a0, a1, a2, a3, a4] []) : SixG (cwC (LsixT 5 0)) s (sixY [a0, a1, a2, a3, a4] []) := by
  refine sx_of ((vs50 s _).mpr ⟨x, y, k.c, ne_of (by simp) k.a, a0, a1, a2, a3, a4, k.a, eq_of_nil k.b, k.b, bifW_f k.s ?_⟩)
  repeat' (first | rfl | decide | refine And.intro ?_ ?_)
theorem sx51 {a0 a1 a2 a3 a4 b0 : Int} (k : SixH s x y [a0, a1, a2, a3, a4] [b0]) : SixG (cwC (LsixT 5 1)) s (sixY [a0, a1, a2, a3, a4] [b0]) := by
  refine sx_of ((vs51 s _).mpr ⟨x, y, k.c, ne_of (by simp) k.a, a0, a1, a2, a3, a4, k.a, ne_of (by simp) k.b, b0, k.b, bifW_f k.s ?_⟩)
  repeat' (first | rfl | decide | refine And.intro ?_ ?_)
theorem sx52 {a0 a1 a2 a3 a4 b0 b1 : Int} (k : SixH s x y [a0, a1, a2, a3, a4] [b0, b1]) : SixG (cwC (LsixT 5 2)) s (sixY [a0, a1, a2, a3, a4] [b0, b1]) := by
  refine sx_of ((vs52 s _).mpr ⟨x, y, k.c, ne_of (by simp) k.a, a0, a1, a2, a3, a4, k.a, ne_of (by simp) k.b, b0, b1, k.b, bifW_f k.s ?_⟩)
  repeat' (first | rfl | decide | refine And.intro ?_ ?_)
theorem sx60 {a0 a1 a2 a3 a4 a5 : Int} (k : SixH s x y [a0, a1, a2, a3, a4, a5] []) : SixG (cwC (LsixT 6 0)) s (sixY [a0, a1, a2, a3, a4, a5] []) := by
  refine sx_of ((vs60 s _).mpr ⟨x, y, k.c, ne_of (by simp) k.a, a0, a1, a2, a3, a4, a5, k.a, eq_of_nil k.b, k.b, bifW_f k.s ?_⟩)
  repeat' (first | rfl | decide | refine And.intro ?_ ?_)
theorem sx61 {a0 a1 a2 a3 a4 a5 b0 : Int} (k : SixH s x y [a0, a1, a2, a3, a4, a5] [b0]) : SixG (cwC (LsixT 6 1)) s (sixY [a0, a1, a2, a3, a4, a5] [b0]) := by
  refine sx_of ((vs61 s _).mpr ⟨x, y, k.c, ne_of (by simp) k.a, a0, a1, a2, a3, a4, a5, k.a, ne_of (by simp) k.b, b0, k.b, bifW_f k.s ?_⟩)
  repeat' (first | rfl | decide | refine And.intro ?_ ?_)
theorem sx70 {a0 a1 a2 a3 a4 a5 a6 : Int} (k : SixH s x y [a0, a1, a2, a3, a4, a5, a6] []) : SixG (cwC (LsixT 7 0)) s (sixY [a0, a1, a2, a3, a4, a5, a6] []) := by
  refine sx_of ((vs70 s _).mpr ⟨x, y, k.c, ne_of (by simp) k.a, a0, a1, a2, a3, a4, a5, a6, k.a, eq_of_nil k.b, k.b, bifW_f k.s ?_⟩)
  repeat' (first | rfl | decide | refine And.intro ?_ ?_)

end Go.Proofs.YtfnacgojmdbjmaaDoor
end

section
/- addr.six: its contract. No conditions. -/
namespace Go.Proofs.YtfnacgojmdbjmaaDoor
open Go.Det Go.RowKit Go.Proofs.YtfnacgojmdbjmaaDoorW.PrintWords Go.Proofs.YtfnacgojmdbjmaaDoor.PPH
set_option maxRecDepth 100000

theorem cut_no {s x0 x1 : ByteArray} (hc : cutF s { data := #[58, 58] } = some (x0, x1, false)) : x1.data.toList = [] := by
  unfold cutF at hc
  split at hc
  case isFalse => cases hc
  unfold cutB Lib.cut at hc
  split at hc
  · cases hc
  · cases hc; rfl
theorem sx_all {s x0 x1 : ByteArray} {la lb : List Int} (hc : cutF s { data := #[58, 58] } = some (x0, x1, true)) (ha : rowF (x0, !true) = some (la, true)) (hb : rowF (x1, true) = some (lb, true)) (hl : la.length + lb.length ≤ 7) (hs : ¬ s.data.toList = []) :
    ∃ cw, CwOk (ownCall Lsix0) cw ∧ SixG cw s (sixY la lb) := by
  obtain hh | hh | hh | hh | hh | hh | hh | hh : la.length = 0 ∨ la.length = 1 ∨ la.length = 2 ∨ la.length = 3 ∨ la.length = 4 ∨ la.length = 5 ∨ la.length = 6 ∨ la.length = 7 := by omega
  · obtain rfl := ex0 hh
    obtain ht | ht | ht | ht | ht | ht | ht | ht : lb.length = 0 ∨ lb.length = 1 ∨ lb.length = 2 ∨ lb.length = 3 ∨ lb.length = 4 ∨ lb.length = 5 ∨ lb.length = 6 ∨ lb.length = 7 := by simp only [List.length_cons, List.length_nil] at hl; omega
    · obtain rfl := ex0 ht
      exact ⟨_, cwC_ok (LsixT 0 0), sx00 ⟨hc, ha, hb, hs⟩⟩
    · obtain ⟨b0, rfl⟩ := ex1 ht
      exact ⟨_, cwC_ok (LsixT 0 1), sx01 ⟨hc, ha, hb, hs⟩⟩
    · obtain ⟨b0, b1, rfl⟩ := ex2 ht
      exact ⟨_, cwC_ok (LsixT 0 2), sx02 ⟨hc, ha, hb, hs⟩⟩
    · obtain ⟨b0, b1, b2, rfl⟩ := ex3 ht
      exact ⟨_, cwC_ok (LsixT 0 3), sx03 ⟨hc, ha, hb, hs⟩⟩
    · obtain ⟨b0, b1, b2, b3, rfl⟩ := ex4 ht
      exact ⟨_, cwC_ok (LsixT 0 4), sx04 ⟨hc, ha, hb, hs⟩⟩
    · obtain ⟨b0, b1, b2, b3, b4, rfl⟩ := ex5 ht
      exact ⟨_, cwC_ok (LsixT 0 5), sx05 ⟨hc, ha, hb, hs⟩⟩
    · obtain ⟨b0, b1, b2, b3, b4, b5, rfl⟩ := ex6 ht
      exact ⟨_, cwC_ok (LsixT 0 6), sx06 ⟨hc, ha, hb, hs⟩⟩
    · obtain ⟨b0, b1, b2, b3, b4, b5, b6, rfl⟩ := ex7 ht
      exact ⟨_, cwC_ok (LsixT 0 7), sx07 ⟨hc, ha, hb, hs⟩⟩
  · obtain ⟨a0, rfl⟩ := ex1 hh
    obtain ht | ht | ht | ht | ht | ht | ht : lb.length = 0 ∨ lb.length = 1 ∨ lb.length = 2 ∨ lb.length = 3 ∨ lb.length = 4 ∨ lb.length = 5 ∨ lb.length = 6 := by simp only [List.length_cons, List.length_nil] at hl; omega
    · obtain rfl := ex0 ht
      exact ⟨_, cwC_ok (LsixT 1 0), sx10 ⟨hc, ha, hb, hs⟩⟩
    · obtain ⟨b0, rfl⟩ := ex1 ht
      exact ⟨_, cwC_ok (LsixT 1 1), sx11 ⟨hc, ha, hb, hs⟩⟩
    · obtain ⟨b0, b1, rfl⟩ := ex2 ht
      exact ⟨_, cwC_ok (LsixT 1 2), sx12 ⟨hc, ha, hb, hs⟩⟩
    · obtain ⟨b0, b1, b2, rfl⟩ := ex3 ht
      exact ⟨_, cwC_ok (LsixT 1 3), sx13 ⟨hc, ha, hb, hs⟩⟩
    · obtain ⟨b0, b1, b2, b3, rfl⟩ := ex4 ht
      exact ⟨_, cwC_ok (LsixT 1 4), sx14 ⟨hc, ha, hb, hs⟩⟩
    · obtain ⟨b0, b1, b2, b3, b4, rfl⟩ := ex5 ht
      exact ⟨_, cwC_ok (LsixT 1 5), sx15 ⟨hc, ha, hb, hs⟩⟩
    · obtain ⟨b0, b1, b2, b3, b4, b5, rfl⟩ := ex6 ht
      exact ⟨_, cwC_ok (LsixT 1 6), sx16 ⟨hc, ha, hb, hs⟩⟩
  · obtain ⟨a0, a1, rfl⟩ := ex2 hh
    obtain ht | ht | ht | ht | ht | ht : lb.length = 0 ∨ lb.length = 1 ∨ lb.length = 2 ∨ lb.length = 3 ∨ lb.length = 4 ∨ lb.length = 5 := by simp only [List.length_cons, List.length_nil] at hl; omega
    · obtain rfl := ex0 ht
      exact ⟨_, cwC_ok (LsixT 2 0), sx20 ⟨hc, ha, hb, hs⟩⟩
    · obtain ⟨b0, rfl⟩ := ex1 ht
      exact ⟨_, cwC_ok (LsixT 2 1), sx21 ⟨hc, ha, hb, hs⟩⟩
    · obtain ⟨b0, b1, rfl⟩ := ex2 ht
      exact ⟨_, cwC_ok (LsixT 2 2), sx22 ⟨hc, ha, hb, hs⟩⟩
    · obtain ⟨b0, b1, b2, rfl⟩ := ex3 ht
      exact ⟨_, cwC_ok (LsixT 2 3), sx23 ⟨hc, ha, hb, hs⟩⟩
    · obtain ⟨b0, b1, b2, b3, rfl⟩ := ex4 ht
      exact ⟨_, cwC_ok (LsixT 2 4), sx24 ⟨hc, ha, hb, hs⟩⟩
    · obtain ⟨b0, b1, b2, b3, b4, rfl⟩ := ex5 ht
      exact ⟨_, cwC_ok (LsixT 2 5), sx25 ⟨hc, ha, hb, hs⟩⟩
  · obtain ⟨a0, a1, a2, rfl⟩ := ex3 hh
    obtain ht | ht | ht | ht | ht : lb.length = 0 ∨ lb.length = 1 ∨ lb.length = 2 ∨ lb.length = 3 ∨ lb.length = 4 := by simp only [List.length_cons, List.length_nil] at hl; omega
    · obtain rfl := ex0 ht
      exact ⟨_, cwC_ok (LsixT 3 0), sx30 ⟨hc, ha, hb, hs⟩⟩
    · obtain ⟨b0, rfl⟩ := ex1 ht
      exact ⟨_, cwC_ok (LsixT 3 1), sx31 ⟨hc, ha, hb, hs⟩⟩
    · obtain ⟨b0, b1, rfl⟩ := ex2 ht
      exact ⟨_, cwC_ok (LsixT 3 2), sx32 ⟨hc, ha, hb, hs⟩⟩
    · obtain ⟨b0, b1, b2, rfl⟩ := ex3 ht
      exact ⟨_, cwC_ok (LsixT 3 3), sx33 ⟨hc, ha, hb, hs⟩⟩
    · obtain ⟨b0, b1, b2, b3, rfl⟩ := ex4 ht
      exact ⟨_, cwC_ok (LsixT 3 4), sx34 ⟨hc, ha, hb, hs⟩⟩
  · obtain ⟨a0, a1, a2, a3, rfl⟩ := ex4 hh
    obtain ht | ht | ht | ht : lb.length = 0 ∨ lb.length = 1 ∨ lb.length = 2 ∨ lb.length = 3 := by simp only [List.length_cons, List.length_nil] at hl; omega
    · obtain rfl := ex0 ht
      exact ⟨_, cwC_ok (LsixT 4 0), sx40 ⟨hc, ha, hb, hs⟩⟩
    · obtain ⟨b0, rfl⟩ := ex1 ht
      exact ⟨_, cwC_ok (LsixT 4 1), sx41 ⟨hc, ha, hb, hs⟩⟩
    · obtain ⟨b0, b1, rfl⟩ := ex2 ht
      exact ⟨_, cwC_ok (LsixT 4 2), sx42 ⟨hc, ha, hb, hs⟩⟩
    · obtain ⟨b0, b1, b2, rfl⟩ := ex3 ht
      exact ⟨_, cwC_ok (LsixT 4 3), sx43 ⟨hc, ha, hb, hs⟩⟩
  · obtain ⟨a0, a1, a2, a3, a4, rfl⟩ := ex5 hh
    obtain ht | ht | ht : lb.length = 0 ∨ lb.length = 1 ∨ lb.length = 2 := by simp only [List.length_cons, List.length_nil] at hl; omega
    · obtain rfl := ex0 ht
      exact ⟨_, cwC_ok (LsixT 5 0), sx50 ⟨hc, ha, hb, hs⟩⟩
    · obtain ⟨b0, rfl⟩ := ex1 ht
      exact ⟨_, cwC_ok (LsixT 5 1), sx51 ⟨hc, ha, hb, hs⟩⟩
    · obtain ⟨b0, b1, rfl⟩ := ex2 ht
      exact ⟨_, cwC_ok (LsixT 5 2), sx52 ⟨hc, ha, hb, hs⟩⟩
  · obtain ⟨a0, a1, a2, a3, a4, a5, rfl⟩ := ex6 hh
    obtain ht | ht : lb.length = 0 ∨ lb.length = 1 := by simp only [List.length_cons, List.length_nil] at hl; omega
    · obtain rfl := ex0 ht
      exact ⟨_, cwC_ok (LsixT 6 0), sx60 ⟨hc, ha, hb, hs⟩⟩
    · obtain ⟨b0, rfl⟩ := ex1 ht
      exact ⟨_, cwC_ok (LsixT 6 1), sx61 ⟨hc, ha, hb, hs⟩⟩
  · obtain ⟨a0, a1, a2, a3, a4, a5, a6, rfl⟩ := ex7 hh
    have ht : lb.length = 0 := by simp only [List.length_cons, List.length_nil] at hl; omega
    obtain rfl := ex0 ht
    exact ⟨_, cwC_ok (LsixT 7 0), sx70 ⟨hc, ha, hb, hs⟩⟩
theorem sxw {s x0 x1 : ByteArray} {a0 a1 a2 a3 a4 a5 a6 a7 : Int} (hc : cutF s { data := #[58, 58] } = some (x0, x1, false)) (ha : rowF (x0, !false) = some ([a0, a1, a2, a3, a4, a5, a6, a7], true)) (hb : rowF (x1, true) = some ([], true)) (hs : ¬ s.data.toList = []) :
    codeW Tryd.prog (cwC LsixW) (bodyOf Tryd.f52) (inTab [.string s] 8) (birth [] 64) (retW Tryd.prog Tryd.f52 fun v' _ => v' = enAB (6, (comb8 [a0, a1, a2, a3, a4, a5, a6, a7]).1, (comb8 [a0, a1, a2, a3, a4, a5, a6, a7]).2, true)) := by
  refine codeU_codeW (cwC_mono _) (oxE_ok _) (n := 9) (by kernel_rfl) ((vsw s _).mpr ⟨x0, x1, hc, .inr ⟨ne_of (by simp) ha, a0, a1, a2, a3, a4, a5, a6, a7, ha, .inl ⟨eq_of_nil hb, hb, bifW_f hs ?_⟩⟩⟩)
  repeat' (first | rfl | decide | refine And.intro ?_ ?_)
theorem w52 (s : ByteArray) (y : Int × Int × Int × Bool) (hx : sixF s = some y) : ∃ cw, CwOk (ownCall Lsix0) cw ∧ codeW Tryd.prog cw (bodyOf Tryd.f52) (inTab [.string s] 8) (birth [] 64) (retW Tryd.prog Tryd.f52 fun v' _ => v' = enAB y) := by
  unfold sixF at hx
  obtain ⟨⟨x0, x1, cut⟩, hc, hx⟩ := Option.bind_eq_some_iff.1 hx
  obtain ⟨⟨la, oa⟩, ha, hx⟩ := Option.bind_eq_some_iff.1 hx
  obtain ⟨⟨lb, ob⟩, hb, hx⟩ := Option.bind_eq_some_iff.1 hx
  simp only at ha hb hx
  split at hx
  · rename_i H
    cases hx
    cases cut with
    | true => exact ⟨_, cwC_ok (LsixB true), six_zT hc ha hb H⟩
    | false => exact ⟨_, cwC_ok (LsixB false), six_zF hc ha hb H⟩
  · rename_i H
    cases hx
    unfold sixB at H
    simp only [Bool.or_eq_true, Bool.not_eq_true', decide_eq_true_eq, not_or, Bool.not_eq_false] at H
    obtain ⟨rfl, rfl, hs, H⟩ := H
    cases cut with
    | true => exact sx_all hc ha hb (by simp only [decide_eq_true_eq] at H; omega) hs
    | false =>
      have e := nil_of (cut_no hc) hb
      cases e
      simp only [decide_eq_true_eq, List.length_nil, Nat.add_zero, ne_eq, Decidable.not_not] at H
      obtain ⟨a0, a1, a2, a3, a4, a5, a6, a7, rfl⟩ := ex8 H
      exact ⟨_, cwC_ok LsixW, sxw hc ha hb hs⟩
noncomputable def con52 : Con := Con.opt decB sixF enAB
theorem om52 {W : World} (hW : GoodW W) : OwnAll Tryd.prog W 6 52 con52.own := by
  refine own_flat2 (l := Lsix0) (Laying.empty hW.size) hW.size (by decide) dt_mixed (OwnsAll.cons (om60 hW) (OwnsAll.cons (om75 hW) (ownsAll_nil W 6))) Tryd.func52 (fn := Tryd.f52) (c := bodyOf Tryd.f52) (by kernel_rfl) (by kernel_rfl) fun args v hv => ?_
  split at hv
  case h_2 => cases hv
  rename_i a ha
  split at hv
  case h_2 => cases hv
  rename_i b hd
  cases hv
  obtain rfl := decB_enc ha
  exact ⟨rfl, rfl, by kernel_rfl, w52 a b hd⟩

end Go.Proofs.YtfnacgojmdbjmaaDoor
end

section
/- addr.Print: its words. No conditions. -/
namespace Go.Proofs.YtfnacgojmdbjmaaDoor
open Go.Det Go.RowKit Go.Proofs.YtfnacgojmdbjmaaDoorW.PrintWords Go.Proofs.YtfnacgojmdbjmaaDoor.PPH
set_option maxRecDepth 100000

def partsI (x : Int × Int) : Option (List Int) := some (partL x.1 ++ partL x.2)
/-- an address's groups, eight numbers -/
noncomputable def con56n : Con where
  own := con56.own
  w := fun args s K => match decQ2 args with
    | some a => exN 8 fun l => partsI a = some l ∧ K (.slice (some ⟨s.next, 0, none⟩) 8 8) (s.new (.cells (l.map (Value.int .u64)) 55 false))
    | none => False
  ok := by
    intro args s K h
    split at h
    · rename_i a ha
      obtain ⟨l, hl, h, hk⟩ := exN_some h
      have e : partsF a = some (l.map (Value.int .u64)) := by cases h; rfl
      exact ⟨_, _, by unfold con56 Con.made; simp only [ha, e], hk, fun K' k => exN_intro hl ⟨h, k⟩⟩
    · exact h.elim
  mono := by
    intro args s K K' k h
    split at h
    · obtain ⟨l, hl, h, hk⟩ := exN_some h
      exact exN_intro hl ⟨h, k _ _ hk⟩
    · exact h.elim
noncomputable def decU1 : List Value → Option Int
  | [.int .u64 n] => some n
  | _ => none
theorem decU1_enc {args : List Value} {a : Int} (h : decU1 args = some a) : args = [.int .u64 a] := by
  unfold decU1 at h
  split at h
  case h_2 => cases h
  cases h; rfl
noncomputable def con54 : Con := Con.opt decU1 txtF enS
theorem om54 {W : World} (hW : GoodW W) : OwnAll Tryd.prog W 6 54 con54.own := by
  refine own_of_calls (fn := Tryd.f54) (c := bodyOf Tryd.f54) hW Tryd.func54 (by kernel_rfl) (by kernel_rfl) fun args v h => ?_
  split at h
  case h_2 => cases h
  rename_i a ha
  split at h
  case h_2 => cases h
  rename_i b hb
  cases h
  obtain rfl := decU1_enc ha
  exact ⟨rfl, rfl, fun w hG => st_txt hG hb⟩
noncomputable def decA : List Value → Option (Int × Int × Int)
  | [.agg ⟨[.int .i64 a, .int .u64 b, .int .u64 c]⟩] => some (a, b, c)
  | _ => none
theorem decA_enc {args : List Value} {a : Int × Int × Int} (h : decA args = some a) : args = [.agg #[.int .i64 a.1, .int .u64 a.2.1, .int .u64 a.2.2]] := by
  unfold decA at h
  split at h
  case h_2 => cases h
  cases h; rfl
def okF (v h l : Int) : Option Bool := if v = 6 then some true else if v = 4 then (if h = 0 then some (decide (l < 4294967296)) else some false) else some false
noncomputable def enB (y : Bool) : Value := .bool y
noncomputable def con31 : Con := Con.opt decA (fun x => okF x.1 x.2.1 x.2.2) enB
noncomputable def Lpr : List (Nat × Con) := [(31, con31), (54, con54), (55, con55), (56, con56n), (57, con57), (58, con58)]
end Go.Proofs.YtfnacgojmdbjmaaDoor
end

section
/- Conditions, reckoned by the kernel. -/
namespace Go.Proofs.YtfnacgojmdbjmaaDoor
open Go.Det Go.RowKit  Go.Proofs.YtfnacgojmdbjmaaDoorW.PrintWords
set_option maxRecDepth 100000

theorem vp31 (v a b : Int) (Q : Value → Prop) : codeU Tryd.prog (cwC []) (oxE []) 1 (bodyOf Tryd.f31) (inTab [.agg #[.int .i64 v, .int .u64 a, .int .u64 b]] 8) (birth [] 64) (retW Tryd.prog Tryd.f31 fun v _ => Q v) = (bifW (cdec (v = 6)) (Q (Value.bool true)) (bifW (cdec (v = 4)) (bifW (cdec (a = 0)) (Q (Value.bool (cdec (b < 4294967296)))) (Q (Value.bool false))) (Q (Value.bool false)))) := by kernel_rfl

theorem vp26 (v a b : Int) (Q : Value → Prop) : codeU Tryd.prog (cwC Lpr) (oxE [17, 41]) 5 (bodyOf Tryd.f26) (inTab [.agg #[.int .i64 v, .int .u64 a, .int .u64 b]] 8) (birth [] 64) (retW Tryd.prog Tryd.f26 fun v _ => Q v) = ((∃ x0 : Bool, ((okF v a b = some x0) ∧ bifW (!x0) (Q (Value.string { data := #[] })) (bifW (cdec (v = 4)) (((true = true) ∧ (((0 : Int) ≤ 24) ∧ (∃ x1 : ByteArray, ((txtF (andI .u64 (shrI .u64 b 24) 255) = some x1) ∧ ((true = true) ∧ (((0 : Int) ≤ 16) ∧ (∃ x2 : ByteArray, ((txtF (andI .u64 (shrI .u64 b (16)) 255) = some x2) ∧ ((true = true) ∧ (((0 : Int) ≤ 8) ∧ (∃ x3 : ByteArray, ((txtF (andI .u64 (shrI .u64 b (8)) 255) = some x3) ∧ ((true = true) ∧ (((0 : Int) ≤ 0) ∧ (∃ x4 : ByteArray, ((txtF (andI .u64 (shrI .u64 b (0)) 255) = some x4) ∧ ((true = true) ∧ (∃ x5 : ByteArray, ((joinF [x1, x2, x3, x4] { data := #[46] } = some x5) ∧ Q (Value.string x5))))))))))))))))))))) ((∃ x1 : Int, (∃ x2 : Int, (∃ x3 : Int, (∃ x4 : Int, (∃ x5 : Int, (∃ x6 : Int, (∃ x7 : Int, (∃ x8 : Int, ((partsI (a, b) = some [x1, x2, x3, x4, x5, x6, x7, x8]) ∧ (((zerosF [x1, x2, x3, x4, x5, x6, x7, x8] PUnit.unit = some (0, 0)) ∧ ((true = true) ∧ (∃ x9 : ByteArray, ((textF [x1, x2, x3, x4, x5, x6, x7, x8] PUnit.unit = some x9) ∧ Q (Value.string x9))))) ∨ (((zerosF [x1, x2, x3, x4, x5, x6, x7, x8] PUnit.unit = some (0, 2)) ∧ ((true = true) ∧ (∃ x9 : ByteArray, ((textF [] PUnit.unit = some x9) ∧ ((ByteArray.size x9 + ByteArray.size { data := #[58, 58] } ≤ 9223372036854775807) ∧ (∃ x10 : ByteArray, ((textF [x3, x4, x5, x6, x7, x8] PUnit.unit = some x10) ∧ ((ByteArray.size (x9 ++ { data := #[58, 58] }) + ByteArray.size x10 ≤ 9223372036854775807) ∧ Q (Value.string (x9 ++ { data := #[58, 58] } ++ x10)))))))))) ∨ (((zerosF [x1, x2, x3, x4, x5, x6, x7, x8] PUnit.unit = some (0, 3)) ∧ ((true = true) ∧ (∃ x9 : ByteArray, ((textF [] PUnit.unit = some x9) ∧ ((ByteArray.size x9 + ByteArray.size { data := #[58, 58] } ≤ 9223372036854775807) ∧ (∃ x10 : ByteArray, ((textF [x4, x5, x6, x7, x8] PUnit.unit = some x10) ∧ ((ByteArray.size (x9 ++ { data := #[58, 58] }) + ByteArray.size x10 ≤ 9223372036854775807) ∧ Q (Value.string (x9 ++ { data := #[58, 58] } ++ x10)))))))))) ∨ (((zerosF [x1, x2, x3, x4, x5, x6, x7, x8] PUnit.unit = some (0, 4)) ∧ ((true = true) ∧ (∃ x9 : ByteArray, ((textF [] PUnit.unit = some x9) ∧ ((ByteArray.size x9 + ByteArray.size { data := #[58, 58] } ≤ 9223372036854775807) ∧ (∃ x10 : ByteArray, ((textF [x5, x6, x7, x8] PUnit.unit = some x10) ∧ ((ByteArray.size (x9 ++ { data := #[58, 58] }) + ByteArray.size x10 ≤ 9223372036854775807) ∧ Q (Value.string (x9 ++ { data := #[58, 58] } ++ x10)))))))))) ∨ (((zerosF [x1, x2, x3, x4, x5, x6, x7, x8] PUnit.unit = some (0, 5)) ∧ ((true = true) ∧ (∃ x9 : ByteArray, ((textF [] PUnit.unit = some x9) ∧ ((ByteArray.size x9 + ByteArray.size { data := #[58, 58] } ≤ 9223372036854775807) ∧ (∃ x10 : ByteArray, ((textF [x6, x7, x8] PUnit.unit = some x10) ∧ ((ByteArray.size (x9 ++ { data := #[58, 58] }) + ByteArray.size x10 ≤ 9223372036854775807) ∧ Q (Value.string (x9 ++ { data := #[58, 58] } ++ x10)))))))))) ∨ (((zerosF [x1, x2, x3, x4, x5, x6, x7, x8] PUnit.unit = some (0, 6)) ∧ ((true = true) ∧ (∃ x9 : ByteArray, ((textF [] PUnit.unit = some x9) ∧ ((ByteArray.size x9 + ByteArray.size { data := #[58, 58] } ≤ 9223372036854775807) ∧ (∃ x10 : ByteArray, ((textF [x7, x8] PUnit.unit = some x10) ∧ ((ByteArray.size (x9 ++ { data := #[58, 58] }) + ByteArray.size x10 ≤ 9223372036854775807) ∧ Q (Value.string (x9 ++ { data := #[58, 58] } ++ x10)))))))))) ∨ (((zerosF [x1, x2, x3, x4, x5, x6, x7, x8] PUnit.unit = some (0, 7)) ∧ ((true = true) ∧ (∃ x9 : ByteArray, ((textF [] PUnit.unit = some x9) ∧ ((ByteArray.size x9 + ByteArray.size { data := #[58, 58] } ≤ 9223372036854775807) ∧ (∃ x10 : ByteArray, ((textF [x8] PUnit.unit = some x10) ∧ ((ByteArray.size (x9 ++ { data := #[58, 58] }) + ByteArray.size x10 ≤ 9223372036854775807) ∧ Q (Value.string (x9 ++ { data := #[58, 58] } ++ x10)))))))))) ∨ (((zerosF [x1, x2, x3, x4, x5, x6, x7, x8] PUnit.unit = some (0, 8)) ∧ ((true = true) ∧ (∃ x9 : ByteArray, ((textF [] PUnit.unit = some x9) ∧ ((ByteArray.size x9 + ByteArray.size { data := #[58, 58] } ≤ 9223372036854775807) ∧ (∃ x10 : ByteArray, ((textF [] PUnit.unit = some x10) ∧ ((ByteArray.size (x9 ++ { data := #[58, 58] }) + ByteArray.size x10 ≤ 9223372036854775807) ∧ Q (Value.string (x9 ++ { data := #[58, 58] } ++ x10)))))))))) ∨ (((zerosF [x1, x2, x3, x4, x5, x6, x7, x8] PUnit.unit = some (1, 3)) ∧ ((true = true) ∧ (∃ x9 : ByteArray, ((textF [x1] PUnit.unit = some x9) ∧ ((ByteArray.size x9 + ByteArray.size { data := #[58, 58] } ≤ 9223372036854775807) ∧ (∃ x10 : ByteArray, ((textF [x4, x5, x6, x7, x8] PUnit.unit = some x10) ∧ ((ByteArray.size (x9 ++ { data := #[58, 58] }) + ByteArray.size x10 ≤ 9223372036854775807) ∧ Q (Value.string (x9 ++ { data := #[58, 58] } ++ x10)))))))))) ∨ (((zerosF [x1, x2, x3, x4, x5, x6, x7, x8] PUnit.unit = some (1, 4)) ∧ ((true = true) ∧ (∃ x9 : ByteArray, ((textF [x1] PUnit.unit = some x9) ∧ ((ByteArray.size x9 + ByteArray.size { data := #[58, 58] } ≤ 9223372036854775807) ∧ (∃ x10 : ByteArray, ((textF [x5, x6, x7, x8] PUnit.unit = some x10) ∧ ((ByteArray.size (x9 ++ { data := #[58, 58] }) + ByteArray.size x10 ≤ 9223372036854775807) ∧ Q (Value.string (x9 ++ { data := #[58, 58] } ++ x10)))))))))) ∨ (((zerosF [x1, x2, x3, x4, x5, x6, x7, x8] PUnit.unit = some (1, 5)) ∧ ((true = true) ∧ (∃ x9 : ByteArray, ((textF [x1] PUnit.unit = some x9) ∧ ((ByteArray.size x9 + ByteArray.size { data := #[58, 58] } ≤ 9223372036854775807) ∧ (∃ x10 : ByteArray, ((textF [x6, x7, x8] PUnit.unit = some x10) ∧ ((ByteArray.size (x9 ++ { data := #[58, 58] }) + ByteArray.size x10 ≤ 9223372036854775807) ∧ Q (Value.string (x9 ++ { data := #[58, 58] } ++ x10)))))))))) ∨ (((zerosF [x1, x2, x3, x4, x5, x6, x7, x8] PUnit.unit = some (1, 6)) ∧ ((true = true) ∧ (∃ x9 : ByteArray, ((textF [x1] PUnit.unit = some x9) ∧ ((ByteArray.size x9 + ByteArray.size { data := #[58, 58] } ≤ 9223372036854775807) ∧ (∃ x10 : ByteArray, ((textF [x7, x8] PUnit.unit = some x10) ∧ ((ByteArray.size (x9 ++ { data := #[58, 58] }) + ByteArray.size x10 ≤ 9223372036854775807) ∧ Q (Value.string (x9 ++ { data := #[58, 58] } ++ x10)))))))))) ∨ (((zerosF [x1, x2, x3, x4, x5, x6, x7, x8] PUnit.unit = some (1, 7)) ∧ ((true = true) ∧ (∃ x9 : ByteArray, ((textF [x1] PUnit.unit = some x9) ∧ ((ByteArray.size x9 + ByteArray.size { data := #[58, 58] } ≤ 9223372036854775807) ∧ (∃ x10 : ByteArray, ((textF [x8] PUnit.unit = some x10) ∧ ((ByteArray.size (x9 ++ { data := #[58, 58] }) + ByteArray.size x10 ≤ 9223372036854775807) ∧ Q (Value.string (x9 ++ { data := #[58, 58] } ++ x10)))))))))) ∨ (((zerosF [x1, x2, x3, x4, x5, x6, x7, x8] PUnit.unit = some (1, 8)) ∧ ((true = true) ∧ (∃ x9 : ByteArray, ((textF [x1] PUnit.unit = some x9) ∧ ((ByteArray.size x9 + ByteArray.size { data := #[58, 58] } ≤ 9223372036854775807) ∧ (∃ x10 : ByteArray, ((textF [] PUnit.unit = some x10) ∧ ((ByteArray.size (x9 ++ { data := #[58, 58] }) + ByteArray.size x10 ≤ 9223372036854775807) ∧ Q (Value.string (x9 ++ { data := #[58, 58] } ++ x10)))))))))) ∨ (((zerosF [x1, x2, x3, x4, x5, x6, x7, x8] PUnit.unit = some (2, 4)) ∧ ((true = true) ∧ (∃ x9 : ByteArray, ((textF [x1, x2] PUnit.unit = some x9) ∧ ((ByteArray.size x9 + ByteArray.size { data := #[58, 58] } ≤ 9223372036854775807) ∧ (∃ x10 : ByteArray, ((textF [x5, x6, x7, x8] PUnit.unit = some x10) ∧ ((ByteArray.size (x9 ++ { data := #[58, 58] }) + ByteArray.size x10 ≤ 9223372036854775807) ∧ Q (Value.string (x9 ++ { data := #[58, 58] } ++ x10)))))))))) ∨ (((zerosF [x1, x2, x3, x4, x5, x6, x7, x8] PUnit.unit = some (2, 5)) ∧ ((true = true) ∧ (∃ x9 : ByteArray, ((textF [x1, x2] PUnit.unit = some x9) ∧ ((ByteArray.size x9 + ByteArray.size { data := #[58, 58] } ≤ 9223372036854775807) ∧ (∃ x10 : ByteArray, ((textF [x6, x7, x8] PUnit.unit = some x10) ∧ ((ByteArray.size (x9 ++ { data := #[58, 58] }) + ByteArray.size x10 ≤ 9223372036854775807) ∧ Q (Value.string (x9 ++ { data := #[58, 58] } ++ x10)))))))))) ∨ (((zerosF [x1, x2, x3, x4, x5, x6, x7, x8] PUnit.unit = some (2, 6)) ∧ ((true = true) ∧ (∃ x9 : ByteArray, ((textF [x1, x2] PUnit.unit = some x9) ∧ ((ByteArray.size x9 + ByteArray.size { data := #[58, 58] } ≤ 9223372036854775807) ∧ (∃ x10 : ByteArray, ((textF [x7, x8] PUnit.unit = some x10) ∧ ((ByteArray.size (x9 ++ { data := #[58, 58] }) + ByteArray.size x10 ≤ 9223372036854775807) ∧ Q (Value.string (x9 ++ { data := #[58, 58] } ++ x10)))))))))) ∨ (((zerosF [x1, x2, x3, x4, x5, x6, x7, x8] PUnit.unit = some (2, 7)) ∧ ((true = true) ∧ (∃ x9 : ByteArray, ((textF [x1, x2] PUnit.unit = some x9) ∧ ((ByteArray.size x9 + ByteArray.size { data := #[58, 58] } ≤ 9223372036854775807) ∧ (∃ x10 : ByteArray, ((textF [x8] PUnit.unit = some x10) ∧ ((ByteArray.size (x9 ++ { data := #[58, 58] }) + ByteArray.size x10 ≤ 9223372036854775807) ∧ Q (Value.string (x9 ++ { data := #[58, 58] } ++ x10)))))))))) ∨ (((zerosF [x1, x2, x3, x4, x5, x6, x7, x8] PUnit.unit = some (2, 8)) ∧ ((true = true) ∧ (∃ x9 : ByteArray, ((textF [x1, x2] PUnit.unit = some x9) ∧ ((ByteArray.size x9 + ByteArray.size { data := #[58, 58] } ≤ 9223372036854775807) ∧ (∃ x10 : ByteArray, ((textF [] PUnit.unit = some x10) ∧ ((ByteArray.size (x9 ++ { data := #[58, 58] }) + ByteArray.size x10 ≤ 9223372036854775807) ∧ Q (Value.string (x9 ++ { data := #[58, 58] } ++ x10)))))))))) ∨ (((zerosF [x1, x2, x3, x4, x5, x6, x7, x8] PUnit.unit = some (3, 5)) ∧ ((true = true) ∧ (∃ x9 : ByteArray, ((textF [x1, x2, x3] PUnit.unit = some x9) ∧ ((ByteArray.size x9 + ByteArray.size { data := #[58, 58] } ≤ 9223372036854775807) ∧ (∃ x10 : ByteArray, ((textF [x6, x7, x8] PUnit.unit = some x10) ∧ ((ByteArray.size (x9 ++ { data := #[58, 58] }) + ByteArray.size x10 ≤ 9223372036854775807) ∧ Q (Value.string (x9 ++ { data := #[58, 58] } ++ x10)))))))))) ∨ (((zerosF [x1, x2, x3, x4, x5, x6, x7, x8] PUnit.unit = some (3, 6)) ∧ ((true = true) ∧ (∃ x9 : ByteArray, ((textF [x1, x2, x3] PUnit.unit = some x9) ∧ ((ByteArray.size x9 + ByteArray.size { data := #[58, 58] } ≤ 9223372036854775807) ∧ (∃ x10 : ByteArray, ((textF [x7, x8] PUnit.unit = some x10) ∧ ((ByteArray.size (x9 ++ { data := #[58, 58] }) + ByteArray.size x10 ≤ 9223372036854775807) ∧ Q (Value.string (x9 ++ { data := #[58, 58] } ++ x10)))))))))) ∨ (((zerosF [x1, x2, x3, x4, x5, x6, x7, x8] PUnit.unit = some (3, 7)) ∧ ((true = true) ∧ (∃ x9 : ByteArray, ((textF [x1, x2, x3] PUnit.unit = some x9) ∧ ((ByteArray.size x9 + ByteArray.size { data := #[58, 58] } ≤ 9223372036854775807) ∧ (∃ x10 : ByteArray, ((textF [x8] PUnit.unit = some x10) ∧ ((ByteArray.size (x9 ++ { data := #[58, 58] }) + ByteArray.size x10 ≤ 9223372036854775807) ∧ Q (Value.string (x9 ++ { data := #[58, 58] } ++ x10)))))))))) ∨ (((zerosF [x1, x2, x3, x4, x5, x6, x7, x8] PUnit.unit = some (3, 8)) ∧ ((true = true) ∧ (∃ x9 : ByteArray, ((textF [x1, x2, x3] PUnit.unit = some x9) ∧ ((ByteArray.size x9 + ByteArray.size { data := #[58, 58] } ≤ 9223372036854775807) ∧ (∃ x10 : ByteArray, ((textF [] PUnit.unit = some x10) ∧ ((ByteArray.size (x9 ++ { data := #[58, 58] }) + ByteArray.size x10 ≤ 9223372036854775807) ∧ Q (Value.string (x9 ++ { data := #[58, 58] } ++ x10)))))))))) ∨ (((zerosF [x1, x2, x3, x4, x5, x6, x7, x8] PUnit.unit = some (4, 6)) ∧ ((true = true) ∧ (∃ x9 : ByteArray, ((textF [x1, x2, x3, x4] PUnit.unit = some x9) ∧ ((ByteArray.size x9 + ByteArray.size { data := #[58, 58] } ≤ 9223372036854775807) ∧ (∃ x10 : ByteArray, ((textF [x7, x8] PUnit.unit = some x10) ∧ ((ByteArray.size (x9 ++ { data := #[58, 58] }) + ByteArray.size x10 ≤ 9223372036854775807) ∧ Q (Value.string (x9 ++ { data := #[58, 58] } ++ x10)))))))))) ∨ (((zerosF [x1, x2, x3, x4, x5, x6, x7, x8] PUnit.unit = some (4, 7)) ∧ ((true = true) ∧ (∃ x9 : ByteArray, ((textF [x1, x2, x3, x4] PUnit.unit = some x9) ∧ ((ByteArray.size x9 + ByteArray.size { data := #[58, 58] } ≤ 9223372036854775807) ∧ (∃ x10 : ByteArray, ((textF [x8] PUnit.unit = some x10) ∧ ((ByteArray.size (x9 ++ { data := #[58, 58] }) + ByteArray.size x10 ≤ 9223372036854775807) ∧ Q (Value.string (x9 ++ { data := #[58, 58] } ++ x10)))))))))) ∨ (((zerosF [x1, x2, x3, x4, x5, x6, x7, x8] PUnit.unit = some (4, 8)) ∧ ((true = true) ∧ (∃ x9 : ByteArray, ((textF [x1, x2, x3, x4] PUnit.unit = some x9) ∧ ((ByteArray.size x9 + ByteArray.size { data := #[58, 58] } ≤ 9223372036854775807) ∧ (∃ x10 : ByteArray, ((textF [] PUnit.unit = some x10) ∧ ((ByteArray.size (x9 ++ { data := #[58, 58] }) + ByteArray.size x10 ≤ 9223372036854775807) ∧ Q (Value.string (x9 ++ { data := #[58, 58] } ++ x10)))))))))) ∨ (((zerosF [x1, x2, x3, x4, x5, x6, x7, x8] PUnit.unit = some (5, 7)) ∧ ((true = true) ∧ (∃ x9 : ByteArray, ((textF [x1, x2, x3, x4, x5] PUnit.unit = some x9) ∧ ((ByteArray.size x9 + ByteArray.size { data := #[58, 58] } ≤ 9223372036854775807) ∧ (∃ x10 : ByteArray, ((textF [x8] PUnit.unit = some x10) ∧ ((ByteArray.size (x9 ++ { data := #[58, 58] }) + ByteArray.size x10 ≤ 9223372036854775807) ∧ Q (Value.string (x9 ++ { data := #[58, 58] } ++ x10)))))))))) ∨ (((zerosF [x1, x2, x3, x4, x5, x6, x7, x8] PUnit.unit = some (5, 8)) ∧ ((true = true) ∧ (∃ x9 : ByteArray, ((textF [x1, x2, x3, x4, x5] PUnit.unit = some x9) ∧ ((ByteArray.size x9 + ByteArray.size { data := #[58, 58] } ≤ 9223372036854775807) ∧ (∃ x10 : ByteArray, ((textF [] PUnit.unit = some x10) ∧ ((ByteArray.size (x9 ++ { data := #[58, 58] }) + ByteArray.size x10 ≤ 9223372036854775807) ∧ Q (Value.string (x9 ++ { data := #[58, 58] } ++ x10)))))))))) ∨ (((zerosF [x1, x2, x3, x4, x5, x6, x7, x8] PUnit.unit = some (6, 8)) ∧ ((true = true) ∧ (∃ x9 : ByteArray, ((textF [x1, x2, x3, x4, x5, x6] PUnit.unit = some x9) ∧ ((ByteArray.size x9 + ByteArray.size { data := #[58, 58] } ≤ 9223372036854775807) ∧ (∃ x10 : ByteArray, ((textF [] PUnit.unit = some x10) ∧ ((ByteArray.size (x9 ++ { data := #[58, 58] }) + ByteArray.size x10 ≤ 9223372036854775807) ∧ Q (Value.string (x9 ++ { data := #[58, 58] } ++ x10)))))))))) ∨ False))))))))))))))))))))))))))))))))))))))))))) := by kernel_rfl

end Go.Proofs.YtfnacgojmdbjmaaDoor
end

section
/- addr.Print: what it answers; addr.Ok. No conditions. -/
namespace Go.Proofs.YtfnacgojmdbjmaaDoor
open Go.Det Go.RowKit Go.Proofs.YtfnacgojmdbjmaaDoorW.PrintWords Go.Proofs.YtfnacgojmdbjmaaDoor.PPH
set_option maxRecDepth 100000

theorem w31 (x : Int × Int × Int) (y : Bool) (hx : okF x.1 x.2.1 x.2.2 = some y) : codeW Tryd.prog (cwC []) (bodyOf Tryd.f31) (inTab [.agg #[.int .i64 x.1, .int .u64 x.2.1, .int .u64 x.2.2]] 8) (birth [] 64) (retW Tryd.prog Tryd.f31 fun v' _ => v' = enB y) := by
  obtain ⟨v, a, b⟩ := x
  refine codeU_codeW (cwC_mono _) (oxE_ok _) (n := 1) (by kernel_rfl) ((vp31 v a b _).mpr ?_)
  unfold okF at hx
  simp only at hx
  repeat' first
    | ((refine bifW_c (fun hc => ?_) (fun hc => ?_)) <;> first | rw [if_pos hc] at hx | rw [if_neg hc] at hx)
    | (cases hx; rfl)
    | (cases hx; simp only [enB, cdec_eq])
theorem om31 {W : World} (hW : GoodW W) : OwnAll Tryd.prog W 6 31 con31.own :=
  con_opt (fun x : Int × Int × Int => [.agg #[.int .i64 x.1, .int .u64 x.2.1, .int .u64 x.2.2]]) (Laying.empty hW.size) hW.size (by decide) dt_mixed (ownsAll_nil W 6) Tryd.func31 (fn := Tryd.f31) (c := bodyOf Tryd.f31) (by kernel_rfl) (by kernel_rfl) (fun _ _ h => decA_enc h) (fun a => ⟨rfl, (by kernel_rfl)⟩) (fun b => rfl) w31

def grp (a b : Int) : List Int := partL a ++ partL b
def dotB : ByteArray := { data := #[46] }
def colB : ByteArray := { data := #[58, 58] }
def pr4 (b : Int) : Option ByteArray := (txtF (andI .u64 (shrI .u64 b 24) 255)).bind fun x1 => (txtF (andI .u64 (shrI .u64 b 16) 255)).bind fun x2 => (txtF (andI .u64 (shrI .u64 b 8) 255)).bind fun x3 => (txtF (andI .u64 (shrI .u64 b 0) 255)).bind fun x4 => joinF [x1, x2, x3, x4] dotB
def pr6 (G : List Int) (ij : Int × Int) : Option ByteArray :=
  if ij = (0, 0) then textF G () else if ij ∈ zpairs then (textF (G.take ij.1.toNat) ()).bind fun s => (textF (G.drop ij.2.toNat) ()).bind fun t => if s.size + 2 + t.size ≤ 1000 then some (s ++ colB ++ t) else none else none
def prF (v a b : Int) : Option ByteArray :=
  (okF v a b).bind fun ok => if ok = true then (if v = 4 then pr4 b else (zerosF (grp a b) ()).bind fun ij => pr6 (grp a b) ij) else some ByteArray.empty
theorem w26 (x : Int × Int × Int) (y : ByteArray) (hx : prF x.1 x.2.1 x.2.2 = some y) : codeW Tryd.prog (cwC Lpr) (bodyOf Tryd.f26) (inTab [.agg #[.int .i64 x.1, .int .u64 x.2.1, .int .u64 x.2.2]] 8) (birth [] 64) (retW Tryd.prog Tryd.f26 fun v' _ => v' = enS y) := by
  obtain ⟨v, a, b⟩ := x
  refine codeU_codeW (cwC_mono _) (oxE_ok _) (n := 5) (by kernel_rfl) ((vp26 v a b _).mpr ?_)
  unfold prF at hx
  simp only at hx
  obtain ⟨ok, hok, hx⟩ := Option.bind_eq_some_iff.1 hx
  refine ⟨ok, hok, bifW_n (fun h => ?_) (fun h => ?_)⟩
  rotate_left
  · rw [if_neg h] at hx; cases hx; rfl
  rw [if_pos h] at hx
  refine bifW_c (fun h4 => ?_) (fun h4 => ?_)
  · rw [if_pos h4] at hx
    unfold pr4 at hx
    obtain ⟨x1, h1, hx⟩ := Option.bind_eq_some_iff.1 hx
    obtain ⟨x2, h2, hx⟩ := Option.bind_eq_some_iff.1 hx
    obtain ⟨x3, h3, hx⟩ := Option.bind_eq_some_iff.1 hx
    obtain ⟨x4, h4, hx⟩ := Option.bind_eq_some_iff.1 hx
    exact ⟨rfl, by decide, x1, h1, rfl, by decide, x2, h2, rfl, by decide, x3, h3, rfl, by decide, x4, h4, rfl, y, hx, rfl⟩
  · rw [if_neg h4] at hx
    obtain ⟨ij, hz, hx⟩ := Option.bind_eq_some_iff.1 hx
    refine ⟨_, _, _, _, _, _, _, _, rfl, ?_⟩
    unfold pr6 at hx
    split at hx
    · rename_i he
      subst he
      exact .inl ⟨hz, rfl, y, hx, rfl⟩
    · split at hx
      case isFalse => cases hx
      rename_i h0 hm
      obtain ⟨s, hs, hx⟩ := Option.bind_eq_some_iff.1 hx
      obtain ⟨t, ht, hx⟩ := Option.bind_eq_some_iff.1 hx
      split at hx
      case isFalse => cases hx
      rename_i hsz
      cases hx
      have e1 : s.size + ByteArray.size { data := #[58, 58] } ≤ 9223372036854775807 := by
        have : ByteArray.size { data := #[58, 58] } = 2 := rfl
        omega
      have e2 : (s ++ ({ data := #[58, 58] } : ByteArray)).size + t.size ≤ 9223372036854775807 := by
        have : ByteArray.size { data := #[58, 58] } = 2 := rfl
        rw [ByteArray.size_append]
        omega
      simp only [zpairs, List.mem_cons, List.not_mem_nil, or_false] at hm
      rcases hm with rfl | hm
      · exact absurd rfl h0
      refine .inr ?_
      repeat' (rcases hm with rfl | hm)
      all_goals (repeat' (first | exact Or.inl ⟨hz, rfl, s, hs, e1, t, ht, e2, rfl⟩ | exact ⟨hz, rfl, s, hs, e1, t, ht, e2, rfl⟩ | refine Or.inr ?_))
noncomputable def con26 : Con := Con.opt decA (fun x => prF x.1 x.2.1 x.2.2) enS
theorem ownPr {W : World} (hW : GoodW W) : OwnsAll Tryd.prog W 6 (extC Lpr) :=
  OwnsAll.con (om31 hW) (OwnsAll.con (om54 hW) (OwnsAll.con (om55 hW) (OwnsAll.con (c := con56n) (om56 hW) (OwnsAll.con (c := con57) (om57 hW) (OwnsAll.con (c := con58) (om58 hW) (ownsAll_nil W 6))))))
theorem om26 {W : World} (hW : GoodW W) : OwnAll Tryd.prog W 6 26 con26.own :=
  con_opt (fun x : Int × Int × Int => [.agg #[.int .i64 x.1, .int .u64 x.2.1, .int .u64 x.2.2]]) (Laying.empty hW.size) hW.size (by decide) dt_mixed (ownPr hW) Tryd.func26 (fn := Tryd.f26) (c := bodyOf Tryd.f26) (by kernel_rfl) (by kernel_rfl) (fun _ _ h => decA_enc h) (fun a => ⟨rfl, (by kernel_rfl)⟩) (fun b => rfl) w26

end Go.Proofs.YtfnacgojmdbjmaaDoor
end
