/- A part of an evaluator of closed runs and of its soundness. -/
import Derived.Test.YtcjbddgeoiacoaaGreatDoorDetA
import Derived.Laws.Cells
import Derived.Laws.IdiomCopy
namespace Go.Det

/-! Tables -/
theorem lgetR_nil {α : Type} (d : α) (n : Nat) : lgetR d [] n = d := rfl
theorem lgetR_zero {α : Type} (d v : α) (t : List α) : lgetR d (v :: t) 0 = v := rfl
theorem lgetR_succ {α : Type} (d v : α) (t : List α) (n : Nat) : lgetR d (v :: t) (n + 1) = lgetR d t n := rfl
theorem lsetR_nil_zero {α : Type} (d v : α) : lsetR d v [] 0 = [v] := rfl
theorem lsetR_nil_succ {α : Type} (d v : α) (n : Nat) : lsetR d v [] (n + 1) = d :: lsetR d v [] n := rfl
theorem lsetR_zero {α : Type} (d v x : α) (t : List α) : lsetR d v (x :: t) 0 = v :: t := rfl
theorem lsetR_succ {α : Type} (d v x : α) (t : List α) (n : Nat) : lsetR d v (x :: t) (n + 1) = x :: lsetR d v t n := rfl

theorem lget_lset {α : Type} (d v : α) : ∀ (l : List α) (n m : Nat), lgetR d (lsetR d v l n) m = if m = n then v else lgetR d l m
  | [], 0, 0 => rfl
  | [], 0, m + 1 => by simp [lsetR_nil_zero, lgetR_succ, lgetR_nil]
  | [], n + 1, 0 => by simp [lsetR_nil_succ, lgetR_zero, lgetR_nil]
  | [], n + 1, m + 1 => by rw [lsetR_nil_succ, lgetR_succ, lget_lset d v [] n m]; simp [lgetR_nil]
  | x :: t, 0, 0 => rfl
  | x :: t, 0, m + 1 => by simp [lsetR_zero, lgetR_succ]
  | x :: t, n + 1, 0 => by simp [lsetR_succ, lgetR_zero]
  | x :: t, n + 1, m + 1 => by rw [lsetR_succ, lgetR_succ, lget_lset d v t n m]; simp [lgetR_succ]

theorem Tab.get_set {α : Type} (d v : α) (l : Tab α) (n m : Nat) : Tab.get d (Tab.set d l n v) m = if m = n then v else Tab.get d l m := by
  show lgetR d (lgetR [] (lsetR [] (lsetR d v (lgetR [] l (n / 8)) (n % 8)) l (n / 8)) (m / 8)) (m % 8) = if m = n then v else lgetR d (lgetR [] l (m / 8)) (m % 8)
  rw [lget_lset]
  by_cases h : m / 8 = n / 8
  · rw [if_pos h, lget_lset]
    by_cases h2 : m % 8 = n % 8
    · rw [if_pos h2, if_pos (by omega)]
    · rw [if_neg h2, if_neg (by intro e; exact h2 (by rw [e])), h]
  · rw [if_neg h, if_neg (by intro e; exact h (by rw [e]))]

theorem Heap.get_set (h : Heap) (n m : Nat) (b : Blk) : (h.set n b).get m = if m = n then some b else h.get m := Tab.get_set none (some b) h n m
theorem lget_set (l : Tmps) (n m : Nat) (v : Value) : lget (lset l n v) m = if m = n then v else lget l m := Tab.get_set und v l n m

/-! Related values -/
/-- id ↦ (block, shift, cells of the block) -/
abbrev Ren := Nat → Option (Nat × Nat × Nat)

/-- what is known of a marked number -/
def markOk (c : Nat) (n : Int) : Prop := (c % 2 = 0 ∧ c / 2 % 65536 < 256 ∧ (n % 256) % ((c / 2 % 65536 : Nat) : Int) = ((c / 131072 : Nat) : Int)) ∨ (c % 2 = 1 ∧ 0 ≤ n ∧ n % ((c / 2 % 65536 : Nat) : Int) = ((c / 131072 : Nat) : Int)) ∨
  (c % 2 = 0 ∧ 256 ≤ c / 2 % 65536 ∧ n % ((2 ^ (c / 2 % 65536 - 256) : Nat) : Int) = ((c / 131072 : Nat) : Int))

inductive VR (φ : Ren) : Value → Value → Prop
  | any (v : Value) : VR φ und v
  | skip : VR φ (.float .f64 0) (.tuple #[])
  | emp (a : Option Addr) (c : Nat) : (∀ x, a = some x → x.spot = none) → VR φ (.float .f64 1) (.slice a 0 c)
  | mark (c : Nat) (n : Int) : markOk c n → VR φ (.float .f32 c) (.int .i64 n)
  | bool (b : Bool) : VR φ (.bool b) (.bool b)
  | int (k : IntKind) (n : Int) : VR φ (.int k n) (.int k n)
  | string (s : ByteArray) : VR φ (.string s) (.string s)
  | pnil : VR φ (.pointer none) (.pointer none)
  | ptr (id off b sh sz : Nat) : φ id = some (b, sh, sz) → VR φ (.pointer (some ⟨id, off, none⟩)) (.pointer (some ⟨b, sh + off, none⟩))
  | snil (n c : Nat) : c < capU → VR φ (.slice none n c) (.slice none n c)
  | slice (id off b sh sz n c : Nat) : φ id = some (b, sh, sz) → c < capU → VR φ (.slice (some ⟨id, off, none⟩) n c) (.slice (some ⟨b, sh + off, none⟩) n c)
  | sliceU (id off b sh sz n c es : Nat) : φ id = some (b, sh, sz) → 0 < es → sh + off + c * es = sz → n ≤ c →
      VR φ (.slice (some ⟨id, off, none⟩) n (capU + es)) (.slice (some ⟨b, sh + off, none⟩) n c)
  | mnil : VR φ (.map none) (.map none)
  | map (id b sh sz : Nat) : φ id = some (b, sh, sz) → VR φ (.map (some id)) (.map (some b))
  | func (fn : Fn) (a a' c c' : List Value) : a.length = a'.length → (∀ i, VR φ (a.getD i und) (a'.getD i und)) → c.length = c'.length → (∀ i, VR φ (c.getD i und) (c'.getD i und)) →
      VR φ (.func fn ⟨a⟩ ⟨c⟩) (.func fn ⟨a'⟩ ⟨c'⟩)
  | nilFunc : VR φ .nilFunc .nilFunc
  | iface (t : TypeId) (v v' : Value) : VR φ v v' → VR φ (.iface t v) (.iface t v')
  | nilIface : VR φ .nilIface .nilIface
  | agg (a a' : List Value) : a.length = a'.length → (∀ i, VR φ (a.getD i und) (a'.getD i und)) → VR φ (.agg ⟨a⟩) (.agg ⟨a'⟩)
  | tuple (a a' : List Value) : a.length = a'.length → (∀ i, VR φ (a.getD i und) (a'.getD i und)) → VR φ (.tuple ⟨a⟩) (.tuple ⟨a'⟩)

def VRL (φ : Ren) (l l' : List Value) : Prop := l.length = l'.length ∧ ∀ i, VR φ (l.getD i und) (l'.getD i und)

def Le (φ φ' : Ren) : Prop := ∀ id x, φ id = some x → φ' id = some x
theorem Le.refl (φ : Ren) : Le φ φ := fun _ _ h => h
theorem Le.trans {φ φ' φ'' : Ren} (h : Le φ φ') (h' : Le φ' φ'') : Le φ φ'' := fun _ _ e => h' _ _ (h _ _ e)

theorem VR.mono {φ φ' : Ren} (h : Le φ φ') {v v' : Value} (hv : VR φ v v') : VR φ' v v' := by
  induction hv with
  | any v => exact .any v
  | skip => exact .skip
  | emp a c h => exact .emp a c h
  | mark c n h => exact .mark c n h
  | bool b => exact .bool b
  | int k n => exact .int k n
  | string s => exact .string s
  | pnil => exact .pnil
  | ptr id off b sh sz e => exact .ptr _ _ _ _ _ (h _ _ e)
  | snil n c e => exact .snil n c e
  | slice id off b sh sz n c e k => exact .slice _ _ _ _ _ _ _ (h _ _ e) k
  | sliceU id off b sh sz n c es e k q r => exact .sliceU _ _ _ _ _ _ _ _ (h _ _ e) k q r
  | mnil => exact .mnil
  | map id b sh sz e => exact .map _ _ _ _ (h _ _ e)
  | func fn a a' c c' e _ e2 _ ih ih2 => exact .func _ _ _ _ _ e ih e2 ih2
  | nilFunc => exact .nilFunc
  | iface t v v' _ ih => exact .iface t _ _ ih
  | nilIface => exact .nilIface
  | agg a a' e _ ih => exact .agg _ _ e ih
  | tuple a a' e _ ih => exact .tuple _ _ e ih

theorem VRL.mono {φ φ' : Ren} (h : Le φ φ') {l l' : List Value} (hv : VRL φ l l') : VRL φ' l l' := ⟨hv.1, fun i => (hv.2 i).mono h⟩
theorem VRL.nil (φ : Ren) : VRL φ [] [] := ⟨rfl, fun _ => .any _⟩
theorem VRL.cons {φ : Ren} {v v' : Value} {l l' : List Value} (h : VR φ v v') (hl : VRL φ l l') : VRL φ (v :: l) (v' :: l') :=
  ⟨by simp [hl.1], fun i => by cases i with | zero => exact h | succ i => exact hl.2 i⟩
theorem VRL.head {φ : Ren} {v : Value} {l l' : List Value} (h : VRL φ (v :: l) l') : ∃ v' t', l' = v' :: t' ∧ VR φ v v' ∧ VRL φ l t' := by
  cases l' with
  | nil => exact absurd h.1 (by simp)
  | cons v' t' => exact ⟨v', t', rfl, h.2 0, by simpa using h.1, fun i => h.2 (i + 1)⟩
theorem VRL.of_nil {φ : Ren} {l' : List Value} (h : VRL φ [] l') : l' = [] := by
  cases l' with
  | nil => rfl
  | cons v t => exact absurd h.1 (by simp)
theorem VRL.append {φ : Ren} {a a' b b' : List Value} (h : VRL φ a a') (k : VRL φ b b') : VRL φ (a ++ b) (a' ++ b') := by
  induction a generalizing a' with
  | nil => rw [h.of_nil]; exact k
  | cons v t ih => obtain ⟨v', t', rfl, hv, ht⟩ := h.head; exact VRL.cons hv (ih ht)
theorem VRL.drop {φ : Ren} {l l' : List Value} (h : VRL φ l l') (n : Nat) : VRL φ (l.drop n) (l'.drop n) := by
  refine ⟨by simp [h.1], fun i => ?_⟩
  have := h.2 (n + i)
  simpa [List.getD_eq_getElem?_getD, List.getElem?_drop] using this
theorem VRL.take {φ : Ren} {l l' : List Value} (h : VRL φ l l') (n : Nat) : VRL φ (l.take n) (l'.take n) := by
  induction n generalizing l l' with
  | zero => simp only [List.take_zero]; exact VRL.nil φ
  | succ n ih =>
    cases l with
    | nil => rw [h.of_nil]; exact VRL.nil φ
    | cons v t => obtain ⟨v', t', rfl, hv, ht⟩ := h.head; exact VRL.cons hv (ih ht)

theorem VR.agg_of {φ : Ren} {l l' : List Value} (h : VRL φ l l') : VR φ (.agg ⟨l⟩) (.agg ⟨l'⟩) := .agg _ _ h.1 h.2
theorem VR.tuple_of {φ : Ren} {l l' : List Value} (h : VRL φ l l') : VR φ (.tuple ⟨l⟩) (.tuple ⟨l'⟩) := .tuple _ _ h.1 h.2

/-! Values without addresses -/
theorem flat1_self {v : Value} (h : flat1 v = true) (φ : Ren) : VR φ v v := by
  unfold flat1 at h
  split at h <;> first
    | exact .bool _ | exact .int _ _ | exact .string _ | exact .nilFunc | exact .nilIface | exact .pnil | exact .mnil
    | (rename_i n c; exact .snil _ _ (by simp at h; subst h; unfold capU; omega))
    | (rename_i fn f c
       obtain ⟨f⟩ := f; obtain ⟨c⟩ := c
       simp only [Bool.and_eq_true, List.isEmpty_iff] at h
       obtain ⟨rfl, rfl⟩ := h
       exact .func _ [] [] [] [] rfl (fun _ => .any _) rfl (fun _ => .any _))
    | (exact absurd h (by simp))

theorem flatL_self {l : List Value} (h : flatL l = true) (φ : Ren) : VRL φ l l := by
  induction l with
  | nil => exact VRL.nil φ
  | cons v t ih => simp only [flatL, Bool.and_eq_true] at h; exact VRL.cons (flat1_self h.1 φ) (ih h.2)
theorem flat2_self {v : Value} (h : flat2 v = true) (φ : Ren) : VR φ v v := by
  unfold flat2 at h
  split at h
  · rename_i cs; obtain ⟨cs⟩ := cs; exact VR.agg_of (flatL_self h φ)
  · exact .iface _ _ _ (flat1_self h φ)
  · exact flat1_self h φ
theorem flat2L_self {l : List Value} (h : flat2L l = true) (φ : Ren) : VRL φ l l := by
  induction l with
  | nil => exact VRL.nil φ
  | cons v t ih => simp only [flat2L, Bool.and_eq_true] at h; exact VRL.cons (flat2_self h.1 φ) (ih h.2)
theorem flat_self {v : Value} (h : flat v = true) (φ : Ren) : VR φ v v := by
  unfold flat at h
  split at h
  · rename_i vs; obtain ⟨vs⟩ := vs; exact VR.tuple_of (flat2L_self h φ)
  · exact flat2_self h φ

theorem flat1_inv {φ : Ren} {v v' : Value} (h : flat1 v = true) (k : VR φ v v') : v' = v := by
  cases k <;> first
    | rfl
    | (simp [flat1, und] at h; done)
    | (rename_i e1 _ e2 _
       simp only [flat1, Bool.and_eq_true, List.isEmpty_iff] at h
       obtain ⟨rfl, rfl⟩ := h
       rw [List.eq_nil_of_length_eq_zero e1.symm, List.eq_nil_of_length_eq_zero e2.symm])

theorem flatL_inv {φ : Ren} {l l' : List Value} (h : flatL l = true) (k : VRL φ l l') : l' = l := by
  induction l generalizing l' with
  | nil => exact k.of_nil
  | cons v t ih =>
    obtain ⟨v', t', rfl, hv, ht⟩ := k.head
    simp only [flatL, Bool.and_eq_true] at h
    rw [flat1_inv h.1 hv, ih h.2 ht]
theorem flat2_inv {φ : Ren} {v v' : Value} (h : flat2 v = true) (k : VR φ v v') : v' = v := by
  unfold flat2 at h
  split at h
  · cases k with
    | agg a a' e q => rw [flatL_inv h ⟨e, q⟩]
  · cases k with
    | iface t v v' q => rw [flat1_inv h q]
  · exact flat1_inv h k
theorem flat2L_inv {φ : Ren} {l l' : List Value} (h : flat2L l = true) (k : VRL φ l l') : l' = l := by
  induction l generalizing l' with
  | nil => exact k.of_nil
  | cons v t ih =>
    obtain ⟨v', t', rfl, hv, ht⟩ := k.head
    simp only [flat2L, Bool.and_eq_true] at h
    rw [flat2_inv h.1 hv, ih h.2 ht]

/-- What was known of the values of the elder numbers is known of what they are now. -/
theorem VR.back {φ φ' : Ren} (hle : Le φ φ') {v x y : Value} (h : VR φ v x) (k : VR φ' v y) : VR φ v y := by
  induction h generalizing y with
  | any v => exact .any _
  | skip => cases k; exact .skip
  | emp a c h => cases k with | emp a' c' h' => exact .emp a' c' h'
  | mark c n h => cases k with | mark _ _ h' => exact .mark _ _ h'
  | bool b => cases k; exact .bool b
  | int n k' => cases k; exact .int _ _
  | string s => cases k; exact .string s
  | pnil => cases k; exact .pnil
  | ptr id off b sh sz e =>
    cases k with
    | ptr _ _ b' sh' sz' e' => have := hle _ _ e; rw [this] at e'; cases e'; exact .ptr _ _ _ _ _ e
  | snil n c e => cases k; exact .snil _ _ e
  | slice id off b sh sz n c e q =>
    cases k with
    | slice _ _ b' sh' sz' _ _ e' _ => have := hle _ _ e; rw [this] at e'; cases e'; exact .slice _ _ _ _ _ _ _ e q
    | sliceU _ _ _ _ _ _ _ _ _ _ _ _ => omega
  | sliceU id off b sh sz n c es e p q r =>
    generalize hC : capU + es = C at k
    cases k with
    | slice _ _ b' sh' sz' _ _ e' q' => omega
    | sliceU _ _ b' sh' sz' _ c' es' e' p' q' r' =>
      have := hle _ _ e; rw [this] at e'; cases e'
      obtain rfl : es = es' := by omega
      exact .sliceU _ _ _ _ _ _ _ _ e p q' r'
  | mnil => cases k; exact .mnil
  | map id b sh sz e => cases k with | map _ b' sh' sz' e' => have := hle _ _ e; rw [this] at e'; cases e'; exact .map _ _ _ _ e
  | func fn a a' c c' e _ e2 _ ih ih2 => cases k with | func _ _ a2 _ c2 q1 q2 q3 q4 => exact .func _ _ _ _ _ q1 (fun i => ih i (q2 i)) q3 (fun i => ih2 i (q4 i))
  | nilFunc => cases k; exact .nilFunc
  | iface t v v' _ ih => cases k with | iface _ _ _ q => exact .iface _ _ _ (ih q)
  | nilIface => cases k; exact .nilIface
  | agg a a' e _ ih => cases k with | agg _ _ q1 q2 => exact .agg _ _ q1 (fun i => ih i (q2 i))
  | tuple a a' e h ih =>
    cases k with
    | any => exact .any _
    | tuple _ _ q1 q2 => exact .tuple _ _ q1 (fun i => ih i (q2 i))

end Go.Det
