/- A part of an evaluator of closed runs and of its soundness. -/
import Derived.Test.YtcjbddgeoiacoaaGreatDoorDetOps9
namespace Go.Det
variable {P : Program}
section
variable {w0 w : World} {φ : Ren} {l : Tmps} {s s' : St} {v : Value} {ρ : Operand → Value} {lo : Nat}

theorem toList_head {α : Type} {a : Array α} {x : α} {t : List α} (h : a.toList = x :: t) : a[0]? = some x := by rw [← Array.getElem?_toList, h]; rfl

theorem unsafeString_nil (ts : Array TypeId) (ty pt : TypeId) (k : IntKind) (h : ts[0]? = some pt) : (Builtin.unsafeString_ ts ty #[.pointer none, .int k 0]).run P w = .ok (.string .empty) w := by
  have hmax : IntKind.i64.max = 9223372036854775807 := rfl
  have hdef : Builtin.unsafeString_ ts ty #[.pointer none, .int k 0] =
      (do
        let n ← asInt (.int k 0)
        let some _ := ts[0]? | stuck "unsafe.String: no argument types"
        if n < 0 then runtimePanic (.error "unsafe.String: len out of range")
        if n > IntKind.i64.max then unsupported (.unsafePointer "String: a length above the largest int")
        if n = 0 then pure (.string .empty)
        else runtimePanic (.error "unsafe.String: ptr is nil and len is not zero")) := rfl
  rw [hdef]
  simp [asInt, asIntOf, hmax, h]
theorem unsafeString_some (ts : Array TypeId) (ty pt u : TypeId) (k : IntKind) (a : Addr) (n : Int) (bs : ByteArray) (h : ts[0]? = some pt) (hu : P.underlying pt = some (.pointer u)) (h0 : 0 < n) (h1 : n ≤ 9223372036854775807)
    (hv : (variablesAt a u n.toNat).run P w = .ok true w) (hl : (loadBytes a .empty n.toNat).run P w = .ok bs w) : (Builtin.unsafeString_ ts ty #[.pointer (some a), .int k n]).run P w = .ok (.string bs) (w.freeze a n.toNat) := by
  have hmax : IntKind.i64.max = 9223372036854775807 := rfl
  have hdef : Builtin.unsafeString_ ts ty #[.pointer (some a), .int k n] =
      (do
        let n ← asInt (.int k n)
        let some pt := ts[0]? | stuck "unsafe.String: no argument types"
        if n < 0 then runtimePanic (.error "unsafe.String: len out of range")
        if n > IntKind.i64.max then unsupported (.unsafePointer "String: a length above the largest int")
        if n = 0 then pure (.string .empty)
        else if ← variablesAt a (← elemOf pt) n.toNat then do
          let s ← loadBytes a .empty n.toNat
          freeze a n.toNat
          pure (.string s)
        else unsupported (.unsafePointer "String: not so many bytes at ptr")) := rfl
  have i1 : ¬ (n < 0) := by omega
  have i2 : ¬ (n > 9223372036854775807) := by omega
  have i3 : ¬ (n = 0) := by omega
  rw [hdef]
  simp [asInt, asIntOf, hmax, h, i1, i2, i3, elemOf, run_underlying hu, hv, hl]

theorem unsafeString_ok {ts : Array TypeId} {type pt : TypeId} {rest : List TypeId} {args : List Value} {args' : Array Value} {r : Value × St} (ha : ts.toList = pt :: rest) (h : unsafeStringD P s (P.underlying pt) args = some r) (H : HR φ s.h w0 w)
    (hx : VRL φ args args'.toList) :
    Gives P w0 φ lo r.2 r.1 ((do pure (Next.value (← Builtin.unsafeString_ ts type args')) : Sem Next).run P w) ∧ r.2.next = s.next := by
  unfold unsafeStringD at h
  split at h
  case h_2 => cases h
  rename_i a k n
  obtain ⟨A, N, e, hA, hN⟩ := hx.two
  obtain ⟨args'⟩ := args'
  simp only at e; subst e
  rw [int_inv hN]
  have h0 := toList_head ha
  split at h
  · split at h
    case isFalse => cases h
    rename_i hn
    cases h
    subst hn
    rw [pnil_inv hA]
    exact ⟨gives_of (w' := w) (v' := .string .empty) (unsafeString_nil ts type pt k h0) (Ext.refl _ _ _) (.string _) H, rfl⟩
  · rename_i id off
    split at h
    case h_2 => cases h
    rename_i u cs e hu hg
    split at h
    case isFalse => cases h
    rename_i hn
    split at h
    case isFalse => cases h
    rename_i hc
    simp only [Bool.and_eq_true] at hc
    split at h
    case h_2 => cases h
    rename_i r' hr
    split at h
    case h_2 => cases h
    rename_i bs hbs
    cases h
    have hu1 := Nat.eq_of_beq_eq_true hc.1
    have hc1 := Nat.eq_of_beq_eq_true hc.2
    rw [ldrop_eq] at hr
    obtain ⟨rfl, hle⟩ := ltake_some hr
    obtain ⟨ns, e1, e2⟩ := bytesL_ok hbs
    obtain ⟨b, sh, sz, hat, rfl⟩ := ptr_inv hA
    obtain ⟨b', sh', sz', c2, fz, k2⟩ := H.cells _ _ _ _ hg
    have := k2.at_; rw [hat] at this; cases this
    have hfit := k2.fit
    have hsz := k2.size
    obtain ⟨m, rfl⟩ : ∃ m : Nat, n = (m : Int) := ⟨n.toNat, by omega⟩
    simp only [Int.toNat_natCast] at *
    have hoff : off + m ≤ cs.length := by simp at hle; omega
    obtain ⟨cs', q1, q2⟩ := loadCells_run (P := P) (n := m) (off := off) k2 hoff
    have hlen : ns.length = m := by have := congrArg List.length e1; simp at this; omega
    -- the bytes are read
    have hcell : ∀ j x, (ns.map fun n => UInt8.ofNat n.toNat)[j]? = some x → w.cell? ((⟨b, sh + off, none⟩ : Addr).add j) = some (.int .u8 (ns.getD j 0)) := by
      intro j x hj
      have hjl : j < ns.length := by
        rcases Nat.lt_or_ge j ns.length with q | q
        · exact q
        · rw [List.getElem?_eq_none (by simpa using q)] at hj; cases hj
      rw [addr_add, cell_at k2.blk _ (by omega)]
      have := k2.cell (off + j) (by omega)
      have e3 : cs.getD (off + j) und = .int .u8 (ns.getD j 0) := by
        have : ((cs.drop off).take m).getD j und = .int .u8 (ns.getD j 0) := by
          rw [e1]; simp [List.getD_eq_getElem?_getD, hjl]
        rw [← this]
        simp [List.getD_eq_getElem?_getD, List.getElem?_take_of_lt (show j < m by omega)]
      rw [e3] at this
      have := int_inv this
      rw [Nat.add_assoc, this]
    have hload : ∀ (ns : List Int) (o : Nat) (acc : ByteArray), (∀ j, j < ns.length → w.cell? ⟨b, o + j, none⟩ = some (.int .u8 (ns.getD j 0))) →
        (loadBytes ⟨b, o, none⟩ acc ns.length).run P w = .ok ⟨acc.data ++ (ns.map fun n => UInt8.ofNat n.toNat).toArray⟩ w := by
      intro ns
      induction ns with
      | nil => intro o acc _; simp [loadBytes]
      | cons n t ih =>
        intro o acc hj
        have c0 := hj 0 (by simp)
        have hih := ih (o + 1) (acc.push (n.toNat.toUInt8)) (fun j hj' => by
          have := hj (j + 1) (by simpa using hj')
          rw [Nat.add_assoc, Nat.add_comm 1 j]; exact this)
        simp only [List.length_cons, loadBytes, Sem.run_bind, run_load]
        rw [show (⟨b, o, none⟩ : Addr) = ⟨b, o + 0, none⟩ from rfl, c0]
        simp only [Result.andThen_ok, List.getD_cons_zero, addr_add, Nat.add_zero]
        rw [hih]
        congr 1
        apply ByteArray.ext; simp [ByteArray.push]
    have hl2 := hload ns (sh + off) .empty (fun j hj => by
      have := hcell j _ (List.getElem?_eq_getElem (by simpa using hj))
      rwa [addr_add] at this)
    rw [hlen] at hl2
    have hm0 : m ≠ 0 := by omega
    obtain ⟨fz', f1, f2, f3, f4, f5, f6⟩ := freeze_heap (off := sh + off) (n := m) k2.blk hm0
    have hlies := liesAt_bytes_off (P := P) hc1 (c2.size / P.cellsOf u) (sh + off) m (by rw [hc1]; omega)
    have hsh := shape_at k2.blk
    rw [hu1] at hsh
    refine ⟨gives_of (w' := w.freeze ⟨b, sh + off, none⟩ m) (v' := .string ⟨bs.toArray⟩) ?_ (Ext.refl _ _ _) (.string _) ?_, rfl⟩
    · have hv : (variablesAt ⟨b, sh + off, none⟩ u ((m : Int)).toNat).run P w = .ok true w := by
        simp only [variablesAt, Sem.run_bind, run_program, Result.andThen_ok, run_shape, hsh, Int.toNat_natCast, Sem.run_pure, hlies]
      have := unsafeString_some (P := P) ts type pt u k ⟨b, sh + off, none⟩ (m : Int) _ h0 hu (by omega) (by omega) hv (by rw [Int.toNat_natCast]; exact hl2)
      rw [this, e2]
      congr 2
      apply ByteArray.ext; simp
    · obtain ⟨hmine, _⟩ := k2.mine rfl
      exact H.turn hg k2.at_ f4 f5 f6 f3 f2 hmine f1 k2.exact_ k2.size k2.fit k2.cell (fun q => by cases q)
  · cases h

end
end Go.Det
