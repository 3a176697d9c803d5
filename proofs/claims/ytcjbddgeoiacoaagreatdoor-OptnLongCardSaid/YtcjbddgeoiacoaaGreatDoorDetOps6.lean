/- A part of an evaluator of closed runs and of its soundness. -/
import Derived.Test.YtcjbddgeoiacoaaGreatDoorDetOps5
namespace Go.Det
variable {P : Program}
section
variable {w0 w : World} {φ : Ren} {l : Tmps} {s s' : St} {v : Value} {ρ : Operand → Value} {lo : Nat}

theorem lenD_run {x x' : Value} {m : Nat} (h : lenD x = some m) (hx : VR φ x x') (w : World) : (Builtin.lenOf x').run P w = .ok m w := by
  unfold lenD at h
  split at h
  · cases h; obtain ⟨a, c, rfl⟩ := emp_inv hx; rfl
  · rename_i a n c
    cases h
    rcases slice_inv hx with ⟨_, a', rfl, _⟩ | ⟨_, _, _, _, _, _, _, _, _, _, _, _, _, rfl⟩ <;> rfl
  · cases h; rw [string_inv hx]; rfl
  · cases h

theorem srcCells_ok {size n : Nat} {x x' : Value} {r : List Value × St} (h : srcCells s size n x = some r) (H : HR φ s.h w0 w) (hx : VR φ x x') :
    ∃ cs' : Array Value, (Builtin.firstCells size n x').run P w = .ok cs' w ∧ VRL φ r.1 cs'.toList ∧ r.2.h = s.h ∧ r.2.next = s.next ∧ r.1.length = n * size := by
  unfold srcCells at h
  split at h
  · rename_i id off n' c
    have hx' : ∃ b sh sz c', φ id = some (b, sh, sz) ∧ x' = .slice (some ⟨b, sh + off, none⟩) n' c' := by
      rcases slice_inv hx with ⟨_, a', rfl, h2⟩ | ⟨id', off', b, sh, sz, es, c', e1, _, e3, _, _, _, rfl⟩
      · rcases h2 with ⟨q, _⟩ | ⟨id', off', b, sh, sz, q, e, rfl⟩
        · cases q
        · cases q; exact ⟨b, sh, sz, _, e, rfl⟩
      · cases e1; exact ⟨b, sh, sz, c', e3, rfl⟩
    obtain ⟨b, sh, sz, c', e, rfl⟩ := hx'
    split at h
    · rename_i h0
      cases h
      have h0 := Nat.eq_of_beq_eq_true h0
      exact ⟨#[], by simp [Builtin.firstCells, h0, loadCells, loadCellsFrom], VRL.nil φ, rfl, rfl, by simp [h0]⟩
    · rename_i h0
      split at h
      case h_2 => cases h
      rename_i cs e' ro hg
      split at h
      case h_2 => cases h
      rename_i r' hr
      cases h
      rw [ldrop_eq] at hr
      obtain ⟨rfl, hle⟩ := ltake_some hr
      have h0 : n * size ≠ 0 := by intro q; simp [q] at h0
      obtain ⟨b', sh', sz', c2, fz, k⟩ := H.cells _ _ _ _ hg
      have := k.at_; rw [e] at this; cases this
      obtain ⟨cs', q1, q2⟩ := loadCells_run (P := P) (n := n * size) (off := off) k (by simp at hle; omega)
      exact ⟨cs', q1, q2, rfl, rfl, by simp at hle ⊢; omega⟩
  · rename_i n' c
    split at h
    case isFalse => cases h
    rename_i h0
    cases h
    rw [snil_inv hx]
    exact ⟨#[], rfl, VRL.nil φ, rfl, rfl, by simp [Nat.eq_of_beq_eq_true h0]⟩
  · split at h
    case isFalse => cases h
    rename_i h0
    cases h
    have h0 := Nat.eq_of_beq_eq_true h0
    obtain ⟨a, c, rfl⟩ := emp_inv hx
    cases a with
    | none => exact ⟨#[], rfl, VRL.nil φ, rfl, rfl, by simp [h0]⟩
    | some a => exact ⟨#[], by simp [Builtin.firstCells, h0, loadCells, loadCellsFrom], VRL.nil φ, rfl, rfl, by simp [h0]⟩
  · rename_i b
    split at h
    case isFalse => cases h
    rename_i hs
    have hs := Nat.eq_of_beq_eq_true hs
    split at h
    case h_2 => cases h
    rename_i r' hr
    cases h
    obtain ⟨rfl, hle⟩ := ltake_some hr
    rw [string_inv hx]
    subst hs
    refine ⟨_, rfl, ?_, rfl, rfl, by rw [List.length_take, Nat.mul_one]; omega⟩
    have : ((b.extract 0 n).data.map fun x => Value.int .u8 x.toNat).toList = (b.data.toList.map fun x => Value.int .u8 x.toNat).take n := by
      simp [ByteArray.data_extract]
    rw [this]
    refine VRL.mk' rfl fun i hi => ?_
    have hi2 : i < n := by simp at hi; omega
    have hi3 : i < b.data.toList.length := by simp at hi ⊢; omega
    rw [List.getD_eq_getElem?_getD, List.getElem?_take_of_lt hi2, List.getElem?_map, List.getElem?_eq_getElem hi3]
    exact .int _ _
  · cases h

theorem growBy_le (newLen : Nat) : ∀ rounds c, Builtin.growBy newLen rounds c ≤ max c (2 * newLen + 192)
  | 0, c => Nat.le_max_left _ _
  | r + 1, c => by
    unfold Builtin.growBy
    split
    · exact Nat.le_max_left _ _
    · have := growBy_le newLen r (c + (c + 768) / 4)
      omega
theorem nextslicecap_le {need c : Nat} (h : c < need) : Builtin.nextslicecap need c ≤ 2 * need + 192 := by
  unfold Builtin.nextslicecap
  have := growBy_le need 4 c
  split
  · omega
  · split <;> omega

/-- the second argument is no number of zero values -/
def NoZeros (P : Program) (argTypes : Array TypeId) : Prop := argTypes[1]? = none ∨ ∃ xT d, argTypes[1]? = some xT ∧ P.underlying xT = some d ∧ ∀ k, d ≠ .int k

theorem append_in_run {argTypes : Array TypeId} {type sT elem : TypeId} {base : Option Addr} {n c m : Nat} {x : Value} {ei : TypeInfo} {new : Array Value}
    (h0 : argTypes[0]? = some sT) (hu : P.underlying sT = some (.slice elem)) (hei : P.info? elem = some ei) (hz : NoZeros P argTypes)
    (hc : (Builtin.lenOf x).run P w = .ok m w) (ha : (Builtin.firstCells ei.size m x).run P w = .ok new w) (hle : n + m ≤ c) :
    (Builtin.append_ argTypes type #[.slice base n c, x]).run P w =
      (match base with | some a => (storeCells (a.add (n * ei.size)) new.toList).run P w | none => .ok () w).andThen fun _ w' => .ok (.slice base (n + m) c) w' := by
  have hsz : (sizeOf elem).run P w = .ok ei.size w := by simp [sizeOf, typeInfo, hei]
  unfold Builtin.append_
  simp only [h0, List.getElem?_toArray, List.getElem?_cons_zero, List.getElem?_cons_succ, Sem.run_bind, run_underlying hu, Result.andThen_ok, hsz]
  rcases hz with h1 | ⟨xT, d, h1, h2, h3⟩
  · rw [h1]
    simp only [Sem.run_bind, Sem.run_pure, Result.andThen_ok, Bool.false_eq_true, if_false, hc, Bool.not_false, if_true, if_pos hle, ha]
    cases base <;> simp
  · rw [h1]
    simp only [Sem.run_bind, Sem.run_pure, Result.andThen_ok, run_underlying h2, Bool.false_eq_true, if_false, hc, Bool.not_false, if_true, if_pos hle, ha]
    cases base <;> simp

theorem append_new_run {argTypes : Array TypeId} {type sT elem : TypeId} {base : Option Addr} {n c m : Nat} {x z : Value} {ei : TypeInfo} {new old : Array Value}
    (h0 : argTypes[0]? = some sT) (hu : P.underlying sT = some (.slice elem)) (hei : P.info? elem = some ei) (hz : NoZeros P argTypes)
    (hc : (Builtin.lenOf x).run P w = .ok m w) (hle : ¬ n + m ≤ c) (hmax : ¬ ((n + m : Nat) : Int) > IntKind.i64.max) (hbig : ¬ Builtin.nextslicecap (n + m) c * ei.bytes > 2 ^ 48)
    (ha : (Builtin.firstCells ei.size m x).run P { w with drawn := w.drawn + 1 } = .ok new { w with drawn := w.drawn + 1 })
    (ho : (Builtin.firstCells ei.size n (.slice base n c)).run P { w with drawn := w.drawn + 1 } = .ok old { w with drawn := w.drawn + 1 })
    (hzero : ∀ w, (zeroValue elem).run P w = .ok z w) : ∃ k, n + m ≤ k ∧
    (Builtin.append_ argTypes type #[.slice base n c, x]).run P w =
      .ok (.slice (some ⟨w.heap.size, 0, none⟩) (n + m) k) { w with drawn := w.drawn + 1, heap := w.heap.push (.cells (old ++ new ++ Builtin.zeroCells z.cells (k - (n + m))) elem) } := by
  have hsz : (sizeOf elem).run P w = .ok ei.size w := by simp [sizeOf, typeInfo, hei]
  have hti : ∀ w, (typeInfo elem).run P w = .ok ei w := by intro w; simp [typeInfo, hei]
  have hch : (choose (.appendCap (n + m) c elem)).run P w = .ok ((Question.appendCap (n + m) c elem).cut (w.tape w.drawn (.appendCap (n + m) c elem))) { w with drawn := w.drawn + 1 } := by
    rw [run_choose]; rfl
  refine ⟨(Question.appendCap (n + m) c elem).cut (w.tape w.drawn (.appendCap (n + m) c elem)), by simp only [Question.cut]; omega, ?_⟩
  unfold Builtin.append_
  simp only [h0, List.getElem?_toArray, List.getElem?_cons_zero, List.getElem?_cons_succ, Sem.run_bind, run_underlying hu, Result.andThen_ok, hsz]
  rcases hz with h1 | ⟨xT, d, h1, h2, h3⟩
  · rw [h1]
    simp only [Sem.run_bind, Sem.run_pure, Result.andThen_ok, Bool.false_eq_true, if_false, hc, Bool.not_false, if_true, if_neg hle, hti, if_neg (fun q => hmax (And.left q)), if_neg hbig, hch, run_askRoom, ha, ho, hzero, newRow, run_newObj]
  · rw [h1]
    simp only [Sem.run_bind, Sem.run_pure, Result.andThen_ok, run_underlying h2, Bool.false_eq_true, if_false, hc, Bool.not_false, if_true, if_neg hle, hti, if_neg (fun q => hmax (And.left q)), if_neg hbig, hch, run_askRoom, ha, ho, hzero, newRow, run_newObj]

theorem append_in_runZ {argTypes : Array TypeId} {type sT xT elem : TypeId} {base : Option Addr} {n c m : Nat} {q k : IntKind} {ei : TypeInfo} {z : Value}
    (h0 : argTypes[0]? = some sT) (hu : P.underlying sT = some (.slice elem)) (hei : P.info? elem = some ei) (h1 : argTypes[1]? = some xT) (h2 : P.underlying xT = some (.int k))
    (hm : m < 1048576) (hmb : m * ei.bytes ≤ 1099511627776) (hzero : ∀ w, (zeroValue elem).run P w = .ok z w) (hle : n + m ≤ c) :
    (Builtin.append_ argTypes type #[.slice base n c, .int q (m : Int)]).run P w =
      (match base with | some a => (storeCells (a.add (n * ei.size)) (if m * ei.size = 0 then (#[] : Array Value) else Builtin.zeroCells z.cells m).toList).run P w | none => .ok () w).andThen fun _ w' => .ok (.slice base (n + m) c) w' := by
  have hsz : (sizeOf elem).run P w = .ok ei.size w := by simp [sizeOf, typeInfo, hei]
  have hti : ∀ w, (typeInfo elem).run P w = .ok ei w := by intro w; simp [typeInfo, hei]
  have w1 : IntKind.i64.wrap (m : Int) = (m : Int) := by unfold IntKind.wrap; simp [IntKind.signed, IntKind.bits]; omega
  have c1 : ¬ ((m : Int) < 0) := by omega
  have c2 : ¬ ((m : Int) * (ei.bytes : Int) > 2 ^ 48) := by
    have : ((m * ei.bytes : Nat) : Int) ≤ 1099511627776 := by omega
    have : (m : Int) * (ei.bytes : Int) ≤ 1099511627776 := by simpa using this
    omega
  unfold Builtin.append_
  simp only [h0, List.getElem?_toArray, List.getElem?_cons_zero, List.getElem?_cons_succ, Sem.run_bind, run_underlying hu, Result.andThen_ok, hsz]
  rw [h1]
  simp only [Sem.run_bind, Sem.run_pure, Result.andThen_ok, run_underlying h2, if_true, asInt, asIntOf, w1, if_neg c1, hti, if_neg c2, Int.toNat_natCast, Bool.not_true, Bool.false_eq_true, if_false, if_pos hle]
  by_cases h4 : m * ei.size = 0
  · simp only [if_pos h4, Sem.run_pure, Result.andThen_ok]; cases base <;> simp
  · simp only [if_neg h4, Sem.run_bind, hzero, Sem.run_pure, Result.andThen_ok]; cases base <;> simp

theorem append_new_runZ {argTypes : Array TypeId} {type sT xT elem : TypeId} {base : Option Addr} {n c m : Nat} {q k : IntKind} {ei : TypeInfo} {z : Value} {old : Array Value}
    (h0 : argTypes[0]? = some sT) (hu : P.underlying sT = some (.slice elem)) (hei : P.info? elem = some ei) (h1 : argTypes[1]? = some xT) (h2 : P.underlying xT = some (.int k))
    (hm : m < 1048576) (hmb : m * ei.bytes ≤ 1099511627776) (hzero : ∀ w, (zeroValue elem).run P w = .ok z w) (hle : ¬ n + m ≤ c)
    (hmax : ¬ ((n + m : Nat) : Int) > IntKind.i64.max) (hbig : ¬ Builtin.nextslicecap (n + m) c * ei.bytes > 2 ^ 48)
    (ho : (Builtin.firstCells ei.size n (.slice base n c)).run P { w with drawn := w.drawn + 1 } = .ok old { w with drawn := w.drawn + 1 }) : ∃ k, n + m ≤ k ∧
    (Builtin.append_ argTypes type #[.slice base n c, .int q (m : Int)]).run P w =
      .ok (.slice (some ⟨w.heap.size, 0, none⟩) (n + m) k) { w with drawn := w.drawn + 1, heap := w.heap.push (.cells (old ++ (if m * ei.size = 0 then (#[] : Array Value) else Builtin.zeroCells z.cells m) ++ Builtin.zeroCells z.cells (k - (n + m))) elem) } := by
  have hsz : (sizeOf elem).run P w = .ok ei.size w := by simp [sizeOf, typeInfo, hei]
  have hti : ∀ w, (typeInfo elem).run P w = .ok ei w := by intro w; simp [typeInfo, hei]
  have w1 : IntKind.i64.wrap (m : Int) = (m : Int) := by unfold IntKind.wrap; simp [IntKind.signed, IntKind.bits]; omega
  have c1 : ¬ ((m : Int) < 0) := by omega
  have c2 : ¬ ((m : Int) * (ei.bytes : Int) > 2 ^ 48) := by
    have : ((m * ei.bytes : Nat) : Int) ≤ 1099511627776 := by omega
    have : (m : Int) * (ei.bytes : Int) ≤ 1099511627776 := by simpa using this
    omega
  have hch : (choose (.appendCap (n + m) c elem)).run P w = .ok ((Question.appendCap (n + m) c elem).cut (w.tape w.drawn (.appendCap (n + m) c elem))) { w with drawn := w.drawn + 1 } := by
    rw [run_choose]; rfl
  refine ⟨(Question.appendCap (n + m) c elem).cut (w.tape w.drawn (.appendCap (n + m) c elem)), by simp only [Question.cut]; omega, ?_⟩
  unfold Builtin.append_
  simp only [h0, List.getElem?_toArray, List.getElem?_cons_zero, List.getElem?_cons_succ, Sem.run_bind, run_underlying hu, Result.andThen_ok, hsz]
  rw [h1]
  simp only [Sem.run_bind, Sem.run_pure, Result.andThen_ok, run_underlying h2, if_true, asInt, asIntOf, w1, if_neg c1, hti, if_neg c2, Int.toNat_natCast, Bool.not_true, Bool.false_eq_true, if_false, if_neg hle, if_neg (fun q => hmax (And.left q)), if_neg hbig, hch, run_askRoom, ho]
  by_cases h4 : m * ei.size = 0
  · simp only [if_pos h4, Sem.run_bind, Sem.run_pure, Result.andThen_ok, hzero, newRow, run_newObj]
  · simp only [if_neg h4, Sem.run_bind, hzero, Sem.run_pure, Result.andThen_ok, newRow, run_newObj]

end
end Go.Det
