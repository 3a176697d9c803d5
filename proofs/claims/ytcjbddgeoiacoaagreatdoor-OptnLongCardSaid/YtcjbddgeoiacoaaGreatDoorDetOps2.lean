/- A part of an evaluator of closed runs and of its soundness. -/
import Derived.Test.YtcjbddgeoiacoaaGreatDoorDetOps1
namespace Go.Det
variable {P : Program}
section
variable {w0 w : World} {φ : Ren} {l : Tmps} {s s' : St} {v : Value} {ρ : Operand → Value} {lo : Nat}

theorem szOf_run {t : TypeId} {n : Nat} (h : szOf P t = some n) (w : World) : (sizeOf t).run P w = .ok n w := by
  unfold szOf at h
  split at h
  · rename_i i hi; cases h; simp [sizeOf, typeInfo, hi]
  · cases h
theorem szOf_cells {t : TypeId} {n : Nat} (h : szOf P t = some n) : P.cellsOf t = n := by
  unfold szOf at h
  split at h
  · rename_i i hi; cases h; simp [Program.cellsOf, hi]
  · cases h
theorem zeroOf_run {t : TypeId} {z : Value} (h : zeroOf P t = some z) (w : World) : (zeroValue t).run P w = .ok z w := by
  unfold zeroOf at h
  split at h
  · rename_i i hi
    split at h
    · rename_i z' hz
      split at h
      · cases h; simp [zeroValue, typeInfo, hi, hz]
      · cases h
    · cases h
  · cases h
theorem zeroOf_info {t : TypeId} {z : Value} (h : zeroOf P t = some z) : ∃ i, P.info? t = some i ∧ i.zero = some z ∧ (cellsOfV z).length = i.size ∧ flat2 z = true := by
  unfold zeroOf at h
  split at h
  · rename_i i hi
    split at h
    · rename_i z' hz
      split at h
      · rename_i q
        cases h
        simp only [Bool.and_eq_true] at q
        exact ⟨i, hi, hz, Nat.eq_of_beq_eq_true q.2, q.1⟩
      · cases h
    · cases h
  · cases h
theorem zeroOf_flat {t : TypeId} {z : Value} (h : zeroOf P t = some z) : flat2 z = true := (zeroOf_info h).choose_spec.2.2.2
theorem isAggB_run {t : TypeId} {b : Bool} (h : isAggB P t = some b) (w : World) : (isAgg t).run P w = .ok b w := by
  unfold isAggB at h
  split at h <;> first
    | (cases h; rename_i hd; simp [isAgg, run_underlying hd]; done)
    | (rename_i d hn1 hn2 hd; cases h
       simp only [isAgg, Sem.run_bind, run_underlying hd, Result.andThen_ok]
       split
       · exact absurd hd (by rename_i q; rw [q]; exact hn1 _)
       · exact absurd hd (by rename_i q; rw [q]; exact hn2 _ _)
       · rfl)
    | cases h

theorem natOf_inv {x x' : Value} {n : Nat} (h : natOf x = some n) (hx : VR φ x x') : ∃ k, x' = .int k (n : Int) := by
  unfold natOf at h
  split at h
  · rename_i k m
    split at h
    · rename_i hm
      simp only [Option.some.injEq] at h
      exact ⟨k, by rw [int_inv hx]; congr 1; omega⟩
    · cases h
  · cases h

theorem addr_add (b o n : Nat) : (⟨b, o, none⟩ : Addr).add n = ⟨b, o + n, none⟩ := by unfold Addr.add; split <;> simp_all

theorem opFieldAddr_ok {t : TypeId} {x : Operand} {f : Nat} (h : opFieldAddr P t x f l s = some (v, s')) (H : HR φ s.h w0 w) (hx : VR φ (evalO l x) (ρ x)) :
    Gives P w0 φ lo s' v ((do pure (.value (← Instr.fieldAt t (ρ x) f)) : Sem Next).run P w) := by
  unfold opFieldAddr ofV at h
  split at h
  case h_2 => cases h
  rename_i r hr
  simp only [Option.some.injEq, Prod.mk.injEq] at h
  obtain ⟨rfl, rfl⟩ := h
  unfold fieldAddrD typ at hr
  split at hr
  case h_2 => cases hr
  rename_i fs id off ht hv
  split at hr
  case h_2 => cases hr
  rename_i fd hfd
  split at hr
  case h_2 => cases hr
  rename_i n hn
  split at hr
  · cases hr
  rename_i hn0
  simp only [Option.some.injEq] at hr
  subst hr
  rw [hv] at hx
  obtain ⟨b, sh, sz, e, hp⟩ := ptr_inv hx
  have hn0 : n ≠ 0 := by rintro rfl; simp at hn0
  refine gives_pure H (.ptr _ _ b sh sz e) ?_
  simp only [Instr.fieldAt, Sem.run_bind, run_underlying ht, Result.andThen_ok, hfd, hp, Instr.sureAddr, Sem.run_pure, fieldPlace, szOf_run hn, Sem.run_ite, if_neg hn0, addr_add, Nat.add_assoc]

theorem opIndexAddr_ok {t : TypeId} {x i : Operand} (h : opIndexAddr P t x i l s = some (v, s')) (H : HR φ s.h w0 w) (hx : VR φ (evalO l x) (ρ x)) (hi : VR φ (evalO l i) (ρ i)) :
    Gives P w0 φ lo s' v ((do pure (.value (← Instr.indexAt t (ρ x) (ρ i))) : Sem Next).run P w) := by
  unfold opIndexAddr ofV at h
  split at h
  case h_2 => cases h
  rename_i r hr
  simp only [Option.some.injEq, Prod.mk.injEq] at h
  obtain ⟨rfl, rfl⟩ := h
  unfold indexAddrD typ at hr
  split at hr
  · rename_i elem id off n c j ht hv hj
    split at hr
    case h_2 => cases hr
    rename_i size hs
    split at hr
    · cases hr
    rename_i hle
    simp only [Option.some.injEq] at hr
    subst hr
    have hlt : j < n := by simpa using hle
    obtain ⟨k, hk⟩ := natOf_inv hj hi
    rw [hv] at hx
    generalize hV : Value.slice (some ⟨id, off, none⟩) n c = V at hx
    have : ∃ b sh sz c', φ id = some (b, sh, sz) ∧ ρ x = .slice (some ⟨b, sh + off, none⟩) n c' := by
      revert hx
      generalize ρ x = X
      intro hx
      cases hx <;> first | (cases hV; exact ⟨_, _, _, _, by assumption, rfl⟩) | (simp [und] at hV; done)
    obtain ⟨b, sh, sz, c', e, hp⟩ := this
    refine gives_pure H (.ptr _ _ b sh sz e) ?_
    have hr : (0 : Int) ≤ (j : Int) ∧ (j : Int) < (n : Int) := by omega
    simp only [Instr.indexAt, hk, asIntOf, Sem.run_bind, Sem.run_pure, Result.andThen_ok, run_underlying ht, hp]
    simp only [hr, and_self, if_true, Sem.run_bind, szOf_run hs, Result.andThen_ok, Sem.run_pure, addr_add, Nat.add_assoc, Int.toNat_natCast]
  · rename_i n elem id off j ht hv hj
    split at hr
    case h_2 => cases hr
    rename_i size hs
    split at hr
    · cases hr
    rename_i hle
    simp only [Option.some.injEq] at hr
    subst hr
    have hlt : j < n := by simpa using hle
    obtain ⟨k, hk⟩ := natOf_inv hj hi
    rw [hv] at hx
    obtain ⟨b, sh, sz, e, hp⟩ := ptr_inv hx
    refine gives_pure H (.ptr _ _ b sh sz e) ?_
    have hr : (0 : Int) ≤ (j : Int) ∧ (j : Int) < (n : Int) := by omega
    simp only [Instr.indexAt, hk, asIntOf, Sem.run_bind, Sem.run_pure, Result.andThen_ok, run_underlying ht, hp, Instr.sureAddr]
    simp only [hr, and_self, if_true, Sem.run_bind, szOf_run hs, Result.andThen_ok, Sem.run_pure, addr_add, Nat.add_assoc, Int.toNat_natCast]
  · cases hr

theorem VRL.toArray_extract {a a' : List Value} (h : VRL φ a a') (i n : Nat) : VRL φ ((a.drop i).take n) ((a'.drop i).take n) := (h.drop i).take n

theorem partD_ok {t : TypeId} {cs : List Value} {cs' : Array Value} {off : Nat} {r : Value} (h : partD P t cs off = some r) (hc : VRL φ cs cs'.toList) (w : World) :
    ∃ r', (part t cs' off).run P w = .ok r' w ∧ VR φ r r' := by
  unfold partD at h
  split at h
  · rename_i hb
    split at h
    · rename_i n hn
      split at h
      · rename_i q hq
        cases h
        rw [ldrop_eq] at hq
        obtain ⟨rfl, hle⟩ := ltake_some hq
        refine ⟨.agg (cs'.extract off (off + n)), ?_, ?_⟩
        · simp [part, isAggB_run hb, szOf_run hn]
        · have := (hc.drop off).take n
          have e : (cs'.extract off (off + n)) = ⟨(cs'.toList.drop off).take n⟩ := by
            apply Array.ext'
            simp [Array.toList_extract]
            
          rw [e]; exact VR.agg_of this
      · cases h
    · cases h
  · rename_i hb
    split at h
    · rename_i v t' hv
      cases h
      rw [ldrop_eq] at hv
      have hd := hc.drop off
      rw [hv] at hd
      obtain ⟨v', t'', e, q, _⟩ := hd.head
      refine ⟨v', ?_, q⟩
      have : cs'[off]? = some v' := by
        rw [← Array.getElem?_toList, show cs'.toList[off]? = (cs'.toList.drop off)[0]? by rw [List.getElem?_drop]; rfl, e]; rfl
      simp [part, isAggB_run hb, this]
    · cases h
  · cases h

theorem opField_ok {t : TypeId} {x : Operand} {f : Nat} (h : opField P t x f l s = some (v, s')) (H : HR φ s.h w0 w) (hx : VR φ (evalO l x) (ρ x)) :
    Gives P w0 φ lo s' v ((do pure (.value (← Instr.field t (ρ x) f)) : Sem Next).run P w) := by
  unfold opField ofV at h
  split at h
  case h_2 => cases h
  rename_i r hr
  simp only [Option.some.injEq, Prod.mk.injEq] at h
  obtain ⟨rfl, rfl⟩ := h
  unfold fieldD typ at hr
  split at hr
  case h_2 => cases hr
  rename_i fs cs ht hv
  split at hr
  case h_2 => cases hr
  rename_i fd hfd
  rw [hv] at hx
  obtain ⟨a', ha, q⟩ := agg_inv hx
  obtain ⟨r', e, q'⟩ := partD_ok hr q w
  refine gives_pure H q' ?_
  simp [Instr.field, run_underlying ht, hfd, ha, asAgg, e]

theorem opIndex_ok {t : TypeId} {x i : Operand} (h : opIndex P t x i l s = some (v, s')) (H : HR φ s.h w0 w) (hx : VR φ (evalO l x) (ρ x)) (hi : VR φ (evalO l i) (ρ i)) :
    Gives P w0 φ lo s' v ((do pure (.value (← Instr.index t (ρ x) (ρ i))) : Sem Next).run P w) := by
  unfold opIndex ofV at h
  split at h
  case h_2 => cases h
  rename_i r hr
  simp only [Option.some.injEq, Prod.mk.injEq] at h
  obtain ⟨rfl, rfl⟩ := h
  unfold indexD typ at hr
  split at hr
  · rename_i n elem cs j ht hv hj
    split at hr
    case h_2 => cases hr
    rename_i size hs
    split at hr
    · cases hr
    rename_i hle
    have hlt : j < n := by simpa using hle
    obtain ⟨k, hk⟩ := natOf_inv hj hi
    rw [hv] at hx
    obtain ⟨a', ha, q⟩ := agg_inv hx
    obtain ⟨r', e, q'⟩ := partD_ok hr q w
    refine gives_pure H q' ?_
    have hr : (0 : Int) ≤ (j : Int) ∧ (j : Int) < (n : Int) := by omega
    simp only [Instr.index, hk, asIntOf, Sem.run_bind, Sem.run_pure, Result.andThen_ok, run_underlying ht, ha]
    simp only [hr, and_self, if_true, Sem.run_bind, szOf_run hs, Result.andThen_ok, Int.toNat_natCast, e]
  · rename_i b j ht hv hj
    split at hr
    · rename_i x' t' hd
      cases hr
      rw [ldrop_eq] at hd
      obtain ⟨k, hk⟩ := natOf_inv hj hi
      rw [hv] at hx
      have hs := string_inv hx
      have hd0 : (b.data.toList.map fun x => Value.int .u8 x.toNat)[j]? = some r := by
        rw [show (b.data.toList.map fun x => Value.int .u8 x.toNat)[j]? = ((b.data.toList.map fun x => Value.int .u8 x.toNat).drop j)[0]? by rw [List.getElem?_drop]; rfl, hd]; rfl
      rw [List.getElem?_map] at hd0
      obtain ⟨y, hy, rfl⟩ := Option.map_eq_some_iff.1 hd0
      refine gives_pure H (.int _ _) ?_
      have hb : b[j]? = some y := by
        rw [Array.getElem?_toList] at hy
        exact hy
      simp only [Instr.index, hk, asIntOf, Sem.run_bind, Sem.run_pure, Result.andThen_ok, run_underlying ht, hs]
      simp [hb]
    · cases hr
  · cases hr

end
end Go.Det
