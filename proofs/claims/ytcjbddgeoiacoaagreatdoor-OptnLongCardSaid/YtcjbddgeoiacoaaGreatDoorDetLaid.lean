/- A part of an evaluator of closed runs and of its soundness. -/
import Derived.Test.YtcjbddgeoiacoaaGreatDoorDetLaw
import Derived.OpenShut
import Derived.LaidHandle
namespace Go.Det
variable {P : Program}

/-- the variables: each under its own number -/
def glob (G : Nat) (W : World) : Ren := fun g => if g < G then some (g, 0, match W.heap[g]? with | some (.cells c _ _) => c.size | _ => 0) else none
theorem glob_glob (G : Nat) (W : World) : Glob G (glob G W) := fun g hg => ⟨_, by unfold glob; rw [if_pos hg]⟩
theorem glob_top (G : Nat) (W : World) {top : Nat} (h : G ≤ top) (id : Nat) (hid : top ≤ id) : glob G W id = none := by unfold glob; rw [if_neg (by omega)]

/-- what is laid: blocks that are only read -/
structure Laying (G : Nat) (W : World) (h : Heap) : Prop where
  hr : HR (glob G W) h W W
  ro : ∀ id cs e r, h.get id = some (.cells cs e r) → r = true
  nomp : ∀ id es, h.get id ≠ some (.ob es)
  top : ∀ id, G ≤ id → h.get id = none

theorem empty_get (id : Nat) : Heap.get [] id = none := by
  show lgetR none (lgetR [] [] (id / 8)) (id % 8) = none
  rw [lgetR_nil, lgetR_nil]

theorem Laying.empty {G : Nat} {W : World} (hG : G ≤ W.heap.size) : Laying G W [] :=
  ⟨HR.empty _ W (fun id b sh sz h => by
    unfold glob at h
    split at h
    · cases h; omega
    · cases h), fun id cs e r h => (by rw [empty_get] at h; cases h), fun id es h => (by rw [empty_get] at h; cases h), fun id _ => empty_get id⟩

theorem Laying.lay {G : Nat} {W : World} {h : Heap} (L : Laying G W h) {g : Nat} {c : Array Value} {t : TypeId} {fz : Nat × Nat} {cs : List Value} (hg : g < G) (hb : W.heap[g]? = some (.cells c t fz)) (hc : c.toList = cs) (hf : flatL cs = true) :
    Laying G W (h.set g (.cells cs (2 * t) true)) := by
  have hφ : glob G W g = some (g, 0, c.size) := by unfold glob; rw [if_pos hg, hb]
  have hone : ∀ id b sh sz, glob G W id = some (b, sh, sz) → b = id := by
    intro id b sh sz e
    unfold glob at e
    split at e
    · cases e; rfl
    · cases e
  have hv : VRL (glob G W) cs c.toList := by rw [hc]; exact flatL_self hf _
  have hnm : ∀ id es, (h.set g (.cells cs (2 * t) true)).get id ≠ some (.ob es) := by
    intro id es q
    rw [Heap.get_set] at q
    by_cases hi : id = g
    · rw [if_pos hi] at q; cases q
    · rw [if_neg hi] at q; exact L.nomp _ _ q
  refine ⟨⟨rfl, rfl, rfl, Nat.le_refl _, fun _ _ => rfl, L.hr.dom, fun id cs' e r q => ?_, fun i j ci ei cj ej r bi si zi bj sj zj hij gi gj ai aj => ?_, fun id es q => absurd q (hnm id es), fun i j ei ej bi si zi bj sj zj hij gi _ _ _ => absurd gi (hnm i ei)⟩, fun id cs' e r q => ?_, hnm, fun id hid => ?_⟩
  · rw [Heap.get_set] at q
    by_cases hi : id = g
    · subst hi; rw [if_pos rfl] at q; cases q
      refine ⟨id, 0, c.size, c, fz, hφ, by rw [half0]; exact hb, fun h => absurd h (even0 t), rfl, by rw [← hc]; simp, fun i _ => ?_, fun h => by cases h⟩
      have := hv.2 i
      rw [Nat.zero_add]
      simpa [List.getD_eq_getElem?_getD, Array.getD_eq_getD_getElem?] using this
    · rw [if_neg hi] at q; exact L.hr.cells _ _ _ _ q
  · rw [hone _ _ _ _ ai, hone _ _ _ _ aj]; exact hij
  · rw [Heap.get_set] at q
    by_cases hi : id = g
    · rw [if_pos hi] at q; cases q; rfl
    · rw [if_neg hi] at q; exact L.ro _ _ _ _ q
  · rw [Heap.get_set, if_neg (by omega)]; exact L.top id hid

/-- a table of whole numbers -/
theorem ints_of_trod {H : Type} {enc : TypeId × Value → H} {w : World} {base : Nat} {spare : Nat → Bool} {held : Bool} {fuel : Nat} {t e : TypeId} {n : Nat} {k : IntKind} {cs : List Value} {ns : List Int} {p : List MemPlace}
    (ht : P.underlying t = some (.array n e)) (he : P.underlying e = some (.int k)) (hc : P.cellsOf e = 1) (hct : P.cellsOf t = n)
    (h : DataW.trod enc P w base spare held fuel t cs = some (.agg (ns.map fun n => .lit (.int k n)), p)) : cs = ns.map (Value.int k) := by
  obtain ⟨xs, m, _, ex, hl, hn, hel⟩ := DataW.trod_array ht h
  simp only [Prod.mk.injEq, DataW.agg.injEq] at ex
  have hlen : ns.length = n := by rw [← hn]; have := congrArg List.length ex.1; simpa using this
  refine List.ext_getElem? fun i => ?_
  by_cases hi : i < n
  · have h1 := hel i hi
    rw [hc, Nat.mul_one] at h1
    have hx : xs[i]? = some xs[i] := List.getElem?_eq_getElem (by omega)
    rw [hx] at h1
    obtain ⟨a, ha, hb, _⟩ := DataW.trod_int he h1
    have hin : i < ns.length := by rw [hlen]; exact hi
    have e1 : (xs.map (·.1))[i]? = (ns.map fun n => DataW.lit (.int k n))[i]? := by rw [ex.1]
    rw [List.getElem?_map, hx, List.getElem?_map, List.getElem?_eq_getElem hin] at e1
    simp only [Option.map_some, hb, Option.some.injEq, DataW.lit.injEq, Lit.int.injEq, true_and] at e1
    have e2 : cs[i]? = ((cs.drop i).take 1)[0]? := by rw [List.getElem?_take_of_lt (by omega), List.getElem?_drop, Nat.add_zero]
    rw [e2, ha, List.getElem?_map, List.getElem?_eq_getElem hin, ← e1]
    rfl
  · rw [List.getElem?_eq_none (by rw [hl, hct]; omega), List.getElem?_eq_none (by simp; omega)]

theorem block_of_var {W : World} {n : String} {g : Nat} {cs : Array Value} (hg : P.globalNamed n = some g) (hv : W.var? P n = some cs) : ∃ t fz, W.heap[g]? = some (.cells cs t fz) := by
  unfold World.var? at hv
  rw [hg] at hv
  simp only [Option.bind_some] at hv
  split at hv
  · rename_i c t fz hb; cases hv; exact ⟨t, fz, hb⟩
  · cases hv
theorem block_lt {W : World} {g : Nat} {o} (h : W.heap[g]? = some o) : g < W.heap.size := by
  rcases Nat.lt_or_ge g W.heap.size with q | q
  · exact q
  · rw [Array.getElem?_eq_none q] at h; cases h

end Go.Det
