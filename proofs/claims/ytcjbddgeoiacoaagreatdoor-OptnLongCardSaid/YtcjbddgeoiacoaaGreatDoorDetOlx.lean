/- OptnLong: at every start, whatever the number, the call returns true; the conditions: the tables that the row lists read as the program lays them. -/
import Derived.Test.YtcjbddgeoiacoaaGreatDoorDetOlr0
import Derived.Test.YtcjbddgeoiacoaaGreatDoorDetOlr1
import Derived.Test.YtcjbddgeoiacoaaGreatDoorDetOlr2
import Derived.Test.YtcjbddgeoiacoaaGreatDoorDetOlr3
import Derived.Test.YtcjbddgeoiacoaaGreatDoorDetOlr4
import Derived.Test.YtcjbddgeoiacoaaGreatDoorDetOlr5
import Derived.Test.YtcjbddgeoiacoaaGreatDoorDetOlr6
import Derived.Test.YtcjbddgeoiacoaaGreatDoorDetOlr7
import Derived.Test.YtcjbddgeoiacoaaGreatDoorDetOlr8
import Derived.Test.YtcjbddgeoiacoaaGreatDoorDetOlr9
import Derived.Test.YtcjbddgeoiacoaaGreatDoorDetOlr10
import Derived.Test.YtcjbddgeoiacoaaGreatDoorDetOlr11
import Derived.Test.YtcjbddgeoiacoaaGreatDoorDetOlr12
import Derived.Test.YtcjbddgeoiacoaaGreatDoorDetOlr13
import Derived.Test.YtcjbddgeoiacoaaGreatDoorDetOlr14
import Derived.Test.YtcjbddgeoiacoaaGreatDoorDetOlr15
namespace Go.Proofs.YtcjbddgeoiacoaaGreatDoor
set_option maxRecDepth 100000
open Go.ChangeShapes Go.WideShapes Go.ChangeAt Go.RowKit Go.Det
theorem l_name : (Tryz.f5.name == "runtime.NumGoroutine") = false := by kernel_rfl
noncomputable def l_code : Code := match Tryz.f5.body with | some c => c | none => .skip
theorem l_body : Tryz.f5.body = some l_code := by kernel_rfl
theorem lrunG {xs xs' : List Value} {W : World} {t_xdb32 t_xdb64 t_xp10 : TypeId} (L : Laying 6 W (heapA t_xdb32 t_xdb64 t_xp10)) (hs : 6 ≤ W.heap.size) (hW : Len W) (hA : VRL (glob 6 W) xs xs')
    (e : isTrue (callD Tryz.prog (mkIntr maskB (extL extsB)) 1000 80 5 xs (birth (heapA t_xdb32 t_xdb64 t_xp10) 64)) = true) : Calls Tryz.prog 5 ⟨xs'⟩ W fun e W' => e = .returned (.bool true) ∧ Kept W W' :=
  run_true dt_mixed okB extsB_tr (extsB_ok L hs hW) Tryz.func5 l_body l_name L.hr (glob_glob 6 W) hA (glob_top 6 W (by decide)) (fun id h => L.top id (Nat.le_trans (by decide) h)) e
def Row (k0 : Nat) : Prop := ∀ (n0 n1 : Int), markOk (131072 * k0 + 2 * (256 + 7)) n0 → ∀ {W : World} {t_xdb32 t_xdb64 t_xp10 : TypeId}, Laying 6 W (heapA t_xdb32 t_xdb64 t_xp10) → 6 ≤ W.heap.size → Len W → Calls Tryz.prog 5 #[.int .i64 n0, .int .i64 n1] W fun e W' => e = .returned (.bool true) ∧ Kept W W'
theorem row0 : Row 0 := fun n0 n1 hm0 W t_xdb32 t_xdb64 t_xp10 L hs hW => by
  obtain ⟨k1, hk1, hm1⟩ := mark_bits (k := 3) (by decide) n1
  match k1, hk1 with
  | 0, _ => exact lrunG L hs hW (VRL.cons (.mark _ _ hm0) (VRL.cons (.mark _ _ hm1) (VRL.nil _))) (run0 t_xdb32 t_xdb64 t_xp10)
  | 1, _ => exact lrunG L hs hW (VRL.cons (.mark _ _ hm0) (VRL.cons (.mark _ _ hm1) (VRL.nil _))) (run1 t_xdb32 t_xdb64 t_xp10)
  | 2, _ => exact lrunG L hs hW (VRL.cons (.mark _ _ hm0) (VRL.cons (.mark _ _ hm1) (VRL.nil _))) (run2 t_xdb32 t_xdb64 t_xp10)
  | 3, _ => exact lrunG L hs hW (VRL.cons (.mark _ _ hm0) (VRL.cons (.mark _ _ hm1) (VRL.nil _))) (run3 t_xdb32 t_xdb64 t_xp10)
  | 4, _ => exact lrunG L hs hW (VRL.cons (.mark _ _ hm0) (VRL.cons (.mark _ _ hm1) (VRL.nil _))) (run4 t_xdb32 t_xdb64 t_xp10)
  | 5, _ => exact lrunG L hs hW (VRL.cons (.mark _ _ hm0) (VRL.cons (.mark _ _ hm1) (VRL.nil _))) (run5 t_xdb32 t_xdb64 t_xp10)
  | 6, _ => exact lrunG L hs hW (VRL.cons (.mark _ _ hm0) (VRL.cons (.mark _ _ hm1) (VRL.nil _))) (run6 t_xdb32 t_xdb64 t_xp10)
  | 7, _ => exact lrunG L hs hW (VRL.cons (.mark _ _ hm0) (VRL.cons (.mark _ _ hm1) (VRL.nil _))) (run7 t_xdb32 t_xdb64 t_xp10)
  | k + 8, hk => exact absurd hk (by simp only [Nat.reducePow]; omega)
theorem row1 : Row 1 := fun n0 n1 hm0 W t_xdb32 t_xdb64 t_xp10 L hs hW => by
  obtain ⟨k1, hk1, hm1⟩ := mark_bits (k := 3) (by decide) n1
  match k1, hk1 with
  | 0, _ => exact lrunG L hs hW (VRL.cons (.mark _ _ hm0) (VRL.cons (.mark _ _ hm1) (VRL.nil _))) (run8 t_xdb32 t_xdb64 t_xp10)
  | 1, _ => exact lrunG L hs hW (VRL.cons (.mark _ _ hm0) (VRL.cons (.mark _ _ hm1) (VRL.nil _))) (run9 t_xdb32 t_xdb64 t_xp10)
  | 2, _ => exact lrunG L hs hW (VRL.cons (.mark _ _ hm0) (VRL.cons (.mark _ _ hm1) (VRL.nil _))) (run10 t_xdb32 t_xdb64 t_xp10)
  | 3, _ => exact lrunG L hs hW (VRL.cons (.mark _ _ hm0) (VRL.cons (.mark _ _ hm1) (VRL.nil _))) (run11 t_xdb32 t_xdb64 t_xp10)
  | 4, _ => exact lrunG L hs hW (VRL.cons (.mark _ _ hm0) (VRL.cons (.mark _ _ hm1) (VRL.nil _))) (run12 t_xdb32 t_xdb64 t_xp10)
  | 5, _ => exact lrunG L hs hW (VRL.cons (.mark _ _ hm0) (VRL.cons (.mark _ _ hm1) (VRL.nil _))) (run13 t_xdb32 t_xdb64 t_xp10)
  | 6, _ => exact lrunG L hs hW (VRL.cons (.mark _ _ hm0) (VRL.cons (.mark _ _ hm1) (VRL.nil _))) (run14 t_xdb32 t_xdb64 t_xp10)
  | 7, _ => exact lrunG L hs hW (VRL.cons (.mark _ _ hm0) (VRL.cons (.mark _ _ hm1) (VRL.nil _))) (run15 t_xdb32 t_xdb64 t_xp10)
  | k + 8, hk => exact absurd hk (by simp only [Nat.reducePow]; omega)
theorem row2 : Row 2 := fun n0 n1 hm0 W t_xdb32 t_xdb64 t_xp10 L hs hW => by
  obtain ⟨k1, hk1, hm1⟩ := mark_bits (k := 3) (by decide) n1
  match k1, hk1 with
  | 0, _ => exact lrunG L hs hW (VRL.cons (.mark _ _ hm0) (VRL.cons (.mark _ _ hm1) (VRL.nil _))) (run16 t_xdb32 t_xdb64 t_xp10)
  | 1, _ => exact lrunG L hs hW (VRL.cons (.mark _ _ hm0) (VRL.cons (.mark _ _ hm1) (VRL.nil _))) (run17 t_xdb32 t_xdb64 t_xp10)
  | 2, _ => exact lrunG L hs hW (VRL.cons (.mark _ _ hm0) (VRL.cons (.mark _ _ hm1) (VRL.nil _))) (run18 t_xdb32 t_xdb64 t_xp10)
  | 3, _ => exact lrunG L hs hW (VRL.cons (.mark _ _ hm0) (VRL.cons (.mark _ _ hm1) (VRL.nil _))) (run19 t_xdb32 t_xdb64 t_xp10)
  | 4, _ => exact lrunG L hs hW (VRL.cons (.mark _ _ hm0) (VRL.cons (.mark _ _ hm1) (VRL.nil _))) (run20 t_xdb32 t_xdb64 t_xp10)
  | 5, _ => exact lrunG L hs hW (VRL.cons (.mark _ _ hm0) (VRL.cons (.mark _ _ hm1) (VRL.nil _))) (run21 t_xdb32 t_xdb64 t_xp10)
  | 6, _ => exact lrunG L hs hW (VRL.cons (.mark _ _ hm0) (VRL.cons (.mark _ _ hm1) (VRL.nil _))) (run22 t_xdb32 t_xdb64 t_xp10)
  | 7, _ => exact lrunG L hs hW (VRL.cons (.mark _ _ hm0) (VRL.cons (.mark _ _ hm1) (VRL.nil _))) (run23 t_xdb32 t_xdb64 t_xp10)
  | k + 8, hk => exact absurd hk (by simp only [Nat.reducePow]; omega)
theorem row3 : Row 3 := fun n0 n1 hm0 W t_xdb32 t_xdb64 t_xp10 L hs hW => by
  obtain ⟨k1, hk1, hm1⟩ := mark_bits (k := 3) (by decide) n1
  match k1, hk1 with
  | 0, _ => exact lrunG L hs hW (VRL.cons (.mark _ _ hm0) (VRL.cons (.mark _ _ hm1) (VRL.nil _))) (run24 t_xdb32 t_xdb64 t_xp10)
  | 1, _ => exact lrunG L hs hW (VRL.cons (.mark _ _ hm0) (VRL.cons (.mark _ _ hm1) (VRL.nil _))) (run25 t_xdb32 t_xdb64 t_xp10)
  | 2, _ => exact lrunG L hs hW (VRL.cons (.mark _ _ hm0) (VRL.cons (.mark _ _ hm1) (VRL.nil _))) (run26 t_xdb32 t_xdb64 t_xp10)
  | 3, _ => exact lrunG L hs hW (VRL.cons (.mark _ _ hm0) (VRL.cons (.mark _ _ hm1) (VRL.nil _))) (run27 t_xdb32 t_xdb64 t_xp10)
  | 4, _ => exact lrunG L hs hW (VRL.cons (.mark _ _ hm0) (VRL.cons (.mark _ _ hm1) (VRL.nil _))) (run28 t_xdb32 t_xdb64 t_xp10)
  | 5, _ => exact lrunG L hs hW (VRL.cons (.mark _ _ hm0) (VRL.cons (.mark _ _ hm1) (VRL.nil _))) (run29 t_xdb32 t_xdb64 t_xp10)
  | 6, _ => exact lrunG L hs hW (VRL.cons (.mark _ _ hm0) (VRL.cons (.mark _ _ hm1) (VRL.nil _))) (run30 t_xdb32 t_xdb64 t_xp10)
  | 7, _ => exact lrunG L hs hW (VRL.cons (.mark _ _ hm0) (VRL.cons (.mark _ _ hm1) (VRL.nil _))) (run31 t_xdb32 t_xdb64 t_xp10)
  | k + 8, hk => exact absurd hk (by simp only [Nat.reducePow]; omega)
theorem row4 : Row 4 := fun n0 n1 hm0 W t_xdb32 t_xdb64 t_xp10 L hs hW => by
  obtain ⟨k1, hk1, hm1⟩ := mark_bits (k := 3) (by decide) n1
  match k1, hk1 with
  | 0, _ => exact lrunG L hs hW (VRL.cons (.mark _ _ hm0) (VRL.cons (.mark _ _ hm1) (VRL.nil _))) (run32 t_xdb32 t_xdb64 t_xp10)
  | 1, _ => exact lrunG L hs hW (VRL.cons (.mark _ _ hm0) (VRL.cons (.mark _ _ hm1) (VRL.nil _))) (run33 t_xdb32 t_xdb64 t_xp10)
  | 2, _ => exact lrunG L hs hW (VRL.cons (.mark _ _ hm0) (VRL.cons (.mark _ _ hm1) (VRL.nil _))) (run34 t_xdb32 t_xdb64 t_xp10)
  | 3, _ => exact lrunG L hs hW (VRL.cons (.mark _ _ hm0) (VRL.cons (.mark _ _ hm1) (VRL.nil _))) (run35 t_xdb32 t_xdb64 t_xp10)
  | 4, _ => exact lrunG L hs hW (VRL.cons (.mark _ _ hm0) (VRL.cons (.mark _ _ hm1) (VRL.nil _))) (run36 t_xdb32 t_xdb64 t_xp10)
  | 5, _ => exact lrunG L hs hW (VRL.cons (.mark _ _ hm0) (VRL.cons (.mark _ _ hm1) (VRL.nil _))) (run37 t_xdb32 t_xdb64 t_xp10)
  | 6, _ => exact lrunG L hs hW (VRL.cons (.mark _ _ hm0) (VRL.cons (.mark _ _ hm1) (VRL.nil _))) (run38 t_xdb32 t_xdb64 t_xp10)
  | 7, _ => exact lrunG L hs hW (VRL.cons (.mark _ _ hm0) (VRL.cons (.mark _ _ hm1) (VRL.nil _))) (run39 t_xdb32 t_xdb64 t_xp10)
  | k + 8, hk => exact absurd hk (by simp only [Nat.reducePow]; omega)
theorem row5 : Row 5 := fun n0 n1 hm0 W t_xdb32 t_xdb64 t_xp10 L hs hW => by
  obtain ⟨k1, hk1, hm1⟩ := mark_bits (k := 3) (by decide) n1
  match k1, hk1 with
  | 0, _ => exact lrunG L hs hW (VRL.cons (.mark _ _ hm0) (VRL.cons (.mark _ _ hm1) (VRL.nil _))) (run40 t_xdb32 t_xdb64 t_xp10)
  | 1, _ => exact lrunG L hs hW (VRL.cons (.mark _ _ hm0) (VRL.cons (.mark _ _ hm1) (VRL.nil _))) (run41 t_xdb32 t_xdb64 t_xp10)
  | 2, _ => exact lrunG L hs hW (VRL.cons (.mark _ _ hm0) (VRL.cons (.mark _ _ hm1) (VRL.nil _))) (run42 t_xdb32 t_xdb64 t_xp10)
  | 3, _ => exact lrunG L hs hW (VRL.cons (.mark _ _ hm0) (VRL.cons (.mark _ _ hm1) (VRL.nil _))) (run43 t_xdb32 t_xdb64 t_xp10)
  | 4, _ => exact lrunG L hs hW (VRL.cons (.mark _ _ hm0) (VRL.cons (.mark _ _ hm1) (VRL.nil _))) (run44 t_xdb32 t_xdb64 t_xp10)
  | 5, _ => exact lrunG L hs hW (VRL.cons (.mark _ _ hm0) (VRL.cons (.mark _ _ hm1) (VRL.nil _))) (run45 t_xdb32 t_xdb64 t_xp10)
  | 6, _ => exact lrunG L hs hW (VRL.cons (.mark _ _ hm0) (VRL.cons (.mark _ _ hm1) (VRL.nil _))) (run46 t_xdb32 t_xdb64 t_xp10)
  | 7, _ => exact lrunG L hs hW (VRL.cons (.mark _ _ hm0) (VRL.cons (.mark _ _ hm1) (VRL.nil _))) (run47 t_xdb32 t_xdb64 t_xp10)
  | k + 8, hk => exact absurd hk (by simp only [Nat.reducePow]; omega)
theorem row6 : Row 6 := fun n0 n1 hm0 W t_xdb32 t_xdb64 t_xp10 L hs hW => by
  obtain ⟨k1, hk1, hm1⟩ := mark_bits (k := 3) (by decide) n1
  match k1, hk1 with
  | 0, _ => exact lrunG L hs hW (VRL.cons (.mark _ _ hm0) (VRL.cons (.mark _ _ hm1) (VRL.nil _))) (run48 t_xdb32 t_xdb64 t_xp10)
  | 1, _ => exact lrunG L hs hW (VRL.cons (.mark _ _ hm0) (VRL.cons (.mark _ _ hm1) (VRL.nil _))) (run49 t_xdb32 t_xdb64 t_xp10)
  | 2, _ => exact lrunG L hs hW (VRL.cons (.mark _ _ hm0) (VRL.cons (.mark _ _ hm1) (VRL.nil _))) (run50 t_xdb32 t_xdb64 t_xp10)
  | 3, _ => exact lrunG L hs hW (VRL.cons (.mark _ _ hm0) (VRL.cons (.mark _ _ hm1) (VRL.nil _))) (run51 t_xdb32 t_xdb64 t_xp10)
  | 4, _ => exact lrunG L hs hW (VRL.cons (.mark _ _ hm0) (VRL.cons (.mark _ _ hm1) (VRL.nil _))) (run52 t_xdb32 t_xdb64 t_xp10)
  | 5, _ => exact lrunG L hs hW (VRL.cons (.mark _ _ hm0) (VRL.cons (.mark _ _ hm1) (VRL.nil _))) (run53 t_xdb32 t_xdb64 t_xp10)
  | 6, _ => exact lrunG L hs hW (VRL.cons (.mark _ _ hm0) (VRL.cons (.mark _ _ hm1) (VRL.nil _))) (run54 t_xdb32 t_xdb64 t_xp10)
  | 7, _ => exact lrunG L hs hW (VRL.cons (.mark _ _ hm0) (VRL.cons (.mark _ _ hm1) (VRL.nil _))) (run55 t_xdb32 t_xdb64 t_xp10)
  | k + 8, hk => exact absurd hk (by simp only [Nat.reducePow]; omega)
theorem row7 : Row 7 := fun n0 n1 hm0 W t_xdb32 t_xdb64 t_xp10 L hs hW => by
  obtain ⟨k1, hk1, hm1⟩ := mark_bits (k := 3) (by decide) n1
  match k1, hk1 with
  | 0, _ => exact lrunG L hs hW (VRL.cons (.mark _ _ hm0) (VRL.cons (.mark _ _ hm1) (VRL.nil _))) (run56 t_xdb32 t_xdb64 t_xp10)
  | 1, _ => exact lrunG L hs hW (VRL.cons (.mark _ _ hm0) (VRL.cons (.mark _ _ hm1) (VRL.nil _))) (run57 t_xdb32 t_xdb64 t_xp10)
  | 2, _ => exact lrunG L hs hW (VRL.cons (.mark _ _ hm0) (VRL.cons (.mark _ _ hm1) (VRL.nil _))) (run58 t_xdb32 t_xdb64 t_xp10)
  | 3, _ => exact lrunG L hs hW (VRL.cons (.mark _ _ hm0) (VRL.cons (.mark _ _ hm1) (VRL.nil _))) (run59 t_xdb32 t_xdb64 t_xp10)
  | 4, _ => exact lrunG L hs hW (VRL.cons (.mark _ _ hm0) (VRL.cons (.mark _ _ hm1) (VRL.nil _))) (run60 t_xdb32 t_xdb64 t_xp10)
  | 5, _ => exact lrunG L hs hW (VRL.cons (.mark _ _ hm0) (VRL.cons (.mark _ _ hm1) (VRL.nil _))) (run61 t_xdb32 t_xdb64 t_xp10)
  | 6, _ => exact lrunG L hs hW (VRL.cons (.mark _ _ hm0) (VRL.cons (.mark _ _ hm1) (VRL.nil _))) (run62 t_xdb32 t_xdb64 t_xp10)
  | 7, _ => exact lrunG L hs hW (VRL.cons (.mark _ _ hm0) (VRL.cons (.mark _ _ hm1) (VRL.nil _))) (run63 t_xdb32 t_xdb64 t_xp10)
  | k + 8, hk => exact absurd hk (by simp only [Nat.reducePow]; omega)
theorem row8 : Row 8 := fun n0 n1 hm0 W t_xdb32 t_xdb64 t_xp10 L hs hW => by
  obtain ⟨k1, hk1, hm1⟩ := mark_bits (k := 3) (by decide) n1
  match k1, hk1 with
  | 0, _ => exact lrunG L hs hW (VRL.cons (.mark _ _ hm0) (VRL.cons (.mark _ _ hm1) (VRL.nil _))) (run64 t_xdb32 t_xdb64 t_xp10)
  | 1, _ => exact lrunG L hs hW (VRL.cons (.mark _ _ hm0) (VRL.cons (.mark _ _ hm1) (VRL.nil _))) (run65 t_xdb32 t_xdb64 t_xp10)
  | 2, _ => exact lrunG L hs hW (VRL.cons (.mark _ _ hm0) (VRL.cons (.mark _ _ hm1) (VRL.nil _))) (run66 t_xdb32 t_xdb64 t_xp10)
  | 3, _ => exact lrunG L hs hW (VRL.cons (.mark _ _ hm0) (VRL.cons (.mark _ _ hm1) (VRL.nil _))) (run67 t_xdb32 t_xdb64 t_xp10)
  | 4, _ => exact lrunG L hs hW (VRL.cons (.mark _ _ hm0) (VRL.cons (.mark _ _ hm1) (VRL.nil _))) (run68 t_xdb32 t_xdb64 t_xp10)
  | 5, _ => exact lrunG L hs hW (VRL.cons (.mark _ _ hm0) (VRL.cons (.mark _ _ hm1) (VRL.nil _))) (run69 t_xdb32 t_xdb64 t_xp10)
  | 6, _ => exact lrunG L hs hW (VRL.cons (.mark _ _ hm0) (VRL.cons (.mark _ _ hm1) (VRL.nil _))) (run70 t_xdb32 t_xdb64 t_xp10)
  | 7, _ => exact lrunG L hs hW (VRL.cons (.mark _ _ hm0) (VRL.cons (.mark _ _ hm1) (VRL.nil _))) (run71 t_xdb32 t_xdb64 t_xp10)
  | k + 8, hk => exact absurd hk (by simp only [Nat.reducePow]; omega)
theorem row9 : Row 9 := fun n0 n1 hm0 W t_xdb32 t_xdb64 t_xp10 L hs hW => by
  obtain ⟨k1, hk1, hm1⟩ := mark_bits (k := 3) (by decide) n1
  match k1, hk1 with
  | 0, _ => exact lrunG L hs hW (VRL.cons (.mark _ _ hm0) (VRL.cons (.mark _ _ hm1) (VRL.nil _))) (run72 t_xdb32 t_xdb64 t_xp10)
  | 1, _ => exact lrunG L hs hW (VRL.cons (.mark _ _ hm0) (VRL.cons (.mark _ _ hm1) (VRL.nil _))) (run73 t_xdb32 t_xdb64 t_xp10)
  | 2, _ => exact lrunG L hs hW (VRL.cons (.mark _ _ hm0) (VRL.cons (.mark _ _ hm1) (VRL.nil _))) (run74 t_xdb32 t_xdb64 t_xp10)
  | 3, _ => exact lrunG L hs hW (VRL.cons (.mark _ _ hm0) (VRL.cons (.mark _ _ hm1) (VRL.nil _))) (run75 t_xdb32 t_xdb64 t_xp10)
  | 4, _ => exact lrunG L hs hW (VRL.cons (.mark _ _ hm0) (VRL.cons (.mark _ _ hm1) (VRL.nil _))) (run76 t_xdb32 t_xdb64 t_xp10)
  | 5, _ => exact lrunG L hs hW (VRL.cons (.mark _ _ hm0) (VRL.cons (.mark _ _ hm1) (VRL.nil _))) (run77 t_xdb32 t_xdb64 t_xp10)
  | 6, _ => exact lrunG L hs hW (VRL.cons (.mark _ _ hm0) (VRL.cons (.mark _ _ hm1) (VRL.nil _))) (run78 t_xdb32 t_xdb64 t_xp10)
  | 7, _ => exact lrunG L hs hW (VRL.cons (.mark _ _ hm0) (VRL.cons (.mark _ _ hm1) (VRL.nil _))) (run79 t_xdb32 t_xdb64 t_xp10)
  | k + 8, hk => exact absurd hk (by simp only [Nat.reducePow]; omega)
theorem row10 : Row 10 := fun n0 n1 hm0 W t_xdb32 t_xdb64 t_xp10 L hs hW => by
  obtain ⟨k1, hk1, hm1⟩ := mark_bits (k := 3) (by decide) n1
  match k1, hk1 with
  | 0, _ => exact lrunG L hs hW (VRL.cons (.mark _ _ hm0) (VRL.cons (.mark _ _ hm1) (VRL.nil _))) (run80 t_xdb32 t_xdb64 t_xp10)
  | 1, _ => exact lrunG L hs hW (VRL.cons (.mark _ _ hm0) (VRL.cons (.mark _ _ hm1) (VRL.nil _))) (run81 t_xdb32 t_xdb64 t_xp10)
  | 2, _ => exact lrunG L hs hW (VRL.cons (.mark _ _ hm0) (VRL.cons (.mark _ _ hm1) (VRL.nil _))) (run82 t_xdb32 t_xdb64 t_xp10)
  | 3, _ => exact lrunG L hs hW (VRL.cons (.mark _ _ hm0) (VRL.cons (.mark _ _ hm1) (VRL.nil _))) (run83 t_xdb32 t_xdb64 t_xp10)
  | 4, _ => exact lrunG L hs hW (VRL.cons (.mark _ _ hm0) (VRL.cons (.mark _ _ hm1) (VRL.nil _))) (run84 t_xdb32 t_xdb64 t_xp10)
  | 5, _ => exact lrunG L hs hW (VRL.cons (.mark _ _ hm0) (VRL.cons (.mark _ _ hm1) (VRL.nil _))) (run85 t_xdb32 t_xdb64 t_xp10)
  | 6, _ => exact lrunG L hs hW (VRL.cons (.mark _ _ hm0) (VRL.cons (.mark _ _ hm1) (VRL.nil _))) (run86 t_xdb32 t_xdb64 t_xp10)
  | 7, _ => exact lrunG L hs hW (VRL.cons (.mark _ _ hm0) (VRL.cons (.mark _ _ hm1) (VRL.nil _))) (run87 t_xdb32 t_xdb64 t_xp10)
  | k + 8, hk => exact absurd hk (by simp only [Nat.reducePow]; omega)
theorem row11 : Row 11 := fun n0 n1 hm0 W t_xdb32 t_xdb64 t_xp10 L hs hW => by
  obtain ⟨k1, hk1, hm1⟩ := mark_bits (k := 3) (by decide) n1
  match k1, hk1 with
  | 0, _ => exact lrunG L hs hW (VRL.cons (.mark _ _ hm0) (VRL.cons (.mark _ _ hm1) (VRL.nil _))) (run88 t_xdb32 t_xdb64 t_xp10)
  | 1, _ => exact lrunG L hs hW (VRL.cons (.mark _ _ hm0) (VRL.cons (.mark _ _ hm1) (VRL.nil _))) (run89 t_xdb32 t_xdb64 t_xp10)
  | 2, _ => exact lrunG L hs hW (VRL.cons (.mark _ _ hm0) (VRL.cons (.mark _ _ hm1) (VRL.nil _))) (run90 t_xdb32 t_xdb64 t_xp10)
  | 3, _ => exact lrunG L hs hW (VRL.cons (.mark _ _ hm0) (VRL.cons (.mark _ _ hm1) (VRL.nil _))) (run91 t_xdb32 t_xdb64 t_xp10)
  | 4, _ => exact lrunG L hs hW (VRL.cons (.mark _ _ hm0) (VRL.cons (.mark _ _ hm1) (VRL.nil _))) (run92 t_xdb32 t_xdb64 t_xp10)
  | 5, _ => exact lrunG L hs hW (VRL.cons (.mark _ _ hm0) (VRL.cons (.mark _ _ hm1) (VRL.nil _))) (run93 t_xdb32 t_xdb64 t_xp10)
  | 6, _ => exact lrunG L hs hW (VRL.cons (.mark _ _ hm0) (VRL.cons (.mark _ _ hm1) (VRL.nil _))) (run94 t_xdb32 t_xdb64 t_xp10)
  | 7, _ => exact lrunG L hs hW (VRL.cons (.mark _ _ hm0) (VRL.cons (.mark _ _ hm1) (VRL.nil _))) (run95 t_xdb32 t_xdb64 t_xp10)
  | k + 8, hk => exact absurd hk (by simp only [Nat.reducePow]; omega)
theorem row12 : Row 12 := fun n0 n1 hm0 W t_xdb32 t_xdb64 t_xp10 L hs hW => by
  obtain ⟨k1, hk1, hm1⟩ := mark_bits (k := 3) (by decide) n1
  match k1, hk1 with
  | 0, _ => exact lrunG L hs hW (VRL.cons (.mark _ _ hm0) (VRL.cons (.mark _ _ hm1) (VRL.nil _))) (run96 t_xdb32 t_xdb64 t_xp10)
  | 1, _ => exact lrunG L hs hW (VRL.cons (.mark _ _ hm0) (VRL.cons (.mark _ _ hm1) (VRL.nil _))) (run97 t_xdb32 t_xdb64 t_xp10)
  | 2, _ => exact lrunG L hs hW (VRL.cons (.mark _ _ hm0) (VRL.cons (.mark _ _ hm1) (VRL.nil _))) (run98 t_xdb32 t_xdb64 t_xp10)
  | 3, _ => exact lrunG L hs hW (VRL.cons (.mark _ _ hm0) (VRL.cons (.mark _ _ hm1) (VRL.nil _))) (run99 t_xdb32 t_xdb64 t_xp10)
  | 4, _ => exact lrunG L hs hW (VRL.cons (.mark _ _ hm0) (VRL.cons (.mark _ _ hm1) (VRL.nil _))) (run100 t_xdb32 t_xdb64 t_xp10)
  | 5, _ => exact lrunG L hs hW (VRL.cons (.mark _ _ hm0) (VRL.cons (.mark _ _ hm1) (VRL.nil _))) (run101 t_xdb32 t_xdb64 t_xp10)
  | 6, _ => exact lrunG L hs hW (VRL.cons (.mark _ _ hm0) (VRL.cons (.mark _ _ hm1) (VRL.nil _))) (run102 t_xdb32 t_xdb64 t_xp10)
  | 7, _ => exact lrunG L hs hW (VRL.cons (.mark _ _ hm0) (VRL.cons (.mark _ _ hm1) (VRL.nil _))) (run103 t_xdb32 t_xdb64 t_xp10)
  | k + 8, hk => exact absurd hk (by simp only [Nat.reducePow]; omega)
theorem row13 : Row 13 := fun n0 n1 hm0 W t_xdb32 t_xdb64 t_xp10 L hs hW => by
  obtain ⟨k1, hk1, hm1⟩ := mark_bits (k := 3) (by decide) n1
  match k1, hk1 with
  | 0, _ => exact lrunG L hs hW (VRL.cons (.mark _ _ hm0) (VRL.cons (.mark _ _ hm1) (VRL.nil _))) (run104 t_xdb32 t_xdb64 t_xp10)
  | 1, _ => exact lrunG L hs hW (VRL.cons (.mark _ _ hm0) (VRL.cons (.mark _ _ hm1) (VRL.nil _))) (run105 t_xdb32 t_xdb64 t_xp10)
  | 2, _ => exact lrunG L hs hW (VRL.cons (.mark _ _ hm0) (VRL.cons (.mark _ _ hm1) (VRL.nil _))) (run106 t_xdb32 t_xdb64 t_xp10)
  | 3, _ => exact lrunG L hs hW (VRL.cons (.mark _ _ hm0) (VRL.cons (.mark _ _ hm1) (VRL.nil _))) (run107 t_xdb32 t_xdb64 t_xp10)
  | 4, _ => exact lrunG L hs hW (VRL.cons (.mark _ _ hm0) (VRL.cons (.mark _ _ hm1) (VRL.nil _))) (run108 t_xdb32 t_xdb64 t_xp10)
  | 5, _ => exact lrunG L hs hW (VRL.cons (.mark _ _ hm0) (VRL.cons (.mark _ _ hm1) (VRL.nil _))) (run109 t_xdb32 t_xdb64 t_xp10)
  | 6, _ => exact lrunG L hs hW (VRL.cons (.mark _ _ hm0) (VRL.cons (.mark _ _ hm1) (VRL.nil _))) (run110 t_xdb32 t_xdb64 t_xp10)
  | 7, _ => exact lrunG L hs hW (VRL.cons (.mark _ _ hm0) (VRL.cons (.mark _ _ hm1) (VRL.nil _))) (run111 t_xdb32 t_xdb64 t_xp10)
  | k + 8, hk => exact absurd hk (by simp only [Nat.reducePow]; omega)
theorem row14 : Row 14 := fun n0 n1 hm0 W t_xdb32 t_xdb64 t_xp10 L hs hW => by
  obtain ⟨k1, hk1, hm1⟩ := mark_bits (k := 3) (by decide) n1
  match k1, hk1 with
  | 0, _ => exact lrunG L hs hW (VRL.cons (.mark _ _ hm0) (VRL.cons (.mark _ _ hm1) (VRL.nil _))) (run112 t_xdb32 t_xdb64 t_xp10)
  | 1, _ => exact lrunG L hs hW (VRL.cons (.mark _ _ hm0) (VRL.cons (.mark _ _ hm1) (VRL.nil _))) (run113 t_xdb32 t_xdb64 t_xp10)
  | 2, _ => exact lrunG L hs hW (VRL.cons (.mark _ _ hm0) (VRL.cons (.mark _ _ hm1) (VRL.nil _))) (run114 t_xdb32 t_xdb64 t_xp10)
  | 3, _ => exact lrunG L hs hW (VRL.cons (.mark _ _ hm0) (VRL.cons (.mark _ _ hm1) (VRL.nil _))) (run115 t_xdb32 t_xdb64 t_xp10)
  | 4, _ => exact lrunG L hs hW (VRL.cons (.mark _ _ hm0) (VRL.cons (.mark _ _ hm1) (VRL.nil _))) (run116 t_xdb32 t_xdb64 t_xp10)
  | 5, _ => exact lrunG L hs hW (VRL.cons (.mark _ _ hm0) (VRL.cons (.mark _ _ hm1) (VRL.nil _))) (run117 t_xdb32 t_xdb64 t_xp10)
  | 6, _ => exact lrunG L hs hW (VRL.cons (.mark _ _ hm0) (VRL.cons (.mark _ _ hm1) (VRL.nil _))) (run118 t_xdb32 t_xdb64 t_xp10)
  | 7, _ => exact lrunG L hs hW (VRL.cons (.mark _ _ hm0) (VRL.cons (.mark _ _ hm1) (VRL.nil _))) (run119 t_xdb32 t_xdb64 t_xp10)
  | k + 8, hk => exact absurd hk (by simp only [Nat.reducePow]; omega)
theorem row15 : Row 15 := fun n0 n1 hm0 W t_xdb32 t_xdb64 t_xp10 L hs hW => by
  obtain ⟨k1, hk1, hm1⟩ := mark_bits (k := 3) (by decide) n1
  match k1, hk1 with
  | 0, _ => exact lrunG L hs hW (VRL.cons (.mark _ _ hm0) (VRL.cons (.mark _ _ hm1) (VRL.nil _))) (run120 t_xdb32 t_xdb64 t_xp10)
  | 1, _ => exact lrunG L hs hW (VRL.cons (.mark _ _ hm0) (VRL.cons (.mark _ _ hm1) (VRL.nil _))) (run121 t_xdb32 t_xdb64 t_xp10)
  | 2, _ => exact lrunG L hs hW (VRL.cons (.mark _ _ hm0) (VRL.cons (.mark _ _ hm1) (VRL.nil _))) (run122 t_xdb32 t_xdb64 t_xp10)
  | 3, _ => exact lrunG L hs hW (VRL.cons (.mark _ _ hm0) (VRL.cons (.mark _ _ hm1) (VRL.nil _))) (run123 t_xdb32 t_xdb64 t_xp10)
  | 4, _ => exact lrunG L hs hW (VRL.cons (.mark _ _ hm0) (VRL.cons (.mark _ _ hm1) (VRL.nil _))) (run124 t_xdb32 t_xdb64 t_xp10)
  | 5, _ => exact lrunG L hs hW (VRL.cons (.mark _ _ hm0) (VRL.cons (.mark _ _ hm1) (VRL.nil _))) (run125 t_xdb32 t_xdb64 t_xp10)
  | 6, _ => exact lrunG L hs hW (VRL.cons (.mark _ _ hm0) (VRL.cons (.mark _ _ hm1) (VRL.nil _))) (run126 t_xdb32 t_xdb64 t_xp10)
  | 7, _ => exact lrunG L hs hW (VRL.cons (.mark _ _ hm0) (VRL.cons (.mark _ _ hm1) (VRL.nil _))) (run127 t_xdb32 t_xdb64 t_xp10)
  | k + 8, hk => exact absurd hk (by simp only [Nat.reducePow]; omega)
theorem row16 : Row 16 := fun n0 n1 hm0 W t_xdb32 t_xdb64 t_xp10 L hs hW => by
  obtain ⟨k1, hk1, hm1⟩ := mark_bits (k := 3) (by decide) n1
  match k1, hk1 with
  | 0, _ => exact lrunG L hs hW (VRL.cons (.mark _ _ hm0) (VRL.cons (.mark _ _ hm1) (VRL.nil _))) (run128 t_xdb32 t_xdb64 t_xp10)
  | 1, _ => exact lrunG L hs hW (VRL.cons (.mark _ _ hm0) (VRL.cons (.mark _ _ hm1) (VRL.nil _))) (run129 t_xdb32 t_xdb64 t_xp10)
  | 2, _ => exact lrunG L hs hW (VRL.cons (.mark _ _ hm0) (VRL.cons (.mark _ _ hm1) (VRL.nil _))) (run130 t_xdb32 t_xdb64 t_xp10)
  | 3, _ => exact lrunG L hs hW (VRL.cons (.mark _ _ hm0) (VRL.cons (.mark _ _ hm1) (VRL.nil _))) (run131 t_xdb32 t_xdb64 t_xp10)
  | 4, _ => exact lrunG L hs hW (VRL.cons (.mark _ _ hm0) (VRL.cons (.mark _ _ hm1) (VRL.nil _))) (run132 t_xdb32 t_xdb64 t_xp10)
  | 5, _ => exact lrunG L hs hW (VRL.cons (.mark _ _ hm0) (VRL.cons (.mark _ _ hm1) (VRL.nil _))) (run133 t_xdb32 t_xdb64 t_xp10)
  | 6, _ => exact lrunG L hs hW (VRL.cons (.mark _ _ hm0) (VRL.cons (.mark _ _ hm1) (VRL.nil _))) (run134 t_xdb32 t_xdb64 t_xp10)
  | 7, _ => exact lrunG L hs hW (VRL.cons (.mark _ _ hm0) (VRL.cons (.mark _ _ hm1) (VRL.nil _))) (run135 t_xdb32 t_xdb64 t_xp10)
  | k + 8, hk => exact absurd hk (by simp only [Nat.reducePow]; omega)
theorem row17 : Row 17 := fun n0 n1 hm0 W t_xdb32 t_xdb64 t_xp10 L hs hW => by
  obtain ⟨k1, hk1, hm1⟩ := mark_bits (k := 3) (by decide) n1
  match k1, hk1 with
  | 0, _ => exact lrunG L hs hW (VRL.cons (.mark _ _ hm0) (VRL.cons (.mark _ _ hm1) (VRL.nil _))) (run136 t_xdb32 t_xdb64 t_xp10)
  | 1, _ => exact lrunG L hs hW (VRL.cons (.mark _ _ hm0) (VRL.cons (.mark _ _ hm1) (VRL.nil _))) (run137 t_xdb32 t_xdb64 t_xp10)
  | 2, _ => exact lrunG L hs hW (VRL.cons (.mark _ _ hm0) (VRL.cons (.mark _ _ hm1) (VRL.nil _))) (run138 t_xdb32 t_xdb64 t_xp10)
  | 3, _ => exact lrunG L hs hW (VRL.cons (.mark _ _ hm0) (VRL.cons (.mark _ _ hm1) (VRL.nil _))) (run139 t_xdb32 t_xdb64 t_xp10)
  | 4, _ => exact lrunG L hs hW (VRL.cons (.mark _ _ hm0) (VRL.cons (.mark _ _ hm1) (VRL.nil _))) (run140 t_xdb32 t_xdb64 t_xp10)
  | 5, _ => exact lrunG L hs hW (VRL.cons (.mark _ _ hm0) (VRL.cons (.mark _ _ hm1) (VRL.nil _))) (run141 t_xdb32 t_xdb64 t_xp10)
  | 6, _ => exact lrunG L hs hW (VRL.cons (.mark _ _ hm0) (VRL.cons (.mark _ _ hm1) (VRL.nil _))) (run142 t_xdb32 t_xdb64 t_xp10)
  | 7, _ => exact lrunG L hs hW (VRL.cons (.mark _ _ hm0) (VRL.cons (.mark _ _ hm1) (VRL.nil _))) (run143 t_xdb32 t_xdb64 t_xp10)
  | k + 8, hk => exact absurd hk (by simp only [Nat.reducePow]; omega)
theorem row18 : Row 18 := fun n0 n1 hm0 W t_xdb32 t_xdb64 t_xp10 L hs hW => by
  obtain ⟨k1, hk1, hm1⟩ := mark_bits (k := 3) (by decide) n1
  match k1, hk1 with
  | 0, _ => exact lrunG L hs hW (VRL.cons (.mark _ _ hm0) (VRL.cons (.mark _ _ hm1) (VRL.nil _))) (run144 t_xdb32 t_xdb64 t_xp10)
  | 1, _ => exact lrunG L hs hW (VRL.cons (.mark _ _ hm0) (VRL.cons (.mark _ _ hm1) (VRL.nil _))) (run145 t_xdb32 t_xdb64 t_xp10)
  | 2, _ => exact lrunG L hs hW (VRL.cons (.mark _ _ hm0) (VRL.cons (.mark _ _ hm1) (VRL.nil _))) (run146 t_xdb32 t_xdb64 t_xp10)
  | 3, _ => exact lrunG L hs hW (VRL.cons (.mark _ _ hm0) (VRL.cons (.mark _ _ hm1) (VRL.nil _))) (run147 t_xdb32 t_xdb64 t_xp10)
  | 4, _ => exact lrunG L hs hW (VRL.cons (.mark _ _ hm0) (VRL.cons (.mark _ _ hm1) (VRL.nil _))) (run148 t_xdb32 t_xdb64 t_xp10)
  | 5, _ => exact lrunG L hs hW (VRL.cons (.mark _ _ hm0) (VRL.cons (.mark _ _ hm1) (VRL.nil _))) (run149 t_xdb32 t_xdb64 t_xp10)
  | 6, _ => exact lrunG L hs hW (VRL.cons (.mark _ _ hm0) (VRL.cons (.mark _ _ hm1) (VRL.nil _))) (run150 t_xdb32 t_xdb64 t_xp10)
  | 7, _ => exact lrunG L hs hW (VRL.cons (.mark _ _ hm0) (VRL.cons (.mark _ _ hm1) (VRL.nil _))) (run151 t_xdb32 t_xdb64 t_xp10)
  | k + 8, hk => exact absurd hk (by simp only [Nat.reducePow]; omega)
theorem row19 : Row 19 := fun n0 n1 hm0 W t_xdb32 t_xdb64 t_xp10 L hs hW => by
  obtain ⟨k1, hk1, hm1⟩ := mark_bits (k := 3) (by decide) n1
  match k1, hk1 with
  | 0, _ => exact lrunG L hs hW (VRL.cons (.mark _ _ hm0) (VRL.cons (.mark _ _ hm1) (VRL.nil _))) (run152 t_xdb32 t_xdb64 t_xp10)
  | 1, _ => exact lrunG L hs hW (VRL.cons (.mark _ _ hm0) (VRL.cons (.mark _ _ hm1) (VRL.nil _))) (run153 t_xdb32 t_xdb64 t_xp10)
  | 2, _ => exact lrunG L hs hW (VRL.cons (.mark _ _ hm0) (VRL.cons (.mark _ _ hm1) (VRL.nil _))) (run154 t_xdb32 t_xdb64 t_xp10)
  | 3, _ => exact lrunG L hs hW (VRL.cons (.mark _ _ hm0) (VRL.cons (.mark _ _ hm1) (VRL.nil _))) (run155 t_xdb32 t_xdb64 t_xp10)
  | 4, _ => exact lrunG L hs hW (VRL.cons (.mark _ _ hm0) (VRL.cons (.mark _ _ hm1) (VRL.nil _))) (run156 t_xdb32 t_xdb64 t_xp10)
  | 5, _ => exact lrunG L hs hW (VRL.cons (.mark _ _ hm0) (VRL.cons (.mark _ _ hm1) (VRL.nil _))) (run157 t_xdb32 t_xdb64 t_xp10)
  | 6, _ => exact lrunG L hs hW (VRL.cons (.mark _ _ hm0) (VRL.cons (.mark _ _ hm1) (VRL.nil _))) (run158 t_xdb32 t_xdb64 t_xp10)
  | 7, _ => exact lrunG L hs hW (VRL.cons (.mark _ _ hm0) (VRL.cons (.mark _ _ hm1) (VRL.nil _))) (run159 t_xdb32 t_xdb64 t_xp10)
  | k + 8, hk => exact absurd hk (by simp only [Nat.reducePow]; omega)
theorem row20 : Row 20 := fun n0 n1 hm0 W t_xdb32 t_xdb64 t_xp10 L hs hW => by
  obtain ⟨k1, hk1, hm1⟩ := mark_bits (k := 3) (by decide) n1
  match k1, hk1 with
  | 0, _ => exact lrunG L hs hW (VRL.cons (.mark _ _ hm0) (VRL.cons (.mark _ _ hm1) (VRL.nil _))) (run160 t_xdb32 t_xdb64 t_xp10)
  | 1, _ => exact lrunG L hs hW (VRL.cons (.mark _ _ hm0) (VRL.cons (.mark _ _ hm1) (VRL.nil _))) (run161 t_xdb32 t_xdb64 t_xp10)
  | 2, _ => exact lrunG L hs hW (VRL.cons (.mark _ _ hm0) (VRL.cons (.mark _ _ hm1) (VRL.nil _))) (run162 t_xdb32 t_xdb64 t_xp10)
  | 3, _ => exact lrunG L hs hW (VRL.cons (.mark _ _ hm0) (VRL.cons (.mark _ _ hm1) (VRL.nil _))) (run163 t_xdb32 t_xdb64 t_xp10)
  | 4, _ => exact lrunG L hs hW (VRL.cons (.mark _ _ hm0) (VRL.cons (.mark _ _ hm1) (VRL.nil _))) (run164 t_xdb32 t_xdb64 t_xp10)
  | 5, _ => exact lrunG L hs hW (VRL.cons (.mark _ _ hm0) (VRL.cons (.mark _ _ hm1) (VRL.nil _))) (run165 t_xdb32 t_xdb64 t_xp10)
  | 6, _ => exact lrunG L hs hW (VRL.cons (.mark _ _ hm0) (VRL.cons (.mark _ _ hm1) (VRL.nil _))) (run166 t_xdb32 t_xdb64 t_xp10)
  | 7, _ => exact lrunG L hs hW (VRL.cons (.mark _ _ hm0) (VRL.cons (.mark _ _ hm1) (VRL.nil _))) (run167 t_xdb32 t_xdb64 t_xp10)
  | k + 8, hk => exact absurd hk (by simp only [Nat.reducePow]; omega)
theorem row21 : Row 21 := fun n0 n1 hm0 W t_xdb32 t_xdb64 t_xp10 L hs hW => by
  obtain ⟨k1, hk1, hm1⟩ := mark_bits (k := 3) (by decide) n1
  match k1, hk1 with
  | 0, _ => exact lrunG L hs hW (VRL.cons (.mark _ _ hm0) (VRL.cons (.mark _ _ hm1) (VRL.nil _))) (run168 t_xdb32 t_xdb64 t_xp10)
  | 1, _ => exact lrunG L hs hW (VRL.cons (.mark _ _ hm0) (VRL.cons (.mark _ _ hm1) (VRL.nil _))) (run169 t_xdb32 t_xdb64 t_xp10)
  | 2, _ => exact lrunG L hs hW (VRL.cons (.mark _ _ hm0) (VRL.cons (.mark _ _ hm1) (VRL.nil _))) (run170 t_xdb32 t_xdb64 t_xp10)
  | 3, _ => exact lrunG L hs hW (VRL.cons (.mark _ _ hm0) (VRL.cons (.mark _ _ hm1) (VRL.nil _))) (run171 t_xdb32 t_xdb64 t_xp10)
  | 4, _ => exact lrunG L hs hW (VRL.cons (.mark _ _ hm0) (VRL.cons (.mark _ _ hm1) (VRL.nil _))) (run172 t_xdb32 t_xdb64 t_xp10)
  | 5, _ => exact lrunG L hs hW (VRL.cons (.mark _ _ hm0) (VRL.cons (.mark _ _ hm1) (VRL.nil _))) (run173 t_xdb32 t_xdb64 t_xp10)
  | 6, _ => exact lrunG L hs hW (VRL.cons (.mark _ _ hm0) (VRL.cons (.mark _ _ hm1) (VRL.nil _))) (run174 t_xdb32 t_xdb64 t_xp10)
  | 7, _ => exact lrunG L hs hW (VRL.cons (.mark _ _ hm0) (VRL.cons (.mark _ _ hm1) (VRL.nil _))) (run175 t_xdb32 t_xdb64 t_xp10)
  | k + 8, hk => exact absurd hk (by simp only [Nat.reducePow]; omega)
theorem row22 : Row 22 := fun n0 n1 hm0 W t_xdb32 t_xdb64 t_xp10 L hs hW => by
  obtain ⟨k1, hk1, hm1⟩ := mark_bits (k := 3) (by decide) n1
  match k1, hk1 with
  | 0, _ => exact lrunG L hs hW (VRL.cons (.mark _ _ hm0) (VRL.cons (.mark _ _ hm1) (VRL.nil _))) (run176 t_xdb32 t_xdb64 t_xp10)
  | 1, _ => exact lrunG L hs hW (VRL.cons (.mark _ _ hm0) (VRL.cons (.mark _ _ hm1) (VRL.nil _))) (run177 t_xdb32 t_xdb64 t_xp10)
  | 2, _ => exact lrunG L hs hW (VRL.cons (.mark _ _ hm0) (VRL.cons (.mark _ _ hm1) (VRL.nil _))) (run178 t_xdb32 t_xdb64 t_xp10)
  | 3, _ => exact lrunG L hs hW (VRL.cons (.mark _ _ hm0) (VRL.cons (.mark _ _ hm1) (VRL.nil _))) (run179 t_xdb32 t_xdb64 t_xp10)
  | 4, _ => exact lrunG L hs hW (VRL.cons (.mark _ _ hm0) (VRL.cons (.mark _ _ hm1) (VRL.nil _))) (run180 t_xdb32 t_xdb64 t_xp10)
  | 5, _ => exact lrunG L hs hW (VRL.cons (.mark _ _ hm0) (VRL.cons (.mark _ _ hm1) (VRL.nil _))) (run181 t_xdb32 t_xdb64 t_xp10)
  | 6, _ => exact lrunG L hs hW (VRL.cons (.mark _ _ hm0) (VRL.cons (.mark _ _ hm1) (VRL.nil _))) (run182 t_xdb32 t_xdb64 t_xp10)
  | 7, _ => exact lrunG L hs hW (VRL.cons (.mark _ _ hm0) (VRL.cons (.mark _ _ hm1) (VRL.nil _))) (run183 t_xdb32 t_xdb64 t_xp10)
  | k + 8, hk => exact absurd hk (by simp only [Nat.reducePow]; omega)
theorem row23 : Row 23 := fun n0 n1 hm0 W t_xdb32 t_xdb64 t_xp10 L hs hW => by
  obtain ⟨k1, hk1, hm1⟩ := mark_bits (k := 3) (by decide) n1
  match k1, hk1 with
  | 0, _ => exact lrunG L hs hW (VRL.cons (.mark _ _ hm0) (VRL.cons (.mark _ _ hm1) (VRL.nil _))) (run184 t_xdb32 t_xdb64 t_xp10)
  | 1, _ => exact lrunG L hs hW (VRL.cons (.mark _ _ hm0) (VRL.cons (.mark _ _ hm1) (VRL.nil _))) (run185 t_xdb32 t_xdb64 t_xp10)
  | 2, _ => exact lrunG L hs hW (VRL.cons (.mark _ _ hm0) (VRL.cons (.mark _ _ hm1) (VRL.nil _))) (run186 t_xdb32 t_xdb64 t_xp10)
  | 3, _ => exact lrunG L hs hW (VRL.cons (.mark _ _ hm0) (VRL.cons (.mark _ _ hm1) (VRL.nil _))) (run187 t_xdb32 t_xdb64 t_xp10)
  | 4, _ => exact lrunG L hs hW (VRL.cons (.mark _ _ hm0) (VRL.cons (.mark _ _ hm1) (VRL.nil _))) (run188 t_xdb32 t_xdb64 t_xp10)
  | 5, _ => exact lrunG L hs hW (VRL.cons (.mark _ _ hm0) (VRL.cons (.mark _ _ hm1) (VRL.nil _))) (run189 t_xdb32 t_xdb64 t_xp10)
  | 6, _ => exact lrunG L hs hW (VRL.cons (.mark _ _ hm0) (VRL.cons (.mark _ _ hm1) (VRL.nil _))) (run190 t_xdb32 t_xdb64 t_xp10)
  | 7, _ => exact lrunG L hs hW (VRL.cons (.mark _ _ hm0) (VRL.cons (.mark _ _ hm1) (VRL.nil _))) (run191 t_xdb32 t_xdb64 t_xp10)
  | k + 8, hk => exact absurd hk (by simp only [Nat.reducePow]; omega)
theorem row24 : Row 24 := fun n0 n1 hm0 W t_xdb32 t_xdb64 t_xp10 L hs hW => by
  obtain ⟨k1, hk1, hm1⟩ := mark_bits (k := 3) (by decide) n1
  match k1, hk1 with
  | 0, _ => exact lrunG L hs hW (VRL.cons (.mark _ _ hm0) (VRL.cons (.mark _ _ hm1) (VRL.nil _))) (run192 t_xdb32 t_xdb64 t_xp10)
  | 1, _ => exact lrunG L hs hW (VRL.cons (.mark _ _ hm0) (VRL.cons (.mark _ _ hm1) (VRL.nil _))) (run193 t_xdb32 t_xdb64 t_xp10)
  | 2, _ => exact lrunG L hs hW (VRL.cons (.mark _ _ hm0) (VRL.cons (.mark _ _ hm1) (VRL.nil _))) (run194 t_xdb32 t_xdb64 t_xp10)
  | 3, _ => exact lrunG L hs hW (VRL.cons (.mark _ _ hm0) (VRL.cons (.mark _ _ hm1) (VRL.nil _))) (run195 t_xdb32 t_xdb64 t_xp10)
  | 4, _ => exact lrunG L hs hW (VRL.cons (.mark _ _ hm0) (VRL.cons (.mark _ _ hm1) (VRL.nil _))) (run196 t_xdb32 t_xdb64 t_xp10)
  | 5, _ => exact lrunG L hs hW (VRL.cons (.mark _ _ hm0) (VRL.cons (.mark _ _ hm1) (VRL.nil _))) (run197 t_xdb32 t_xdb64 t_xp10)
  | 6, _ => exact lrunG L hs hW (VRL.cons (.mark _ _ hm0) (VRL.cons (.mark _ _ hm1) (VRL.nil _))) (run198 t_xdb32 t_xdb64 t_xp10)
  | 7, _ => exact lrunG L hs hW (VRL.cons (.mark _ _ hm0) (VRL.cons (.mark _ _ hm1) (VRL.nil _))) (run199 t_xdb32 t_xdb64 t_xp10)
  | k + 8, hk => exact absurd hk (by simp only [Nat.reducePow]; omega)
theorem row25 : Row 25 := fun n0 n1 hm0 W t_xdb32 t_xdb64 t_xp10 L hs hW => by
  obtain ⟨k1, hk1, hm1⟩ := mark_bits (k := 3) (by decide) n1
  match k1, hk1 with
  | 0, _ => exact lrunG L hs hW (VRL.cons (.mark _ _ hm0) (VRL.cons (.mark _ _ hm1) (VRL.nil _))) (run200 t_xdb32 t_xdb64 t_xp10)
  | 1, _ => exact lrunG L hs hW (VRL.cons (.mark _ _ hm0) (VRL.cons (.mark _ _ hm1) (VRL.nil _))) (run201 t_xdb32 t_xdb64 t_xp10)
  | 2, _ => exact lrunG L hs hW (VRL.cons (.mark _ _ hm0) (VRL.cons (.mark _ _ hm1) (VRL.nil _))) (run202 t_xdb32 t_xdb64 t_xp10)
  | 3, _ => exact lrunG L hs hW (VRL.cons (.mark _ _ hm0) (VRL.cons (.mark _ _ hm1) (VRL.nil _))) (run203 t_xdb32 t_xdb64 t_xp10)
  | 4, _ => exact lrunG L hs hW (VRL.cons (.mark _ _ hm0) (VRL.cons (.mark _ _ hm1) (VRL.nil _))) (run204 t_xdb32 t_xdb64 t_xp10)
  | 5, _ => exact lrunG L hs hW (VRL.cons (.mark _ _ hm0) (VRL.cons (.mark _ _ hm1) (VRL.nil _))) (run205 t_xdb32 t_xdb64 t_xp10)
  | 6, _ => exact lrunG L hs hW (VRL.cons (.mark _ _ hm0) (VRL.cons (.mark _ _ hm1) (VRL.nil _))) (run206 t_xdb32 t_xdb64 t_xp10)
  | 7, _ => exact lrunG L hs hW (VRL.cons (.mark _ _ hm0) (VRL.cons (.mark _ _ hm1) (VRL.nil _))) (run207 t_xdb32 t_xdb64 t_xp10)
  | k + 8, hk => exact absurd hk (by simp only [Nat.reducePow]; omega)
theorem row26 : Row 26 := fun n0 n1 hm0 W t_xdb32 t_xdb64 t_xp10 L hs hW => by
  obtain ⟨k1, hk1, hm1⟩ := mark_bits (k := 3) (by decide) n1
  match k1, hk1 with
  | 0, _ => exact lrunG L hs hW (VRL.cons (.mark _ _ hm0) (VRL.cons (.mark _ _ hm1) (VRL.nil _))) (run208 t_xdb32 t_xdb64 t_xp10)
  | 1, _ => exact lrunG L hs hW (VRL.cons (.mark _ _ hm0) (VRL.cons (.mark _ _ hm1) (VRL.nil _))) (run209 t_xdb32 t_xdb64 t_xp10)
  | 2, _ => exact lrunG L hs hW (VRL.cons (.mark _ _ hm0) (VRL.cons (.mark _ _ hm1) (VRL.nil _))) (run210 t_xdb32 t_xdb64 t_xp10)
  | 3, _ => exact lrunG L hs hW (VRL.cons (.mark _ _ hm0) (VRL.cons (.mark _ _ hm1) (VRL.nil _))) (run211 t_xdb32 t_xdb64 t_xp10)
  | 4, _ => exact lrunG L hs hW (VRL.cons (.mark _ _ hm0) (VRL.cons (.mark _ _ hm1) (VRL.nil _))) (run212 t_xdb32 t_xdb64 t_xp10)
  | 5, _ => exact lrunG L hs hW (VRL.cons (.mark _ _ hm0) (VRL.cons (.mark _ _ hm1) (VRL.nil _))) (run213 t_xdb32 t_xdb64 t_xp10)
  | 6, _ => exact lrunG L hs hW (VRL.cons (.mark _ _ hm0) (VRL.cons (.mark _ _ hm1) (VRL.nil _))) (run214 t_xdb32 t_xdb64 t_xp10)
  | 7, _ => exact lrunG L hs hW (VRL.cons (.mark _ _ hm0) (VRL.cons (.mark _ _ hm1) (VRL.nil _))) (run215 t_xdb32 t_xdb64 t_xp10)
  | k + 8, hk => exact absurd hk (by simp only [Nat.reducePow]; omega)
theorem row27 : Row 27 := fun n0 n1 hm0 W t_xdb32 t_xdb64 t_xp10 L hs hW => by
  obtain ⟨k1, hk1, hm1⟩ := mark_bits (k := 3) (by decide) n1
  match k1, hk1 with
  | 0, _ => exact lrunG L hs hW (VRL.cons (.mark _ _ hm0) (VRL.cons (.mark _ _ hm1) (VRL.nil _))) (run216 t_xdb32 t_xdb64 t_xp10)
  | 1, _ => exact lrunG L hs hW (VRL.cons (.mark _ _ hm0) (VRL.cons (.mark _ _ hm1) (VRL.nil _))) (run217 t_xdb32 t_xdb64 t_xp10)
  | 2, _ => exact lrunG L hs hW (VRL.cons (.mark _ _ hm0) (VRL.cons (.mark _ _ hm1) (VRL.nil _))) (run218 t_xdb32 t_xdb64 t_xp10)
  | 3, _ => exact lrunG L hs hW (VRL.cons (.mark _ _ hm0) (VRL.cons (.mark _ _ hm1) (VRL.nil _))) (run219 t_xdb32 t_xdb64 t_xp10)
  | 4, _ => exact lrunG L hs hW (VRL.cons (.mark _ _ hm0) (VRL.cons (.mark _ _ hm1) (VRL.nil _))) (run220 t_xdb32 t_xdb64 t_xp10)
  | 5, _ => exact lrunG L hs hW (VRL.cons (.mark _ _ hm0) (VRL.cons (.mark _ _ hm1) (VRL.nil _))) (run221 t_xdb32 t_xdb64 t_xp10)
  | 6, _ => exact lrunG L hs hW (VRL.cons (.mark _ _ hm0) (VRL.cons (.mark _ _ hm1) (VRL.nil _))) (run222 t_xdb32 t_xdb64 t_xp10)
  | 7, _ => exact lrunG L hs hW (VRL.cons (.mark _ _ hm0) (VRL.cons (.mark _ _ hm1) (VRL.nil _))) (run223 t_xdb32 t_xdb64 t_xp10)
  | k + 8, hk => exact absurd hk (by simp only [Nat.reducePow]; omega)
theorem row28 : Row 28 := fun n0 n1 hm0 W t_xdb32 t_xdb64 t_xp10 L hs hW => by
  obtain ⟨k1, hk1, hm1⟩ := mark_bits (k := 3) (by decide) n1
  match k1, hk1 with
  | 0, _ => exact lrunG L hs hW (VRL.cons (.mark _ _ hm0) (VRL.cons (.mark _ _ hm1) (VRL.nil _))) (run224 t_xdb32 t_xdb64 t_xp10)
  | 1, _ => exact lrunG L hs hW (VRL.cons (.mark _ _ hm0) (VRL.cons (.mark _ _ hm1) (VRL.nil _))) (run225 t_xdb32 t_xdb64 t_xp10)
  | 2, _ => exact lrunG L hs hW (VRL.cons (.mark _ _ hm0) (VRL.cons (.mark _ _ hm1) (VRL.nil _))) (run226 t_xdb32 t_xdb64 t_xp10)
  | 3, _ => exact lrunG L hs hW (VRL.cons (.mark _ _ hm0) (VRL.cons (.mark _ _ hm1) (VRL.nil _))) (run227 t_xdb32 t_xdb64 t_xp10)
  | 4, _ => exact lrunG L hs hW (VRL.cons (.mark _ _ hm0) (VRL.cons (.mark _ _ hm1) (VRL.nil _))) (run228 t_xdb32 t_xdb64 t_xp10)
  | 5, _ => exact lrunG L hs hW (VRL.cons (.mark _ _ hm0) (VRL.cons (.mark _ _ hm1) (VRL.nil _))) (run229 t_xdb32 t_xdb64 t_xp10)
  | 6, _ => exact lrunG L hs hW (VRL.cons (.mark _ _ hm0) (VRL.cons (.mark _ _ hm1) (VRL.nil _))) (run230 t_xdb32 t_xdb64 t_xp10)
  | 7, _ => exact lrunG L hs hW (VRL.cons (.mark _ _ hm0) (VRL.cons (.mark _ _ hm1) (VRL.nil _))) (run231 t_xdb32 t_xdb64 t_xp10)
  | k + 8, hk => exact absurd hk (by simp only [Nat.reducePow]; omega)
theorem row29 : Row 29 := fun n0 n1 hm0 W t_xdb32 t_xdb64 t_xp10 L hs hW => by
  obtain ⟨k1, hk1, hm1⟩ := mark_bits (k := 3) (by decide) n1
  match k1, hk1 with
  | 0, _ => exact lrunG L hs hW (VRL.cons (.mark _ _ hm0) (VRL.cons (.mark _ _ hm1) (VRL.nil _))) (run232 t_xdb32 t_xdb64 t_xp10)
  | 1, _ => exact lrunG L hs hW (VRL.cons (.mark _ _ hm0) (VRL.cons (.mark _ _ hm1) (VRL.nil _))) (run233 t_xdb32 t_xdb64 t_xp10)
  | 2, _ => exact lrunG L hs hW (VRL.cons (.mark _ _ hm0) (VRL.cons (.mark _ _ hm1) (VRL.nil _))) (run234 t_xdb32 t_xdb64 t_xp10)
  | 3, _ => exact lrunG L hs hW (VRL.cons (.mark _ _ hm0) (VRL.cons (.mark _ _ hm1) (VRL.nil _))) (run235 t_xdb32 t_xdb64 t_xp10)
  | 4, _ => exact lrunG L hs hW (VRL.cons (.mark _ _ hm0) (VRL.cons (.mark _ _ hm1) (VRL.nil _))) (run236 t_xdb32 t_xdb64 t_xp10)
  | 5, _ => exact lrunG L hs hW (VRL.cons (.mark _ _ hm0) (VRL.cons (.mark _ _ hm1) (VRL.nil _))) (run237 t_xdb32 t_xdb64 t_xp10)
  | 6, _ => exact lrunG L hs hW (VRL.cons (.mark _ _ hm0) (VRL.cons (.mark _ _ hm1) (VRL.nil _))) (run238 t_xdb32 t_xdb64 t_xp10)
  | 7, _ => exact lrunG L hs hW (VRL.cons (.mark _ _ hm0) (VRL.cons (.mark _ _ hm1) (VRL.nil _))) (run239 t_xdb32 t_xdb64 t_xp10)
  | k + 8, hk => exact absurd hk (by simp only [Nat.reducePow]; omega)
theorem row30 : Row 30 := fun n0 n1 hm0 W t_xdb32 t_xdb64 t_xp10 L hs hW => by
  obtain ⟨k1, hk1, hm1⟩ := mark_bits (k := 3) (by decide) n1
  match k1, hk1 with
  | 0, _ => exact lrunG L hs hW (VRL.cons (.mark _ _ hm0) (VRL.cons (.mark _ _ hm1) (VRL.nil _))) (run240 t_xdb32 t_xdb64 t_xp10)
  | 1, _ => exact lrunG L hs hW (VRL.cons (.mark _ _ hm0) (VRL.cons (.mark _ _ hm1) (VRL.nil _))) (run241 t_xdb32 t_xdb64 t_xp10)
  | 2, _ => exact lrunG L hs hW (VRL.cons (.mark _ _ hm0) (VRL.cons (.mark _ _ hm1) (VRL.nil _))) (run242 t_xdb32 t_xdb64 t_xp10)
  | 3, _ => exact lrunG L hs hW (VRL.cons (.mark _ _ hm0) (VRL.cons (.mark _ _ hm1) (VRL.nil _))) (run243 t_xdb32 t_xdb64 t_xp10)
  | 4, _ => exact lrunG L hs hW (VRL.cons (.mark _ _ hm0) (VRL.cons (.mark _ _ hm1) (VRL.nil _))) (run244 t_xdb32 t_xdb64 t_xp10)
  | 5, _ => exact lrunG L hs hW (VRL.cons (.mark _ _ hm0) (VRL.cons (.mark _ _ hm1) (VRL.nil _))) (run245 t_xdb32 t_xdb64 t_xp10)
  | 6, _ => exact lrunG L hs hW (VRL.cons (.mark _ _ hm0) (VRL.cons (.mark _ _ hm1) (VRL.nil _))) (run246 t_xdb32 t_xdb64 t_xp10)
  | 7, _ => exact lrunG L hs hW (VRL.cons (.mark _ _ hm0) (VRL.cons (.mark _ _ hm1) (VRL.nil _))) (run247 t_xdb32 t_xdb64 t_xp10)
  | k + 8, hk => exact absurd hk (by simp only [Nat.reducePow]; omega)
theorem row31 : Row 31 := fun n0 n1 hm0 W t_xdb32 t_xdb64 t_xp10 L hs hW => by
  obtain ⟨k1, hk1, hm1⟩ := mark_bits (k := 3) (by decide) n1
  match k1, hk1 with
  | 0, _ => exact lrunG L hs hW (VRL.cons (.mark _ _ hm0) (VRL.cons (.mark _ _ hm1) (VRL.nil _))) (run248 t_xdb32 t_xdb64 t_xp10)
  | 1, _ => exact lrunG L hs hW (VRL.cons (.mark _ _ hm0) (VRL.cons (.mark _ _ hm1) (VRL.nil _))) (run249 t_xdb32 t_xdb64 t_xp10)
  | 2, _ => exact lrunG L hs hW (VRL.cons (.mark _ _ hm0) (VRL.cons (.mark _ _ hm1) (VRL.nil _))) (run250 t_xdb32 t_xdb64 t_xp10)
  | 3, _ => exact lrunG L hs hW (VRL.cons (.mark _ _ hm0) (VRL.cons (.mark _ _ hm1) (VRL.nil _))) (run251 t_xdb32 t_xdb64 t_xp10)
  | 4, _ => exact lrunG L hs hW (VRL.cons (.mark _ _ hm0) (VRL.cons (.mark _ _ hm1) (VRL.nil _))) (run252 t_xdb32 t_xdb64 t_xp10)
  | 5, _ => exact lrunG L hs hW (VRL.cons (.mark _ _ hm0) (VRL.cons (.mark _ _ hm1) (VRL.nil _))) (run253 t_xdb32 t_xdb64 t_xp10)
  | 6, _ => exact lrunG L hs hW (VRL.cons (.mark _ _ hm0) (VRL.cons (.mark _ _ hm1) (VRL.nil _))) (run254 t_xdb32 t_xdb64 t_xp10)
  | 7, _ => exact lrunG L hs hW (VRL.cons (.mark _ _ hm0) (VRL.cons (.mark _ _ hm1) (VRL.nil _))) (run255 t_xdb32 t_xdb64 t_xp10)
  | k + 8, hk => exact absurd hk (by simp only [Nat.reducePow]; omega)
theorem row32 : Row 32 := fun n0 n1 hm0 W t_xdb32 t_xdb64 t_xp10 L hs hW => by
  obtain ⟨k1, hk1, hm1⟩ := mark_bits (k := 3) (by decide) n1
  match k1, hk1 with
  | 0, _ => exact lrunG L hs hW (VRL.cons (.mark _ _ hm0) (VRL.cons (.mark _ _ hm1) (VRL.nil _))) (run256 t_xdb32 t_xdb64 t_xp10)
  | 1, _ => exact lrunG L hs hW (VRL.cons (.mark _ _ hm0) (VRL.cons (.mark _ _ hm1) (VRL.nil _))) (run257 t_xdb32 t_xdb64 t_xp10)
  | 2, _ => exact lrunG L hs hW (VRL.cons (.mark _ _ hm0) (VRL.cons (.mark _ _ hm1) (VRL.nil _))) (run258 t_xdb32 t_xdb64 t_xp10)
  | 3, _ => exact lrunG L hs hW (VRL.cons (.mark _ _ hm0) (VRL.cons (.mark _ _ hm1) (VRL.nil _))) (run259 t_xdb32 t_xdb64 t_xp10)
  | 4, _ => exact lrunG L hs hW (VRL.cons (.mark _ _ hm0) (VRL.cons (.mark _ _ hm1) (VRL.nil _))) (run260 t_xdb32 t_xdb64 t_xp10)
  | 5, _ => exact lrunG L hs hW (VRL.cons (.mark _ _ hm0) (VRL.cons (.mark _ _ hm1) (VRL.nil _))) (run261 t_xdb32 t_xdb64 t_xp10)
  | 6, _ => exact lrunG L hs hW (VRL.cons (.mark _ _ hm0) (VRL.cons (.mark _ _ hm1) (VRL.nil _))) (run262 t_xdb32 t_xdb64 t_xp10)
  | 7, _ => exact lrunG L hs hW (VRL.cons (.mark _ _ hm0) (VRL.cons (.mark _ _ hm1) (VRL.nil _))) (run263 t_xdb32 t_xdb64 t_xp10)
  | k + 8, hk => exact absurd hk (by simp only [Nat.reducePow]; omega)
theorem row33 : Row 33 := fun n0 n1 hm0 W t_xdb32 t_xdb64 t_xp10 L hs hW => by
  obtain ⟨k1, hk1, hm1⟩ := mark_bits (k := 3) (by decide) n1
  match k1, hk1 with
  | 0, _ => exact lrunG L hs hW (VRL.cons (.mark _ _ hm0) (VRL.cons (.mark _ _ hm1) (VRL.nil _))) (run264 t_xdb32 t_xdb64 t_xp10)
  | 1, _ => exact lrunG L hs hW (VRL.cons (.mark _ _ hm0) (VRL.cons (.mark _ _ hm1) (VRL.nil _))) (run265 t_xdb32 t_xdb64 t_xp10)
  | 2, _ => exact lrunG L hs hW (VRL.cons (.mark _ _ hm0) (VRL.cons (.mark _ _ hm1) (VRL.nil _))) (run266 t_xdb32 t_xdb64 t_xp10)
  | 3, _ => exact lrunG L hs hW (VRL.cons (.mark _ _ hm0) (VRL.cons (.mark _ _ hm1) (VRL.nil _))) (run267 t_xdb32 t_xdb64 t_xp10)
  | 4, _ => exact lrunG L hs hW (VRL.cons (.mark _ _ hm0) (VRL.cons (.mark _ _ hm1) (VRL.nil _))) (run268 t_xdb32 t_xdb64 t_xp10)
  | 5, _ => exact lrunG L hs hW (VRL.cons (.mark _ _ hm0) (VRL.cons (.mark _ _ hm1) (VRL.nil _))) (run269 t_xdb32 t_xdb64 t_xp10)
  | 6, _ => exact lrunG L hs hW (VRL.cons (.mark _ _ hm0) (VRL.cons (.mark _ _ hm1) (VRL.nil _))) (run270 t_xdb32 t_xdb64 t_xp10)
  | 7, _ => exact lrunG L hs hW (VRL.cons (.mark _ _ hm0) (VRL.cons (.mark _ _ hm1) (VRL.nil _))) (run271 t_xdb32 t_xdb64 t_xp10)
  | k + 8, hk => exact absurd hk (by simp only [Nat.reducePow]; omega)
theorem row34 : Row 34 := fun n0 n1 hm0 W t_xdb32 t_xdb64 t_xp10 L hs hW => by
  obtain ⟨k1, hk1, hm1⟩ := mark_bits (k := 3) (by decide) n1
  match k1, hk1 with
  | 0, _ => exact lrunG L hs hW (VRL.cons (.mark _ _ hm0) (VRL.cons (.mark _ _ hm1) (VRL.nil _))) (run272 t_xdb32 t_xdb64 t_xp10)
  | 1, _ => exact lrunG L hs hW (VRL.cons (.mark _ _ hm0) (VRL.cons (.mark _ _ hm1) (VRL.nil _))) (run273 t_xdb32 t_xdb64 t_xp10)
  | 2, _ => exact lrunG L hs hW (VRL.cons (.mark _ _ hm0) (VRL.cons (.mark _ _ hm1) (VRL.nil _))) (run274 t_xdb32 t_xdb64 t_xp10)
  | 3, _ => exact lrunG L hs hW (VRL.cons (.mark _ _ hm0) (VRL.cons (.mark _ _ hm1) (VRL.nil _))) (run275 t_xdb32 t_xdb64 t_xp10)
  | 4, _ => exact lrunG L hs hW (VRL.cons (.mark _ _ hm0) (VRL.cons (.mark _ _ hm1) (VRL.nil _))) (run276 t_xdb32 t_xdb64 t_xp10)
  | 5, _ => exact lrunG L hs hW (VRL.cons (.mark _ _ hm0) (VRL.cons (.mark _ _ hm1) (VRL.nil _))) (run277 t_xdb32 t_xdb64 t_xp10)
  | 6, _ => exact lrunG L hs hW (VRL.cons (.mark _ _ hm0) (VRL.cons (.mark _ _ hm1) (VRL.nil _))) (run278 t_xdb32 t_xdb64 t_xp10)
  | 7, _ => exact lrunG L hs hW (VRL.cons (.mark _ _ hm0) (VRL.cons (.mark _ _ hm1) (VRL.nil _))) (run279 t_xdb32 t_xdb64 t_xp10)
  | k + 8, hk => exact absurd hk (by simp only [Nat.reducePow]; omega)
theorem row35 : Row 35 := fun n0 n1 hm0 W t_xdb32 t_xdb64 t_xp10 L hs hW => by
  obtain ⟨k1, hk1, hm1⟩ := mark_bits (k := 3) (by decide) n1
  match k1, hk1 with
  | 0, _ => exact lrunG L hs hW (VRL.cons (.mark _ _ hm0) (VRL.cons (.mark _ _ hm1) (VRL.nil _))) (run280 t_xdb32 t_xdb64 t_xp10)
  | 1, _ => exact lrunG L hs hW (VRL.cons (.mark _ _ hm0) (VRL.cons (.mark _ _ hm1) (VRL.nil _))) (run281 t_xdb32 t_xdb64 t_xp10)
  | 2, _ => exact lrunG L hs hW (VRL.cons (.mark _ _ hm0) (VRL.cons (.mark _ _ hm1) (VRL.nil _))) (run282 t_xdb32 t_xdb64 t_xp10)
  | 3, _ => exact lrunG L hs hW (VRL.cons (.mark _ _ hm0) (VRL.cons (.mark _ _ hm1) (VRL.nil _))) (run283 t_xdb32 t_xdb64 t_xp10)
  | 4, _ => exact lrunG L hs hW (VRL.cons (.mark _ _ hm0) (VRL.cons (.mark _ _ hm1) (VRL.nil _))) (run284 t_xdb32 t_xdb64 t_xp10)
  | 5, _ => exact lrunG L hs hW (VRL.cons (.mark _ _ hm0) (VRL.cons (.mark _ _ hm1) (VRL.nil _))) (run285 t_xdb32 t_xdb64 t_xp10)
  | 6, _ => exact lrunG L hs hW (VRL.cons (.mark _ _ hm0) (VRL.cons (.mark _ _ hm1) (VRL.nil _))) (run286 t_xdb32 t_xdb64 t_xp10)
  | 7, _ => exact lrunG L hs hW (VRL.cons (.mark _ _ hm0) (VRL.cons (.mark _ _ hm1) (VRL.nil _))) (run287 t_xdb32 t_xdb64 t_xp10)
  | k + 8, hk => exact absurd hk (by simp only [Nat.reducePow]; omega)
theorem row36 : Row 36 := fun n0 n1 hm0 W t_xdb32 t_xdb64 t_xp10 L hs hW => by
  obtain ⟨k1, hk1, hm1⟩ := mark_bits (k := 3) (by decide) n1
  match k1, hk1 with
  | 0, _ => exact lrunG L hs hW (VRL.cons (.mark _ _ hm0) (VRL.cons (.mark _ _ hm1) (VRL.nil _))) (run288 t_xdb32 t_xdb64 t_xp10)
  | 1, _ => exact lrunG L hs hW (VRL.cons (.mark _ _ hm0) (VRL.cons (.mark _ _ hm1) (VRL.nil _))) (run289 t_xdb32 t_xdb64 t_xp10)
  | 2, _ => exact lrunG L hs hW (VRL.cons (.mark _ _ hm0) (VRL.cons (.mark _ _ hm1) (VRL.nil _))) (run290 t_xdb32 t_xdb64 t_xp10)
  | 3, _ => exact lrunG L hs hW (VRL.cons (.mark _ _ hm0) (VRL.cons (.mark _ _ hm1) (VRL.nil _))) (run291 t_xdb32 t_xdb64 t_xp10)
  | 4, _ => exact lrunG L hs hW (VRL.cons (.mark _ _ hm0) (VRL.cons (.mark _ _ hm1) (VRL.nil _))) (run292 t_xdb32 t_xdb64 t_xp10)
  | 5, _ => exact lrunG L hs hW (VRL.cons (.mark _ _ hm0) (VRL.cons (.mark _ _ hm1) (VRL.nil _))) (run293 t_xdb32 t_xdb64 t_xp10)
  | 6, _ => exact lrunG L hs hW (VRL.cons (.mark _ _ hm0) (VRL.cons (.mark _ _ hm1) (VRL.nil _))) (run294 t_xdb32 t_xdb64 t_xp10)
  | 7, _ => exact lrunG L hs hW (VRL.cons (.mark _ _ hm0) (VRL.cons (.mark _ _ hm1) (VRL.nil _))) (run295 t_xdb32 t_xdb64 t_xp10)
  | k + 8, hk => exact absurd hk (by simp only [Nat.reducePow]; omega)
theorem row37 : Row 37 := fun n0 n1 hm0 W t_xdb32 t_xdb64 t_xp10 L hs hW => by
  obtain ⟨k1, hk1, hm1⟩ := mark_bits (k := 3) (by decide) n1
  match k1, hk1 with
  | 0, _ => exact lrunG L hs hW (VRL.cons (.mark _ _ hm0) (VRL.cons (.mark _ _ hm1) (VRL.nil _))) (run296 t_xdb32 t_xdb64 t_xp10)
  | 1, _ => exact lrunG L hs hW (VRL.cons (.mark _ _ hm0) (VRL.cons (.mark _ _ hm1) (VRL.nil _))) (run297 t_xdb32 t_xdb64 t_xp10)
  | 2, _ => exact lrunG L hs hW (VRL.cons (.mark _ _ hm0) (VRL.cons (.mark _ _ hm1) (VRL.nil _))) (run298 t_xdb32 t_xdb64 t_xp10)
  | 3, _ => exact lrunG L hs hW (VRL.cons (.mark _ _ hm0) (VRL.cons (.mark _ _ hm1) (VRL.nil _))) (run299 t_xdb32 t_xdb64 t_xp10)
  | 4, _ => exact lrunG L hs hW (VRL.cons (.mark _ _ hm0) (VRL.cons (.mark _ _ hm1) (VRL.nil _))) (run300 t_xdb32 t_xdb64 t_xp10)
  | 5, _ => exact lrunG L hs hW (VRL.cons (.mark _ _ hm0) (VRL.cons (.mark _ _ hm1) (VRL.nil _))) (run301 t_xdb32 t_xdb64 t_xp10)
  | 6, _ => exact lrunG L hs hW (VRL.cons (.mark _ _ hm0) (VRL.cons (.mark _ _ hm1) (VRL.nil _))) (run302 t_xdb32 t_xdb64 t_xp10)
  | 7, _ => exact lrunG L hs hW (VRL.cons (.mark _ _ hm0) (VRL.cons (.mark _ _ hm1) (VRL.nil _))) (run303 t_xdb32 t_xdb64 t_xp10)
  | k + 8, hk => exact absurd hk (by simp only [Nat.reducePow]; omega)
theorem row38 : Row 38 := fun n0 n1 hm0 W t_xdb32 t_xdb64 t_xp10 L hs hW => by
  obtain ⟨k1, hk1, hm1⟩ := mark_bits (k := 3) (by decide) n1
  match k1, hk1 with
  | 0, _ => exact lrunG L hs hW (VRL.cons (.mark _ _ hm0) (VRL.cons (.mark _ _ hm1) (VRL.nil _))) (run304 t_xdb32 t_xdb64 t_xp10)
  | 1, _ => exact lrunG L hs hW (VRL.cons (.mark _ _ hm0) (VRL.cons (.mark _ _ hm1) (VRL.nil _))) (run305 t_xdb32 t_xdb64 t_xp10)
  | 2, _ => exact lrunG L hs hW (VRL.cons (.mark _ _ hm0) (VRL.cons (.mark _ _ hm1) (VRL.nil _))) (run306 t_xdb32 t_xdb64 t_xp10)
  | 3, _ => exact lrunG L hs hW (VRL.cons (.mark _ _ hm0) (VRL.cons (.mark _ _ hm1) (VRL.nil _))) (run307 t_xdb32 t_xdb64 t_xp10)
  | 4, _ => exact lrunG L hs hW (VRL.cons (.mark _ _ hm0) (VRL.cons (.mark _ _ hm1) (VRL.nil _))) (run308 t_xdb32 t_xdb64 t_xp10)
  | 5, _ => exact lrunG L hs hW (VRL.cons (.mark _ _ hm0) (VRL.cons (.mark _ _ hm1) (VRL.nil _))) (run309 t_xdb32 t_xdb64 t_xp10)
  | 6, _ => exact lrunG L hs hW (VRL.cons (.mark _ _ hm0) (VRL.cons (.mark _ _ hm1) (VRL.nil _))) (run310 t_xdb32 t_xdb64 t_xp10)
  | 7, _ => exact lrunG L hs hW (VRL.cons (.mark _ _ hm0) (VRL.cons (.mark _ _ hm1) (VRL.nil _))) (run311 t_xdb32 t_xdb64 t_xp10)
  | k + 8, hk => exact absurd hk (by simp only [Nat.reducePow]; omega)
theorem row39 : Row 39 := fun n0 n1 hm0 W t_xdb32 t_xdb64 t_xp10 L hs hW => by
  obtain ⟨k1, hk1, hm1⟩ := mark_bits (k := 3) (by decide) n1
  match k1, hk1 with
  | 0, _ => exact lrunG L hs hW (VRL.cons (.mark _ _ hm0) (VRL.cons (.mark _ _ hm1) (VRL.nil _))) (run312 t_xdb32 t_xdb64 t_xp10)
  | 1, _ => exact lrunG L hs hW (VRL.cons (.mark _ _ hm0) (VRL.cons (.mark _ _ hm1) (VRL.nil _))) (run313 t_xdb32 t_xdb64 t_xp10)
  | 2, _ => exact lrunG L hs hW (VRL.cons (.mark _ _ hm0) (VRL.cons (.mark _ _ hm1) (VRL.nil _))) (run314 t_xdb32 t_xdb64 t_xp10)
  | 3, _ => exact lrunG L hs hW (VRL.cons (.mark _ _ hm0) (VRL.cons (.mark _ _ hm1) (VRL.nil _))) (run315 t_xdb32 t_xdb64 t_xp10)
  | 4, _ => exact lrunG L hs hW (VRL.cons (.mark _ _ hm0) (VRL.cons (.mark _ _ hm1) (VRL.nil _))) (run316 t_xdb32 t_xdb64 t_xp10)
  | 5, _ => exact lrunG L hs hW (VRL.cons (.mark _ _ hm0) (VRL.cons (.mark _ _ hm1) (VRL.nil _))) (run317 t_xdb32 t_xdb64 t_xp10)
  | 6, _ => exact lrunG L hs hW (VRL.cons (.mark _ _ hm0) (VRL.cons (.mark _ _ hm1) (VRL.nil _))) (run318 t_xdb32 t_xdb64 t_xp10)
  | 7, _ => exact lrunG L hs hW (VRL.cons (.mark _ _ hm0) (VRL.cons (.mark _ _ hm1) (VRL.nil _))) (run319 t_xdb32 t_xdb64 t_xp10)
  | k + 8, hk => exact absurd hk (by simp only [Nat.reducePow]; omega)
theorem row40 : Row 40 := fun n0 n1 hm0 W t_xdb32 t_xdb64 t_xp10 L hs hW => by
  obtain ⟨k1, hk1, hm1⟩ := mark_bits (k := 3) (by decide) n1
  match k1, hk1 with
  | 0, _ => exact lrunG L hs hW (VRL.cons (.mark _ _ hm0) (VRL.cons (.mark _ _ hm1) (VRL.nil _))) (run320 t_xdb32 t_xdb64 t_xp10)
  | 1, _ => exact lrunG L hs hW (VRL.cons (.mark _ _ hm0) (VRL.cons (.mark _ _ hm1) (VRL.nil _))) (run321 t_xdb32 t_xdb64 t_xp10)
  | 2, _ => exact lrunG L hs hW (VRL.cons (.mark _ _ hm0) (VRL.cons (.mark _ _ hm1) (VRL.nil _))) (run322 t_xdb32 t_xdb64 t_xp10)
  | 3, _ => exact lrunG L hs hW (VRL.cons (.mark _ _ hm0) (VRL.cons (.mark _ _ hm1) (VRL.nil _))) (run323 t_xdb32 t_xdb64 t_xp10)
  | 4, _ => exact lrunG L hs hW (VRL.cons (.mark _ _ hm0) (VRL.cons (.mark _ _ hm1) (VRL.nil _))) (run324 t_xdb32 t_xdb64 t_xp10)
  | 5, _ => exact lrunG L hs hW (VRL.cons (.mark _ _ hm0) (VRL.cons (.mark _ _ hm1) (VRL.nil _))) (run325 t_xdb32 t_xdb64 t_xp10)
  | 6, _ => exact lrunG L hs hW (VRL.cons (.mark _ _ hm0) (VRL.cons (.mark _ _ hm1) (VRL.nil _))) (run326 t_xdb32 t_xdb64 t_xp10)
  | 7, _ => exact lrunG L hs hW (VRL.cons (.mark _ _ hm0) (VRL.cons (.mark _ _ hm1) (VRL.nil _))) (run327 t_xdb32 t_xdb64 t_xp10)
  | k + 8, hk => exact absurd hk (by simp only [Nat.reducePow]; omega)
theorem row41 : Row 41 := fun n0 n1 hm0 W t_xdb32 t_xdb64 t_xp10 L hs hW => by
  obtain ⟨k1, hk1, hm1⟩ := mark_bits (k := 3) (by decide) n1
  match k1, hk1 with
  | 0, _ => exact lrunG L hs hW (VRL.cons (.mark _ _ hm0) (VRL.cons (.mark _ _ hm1) (VRL.nil _))) (run328 t_xdb32 t_xdb64 t_xp10)
  | 1, _ => exact lrunG L hs hW (VRL.cons (.mark _ _ hm0) (VRL.cons (.mark _ _ hm1) (VRL.nil _))) (run329 t_xdb32 t_xdb64 t_xp10)
  | 2, _ => exact lrunG L hs hW (VRL.cons (.mark _ _ hm0) (VRL.cons (.mark _ _ hm1) (VRL.nil _))) (run330 t_xdb32 t_xdb64 t_xp10)
  | 3, _ => exact lrunG L hs hW (VRL.cons (.mark _ _ hm0) (VRL.cons (.mark _ _ hm1) (VRL.nil _))) (run331 t_xdb32 t_xdb64 t_xp10)
  | 4, _ => exact lrunG L hs hW (VRL.cons (.mark _ _ hm0) (VRL.cons (.mark _ _ hm1) (VRL.nil _))) (run332 t_xdb32 t_xdb64 t_xp10)
  | 5, _ => exact lrunG L hs hW (VRL.cons (.mark _ _ hm0) (VRL.cons (.mark _ _ hm1) (VRL.nil _))) (run333 t_xdb32 t_xdb64 t_xp10)
  | 6, _ => exact lrunG L hs hW (VRL.cons (.mark _ _ hm0) (VRL.cons (.mark _ _ hm1) (VRL.nil _))) (run334 t_xdb32 t_xdb64 t_xp10)
  | 7, _ => exact lrunG L hs hW (VRL.cons (.mark _ _ hm0) (VRL.cons (.mark _ _ hm1) (VRL.nil _))) (run335 t_xdb32 t_xdb64 t_xp10)
  | k + 8, hk => exact absurd hk (by simp only [Nat.reducePow]; omega)
theorem row42 : Row 42 := fun n0 n1 hm0 W t_xdb32 t_xdb64 t_xp10 L hs hW => by
  obtain ⟨k1, hk1, hm1⟩ := mark_bits (k := 3) (by decide) n1
  match k1, hk1 with
  | 0, _ => exact lrunG L hs hW (VRL.cons (.mark _ _ hm0) (VRL.cons (.mark _ _ hm1) (VRL.nil _))) (run336 t_xdb32 t_xdb64 t_xp10)
  | 1, _ => exact lrunG L hs hW (VRL.cons (.mark _ _ hm0) (VRL.cons (.mark _ _ hm1) (VRL.nil _))) (run337 t_xdb32 t_xdb64 t_xp10)
  | 2, _ => exact lrunG L hs hW (VRL.cons (.mark _ _ hm0) (VRL.cons (.mark _ _ hm1) (VRL.nil _))) (run338 t_xdb32 t_xdb64 t_xp10)
  | 3, _ => exact lrunG L hs hW (VRL.cons (.mark _ _ hm0) (VRL.cons (.mark _ _ hm1) (VRL.nil _))) (run339 t_xdb32 t_xdb64 t_xp10)
  | 4, _ => exact lrunG L hs hW (VRL.cons (.mark _ _ hm0) (VRL.cons (.mark _ _ hm1) (VRL.nil _))) (run340 t_xdb32 t_xdb64 t_xp10)
  | 5, _ => exact lrunG L hs hW (VRL.cons (.mark _ _ hm0) (VRL.cons (.mark _ _ hm1) (VRL.nil _))) (run341 t_xdb32 t_xdb64 t_xp10)
  | 6, _ => exact lrunG L hs hW (VRL.cons (.mark _ _ hm0) (VRL.cons (.mark _ _ hm1) (VRL.nil _))) (run342 t_xdb32 t_xdb64 t_xp10)
  | 7, _ => exact lrunG L hs hW (VRL.cons (.mark _ _ hm0) (VRL.cons (.mark _ _ hm1) (VRL.nil _))) (run343 t_xdb32 t_xdb64 t_xp10)
  | k + 8, hk => exact absurd hk (by simp only [Nat.reducePow]; omega)
theorem row43 : Row 43 := fun n0 n1 hm0 W t_xdb32 t_xdb64 t_xp10 L hs hW => by
  obtain ⟨k1, hk1, hm1⟩ := mark_bits (k := 3) (by decide) n1
  match k1, hk1 with
  | 0, _ => exact lrunG L hs hW (VRL.cons (.mark _ _ hm0) (VRL.cons (.mark _ _ hm1) (VRL.nil _))) (run344 t_xdb32 t_xdb64 t_xp10)
  | 1, _ => exact lrunG L hs hW (VRL.cons (.mark _ _ hm0) (VRL.cons (.mark _ _ hm1) (VRL.nil _))) (run345 t_xdb32 t_xdb64 t_xp10)
  | 2, _ => exact lrunG L hs hW (VRL.cons (.mark _ _ hm0) (VRL.cons (.mark _ _ hm1) (VRL.nil _))) (run346 t_xdb32 t_xdb64 t_xp10)
  | 3, _ => exact lrunG L hs hW (VRL.cons (.mark _ _ hm0) (VRL.cons (.mark _ _ hm1) (VRL.nil _))) (run347 t_xdb32 t_xdb64 t_xp10)
  | 4, _ => exact lrunG L hs hW (VRL.cons (.mark _ _ hm0) (VRL.cons (.mark _ _ hm1) (VRL.nil _))) (run348 t_xdb32 t_xdb64 t_xp10)
  | 5, _ => exact lrunG L hs hW (VRL.cons (.mark _ _ hm0) (VRL.cons (.mark _ _ hm1) (VRL.nil _))) (run349 t_xdb32 t_xdb64 t_xp10)
  | 6, _ => exact lrunG L hs hW (VRL.cons (.mark _ _ hm0) (VRL.cons (.mark _ _ hm1) (VRL.nil _))) (run350 t_xdb32 t_xdb64 t_xp10)
  | 7, _ => exact lrunG L hs hW (VRL.cons (.mark _ _ hm0) (VRL.cons (.mark _ _ hm1) (VRL.nil _))) (run351 t_xdb32 t_xdb64 t_xp10)
  | k + 8, hk => exact absurd hk (by simp only [Nat.reducePow]; omega)
theorem row44 : Row 44 := fun n0 n1 hm0 W t_xdb32 t_xdb64 t_xp10 L hs hW => by
  obtain ⟨k1, hk1, hm1⟩ := mark_bits (k := 3) (by decide) n1
  match k1, hk1 with
  | 0, _ => exact lrunG L hs hW (VRL.cons (.mark _ _ hm0) (VRL.cons (.mark _ _ hm1) (VRL.nil _))) (run352 t_xdb32 t_xdb64 t_xp10)
  | 1, _ => exact lrunG L hs hW (VRL.cons (.mark _ _ hm0) (VRL.cons (.mark _ _ hm1) (VRL.nil _))) (run353 t_xdb32 t_xdb64 t_xp10)
  | 2, _ => exact lrunG L hs hW (VRL.cons (.mark _ _ hm0) (VRL.cons (.mark _ _ hm1) (VRL.nil _))) (run354 t_xdb32 t_xdb64 t_xp10)
  | 3, _ => exact lrunG L hs hW (VRL.cons (.mark _ _ hm0) (VRL.cons (.mark _ _ hm1) (VRL.nil _))) (run355 t_xdb32 t_xdb64 t_xp10)
  | 4, _ => exact lrunG L hs hW (VRL.cons (.mark _ _ hm0) (VRL.cons (.mark _ _ hm1) (VRL.nil _))) (run356 t_xdb32 t_xdb64 t_xp10)
  | 5, _ => exact lrunG L hs hW (VRL.cons (.mark _ _ hm0) (VRL.cons (.mark _ _ hm1) (VRL.nil _))) (run357 t_xdb32 t_xdb64 t_xp10)
  | 6, _ => exact lrunG L hs hW (VRL.cons (.mark _ _ hm0) (VRL.cons (.mark _ _ hm1) (VRL.nil _))) (run358 t_xdb32 t_xdb64 t_xp10)
  | 7, _ => exact lrunG L hs hW (VRL.cons (.mark _ _ hm0) (VRL.cons (.mark _ _ hm1) (VRL.nil _))) (run359 t_xdb32 t_xdb64 t_xp10)
  | k + 8, hk => exact absurd hk (by simp only [Nat.reducePow]; omega)
theorem row45 : Row 45 := fun n0 n1 hm0 W t_xdb32 t_xdb64 t_xp10 L hs hW => by
  obtain ⟨k1, hk1, hm1⟩ := mark_bits (k := 3) (by decide) n1
  match k1, hk1 with
  | 0, _ => exact lrunG L hs hW (VRL.cons (.mark _ _ hm0) (VRL.cons (.mark _ _ hm1) (VRL.nil _))) (run360 t_xdb32 t_xdb64 t_xp10)
  | 1, _ => exact lrunG L hs hW (VRL.cons (.mark _ _ hm0) (VRL.cons (.mark _ _ hm1) (VRL.nil _))) (run361 t_xdb32 t_xdb64 t_xp10)
  | 2, _ => exact lrunG L hs hW (VRL.cons (.mark _ _ hm0) (VRL.cons (.mark _ _ hm1) (VRL.nil _))) (run362 t_xdb32 t_xdb64 t_xp10)
  | 3, _ => exact lrunG L hs hW (VRL.cons (.mark _ _ hm0) (VRL.cons (.mark _ _ hm1) (VRL.nil _))) (run363 t_xdb32 t_xdb64 t_xp10)
  | 4, _ => exact lrunG L hs hW (VRL.cons (.mark _ _ hm0) (VRL.cons (.mark _ _ hm1) (VRL.nil _))) (run364 t_xdb32 t_xdb64 t_xp10)
  | 5, _ => exact lrunG L hs hW (VRL.cons (.mark _ _ hm0) (VRL.cons (.mark _ _ hm1) (VRL.nil _))) (run365 t_xdb32 t_xdb64 t_xp10)
  | 6, _ => exact lrunG L hs hW (VRL.cons (.mark _ _ hm0) (VRL.cons (.mark _ _ hm1) (VRL.nil _))) (run366 t_xdb32 t_xdb64 t_xp10)
  | 7, _ => exact lrunG L hs hW (VRL.cons (.mark _ _ hm0) (VRL.cons (.mark _ _ hm1) (VRL.nil _))) (run367 t_xdb32 t_xdb64 t_xp10)
  | k + 8, hk => exact absurd hk (by simp only [Nat.reducePow]; omega)
theorem row46 : Row 46 := fun n0 n1 hm0 W t_xdb32 t_xdb64 t_xp10 L hs hW => by
  obtain ⟨k1, hk1, hm1⟩ := mark_bits (k := 3) (by decide) n1
  match k1, hk1 with
  | 0, _ => exact lrunG L hs hW (VRL.cons (.mark _ _ hm0) (VRL.cons (.mark _ _ hm1) (VRL.nil _))) (run368 t_xdb32 t_xdb64 t_xp10)
  | 1, _ => exact lrunG L hs hW (VRL.cons (.mark _ _ hm0) (VRL.cons (.mark _ _ hm1) (VRL.nil _))) (run369 t_xdb32 t_xdb64 t_xp10)
  | 2, _ => exact lrunG L hs hW (VRL.cons (.mark _ _ hm0) (VRL.cons (.mark _ _ hm1) (VRL.nil _))) (run370 t_xdb32 t_xdb64 t_xp10)
  | 3, _ => exact lrunG L hs hW (VRL.cons (.mark _ _ hm0) (VRL.cons (.mark _ _ hm1) (VRL.nil _))) (run371 t_xdb32 t_xdb64 t_xp10)
  | 4, _ => exact lrunG L hs hW (VRL.cons (.mark _ _ hm0) (VRL.cons (.mark _ _ hm1) (VRL.nil _))) (run372 t_xdb32 t_xdb64 t_xp10)
  | 5, _ => exact lrunG L hs hW (VRL.cons (.mark _ _ hm0) (VRL.cons (.mark _ _ hm1) (VRL.nil _))) (run373 t_xdb32 t_xdb64 t_xp10)
  | 6, _ => exact lrunG L hs hW (VRL.cons (.mark _ _ hm0) (VRL.cons (.mark _ _ hm1) (VRL.nil _))) (run374 t_xdb32 t_xdb64 t_xp10)
  | 7, _ => exact lrunG L hs hW (VRL.cons (.mark _ _ hm0) (VRL.cons (.mark _ _ hm1) (VRL.nil _))) (run375 t_xdb32 t_xdb64 t_xp10)
  | k + 8, hk => exact absurd hk (by simp only [Nat.reducePow]; omega)
theorem row47 : Row 47 := fun n0 n1 hm0 W t_xdb32 t_xdb64 t_xp10 L hs hW => by
  obtain ⟨k1, hk1, hm1⟩ := mark_bits (k := 3) (by decide) n1
  match k1, hk1 with
  | 0, _ => exact lrunG L hs hW (VRL.cons (.mark _ _ hm0) (VRL.cons (.mark _ _ hm1) (VRL.nil _))) (run376 t_xdb32 t_xdb64 t_xp10)
  | 1, _ => exact lrunG L hs hW (VRL.cons (.mark _ _ hm0) (VRL.cons (.mark _ _ hm1) (VRL.nil _))) (run377 t_xdb32 t_xdb64 t_xp10)
  | 2, _ => exact lrunG L hs hW (VRL.cons (.mark _ _ hm0) (VRL.cons (.mark _ _ hm1) (VRL.nil _))) (run378 t_xdb32 t_xdb64 t_xp10)
  | 3, _ => exact lrunG L hs hW (VRL.cons (.mark _ _ hm0) (VRL.cons (.mark _ _ hm1) (VRL.nil _))) (run379 t_xdb32 t_xdb64 t_xp10)
  | 4, _ => exact lrunG L hs hW (VRL.cons (.mark _ _ hm0) (VRL.cons (.mark _ _ hm1) (VRL.nil _))) (run380 t_xdb32 t_xdb64 t_xp10)
  | 5, _ => exact lrunG L hs hW (VRL.cons (.mark _ _ hm0) (VRL.cons (.mark _ _ hm1) (VRL.nil _))) (run381 t_xdb32 t_xdb64 t_xp10)
  | 6, _ => exact lrunG L hs hW (VRL.cons (.mark _ _ hm0) (VRL.cons (.mark _ _ hm1) (VRL.nil _))) (run382 t_xdb32 t_xdb64 t_xp10)
  | 7, _ => exact lrunG L hs hW (VRL.cons (.mark _ _ hm0) (VRL.cons (.mark _ _ hm1) (VRL.nil _))) (run383 t_xdb32 t_xdb64 t_xp10)
  | k + 8, hk => exact absurd hk (by simp only [Nat.reducePow]; omega)
theorem row48 : Row 48 := fun n0 n1 hm0 W t_xdb32 t_xdb64 t_xp10 L hs hW => by
  obtain ⟨k1, hk1, hm1⟩ := mark_bits (k := 3) (by decide) n1
  match k1, hk1 with
  | 0, _ => exact lrunG L hs hW (VRL.cons (.mark _ _ hm0) (VRL.cons (.mark _ _ hm1) (VRL.nil _))) (run384 t_xdb32 t_xdb64 t_xp10)
  | 1, _ => exact lrunG L hs hW (VRL.cons (.mark _ _ hm0) (VRL.cons (.mark _ _ hm1) (VRL.nil _))) (run385 t_xdb32 t_xdb64 t_xp10)
  | 2, _ => exact lrunG L hs hW (VRL.cons (.mark _ _ hm0) (VRL.cons (.mark _ _ hm1) (VRL.nil _))) (run386 t_xdb32 t_xdb64 t_xp10)
  | 3, _ => exact lrunG L hs hW (VRL.cons (.mark _ _ hm0) (VRL.cons (.mark _ _ hm1) (VRL.nil _))) (run387 t_xdb32 t_xdb64 t_xp10)
  | 4, _ => exact lrunG L hs hW (VRL.cons (.mark _ _ hm0) (VRL.cons (.mark _ _ hm1) (VRL.nil _))) (run388 t_xdb32 t_xdb64 t_xp10)
  | 5, _ => exact lrunG L hs hW (VRL.cons (.mark _ _ hm0) (VRL.cons (.mark _ _ hm1) (VRL.nil _))) (run389 t_xdb32 t_xdb64 t_xp10)
  | 6, _ => exact lrunG L hs hW (VRL.cons (.mark _ _ hm0) (VRL.cons (.mark _ _ hm1) (VRL.nil _))) (run390 t_xdb32 t_xdb64 t_xp10)
  | 7, _ => exact lrunG L hs hW (VRL.cons (.mark _ _ hm0) (VRL.cons (.mark _ _ hm1) (VRL.nil _))) (run391 t_xdb32 t_xdb64 t_xp10)
  | k + 8, hk => exact absurd hk (by simp only [Nat.reducePow]; omega)
theorem row49 : Row 49 := fun n0 n1 hm0 W t_xdb32 t_xdb64 t_xp10 L hs hW => by
  obtain ⟨k1, hk1, hm1⟩ := mark_bits (k := 3) (by decide) n1
  match k1, hk1 with
  | 0, _ => exact lrunG L hs hW (VRL.cons (.mark _ _ hm0) (VRL.cons (.mark _ _ hm1) (VRL.nil _))) (run392 t_xdb32 t_xdb64 t_xp10)
  | 1, _ => exact lrunG L hs hW (VRL.cons (.mark _ _ hm0) (VRL.cons (.mark _ _ hm1) (VRL.nil _))) (run393 t_xdb32 t_xdb64 t_xp10)
  | 2, _ => exact lrunG L hs hW (VRL.cons (.mark _ _ hm0) (VRL.cons (.mark _ _ hm1) (VRL.nil _))) (run394 t_xdb32 t_xdb64 t_xp10)
  | 3, _ => exact lrunG L hs hW (VRL.cons (.mark _ _ hm0) (VRL.cons (.mark _ _ hm1) (VRL.nil _))) (run395 t_xdb32 t_xdb64 t_xp10)
  | 4, _ => exact lrunG L hs hW (VRL.cons (.mark _ _ hm0) (VRL.cons (.mark _ _ hm1) (VRL.nil _))) (run396 t_xdb32 t_xdb64 t_xp10)
  | 5, _ => exact lrunG L hs hW (VRL.cons (.mark _ _ hm0) (VRL.cons (.mark _ _ hm1) (VRL.nil _))) (run397 t_xdb32 t_xdb64 t_xp10)
  | 6, _ => exact lrunG L hs hW (VRL.cons (.mark _ _ hm0) (VRL.cons (.mark _ _ hm1) (VRL.nil _))) (run398 t_xdb32 t_xdb64 t_xp10)
  | 7, _ => exact lrunG L hs hW (VRL.cons (.mark _ _ hm0) (VRL.cons (.mark _ _ hm1) (VRL.nil _))) (run399 t_xdb32 t_xdb64 t_xp10)
  | k + 8, hk => exact absurd hk (by simp only [Nat.reducePow]; omega)
theorem row50 : Row 50 := fun n0 n1 hm0 W t_xdb32 t_xdb64 t_xp10 L hs hW => by
  obtain ⟨k1, hk1, hm1⟩ := mark_bits (k := 3) (by decide) n1
  match k1, hk1 with
  | 0, _ => exact lrunG L hs hW (VRL.cons (.mark _ _ hm0) (VRL.cons (.mark _ _ hm1) (VRL.nil _))) (run400 t_xdb32 t_xdb64 t_xp10)
  | 1, _ => exact lrunG L hs hW (VRL.cons (.mark _ _ hm0) (VRL.cons (.mark _ _ hm1) (VRL.nil _))) (run401 t_xdb32 t_xdb64 t_xp10)
  | 2, _ => exact lrunG L hs hW (VRL.cons (.mark _ _ hm0) (VRL.cons (.mark _ _ hm1) (VRL.nil _))) (run402 t_xdb32 t_xdb64 t_xp10)
  | 3, _ => exact lrunG L hs hW (VRL.cons (.mark _ _ hm0) (VRL.cons (.mark _ _ hm1) (VRL.nil _))) (run403 t_xdb32 t_xdb64 t_xp10)
  | 4, _ => exact lrunG L hs hW (VRL.cons (.mark _ _ hm0) (VRL.cons (.mark _ _ hm1) (VRL.nil _))) (run404 t_xdb32 t_xdb64 t_xp10)
  | 5, _ => exact lrunG L hs hW (VRL.cons (.mark _ _ hm0) (VRL.cons (.mark _ _ hm1) (VRL.nil _))) (run405 t_xdb32 t_xdb64 t_xp10)
  | 6, _ => exact lrunG L hs hW (VRL.cons (.mark _ _ hm0) (VRL.cons (.mark _ _ hm1) (VRL.nil _))) (run406 t_xdb32 t_xdb64 t_xp10)
  | 7, _ => exact lrunG L hs hW (VRL.cons (.mark _ _ hm0) (VRL.cons (.mark _ _ hm1) (VRL.nil _))) (run407 t_xdb32 t_xdb64 t_xp10)
  | k + 8, hk => exact absurd hk (by simp only [Nat.reducePow]; omega)
theorem row51 : Row 51 := fun n0 n1 hm0 W t_xdb32 t_xdb64 t_xp10 L hs hW => by
  obtain ⟨k1, hk1, hm1⟩ := mark_bits (k := 3) (by decide) n1
  match k1, hk1 with
  | 0, _ => exact lrunG L hs hW (VRL.cons (.mark _ _ hm0) (VRL.cons (.mark _ _ hm1) (VRL.nil _))) (run408 t_xdb32 t_xdb64 t_xp10)
  | 1, _ => exact lrunG L hs hW (VRL.cons (.mark _ _ hm0) (VRL.cons (.mark _ _ hm1) (VRL.nil _))) (run409 t_xdb32 t_xdb64 t_xp10)
  | 2, _ => exact lrunG L hs hW (VRL.cons (.mark _ _ hm0) (VRL.cons (.mark _ _ hm1) (VRL.nil _))) (run410 t_xdb32 t_xdb64 t_xp10)
  | 3, _ => exact lrunG L hs hW (VRL.cons (.mark _ _ hm0) (VRL.cons (.mark _ _ hm1) (VRL.nil _))) (run411 t_xdb32 t_xdb64 t_xp10)
  | 4, _ => exact lrunG L hs hW (VRL.cons (.mark _ _ hm0) (VRL.cons (.mark _ _ hm1) (VRL.nil _))) (run412 t_xdb32 t_xdb64 t_xp10)
  | 5, _ => exact lrunG L hs hW (VRL.cons (.mark _ _ hm0) (VRL.cons (.mark _ _ hm1) (VRL.nil _))) (run413 t_xdb32 t_xdb64 t_xp10)
  | 6, _ => exact lrunG L hs hW (VRL.cons (.mark _ _ hm0) (VRL.cons (.mark _ _ hm1) (VRL.nil _))) (run414 t_xdb32 t_xdb64 t_xp10)
  | 7, _ => exact lrunG L hs hW (VRL.cons (.mark _ _ hm0) (VRL.cons (.mark _ _ hm1) (VRL.nil _))) (run415 t_xdb32 t_xdb64 t_xp10)
  | k + 8, hk => exact absurd hk (by simp only [Nat.reducePow]; omega)
theorem row52 : Row 52 := fun n0 n1 hm0 W t_xdb32 t_xdb64 t_xp10 L hs hW => by
  obtain ⟨k1, hk1, hm1⟩ := mark_bits (k := 3) (by decide) n1
  match k1, hk1 with
  | 0, _ => exact lrunG L hs hW (VRL.cons (.mark _ _ hm0) (VRL.cons (.mark _ _ hm1) (VRL.nil _))) (run416 t_xdb32 t_xdb64 t_xp10)
  | 1, _ => exact lrunG L hs hW (VRL.cons (.mark _ _ hm0) (VRL.cons (.mark _ _ hm1) (VRL.nil _))) (run417 t_xdb32 t_xdb64 t_xp10)
  | 2, _ => exact lrunG L hs hW (VRL.cons (.mark _ _ hm0) (VRL.cons (.mark _ _ hm1) (VRL.nil _))) (run418 t_xdb32 t_xdb64 t_xp10)
  | 3, _ => exact lrunG L hs hW (VRL.cons (.mark _ _ hm0) (VRL.cons (.mark _ _ hm1) (VRL.nil _))) (run419 t_xdb32 t_xdb64 t_xp10)
  | 4, _ => exact lrunG L hs hW (VRL.cons (.mark _ _ hm0) (VRL.cons (.mark _ _ hm1) (VRL.nil _))) (run420 t_xdb32 t_xdb64 t_xp10)
  | 5, _ => exact lrunG L hs hW (VRL.cons (.mark _ _ hm0) (VRL.cons (.mark _ _ hm1) (VRL.nil _))) (run421 t_xdb32 t_xdb64 t_xp10)
  | 6, _ => exact lrunG L hs hW (VRL.cons (.mark _ _ hm0) (VRL.cons (.mark _ _ hm1) (VRL.nil _))) (run422 t_xdb32 t_xdb64 t_xp10)
  | 7, _ => exact lrunG L hs hW (VRL.cons (.mark _ _ hm0) (VRL.cons (.mark _ _ hm1) (VRL.nil _))) (run423 t_xdb32 t_xdb64 t_xp10)
  | k + 8, hk => exact absurd hk (by simp only [Nat.reducePow]; omega)
theorem row53 : Row 53 := fun n0 n1 hm0 W t_xdb32 t_xdb64 t_xp10 L hs hW => by
  obtain ⟨k1, hk1, hm1⟩ := mark_bits (k := 3) (by decide) n1
  match k1, hk1 with
  | 0, _ => exact lrunG L hs hW (VRL.cons (.mark _ _ hm0) (VRL.cons (.mark _ _ hm1) (VRL.nil _))) (run424 t_xdb32 t_xdb64 t_xp10)
  | 1, _ => exact lrunG L hs hW (VRL.cons (.mark _ _ hm0) (VRL.cons (.mark _ _ hm1) (VRL.nil _))) (run425 t_xdb32 t_xdb64 t_xp10)
  | 2, _ => exact lrunG L hs hW (VRL.cons (.mark _ _ hm0) (VRL.cons (.mark _ _ hm1) (VRL.nil _))) (run426 t_xdb32 t_xdb64 t_xp10)
  | 3, _ => exact lrunG L hs hW (VRL.cons (.mark _ _ hm0) (VRL.cons (.mark _ _ hm1) (VRL.nil _))) (run427 t_xdb32 t_xdb64 t_xp10)
  | 4, _ => exact lrunG L hs hW (VRL.cons (.mark _ _ hm0) (VRL.cons (.mark _ _ hm1) (VRL.nil _))) (run428 t_xdb32 t_xdb64 t_xp10)
  | 5, _ => exact lrunG L hs hW (VRL.cons (.mark _ _ hm0) (VRL.cons (.mark _ _ hm1) (VRL.nil _))) (run429 t_xdb32 t_xdb64 t_xp10)
  | 6, _ => exact lrunG L hs hW (VRL.cons (.mark _ _ hm0) (VRL.cons (.mark _ _ hm1) (VRL.nil _))) (run430 t_xdb32 t_xdb64 t_xp10)
  | 7, _ => exact lrunG L hs hW (VRL.cons (.mark _ _ hm0) (VRL.cons (.mark _ _ hm1) (VRL.nil _))) (run431 t_xdb32 t_xdb64 t_xp10)
  | k + 8, hk => exact absurd hk (by simp only [Nat.reducePow]; omega)
theorem row54 : Row 54 := fun n0 n1 hm0 W t_xdb32 t_xdb64 t_xp10 L hs hW => by
  obtain ⟨k1, hk1, hm1⟩ := mark_bits (k := 3) (by decide) n1
  match k1, hk1 with
  | 0, _ => exact lrunG L hs hW (VRL.cons (.mark _ _ hm0) (VRL.cons (.mark _ _ hm1) (VRL.nil _))) (run432 t_xdb32 t_xdb64 t_xp10)
  | 1, _ => exact lrunG L hs hW (VRL.cons (.mark _ _ hm0) (VRL.cons (.mark _ _ hm1) (VRL.nil _))) (run433 t_xdb32 t_xdb64 t_xp10)
  | 2, _ => exact lrunG L hs hW (VRL.cons (.mark _ _ hm0) (VRL.cons (.mark _ _ hm1) (VRL.nil _))) (run434 t_xdb32 t_xdb64 t_xp10)
  | 3, _ => exact lrunG L hs hW (VRL.cons (.mark _ _ hm0) (VRL.cons (.mark _ _ hm1) (VRL.nil _))) (run435 t_xdb32 t_xdb64 t_xp10)
  | 4, _ => exact lrunG L hs hW (VRL.cons (.mark _ _ hm0) (VRL.cons (.mark _ _ hm1) (VRL.nil _))) (run436 t_xdb32 t_xdb64 t_xp10)
  | 5, _ => exact lrunG L hs hW (VRL.cons (.mark _ _ hm0) (VRL.cons (.mark _ _ hm1) (VRL.nil _))) (run437 t_xdb32 t_xdb64 t_xp10)
  | 6, _ => exact lrunG L hs hW (VRL.cons (.mark _ _ hm0) (VRL.cons (.mark _ _ hm1) (VRL.nil _))) (run438 t_xdb32 t_xdb64 t_xp10)
  | 7, _ => exact lrunG L hs hW (VRL.cons (.mark _ _ hm0) (VRL.cons (.mark _ _ hm1) (VRL.nil _))) (run439 t_xdb32 t_xdb64 t_xp10)
  | k + 8, hk => exact absurd hk (by simp only [Nat.reducePow]; omega)
theorem row55 : Row 55 := fun n0 n1 hm0 W t_xdb32 t_xdb64 t_xp10 L hs hW => by
  obtain ⟨k1, hk1, hm1⟩ := mark_bits (k := 3) (by decide) n1
  match k1, hk1 with
  | 0, _ => exact lrunG L hs hW (VRL.cons (.mark _ _ hm0) (VRL.cons (.mark _ _ hm1) (VRL.nil _))) (run440 t_xdb32 t_xdb64 t_xp10)
  | 1, _ => exact lrunG L hs hW (VRL.cons (.mark _ _ hm0) (VRL.cons (.mark _ _ hm1) (VRL.nil _))) (run441 t_xdb32 t_xdb64 t_xp10)
  | 2, _ => exact lrunG L hs hW (VRL.cons (.mark _ _ hm0) (VRL.cons (.mark _ _ hm1) (VRL.nil _))) (run442 t_xdb32 t_xdb64 t_xp10)
  | 3, _ => exact lrunG L hs hW (VRL.cons (.mark _ _ hm0) (VRL.cons (.mark _ _ hm1) (VRL.nil _))) (run443 t_xdb32 t_xdb64 t_xp10)
  | 4, _ => exact lrunG L hs hW (VRL.cons (.mark _ _ hm0) (VRL.cons (.mark _ _ hm1) (VRL.nil _))) (run444 t_xdb32 t_xdb64 t_xp10)
  | 5, _ => exact lrunG L hs hW (VRL.cons (.mark _ _ hm0) (VRL.cons (.mark _ _ hm1) (VRL.nil _))) (run445 t_xdb32 t_xdb64 t_xp10)
  | 6, _ => exact lrunG L hs hW (VRL.cons (.mark _ _ hm0) (VRL.cons (.mark _ _ hm1) (VRL.nil _))) (run446 t_xdb32 t_xdb64 t_xp10)
  | 7, _ => exact lrunG L hs hW (VRL.cons (.mark _ _ hm0) (VRL.cons (.mark _ _ hm1) (VRL.nil _))) (run447 t_xdb32 t_xdb64 t_xp10)
  | k + 8, hk => exact absurd hk (by simp only [Nat.reducePow]; omega)
theorem row56 : Row 56 := fun n0 n1 hm0 W t_xdb32 t_xdb64 t_xp10 L hs hW => by
  obtain ⟨k1, hk1, hm1⟩ := mark_bits (k := 3) (by decide) n1
  match k1, hk1 with
  | 0, _ => exact lrunG L hs hW (VRL.cons (.mark _ _ hm0) (VRL.cons (.mark _ _ hm1) (VRL.nil _))) (run448 t_xdb32 t_xdb64 t_xp10)
  | 1, _ => exact lrunG L hs hW (VRL.cons (.mark _ _ hm0) (VRL.cons (.mark _ _ hm1) (VRL.nil _))) (run449 t_xdb32 t_xdb64 t_xp10)
  | 2, _ => exact lrunG L hs hW (VRL.cons (.mark _ _ hm0) (VRL.cons (.mark _ _ hm1) (VRL.nil _))) (run450 t_xdb32 t_xdb64 t_xp10)
  | 3, _ => exact lrunG L hs hW (VRL.cons (.mark _ _ hm0) (VRL.cons (.mark _ _ hm1) (VRL.nil _))) (run451 t_xdb32 t_xdb64 t_xp10)
  | 4, _ => exact lrunG L hs hW (VRL.cons (.mark _ _ hm0) (VRL.cons (.mark _ _ hm1) (VRL.nil _))) (run452 t_xdb32 t_xdb64 t_xp10)
  | 5, _ => exact lrunG L hs hW (VRL.cons (.mark _ _ hm0) (VRL.cons (.mark _ _ hm1) (VRL.nil _))) (run453 t_xdb32 t_xdb64 t_xp10)
  | 6, _ => exact lrunG L hs hW (VRL.cons (.mark _ _ hm0) (VRL.cons (.mark _ _ hm1) (VRL.nil _))) (run454 t_xdb32 t_xdb64 t_xp10)
  | 7, _ => exact lrunG L hs hW (VRL.cons (.mark _ _ hm0) (VRL.cons (.mark _ _ hm1) (VRL.nil _))) (run455 t_xdb32 t_xdb64 t_xp10)
  | k + 8, hk => exact absurd hk (by simp only [Nat.reducePow]; omega)
theorem row57 : Row 57 := fun n0 n1 hm0 W t_xdb32 t_xdb64 t_xp10 L hs hW => by
  obtain ⟨k1, hk1, hm1⟩ := mark_bits (k := 3) (by decide) n1
  match k1, hk1 with
  | 0, _ => exact lrunG L hs hW (VRL.cons (.mark _ _ hm0) (VRL.cons (.mark _ _ hm1) (VRL.nil _))) (run456 t_xdb32 t_xdb64 t_xp10)
  | 1, _ => exact lrunG L hs hW (VRL.cons (.mark _ _ hm0) (VRL.cons (.mark _ _ hm1) (VRL.nil _))) (run457 t_xdb32 t_xdb64 t_xp10)
  | 2, _ => exact lrunG L hs hW (VRL.cons (.mark _ _ hm0) (VRL.cons (.mark _ _ hm1) (VRL.nil _))) (run458 t_xdb32 t_xdb64 t_xp10)
  | 3, _ => exact lrunG L hs hW (VRL.cons (.mark _ _ hm0) (VRL.cons (.mark _ _ hm1) (VRL.nil _))) (run459 t_xdb32 t_xdb64 t_xp10)
  | 4, _ => exact lrunG L hs hW (VRL.cons (.mark _ _ hm0) (VRL.cons (.mark _ _ hm1) (VRL.nil _))) (run460 t_xdb32 t_xdb64 t_xp10)
  | 5, _ => exact lrunG L hs hW (VRL.cons (.mark _ _ hm0) (VRL.cons (.mark _ _ hm1) (VRL.nil _))) (run461 t_xdb32 t_xdb64 t_xp10)
  | 6, _ => exact lrunG L hs hW (VRL.cons (.mark _ _ hm0) (VRL.cons (.mark _ _ hm1) (VRL.nil _))) (run462 t_xdb32 t_xdb64 t_xp10)
  | 7, _ => exact lrunG L hs hW (VRL.cons (.mark _ _ hm0) (VRL.cons (.mark _ _ hm1) (VRL.nil _))) (run463 t_xdb32 t_xdb64 t_xp10)
  | k + 8, hk => exact absurd hk (by simp only [Nat.reducePow]; omega)
theorem row58 : Row 58 := fun n0 n1 hm0 W t_xdb32 t_xdb64 t_xp10 L hs hW => by
  obtain ⟨k1, hk1, hm1⟩ := mark_bits (k := 3) (by decide) n1
  match k1, hk1 with
  | 0, _ => exact lrunG L hs hW (VRL.cons (.mark _ _ hm0) (VRL.cons (.mark _ _ hm1) (VRL.nil _))) (run464 t_xdb32 t_xdb64 t_xp10)
  | 1, _ => exact lrunG L hs hW (VRL.cons (.mark _ _ hm0) (VRL.cons (.mark _ _ hm1) (VRL.nil _))) (run465 t_xdb32 t_xdb64 t_xp10)
  | 2, _ => exact lrunG L hs hW (VRL.cons (.mark _ _ hm0) (VRL.cons (.mark _ _ hm1) (VRL.nil _))) (run466 t_xdb32 t_xdb64 t_xp10)
  | 3, _ => exact lrunG L hs hW (VRL.cons (.mark _ _ hm0) (VRL.cons (.mark _ _ hm1) (VRL.nil _))) (run467 t_xdb32 t_xdb64 t_xp10)
  | 4, _ => exact lrunG L hs hW (VRL.cons (.mark _ _ hm0) (VRL.cons (.mark _ _ hm1) (VRL.nil _))) (run468 t_xdb32 t_xdb64 t_xp10)
  | 5, _ => exact lrunG L hs hW (VRL.cons (.mark _ _ hm0) (VRL.cons (.mark _ _ hm1) (VRL.nil _))) (run469 t_xdb32 t_xdb64 t_xp10)
  | 6, _ => exact lrunG L hs hW (VRL.cons (.mark _ _ hm0) (VRL.cons (.mark _ _ hm1) (VRL.nil _))) (run470 t_xdb32 t_xdb64 t_xp10)
  | 7, _ => exact lrunG L hs hW (VRL.cons (.mark _ _ hm0) (VRL.cons (.mark _ _ hm1) (VRL.nil _))) (run471 t_xdb32 t_xdb64 t_xp10)
  | k + 8, hk => exact absurd hk (by simp only [Nat.reducePow]; omega)
theorem row59 : Row 59 := fun n0 n1 hm0 W t_xdb32 t_xdb64 t_xp10 L hs hW => by
  obtain ⟨k1, hk1, hm1⟩ := mark_bits (k := 3) (by decide) n1
  match k1, hk1 with
  | 0, _ => exact lrunG L hs hW (VRL.cons (.mark _ _ hm0) (VRL.cons (.mark _ _ hm1) (VRL.nil _))) (run472 t_xdb32 t_xdb64 t_xp10)
  | 1, _ => exact lrunG L hs hW (VRL.cons (.mark _ _ hm0) (VRL.cons (.mark _ _ hm1) (VRL.nil _))) (run473 t_xdb32 t_xdb64 t_xp10)
  | 2, _ => exact lrunG L hs hW (VRL.cons (.mark _ _ hm0) (VRL.cons (.mark _ _ hm1) (VRL.nil _))) (run474 t_xdb32 t_xdb64 t_xp10)
  | 3, _ => exact lrunG L hs hW (VRL.cons (.mark _ _ hm0) (VRL.cons (.mark _ _ hm1) (VRL.nil _))) (run475 t_xdb32 t_xdb64 t_xp10)
  | 4, _ => exact lrunG L hs hW (VRL.cons (.mark _ _ hm0) (VRL.cons (.mark _ _ hm1) (VRL.nil _))) (run476 t_xdb32 t_xdb64 t_xp10)
  | 5, _ => exact lrunG L hs hW (VRL.cons (.mark _ _ hm0) (VRL.cons (.mark _ _ hm1) (VRL.nil _))) (run477 t_xdb32 t_xdb64 t_xp10)
  | 6, _ => exact lrunG L hs hW (VRL.cons (.mark _ _ hm0) (VRL.cons (.mark _ _ hm1) (VRL.nil _))) (run478 t_xdb32 t_xdb64 t_xp10)
  | 7, _ => exact lrunG L hs hW (VRL.cons (.mark _ _ hm0) (VRL.cons (.mark _ _ hm1) (VRL.nil _))) (run479 t_xdb32 t_xdb64 t_xp10)
  | k + 8, hk => exact absurd hk (by simp only [Nat.reducePow]; omega)
theorem row60 : Row 60 := fun n0 n1 hm0 W t_xdb32 t_xdb64 t_xp10 L hs hW => by
  obtain ⟨k1, hk1, hm1⟩ := mark_bits (k := 3) (by decide) n1
  match k1, hk1 with
  | 0, _ => exact lrunG L hs hW (VRL.cons (.mark _ _ hm0) (VRL.cons (.mark _ _ hm1) (VRL.nil _))) (run480 t_xdb32 t_xdb64 t_xp10)
  | 1, _ => exact lrunG L hs hW (VRL.cons (.mark _ _ hm0) (VRL.cons (.mark _ _ hm1) (VRL.nil _))) (run481 t_xdb32 t_xdb64 t_xp10)
  | 2, _ => exact lrunG L hs hW (VRL.cons (.mark _ _ hm0) (VRL.cons (.mark _ _ hm1) (VRL.nil _))) (run482 t_xdb32 t_xdb64 t_xp10)
  | 3, _ => exact lrunG L hs hW (VRL.cons (.mark _ _ hm0) (VRL.cons (.mark _ _ hm1) (VRL.nil _))) (run483 t_xdb32 t_xdb64 t_xp10)
  | 4, _ => exact lrunG L hs hW (VRL.cons (.mark _ _ hm0) (VRL.cons (.mark _ _ hm1) (VRL.nil _))) (run484 t_xdb32 t_xdb64 t_xp10)
  | 5, _ => exact lrunG L hs hW (VRL.cons (.mark _ _ hm0) (VRL.cons (.mark _ _ hm1) (VRL.nil _))) (run485 t_xdb32 t_xdb64 t_xp10)
  | 6, _ => exact lrunG L hs hW (VRL.cons (.mark _ _ hm0) (VRL.cons (.mark _ _ hm1) (VRL.nil _))) (run486 t_xdb32 t_xdb64 t_xp10)
  | 7, _ => exact lrunG L hs hW (VRL.cons (.mark _ _ hm0) (VRL.cons (.mark _ _ hm1) (VRL.nil _))) (run487 t_xdb32 t_xdb64 t_xp10)
  | k + 8, hk => exact absurd hk (by simp only [Nat.reducePow]; omega)
theorem row61 : Row 61 := fun n0 n1 hm0 W t_xdb32 t_xdb64 t_xp10 L hs hW => by
  obtain ⟨k1, hk1, hm1⟩ := mark_bits (k := 3) (by decide) n1
  match k1, hk1 with
  | 0, _ => exact lrunG L hs hW (VRL.cons (.mark _ _ hm0) (VRL.cons (.mark _ _ hm1) (VRL.nil _))) (run488 t_xdb32 t_xdb64 t_xp10)
  | 1, _ => exact lrunG L hs hW (VRL.cons (.mark _ _ hm0) (VRL.cons (.mark _ _ hm1) (VRL.nil _))) (run489 t_xdb32 t_xdb64 t_xp10)
  | 2, _ => exact lrunG L hs hW (VRL.cons (.mark _ _ hm0) (VRL.cons (.mark _ _ hm1) (VRL.nil _))) (run490 t_xdb32 t_xdb64 t_xp10)
  | 3, _ => exact lrunG L hs hW (VRL.cons (.mark _ _ hm0) (VRL.cons (.mark _ _ hm1) (VRL.nil _))) (run491 t_xdb32 t_xdb64 t_xp10)
  | 4, _ => exact lrunG L hs hW (VRL.cons (.mark _ _ hm0) (VRL.cons (.mark _ _ hm1) (VRL.nil _))) (run492 t_xdb32 t_xdb64 t_xp10)
  | 5, _ => exact lrunG L hs hW (VRL.cons (.mark _ _ hm0) (VRL.cons (.mark _ _ hm1) (VRL.nil _))) (run493 t_xdb32 t_xdb64 t_xp10)
  | 6, _ => exact lrunG L hs hW (VRL.cons (.mark _ _ hm0) (VRL.cons (.mark _ _ hm1) (VRL.nil _))) (run494 t_xdb32 t_xdb64 t_xp10)
  | 7, _ => exact lrunG L hs hW (VRL.cons (.mark _ _ hm0) (VRL.cons (.mark _ _ hm1) (VRL.nil _))) (run495 t_xdb32 t_xdb64 t_xp10)
  | k + 8, hk => exact absurd hk (by simp only [Nat.reducePow]; omega)
theorem row62 : Row 62 := fun n0 n1 hm0 W t_xdb32 t_xdb64 t_xp10 L hs hW => by
  obtain ⟨k1, hk1, hm1⟩ := mark_bits (k := 3) (by decide) n1
  match k1, hk1 with
  | 0, _ => exact lrunG L hs hW (VRL.cons (.mark _ _ hm0) (VRL.cons (.mark _ _ hm1) (VRL.nil _))) (run496 t_xdb32 t_xdb64 t_xp10)
  | 1, _ => exact lrunG L hs hW (VRL.cons (.mark _ _ hm0) (VRL.cons (.mark _ _ hm1) (VRL.nil _))) (run497 t_xdb32 t_xdb64 t_xp10)
  | 2, _ => exact lrunG L hs hW (VRL.cons (.mark _ _ hm0) (VRL.cons (.mark _ _ hm1) (VRL.nil _))) (run498 t_xdb32 t_xdb64 t_xp10)
  | 3, _ => exact lrunG L hs hW (VRL.cons (.mark _ _ hm0) (VRL.cons (.mark _ _ hm1) (VRL.nil _))) (run499 t_xdb32 t_xdb64 t_xp10)
  | 4, _ => exact lrunG L hs hW (VRL.cons (.mark _ _ hm0) (VRL.cons (.mark _ _ hm1) (VRL.nil _))) (run500 t_xdb32 t_xdb64 t_xp10)
  | 5, _ => exact lrunG L hs hW (VRL.cons (.mark _ _ hm0) (VRL.cons (.mark _ _ hm1) (VRL.nil _))) (run501 t_xdb32 t_xdb64 t_xp10)
  | 6, _ => exact lrunG L hs hW (VRL.cons (.mark _ _ hm0) (VRL.cons (.mark _ _ hm1) (VRL.nil _))) (run502 t_xdb32 t_xdb64 t_xp10)
  | 7, _ => exact lrunG L hs hW (VRL.cons (.mark _ _ hm0) (VRL.cons (.mark _ _ hm1) (VRL.nil _))) (run503 t_xdb32 t_xdb64 t_xp10)
  | k + 8, hk => exact absurd hk (by simp only [Nat.reducePow]; omega)
theorem row63 : Row 63 := fun n0 n1 hm0 W t_xdb32 t_xdb64 t_xp10 L hs hW => by
  obtain ⟨k1, hk1, hm1⟩ := mark_bits (k := 3) (by decide) n1
  match k1, hk1 with
  | 0, _ => exact lrunG L hs hW (VRL.cons (.mark _ _ hm0) (VRL.cons (.mark _ _ hm1) (VRL.nil _))) (run504 t_xdb32 t_xdb64 t_xp10)
  | 1, _ => exact lrunG L hs hW (VRL.cons (.mark _ _ hm0) (VRL.cons (.mark _ _ hm1) (VRL.nil _))) (run505 t_xdb32 t_xdb64 t_xp10)
  | 2, _ => exact lrunG L hs hW (VRL.cons (.mark _ _ hm0) (VRL.cons (.mark _ _ hm1) (VRL.nil _))) (run506 t_xdb32 t_xdb64 t_xp10)
  | 3, _ => exact lrunG L hs hW (VRL.cons (.mark _ _ hm0) (VRL.cons (.mark _ _ hm1) (VRL.nil _))) (run507 t_xdb32 t_xdb64 t_xp10)
  | 4, _ => exact lrunG L hs hW (VRL.cons (.mark _ _ hm0) (VRL.cons (.mark _ _ hm1) (VRL.nil _))) (run508 t_xdb32 t_xdb64 t_xp10)
  | 5, _ => exact lrunG L hs hW (VRL.cons (.mark _ _ hm0) (VRL.cons (.mark _ _ hm1) (VRL.nil _))) (run509 t_xdb32 t_xdb64 t_xp10)
  | 6, _ => exact lrunG L hs hW (VRL.cons (.mark _ _ hm0) (VRL.cons (.mark _ _ hm1) (VRL.nil _))) (run510 t_xdb32 t_xdb64 t_xp10)
  | 7, _ => exact lrunG L hs hW (VRL.cons (.mark _ _ hm0) (VRL.cons (.mark _ _ hm1) (VRL.nil _))) (run511 t_xdb32 t_xdb64 t_xp10)
  | k + 8, hk => exact absurd hk (by simp only [Nat.reducePow]; omega)
theorem row64 : Row 64 := fun n0 n1 hm0 W t_xdb32 t_xdb64 t_xp10 L hs hW => by
  obtain ⟨k1, hk1, hm1⟩ := mark_bits (k := 3) (by decide) n1
  match k1, hk1 with
  | 0, _ => exact lrunG L hs hW (VRL.cons (.mark _ _ hm0) (VRL.cons (.mark _ _ hm1) (VRL.nil _))) (run512 t_xdb32 t_xdb64 t_xp10)
  | 1, _ => exact lrunG L hs hW (VRL.cons (.mark _ _ hm0) (VRL.cons (.mark _ _ hm1) (VRL.nil _))) (run513 t_xdb32 t_xdb64 t_xp10)
  | 2, _ => exact lrunG L hs hW (VRL.cons (.mark _ _ hm0) (VRL.cons (.mark _ _ hm1) (VRL.nil _))) (run514 t_xdb32 t_xdb64 t_xp10)
  | 3, _ => exact lrunG L hs hW (VRL.cons (.mark _ _ hm0) (VRL.cons (.mark _ _ hm1) (VRL.nil _))) (run515 t_xdb32 t_xdb64 t_xp10)
  | 4, _ => exact lrunG L hs hW (VRL.cons (.mark _ _ hm0) (VRL.cons (.mark _ _ hm1) (VRL.nil _))) (run516 t_xdb32 t_xdb64 t_xp10)
  | 5, _ => exact lrunG L hs hW (VRL.cons (.mark _ _ hm0) (VRL.cons (.mark _ _ hm1) (VRL.nil _))) (run517 t_xdb32 t_xdb64 t_xp10)
  | 6, _ => exact lrunG L hs hW (VRL.cons (.mark _ _ hm0) (VRL.cons (.mark _ _ hm1) (VRL.nil _))) (run518 t_xdb32 t_xdb64 t_xp10)
  | 7, _ => exact lrunG L hs hW (VRL.cons (.mark _ _ hm0) (VRL.cons (.mark _ _ hm1) (VRL.nil _))) (run519 t_xdb32 t_xdb64 t_xp10)
  | k + 8, hk => exact absurd hk (by simp only [Nat.reducePow]; omega)
theorem row65 : Row 65 := fun n0 n1 hm0 W t_xdb32 t_xdb64 t_xp10 L hs hW => by
  obtain ⟨k1, hk1, hm1⟩ := mark_bits (k := 3) (by decide) n1
  match k1, hk1 with
  | 0, _ => exact lrunG L hs hW (VRL.cons (.mark _ _ hm0) (VRL.cons (.mark _ _ hm1) (VRL.nil _))) (run520 t_xdb32 t_xdb64 t_xp10)
  | 1, _ => exact lrunG L hs hW (VRL.cons (.mark _ _ hm0) (VRL.cons (.mark _ _ hm1) (VRL.nil _))) (run521 t_xdb32 t_xdb64 t_xp10)
  | 2, _ => exact lrunG L hs hW (VRL.cons (.mark _ _ hm0) (VRL.cons (.mark _ _ hm1) (VRL.nil _))) (run522 t_xdb32 t_xdb64 t_xp10)
  | 3, _ => exact lrunG L hs hW (VRL.cons (.mark _ _ hm0) (VRL.cons (.mark _ _ hm1) (VRL.nil _))) (run523 t_xdb32 t_xdb64 t_xp10)
  | 4, _ => exact lrunG L hs hW (VRL.cons (.mark _ _ hm0) (VRL.cons (.mark _ _ hm1) (VRL.nil _))) (run524 t_xdb32 t_xdb64 t_xp10)
  | 5, _ => exact lrunG L hs hW (VRL.cons (.mark _ _ hm0) (VRL.cons (.mark _ _ hm1) (VRL.nil _))) (run525 t_xdb32 t_xdb64 t_xp10)
  | 6, _ => exact lrunG L hs hW (VRL.cons (.mark _ _ hm0) (VRL.cons (.mark _ _ hm1) (VRL.nil _))) (run526 t_xdb32 t_xdb64 t_xp10)
  | 7, _ => exact lrunG L hs hW (VRL.cons (.mark _ _ hm0) (VRL.cons (.mark _ _ hm1) (VRL.nil _))) (run527 t_xdb32 t_xdb64 t_xp10)
  | k + 8, hk => exact absurd hk (by simp only [Nat.reducePow]; omega)
theorem row66 : Row 66 := fun n0 n1 hm0 W t_xdb32 t_xdb64 t_xp10 L hs hW => by
  obtain ⟨k1, hk1, hm1⟩ := mark_bits (k := 3) (by decide) n1
  match k1, hk1 with
  | 0, _ => exact lrunG L hs hW (VRL.cons (.mark _ _ hm0) (VRL.cons (.mark _ _ hm1) (VRL.nil _))) (run528 t_xdb32 t_xdb64 t_xp10)
  | 1, _ => exact lrunG L hs hW (VRL.cons (.mark _ _ hm0) (VRL.cons (.mark _ _ hm1) (VRL.nil _))) (run529 t_xdb32 t_xdb64 t_xp10)
  | 2, _ => exact lrunG L hs hW (VRL.cons (.mark _ _ hm0) (VRL.cons (.mark _ _ hm1) (VRL.nil _))) (run530 t_xdb32 t_xdb64 t_xp10)
  | 3, _ => exact lrunG L hs hW (VRL.cons (.mark _ _ hm0) (VRL.cons (.mark _ _ hm1) (VRL.nil _))) (run531 t_xdb32 t_xdb64 t_xp10)
  | 4, _ => exact lrunG L hs hW (VRL.cons (.mark _ _ hm0) (VRL.cons (.mark _ _ hm1) (VRL.nil _))) (run532 t_xdb32 t_xdb64 t_xp10)
  | 5, _ => exact lrunG L hs hW (VRL.cons (.mark _ _ hm0) (VRL.cons (.mark _ _ hm1) (VRL.nil _))) (run533 t_xdb32 t_xdb64 t_xp10)
  | 6, _ => exact lrunG L hs hW (VRL.cons (.mark _ _ hm0) (VRL.cons (.mark _ _ hm1) (VRL.nil _))) (run534 t_xdb32 t_xdb64 t_xp10)
  | 7, _ => exact lrunG L hs hW (VRL.cons (.mark _ _ hm0) (VRL.cons (.mark _ _ hm1) (VRL.nil _))) (run535 t_xdb32 t_xdb64 t_xp10)
  | k + 8, hk => exact absurd hk (by simp only [Nat.reducePow]; omega)
theorem row67 : Row 67 := fun n0 n1 hm0 W t_xdb32 t_xdb64 t_xp10 L hs hW => by
  obtain ⟨k1, hk1, hm1⟩ := mark_bits (k := 3) (by decide) n1
  match k1, hk1 with
  | 0, _ => exact lrunG L hs hW (VRL.cons (.mark _ _ hm0) (VRL.cons (.mark _ _ hm1) (VRL.nil _))) (run536 t_xdb32 t_xdb64 t_xp10)
  | 1, _ => exact lrunG L hs hW (VRL.cons (.mark _ _ hm0) (VRL.cons (.mark _ _ hm1) (VRL.nil _))) (run537 t_xdb32 t_xdb64 t_xp10)
  | 2, _ => exact lrunG L hs hW (VRL.cons (.mark _ _ hm0) (VRL.cons (.mark _ _ hm1) (VRL.nil _))) (run538 t_xdb32 t_xdb64 t_xp10)
  | 3, _ => exact lrunG L hs hW (VRL.cons (.mark _ _ hm0) (VRL.cons (.mark _ _ hm1) (VRL.nil _))) (run539 t_xdb32 t_xdb64 t_xp10)
  | 4, _ => exact lrunG L hs hW (VRL.cons (.mark _ _ hm0) (VRL.cons (.mark _ _ hm1) (VRL.nil _))) (run540 t_xdb32 t_xdb64 t_xp10)
  | 5, _ => exact lrunG L hs hW (VRL.cons (.mark _ _ hm0) (VRL.cons (.mark _ _ hm1) (VRL.nil _))) (run541 t_xdb32 t_xdb64 t_xp10)
  | 6, _ => exact lrunG L hs hW (VRL.cons (.mark _ _ hm0) (VRL.cons (.mark _ _ hm1) (VRL.nil _))) (run542 t_xdb32 t_xdb64 t_xp10)
  | 7, _ => exact lrunG L hs hW (VRL.cons (.mark _ _ hm0) (VRL.cons (.mark _ _ hm1) (VRL.nil _))) (run543 t_xdb32 t_xdb64 t_xp10)
  | k + 8, hk => exact absurd hk (by simp only [Nat.reducePow]; omega)
theorem row68 : Row 68 := fun n0 n1 hm0 W t_xdb32 t_xdb64 t_xp10 L hs hW => by
  obtain ⟨k1, hk1, hm1⟩ := mark_bits (k := 3) (by decide) n1
  match k1, hk1 with
  | 0, _ => exact lrunG L hs hW (VRL.cons (.mark _ _ hm0) (VRL.cons (.mark _ _ hm1) (VRL.nil _))) (run544 t_xdb32 t_xdb64 t_xp10)
  | 1, _ => exact lrunG L hs hW (VRL.cons (.mark _ _ hm0) (VRL.cons (.mark _ _ hm1) (VRL.nil _))) (run545 t_xdb32 t_xdb64 t_xp10)
  | 2, _ => exact lrunG L hs hW (VRL.cons (.mark _ _ hm0) (VRL.cons (.mark _ _ hm1) (VRL.nil _))) (run546 t_xdb32 t_xdb64 t_xp10)
  | 3, _ => exact lrunG L hs hW (VRL.cons (.mark _ _ hm0) (VRL.cons (.mark _ _ hm1) (VRL.nil _))) (run547 t_xdb32 t_xdb64 t_xp10)
  | 4, _ => exact lrunG L hs hW (VRL.cons (.mark _ _ hm0) (VRL.cons (.mark _ _ hm1) (VRL.nil _))) (run548 t_xdb32 t_xdb64 t_xp10)
  | 5, _ => exact lrunG L hs hW (VRL.cons (.mark _ _ hm0) (VRL.cons (.mark _ _ hm1) (VRL.nil _))) (run549 t_xdb32 t_xdb64 t_xp10)
  | 6, _ => exact lrunG L hs hW (VRL.cons (.mark _ _ hm0) (VRL.cons (.mark _ _ hm1) (VRL.nil _))) (run550 t_xdb32 t_xdb64 t_xp10)
  | 7, _ => exact lrunG L hs hW (VRL.cons (.mark _ _ hm0) (VRL.cons (.mark _ _ hm1) (VRL.nil _))) (run551 t_xdb32 t_xdb64 t_xp10)
  | k + 8, hk => exact absurd hk (by simp only [Nat.reducePow]; omega)
theorem row69 : Row 69 := fun n0 n1 hm0 W t_xdb32 t_xdb64 t_xp10 L hs hW => by
  obtain ⟨k1, hk1, hm1⟩ := mark_bits (k := 3) (by decide) n1
  match k1, hk1 with
  | 0, _ => exact lrunG L hs hW (VRL.cons (.mark _ _ hm0) (VRL.cons (.mark _ _ hm1) (VRL.nil _))) (run552 t_xdb32 t_xdb64 t_xp10)
  | 1, _ => exact lrunG L hs hW (VRL.cons (.mark _ _ hm0) (VRL.cons (.mark _ _ hm1) (VRL.nil _))) (run553 t_xdb32 t_xdb64 t_xp10)
  | 2, _ => exact lrunG L hs hW (VRL.cons (.mark _ _ hm0) (VRL.cons (.mark _ _ hm1) (VRL.nil _))) (run554 t_xdb32 t_xdb64 t_xp10)
  | 3, _ => exact lrunG L hs hW (VRL.cons (.mark _ _ hm0) (VRL.cons (.mark _ _ hm1) (VRL.nil _))) (run555 t_xdb32 t_xdb64 t_xp10)
  | 4, _ => exact lrunG L hs hW (VRL.cons (.mark _ _ hm0) (VRL.cons (.mark _ _ hm1) (VRL.nil _))) (run556 t_xdb32 t_xdb64 t_xp10)
  | 5, _ => exact lrunG L hs hW (VRL.cons (.mark _ _ hm0) (VRL.cons (.mark _ _ hm1) (VRL.nil _))) (run557 t_xdb32 t_xdb64 t_xp10)
  | 6, _ => exact lrunG L hs hW (VRL.cons (.mark _ _ hm0) (VRL.cons (.mark _ _ hm1) (VRL.nil _))) (run558 t_xdb32 t_xdb64 t_xp10)
  | 7, _ => exact lrunG L hs hW (VRL.cons (.mark _ _ hm0) (VRL.cons (.mark _ _ hm1) (VRL.nil _))) (run559 t_xdb32 t_xdb64 t_xp10)
  | k + 8, hk => exact absurd hk (by simp only [Nat.reducePow]; omega)
theorem row70 : Row 70 := fun n0 n1 hm0 W t_xdb32 t_xdb64 t_xp10 L hs hW => by
  obtain ⟨k1, hk1, hm1⟩ := mark_bits (k := 3) (by decide) n1
  match k1, hk1 with
  | 0, _ => exact lrunG L hs hW (VRL.cons (.mark _ _ hm0) (VRL.cons (.mark _ _ hm1) (VRL.nil _))) (run560 t_xdb32 t_xdb64 t_xp10)
  | 1, _ => exact lrunG L hs hW (VRL.cons (.mark _ _ hm0) (VRL.cons (.mark _ _ hm1) (VRL.nil _))) (run561 t_xdb32 t_xdb64 t_xp10)
  | 2, _ => exact lrunG L hs hW (VRL.cons (.mark _ _ hm0) (VRL.cons (.mark _ _ hm1) (VRL.nil _))) (run562 t_xdb32 t_xdb64 t_xp10)
  | 3, _ => exact lrunG L hs hW (VRL.cons (.mark _ _ hm0) (VRL.cons (.mark _ _ hm1) (VRL.nil _))) (run563 t_xdb32 t_xdb64 t_xp10)
  | 4, _ => exact lrunG L hs hW (VRL.cons (.mark _ _ hm0) (VRL.cons (.mark _ _ hm1) (VRL.nil _))) (run564 t_xdb32 t_xdb64 t_xp10)
  | 5, _ => exact lrunG L hs hW (VRL.cons (.mark _ _ hm0) (VRL.cons (.mark _ _ hm1) (VRL.nil _))) (run565 t_xdb32 t_xdb64 t_xp10)
  | 6, _ => exact lrunG L hs hW (VRL.cons (.mark _ _ hm0) (VRL.cons (.mark _ _ hm1) (VRL.nil _))) (run566 t_xdb32 t_xdb64 t_xp10)
  | 7, _ => exact lrunG L hs hW (VRL.cons (.mark _ _ hm0) (VRL.cons (.mark _ _ hm1) (VRL.nil _))) (run567 t_xdb32 t_xdb64 t_xp10)
  | k + 8, hk => exact absurd hk (by simp only [Nat.reducePow]; omega)
theorem row71 : Row 71 := fun n0 n1 hm0 W t_xdb32 t_xdb64 t_xp10 L hs hW => by
  obtain ⟨k1, hk1, hm1⟩ := mark_bits (k := 3) (by decide) n1
  match k1, hk1 with
  | 0, _ => exact lrunG L hs hW (VRL.cons (.mark _ _ hm0) (VRL.cons (.mark _ _ hm1) (VRL.nil _))) (run568 t_xdb32 t_xdb64 t_xp10)
  | 1, _ => exact lrunG L hs hW (VRL.cons (.mark _ _ hm0) (VRL.cons (.mark _ _ hm1) (VRL.nil _))) (run569 t_xdb32 t_xdb64 t_xp10)
  | 2, _ => exact lrunG L hs hW (VRL.cons (.mark _ _ hm0) (VRL.cons (.mark _ _ hm1) (VRL.nil _))) (run570 t_xdb32 t_xdb64 t_xp10)
  | 3, _ => exact lrunG L hs hW (VRL.cons (.mark _ _ hm0) (VRL.cons (.mark _ _ hm1) (VRL.nil _))) (run571 t_xdb32 t_xdb64 t_xp10)
  | 4, _ => exact lrunG L hs hW (VRL.cons (.mark _ _ hm0) (VRL.cons (.mark _ _ hm1) (VRL.nil _))) (run572 t_xdb32 t_xdb64 t_xp10)
  | 5, _ => exact lrunG L hs hW (VRL.cons (.mark _ _ hm0) (VRL.cons (.mark _ _ hm1) (VRL.nil _))) (run573 t_xdb32 t_xdb64 t_xp10)
  | 6, _ => exact lrunG L hs hW (VRL.cons (.mark _ _ hm0) (VRL.cons (.mark _ _ hm1) (VRL.nil _))) (run574 t_xdb32 t_xdb64 t_xp10)
  | 7, _ => exact lrunG L hs hW (VRL.cons (.mark _ _ hm0) (VRL.cons (.mark _ _ hm1) (VRL.nil _))) (run575 t_xdb32 t_xdb64 t_xp10)
  | k + 8, hk => exact absurd hk (by simp only [Nat.reducePow]; omega)
theorem row72 : Row 72 := fun n0 n1 hm0 W t_xdb32 t_xdb64 t_xp10 L hs hW => by
  obtain ⟨k1, hk1, hm1⟩ := mark_bits (k := 3) (by decide) n1
  match k1, hk1 with
  | 0, _ => exact lrunG L hs hW (VRL.cons (.mark _ _ hm0) (VRL.cons (.mark _ _ hm1) (VRL.nil _))) (run576 t_xdb32 t_xdb64 t_xp10)
  | 1, _ => exact lrunG L hs hW (VRL.cons (.mark _ _ hm0) (VRL.cons (.mark _ _ hm1) (VRL.nil _))) (run577 t_xdb32 t_xdb64 t_xp10)
  | 2, _ => exact lrunG L hs hW (VRL.cons (.mark _ _ hm0) (VRL.cons (.mark _ _ hm1) (VRL.nil _))) (run578 t_xdb32 t_xdb64 t_xp10)
  | 3, _ => exact lrunG L hs hW (VRL.cons (.mark _ _ hm0) (VRL.cons (.mark _ _ hm1) (VRL.nil _))) (run579 t_xdb32 t_xdb64 t_xp10)
  | 4, _ => exact lrunG L hs hW (VRL.cons (.mark _ _ hm0) (VRL.cons (.mark _ _ hm1) (VRL.nil _))) (run580 t_xdb32 t_xdb64 t_xp10)
  | 5, _ => exact lrunG L hs hW (VRL.cons (.mark _ _ hm0) (VRL.cons (.mark _ _ hm1) (VRL.nil _))) (run581 t_xdb32 t_xdb64 t_xp10)
  | 6, _ => exact lrunG L hs hW (VRL.cons (.mark _ _ hm0) (VRL.cons (.mark _ _ hm1) (VRL.nil _))) (run582 t_xdb32 t_xdb64 t_xp10)
  | 7, _ => exact lrunG L hs hW (VRL.cons (.mark _ _ hm0) (VRL.cons (.mark _ _ hm1) (VRL.nil _))) (run583 t_xdb32 t_xdb64 t_xp10)
  | k + 8, hk => exact absurd hk (by simp only [Nat.reducePow]; omega)
theorem row73 : Row 73 := fun n0 n1 hm0 W t_xdb32 t_xdb64 t_xp10 L hs hW => by
  obtain ⟨k1, hk1, hm1⟩ := mark_bits (k := 3) (by decide) n1
  match k1, hk1 with
  | 0, _ => exact lrunG L hs hW (VRL.cons (.mark _ _ hm0) (VRL.cons (.mark _ _ hm1) (VRL.nil _))) (run584 t_xdb32 t_xdb64 t_xp10)
  | 1, _ => exact lrunG L hs hW (VRL.cons (.mark _ _ hm0) (VRL.cons (.mark _ _ hm1) (VRL.nil _))) (run585 t_xdb32 t_xdb64 t_xp10)
  | 2, _ => exact lrunG L hs hW (VRL.cons (.mark _ _ hm0) (VRL.cons (.mark _ _ hm1) (VRL.nil _))) (run586 t_xdb32 t_xdb64 t_xp10)
  | 3, _ => exact lrunG L hs hW (VRL.cons (.mark _ _ hm0) (VRL.cons (.mark _ _ hm1) (VRL.nil _))) (run587 t_xdb32 t_xdb64 t_xp10)
  | 4, _ => exact lrunG L hs hW (VRL.cons (.mark _ _ hm0) (VRL.cons (.mark _ _ hm1) (VRL.nil _))) (run588 t_xdb32 t_xdb64 t_xp10)
  | 5, _ => exact lrunG L hs hW (VRL.cons (.mark _ _ hm0) (VRL.cons (.mark _ _ hm1) (VRL.nil _))) (run589 t_xdb32 t_xdb64 t_xp10)
  | 6, _ => exact lrunG L hs hW (VRL.cons (.mark _ _ hm0) (VRL.cons (.mark _ _ hm1) (VRL.nil _))) (run590 t_xdb32 t_xdb64 t_xp10)
  | 7, _ => exact lrunG L hs hW (VRL.cons (.mark _ _ hm0) (VRL.cons (.mark _ _ hm1) (VRL.nil _))) (run591 t_xdb32 t_xdb64 t_xp10)
  | k + 8, hk => exact absurd hk (by simp only [Nat.reducePow]; omega)
theorem row74 : Row 74 := fun n0 n1 hm0 W t_xdb32 t_xdb64 t_xp10 L hs hW => by
  obtain ⟨k1, hk1, hm1⟩ := mark_bits (k := 3) (by decide) n1
  match k1, hk1 with
  | 0, _ => exact lrunG L hs hW (VRL.cons (.mark _ _ hm0) (VRL.cons (.mark _ _ hm1) (VRL.nil _))) (run592 t_xdb32 t_xdb64 t_xp10)
  | 1, _ => exact lrunG L hs hW (VRL.cons (.mark _ _ hm0) (VRL.cons (.mark _ _ hm1) (VRL.nil _))) (run593 t_xdb32 t_xdb64 t_xp10)
  | 2, _ => exact lrunG L hs hW (VRL.cons (.mark _ _ hm0) (VRL.cons (.mark _ _ hm1) (VRL.nil _))) (run594 t_xdb32 t_xdb64 t_xp10)
  | 3, _ => exact lrunG L hs hW (VRL.cons (.mark _ _ hm0) (VRL.cons (.mark _ _ hm1) (VRL.nil _))) (run595 t_xdb32 t_xdb64 t_xp10)
  | 4, _ => exact lrunG L hs hW (VRL.cons (.mark _ _ hm0) (VRL.cons (.mark _ _ hm1) (VRL.nil _))) (run596 t_xdb32 t_xdb64 t_xp10)
  | 5, _ => exact lrunG L hs hW (VRL.cons (.mark _ _ hm0) (VRL.cons (.mark _ _ hm1) (VRL.nil _))) (run597 t_xdb32 t_xdb64 t_xp10)
  | 6, _ => exact lrunG L hs hW (VRL.cons (.mark _ _ hm0) (VRL.cons (.mark _ _ hm1) (VRL.nil _))) (run598 t_xdb32 t_xdb64 t_xp10)
  | 7, _ => exact lrunG L hs hW (VRL.cons (.mark _ _ hm0) (VRL.cons (.mark _ _ hm1) (VRL.nil _))) (run599 t_xdb32 t_xdb64 t_xp10)
  | k + 8, hk => exact absurd hk (by simp only [Nat.reducePow]; omega)
theorem row75 : Row 75 := fun n0 n1 hm0 W t_xdb32 t_xdb64 t_xp10 L hs hW => by
  obtain ⟨k1, hk1, hm1⟩ := mark_bits (k := 3) (by decide) n1
  match k1, hk1 with
  | 0, _ => exact lrunG L hs hW (VRL.cons (.mark _ _ hm0) (VRL.cons (.mark _ _ hm1) (VRL.nil _))) (run600 t_xdb32 t_xdb64 t_xp10)
  | 1, _ => exact lrunG L hs hW (VRL.cons (.mark _ _ hm0) (VRL.cons (.mark _ _ hm1) (VRL.nil _))) (run601 t_xdb32 t_xdb64 t_xp10)
  | 2, _ => exact lrunG L hs hW (VRL.cons (.mark _ _ hm0) (VRL.cons (.mark _ _ hm1) (VRL.nil _))) (run602 t_xdb32 t_xdb64 t_xp10)
  | 3, _ => exact lrunG L hs hW (VRL.cons (.mark _ _ hm0) (VRL.cons (.mark _ _ hm1) (VRL.nil _))) (run603 t_xdb32 t_xdb64 t_xp10)
  | 4, _ => exact lrunG L hs hW (VRL.cons (.mark _ _ hm0) (VRL.cons (.mark _ _ hm1) (VRL.nil _))) (run604 t_xdb32 t_xdb64 t_xp10)
  | 5, _ => exact lrunG L hs hW (VRL.cons (.mark _ _ hm0) (VRL.cons (.mark _ _ hm1) (VRL.nil _))) (run605 t_xdb32 t_xdb64 t_xp10)
  | 6, _ => exact lrunG L hs hW (VRL.cons (.mark _ _ hm0) (VRL.cons (.mark _ _ hm1) (VRL.nil _))) (run606 t_xdb32 t_xdb64 t_xp10)
  | 7, _ => exact lrunG L hs hW (VRL.cons (.mark _ _ hm0) (VRL.cons (.mark _ _ hm1) (VRL.nil _))) (run607 t_xdb32 t_xdb64 t_xp10)
  | k + 8, hk => exact absurd hk (by simp only [Nat.reducePow]; omega)
theorem row76 : Row 76 := fun n0 n1 hm0 W t_xdb32 t_xdb64 t_xp10 L hs hW => by
  obtain ⟨k1, hk1, hm1⟩ := mark_bits (k := 3) (by decide) n1
  match k1, hk1 with
  | 0, _ => exact lrunG L hs hW (VRL.cons (.mark _ _ hm0) (VRL.cons (.mark _ _ hm1) (VRL.nil _))) (run608 t_xdb32 t_xdb64 t_xp10)
  | 1, _ => exact lrunG L hs hW (VRL.cons (.mark _ _ hm0) (VRL.cons (.mark _ _ hm1) (VRL.nil _))) (run609 t_xdb32 t_xdb64 t_xp10)
  | 2, _ => exact lrunG L hs hW (VRL.cons (.mark _ _ hm0) (VRL.cons (.mark _ _ hm1) (VRL.nil _))) (run610 t_xdb32 t_xdb64 t_xp10)
  | 3, _ => exact lrunG L hs hW (VRL.cons (.mark _ _ hm0) (VRL.cons (.mark _ _ hm1) (VRL.nil _))) (run611 t_xdb32 t_xdb64 t_xp10)
  | 4, _ => exact lrunG L hs hW (VRL.cons (.mark _ _ hm0) (VRL.cons (.mark _ _ hm1) (VRL.nil _))) (run612 t_xdb32 t_xdb64 t_xp10)
  | 5, _ => exact lrunG L hs hW (VRL.cons (.mark _ _ hm0) (VRL.cons (.mark _ _ hm1) (VRL.nil _))) (run613 t_xdb32 t_xdb64 t_xp10)
  | 6, _ => exact lrunG L hs hW (VRL.cons (.mark _ _ hm0) (VRL.cons (.mark _ _ hm1) (VRL.nil _))) (run614 t_xdb32 t_xdb64 t_xp10)
  | 7, _ => exact lrunG L hs hW (VRL.cons (.mark _ _ hm0) (VRL.cons (.mark _ _ hm1) (VRL.nil _))) (run615 t_xdb32 t_xdb64 t_xp10)
  | k + 8, hk => exact absurd hk (by simp only [Nat.reducePow]; omega)
theorem row77 : Row 77 := fun n0 n1 hm0 W t_xdb32 t_xdb64 t_xp10 L hs hW => by
  obtain ⟨k1, hk1, hm1⟩ := mark_bits (k := 3) (by decide) n1
  match k1, hk1 with
  | 0, _ => exact lrunG L hs hW (VRL.cons (.mark _ _ hm0) (VRL.cons (.mark _ _ hm1) (VRL.nil _))) (run616 t_xdb32 t_xdb64 t_xp10)
  | 1, _ => exact lrunG L hs hW (VRL.cons (.mark _ _ hm0) (VRL.cons (.mark _ _ hm1) (VRL.nil _))) (run617 t_xdb32 t_xdb64 t_xp10)
  | 2, _ => exact lrunG L hs hW (VRL.cons (.mark _ _ hm0) (VRL.cons (.mark _ _ hm1) (VRL.nil _))) (run618 t_xdb32 t_xdb64 t_xp10)
  | 3, _ => exact lrunG L hs hW (VRL.cons (.mark _ _ hm0) (VRL.cons (.mark _ _ hm1) (VRL.nil _))) (run619 t_xdb32 t_xdb64 t_xp10)
  | 4, _ => exact lrunG L hs hW (VRL.cons (.mark _ _ hm0) (VRL.cons (.mark _ _ hm1) (VRL.nil _))) (run620 t_xdb32 t_xdb64 t_xp10)
  | 5, _ => exact lrunG L hs hW (VRL.cons (.mark _ _ hm0) (VRL.cons (.mark _ _ hm1) (VRL.nil _))) (run621 t_xdb32 t_xdb64 t_xp10)
  | 6, _ => exact lrunG L hs hW (VRL.cons (.mark _ _ hm0) (VRL.cons (.mark _ _ hm1) (VRL.nil _))) (run622 t_xdb32 t_xdb64 t_xp10)
  | 7, _ => exact lrunG L hs hW (VRL.cons (.mark _ _ hm0) (VRL.cons (.mark _ _ hm1) (VRL.nil _))) (run623 t_xdb32 t_xdb64 t_xp10)
  | k + 8, hk => exact absurd hk (by simp only [Nat.reducePow]; omega)
theorem row78 : Row 78 := fun n0 n1 hm0 W t_xdb32 t_xdb64 t_xp10 L hs hW => by
  obtain ⟨k1, hk1, hm1⟩ := mark_bits (k := 3) (by decide) n1
  match k1, hk1 with
  | 0, _ => exact lrunG L hs hW (VRL.cons (.mark _ _ hm0) (VRL.cons (.mark _ _ hm1) (VRL.nil _))) (run624 t_xdb32 t_xdb64 t_xp10)
  | 1, _ => exact lrunG L hs hW (VRL.cons (.mark _ _ hm0) (VRL.cons (.mark _ _ hm1) (VRL.nil _))) (run625 t_xdb32 t_xdb64 t_xp10)
  | 2, _ => exact lrunG L hs hW (VRL.cons (.mark _ _ hm0) (VRL.cons (.mark _ _ hm1) (VRL.nil _))) (run626 t_xdb32 t_xdb64 t_xp10)
  | 3, _ => exact lrunG L hs hW (VRL.cons (.mark _ _ hm0) (VRL.cons (.mark _ _ hm1) (VRL.nil _))) (run627 t_xdb32 t_xdb64 t_xp10)
  | 4, _ => exact lrunG L hs hW (VRL.cons (.mark _ _ hm0) (VRL.cons (.mark _ _ hm1) (VRL.nil _))) (run628 t_xdb32 t_xdb64 t_xp10)
  | 5, _ => exact lrunG L hs hW (VRL.cons (.mark _ _ hm0) (VRL.cons (.mark _ _ hm1) (VRL.nil _))) (run629 t_xdb32 t_xdb64 t_xp10)
  | 6, _ => exact lrunG L hs hW (VRL.cons (.mark _ _ hm0) (VRL.cons (.mark _ _ hm1) (VRL.nil _))) (run630 t_xdb32 t_xdb64 t_xp10)
  | 7, _ => exact lrunG L hs hW (VRL.cons (.mark _ _ hm0) (VRL.cons (.mark _ _ hm1) (VRL.nil _))) (run631 t_xdb32 t_xdb64 t_xp10)
  | k + 8, hk => exact absurd hk (by simp only [Nat.reducePow]; omega)
theorem row79 : Row 79 := fun n0 n1 hm0 W t_xdb32 t_xdb64 t_xp10 L hs hW => by
  obtain ⟨k1, hk1, hm1⟩ := mark_bits (k := 3) (by decide) n1
  match k1, hk1 with
  | 0, _ => exact lrunG L hs hW (VRL.cons (.mark _ _ hm0) (VRL.cons (.mark _ _ hm1) (VRL.nil _))) (run632 t_xdb32 t_xdb64 t_xp10)
  | 1, _ => exact lrunG L hs hW (VRL.cons (.mark _ _ hm0) (VRL.cons (.mark _ _ hm1) (VRL.nil _))) (run633 t_xdb32 t_xdb64 t_xp10)
  | 2, _ => exact lrunG L hs hW (VRL.cons (.mark _ _ hm0) (VRL.cons (.mark _ _ hm1) (VRL.nil _))) (run634 t_xdb32 t_xdb64 t_xp10)
  | 3, _ => exact lrunG L hs hW (VRL.cons (.mark _ _ hm0) (VRL.cons (.mark _ _ hm1) (VRL.nil _))) (run635 t_xdb32 t_xdb64 t_xp10)
  | 4, _ => exact lrunG L hs hW (VRL.cons (.mark _ _ hm0) (VRL.cons (.mark _ _ hm1) (VRL.nil _))) (run636 t_xdb32 t_xdb64 t_xp10)
  | 5, _ => exact lrunG L hs hW (VRL.cons (.mark _ _ hm0) (VRL.cons (.mark _ _ hm1) (VRL.nil _))) (run637 t_xdb32 t_xdb64 t_xp10)
  | 6, _ => exact lrunG L hs hW (VRL.cons (.mark _ _ hm0) (VRL.cons (.mark _ _ hm1) (VRL.nil _))) (run638 t_xdb32 t_xdb64 t_xp10)
  | 7, _ => exact lrunG L hs hW (VRL.cons (.mark _ _ hm0) (VRL.cons (.mark _ _ hm1) (VRL.nil _))) (run639 t_xdb32 t_xdb64 t_xp10)
  | k + 8, hk => exact absurd hk (by simp only [Nat.reducePow]; omega)
theorem row80 : Row 80 := fun n0 n1 hm0 W t_xdb32 t_xdb64 t_xp10 L hs hW => by
  obtain ⟨k1, hk1, hm1⟩ := mark_bits (k := 3) (by decide) n1
  match k1, hk1 with
  | 0, _ => exact lrunG L hs hW (VRL.cons (.mark _ _ hm0) (VRL.cons (.mark _ _ hm1) (VRL.nil _))) (run640 t_xdb32 t_xdb64 t_xp10)
  | 1, _ => exact lrunG L hs hW (VRL.cons (.mark _ _ hm0) (VRL.cons (.mark _ _ hm1) (VRL.nil _))) (run641 t_xdb32 t_xdb64 t_xp10)
  | 2, _ => exact lrunG L hs hW (VRL.cons (.mark _ _ hm0) (VRL.cons (.mark _ _ hm1) (VRL.nil _))) (run642 t_xdb32 t_xdb64 t_xp10)
  | 3, _ => exact lrunG L hs hW (VRL.cons (.mark _ _ hm0) (VRL.cons (.mark _ _ hm1) (VRL.nil _))) (run643 t_xdb32 t_xdb64 t_xp10)
  | 4, _ => exact lrunG L hs hW (VRL.cons (.mark _ _ hm0) (VRL.cons (.mark _ _ hm1) (VRL.nil _))) (run644 t_xdb32 t_xdb64 t_xp10)
  | 5, _ => exact lrunG L hs hW (VRL.cons (.mark _ _ hm0) (VRL.cons (.mark _ _ hm1) (VRL.nil _))) (run645 t_xdb32 t_xdb64 t_xp10)
  | 6, _ => exact lrunG L hs hW (VRL.cons (.mark _ _ hm0) (VRL.cons (.mark _ _ hm1) (VRL.nil _))) (run646 t_xdb32 t_xdb64 t_xp10)
  | 7, _ => exact lrunG L hs hW (VRL.cons (.mark _ _ hm0) (VRL.cons (.mark _ _ hm1) (VRL.nil _))) (run647 t_xdb32 t_xdb64 t_xp10)
  | k + 8, hk => exact absurd hk (by simp only [Nat.reducePow]; omega)
theorem row81 : Row 81 := fun n0 n1 hm0 W t_xdb32 t_xdb64 t_xp10 L hs hW => by
  obtain ⟨k1, hk1, hm1⟩ := mark_bits (k := 3) (by decide) n1
  match k1, hk1 with
  | 0, _ => exact lrunG L hs hW (VRL.cons (.mark _ _ hm0) (VRL.cons (.mark _ _ hm1) (VRL.nil _))) (run648 t_xdb32 t_xdb64 t_xp10)
  | 1, _ => exact lrunG L hs hW (VRL.cons (.mark _ _ hm0) (VRL.cons (.mark _ _ hm1) (VRL.nil _))) (run649 t_xdb32 t_xdb64 t_xp10)
  | 2, _ => exact lrunG L hs hW (VRL.cons (.mark _ _ hm0) (VRL.cons (.mark _ _ hm1) (VRL.nil _))) (run650 t_xdb32 t_xdb64 t_xp10)
  | 3, _ => exact lrunG L hs hW (VRL.cons (.mark _ _ hm0) (VRL.cons (.mark _ _ hm1) (VRL.nil _))) (run651 t_xdb32 t_xdb64 t_xp10)
  | 4, _ => exact lrunG L hs hW (VRL.cons (.mark _ _ hm0) (VRL.cons (.mark _ _ hm1) (VRL.nil _))) (run652 t_xdb32 t_xdb64 t_xp10)
  | 5, _ => exact lrunG L hs hW (VRL.cons (.mark _ _ hm0) (VRL.cons (.mark _ _ hm1) (VRL.nil _))) (run653 t_xdb32 t_xdb64 t_xp10)
  | 6, _ => exact lrunG L hs hW (VRL.cons (.mark _ _ hm0) (VRL.cons (.mark _ _ hm1) (VRL.nil _))) (run654 t_xdb32 t_xdb64 t_xp10)
  | 7, _ => exact lrunG L hs hW (VRL.cons (.mark _ _ hm0) (VRL.cons (.mark _ _ hm1) (VRL.nil _))) (run655 t_xdb32 t_xdb64 t_xp10)
  | k + 8, hk => exact absurd hk (by simp only [Nat.reducePow]; omega)
theorem row82 : Row 82 := fun n0 n1 hm0 W t_xdb32 t_xdb64 t_xp10 L hs hW => by
  obtain ⟨k1, hk1, hm1⟩ := mark_bits (k := 3) (by decide) n1
  match k1, hk1 with
  | 0, _ => exact lrunG L hs hW (VRL.cons (.mark _ _ hm0) (VRL.cons (.mark _ _ hm1) (VRL.nil _))) (run656 t_xdb32 t_xdb64 t_xp10)
  | 1, _ => exact lrunG L hs hW (VRL.cons (.mark _ _ hm0) (VRL.cons (.mark _ _ hm1) (VRL.nil _))) (run657 t_xdb32 t_xdb64 t_xp10)
  | 2, _ => exact lrunG L hs hW (VRL.cons (.mark _ _ hm0) (VRL.cons (.mark _ _ hm1) (VRL.nil _))) (run658 t_xdb32 t_xdb64 t_xp10)
  | 3, _ => exact lrunG L hs hW (VRL.cons (.mark _ _ hm0) (VRL.cons (.mark _ _ hm1) (VRL.nil _))) (run659 t_xdb32 t_xdb64 t_xp10)
  | 4, _ => exact lrunG L hs hW (VRL.cons (.mark _ _ hm0) (VRL.cons (.mark _ _ hm1) (VRL.nil _))) (run660 t_xdb32 t_xdb64 t_xp10)
  | 5, _ => exact lrunG L hs hW (VRL.cons (.mark _ _ hm0) (VRL.cons (.mark _ _ hm1) (VRL.nil _))) (run661 t_xdb32 t_xdb64 t_xp10)
  | 6, _ => exact lrunG L hs hW (VRL.cons (.mark _ _ hm0) (VRL.cons (.mark _ _ hm1) (VRL.nil _))) (run662 t_xdb32 t_xdb64 t_xp10)
  | 7, _ => exact lrunG L hs hW (VRL.cons (.mark _ _ hm0) (VRL.cons (.mark _ _ hm1) (VRL.nil _))) (run663 t_xdb32 t_xdb64 t_xp10)
  | k + 8, hk => exact absurd hk (by simp only [Nat.reducePow]; omega)
theorem row83 : Row 83 := fun n0 n1 hm0 W t_xdb32 t_xdb64 t_xp10 L hs hW => by
  obtain ⟨k1, hk1, hm1⟩ := mark_bits (k := 3) (by decide) n1
  match k1, hk1 with
  | 0, _ => exact lrunG L hs hW (VRL.cons (.mark _ _ hm0) (VRL.cons (.mark _ _ hm1) (VRL.nil _))) (run664 t_xdb32 t_xdb64 t_xp10)
  | 1, _ => exact lrunG L hs hW (VRL.cons (.mark _ _ hm0) (VRL.cons (.mark _ _ hm1) (VRL.nil _))) (run665 t_xdb32 t_xdb64 t_xp10)
  | 2, _ => exact lrunG L hs hW (VRL.cons (.mark _ _ hm0) (VRL.cons (.mark _ _ hm1) (VRL.nil _))) (run666 t_xdb32 t_xdb64 t_xp10)
  | 3, _ => exact lrunG L hs hW (VRL.cons (.mark _ _ hm0) (VRL.cons (.mark _ _ hm1) (VRL.nil _))) (run667 t_xdb32 t_xdb64 t_xp10)
  | 4, _ => exact lrunG L hs hW (VRL.cons (.mark _ _ hm0) (VRL.cons (.mark _ _ hm1) (VRL.nil _))) (run668 t_xdb32 t_xdb64 t_xp10)
  | 5, _ => exact lrunG L hs hW (VRL.cons (.mark _ _ hm0) (VRL.cons (.mark _ _ hm1) (VRL.nil _))) (run669 t_xdb32 t_xdb64 t_xp10)
  | 6, _ => exact lrunG L hs hW (VRL.cons (.mark _ _ hm0) (VRL.cons (.mark _ _ hm1) (VRL.nil _))) (run670 t_xdb32 t_xdb64 t_xp10)
  | 7, _ => exact lrunG L hs hW (VRL.cons (.mark _ _ hm0) (VRL.cons (.mark _ _ hm1) (VRL.nil _))) (run671 t_xdb32 t_xdb64 t_xp10)
  | k + 8, hk => exact absurd hk (by simp only [Nat.reducePow]; omega)
theorem row84 : Row 84 := fun n0 n1 hm0 W t_xdb32 t_xdb64 t_xp10 L hs hW => by
  obtain ⟨k1, hk1, hm1⟩ := mark_bits (k := 3) (by decide) n1
  match k1, hk1 with
  | 0, _ => exact lrunG L hs hW (VRL.cons (.mark _ _ hm0) (VRL.cons (.mark _ _ hm1) (VRL.nil _))) (run672 t_xdb32 t_xdb64 t_xp10)
  | 1, _ => exact lrunG L hs hW (VRL.cons (.mark _ _ hm0) (VRL.cons (.mark _ _ hm1) (VRL.nil _))) (run673 t_xdb32 t_xdb64 t_xp10)
  | 2, _ => exact lrunG L hs hW (VRL.cons (.mark _ _ hm0) (VRL.cons (.mark _ _ hm1) (VRL.nil _))) (run674 t_xdb32 t_xdb64 t_xp10)
  | 3, _ => exact lrunG L hs hW (VRL.cons (.mark _ _ hm0) (VRL.cons (.mark _ _ hm1) (VRL.nil _))) (run675 t_xdb32 t_xdb64 t_xp10)
  | 4, _ => exact lrunG L hs hW (VRL.cons (.mark _ _ hm0) (VRL.cons (.mark _ _ hm1) (VRL.nil _))) (run676 t_xdb32 t_xdb64 t_xp10)
  | 5, _ => exact lrunG L hs hW (VRL.cons (.mark _ _ hm0) (VRL.cons (.mark _ _ hm1) (VRL.nil _))) (run677 t_xdb32 t_xdb64 t_xp10)
  | 6, _ => exact lrunG L hs hW (VRL.cons (.mark _ _ hm0) (VRL.cons (.mark _ _ hm1) (VRL.nil _))) (run678 t_xdb32 t_xdb64 t_xp10)
  | 7, _ => exact lrunG L hs hW (VRL.cons (.mark _ _ hm0) (VRL.cons (.mark _ _ hm1) (VRL.nil _))) (run679 t_xdb32 t_xdb64 t_xp10)
  | k + 8, hk => exact absurd hk (by simp only [Nat.reducePow]; omega)
theorem row85 : Row 85 := fun n0 n1 hm0 W t_xdb32 t_xdb64 t_xp10 L hs hW => by
  obtain ⟨k1, hk1, hm1⟩ := mark_bits (k := 3) (by decide) n1
  match k1, hk1 with
  | 0, _ => exact lrunG L hs hW (VRL.cons (.mark _ _ hm0) (VRL.cons (.mark _ _ hm1) (VRL.nil _))) (run680 t_xdb32 t_xdb64 t_xp10)
  | 1, _ => exact lrunG L hs hW (VRL.cons (.mark _ _ hm0) (VRL.cons (.mark _ _ hm1) (VRL.nil _))) (run681 t_xdb32 t_xdb64 t_xp10)
  | 2, _ => exact lrunG L hs hW (VRL.cons (.mark _ _ hm0) (VRL.cons (.mark _ _ hm1) (VRL.nil _))) (run682 t_xdb32 t_xdb64 t_xp10)
  | 3, _ => exact lrunG L hs hW (VRL.cons (.mark _ _ hm0) (VRL.cons (.mark _ _ hm1) (VRL.nil _))) (run683 t_xdb32 t_xdb64 t_xp10)
  | 4, _ => exact lrunG L hs hW (VRL.cons (.mark _ _ hm0) (VRL.cons (.mark _ _ hm1) (VRL.nil _))) (run684 t_xdb32 t_xdb64 t_xp10)
  | 5, _ => exact lrunG L hs hW (VRL.cons (.mark _ _ hm0) (VRL.cons (.mark _ _ hm1) (VRL.nil _))) (run685 t_xdb32 t_xdb64 t_xp10)
  | 6, _ => exact lrunG L hs hW (VRL.cons (.mark _ _ hm0) (VRL.cons (.mark _ _ hm1) (VRL.nil _))) (run686 t_xdb32 t_xdb64 t_xp10)
  | 7, _ => exact lrunG L hs hW (VRL.cons (.mark _ _ hm0) (VRL.cons (.mark _ _ hm1) (VRL.nil _))) (run687 t_xdb32 t_xdb64 t_xp10)
  | k + 8, hk => exact absurd hk (by simp only [Nat.reducePow]; omega)
theorem row86 : Row 86 := fun n0 n1 hm0 W t_xdb32 t_xdb64 t_xp10 L hs hW => by
  obtain ⟨k1, hk1, hm1⟩ := mark_bits (k := 3) (by decide) n1
  match k1, hk1 with
  | 0, _ => exact lrunG L hs hW (VRL.cons (.mark _ _ hm0) (VRL.cons (.mark _ _ hm1) (VRL.nil _))) (run688 t_xdb32 t_xdb64 t_xp10)
  | 1, _ => exact lrunG L hs hW (VRL.cons (.mark _ _ hm0) (VRL.cons (.mark _ _ hm1) (VRL.nil _))) (run689 t_xdb32 t_xdb64 t_xp10)
  | 2, _ => exact lrunG L hs hW (VRL.cons (.mark _ _ hm0) (VRL.cons (.mark _ _ hm1) (VRL.nil _))) (run690 t_xdb32 t_xdb64 t_xp10)
  | 3, _ => exact lrunG L hs hW (VRL.cons (.mark _ _ hm0) (VRL.cons (.mark _ _ hm1) (VRL.nil _))) (run691 t_xdb32 t_xdb64 t_xp10)
  | 4, _ => exact lrunG L hs hW (VRL.cons (.mark _ _ hm0) (VRL.cons (.mark _ _ hm1) (VRL.nil _))) (run692 t_xdb32 t_xdb64 t_xp10)
  | 5, _ => exact lrunG L hs hW (VRL.cons (.mark _ _ hm0) (VRL.cons (.mark _ _ hm1) (VRL.nil _))) (run693 t_xdb32 t_xdb64 t_xp10)
  | 6, _ => exact lrunG L hs hW (VRL.cons (.mark _ _ hm0) (VRL.cons (.mark _ _ hm1) (VRL.nil _))) (run694 t_xdb32 t_xdb64 t_xp10)
  | 7, _ => exact lrunG L hs hW (VRL.cons (.mark _ _ hm0) (VRL.cons (.mark _ _ hm1) (VRL.nil _))) (run695 t_xdb32 t_xdb64 t_xp10)
  | k + 8, hk => exact absurd hk (by simp only [Nat.reducePow]; omega)
theorem row87 : Row 87 := fun n0 n1 hm0 W t_xdb32 t_xdb64 t_xp10 L hs hW => by
  obtain ⟨k1, hk1, hm1⟩ := mark_bits (k := 3) (by decide) n1
  match k1, hk1 with
  | 0, _ => exact lrunG L hs hW (VRL.cons (.mark _ _ hm0) (VRL.cons (.mark _ _ hm1) (VRL.nil _))) (run696 t_xdb32 t_xdb64 t_xp10)
  | 1, _ => exact lrunG L hs hW (VRL.cons (.mark _ _ hm0) (VRL.cons (.mark _ _ hm1) (VRL.nil _))) (run697 t_xdb32 t_xdb64 t_xp10)
  | 2, _ => exact lrunG L hs hW (VRL.cons (.mark _ _ hm0) (VRL.cons (.mark _ _ hm1) (VRL.nil _))) (run698 t_xdb32 t_xdb64 t_xp10)
  | 3, _ => exact lrunG L hs hW (VRL.cons (.mark _ _ hm0) (VRL.cons (.mark _ _ hm1) (VRL.nil _))) (run699 t_xdb32 t_xdb64 t_xp10)
  | 4, _ => exact lrunG L hs hW (VRL.cons (.mark _ _ hm0) (VRL.cons (.mark _ _ hm1) (VRL.nil _))) (run700 t_xdb32 t_xdb64 t_xp10)
  | 5, _ => exact lrunG L hs hW (VRL.cons (.mark _ _ hm0) (VRL.cons (.mark _ _ hm1) (VRL.nil _))) (run701 t_xdb32 t_xdb64 t_xp10)
  | 6, _ => exact lrunG L hs hW (VRL.cons (.mark _ _ hm0) (VRL.cons (.mark _ _ hm1) (VRL.nil _))) (run702 t_xdb32 t_xdb64 t_xp10)
  | 7, _ => exact lrunG L hs hW (VRL.cons (.mark _ _ hm0) (VRL.cons (.mark _ _ hm1) (VRL.nil _))) (run703 t_xdb32 t_xdb64 t_xp10)
  | k + 8, hk => exact absurd hk (by simp only [Nat.reducePow]; omega)
theorem row88 : Row 88 := fun n0 n1 hm0 W t_xdb32 t_xdb64 t_xp10 L hs hW => by
  obtain ⟨k1, hk1, hm1⟩ := mark_bits (k := 3) (by decide) n1
  match k1, hk1 with
  | 0, _ => exact lrunG L hs hW (VRL.cons (.mark _ _ hm0) (VRL.cons (.mark _ _ hm1) (VRL.nil _))) (run704 t_xdb32 t_xdb64 t_xp10)
  | 1, _ => exact lrunG L hs hW (VRL.cons (.mark _ _ hm0) (VRL.cons (.mark _ _ hm1) (VRL.nil _))) (run705 t_xdb32 t_xdb64 t_xp10)
  | 2, _ => exact lrunG L hs hW (VRL.cons (.mark _ _ hm0) (VRL.cons (.mark _ _ hm1) (VRL.nil _))) (run706 t_xdb32 t_xdb64 t_xp10)
  | 3, _ => exact lrunG L hs hW (VRL.cons (.mark _ _ hm0) (VRL.cons (.mark _ _ hm1) (VRL.nil _))) (run707 t_xdb32 t_xdb64 t_xp10)
  | 4, _ => exact lrunG L hs hW (VRL.cons (.mark _ _ hm0) (VRL.cons (.mark _ _ hm1) (VRL.nil _))) (run708 t_xdb32 t_xdb64 t_xp10)
  | 5, _ => exact lrunG L hs hW (VRL.cons (.mark _ _ hm0) (VRL.cons (.mark _ _ hm1) (VRL.nil _))) (run709 t_xdb32 t_xdb64 t_xp10)
  | 6, _ => exact lrunG L hs hW (VRL.cons (.mark _ _ hm0) (VRL.cons (.mark _ _ hm1) (VRL.nil _))) (run710 t_xdb32 t_xdb64 t_xp10)
  | 7, _ => exact lrunG L hs hW (VRL.cons (.mark _ _ hm0) (VRL.cons (.mark _ _ hm1) (VRL.nil _))) (run711 t_xdb32 t_xdb64 t_xp10)
  | k + 8, hk => exact absurd hk (by simp only [Nat.reducePow]; omega)
theorem row89 : Row 89 := fun n0 n1 hm0 W t_xdb32 t_xdb64 t_xp10 L hs hW => by
  obtain ⟨k1, hk1, hm1⟩ := mark_bits (k := 3) (by decide) n1
  match k1, hk1 with
  | 0, _ => exact lrunG L hs hW (VRL.cons (.mark _ _ hm0) (VRL.cons (.mark _ _ hm1) (VRL.nil _))) (run712 t_xdb32 t_xdb64 t_xp10)
  | 1, _ => exact lrunG L hs hW (VRL.cons (.mark _ _ hm0) (VRL.cons (.mark _ _ hm1) (VRL.nil _))) (run713 t_xdb32 t_xdb64 t_xp10)
  | 2, _ => exact lrunG L hs hW (VRL.cons (.mark _ _ hm0) (VRL.cons (.mark _ _ hm1) (VRL.nil _))) (run714 t_xdb32 t_xdb64 t_xp10)
  | 3, _ => exact lrunG L hs hW (VRL.cons (.mark _ _ hm0) (VRL.cons (.mark _ _ hm1) (VRL.nil _))) (run715 t_xdb32 t_xdb64 t_xp10)
  | 4, _ => exact lrunG L hs hW (VRL.cons (.mark _ _ hm0) (VRL.cons (.mark _ _ hm1) (VRL.nil _))) (run716 t_xdb32 t_xdb64 t_xp10)
  | 5, _ => exact lrunG L hs hW (VRL.cons (.mark _ _ hm0) (VRL.cons (.mark _ _ hm1) (VRL.nil _))) (run717 t_xdb32 t_xdb64 t_xp10)
  | 6, _ => exact lrunG L hs hW (VRL.cons (.mark _ _ hm0) (VRL.cons (.mark _ _ hm1) (VRL.nil _))) (run718 t_xdb32 t_xdb64 t_xp10)
  | 7, _ => exact lrunG L hs hW (VRL.cons (.mark _ _ hm0) (VRL.cons (.mark _ _ hm1) (VRL.nil _))) (run719 t_xdb32 t_xdb64 t_xp10)
  | k + 8, hk => exact absurd hk (by simp only [Nat.reducePow]; omega)
theorem row90 : Row 90 := fun n0 n1 hm0 W t_xdb32 t_xdb64 t_xp10 L hs hW => by
  obtain ⟨k1, hk1, hm1⟩ := mark_bits (k := 3) (by decide) n1
  match k1, hk1 with
  | 0, _ => exact lrunG L hs hW (VRL.cons (.mark _ _ hm0) (VRL.cons (.mark _ _ hm1) (VRL.nil _))) (run720 t_xdb32 t_xdb64 t_xp10)
  | 1, _ => exact lrunG L hs hW (VRL.cons (.mark _ _ hm0) (VRL.cons (.mark _ _ hm1) (VRL.nil _))) (run721 t_xdb32 t_xdb64 t_xp10)
  | 2, _ => exact lrunG L hs hW (VRL.cons (.mark _ _ hm0) (VRL.cons (.mark _ _ hm1) (VRL.nil _))) (run722 t_xdb32 t_xdb64 t_xp10)
  | 3, _ => exact lrunG L hs hW (VRL.cons (.mark _ _ hm0) (VRL.cons (.mark _ _ hm1) (VRL.nil _))) (run723 t_xdb32 t_xdb64 t_xp10)
  | 4, _ => exact lrunG L hs hW (VRL.cons (.mark _ _ hm0) (VRL.cons (.mark _ _ hm1) (VRL.nil _))) (run724 t_xdb32 t_xdb64 t_xp10)
  | 5, _ => exact lrunG L hs hW (VRL.cons (.mark _ _ hm0) (VRL.cons (.mark _ _ hm1) (VRL.nil _))) (run725 t_xdb32 t_xdb64 t_xp10)
  | 6, _ => exact lrunG L hs hW (VRL.cons (.mark _ _ hm0) (VRL.cons (.mark _ _ hm1) (VRL.nil _))) (run726 t_xdb32 t_xdb64 t_xp10)
  | 7, _ => exact lrunG L hs hW (VRL.cons (.mark _ _ hm0) (VRL.cons (.mark _ _ hm1) (VRL.nil _))) (run727 t_xdb32 t_xdb64 t_xp10)
  | k + 8, hk => exact absurd hk (by simp only [Nat.reducePow]; omega)
theorem row91 : Row 91 := fun n0 n1 hm0 W t_xdb32 t_xdb64 t_xp10 L hs hW => by
  obtain ⟨k1, hk1, hm1⟩ := mark_bits (k := 3) (by decide) n1
  match k1, hk1 with
  | 0, _ => exact lrunG L hs hW (VRL.cons (.mark _ _ hm0) (VRL.cons (.mark _ _ hm1) (VRL.nil _))) (run728 t_xdb32 t_xdb64 t_xp10)
  | 1, _ => exact lrunG L hs hW (VRL.cons (.mark _ _ hm0) (VRL.cons (.mark _ _ hm1) (VRL.nil _))) (run729 t_xdb32 t_xdb64 t_xp10)
  | 2, _ => exact lrunG L hs hW (VRL.cons (.mark _ _ hm0) (VRL.cons (.mark _ _ hm1) (VRL.nil _))) (run730 t_xdb32 t_xdb64 t_xp10)
  | 3, _ => exact lrunG L hs hW (VRL.cons (.mark _ _ hm0) (VRL.cons (.mark _ _ hm1) (VRL.nil _))) (run731 t_xdb32 t_xdb64 t_xp10)
  | 4, _ => exact lrunG L hs hW (VRL.cons (.mark _ _ hm0) (VRL.cons (.mark _ _ hm1) (VRL.nil _))) (run732 t_xdb32 t_xdb64 t_xp10)
  | 5, _ => exact lrunG L hs hW (VRL.cons (.mark _ _ hm0) (VRL.cons (.mark _ _ hm1) (VRL.nil _))) (run733 t_xdb32 t_xdb64 t_xp10)
  | 6, _ => exact lrunG L hs hW (VRL.cons (.mark _ _ hm0) (VRL.cons (.mark _ _ hm1) (VRL.nil _))) (run734 t_xdb32 t_xdb64 t_xp10)
  | 7, _ => exact lrunG L hs hW (VRL.cons (.mark _ _ hm0) (VRL.cons (.mark _ _ hm1) (VRL.nil _))) (run735 t_xdb32 t_xdb64 t_xp10)
  | k + 8, hk => exact absurd hk (by simp only [Nat.reducePow]; omega)
theorem row92 : Row 92 := fun n0 n1 hm0 W t_xdb32 t_xdb64 t_xp10 L hs hW => by
  obtain ⟨k1, hk1, hm1⟩ := mark_bits (k := 3) (by decide) n1
  match k1, hk1 with
  | 0, _ => exact lrunG L hs hW (VRL.cons (.mark _ _ hm0) (VRL.cons (.mark _ _ hm1) (VRL.nil _))) (run736 t_xdb32 t_xdb64 t_xp10)
  | 1, _ => exact lrunG L hs hW (VRL.cons (.mark _ _ hm0) (VRL.cons (.mark _ _ hm1) (VRL.nil _))) (run737 t_xdb32 t_xdb64 t_xp10)
  | 2, _ => exact lrunG L hs hW (VRL.cons (.mark _ _ hm0) (VRL.cons (.mark _ _ hm1) (VRL.nil _))) (run738 t_xdb32 t_xdb64 t_xp10)
  | 3, _ => exact lrunG L hs hW (VRL.cons (.mark _ _ hm0) (VRL.cons (.mark _ _ hm1) (VRL.nil _))) (run739 t_xdb32 t_xdb64 t_xp10)
  | 4, _ => exact lrunG L hs hW (VRL.cons (.mark _ _ hm0) (VRL.cons (.mark _ _ hm1) (VRL.nil _))) (run740 t_xdb32 t_xdb64 t_xp10)
  | 5, _ => exact lrunG L hs hW (VRL.cons (.mark _ _ hm0) (VRL.cons (.mark _ _ hm1) (VRL.nil _))) (run741 t_xdb32 t_xdb64 t_xp10)
  | 6, _ => exact lrunG L hs hW (VRL.cons (.mark _ _ hm0) (VRL.cons (.mark _ _ hm1) (VRL.nil _))) (run742 t_xdb32 t_xdb64 t_xp10)
  | 7, _ => exact lrunG L hs hW (VRL.cons (.mark _ _ hm0) (VRL.cons (.mark _ _ hm1) (VRL.nil _))) (run743 t_xdb32 t_xdb64 t_xp10)
  | k + 8, hk => exact absurd hk (by simp only [Nat.reducePow]; omega)
theorem row93 : Row 93 := fun n0 n1 hm0 W t_xdb32 t_xdb64 t_xp10 L hs hW => by
  obtain ⟨k1, hk1, hm1⟩ := mark_bits (k := 3) (by decide) n1
  match k1, hk1 with
  | 0, _ => exact lrunG L hs hW (VRL.cons (.mark _ _ hm0) (VRL.cons (.mark _ _ hm1) (VRL.nil _))) (run744 t_xdb32 t_xdb64 t_xp10)
  | 1, _ => exact lrunG L hs hW (VRL.cons (.mark _ _ hm0) (VRL.cons (.mark _ _ hm1) (VRL.nil _))) (run745 t_xdb32 t_xdb64 t_xp10)
  | 2, _ => exact lrunG L hs hW (VRL.cons (.mark _ _ hm0) (VRL.cons (.mark _ _ hm1) (VRL.nil _))) (run746 t_xdb32 t_xdb64 t_xp10)
  | 3, _ => exact lrunG L hs hW (VRL.cons (.mark _ _ hm0) (VRL.cons (.mark _ _ hm1) (VRL.nil _))) (run747 t_xdb32 t_xdb64 t_xp10)
  | 4, _ => exact lrunG L hs hW (VRL.cons (.mark _ _ hm0) (VRL.cons (.mark _ _ hm1) (VRL.nil _))) (run748 t_xdb32 t_xdb64 t_xp10)
  | 5, _ => exact lrunG L hs hW (VRL.cons (.mark _ _ hm0) (VRL.cons (.mark _ _ hm1) (VRL.nil _))) (run749 t_xdb32 t_xdb64 t_xp10)
  | 6, _ => exact lrunG L hs hW (VRL.cons (.mark _ _ hm0) (VRL.cons (.mark _ _ hm1) (VRL.nil _))) (run750 t_xdb32 t_xdb64 t_xp10)
  | 7, _ => exact lrunG L hs hW (VRL.cons (.mark _ _ hm0) (VRL.cons (.mark _ _ hm1) (VRL.nil _))) (run751 t_xdb32 t_xdb64 t_xp10)
  | k + 8, hk => exact absurd hk (by simp only [Nat.reducePow]; omega)
theorem row94 : Row 94 := fun n0 n1 hm0 W t_xdb32 t_xdb64 t_xp10 L hs hW => by
  obtain ⟨k1, hk1, hm1⟩ := mark_bits (k := 3) (by decide) n1
  match k1, hk1 with
  | 0, _ => exact lrunG L hs hW (VRL.cons (.mark _ _ hm0) (VRL.cons (.mark _ _ hm1) (VRL.nil _))) (run752 t_xdb32 t_xdb64 t_xp10)
  | 1, _ => exact lrunG L hs hW (VRL.cons (.mark _ _ hm0) (VRL.cons (.mark _ _ hm1) (VRL.nil _))) (run753 t_xdb32 t_xdb64 t_xp10)
  | 2, _ => exact lrunG L hs hW (VRL.cons (.mark _ _ hm0) (VRL.cons (.mark _ _ hm1) (VRL.nil _))) (run754 t_xdb32 t_xdb64 t_xp10)
  | 3, _ => exact lrunG L hs hW (VRL.cons (.mark _ _ hm0) (VRL.cons (.mark _ _ hm1) (VRL.nil _))) (run755 t_xdb32 t_xdb64 t_xp10)
  | 4, _ => exact lrunG L hs hW (VRL.cons (.mark _ _ hm0) (VRL.cons (.mark _ _ hm1) (VRL.nil _))) (run756 t_xdb32 t_xdb64 t_xp10)
  | 5, _ => exact lrunG L hs hW (VRL.cons (.mark _ _ hm0) (VRL.cons (.mark _ _ hm1) (VRL.nil _))) (run757 t_xdb32 t_xdb64 t_xp10)
  | 6, _ => exact lrunG L hs hW (VRL.cons (.mark _ _ hm0) (VRL.cons (.mark _ _ hm1) (VRL.nil _))) (run758 t_xdb32 t_xdb64 t_xp10)
  | 7, _ => exact lrunG L hs hW (VRL.cons (.mark _ _ hm0) (VRL.cons (.mark _ _ hm1) (VRL.nil _))) (run759 t_xdb32 t_xdb64 t_xp10)
  | k + 8, hk => exact absurd hk (by simp only [Nat.reducePow]; omega)
theorem row95 : Row 95 := fun n0 n1 hm0 W t_xdb32 t_xdb64 t_xp10 L hs hW => by
  obtain ⟨k1, hk1, hm1⟩ := mark_bits (k := 3) (by decide) n1
  match k1, hk1 with
  | 0, _ => exact lrunG L hs hW (VRL.cons (.mark _ _ hm0) (VRL.cons (.mark _ _ hm1) (VRL.nil _))) (run760 t_xdb32 t_xdb64 t_xp10)
  | 1, _ => exact lrunG L hs hW (VRL.cons (.mark _ _ hm0) (VRL.cons (.mark _ _ hm1) (VRL.nil _))) (run761 t_xdb32 t_xdb64 t_xp10)
  | 2, _ => exact lrunG L hs hW (VRL.cons (.mark _ _ hm0) (VRL.cons (.mark _ _ hm1) (VRL.nil _))) (run762 t_xdb32 t_xdb64 t_xp10)
  | 3, _ => exact lrunG L hs hW (VRL.cons (.mark _ _ hm0) (VRL.cons (.mark _ _ hm1) (VRL.nil _))) (run763 t_xdb32 t_xdb64 t_xp10)
  | 4, _ => exact lrunG L hs hW (VRL.cons (.mark _ _ hm0) (VRL.cons (.mark _ _ hm1) (VRL.nil _))) (run764 t_xdb32 t_xdb64 t_xp10)
  | 5, _ => exact lrunG L hs hW (VRL.cons (.mark _ _ hm0) (VRL.cons (.mark _ _ hm1) (VRL.nil _))) (run765 t_xdb32 t_xdb64 t_xp10)
  | 6, _ => exact lrunG L hs hW (VRL.cons (.mark _ _ hm0) (VRL.cons (.mark _ _ hm1) (VRL.nil _))) (run766 t_xdb32 t_xdb64 t_xp10)
  | 7, _ => exact lrunG L hs hW (VRL.cons (.mark _ _ hm0) (VRL.cons (.mark _ _ hm1) (VRL.nil _))) (run767 t_xdb32 t_xdb64 t_xp10)
  | k + 8, hk => exact absurd hk (by simp only [Nat.reducePow]; omega)
theorem row96 : Row 96 := fun n0 n1 hm0 W t_xdb32 t_xdb64 t_xp10 L hs hW => by
  obtain ⟨k1, hk1, hm1⟩ := mark_bits (k := 3) (by decide) n1
  match k1, hk1 with
  | 0, _ => exact lrunG L hs hW (VRL.cons (.mark _ _ hm0) (VRL.cons (.mark _ _ hm1) (VRL.nil _))) (run768 t_xdb32 t_xdb64 t_xp10)
  | 1, _ => exact lrunG L hs hW (VRL.cons (.mark _ _ hm0) (VRL.cons (.mark _ _ hm1) (VRL.nil _))) (run769 t_xdb32 t_xdb64 t_xp10)
  | 2, _ => exact lrunG L hs hW (VRL.cons (.mark _ _ hm0) (VRL.cons (.mark _ _ hm1) (VRL.nil _))) (run770 t_xdb32 t_xdb64 t_xp10)
  | 3, _ => exact lrunG L hs hW (VRL.cons (.mark _ _ hm0) (VRL.cons (.mark _ _ hm1) (VRL.nil _))) (run771 t_xdb32 t_xdb64 t_xp10)
  | 4, _ => exact lrunG L hs hW (VRL.cons (.mark _ _ hm0) (VRL.cons (.mark _ _ hm1) (VRL.nil _))) (run772 t_xdb32 t_xdb64 t_xp10)
  | 5, _ => exact lrunG L hs hW (VRL.cons (.mark _ _ hm0) (VRL.cons (.mark _ _ hm1) (VRL.nil _))) (run773 t_xdb32 t_xdb64 t_xp10)
  | 6, _ => exact lrunG L hs hW (VRL.cons (.mark _ _ hm0) (VRL.cons (.mark _ _ hm1) (VRL.nil _))) (run774 t_xdb32 t_xdb64 t_xp10)
  | 7, _ => exact lrunG L hs hW (VRL.cons (.mark _ _ hm0) (VRL.cons (.mark _ _ hm1) (VRL.nil _))) (run775 t_xdb32 t_xdb64 t_xp10)
  | k + 8, hk => exact absurd hk (by simp only [Nat.reducePow]; omega)
theorem row97 : Row 97 := fun n0 n1 hm0 W t_xdb32 t_xdb64 t_xp10 L hs hW => by
  obtain ⟨k1, hk1, hm1⟩ := mark_bits (k := 3) (by decide) n1
  match k1, hk1 with
  | 0, _ => exact lrunG L hs hW (VRL.cons (.mark _ _ hm0) (VRL.cons (.mark _ _ hm1) (VRL.nil _))) (run776 t_xdb32 t_xdb64 t_xp10)
  | 1, _ => exact lrunG L hs hW (VRL.cons (.mark _ _ hm0) (VRL.cons (.mark _ _ hm1) (VRL.nil _))) (run777 t_xdb32 t_xdb64 t_xp10)
  | 2, _ => exact lrunG L hs hW (VRL.cons (.mark _ _ hm0) (VRL.cons (.mark _ _ hm1) (VRL.nil _))) (run778 t_xdb32 t_xdb64 t_xp10)
  | 3, _ => exact lrunG L hs hW (VRL.cons (.mark _ _ hm0) (VRL.cons (.mark _ _ hm1) (VRL.nil _))) (run779 t_xdb32 t_xdb64 t_xp10)
  | 4, _ => exact lrunG L hs hW (VRL.cons (.mark _ _ hm0) (VRL.cons (.mark _ _ hm1) (VRL.nil _))) (run780 t_xdb32 t_xdb64 t_xp10)
  | 5, _ => exact lrunG L hs hW (VRL.cons (.mark _ _ hm0) (VRL.cons (.mark _ _ hm1) (VRL.nil _))) (run781 t_xdb32 t_xdb64 t_xp10)
  | 6, _ => exact lrunG L hs hW (VRL.cons (.mark _ _ hm0) (VRL.cons (.mark _ _ hm1) (VRL.nil _))) (run782 t_xdb32 t_xdb64 t_xp10)
  | 7, _ => exact lrunG L hs hW (VRL.cons (.mark _ _ hm0) (VRL.cons (.mark _ _ hm1) (VRL.nil _))) (run783 t_xdb32 t_xdb64 t_xp10)
  | k + 8, hk => exact absurd hk (by simp only [Nat.reducePow]; omega)
theorem row98 : Row 98 := fun n0 n1 hm0 W t_xdb32 t_xdb64 t_xp10 L hs hW => by
  obtain ⟨k1, hk1, hm1⟩ := mark_bits (k := 3) (by decide) n1
  match k1, hk1 with
  | 0, _ => exact lrunG L hs hW (VRL.cons (.mark _ _ hm0) (VRL.cons (.mark _ _ hm1) (VRL.nil _))) (run784 t_xdb32 t_xdb64 t_xp10)
  | 1, _ => exact lrunG L hs hW (VRL.cons (.mark _ _ hm0) (VRL.cons (.mark _ _ hm1) (VRL.nil _))) (run785 t_xdb32 t_xdb64 t_xp10)
  | 2, _ => exact lrunG L hs hW (VRL.cons (.mark _ _ hm0) (VRL.cons (.mark _ _ hm1) (VRL.nil _))) (run786 t_xdb32 t_xdb64 t_xp10)
  | 3, _ => exact lrunG L hs hW (VRL.cons (.mark _ _ hm0) (VRL.cons (.mark _ _ hm1) (VRL.nil _))) (run787 t_xdb32 t_xdb64 t_xp10)
  | 4, _ => exact lrunG L hs hW (VRL.cons (.mark _ _ hm0) (VRL.cons (.mark _ _ hm1) (VRL.nil _))) (run788 t_xdb32 t_xdb64 t_xp10)
  | 5, _ => exact lrunG L hs hW (VRL.cons (.mark _ _ hm0) (VRL.cons (.mark _ _ hm1) (VRL.nil _))) (run789 t_xdb32 t_xdb64 t_xp10)
  | 6, _ => exact lrunG L hs hW (VRL.cons (.mark _ _ hm0) (VRL.cons (.mark _ _ hm1) (VRL.nil _))) (run790 t_xdb32 t_xdb64 t_xp10)
  | 7, _ => exact lrunG L hs hW (VRL.cons (.mark _ _ hm0) (VRL.cons (.mark _ _ hm1) (VRL.nil _))) (run791 t_xdb32 t_xdb64 t_xp10)
  | k + 8, hk => exact absurd hk (by simp only [Nat.reducePow]; omega)
theorem row99 : Row 99 := fun n0 n1 hm0 W t_xdb32 t_xdb64 t_xp10 L hs hW => by
  obtain ⟨k1, hk1, hm1⟩ := mark_bits (k := 3) (by decide) n1
  match k1, hk1 with
  | 0, _ => exact lrunG L hs hW (VRL.cons (.mark _ _ hm0) (VRL.cons (.mark _ _ hm1) (VRL.nil _))) (run792 t_xdb32 t_xdb64 t_xp10)
  | 1, _ => exact lrunG L hs hW (VRL.cons (.mark _ _ hm0) (VRL.cons (.mark _ _ hm1) (VRL.nil _))) (run793 t_xdb32 t_xdb64 t_xp10)
  | 2, _ => exact lrunG L hs hW (VRL.cons (.mark _ _ hm0) (VRL.cons (.mark _ _ hm1) (VRL.nil _))) (run794 t_xdb32 t_xdb64 t_xp10)
  | 3, _ => exact lrunG L hs hW (VRL.cons (.mark _ _ hm0) (VRL.cons (.mark _ _ hm1) (VRL.nil _))) (run795 t_xdb32 t_xdb64 t_xp10)
  | 4, _ => exact lrunG L hs hW (VRL.cons (.mark _ _ hm0) (VRL.cons (.mark _ _ hm1) (VRL.nil _))) (run796 t_xdb32 t_xdb64 t_xp10)
  | 5, _ => exact lrunG L hs hW (VRL.cons (.mark _ _ hm0) (VRL.cons (.mark _ _ hm1) (VRL.nil _))) (run797 t_xdb32 t_xdb64 t_xp10)
  | 6, _ => exact lrunG L hs hW (VRL.cons (.mark _ _ hm0) (VRL.cons (.mark _ _ hm1) (VRL.nil _))) (run798 t_xdb32 t_xdb64 t_xp10)
  | 7, _ => exact lrunG L hs hW (VRL.cons (.mark _ _ hm0) (VRL.cons (.mark _ _ hm1) (VRL.nil _))) (run799 t_xdb32 t_xdb64 t_xp10)
  | k + 8, hk => exact absurd hk (by simp only [Nat.reducePow]; omega)
theorem row100 : Row 100 := fun n0 n1 hm0 W t_xdb32 t_xdb64 t_xp10 L hs hW => by
  obtain ⟨k1, hk1, hm1⟩ := mark_bits (k := 3) (by decide) n1
  match k1, hk1 with
  | 0, _ => exact lrunG L hs hW (VRL.cons (.mark _ _ hm0) (VRL.cons (.mark _ _ hm1) (VRL.nil _))) (run800 t_xdb32 t_xdb64 t_xp10)
  | 1, _ => exact lrunG L hs hW (VRL.cons (.mark _ _ hm0) (VRL.cons (.mark _ _ hm1) (VRL.nil _))) (run801 t_xdb32 t_xdb64 t_xp10)
  | 2, _ => exact lrunG L hs hW (VRL.cons (.mark _ _ hm0) (VRL.cons (.mark _ _ hm1) (VRL.nil _))) (run802 t_xdb32 t_xdb64 t_xp10)
  | 3, _ => exact lrunG L hs hW (VRL.cons (.mark _ _ hm0) (VRL.cons (.mark _ _ hm1) (VRL.nil _))) (run803 t_xdb32 t_xdb64 t_xp10)
  | 4, _ => exact lrunG L hs hW (VRL.cons (.mark _ _ hm0) (VRL.cons (.mark _ _ hm1) (VRL.nil _))) (run804 t_xdb32 t_xdb64 t_xp10)
  | 5, _ => exact lrunG L hs hW (VRL.cons (.mark _ _ hm0) (VRL.cons (.mark _ _ hm1) (VRL.nil _))) (run805 t_xdb32 t_xdb64 t_xp10)
  | 6, _ => exact lrunG L hs hW (VRL.cons (.mark _ _ hm0) (VRL.cons (.mark _ _ hm1) (VRL.nil _))) (run806 t_xdb32 t_xdb64 t_xp10)
  | 7, _ => exact lrunG L hs hW (VRL.cons (.mark _ _ hm0) (VRL.cons (.mark _ _ hm1) (VRL.nil _))) (run807 t_xdb32 t_xdb64 t_xp10)
  | k + 8, hk => exact absurd hk (by simp only [Nat.reducePow]; omega)
theorem row101 : Row 101 := fun n0 n1 hm0 W t_xdb32 t_xdb64 t_xp10 L hs hW => by
  obtain ⟨k1, hk1, hm1⟩ := mark_bits (k := 3) (by decide) n1
  match k1, hk1 with
  | 0, _ => exact lrunG L hs hW (VRL.cons (.mark _ _ hm0) (VRL.cons (.mark _ _ hm1) (VRL.nil _))) (run808 t_xdb32 t_xdb64 t_xp10)
  | 1, _ => exact lrunG L hs hW (VRL.cons (.mark _ _ hm0) (VRL.cons (.mark _ _ hm1) (VRL.nil _))) (run809 t_xdb32 t_xdb64 t_xp10)
  | 2, _ => exact lrunG L hs hW (VRL.cons (.mark _ _ hm0) (VRL.cons (.mark _ _ hm1) (VRL.nil _))) (run810 t_xdb32 t_xdb64 t_xp10)
  | 3, _ => exact lrunG L hs hW (VRL.cons (.mark _ _ hm0) (VRL.cons (.mark _ _ hm1) (VRL.nil _))) (run811 t_xdb32 t_xdb64 t_xp10)
  | 4, _ => exact lrunG L hs hW (VRL.cons (.mark _ _ hm0) (VRL.cons (.mark _ _ hm1) (VRL.nil _))) (run812 t_xdb32 t_xdb64 t_xp10)
  | 5, _ => exact lrunG L hs hW (VRL.cons (.mark _ _ hm0) (VRL.cons (.mark _ _ hm1) (VRL.nil _))) (run813 t_xdb32 t_xdb64 t_xp10)
  | 6, _ => exact lrunG L hs hW (VRL.cons (.mark _ _ hm0) (VRL.cons (.mark _ _ hm1) (VRL.nil _))) (run814 t_xdb32 t_xdb64 t_xp10)
  | 7, _ => exact lrunG L hs hW (VRL.cons (.mark _ _ hm0) (VRL.cons (.mark _ _ hm1) (VRL.nil _))) (run815 t_xdb32 t_xdb64 t_xp10)
  | k + 8, hk => exact absurd hk (by simp only [Nat.reducePow]; omega)
theorem row102 : Row 102 := fun n0 n1 hm0 W t_xdb32 t_xdb64 t_xp10 L hs hW => by
  obtain ⟨k1, hk1, hm1⟩ := mark_bits (k := 3) (by decide) n1
  match k1, hk1 with
  | 0, _ => exact lrunG L hs hW (VRL.cons (.mark _ _ hm0) (VRL.cons (.mark _ _ hm1) (VRL.nil _))) (run816 t_xdb32 t_xdb64 t_xp10)
  | 1, _ => exact lrunG L hs hW (VRL.cons (.mark _ _ hm0) (VRL.cons (.mark _ _ hm1) (VRL.nil _))) (run817 t_xdb32 t_xdb64 t_xp10)
  | 2, _ => exact lrunG L hs hW (VRL.cons (.mark _ _ hm0) (VRL.cons (.mark _ _ hm1) (VRL.nil _))) (run818 t_xdb32 t_xdb64 t_xp10)
  | 3, _ => exact lrunG L hs hW (VRL.cons (.mark _ _ hm0) (VRL.cons (.mark _ _ hm1) (VRL.nil _))) (run819 t_xdb32 t_xdb64 t_xp10)
  | 4, _ => exact lrunG L hs hW (VRL.cons (.mark _ _ hm0) (VRL.cons (.mark _ _ hm1) (VRL.nil _))) (run820 t_xdb32 t_xdb64 t_xp10)
  | 5, _ => exact lrunG L hs hW (VRL.cons (.mark _ _ hm0) (VRL.cons (.mark _ _ hm1) (VRL.nil _))) (run821 t_xdb32 t_xdb64 t_xp10)
  | 6, _ => exact lrunG L hs hW (VRL.cons (.mark _ _ hm0) (VRL.cons (.mark _ _ hm1) (VRL.nil _))) (run822 t_xdb32 t_xdb64 t_xp10)
  | 7, _ => exact lrunG L hs hW (VRL.cons (.mark _ _ hm0) (VRL.cons (.mark _ _ hm1) (VRL.nil _))) (run823 t_xdb32 t_xdb64 t_xp10)
  | k + 8, hk => exact absurd hk (by simp only [Nat.reducePow]; omega)
theorem row103 : Row 103 := fun n0 n1 hm0 W t_xdb32 t_xdb64 t_xp10 L hs hW => by
  obtain ⟨k1, hk1, hm1⟩ := mark_bits (k := 3) (by decide) n1
  match k1, hk1 with
  | 0, _ => exact lrunG L hs hW (VRL.cons (.mark _ _ hm0) (VRL.cons (.mark _ _ hm1) (VRL.nil _))) (run824 t_xdb32 t_xdb64 t_xp10)
  | 1, _ => exact lrunG L hs hW (VRL.cons (.mark _ _ hm0) (VRL.cons (.mark _ _ hm1) (VRL.nil _))) (run825 t_xdb32 t_xdb64 t_xp10)
  | 2, _ => exact lrunG L hs hW (VRL.cons (.mark _ _ hm0) (VRL.cons (.mark _ _ hm1) (VRL.nil _))) (run826 t_xdb32 t_xdb64 t_xp10)
  | 3, _ => exact lrunG L hs hW (VRL.cons (.mark _ _ hm0) (VRL.cons (.mark _ _ hm1) (VRL.nil _))) (run827 t_xdb32 t_xdb64 t_xp10)
  | 4, _ => exact lrunG L hs hW (VRL.cons (.mark _ _ hm0) (VRL.cons (.mark _ _ hm1) (VRL.nil _))) (run828 t_xdb32 t_xdb64 t_xp10)
  | 5, _ => exact lrunG L hs hW (VRL.cons (.mark _ _ hm0) (VRL.cons (.mark _ _ hm1) (VRL.nil _))) (run829 t_xdb32 t_xdb64 t_xp10)
  | 6, _ => exact lrunG L hs hW (VRL.cons (.mark _ _ hm0) (VRL.cons (.mark _ _ hm1) (VRL.nil _))) (run830 t_xdb32 t_xdb64 t_xp10)
  | 7, _ => exact lrunG L hs hW (VRL.cons (.mark _ _ hm0) (VRL.cons (.mark _ _ hm1) (VRL.nil _))) (run831 t_xdb32 t_xdb64 t_xp10)
  | k + 8, hk => exact absurd hk (by simp only [Nat.reducePow]; omega)
theorem row104 : Row 104 := fun n0 n1 hm0 W t_xdb32 t_xdb64 t_xp10 L hs hW => by
  obtain ⟨k1, hk1, hm1⟩ := mark_bits (k := 3) (by decide) n1
  match k1, hk1 with
  | 0, _ => exact lrunG L hs hW (VRL.cons (.mark _ _ hm0) (VRL.cons (.mark _ _ hm1) (VRL.nil _))) (run832 t_xdb32 t_xdb64 t_xp10)
  | 1, _ => exact lrunG L hs hW (VRL.cons (.mark _ _ hm0) (VRL.cons (.mark _ _ hm1) (VRL.nil _))) (run833 t_xdb32 t_xdb64 t_xp10)
  | 2, _ => exact lrunG L hs hW (VRL.cons (.mark _ _ hm0) (VRL.cons (.mark _ _ hm1) (VRL.nil _))) (run834 t_xdb32 t_xdb64 t_xp10)
  | 3, _ => exact lrunG L hs hW (VRL.cons (.mark _ _ hm0) (VRL.cons (.mark _ _ hm1) (VRL.nil _))) (run835 t_xdb32 t_xdb64 t_xp10)
  | 4, _ => exact lrunG L hs hW (VRL.cons (.mark _ _ hm0) (VRL.cons (.mark _ _ hm1) (VRL.nil _))) (run836 t_xdb32 t_xdb64 t_xp10)
  | 5, _ => exact lrunG L hs hW (VRL.cons (.mark _ _ hm0) (VRL.cons (.mark _ _ hm1) (VRL.nil _))) (run837 t_xdb32 t_xdb64 t_xp10)
  | 6, _ => exact lrunG L hs hW (VRL.cons (.mark _ _ hm0) (VRL.cons (.mark _ _ hm1) (VRL.nil _))) (run838 t_xdb32 t_xdb64 t_xp10)
  | 7, _ => exact lrunG L hs hW (VRL.cons (.mark _ _ hm0) (VRL.cons (.mark _ _ hm1) (VRL.nil _))) (run839 t_xdb32 t_xdb64 t_xp10)
  | k + 8, hk => exact absurd hk (by simp only [Nat.reducePow]; omega)
theorem row105 : Row 105 := fun n0 n1 hm0 W t_xdb32 t_xdb64 t_xp10 L hs hW => by
  obtain ⟨k1, hk1, hm1⟩ := mark_bits (k := 3) (by decide) n1
  match k1, hk1 with
  | 0, _ => exact lrunG L hs hW (VRL.cons (.mark _ _ hm0) (VRL.cons (.mark _ _ hm1) (VRL.nil _))) (run840 t_xdb32 t_xdb64 t_xp10)
  | 1, _ => exact lrunG L hs hW (VRL.cons (.mark _ _ hm0) (VRL.cons (.mark _ _ hm1) (VRL.nil _))) (run841 t_xdb32 t_xdb64 t_xp10)
  | 2, _ => exact lrunG L hs hW (VRL.cons (.mark _ _ hm0) (VRL.cons (.mark _ _ hm1) (VRL.nil _))) (run842 t_xdb32 t_xdb64 t_xp10)
  | 3, _ => exact lrunG L hs hW (VRL.cons (.mark _ _ hm0) (VRL.cons (.mark _ _ hm1) (VRL.nil _))) (run843 t_xdb32 t_xdb64 t_xp10)
  | 4, _ => exact lrunG L hs hW (VRL.cons (.mark _ _ hm0) (VRL.cons (.mark _ _ hm1) (VRL.nil _))) (run844 t_xdb32 t_xdb64 t_xp10)
  | 5, _ => exact lrunG L hs hW (VRL.cons (.mark _ _ hm0) (VRL.cons (.mark _ _ hm1) (VRL.nil _))) (run845 t_xdb32 t_xdb64 t_xp10)
  | 6, _ => exact lrunG L hs hW (VRL.cons (.mark _ _ hm0) (VRL.cons (.mark _ _ hm1) (VRL.nil _))) (run846 t_xdb32 t_xdb64 t_xp10)
  | 7, _ => exact lrunG L hs hW (VRL.cons (.mark _ _ hm0) (VRL.cons (.mark _ _ hm1) (VRL.nil _))) (run847 t_xdb32 t_xdb64 t_xp10)
  | k + 8, hk => exact absurd hk (by simp only [Nat.reducePow]; omega)
theorem row106 : Row 106 := fun n0 n1 hm0 W t_xdb32 t_xdb64 t_xp10 L hs hW => by
  obtain ⟨k1, hk1, hm1⟩ := mark_bits (k := 3) (by decide) n1
  match k1, hk1 with
  | 0, _ => exact lrunG L hs hW (VRL.cons (.mark _ _ hm0) (VRL.cons (.mark _ _ hm1) (VRL.nil _))) (run848 t_xdb32 t_xdb64 t_xp10)
  | 1, _ => exact lrunG L hs hW (VRL.cons (.mark _ _ hm0) (VRL.cons (.mark _ _ hm1) (VRL.nil _))) (run849 t_xdb32 t_xdb64 t_xp10)
  | 2, _ => exact lrunG L hs hW (VRL.cons (.mark _ _ hm0) (VRL.cons (.mark _ _ hm1) (VRL.nil _))) (run850 t_xdb32 t_xdb64 t_xp10)
  | 3, _ => exact lrunG L hs hW (VRL.cons (.mark _ _ hm0) (VRL.cons (.mark _ _ hm1) (VRL.nil _))) (run851 t_xdb32 t_xdb64 t_xp10)
  | 4, _ => exact lrunG L hs hW (VRL.cons (.mark _ _ hm0) (VRL.cons (.mark _ _ hm1) (VRL.nil _))) (run852 t_xdb32 t_xdb64 t_xp10)
  | 5, _ => exact lrunG L hs hW (VRL.cons (.mark _ _ hm0) (VRL.cons (.mark _ _ hm1) (VRL.nil _))) (run853 t_xdb32 t_xdb64 t_xp10)
  | 6, _ => exact lrunG L hs hW (VRL.cons (.mark _ _ hm0) (VRL.cons (.mark _ _ hm1) (VRL.nil _))) (run854 t_xdb32 t_xdb64 t_xp10)
  | 7, _ => exact lrunG L hs hW (VRL.cons (.mark _ _ hm0) (VRL.cons (.mark _ _ hm1) (VRL.nil _))) (run855 t_xdb32 t_xdb64 t_xp10)
  | k + 8, hk => exact absurd hk (by simp only [Nat.reducePow]; omega)
theorem row107 : Row 107 := fun n0 n1 hm0 W t_xdb32 t_xdb64 t_xp10 L hs hW => by
  obtain ⟨k1, hk1, hm1⟩ := mark_bits (k := 3) (by decide) n1
  match k1, hk1 with
  | 0, _ => exact lrunG L hs hW (VRL.cons (.mark _ _ hm0) (VRL.cons (.mark _ _ hm1) (VRL.nil _))) (run856 t_xdb32 t_xdb64 t_xp10)
  | 1, _ => exact lrunG L hs hW (VRL.cons (.mark _ _ hm0) (VRL.cons (.mark _ _ hm1) (VRL.nil _))) (run857 t_xdb32 t_xdb64 t_xp10)
  | 2, _ => exact lrunG L hs hW (VRL.cons (.mark _ _ hm0) (VRL.cons (.mark _ _ hm1) (VRL.nil _))) (run858 t_xdb32 t_xdb64 t_xp10)
  | 3, _ => exact lrunG L hs hW (VRL.cons (.mark _ _ hm0) (VRL.cons (.mark _ _ hm1) (VRL.nil _))) (run859 t_xdb32 t_xdb64 t_xp10)
  | 4, _ => exact lrunG L hs hW (VRL.cons (.mark _ _ hm0) (VRL.cons (.mark _ _ hm1) (VRL.nil _))) (run860 t_xdb32 t_xdb64 t_xp10)
  | 5, _ => exact lrunG L hs hW (VRL.cons (.mark _ _ hm0) (VRL.cons (.mark _ _ hm1) (VRL.nil _))) (run861 t_xdb32 t_xdb64 t_xp10)
  | 6, _ => exact lrunG L hs hW (VRL.cons (.mark _ _ hm0) (VRL.cons (.mark _ _ hm1) (VRL.nil _))) (run862 t_xdb32 t_xdb64 t_xp10)
  | 7, _ => exact lrunG L hs hW (VRL.cons (.mark _ _ hm0) (VRL.cons (.mark _ _ hm1) (VRL.nil _))) (run863 t_xdb32 t_xdb64 t_xp10)
  | k + 8, hk => exact absurd hk (by simp only [Nat.reducePow]; omega)
theorem row108 : Row 108 := fun n0 n1 hm0 W t_xdb32 t_xdb64 t_xp10 L hs hW => by
  obtain ⟨k1, hk1, hm1⟩ := mark_bits (k := 3) (by decide) n1
  match k1, hk1 with
  | 0, _ => exact lrunG L hs hW (VRL.cons (.mark _ _ hm0) (VRL.cons (.mark _ _ hm1) (VRL.nil _))) (run864 t_xdb32 t_xdb64 t_xp10)
  | 1, _ => exact lrunG L hs hW (VRL.cons (.mark _ _ hm0) (VRL.cons (.mark _ _ hm1) (VRL.nil _))) (run865 t_xdb32 t_xdb64 t_xp10)
  | 2, _ => exact lrunG L hs hW (VRL.cons (.mark _ _ hm0) (VRL.cons (.mark _ _ hm1) (VRL.nil _))) (run866 t_xdb32 t_xdb64 t_xp10)
  | 3, _ => exact lrunG L hs hW (VRL.cons (.mark _ _ hm0) (VRL.cons (.mark _ _ hm1) (VRL.nil _))) (run867 t_xdb32 t_xdb64 t_xp10)
  | 4, _ => exact lrunG L hs hW (VRL.cons (.mark _ _ hm0) (VRL.cons (.mark _ _ hm1) (VRL.nil _))) (run868 t_xdb32 t_xdb64 t_xp10)
  | 5, _ => exact lrunG L hs hW (VRL.cons (.mark _ _ hm0) (VRL.cons (.mark _ _ hm1) (VRL.nil _))) (run869 t_xdb32 t_xdb64 t_xp10)
  | 6, _ => exact lrunG L hs hW (VRL.cons (.mark _ _ hm0) (VRL.cons (.mark _ _ hm1) (VRL.nil _))) (run870 t_xdb32 t_xdb64 t_xp10)
  | 7, _ => exact lrunG L hs hW (VRL.cons (.mark _ _ hm0) (VRL.cons (.mark _ _ hm1) (VRL.nil _))) (run871 t_xdb32 t_xdb64 t_xp10)
  | k + 8, hk => exact absurd hk (by simp only [Nat.reducePow]; omega)
theorem row109 : Row 109 := fun n0 n1 hm0 W t_xdb32 t_xdb64 t_xp10 L hs hW => by
  obtain ⟨k1, hk1, hm1⟩ := mark_bits (k := 3) (by decide) n1
  match k1, hk1 with
  | 0, _ => exact lrunG L hs hW (VRL.cons (.mark _ _ hm0) (VRL.cons (.mark _ _ hm1) (VRL.nil _))) (run872 t_xdb32 t_xdb64 t_xp10)
  | 1, _ => exact lrunG L hs hW (VRL.cons (.mark _ _ hm0) (VRL.cons (.mark _ _ hm1) (VRL.nil _))) (run873 t_xdb32 t_xdb64 t_xp10)
  | 2, _ => exact lrunG L hs hW (VRL.cons (.mark _ _ hm0) (VRL.cons (.mark _ _ hm1) (VRL.nil _))) (run874 t_xdb32 t_xdb64 t_xp10)
  | 3, _ => exact lrunG L hs hW (VRL.cons (.mark _ _ hm0) (VRL.cons (.mark _ _ hm1) (VRL.nil _))) (run875 t_xdb32 t_xdb64 t_xp10)
  | 4, _ => exact lrunG L hs hW (VRL.cons (.mark _ _ hm0) (VRL.cons (.mark _ _ hm1) (VRL.nil _))) (run876 t_xdb32 t_xdb64 t_xp10)
  | 5, _ => exact lrunG L hs hW (VRL.cons (.mark _ _ hm0) (VRL.cons (.mark _ _ hm1) (VRL.nil _))) (run877 t_xdb32 t_xdb64 t_xp10)
  | 6, _ => exact lrunG L hs hW (VRL.cons (.mark _ _ hm0) (VRL.cons (.mark _ _ hm1) (VRL.nil _))) (run878 t_xdb32 t_xdb64 t_xp10)
  | 7, _ => exact lrunG L hs hW (VRL.cons (.mark _ _ hm0) (VRL.cons (.mark _ _ hm1) (VRL.nil _))) (run879 t_xdb32 t_xdb64 t_xp10)
  | k + 8, hk => exact absurd hk (by simp only [Nat.reducePow]; omega)
theorem row110 : Row 110 := fun n0 n1 hm0 W t_xdb32 t_xdb64 t_xp10 L hs hW => by
  obtain ⟨k1, hk1, hm1⟩ := mark_bits (k := 3) (by decide) n1
  match k1, hk1 with
  | 0, _ => exact lrunG L hs hW (VRL.cons (.mark _ _ hm0) (VRL.cons (.mark _ _ hm1) (VRL.nil _))) (run880 t_xdb32 t_xdb64 t_xp10)
  | 1, _ => exact lrunG L hs hW (VRL.cons (.mark _ _ hm0) (VRL.cons (.mark _ _ hm1) (VRL.nil _))) (run881 t_xdb32 t_xdb64 t_xp10)
  | 2, _ => exact lrunG L hs hW (VRL.cons (.mark _ _ hm0) (VRL.cons (.mark _ _ hm1) (VRL.nil _))) (run882 t_xdb32 t_xdb64 t_xp10)
  | 3, _ => exact lrunG L hs hW (VRL.cons (.mark _ _ hm0) (VRL.cons (.mark _ _ hm1) (VRL.nil _))) (run883 t_xdb32 t_xdb64 t_xp10)
  | 4, _ => exact lrunG L hs hW (VRL.cons (.mark _ _ hm0) (VRL.cons (.mark _ _ hm1) (VRL.nil _))) (run884 t_xdb32 t_xdb64 t_xp10)
  | 5, _ => exact lrunG L hs hW (VRL.cons (.mark _ _ hm0) (VRL.cons (.mark _ _ hm1) (VRL.nil _))) (run885 t_xdb32 t_xdb64 t_xp10)
  | 6, _ => exact lrunG L hs hW (VRL.cons (.mark _ _ hm0) (VRL.cons (.mark _ _ hm1) (VRL.nil _))) (run886 t_xdb32 t_xdb64 t_xp10)
  | 7, _ => exact lrunG L hs hW (VRL.cons (.mark _ _ hm0) (VRL.cons (.mark _ _ hm1) (VRL.nil _))) (run887 t_xdb32 t_xdb64 t_xp10)
  | k + 8, hk => exact absurd hk (by simp only [Nat.reducePow]; omega)
theorem row111 : Row 111 := fun n0 n1 hm0 W t_xdb32 t_xdb64 t_xp10 L hs hW => by
  obtain ⟨k1, hk1, hm1⟩ := mark_bits (k := 3) (by decide) n1
  match k1, hk1 with
  | 0, _ => exact lrunG L hs hW (VRL.cons (.mark _ _ hm0) (VRL.cons (.mark _ _ hm1) (VRL.nil _))) (run888 t_xdb32 t_xdb64 t_xp10)
  | 1, _ => exact lrunG L hs hW (VRL.cons (.mark _ _ hm0) (VRL.cons (.mark _ _ hm1) (VRL.nil _))) (run889 t_xdb32 t_xdb64 t_xp10)
  | 2, _ => exact lrunG L hs hW (VRL.cons (.mark _ _ hm0) (VRL.cons (.mark _ _ hm1) (VRL.nil _))) (run890 t_xdb32 t_xdb64 t_xp10)
  | 3, _ => exact lrunG L hs hW (VRL.cons (.mark _ _ hm0) (VRL.cons (.mark _ _ hm1) (VRL.nil _))) (run891 t_xdb32 t_xdb64 t_xp10)
  | 4, _ => exact lrunG L hs hW (VRL.cons (.mark _ _ hm0) (VRL.cons (.mark _ _ hm1) (VRL.nil _))) (run892 t_xdb32 t_xdb64 t_xp10)
  | 5, _ => exact lrunG L hs hW (VRL.cons (.mark _ _ hm0) (VRL.cons (.mark _ _ hm1) (VRL.nil _))) (run893 t_xdb32 t_xdb64 t_xp10)
  | 6, _ => exact lrunG L hs hW (VRL.cons (.mark _ _ hm0) (VRL.cons (.mark _ _ hm1) (VRL.nil _))) (run894 t_xdb32 t_xdb64 t_xp10)
  | 7, _ => exact lrunG L hs hW (VRL.cons (.mark _ _ hm0) (VRL.cons (.mark _ _ hm1) (VRL.nil _))) (run895 t_xdb32 t_xdb64 t_xp10)
  | k + 8, hk => exact absurd hk (by simp only [Nat.reducePow]; omega)
theorem row112 : Row 112 := fun n0 n1 hm0 W t_xdb32 t_xdb64 t_xp10 L hs hW => by
  obtain ⟨k1, hk1, hm1⟩ := mark_bits (k := 3) (by decide) n1
  match k1, hk1 with
  | 0, _ => exact lrunG L hs hW (VRL.cons (.mark _ _ hm0) (VRL.cons (.mark _ _ hm1) (VRL.nil _))) (run896 t_xdb32 t_xdb64 t_xp10)
  | 1, _ => exact lrunG L hs hW (VRL.cons (.mark _ _ hm0) (VRL.cons (.mark _ _ hm1) (VRL.nil _))) (run897 t_xdb32 t_xdb64 t_xp10)
  | 2, _ => exact lrunG L hs hW (VRL.cons (.mark _ _ hm0) (VRL.cons (.mark _ _ hm1) (VRL.nil _))) (run898 t_xdb32 t_xdb64 t_xp10)
  | 3, _ => exact lrunG L hs hW (VRL.cons (.mark _ _ hm0) (VRL.cons (.mark _ _ hm1) (VRL.nil _))) (run899 t_xdb32 t_xdb64 t_xp10)
  | 4, _ => exact lrunG L hs hW (VRL.cons (.mark _ _ hm0) (VRL.cons (.mark _ _ hm1) (VRL.nil _))) (run900 t_xdb32 t_xdb64 t_xp10)
  | 5, _ => exact lrunG L hs hW (VRL.cons (.mark _ _ hm0) (VRL.cons (.mark _ _ hm1) (VRL.nil _))) (run901 t_xdb32 t_xdb64 t_xp10)
  | 6, _ => exact lrunG L hs hW (VRL.cons (.mark _ _ hm0) (VRL.cons (.mark _ _ hm1) (VRL.nil _))) (run902 t_xdb32 t_xdb64 t_xp10)
  | 7, _ => exact lrunG L hs hW (VRL.cons (.mark _ _ hm0) (VRL.cons (.mark _ _ hm1) (VRL.nil _))) (run903 t_xdb32 t_xdb64 t_xp10)
  | k + 8, hk => exact absurd hk (by simp only [Nat.reducePow]; omega)
theorem row113 : Row 113 := fun n0 n1 hm0 W t_xdb32 t_xdb64 t_xp10 L hs hW => by
  obtain ⟨k1, hk1, hm1⟩ := mark_bits (k := 3) (by decide) n1
  match k1, hk1 with
  | 0, _ => exact lrunG L hs hW (VRL.cons (.mark _ _ hm0) (VRL.cons (.mark _ _ hm1) (VRL.nil _))) (run904 t_xdb32 t_xdb64 t_xp10)
  | 1, _ => exact lrunG L hs hW (VRL.cons (.mark _ _ hm0) (VRL.cons (.mark _ _ hm1) (VRL.nil _))) (run905 t_xdb32 t_xdb64 t_xp10)
  | 2, _ => exact lrunG L hs hW (VRL.cons (.mark _ _ hm0) (VRL.cons (.mark _ _ hm1) (VRL.nil _))) (run906 t_xdb32 t_xdb64 t_xp10)
  | 3, _ => exact lrunG L hs hW (VRL.cons (.mark _ _ hm0) (VRL.cons (.mark _ _ hm1) (VRL.nil _))) (run907 t_xdb32 t_xdb64 t_xp10)
  | 4, _ => exact lrunG L hs hW (VRL.cons (.mark _ _ hm0) (VRL.cons (.mark _ _ hm1) (VRL.nil _))) (run908 t_xdb32 t_xdb64 t_xp10)
  | 5, _ => exact lrunG L hs hW (VRL.cons (.mark _ _ hm0) (VRL.cons (.mark _ _ hm1) (VRL.nil _))) (run909 t_xdb32 t_xdb64 t_xp10)
  | 6, _ => exact lrunG L hs hW (VRL.cons (.mark _ _ hm0) (VRL.cons (.mark _ _ hm1) (VRL.nil _))) (run910 t_xdb32 t_xdb64 t_xp10)
  | 7, _ => exact lrunG L hs hW (VRL.cons (.mark _ _ hm0) (VRL.cons (.mark _ _ hm1) (VRL.nil _))) (run911 t_xdb32 t_xdb64 t_xp10)
  | k + 8, hk => exact absurd hk (by simp only [Nat.reducePow]; omega)
theorem row114 : Row 114 := fun n0 n1 hm0 W t_xdb32 t_xdb64 t_xp10 L hs hW => by
  obtain ⟨k1, hk1, hm1⟩ := mark_bits (k := 3) (by decide) n1
  match k1, hk1 with
  | 0, _ => exact lrunG L hs hW (VRL.cons (.mark _ _ hm0) (VRL.cons (.mark _ _ hm1) (VRL.nil _))) (run912 t_xdb32 t_xdb64 t_xp10)
  | 1, _ => exact lrunG L hs hW (VRL.cons (.mark _ _ hm0) (VRL.cons (.mark _ _ hm1) (VRL.nil _))) (run913 t_xdb32 t_xdb64 t_xp10)
  | 2, _ => exact lrunG L hs hW (VRL.cons (.mark _ _ hm0) (VRL.cons (.mark _ _ hm1) (VRL.nil _))) (run914 t_xdb32 t_xdb64 t_xp10)
  | 3, _ => exact lrunG L hs hW (VRL.cons (.mark _ _ hm0) (VRL.cons (.mark _ _ hm1) (VRL.nil _))) (run915 t_xdb32 t_xdb64 t_xp10)
  | 4, _ => exact lrunG L hs hW (VRL.cons (.mark _ _ hm0) (VRL.cons (.mark _ _ hm1) (VRL.nil _))) (run916 t_xdb32 t_xdb64 t_xp10)
  | 5, _ => exact lrunG L hs hW (VRL.cons (.mark _ _ hm0) (VRL.cons (.mark _ _ hm1) (VRL.nil _))) (run917 t_xdb32 t_xdb64 t_xp10)
  | 6, _ => exact lrunG L hs hW (VRL.cons (.mark _ _ hm0) (VRL.cons (.mark _ _ hm1) (VRL.nil _))) (run918 t_xdb32 t_xdb64 t_xp10)
  | 7, _ => exact lrunG L hs hW (VRL.cons (.mark _ _ hm0) (VRL.cons (.mark _ _ hm1) (VRL.nil _))) (run919 t_xdb32 t_xdb64 t_xp10)
  | k + 8, hk => exact absurd hk (by simp only [Nat.reducePow]; omega)
theorem row115 : Row 115 := fun n0 n1 hm0 W t_xdb32 t_xdb64 t_xp10 L hs hW => by
  obtain ⟨k1, hk1, hm1⟩ := mark_bits (k := 3) (by decide) n1
  match k1, hk1 with
  | 0, _ => exact lrunG L hs hW (VRL.cons (.mark _ _ hm0) (VRL.cons (.mark _ _ hm1) (VRL.nil _))) (run920 t_xdb32 t_xdb64 t_xp10)
  | 1, _ => exact lrunG L hs hW (VRL.cons (.mark _ _ hm0) (VRL.cons (.mark _ _ hm1) (VRL.nil _))) (run921 t_xdb32 t_xdb64 t_xp10)
  | 2, _ => exact lrunG L hs hW (VRL.cons (.mark _ _ hm0) (VRL.cons (.mark _ _ hm1) (VRL.nil _))) (run922 t_xdb32 t_xdb64 t_xp10)
  | 3, _ => exact lrunG L hs hW (VRL.cons (.mark _ _ hm0) (VRL.cons (.mark _ _ hm1) (VRL.nil _))) (run923 t_xdb32 t_xdb64 t_xp10)
  | 4, _ => exact lrunG L hs hW (VRL.cons (.mark _ _ hm0) (VRL.cons (.mark _ _ hm1) (VRL.nil _))) (run924 t_xdb32 t_xdb64 t_xp10)
  | 5, _ => exact lrunG L hs hW (VRL.cons (.mark _ _ hm0) (VRL.cons (.mark _ _ hm1) (VRL.nil _))) (run925 t_xdb32 t_xdb64 t_xp10)
  | 6, _ => exact lrunG L hs hW (VRL.cons (.mark _ _ hm0) (VRL.cons (.mark _ _ hm1) (VRL.nil _))) (run926 t_xdb32 t_xdb64 t_xp10)
  | 7, _ => exact lrunG L hs hW (VRL.cons (.mark _ _ hm0) (VRL.cons (.mark _ _ hm1) (VRL.nil _))) (run927 t_xdb32 t_xdb64 t_xp10)
  | k + 8, hk => exact absurd hk (by simp only [Nat.reducePow]; omega)
theorem row116 : Row 116 := fun n0 n1 hm0 W t_xdb32 t_xdb64 t_xp10 L hs hW => by
  obtain ⟨k1, hk1, hm1⟩ := mark_bits (k := 3) (by decide) n1
  match k1, hk1 with
  | 0, _ => exact lrunG L hs hW (VRL.cons (.mark _ _ hm0) (VRL.cons (.mark _ _ hm1) (VRL.nil _))) (run928 t_xdb32 t_xdb64 t_xp10)
  | 1, _ => exact lrunG L hs hW (VRL.cons (.mark _ _ hm0) (VRL.cons (.mark _ _ hm1) (VRL.nil _))) (run929 t_xdb32 t_xdb64 t_xp10)
  | 2, _ => exact lrunG L hs hW (VRL.cons (.mark _ _ hm0) (VRL.cons (.mark _ _ hm1) (VRL.nil _))) (run930 t_xdb32 t_xdb64 t_xp10)
  | 3, _ => exact lrunG L hs hW (VRL.cons (.mark _ _ hm0) (VRL.cons (.mark _ _ hm1) (VRL.nil _))) (run931 t_xdb32 t_xdb64 t_xp10)
  | 4, _ => exact lrunG L hs hW (VRL.cons (.mark _ _ hm0) (VRL.cons (.mark _ _ hm1) (VRL.nil _))) (run932 t_xdb32 t_xdb64 t_xp10)
  | 5, _ => exact lrunG L hs hW (VRL.cons (.mark _ _ hm0) (VRL.cons (.mark _ _ hm1) (VRL.nil _))) (run933 t_xdb32 t_xdb64 t_xp10)
  | 6, _ => exact lrunG L hs hW (VRL.cons (.mark _ _ hm0) (VRL.cons (.mark _ _ hm1) (VRL.nil _))) (run934 t_xdb32 t_xdb64 t_xp10)
  | 7, _ => exact lrunG L hs hW (VRL.cons (.mark _ _ hm0) (VRL.cons (.mark _ _ hm1) (VRL.nil _))) (run935 t_xdb32 t_xdb64 t_xp10)
  | k + 8, hk => exact absurd hk (by simp only [Nat.reducePow]; omega)
theorem row117 : Row 117 := fun n0 n1 hm0 W t_xdb32 t_xdb64 t_xp10 L hs hW => by
  obtain ⟨k1, hk1, hm1⟩ := mark_bits (k := 3) (by decide) n1
  match k1, hk1 with
  | 0, _ => exact lrunG L hs hW (VRL.cons (.mark _ _ hm0) (VRL.cons (.mark _ _ hm1) (VRL.nil _))) (run936 t_xdb32 t_xdb64 t_xp10)
  | 1, _ => exact lrunG L hs hW (VRL.cons (.mark _ _ hm0) (VRL.cons (.mark _ _ hm1) (VRL.nil _))) (run937 t_xdb32 t_xdb64 t_xp10)
  | 2, _ => exact lrunG L hs hW (VRL.cons (.mark _ _ hm0) (VRL.cons (.mark _ _ hm1) (VRL.nil _))) (run938 t_xdb32 t_xdb64 t_xp10)
  | 3, _ => exact lrunG L hs hW (VRL.cons (.mark _ _ hm0) (VRL.cons (.mark _ _ hm1) (VRL.nil _))) (run939 t_xdb32 t_xdb64 t_xp10)
  | 4, _ => exact lrunG L hs hW (VRL.cons (.mark _ _ hm0) (VRL.cons (.mark _ _ hm1) (VRL.nil _))) (run940 t_xdb32 t_xdb64 t_xp10)
  | 5, _ => exact lrunG L hs hW (VRL.cons (.mark _ _ hm0) (VRL.cons (.mark _ _ hm1) (VRL.nil _))) (run941 t_xdb32 t_xdb64 t_xp10)
  | 6, _ => exact lrunG L hs hW (VRL.cons (.mark _ _ hm0) (VRL.cons (.mark _ _ hm1) (VRL.nil _))) (run942 t_xdb32 t_xdb64 t_xp10)
  | 7, _ => exact lrunG L hs hW (VRL.cons (.mark _ _ hm0) (VRL.cons (.mark _ _ hm1) (VRL.nil _))) (run943 t_xdb32 t_xdb64 t_xp10)
  | k + 8, hk => exact absurd hk (by simp only [Nat.reducePow]; omega)
theorem row118 : Row 118 := fun n0 n1 hm0 W t_xdb32 t_xdb64 t_xp10 L hs hW => by
  obtain ⟨k1, hk1, hm1⟩ := mark_bits (k := 3) (by decide) n1
  match k1, hk1 with
  | 0, _ => exact lrunG L hs hW (VRL.cons (.mark _ _ hm0) (VRL.cons (.mark _ _ hm1) (VRL.nil _))) (run944 t_xdb32 t_xdb64 t_xp10)
  | 1, _ => exact lrunG L hs hW (VRL.cons (.mark _ _ hm0) (VRL.cons (.mark _ _ hm1) (VRL.nil _))) (run945 t_xdb32 t_xdb64 t_xp10)
  | 2, _ => exact lrunG L hs hW (VRL.cons (.mark _ _ hm0) (VRL.cons (.mark _ _ hm1) (VRL.nil _))) (run946 t_xdb32 t_xdb64 t_xp10)
  | 3, _ => exact lrunG L hs hW (VRL.cons (.mark _ _ hm0) (VRL.cons (.mark _ _ hm1) (VRL.nil _))) (run947 t_xdb32 t_xdb64 t_xp10)
  | 4, _ => exact lrunG L hs hW (VRL.cons (.mark _ _ hm0) (VRL.cons (.mark _ _ hm1) (VRL.nil _))) (run948 t_xdb32 t_xdb64 t_xp10)
  | 5, _ => exact lrunG L hs hW (VRL.cons (.mark _ _ hm0) (VRL.cons (.mark _ _ hm1) (VRL.nil _))) (run949 t_xdb32 t_xdb64 t_xp10)
  | 6, _ => exact lrunG L hs hW (VRL.cons (.mark _ _ hm0) (VRL.cons (.mark _ _ hm1) (VRL.nil _))) (run950 t_xdb32 t_xdb64 t_xp10)
  | 7, _ => exact lrunG L hs hW (VRL.cons (.mark _ _ hm0) (VRL.cons (.mark _ _ hm1) (VRL.nil _))) (run951 t_xdb32 t_xdb64 t_xp10)
  | k + 8, hk => exact absurd hk (by simp only [Nat.reducePow]; omega)
theorem row119 : Row 119 := fun n0 n1 hm0 W t_xdb32 t_xdb64 t_xp10 L hs hW => by
  obtain ⟨k1, hk1, hm1⟩ := mark_bits (k := 3) (by decide) n1
  match k1, hk1 with
  | 0, _ => exact lrunG L hs hW (VRL.cons (.mark _ _ hm0) (VRL.cons (.mark _ _ hm1) (VRL.nil _))) (run952 t_xdb32 t_xdb64 t_xp10)
  | 1, _ => exact lrunG L hs hW (VRL.cons (.mark _ _ hm0) (VRL.cons (.mark _ _ hm1) (VRL.nil _))) (run953 t_xdb32 t_xdb64 t_xp10)
  | 2, _ => exact lrunG L hs hW (VRL.cons (.mark _ _ hm0) (VRL.cons (.mark _ _ hm1) (VRL.nil _))) (run954 t_xdb32 t_xdb64 t_xp10)
  | 3, _ => exact lrunG L hs hW (VRL.cons (.mark _ _ hm0) (VRL.cons (.mark _ _ hm1) (VRL.nil _))) (run955 t_xdb32 t_xdb64 t_xp10)
  | 4, _ => exact lrunG L hs hW (VRL.cons (.mark _ _ hm0) (VRL.cons (.mark _ _ hm1) (VRL.nil _))) (run956 t_xdb32 t_xdb64 t_xp10)
  | 5, _ => exact lrunG L hs hW (VRL.cons (.mark _ _ hm0) (VRL.cons (.mark _ _ hm1) (VRL.nil _))) (run957 t_xdb32 t_xdb64 t_xp10)
  | 6, _ => exact lrunG L hs hW (VRL.cons (.mark _ _ hm0) (VRL.cons (.mark _ _ hm1) (VRL.nil _))) (run958 t_xdb32 t_xdb64 t_xp10)
  | 7, _ => exact lrunG L hs hW (VRL.cons (.mark _ _ hm0) (VRL.cons (.mark _ _ hm1) (VRL.nil _))) (run959 t_xdb32 t_xdb64 t_xp10)
  | k + 8, hk => exact absurd hk (by simp only [Nat.reducePow]; omega)
theorem row120 : Row 120 := fun n0 n1 hm0 W t_xdb32 t_xdb64 t_xp10 L hs hW => by
  obtain ⟨k1, hk1, hm1⟩ := mark_bits (k := 3) (by decide) n1
  match k1, hk1 with
  | 0, _ => exact lrunG L hs hW (VRL.cons (.mark _ _ hm0) (VRL.cons (.mark _ _ hm1) (VRL.nil _))) (run960 t_xdb32 t_xdb64 t_xp10)
  | 1, _ => exact lrunG L hs hW (VRL.cons (.mark _ _ hm0) (VRL.cons (.mark _ _ hm1) (VRL.nil _))) (run961 t_xdb32 t_xdb64 t_xp10)
  | 2, _ => exact lrunG L hs hW (VRL.cons (.mark _ _ hm0) (VRL.cons (.mark _ _ hm1) (VRL.nil _))) (run962 t_xdb32 t_xdb64 t_xp10)
  | 3, _ => exact lrunG L hs hW (VRL.cons (.mark _ _ hm0) (VRL.cons (.mark _ _ hm1) (VRL.nil _))) (run963 t_xdb32 t_xdb64 t_xp10)
  | 4, _ => exact lrunG L hs hW (VRL.cons (.mark _ _ hm0) (VRL.cons (.mark _ _ hm1) (VRL.nil _))) (run964 t_xdb32 t_xdb64 t_xp10)
  | 5, _ => exact lrunG L hs hW (VRL.cons (.mark _ _ hm0) (VRL.cons (.mark _ _ hm1) (VRL.nil _))) (run965 t_xdb32 t_xdb64 t_xp10)
  | 6, _ => exact lrunG L hs hW (VRL.cons (.mark _ _ hm0) (VRL.cons (.mark _ _ hm1) (VRL.nil _))) (run966 t_xdb32 t_xdb64 t_xp10)
  | 7, _ => exact lrunG L hs hW (VRL.cons (.mark _ _ hm0) (VRL.cons (.mark _ _ hm1) (VRL.nil _))) (run967 t_xdb32 t_xdb64 t_xp10)
  | k + 8, hk => exact absurd hk (by simp only [Nat.reducePow]; omega)
theorem row121 : Row 121 := fun n0 n1 hm0 W t_xdb32 t_xdb64 t_xp10 L hs hW => by
  obtain ⟨k1, hk1, hm1⟩ := mark_bits (k := 3) (by decide) n1
  match k1, hk1 with
  | 0, _ => exact lrunG L hs hW (VRL.cons (.mark _ _ hm0) (VRL.cons (.mark _ _ hm1) (VRL.nil _))) (run968 t_xdb32 t_xdb64 t_xp10)
  | 1, _ => exact lrunG L hs hW (VRL.cons (.mark _ _ hm0) (VRL.cons (.mark _ _ hm1) (VRL.nil _))) (run969 t_xdb32 t_xdb64 t_xp10)
  | 2, _ => exact lrunG L hs hW (VRL.cons (.mark _ _ hm0) (VRL.cons (.mark _ _ hm1) (VRL.nil _))) (run970 t_xdb32 t_xdb64 t_xp10)
  | 3, _ => exact lrunG L hs hW (VRL.cons (.mark _ _ hm0) (VRL.cons (.mark _ _ hm1) (VRL.nil _))) (run971 t_xdb32 t_xdb64 t_xp10)
  | 4, _ => exact lrunG L hs hW (VRL.cons (.mark _ _ hm0) (VRL.cons (.mark _ _ hm1) (VRL.nil _))) (run972 t_xdb32 t_xdb64 t_xp10)
  | 5, _ => exact lrunG L hs hW (VRL.cons (.mark _ _ hm0) (VRL.cons (.mark _ _ hm1) (VRL.nil _))) (run973 t_xdb32 t_xdb64 t_xp10)
  | 6, _ => exact lrunG L hs hW (VRL.cons (.mark _ _ hm0) (VRL.cons (.mark _ _ hm1) (VRL.nil _))) (run974 t_xdb32 t_xdb64 t_xp10)
  | 7, _ => exact lrunG L hs hW (VRL.cons (.mark _ _ hm0) (VRL.cons (.mark _ _ hm1) (VRL.nil _))) (run975 t_xdb32 t_xdb64 t_xp10)
  | k + 8, hk => exact absurd hk (by simp only [Nat.reducePow]; omega)
theorem row122 : Row 122 := fun n0 n1 hm0 W t_xdb32 t_xdb64 t_xp10 L hs hW => by
  obtain ⟨k1, hk1, hm1⟩ := mark_bits (k := 3) (by decide) n1
  match k1, hk1 with
  | 0, _ => exact lrunG L hs hW (VRL.cons (.mark _ _ hm0) (VRL.cons (.mark _ _ hm1) (VRL.nil _))) (run976 t_xdb32 t_xdb64 t_xp10)
  | 1, _ => exact lrunG L hs hW (VRL.cons (.mark _ _ hm0) (VRL.cons (.mark _ _ hm1) (VRL.nil _))) (run977 t_xdb32 t_xdb64 t_xp10)
  | 2, _ => exact lrunG L hs hW (VRL.cons (.mark _ _ hm0) (VRL.cons (.mark _ _ hm1) (VRL.nil _))) (run978 t_xdb32 t_xdb64 t_xp10)
  | 3, _ => exact lrunG L hs hW (VRL.cons (.mark _ _ hm0) (VRL.cons (.mark _ _ hm1) (VRL.nil _))) (run979 t_xdb32 t_xdb64 t_xp10)
  | 4, _ => exact lrunG L hs hW (VRL.cons (.mark _ _ hm0) (VRL.cons (.mark _ _ hm1) (VRL.nil _))) (run980 t_xdb32 t_xdb64 t_xp10)
  | 5, _ => exact lrunG L hs hW (VRL.cons (.mark _ _ hm0) (VRL.cons (.mark _ _ hm1) (VRL.nil _))) (run981 t_xdb32 t_xdb64 t_xp10)
  | 6, _ => exact lrunG L hs hW (VRL.cons (.mark _ _ hm0) (VRL.cons (.mark _ _ hm1) (VRL.nil _))) (run982 t_xdb32 t_xdb64 t_xp10)
  | 7, _ => exact lrunG L hs hW (VRL.cons (.mark _ _ hm0) (VRL.cons (.mark _ _ hm1) (VRL.nil _))) (run983 t_xdb32 t_xdb64 t_xp10)
  | k + 8, hk => exact absurd hk (by simp only [Nat.reducePow]; omega)
theorem row123 : Row 123 := fun n0 n1 hm0 W t_xdb32 t_xdb64 t_xp10 L hs hW => by
  obtain ⟨k1, hk1, hm1⟩ := mark_bits (k := 3) (by decide) n1
  match k1, hk1 with
  | 0, _ => exact lrunG L hs hW (VRL.cons (.mark _ _ hm0) (VRL.cons (.mark _ _ hm1) (VRL.nil _))) (run984 t_xdb32 t_xdb64 t_xp10)
  | 1, _ => exact lrunG L hs hW (VRL.cons (.mark _ _ hm0) (VRL.cons (.mark _ _ hm1) (VRL.nil _))) (run985 t_xdb32 t_xdb64 t_xp10)
  | 2, _ => exact lrunG L hs hW (VRL.cons (.mark _ _ hm0) (VRL.cons (.mark _ _ hm1) (VRL.nil _))) (run986 t_xdb32 t_xdb64 t_xp10)
  | 3, _ => exact lrunG L hs hW (VRL.cons (.mark _ _ hm0) (VRL.cons (.mark _ _ hm1) (VRL.nil _))) (run987 t_xdb32 t_xdb64 t_xp10)
  | 4, _ => exact lrunG L hs hW (VRL.cons (.mark _ _ hm0) (VRL.cons (.mark _ _ hm1) (VRL.nil _))) (run988 t_xdb32 t_xdb64 t_xp10)
  | 5, _ => exact lrunG L hs hW (VRL.cons (.mark _ _ hm0) (VRL.cons (.mark _ _ hm1) (VRL.nil _))) (run989 t_xdb32 t_xdb64 t_xp10)
  | 6, _ => exact lrunG L hs hW (VRL.cons (.mark _ _ hm0) (VRL.cons (.mark _ _ hm1) (VRL.nil _))) (run990 t_xdb32 t_xdb64 t_xp10)
  | 7, _ => exact lrunG L hs hW (VRL.cons (.mark _ _ hm0) (VRL.cons (.mark _ _ hm1) (VRL.nil _))) (run991 t_xdb32 t_xdb64 t_xp10)
  | k + 8, hk => exact absurd hk (by simp only [Nat.reducePow]; omega)
theorem row124 : Row 124 := fun n0 n1 hm0 W t_xdb32 t_xdb64 t_xp10 L hs hW => by
  obtain ⟨k1, hk1, hm1⟩ := mark_bits (k := 3) (by decide) n1
  match k1, hk1 with
  | 0, _ => exact lrunG L hs hW (VRL.cons (.mark _ _ hm0) (VRL.cons (.mark _ _ hm1) (VRL.nil _))) (run992 t_xdb32 t_xdb64 t_xp10)
  | 1, _ => exact lrunG L hs hW (VRL.cons (.mark _ _ hm0) (VRL.cons (.mark _ _ hm1) (VRL.nil _))) (run993 t_xdb32 t_xdb64 t_xp10)
  | 2, _ => exact lrunG L hs hW (VRL.cons (.mark _ _ hm0) (VRL.cons (.mark _ _ hm1) (VRL.nil _))) (run994 t_xdb32 t_xdb64 t_xp10)
  | 3, _ => exact lrunG L hs hW (VRL.cons (.mark _ _ hm0) (VRL.cons (.mark _ _ hm1) (VRL.nil _))) (run995 t_xdb32 t_xdb64 t_xp10)
  | 4, _ => exact lrunG L hs hW (VRL.cons (.mark _ _ hm0) (VRL.cons (.mark _ _ hm1) (VRL.nil _))) (run996 t_xdb32 t_xdb64 t_xp10)
  | 5, _ => exact lrunG L hs hW (VRL.cons (.mark _ _ hm0) (VRL.cons (.mark _ _ hm1) (VRL.nil _))) (run997 t_xdb32 t_xdb64 t_xp10)
  | 6, _ => exact lrunG L hs hW (VRL.cons (.mark _ _ hm0) (VRL.cons (.mark _ _ hm1) (VRL.nil _))) (run998 t_xdb32 t_xdb64 t_xp10)
  | 7, _ => exact lrunG L hs hW (VRL.cons (.mark _ _ hm0) (VRL.cons (.mark _ _ hm1) (VRL.nil _))) (run999 t_xdb32 t_xdb64 t_xp10)
  | k + 8, hk => exact absurd hk (by simp only [Nat.reducePow]; omega)
theorem row125 : Row 125 := fun n0 n1 hm0 W t_xdb32 t_xdb64 t_xp10 L hs hW => by
  obtain ⟨k1, hk1, hm1⟩ := mark_bits (k := 3) (by decide) n1
  match k1, hk1 with
  | 0, _ => exact lrunG L hs hW (VRL.cons (.mark _ _ hm0) (VRL.cons (.mark _ _ hm1) (VRL.nil _))) (run1000 t_xdb32 t_xdb64 t_xp10)
  | 1, _ => exact lrunG L hs hW (VRL.cons (.mark _ _ hm0) (VRL.cons (.mark _ _ hm1) (VRL.nil _))) (run1001 t_xdb32 t_xdb64 t_xp10)
  | 2, _ => exact lrunG L hs hW (VRL.cons (.mark _ _ hm0) (VRL.cons (.mark _ _ hm1) (VRL.nil _))) (run1002 t_xdb32 t_xdb64 t_xp10)
  | 3, _ => exact lrunG L hs hW (VRL.cons (.mark _ _ hm0) (VRL.cons (.mark _ _ hm1) (VRL.nil _))) (run1003 t_xdb32 t_xdb64 t_xp10)
  | 4, _ => exact lrunG L hs hW (VRL.cons (.mark _ _ hm0) (VRL.cons (.mark _ _ hm1) (VRL.nil _))) (run1004 t_xdb32 t_xdb64 t_xp10)
  | 5, _ => exact lrunG L hs hW (VRL.cons (.mark _ _ hm0) (VRL.cons (.mark _ _ hm1) (VRL.nil _))) (run1005 t_xdb32 t_xdb64 t_xp10)
  | 6, _ => exact lrunG L hs hW (VRL.cons (.mark _ _ hm0) (VRL.cons (.mark _ _ hm1) (VRL.nil _))) (run1006 t_xdb32 t_xdb64 t_xp10)
  | 7, _ => exact lrunG L hs hW (VRL.cons (.mark _ _ hm0) (VRL.cons (.mark _ _ hm1) (VRL.nil _))) (run1007 t_xdb32 t_xdb64 t_xp10)
  | k + 8, hk => exact absurd hk (by simp only [Nat.reducePow]; omega)
theorem row126 : Row 126 := fun n0 n1 hm0 W t_xdb32 t_xdb64 t_xp10 L hs hW => by
  obtain ⟨k1, hk1, hm1⟩ := mark_bits (k := 3) (by decide) n1
  match k1, hk1 with
  | 0, _ => exact lrunG L hs hW (VRL.cons (.mark _ _ hm0) (VRL.cons (.mark _ _ hm1) (VRL.nil _))) (run1008 t_xdb32 t_xdb64 t_xp10)
  | 1, _ => exact lrunG L hs hW (VRL.cons (.mark _ _ hm0) (VRL.cons (.mark _ _ hm1) (VRL.nil _))) (run1009 t_xdb32 t_xdb64 t_xp10)
  | 2, _ => exact lrunG L hs hW (VRL.cons (.mark _ _ hm0) (VRL.cons (.mark _ _ hm1) (VRL.nil _))) (run1010 t_xdb32 t_xdb64 t_xp10)
  | 3, _ => exact lrunG L hs hW (VRL.cons (.mark _ _ hm0) (VRL.cons (.mark _ _ hm1) (VRL.nil _))) (run1011 t_xdb32 t_xdb64 t_xp10)
  | 4, _ => exact lrunG L hs hW (VRL.cons (.mark _ _ hm0) (VRL.cons (.mark _ _ hm1) (VRL.nil _))) (run1012 t_xdb32 t_xdb64 t_xp10)
  | 5, _ => exact lrunG L hs hW (VRL.cons (.mark _ _ hm0) (VRL.cons (.mark _ _ hm1) (VRL.nil _))) (run1013 t_xdb32 t_xdb64 t_xp10)
  | 6, _ => exact lrunG L hs hW (VRL.cons (.mark _ _ hm0) (VRL.cons (.mark _ _ hm1) (VRL.nil _))) (run1014 t_xdb32 t_xdb64 t_xp10)
  | 7, _ => exact lrunG L hs hW (VRL.cons (.mark _ _ hm0) (VRL.cons (.mark _ _ hm1) (VRL.nil _))) (run1015 t_xdb32 t_xdb64 t_xp10)
  | k + 8, hk => exact absurd hk (by simp only [Nat.reducePow]; omega)
theorem row127 : Row 127 := fun n0 n1 hm0 W t_xdb32 t_xdb64 t_xp10 L hs hW => by
  obtain ⟨k1, hk1, hm1⟩ := mark_bits (k := 3) (by decide) n1
  match k1, hk1 with
  | 0, _ => exact lrunG L hs hW (VRL.cons (.mark _ _ hm0) (VRL.cons (.mark _ _ hm1) (VRL.nil _))) (run1016 t_xdb32 t_xdb64 t_xp10)
  | 1, _ => exact lrunG L hs hW (VRL.cons (.mark _ _ hm0) (VRL.cons (.mark _ _ hm1) (VRL.nil _))) (run1017 t_xdb32 t_xdb64 t_xp10)
  | 2, _ => exact lrunG L hs hW (VRL.cons (.mark _ _ hm0) (VRL.cons (.mark _ _ hm1) (VRL.nil _))) (run1018 t_xdb32 t_xdb64 t_xp10)
  | 3, _ => exact lrunG L hs hW (VRL.cons (.mark _ _ hm0) (VRL.cons (.mark _ _ hm1) (VRL.nil _))) (run1019 t_xdb32 t_xdb64 t_xp10)
  | 4, _ => exact lrunG L hs hW (VRL.cons (.mark _ _ hm0) (VRL.cons (.mark _ _ hm1) (VRL.nil _))) (run1020 t_xdb32 t_xdb64 t_xp10)
  | 5, _ => exact lrunG L hs hW (VRL.cons (.mark _ _ hm0) (VRL.cons (.mark _ _ hm1) (VRL.nil _))) (run1021 t_xdb32 t_xdb64 t_xp10)
  | 6, _ => exact lrunG L hs hW (VRL.cons (.mark _ _ hm0) (VRL.cons (.mark _ _ hm1) (VRL.nil _))) (run1022 t_xdb32 t_xdb64 t_xp10)
  | 7, _ => exact lrunG L hs hW (VRL.cons (.mark _ _ hm0) (VRL.cons (.mark _ _ hm1) (VRL.nil _))) (run1023 t_xdb32 t_xdb64 t_xp10)
  | k + 8, hk => exact absurd hk (by simp only [Nat.reducePow]; omega)
theorem blk0 : ∀ k, k < 16 → Row (16 * 0 + k)
  | 0, _ => row0
  | 1, _ => row1
  | 2, _ => row2
  | 3, _ => row3
  | 4, _ => row4
  | 5, _ => row5
  | 6, _ => row6
  | 7, _ => row7
  | 8, _ => row8
  | 9, _ => row9
  | 10, _ => row10
  | 11, _ => row11
  | 12, _ => row12
  | 13, _ => row13
  | 14, _ => row14
  | 15, _ => row15
  | k + 16, hk => absurd hk (by omega)
theorem blk1 : ∀ k, k < 16 → Row (16 * 1 + k)
  | 0, _ => row16
  | 1, _ => row17
  | 2, _ => row18
  | 3, _ => row19
  | 4, _ => row20
  | 5, _ => row21
  | 6, _ => row22
  | 7, _ => row23
  | 8, _ => row24
  | 9, _ => row25
  | 10, _ => row26
  | 11, _ => row27
  | 12, _ => row28
  | 13, _ => row29
  | 14, _ => row30
  | 15, _ => row31
  | k + 16, hk => absurd hk (by omega)
theorem blk2 : ∀ k, k < 16 → Row (16 * 2 + k)
  | 0, _ => row32
  | 1, _ => row33
  | 2, _ => row34
  | 3, _ => row35
  | 4, _ => row36
  | 5, _ => row37
  | 6, _ => row38
  | 7, _ => row39
  | 8, _ => row40
  | 9, _ => row41
  | 10, _ => row42
  | 11, _ => row43
  | 12, _ => row44
  | 13, _ => row45
  | 14, _ => row46
  | 15, _ => row47
  | k + 16, hk => absurd hk (by omega)
theorem blk3 : ∀ k, k < 16 → Row (16 * 3 + k)
  | 0, _ => row48
  | 1, _ => row49
  | 2, _ => row50
  | 3, _ => row51
  | 4, _ => row52
  | 5, _ => row53
  | 6, _ => row54
  | 7, _ => row55
  | 8, _ => row56
  | 9, _ => row57
  | 10, _ => row58
  | 11, _ => row59
  | 12, _ => row60
  | 13, _ => row61
  | 14, _ => row62
  | 15, _ => row63
  | k + 16, hk => absurd hk (by omega)
theorem blk4 : ∀ k, k < 16 → Row (16 * 4 + k)
  | 0, _ => row64
  | 1, _ => row65
  | 2, _ => row66
  | 3, _ => row67
  | 4, _ => row68
  | 5, _ => row69
  | 6, _ => row70
  | 7, _ => row71
  | 8, _ => row72
  | 9, _ => row73
  | 10, _ => row74
  | 11, _ => row75
  | 12, _ => row76
  | 13, _ => row77
  | 14, _ => row78
  | 15, _ => row79
  | k + 16, hk => absurd hk (by omega)
theorem blk5 : ∀ k, k < 16 → Row (16 * 5 + k)
  | 0, _ => row80
  | 1, _ => row81
  | 2, _ => row82
  | 3, _ => row83
  | 4, _ => row84
  | 5, _ => row85
  | 6, _ => row86
  | 7, _ => row87
  | 8, _ => row88
  | 9, _ => row89
  | 10, _ => row90
  | 11, _ => row91
  | 12, _ => row92
  | 13, _ => row93
  | 14, _ => row94
  | 15, _ => row95
  | k + 16, hk => absurd hk (by omega)
theorem blk6 : ∀ k, k < 16 → Row (16 * 6 + k)
  | 0, _ => row96
  | 1, _ => row97
  | 2, _ => row98
  | 3, _ => row99
  | 4, _ => row100
  | 5, _ => row101
  | 6, _ => row102
  | 7, _ => row103
  | 8, _ => row104
  | 9, _ => row105
  | 10, _ => row106
  | 11, _ => row107
  | 12, _ => row108
  | 13, _ => row109
  | 14, _ => row110
  | 15, _ => row111
  | k + 16, hk => absurd hk (by omega)
theorem blk7 : ∀ k, k < 16 → Row (16 * 7 + k)
  | 0, _ => row112
  | 1, _ => row113
  | 2, _ => row114
  | 3, _ => row115
  | 4, _ => row116
  | 5, _ => row117
  | 6, _ => row118
  | 7, _ => row119
  | 8, _ => row120
  | 9, _ => row121
  | 10, _ => row122
  | 11, _ => row123
  | 12, _ => row124
  | 13, _ => row125
  | 14, _ => row126
  | 15, _ => row127
  | k + 16, hk => absurd hk (by omega)
theorem rows_all : ∀ j, j < 8 → ∀ k, k < 16 → Row (16 * j + k)
  | 0, _ => blk0
  | 1, _ => blk1
  | 2, _ => blk2
  | 3, _ => blk3
  | 4, _ => blk4
  | 5, _ => blk5
  | 6, _ => blk6
  | 7, _ => blk7
  | j + 8, hj => absurd hj (by omega)
theorem l_calls (n0 n1 : Int) {W : World} {t_xdb32 t_xdb64 t_xp10 : TypeId} (L : Laying 6 W (heapA t_xdb32 t_xdb64 t_xp10)) (hs : 6 ≤ W.heap.size) (hW : Len W) : Calls Tryz.prog 5 #[.int .i64 n0, .int .i64 n1] W fun e W' => e = .returned (.bool true) ∧ Kept W W' := by
  obtain ⟨k0, hk0, hm0⟩ := mark_bits (k := 7) (by decide) n0
  have hk : k0 < 128 := by simpa using hk0
  have e : k0 = 16 * (k0 / 16) + k0 % 16 := by omega
  rw [e] at hm0
  exact rows_all (k0 / 16) (by omega) (k0 % 16) (by omega) n0 n1 hm0 L hs hW
theorem optnLong_lifted (os : Os) (started : os.Started) (H : Type) (enc : TypeId × Value → H) :
    ReturnsInHanded {} Tryz.checked os 5 .any (fun w args => (Rows.optnLongSpec.pre enc Tryz.prog Tryz.f5 [] false w args ∧ laidMetH Tryz.prog Rows.optnLongRow.laid w) ∧ sizedMet enc Tryz.prog Tryz.f5 (OpenSpec.ofChange Rows.optnLongSpec) false w args)
      (Rows.optnLongSpec.post enc Tryz.prog Tryz.f5 false true false false) := by
  refine wrap_shaped (C := Tryz.checked) (X := fun w _ => laidMetH Tryz.prog Rows.optnLongRow.laid w) (fun _ _ _ hh h => h.of_heap hh) dt_own started (by kernel_rfl) Tryz.func5
    (ChangeSpec.witness_shaped (enc := enc) (C := Tryz.checked) (os := os) (X := fun w _ => laidMetH Tryz.prog Rows.optnLongRow.laid w) false (World.laidAll Tryz.prog os laidA) #[.int .i64 0, .int .i64 0] 8 (World.laidAll_os _ _ _) (World.shaped_of_ZipB (by kernel_rfl) (by kernel_rfl)) (by kernel_rfl) (by kernel_rfl) (by kernel_rfl) (door_metA os _)) ?_
  intro W base args ds gs before hval0 hW hL hsh
  obtain ⟨t_xdb32, t_xdb64, t_xp10, L, hs⟩ := laidA_at hL
  have hval : ∀ (j : Nat) t v, Tryz.f5.params[j]? = some t → args[j]? = some v → Value.okWide Tryz.prog W .any base t v := hval0
  have hW' := hW
  obtain ⟨p, q, hA0, hV, rfl, hfz, hnd⟩ := hW
  have hA : DataW.TrodAll enc Tryz.prog W 0 (fun _ => true) true Tryz.f5.params.toList args.toList ds p := hA0
  rw [Tryz.params5] at hA hval
  obtain ⟨v0, v1, d0, d1, p0, p1, rfl, rfl, rfl, h0, h1⟩ := trodAll_two hA
  obtain ⟨rfl, rfl⟩ := trodVars_none hV
  obtain ⟨n0, rfl, rfl, rfl, wn0⟩ := open_int Tryz.underlying3 (hval 0 3 v0 rfl rfl) h0
  obtain ⟨n1, rfl, rfl, rfl, wn1⟩ := open_int Tryz.underlying3 (hval 1 3 v1 rfl rfl) h1
  refine (l_calls n0 n1 L hs (Len.of_shape hsh hs)).mono fun e W' ⟨he, hw⟩ => ?_
  subst he
  exact ⟨_, rfl, _, _, _, [], [], [], hW', trodAll_mk1 (shut_bool Tryz.underlying4 true), trodAll_mk2 (shut_int Tryz.underlying3 wn0) (shut_int Tryz.underlying3 wn1), rfl, hw.but _, fun h => by cases h⟩


theorem optnLong_holds : Rows.OptnLongSaid :=
  OpenClaim.holds_of_wide 5 Tryz.f5 rfl rfl rfl rfl rfl rfl rfl ⟨rfl, rfl, rfl, rfl, rfl⟩ rfl rfl rfl rfl rfl (by kernel_rfl) Tryz.func5 (by kernel_rfl)
    (of_decide_eq_true (by kernel_rfl)) (by unfold Func.isWrapper; first | (rw [if_pos (by decide +kernel)]; kernel_rfl) | (rw [if_neg (by decide +kernel)]; exact ⟨rfl, rfl⟩))
    (fun os started H enc _ => optnLong_lifted os started H enc)

theorem optnLong_card_holds : Rows.OptnLongCardSaid :=
  Claim7.holds_tied_plain_at .later [] [.data, .data, .data, .data, .pinned] true (true, "72b4bea03e98f7c99785e9cbb05f0bbffe6993c0483054ae277b5de2fff02993") false
    optnLong_holds (fun _ h => by cases h) (by kernel_rfl) (fun _ h => by cases h) optnLong_row_tie rfl ⟨rfl, rfl⟩ (by kernel_rfl) rfl
    (fun f fn hf hfn => by
      obtain rfl : f = 5 := Option.some.inj ((show Tryz.prog.funcNamed "glebe/glebelaw13.OptnLong" = some 5 by kernel_rfl).symm.trans hf) |>.symm
      obtain rfl : fn = Tryz.f5 := (Option.some.inj (Tryz.func5.symm.trans hfn)).symm
      exact ⟨by kernel_rfl, fun j t ht => by
        rw [Tryz.params5] at ht
        have h3 : t = 3 := by
          match j, ht with
          | 0, ht => simp at ht; subst ht; first | exact .inl rfl | exact .inr rfl | rfl
          | 1, ht => simp at ht; subst ht; first | exact .inl rfl | exact .inr rfl | rfl
          | j + 2, ht => simp at ht
        rcases h3 with rfl
        · exact (show Tryz.prog.wantsStandIn 3 = false by kernel_rfl)⟩)
    (by kernel_rfl)
#print axioms optnLong_card_holds
end Go.Proofs.YtcjbddgeoiacoaaGreatDoor
