/- MaskForms: closed runs. -/
import Derived.Test.YtlcgmlefagpmiadGreatDoorDetMk
namespace Go.Proofs.YtlcgmlefagpmiadGreatDoor
set_option maxRecDepth 100000
open Go.ChangeShapes Go.WideShapes Go.ChangeAt Go.RowKit Go.Det
theorem run0 (t_xdb32 t_xdb64 t_xp10 : TypeId) : isTrue (callD Tryz.prog (mkIntr maskB (extL extsB)) 1000 80 3 [rowArg 24 0] (birth (heapA t_xdb32 t_xdb64 t_xp10) 64)) = true := by kernel_rfl
theorem run3 (t_xdb32 t_xdb64 t_xp10 : TypeId) : isTrue (callD Tryz.prog (mkIntr maskB (extL extsB)) 1000 80 3 [rowArg 24 3] (birth (heapA t_xdb32 t_xdb64 t_xp10) 64)) = true := by kernel_rfl
theorem run6 (t_xdb32 t_xdb64 t_xp10 : TypeId) : isTrue (callD Tryz.prog (mkIntr maskB (extL extsB)) 1000 80 3 [rowArg 24 6] (birth (heapA t_xdb32 t_xdb64 t_xp10) 64)) = true := by kernel_rfl
theorem run9 (t_xdb32 t_xdb64 t_xp10 : TypeId) : isTrue (callD Tryz.prog (mkIntr maskB (extL extsB)) 1000 80 3 [rowArg 24 9] (birth (heapA t_xdb32 t_xdb64 t_xp10) 64)) = true := by kernel_rfl
theorem run12 (t_xdb32 t_xdb64 t_xp10 : TypeId) : isTrue (callD Tryz.prog (mkIntr maskB (extL extsB)) 1000 80 3 [rowArg 24 12] (birth (heapA t_xdb32 t_xdb64 t_xp10) 64)) = true := by kernel_rfl
theorem run15 (t_xdb32 t_xdb64 t_xp10 : TypeId) : isTrue (callD Tryz.prog (mkIntr maskB (extL extsB)) 1000 80 3 [rowArg 24 15] (birth (heapA t_xdb32 t_xdb64 t_xp10) 64)) = true := by kernel_rfl
theorem run18 (t_xdb32 t_xdb64 t_xp10 : TypeId) : isTrue (callD Tryz.prog (mkIntr maskB (extL extsB)) 1000 80 3 [rowArg 24 18] (birth (heapA t_xdb32 t_xdb64 t_xp10) 64)) = true := by kernel_rfl
theorem run21 (t_xdb32 t_xdb64 t_xp10 : TypeId) : isTrue (callD Tryz.prog (mkIntr maskB (extL extsB)) 1000 80 3 [rowArg 24 21] (birth (heapA t_xdb32 t_xdb64 t_xp10) 64)) = true := by kernel_rfl
end Go.Proofs.YtlcgmlefagpmiadGreatDoor
