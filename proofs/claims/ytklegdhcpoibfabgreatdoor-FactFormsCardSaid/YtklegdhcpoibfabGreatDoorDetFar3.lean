/- FactForms: closed runs. -/
import Derived.Test.YtklegdhcpoibfabGreatDoorDetFa
namespace Go.Proofs.YtklegdhcpoibfabGreatDoor
set_option maxRecDepth 100000
open Go.ChangeShapes Go.WideShapes Go.ChangeAt Go.RowKit Go.Det
theorem run3 (t_xdb32 t_xdb64 t_xp10 : TypeId) : isTrue (callD Tryz.prog (mkIntr maskB (extL extsB)) 1000 80 3 [rowArg 29 3] (birth (heapA t_xdb32 t_xdb64 t_xp10) 64)) = true := by kernel_rfl
theorem run9 (t_xdb32 t_xdb64 t_xp10 : TypeId) : isTrue (callD Tryz.prog (mkIntr maskB (extL extsB)) 1000 80 3 [rowArg 29 9] (birth (heapA t_xdb32 t_xdb64 t_xp10) 64)) = true := by kernel_rfl
theorem run15 (t_xdb32 t_xdb64 t_xp10 : TypeId) : isTrue (callD Tryz.prog (mkIntr maskB (extL extsB)) 1000 80 3 [rowArg 29 15] (birth (heapA t_xdb32 t_xdb64 t_xp10) 64)) = true := by kernel_rfl
theorem run21 (t_xdb32 t_xdb64 t_xp10 : TypeId) : isTrue (callD Tryz.prog (mkIntr maskB (extL extsB)) 1000 80 3 [rowArg 29 21] (birth (heapA t_xdb32 t_xdb64 t_xp10) 64)) = true := by kernel_rfl
theorem run27 (t_xdb32 t_xdb64 t_xp10 : TypeId) : isTrue (callD Tryz.prog (mkIntr maskB (extL extsB)) 1000 80 3 [rowArg 29 27] (birth (heapA t_xdb32 t_xdb64 t_xp10) 64)) = true := by kernel_rfl
end Go.Proofs.YtklegdhcpoibfabGreatDoor
