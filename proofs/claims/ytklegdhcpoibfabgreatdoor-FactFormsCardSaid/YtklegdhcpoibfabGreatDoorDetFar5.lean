/- FactForms: closed runs. -/
import Derived.Test.YtklegdhcpoibfabGreatDoorDetFa
namespace Go.Proofs.YtklegdhcpoibfabGreatDoor
set_option maxRecDepth 100000
open Go.ChangeShapes Go.WideShapes Go.ChangeAt Go.RowKit Go.Det
theorem run5 (t_xdb32 t_xdb64 t_xp10 : TypeId) : isTrue (callD Tryz.prog (mkIntr maskB (extL extsB)) 1000 80 3 [rowArg 29 5] (birth (heapA t_xdb32 t_xdb64 t_xp10) 64)) = true := by kernel_rfl
theorem run11 (t_xdb32 t_xdb64 t_xp10 : TypeId) : isTrue (callD Tryz.prog (mkIntr maskB (extL extsB)) 1000 80 3 [rowArg 29 11] (birth (heapA t_xdb32 t_xdb64 t_xp10) 64)) = true := by kernel_rfl
theorem run17 (t_xdb32 t_xdb64 t_xp10 : TypeId) : isTrue (callD Tryz.prog (mkIntr maskB (extL extsB)) 1000 80 3 [rowArg 29 17] (birth (heapA t_xdb32 t_xdb64 t_xp10) 64)) = true := by kernel_rfl
theorem run23 (t_xdb32 t_xdb64 t_xp10 : TypeId) : isTrue (callD Tryz.prog (mkIntr maskB (extL extsB)) 1000 80 3 [rowArg 29 23] (birth (heapA t_xdb32 t_xdb64 t_xp10) 64)) = true := by kernel_rfl
end Go.Proofs.YtklegdhcpoibfabGreatDoor
