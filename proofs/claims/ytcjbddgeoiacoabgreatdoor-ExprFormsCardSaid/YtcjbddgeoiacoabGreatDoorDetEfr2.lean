/- ExprForms: closed runs. -/
import Derived.Test.YtcjbddgeoiacoabGreatDoorDetEf
namespace Go.Proofs.YtcjbddgeoiacoabGreatDoor
set_option maxRecDepth 100000
open Go.ChangeShapes Go.WideShapes Go.ChangeAt Go.RowKit Go.Det
theorem run2 (t_xdb32 t_xdb64 t_xp10 : TypeId) : isTrue (callD Tryz.prog (mkIntr maskB (extL extsB)) 1000 80 7 [rowArg 15 2] (birth (heapA t_xdb32 t_xdb64 t_xp10) 64)) = true := by kernel_rfl
theorem run5 (t_xdb32 t_xdb64 t_xp10 : TypeId) : isTrue (callD Tryz.prog (mkIntr maskB (extL extsB)) 1000 80 7 [rowArg 15 5] (birth (heapA t_xdb32 t_xdb64 t_xp10) 64)) = true := by kernel_rfl
theorem run8 (t_xdb32 t_xdb64 t_xp10 : TypeId) : isTrue (callD Tryz.prog (mkIntr maskB (extL extsB)) 1000 80 7 [rowArg 15 8] (birth (heapA t_xdb32 t_xdb64 t_xp10) 64)) = true := by kernel_rfl
theorem run11 (t_xdb32 t_xdb64 t_xp10 : TypeId) : isTrue (callD Tryz.prog (mkIntr maskB (extL extsB)) 1000 80 7 [rowArg 15 11] (birth (heapA t_xdb32 t_xdb64 t_xp10) 64)) = true := by kernel_rfl
theorem run14 (t_xdb32 t_xdb64 t_xp10 : TypeId) : isTrue (callD Tryz.prog (mkIntr maskB (extL extsB)) 1000 80 7 [rowArg 15 14] (birth (heapA t_xdb32 t_xdb64 t_xp10) 64)) = true := by kernel_rfl
end Go.Proofs.YtcjbddgeoiacoabGreatDoor
