/- MaskTimes: closed runs. -/
import Derived.Test.YtanfmpiidmhobaaGreatDoorDetMt
namespace Go.Proofs.YtanfmpiidmhobaaGreatDoor
set_option maxRecDepth 100000
open Go.ChangeShapes Go.WideShapes Go.ChangeAt Go.RowKit Go.Det
theorem run3 (t_xdb32 t_xdb64 t_xp10 : TypeId) : isTrue (callD Tryz.prog (mkIntr maskB (extL extsB)) 1000 80 3 [bitsArg 2 0, bitsArg 2 1, .bool true] (birth (heapA t_xdb32 t_xdb64 t_xp10) 64)) = true := by kernel_rfl
theorem run7 (t_xdb32 t_xdb64 t_xp10 : TypeId) : isTrue (callD Tryz.prog (mkIntr maskB (extL extsB)) 1000 80 3 [bitsArg 2 0, bitsArg 2 3, .bool true] (birth (heapA t_xdb32 t_xdb64 t_xp10) 64)) = true := by kernel_rfl
theorem run11 (t_xdb32 t_xdb64 t_xp10 : TypeId) : isTrue (callD Tryz.prog (mkIntr maskB (extL extsB)) 1000 80 3 [bitsArg 2 1, bitsArg 2 1, .bool true] (birth (heapA t_xdb32 t_xdb64 t_xp10) 64)) = true := by kernel_rfl
theorem run15 (t_xdb32 t_xdb64 t_xp10 : TypeId) : isTrue (callD Tryz.prog (mkIntr maskB (extL extsB)) 1000 80 3 [bitsArg 2 1, bitsArg 2 3, .bool true] (birth (heapA t_xdb32 t_xdb64 t_xp10) 64)) = true := by kernel_rfl
theorem run19 (t_xdb32 t_xdb64 t_xp10 : TypeId) : isTrue (callD Tryz.prog (mkIntr maskB (extL extsB)) 1000 80 3 [bitsArg 2 2, bitsArg 2 1, .bool true] (birth (heapA t_xdb32 t_xdb64 t_xp10) 64)) = true := by kernel_rfl
theorem run23 (t_xdb32 t_xdb64 t_xp10 : TypeId) : isTrue (callD Tryz.prog (mkIntr maskB (extL extsB)) 1000 80 3 [bitsArg 2 2, bitsArg 2 3, .bool true] (birth (heapA t_xdb32 t_xdb64 t_xp10) 64)) = true := by kernel_rfl
theorem run27 (t_xdb32 t_xdb64 t_xp10 : TypeId) : isTrue (callD Tryz.prog (mkIntr maskB (extL extsB)) 1000 80 3 [bitsArg 2 3, bitsArg 2 1, .bool true] (birth (heapA t_xdb32 t_xdb64 t_xp10) 64)) = true := by kernel_rfl
theorem run31 (t_xdb32 t_xdb64 t_xp10 : TypeId) : isTrue (callD Tryz.prog (mkIntr maskB (extL extsB)) 1000 80 3 [bitsArg 2 3, bitsArg 2 3, .bool true] (birth (heapA t_xdb32 t_xdb64 t_xp10) 64)) = true := by kernel_rfl
end Go.Proofs.YtanfmpiidmhobaaGreatDoor
