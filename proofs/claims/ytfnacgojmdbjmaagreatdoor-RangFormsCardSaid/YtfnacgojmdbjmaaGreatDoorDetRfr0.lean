/- RangForms: closed runs. -/
import Derived.Test.YtfnacgojmdbjmaaGreatDoorDetRf
namespace Go.Proofs.YtfnacgojmdbjmaaGreatDoor
set_option maxRecDepth 100000
open Go.ChangeShapes Go.WideShapes Go.ChangeAt Go.RowKit Go.Det
theorem run7 (t_xdb32 t_xdb64 t_xp10 : TypeId) : isTrue (callD Tryz.prog (mkIntr maskC0 (extL extsC0_24)) 1000 80 4 [rowArg 15 7] (birth (heapA t_xdb32 t_xdb64 t_xp10) 64)) = true := by kernel_rfl
end Go.Proofs.YtfnacgojmdbjmaaGreatDoor
