/- The Unix layer's awake gives true: once, then a special. -/
import Derived.Test.YtkkdpbicppdglaaGreatDoorMyTryz
import Derived.Test.YtkkdpbicppdglaaGreatDoorAmAwake
namespace Go.Proofs.YtkkdpbicppdglaaGreatDoor
open Go.ChangeShapes Go.WideShapes Go.ChangeAt Go.RowKit Go.AM
set_option maxRecDepth 100000 in
theorem aw22 : isTrue (clA 9 [] (listHeap (doorL 1 .u8 tab ++ []))) = true := by kernel_rfl
noncomputable abbrev spU : Special := orSpec (oneSpec 9 (trueF 1 .u8 tab)) trySp
theorem spU_ok : SpecOk Tryz.prog (1 + 1) spU := orSpec_ok (oneSpec_ok fun cl _ => trueF_ok clA_ok aw22 cl) trySp_ok
noncomputable abbrev clU : Caller := acall Tryz.prog (1 + 1) spU 3000 60
theorem clU_ok : CallOk Tryz.prog (1 + 1) clU := acall_ok (by kernel_rfl) spU_ok 3000 60
end Go.Proofs.YtkkdpbicppdglaaGreatDoor
