/- The specification's awake gives true: once, then a special. -/
import Derived.Test.YtkkdpbicppdglaaGreatDoorMyStrz
namespace Go.Proofs.YtkkdpbicppdglaaGreatDoor
open Go.ChangeShapes Go.WideShapes Go.ChangeAt Go.RowKit Go.AM
noncomputable abbrev spS : Special := orSpec trySp strSp
theorem spS_ok : SpecOk Tryz.prog (1 + 1) spS := orSpec_ok trySp_ok strSp_ok
noncomputable abbrev clS : Caller := acall Tryz.prog (1 + 1) spS 3000 60
theorem clS_ok : CallOk Tryz.prog (1 + 1) clS := acall_ok (by kernel_rfl) spS_ok 3000 60
set_option maxRecDepth 100000 in
theorem aw23 : isTrue (clS 27 [] (listHeap (doorL 1 .u8 tab ++ []))) = true := by kernel_rfl
noncomputable abbrev spV : Special := orSpec (oneSpec 27 (trueF 1 .u8 tab)) spS
theorem spV_ok : SpecOk Tryz.prog (1 + 1) spV := orSpec_ok (oneSpec_ok fun cl _ => trueF_ok clS_ok aw23 cl) spS_ok
noncomputable abbrev clV : Caller := acall Tryz.prog (1 + 1) spV 3000 60
theorem clV_ok : CallOk Tryz.prog (1 + 1) clV := acall_ok (by kernel_rfl) spV_ok 3000 60
end Go.Proofs.YtkkdpbicppdglaaGreatDoor
