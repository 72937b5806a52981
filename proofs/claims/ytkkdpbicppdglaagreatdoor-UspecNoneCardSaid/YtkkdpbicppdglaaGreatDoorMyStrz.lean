/- The library's texts in this seat: specials. -/
import Derived.Test.YtkkdpbicppdglaaGreatDoorMyTryz
import Derived.Test.YtkkdpbicppdglaaGreatDoorAmStr2
import Derived.Shelf.Lay
import Derived.Ground.NamesProg
namespace Go.Proofs
open Go.Shelf Go.RowKit
shelf_lay Lays.n105 Nm 105 at Tryz as Tryz.laysRepeat
shelf_lay Lays.n213 Nm 213 at Tryz as Tryz.laysCompare
shelf_lay Lays.n217 Nm 217 at Tryz as Tryz.laysIndex
theorem Tryz.exRepeat : Builder.Extra Tryz.prog Tryz.laysRepeat_ren := ⟨⟨by kernel_rfl, by kernel_rfl⟩, Tryz.laysRepeat.t5, Tryz.laysRepeat.a5, Tryz.laysRepeat.z5, Tryz.laysRepeat.v5, by kernel_rfl, by kernel_rfl, by kernel_rfl, by decide⟩
theorem Tryz.laysCopy : Lays.n240 Tryz.prog Tryz.laysRepeat_ren := { Tryz.laysRepeat with }
theorem Tryz.laysString : Lays.n169 Tryz.prog Tryz.laysRepeat_ren := { Tryz.laysRepeat with }
namespace YtkkdpbicppdglaaGreatDoor
open Go.AM
noncomputable def strSp : Special := orSpec (oneSpec 345 (ccF (Tryz.laysRepeat_ren.t 72))) (orSpec (oneSpec 308 (stF (Tryz.laysRepeat_ren.t 72) (Tryz.laysRepeat_ren.t 5))) (orSpec (oneSpec 306 (pureF repV)) (orSpec (oneSpec 361 (pureF idxV)) (oneSpec 279 (pureF cmpV)))))
theorem strSp_ok : SpecOk Tryz.prog (1 + 1) strSp := by
  refine orSpec_ok (oneSpec_ok fun cl _ => ?_) (orSpec_ok (oneSpec_ok fun cl _ => ?_) (orSpec_ok (oneSpec_ok fun cl _ => ?_) (orSpec_ok (oneSpec_ok fun cl _ => ?_) (oneSpec_ok fun cl _ => ?_))))
  · exact ccF_ok Tryz.laysCopy Tryz.exRepeat.toX72 (enters_of Tryz.func345 (by kernel_rfl) rfl) cl
  · exact stF_ok Tryz.laysString Tryz.exRepeat (enters_of Tryz.func308 (by kernel_rfl) rfl) cl
  · exact repF_ok Tryz.laysRepeat Tryz.exRepeat (enters_of Tryz.func306 (by kernel_rfl) rfl) cl
  · exact idxF_ok Tryz.laysIndex (enters_of Tryz.func361 (by kernel_rfl) rfl) cl
  · exact cmpF_ok Tryz.laysCompare (enters_of Tryz.func279 (by kernel_rfl) rfl) cl
end YtkkdpbicppdglaaGreatDoor
end Go.Proofs
