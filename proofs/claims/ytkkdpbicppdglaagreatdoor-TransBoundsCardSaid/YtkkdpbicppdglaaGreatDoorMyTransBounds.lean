/- TransBounds: whatever the numbers and the machine, the law gives true. (Its card: the table of math/bits is as the program's text lays it.) -/
import Derived.Test.YtkkdpbicppdglaaGreatDoorCards
import Derived.Test.YtkkdpbicppdglaaGreatDoorTie
import Derived.Test.YtkkdpbicppdglaaGreatDoorG7
namespace Go.Proofs.YtkkdpbicppdglaaGreatDoor
open Go.ChangeShapes Go.WideShapes Go.ChangeAt Go.RowKit Go.AM
theorem transBounds_goes : false = Rows.transBoundsRow.goesBy Tryz.prog := by kernel_rfl
theorem transBounds_card : Rows.TransBoundsCardSaid :=
  Claim7.holds_tied_plain_at .later [] [.data] true (true, "0d56cdc04e4d55dbe69738f15fddf860b6639bdc2aad11bb538e390606457b59") true transBounds_holds (fun _ h => by cases h) (by kernel_rfl) (fun _ h => by cases h) transBounds_row_tie rfl ⟨rfl, rfl⟩ (by kernel_rfl) rfl
    (fun f fn hf hfn => by
      obtain rfl : f = 5 := Option.some.inj ((show Tryz.prog.funcNamed Rows.transBoundsRow.func = some 5 by kernel_rfl).symm.trans hf) |>.symm
      obtain rfl : fn = Tryz.f5 := (Option.some.inj (Tryz.func5.symm.trans hfn)).symm
      exact ⟨Tryz.looks, fun j t ht => by
        rw [Tryz.params5] at ht
        have hm : t ∈ [57, 60] := by simpa using Array.mem_of_getElem? ht
        have hall : ([57, 60].all fun u => !Tryz.prog.wantsStandIn u) = true := by kernel_rfl
        exact (show Tryz.prog.wantsStandIn t = false by simpa using List.all_eq_true.1 hall t hm)⟩)
    transBounds_goes
end Go.Proofs.YtkkdpbicppdglaaGreatDoor
