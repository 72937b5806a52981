/- UspecNone: whatever the pick, the law gives true. (Its card: the table of math/bits is as the program's text lays it.) -/
import Derived.Test.YtkkdpbicppdglaaGreatDoorCards
import Derived.Test.YtkkdpbicppdglaaGreatDoorTie
import Derived.Test.YtkkdpbicppdglaaGreatDoorMyUspecNoneH
namespace Go.Proofs.YtkkdpbicppdglaaGreatDoor
open Go.ChangeShapes Go.WideShapes Go.ChangeAt Go.RowKit Go.AM
theorem uspecNone_goes : false = Rows.uspecNoneRow.goesBy Tryz.prog := by kernel_rfl
theorem uspecNone_card : Rows.UspecNoneCardSaid :=
  Claim7.holds_tied_plain_at .later [] [.data] true (true, "0d56cdc04e4d55dbe69738f15fddf860b6639bdc2aad11bb538e390606457b59") true uspecNone_holds (fun _ h => by cases h) (by kernel_rfl) (fun _ h => by cases h) uspecNone_row_tie rfl ⟨rfl, rfl⟩ (by kernel_rfl) rfl
    (fun f fn hf hfn => by
      obtain rfl : f = 6 := Option.some.inj ((show Tryz.prog.funcNamed Rows.uspecNoneRow.func = some 6 by kernel_rfl).symm.trans hf) |>.symm
      obtain rfl : fn = Tryz.f6 := (Option.some.inj (Tryz.func6.symm.trans hfn)).symm
      exact ⟨Tryz.looks, fun j t ht => by
        rw [Tryz.params6] at ht
        have hm : t ∈ [66] := by simpa using Array.mem_of_getElem? ht
        have hall : ([66].all fun u => !Tryz.prog.wantsStandIn u) = true := by kernel_rfl
        exact (show Tryz.prog.wantsStandIn t = false by simpa using List.all_eq_true.1 hall t hm)⟩)
    uspecNone_goes
end Go.Proofs.YtkkdpbicppdglaaGreatDoor
