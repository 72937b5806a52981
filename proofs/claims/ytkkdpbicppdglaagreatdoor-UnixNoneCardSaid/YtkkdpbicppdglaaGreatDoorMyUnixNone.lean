/- UnixNone: whatever the deed, the law gives true, and leaves its argument as it was. (Its card: the table of math/bits is as the program's text lays it.) -/
import Derived.Test.YtkkdpbicppdglaaGreatDoorCards
import Derived.Test.YtkkdpbicppdglaaGreatDoorTie
import Derived.Test.YtkkdpbicppdglaaGreatDoorMyUnixNoneH
namespace Go.Proofs.YtkkdpbicppdglaaGreatDoor
open Go.ChangeShapes Go.WideShapes Go.ChangeAt Go.RowKit Go.AM
theorem unixNone_goes : false = Rows.unixNoneRow.goesBy Tryz.prog := by kernel_rfl
theorem unixNone_card : Rows.UnixNoneCardSaid :=
  Claim7.holds_tied_plain_at .later [] [.data] true (true, "0d56cdc04e4d55dbe69738f15fddf860b6639bdc2aad11bb538e390606457b59") true unixNone_holds (fun _ h => by cases h) (by kernel_rfl) (fun _ h => by cases h) unixNone_row_tie rfl ⟨rfl, rfl⟩ (by kernel_rfl) rfl
    (fun f fn hf hfn => by
      obtain rfl : f = 4 := Option.some.inj ((show Tryz.prog.funcNamed Rows.unixNoneRow.func = some 4 by kernel_rfl).symm.trans hf) |>.symm
      obtain rfl : fn = Tryz.f4 := (Option.some.inj (Tryz.func4.symm.trans hfn)).symm
      exact ⟨Tryz.looks, fun j t ht => by
        rw [Tryz.params4] at ht
        have hm : t ∈ [47] := by simpa using Array.mem_of_getElem? ht
        have hall : ([47].all fun u => !Tryz.prog.wantsStandIn u) = true := by kernel_rfl
        exact (show Tryz.prog.wantsStandIn t = false by simpa using List.all_eq_true.1 hall t hm)⟩)
    unixNone_goes
end Go.Proofs.YtkkdpbicppdglaaGreatDoor
