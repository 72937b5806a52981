/- FscoreLinks: whatever the paths and the text, the law gives true. (Its card: the table of math/bits is as the program's text lays it.) -/
import Derived.Test.YtbgminppkacdlaaGreatDoorCards
import Derived.Test.YtbgminppkacdlaaGreatDoorTie
import Derived.Test.YtbgminppkacdlaaGreatDoorG9
namespace Go.Proofs.YtbgminppkacdlaaGreatDoor
open Go.ChangeShapes Go.WideShapes Go.ChangeAt Go.RowKit Go.AM
theorem fscoreLinks_goes : false = Rows.fscoreLinksRow.goesBy Tryz.prog := by kernel_rfl
theorem fscoreLinks_card : Rows.FscoreLinksCardSaid :=
  Claim7.holds_tied_plain_at .later [] [.data] true (true, "c824c3d83be50f609529fa52f510e2b128508124668d4f768e1b3f67ffd4c209") true fscoreLinks_holds (fun _ h => by cases h) (by kernel_rfl) (fun _ h => by cases h) fscoreLinks_row_tie rfl ⟨rfl, rfl⟩ (by kernel_rfl) rfl
    (fun f fn hf hfn => by
      obtain rfl : f = 3 := Option.some.inj ((show Tryz.prog.funcNamed Rows.fscoreLinksRow.func = some 3 by kernel_rfl).symm.trans hf) |>.symm
      obtain rfl : fn = Tryz.f3 := (Option.some.inj (Tryz.func3.symm.trans hfn)).symm
      exact ⟨Tryz.looks, fun j t ht => by
        rw [Tryz.params3] at ht
        have hm : t ∈ [9, 9, 9] := by simpa using Array.mem_of_getElem? ht
        have hall : ([9, 9, 9].all fun u => !Tryz.prog.wantsStandIn u) = true := by kernel_rfl
        exact (show Tryz.prog.wantsStandIn t = false by simpa using List.all_eq_true.1 hall t hm)⟩)
    fscoreLinks_goes
end Go.Proofs.YtbgminppkacdlaaGreatDoor
