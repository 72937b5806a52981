/- DirNames: whatever the names, the law gives true. (Its card: the table of math/bits is as the program's text lays it.) -/
import Derived.Test.YtmadjdgipfdnkaaDoorCards
import Derived.Test.YtmadjdgipfdnkaaDoorTie
import Derived.Test.YtmadjdgipfdnkaaDoorG7
namespace Go.Proofs.YtmadjdgipfdnkaaDoor
open Go.ChangeShapes Go.WideShapes Go.ChangeAt Go.RowKit Go.AM
theorem dirNames_goes : false = Rows.dirNamesRow.goesBy Tryd.prog := by kernel_rfl
theorem dirNames_card : Rows.DirNamesCardSaid :=
  Claim7.holds_tied_plain_at .later [] [.data] true (true, "3cdd66552f780c30dc08e0f4faaeedf58526e7e1e8e6298768371d38afb56cf5") false dirNames_holds (fun _ h => by cases h) (by kernel_rfl) (fun _ h => by cases h) dirNames_row_tie rfl ⟨rfl, rfl⟩ (by kernel_rfl) rfl
    (fun f fn hf hfn => by
      obtain rfl : f = 11 := Option.some.inj ((show Tryd.prog.funcNamed Rows.dirNamesRow.func = some 11 by kernel_rfl).symm.trans hf) |>.symm
      obtain rfl : fn = Tryd.f11 := (Option.some.inj (Tryd.func11.symm.trans hfn)).symm
      exact ⟨Tryd.looks, fun j t ht => by
        rw [Tryd.params11] at ht
        have hm : t ∈ [56, 56] := by simpa using Array.mem_of_getElem? ht
        have hall : ([56, 56].all fun u => !Tryd.prog.wantsStandIn u) = true := by kernel_rfl
        exact (show Tryd.prog.wantsStandIn t = false by simpa using List.all_eq_true.1 hall t hm)⟩)
    dirNames_goes
end Go.Proofs.YtmadjdgipfdnkaaDoor
