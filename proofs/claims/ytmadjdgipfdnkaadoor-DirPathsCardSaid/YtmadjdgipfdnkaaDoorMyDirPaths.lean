/- DirPaths: whatever the names and the number, the law gives true. (Its card: the table of math/bits is as the program's text lays it.) -/
import Derived.Test.YtmadjdgipfdnkaaDoorCards
import Derived.Test.YtmadjdgipfdnkaaDoorTie
import Derived.Test.YtmadjdgipfdnkaaDoorG7
namespace Go.Proofs.YtmadjdgipfdnkaaDoor
open Go.ChangeShapes Go.WideShapes Go.ChangeAt Go.RowKit Go.AM
theorem dirPaths_goes : false = Rows.dirPathsRow.goesBy Tryd.prog := by kernel_rfl
theorem dirPaths_card : Rows.DirPathsCardSaid :=
  Claim7.holds_tied_plain_at .later [] [.data] true (true, "3cdd66552f780c30dc08e0f4faaeedf58526e7e1e8e6298768371d38afb56cf5") false dirPaths_holds (fun _ h => by cases h) (by kernel_rfl) (fun _ h => by cases h) dirPaths_row_tie rfl ⟨rfl, rfl⟩ (by kernel_rfl) rfl
    (fun f fn hf hfn => by
      obtain rfl : f = 9 := Option.some.inj ((show Tryd.prog.funcNamed Rows.dirPathsRow.func = some 9 by kernel_rfl).symm.trans hf) |>.symm
      obtain rfl : fn = Tryd.f9 := (Option.some.inj (Tryd.func9.symm.trans hfn)).symm
      exact ⟨Tryd.looks, fun j t ht => by
        rw [Tryd.params9] at ht
        have hm : t ∈ [56, 3] := by simpa using Array.mem_of_getElem? ht
        have hall : ([56, 3].all fun u => !Tryd.prog.wantsStandIn u) = true := by kernel_rfl
        exact (show Tryd.prog.wantsStandIn t = false by simpa using List.all_eq_true.1 hall t hm)⟩)
    dirPaths_goes
end Go.Proofs.YtmadjdgipfdnkaaDoor
