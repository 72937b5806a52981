/- DirFull: whatever the number, the law gives true. (Its card: the table of math/bits is as the program's text lays it.) -/
import Derived.Test.YtmadjdgipfdnkaaDoorCards
import Derived.Test.YtmadjdgipfdnkaaDoorTie
import Derived.Test.YtmadjdgipfdnkaaDoorG7
namespace Go.Proofs.YtmadjdgipfdnkaaDoor
open Go.ChangeShapes Go.WideShapes Go.ChangeAt Go.RowKit Go.AM
theorem dirFull_goes : false = Rows.dirFullRow.goesBy Tryd.prog := by kernel_rfl
theorem dirFull_card : Rows.DirFullCardSaid :=
  Claim7.holds_tied_plain_at .later [] [.data] true (true, "3cdd66552f780c30dc08e0f4faaeedf58526e7e1e8e6298768371d38afb56cf5") false dirFull_holds (fun _ h => by cases h) (by kernel_rfl) (fun _ h => by cases h) dirFull_row_tie rfl ⟨rfl, rfl⟩ (by kernel_rfl) rfl
    (fun f fn hf hfn => by
      obtain rfl : f = 10 := Option.some.inj ((show Tryd.prog.funcNamed Rows.dirFullRow.func = some 10 by kernel_rfl).symm.trans hf) |>.symm
      obtain rfl : fn = Tryd.f10 := (Option.some.inj (Tryd.func10.symm.trans hfn)).symm
      exact ⟨Tryd.looks, fun j t ht => by
        rw [Tryd.params10] at ht
        have hm : t ∈ [3] := by simpa using Array.mem_of_getElem? ht
        have hall : ([3].all fun u => !Tryd.prog.wantsStandIn u) = true := by kernel_rfl
        exact (show Tryd.prog.wantsStandIn t = false by simpa using List.all_eq_true.1 hall t hm)⟩)
    dirFull_goes
end Go.Proofs.YtmadjdgipfdnkaaDoor
