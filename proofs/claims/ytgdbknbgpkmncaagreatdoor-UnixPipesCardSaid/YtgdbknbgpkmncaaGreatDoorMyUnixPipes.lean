/- UnixPipes: whatever the texts and the number, the law gives true. (Its card: the table of math/bits is as the program's text lays it.) -/
import Derived.Test.YtgdbknbgpkmncaaGreatDoorCards
import Derived.Test.YtgdbknbgpkmncaaGreatDoorTie
import Derived.Test.YtgdbknbgpkmncaaGreatDoorG6
namespace Go.Proofs.YtgdbknbgpkmncaaGreatDoor
open Go.ChangeShapes Go.WideShapes Go.ChangeAt Go.RowKit Go.AM
theorem unixPipes_goes : false = Rows.unixPipesRow.goesBy Tryz.prog := by kernel_rfl
theorem unixPipes_card : Rows.UnixPipesCardSaid :=
  Claim7.holds_tied_plain_at .later [] [.data] true (true, "cdeab5956b596ede5e3fc3e849396d632c1747e8360fe233d98d7033ab3cd1a1") true unixPipes_holds (fun _ h => by cases h) (by kernel_rfl) (fun _ h => by cases h) unixPipes_row_tie rfl ⟨rfl, rfl⟩ (by kernel_rfl) rfl
    (fun f fn hf hfn => by
      obtain rfl : f = 6 := Option.some.inj ((show Tryz.prog.funcNamed Rows.unixPipesRow.func = some 6 by kernel_rfl).symm.trans hf) |>.symm
      obtain rfl : fn = Tryz.f6 := (Option.some.inj (Tryz.func6.symm.trans hfn)).symm
      exact ⟨Tryz.looks, fun j t ht => by
        rw [Tryz.params6] at ht
        have hm : t ∈ [46, 3] := by simpa using Array.mem_of_getElem? ht
        have hall : ([46, 3].all fun u => !Tryz.prog.wantsStandIn u) = true := by kernel_rfl
        exact (show Tryz.prog.wantsStandIn t = false by simpa using List.all_eq_true.1 hall t hm)⟩)
    unixPipes_goes
end Go.Proofs.YtgdbknbgpkmncaaGreatDoor
