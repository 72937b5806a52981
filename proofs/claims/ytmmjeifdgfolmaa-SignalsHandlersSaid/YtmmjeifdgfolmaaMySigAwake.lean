/- Signals: chapter 20's examples, run once. No condition. -/
import Derived.Test.YtmmjeifdgfolmaaMyTry
import Derived.Test.YtmmjeifdgfolmaaAmGlue
namespace Go.Proofs.Ytmmjeifdgfolmaa
open Go.AM
set_option maxRecDepth 100000 in
theorem awake20_run : isTrue (clA 27 [] noHeap) = true := by kernel_rfl
noncomputable abbrev sp20 : Special := spAt 27
theorem sp20_ok : SpecOk Try.prog 0 sp20 := spAt_ok clA_ok awake20_run
theorem awake20 (h : Heap) (R : Out → Heap → Prop) (hR : R (.ret (.bool true)) h) : WF Try.prog 0 sp20 27 [] h R := by
  refine ⟨.ret (.bool true), h, ⟨1, fun fu d h1 h2 => ?_⟩, hR⟩
  obtain ⟨d, rfl⟩ : ∃ k, d = k + 1 := ⟨d - 1, by omega⟩
  rfl
end Go.Proofs.Ytmmjeifdgfolmaa
