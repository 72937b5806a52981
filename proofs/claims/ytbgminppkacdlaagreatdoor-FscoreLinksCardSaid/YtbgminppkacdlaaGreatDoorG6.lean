/- Lemmas of the claim: the machine of the proof and the walks of the program. Conditions: as each says. -/
import Derived.Test.YtbgminppkacdlaaGreatDoorG5
import Derived.Test.YtbgminppkacdlaaGreatDoorG3
import Derived.Test.YtbgminppkacdlaaGreatDoorG4
section
/- The awake gives true: once, then a special; the specials of the walks. -/
namespace Go.Proofs.YtbgminppkacdlaaGreatDoor
open Go.AM
set_option maxRecDepth 100000 in
theorem aw17 : isTrue (clS 9 [] H0) = true := by kernel_rfl
noncomputable abbrev sp16 : Special := orSpec (oneSpec 9 (trueF 1 .u8 tab)) (orSpec tryWSp strSp)
theorem sp16_ok : SpecOk Tryz.prog (1 + 1) sp16 := orSpec_ok (oneSpec_ok fun cl _ => trueF_ok clS_ok aw17 cl) (orSpec_ok tryWSp_ok strSp_ok)
theorem aw17_wf {h : Heap} {R : Out → Heap → Prop} (ht : h.get 1 = some (tabBlk .u8 tab)) (hR : R (.ret (.bool true)) h) : WF Tryz.prog 2 sp16 9 [] h R := by
  refine ⟨.ret (.bool true), h, ⟨1, fun fu d h1 h2 => ?_⟩, hR⟩
  obtain ⟨d, rfl⟩ : ∃ k, d = k + 1 := ⟨d - 1, by omega⟩
  show cond (beqB (h.get 1) (some (tabBlk .u8 tab))) (some (Out.ret (.bool true), h)) none = _
  rw [ht]
  have : beqB (some (tabBlk .u8 tab)) (some (tabBlk .u8 tab)) = true := by kernel_rfl
  rw [this]; rfl
end Go.Proofs.YtbgminppkacdlaaGreatDoor
end
