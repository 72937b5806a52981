/- Lemmas of the claim: the machine of the proof and the walks of the program. Conditions: as each says. -/
import Derived.Test.YtkkdpbicppdglaaGreatDoorG5
import Derived.Test.YtkkdpbicppdglaaGreatDoorG4
section
/- The translations' awake gives true: once, then a special. -/
namespace Go.Proofs.YtkkdpbicppdglaaGreatDoor
open Go.ChangeShapes Go.WideShapes Go.ChangeAt Go.RowKit Go.AM
noncomputable def playB : Code := bodyOf Tryz.f111
noncomputable def playT : DefCode := ⟨Tryz.f111, Tryz.f200, [seqL playB, seqL (seqR playB), seqL (seqR (seqR playB)), seqL (seqR (seqR (seqR playB)))], seqR (seqR (seqR (seqR (seqR playB)))), bodyOf Tryz.f200, 9, 6, 26⟩
noncomputable def playReg : Code := seqL (seqR (seqR (seqR (seqR playB))))
noncomputable abbrev playSp : Special := oneSpec 111 (deferF Tryz.prog playT 1000)
set_option maxRecDepth 100000 in
theorem playSp_ok : SpecOk Tryz.prog (1 + 1) playSp := oneSpec_ok fun cl hcl =>
  deferF_ok (T := playT) (f := 111) (fd := 200) (i3 := 5) (mk := opOf playReg 0) (df := opOf playReg 1) (at1 := #[]) (by kernel_rfl) hcl Tryz.func111 (by kernel_rfl) (by kernel_rfl) ⟨by kernel_rfl, by kernel_rfl, by kernel_rfl⟩ ⟨by kernel_rfl, by kernel_rfl, by kernel_rfl⟩
    (by decide +kernel) Tryz.func200 (by kernel_rfl) (by kernel_rfl) (by kernel_rfl) (by kernel_rfl) (by kernel_rfl) (by kernel_rfl)
noncomputable abbrev packSp : Special := oneSpec 116 (rngF Tryz.prog Tryz.f116 (bodyOf Tryz.f116) 1000)
theorem packSp_ok : SpecOk Tryz.prog (1 + 1) packSp := oneSpec_ok fun cl hcl =>
  rngF_ok (by kernel_rfl) hcl Tryz.func116 (by kernel_rfl) (by kernel_rfl) (by kernel_rfl)
noncomputable abbrev spP : Special := orSpec packSp (orSpec playSp (orSpec trySp strSp))
theorem spP_ok : SpecOk Tryz.prog (1 + 1) spP := orSpec_ok packSp_ok (orSpec_ok playSp_ok (orSpec_ok trySp_ok strSp_ok))
noncomputable abbrev clP : Caller := acall Tryz.prog (1 + 1) spP 3000 60
theorem clP_ok : CallOk Tryz.prog (1 + 1) clP := acall_ok (by kernel_rfl) spP_ok 3000 60
set_option maxRecDepth 100000 in
theorem aw28 : isTrue (clP 21 [] (listHeap (doorL 1 .u8 tab ++ []))) = true := by kernel_rfl
end Go.Proofs.YtkkdpbicppdglaaGreatDoor
end
