/- What all proofs of this seat share: the program's own facts, the machine, fscore.try, the table. -/
import Derived.Test.YtkkdpbicppdglaaGreatDoorRows
import Derived.Test.YtkkdpbicppdglaaGreatDoorAmDoor
import Derived.Test.YtkkdpbicppdglaaGreatDoorAmTry
namespace Go.Proofs.YtkkdpbicppdglaaGreatDoor
open Go.ChangeShapes Go.WideShapes Go.ChangeAt Go.RowKit Go.AM

theorem Tryz.own : ownKnob Tryz.prog.godebug = none := by kernel_rfl
theorem Tryz.kids : Kids Tryz.prog (· < Tryz.prog.types.size) := kids_rows (by kernel_rfl) (by kernel_rfl)
theorem Tryz.full : ∀ t e, t < Tryz.prog.types.size → Tryz.prog.underlying t = some (.slice e) → 0 < Tryz.prog.cellsOf e := slices_full_of Tryz.prog (by kernel_rfl)
noncomputable def tryT : TryCode := ⟨Tryz.f69, Tryz.f133, seqL (bodyOf Tryz.f69), seqL (seqR (bodyOf Tryz.f69)), seqR (bodyOf Tryz.f133), 4, 1, 4, 1, 25, .int .i64 0⟩
noncomputable abbrev trySp : Special := oneSpec 69 (tryF Tryz.prog tryT 1000)
set_option maxRecDepth 100000 in
theorem trySp_ok : SpecOk Tryz.prog (1 + 1) trySp := oneSpec_ok fun cl hcl =>
  tryF_ok (T := tryT) (f := 69) (fd := 133) (i3 := 3) (i4 := 4) (i5 := 5) (i0 := 0) (mk := opOf (seqL (seqR (seqR (bodyOf Tryz.f69)))) 0) (df := opOf (seqL (seqR (seqR (bodyOf Tryz.f69)))) 1) (mv := opOf (seqL (seqR (seqR (seqR (bodyOf Tryz.f69))))) 0) (cal := opOf (seqL (seqR (seqR (seqR (bodyOf Tryz.f69))))) 1)
    (st := opOf (seqL (seqR (seqR (seqR (seqR (bodyOf Tryz.f69)))))) 0) (rc := opOf (seqL (bodyOf Tryz.f133)) 0) (as1 := opOf (seqL (bodyOf Tryz.f133)) 1) (tf := 7) (t8 := 8) (at1 := #[]) (at2 := #[]) (at3 := #[])
    (by kernel_rfl) hcl Tryz.func69 (by kernel_rfl) (by kernel_rfl) (by kernel_rfl) ⟨by kernel_rfl, by kernel_rfl, by kernel_rfl⟩ ⟨by kernel_rfl, by kernel_rfl, by kernel_rfl⟩ ⟨by kernel_rfl, by kernel_rfl, by kernel_rfl⟩
    ⟨by kernel_rfl, (fun h => nomatch (show (some 9 : Option Tmp) = some 4 from h)), by kernel_rfl⟩ ⟨by kernel_rfl, by kernel_rfl, by kernel_rfl, by kernel_rfl⟩ ⟨by decide +kernel, by decide +kernel, by decide +kernel, by decide +kernel, by decide +kernel⟩
    Tryz.func133 (by kernel_rfl) (by kernel_rfl) (by kernel_rfl) ⟨by kernel_rfl, by kernel_rfl, by kernel_rfl⟩ ⟨by kernel_rfl, by kernel_rfl, by kernel_rfl⟩ ⟨by decide +kernel, by decide +kernel⟩ (by kernel_rfl) (by kernel_rfl) (by kernel_rfl)
noncomputable abbrev clA : Caller := acall Tryz.prog (1 + 1) trySp 3000 60
theorem clA_ok : CallOk Tryz.prog (1 + 1) clA := acall_ok (by kernel_rfl) trySp_ok 3000 60
def tab : List Int := [0, 1, 56, 2, 57, 49, 28, 3, 61, 58, 42, 50, 38, 29, 17, 4, 62, 47, 59, 36, 45, 43, 51, 22, 53, 39, 33, 30, 24, 18, 12, 5, 63, 55, 48, 27, 60, 41, 37, 16, 46, 35, 44, 21, 52, 32, 23, 11, 54, 26, 40, 15, 34, 20, 31, 10, 25, 14, 19, 9, 13, 8, 7, 6]
theorem tab_laid {W : World} (hL : laidMetH Tryz.prog [("math/bits.deBruijn64tab", Rows.laid_math_bits_deBruijn64tab)] W) :
    ∃ cs el fr, W.heap[1]? = some (.cells cs el fr) ∧ cs.size = 64 ∧ ∀ i, i < 64 → cs[i]? = (tab.map (Value.int .u8))[i]? := by
  rw [MakeChecks.laidMetH_plain _ _ _ (by kernel_rfl)] at hL
  exact laid_table (g := 1) (k := .u8) (bs := tab) (t := 489) (e := 5) hL (by kernel_rfl) (by kernel_rfl) (by kernel_rfl) (by kernel_rfl) (by kernel_rfl) (by kernel_rfl) rfl
end Go.Proofs.YtkkdpbicppdglaaGreatDoor
