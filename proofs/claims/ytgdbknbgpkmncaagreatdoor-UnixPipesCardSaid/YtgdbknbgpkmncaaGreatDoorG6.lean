/- Lemmas of the claim: the machine of the proof and the walks of the program. Conditions: as each says. -/
import Derived.Test.YtgdbknbgpkmncaaGreatDoorRows
import Derived.Test.YtgdbknbgpkmncaaGreatDoorG4
import Derived.Test.YtgdbknbgpkmncaaGreatDoorG3
import Derived.Test.YtgdbknbgpkmncaaGreatDoorG5
import Derived.ProofKit
import GoSem.ClaimSeven
import Derived.Test.YtgdbknbgpkmncaaGreatDoorCards
import Derived.Test.YtgdbknbgpkmncaaGreatDoorTie
section
/- What all proofs of this seat share: the program's own facts, the machine, fscore.try, the table. -/
namespace Go.Proofs.YtgdbknbgpkmncaaGreatDoor
open Go.ChangeShapes Go.WideShapes Go.ChangeAt Go.RowKit Go.AM

theorem Tryz.own : ownKnob Tryz.prog.godebug = none := by kernel_rfl
theorem Tryz.kids : Kids Tryz.prog (· < Tryz.prog.types.size) := kids_rows (by kernel_rfl) (by kernel_rfl)
theorem Tryz.full : ∀ t e, t < Tryz.prog.types.size → Tryz.prog.underlying t = some (.slice e) → 0 < Tryz.prog.cellsOf e := slices_full_of Tryz.prog (by kernel_rfl)
noncomputable def tryT : TryCode := ⟨Tryz.f75, Tryz.f149, seqL (bodyOf Tryz.f75), seqL (seqR (bodyOf Tryz.f75)), seqR (bodyOf Tryz.f149), 4, 1, 4, 1, 30, .int .i64 0⟩
noncomputable abbrev trySp : Special := oneSpec 75 (tryF Tryz.prog tryT 1000)
set_option maxRecDepth 100000 in
theorem trySp_ok : SpecOk Tryz.prog (0 + 1) trySp := oneSpec_ok fun cl hcl =>
  tryF_ok (T := tryT) (f := 75) (fd := 149) (i3 := 3) (i4 := 4) (i5 := 5) (i0 := 0) (mk := opOf (seqL (seqR (seqR (bodyOf Tryz.f75)))) 0) (df := opOf (seqL (seqR (seqR (bodyOf Tryz.f75)))) 1) (mv := opOf (seqL (seqR (seqR (seqR (bodyOf Tryz.f75))))) 0) (cal := opOf (seqL (seqR (seqR (seqR (bodyOf Tryz.f75))))) 1)
    (st := opOf (seqL (seqR (seqR (seqR (seqR (bodyOf Tryz.f75)))))) 0) (rc := opOf (seqL (bodyOf Tryz.f149)) 0) (as1 := opOf (seqL (bodyOf Tryz.f149)) 1) (tf := 7) (t8 := 8) (at1 := #[]) (at2 := #[]) (at3 := #[])
    (by kernel_rfl) hcl Tryz.func75 (by kernel_rfl) (by kernel_rfl) (by kernel_rfl) ⟨by kernel_rfl, by kernel_rfl, by kernel_rfl⟩ ⟨by kernel_rfl, by kernel_rfl, by kernel_rfl⟩ ⟨by kernel_rfl, by kernel_rfl, by kernel_rfl⟩
    ⟨by kernel_rfl, (fun h => nomatch (show (some 9 : Option Tmp) = some 4 from h)), by kernel_rfl⟩ ⟨by kernel_rfl, by kernel_rfl, by kernel_rfl, by kernel_rfl⟩ ⟨by decide +kernel, by decide +kernel, by decide +kernel, by decide +kernel, by decide +kernel⟩
    Tryz.func149 (by kernel_rfl) (by kernel_rfl) (by kernel_rfl) ⟨by kernel_rfl, by kernel_rfl, by kernel_rfl⟩ ⟨by kernel_rfl, by kernel_rfl, by kernel_rfl⟩ ⟨by decide +kernel, by decide +kernel⟩ (by kernel_rfl) (by kernel_rfl) (by kernel_rfl)
noncomputable abbrev clA : Caller := acall Tryz.prog (0 + 1) trySp 3000 60
theorem clA_ok : CallOk Tryz.prog (0 + 1) clA := acall_ok (by kernel_rfl) trySp_ok 3000 60
def tab : List Int := [0, 1, 56, 2, 57, 49, 28, 3, 61, 58, 42, 50, 38, 29, 17, 4, 62, 47, 59, 36, 45, 43, 51, 22, 53, 39, 33, 30, 24, 18, 12, 5, 63, 55, 48, 27, 60, 41, 37, 16, 46, 35, 44, 21, 52, 32, 23, 11, 54, 26, 40, 15, 34, 20, 31, 10, 25, 14, 19, 9, 13, 8, 7, 6]
theorem tab_laid {W : World} (hL : laidMetH Tryz.prog [("math/bits.deBruijn64tab", Rows.laid_math_bits_deBruijn64tab)] W) :
    ∃ cs el fr, W.heap[0]? = some (.cells cs el fr) ∧ cs.size = 64 ∧ ∀ i, i < 64 → cs[i]? = (tab.map (Value.int .u8))[i]? := by
  rw [MakeChecks.laidMetH_plain _ _ _ (by kernel_rfl)] at hL
  exact laid_table (g := 0) (k := .u8) (bs := tab) (t := 389) (e := 5) hL (by kernel_rfl) (by kernel_rfl) (by kernel_rfl) (by kernel_rfl) (by kernel_rfl) (by kernel_rfl) rfl
noncomputable abbrev H0 : Heap := listHeap (doorL 0 .u8 tab ++ [])
end Go.Proofs.YtgdbknbgpkmncaaGreatDoor
end
section
/- Facts of the types of the program that Tryz names, for rewriting. No condition. -/
namespace Go.Proofs.YtgdbknbgpkmncaaGreatDoor
open Go.AM Go
theorem tyA_1 : tyA Tryz.prog 1 = some false := by kernel_rfl
theorem siz_1 : sizeOf? Tryz.prog 1 = some 1 := by kernel_rfl
theorem tag_1 : tyTag Tryz.prog 1 = 7 := by kernel_rfl
theorem zer_1 : zeroL Tryz.prog 1 = some ([.nilFunc]) := by kernel_rfl
theorem nob_1 : bldT Tryz.prog 1 = false := by kernel_rfl
theorem tyA_2 : tyA Tryz.prog 2 = some false := by kernel_rfl
theorem siz_2 : sizeOf? Tryz.prog 2 = some 1 := by kernel_rfl
theorem tag_2 : tyTag Tryz.prog 2 = 9 := by kernel_rfl
theorem intK_2 : intK Tryz.prog 2 = some .i64 := by kernel_rfl
theorem zer_2 : zeroL Tryz.prog 2 = some ([.int .i64 0]) := by kernel_rfl
theorem nob_2 : bldT Tryz.prog 2 = false := by kernel_rfl
theorem tyA_3 : tyA Tryz.prog 3 = some false := by kernel_rfl
theorem siz_3 : sizeOf? Tryz.prog 3 = some 1 := by kernel_rfl
theorem tag_3 : tyTag Tryz.prog 3 = 9 := by kernel_rfl
theorem intK_3 : intK Tryz.prog 3 = some .i64 := by kernel_rfl
theorem zer_3 : zeroL Tryz.prog 3 = some ([.int .i64 0]) := by kernel_rfl
theorem nob_3 : bldT Tryz.prog 3 = false := by kernel_rfl
theorem tyA_4 : tyA Tryz.prog 4 = some false := by kernel_rfl
theorem siz_4 : sizeOf? Tryz.prog 4 = some 1 := by kernel_rfl
theorem tag_4 : tyTag Tryz.prog 4 = 1 := by kernel_rfl
theorem zer_4 : zeroL Tryz.prog 4 = some ([.bool false]) := by kernel_rfl
theorem nob_4 : bldT Tryz.prog 4 = false := by kernel_rfl
theorem tyA_5 : tyA Tryz.prog 5 = some false := by kernel_rfl
theorem siz_5 : sizeOf? Tryz.prog 5 = some 1 := by kernel_rfl
theorem tag_5 : tyTag Tryz.prog 5 = 9 := by kernel_rfl
theorem intK_5 : intK Tryz.prog 5 = some .u8 := by kernel_rfl
theorem zer_5 : zeroL Tryz.prog 5 = some ([.int .u8 0]) := by kernel_rfl
theorem nob_5 : bldT Tryz.prog 5 = false := by kernel_rfl
theorem tyA_9 : tyA Tryz.prog 9 = some false := by kernel_rfl
theorem siz_9 : sizeOf? Tryz.prog 9 = some 1 := by kernel_rfl
theorem tag_9 : tyTag Tryz.prog 9 = 3 := by kernel_rfl
theorem zer_9 : zeroL Tryz.prog 9 = some ([.string .empty]) := by kernel_rfl
theorem nob_9 : bldT Tryz.prog 9 = false := by kernel_rfl
theorem tyA_20 : tyA Tryz.prog 20 = some false := by kernel_rfl
theorem siz_20 : sizeOf? Tryz.prog 20 = some 1 := by kernel_rfl
theorem tag_20 : tyTag Tryz.prog 20 = 8 := by kernel_rfl
theorem zer_20 : zeroL Tryz.prog 20 = some ([.nilIface]) := by kernel_rfl
theorem nob_20 : bldT Tryz.prog 20 = false := by kernel_rfl
theorem tyA_23 : tyA Tryz.prog 23 = some false := by kernel_rfl
theorem siz_23 : sizeOf? Tryz.prog 23 = some 1 := by kernel_rfl
theorem tag_23 : tyTag Tryz.prog 23 = 2 := by kernel_rfl
theorem zer_23 : zeroL Tryz.prog 23 = some ([.pointer none]) := by kernel_rfl
theorem nob_23 : bldT Tryz.prog 23 = false := by kernel_rfl
theorem tyA_24 : tyA Tryz.prog 24 = some false := by kernel_rfl
theorem siz_24 : sizeOf? Tryz.prog 24 = some 1 := by kernel_rfl
theorem tag_24 : tyTag Tryz.prog 24 = 2 := by kernel_rfl
theorem zer_24 : zeroL Tryz.prog 24 = some ([.pointer none]) := by kernel_rfl
theorem nob_24 : bldT Tryz.prog 24 = false := by kernel_rfl
theorem tyA_30 : tyA Tryz.prog 30 = some false := by kernel_rfl
theorem siz_30 : sizeOf? Tryz.prog 30 = some 1 := by kernel_rfl
theorem tag_30 : tyTag Tryz.prog 30 = 9 := by kernel_rfl
theorem intK_30 : intK Tryz.prog 30 = some .i64 := by kernel_rfl
theorem zer_30 : zeroL Tryz.prog 30 = some ([.int .i64 0]) := by kernel_rfl
theorem nob_30 : bldT Tryz.prog 30 = false := by kernel_rfl
theorem tyA_46 : tyA Tryz.prog 46 = some false := by kernel_rfl
theorem siz_46 : sizeOf? Tryz.prog 46 = some 1 := by kernel_rfl
theorem tag_46 : tyTag Tryz.prog 46 = 4 := by kernel_rfl
theorem slc_46 : slcOf Tryz.prog 46 = some 1 := by kernel_rfl
theorem mk_46 : mkOf Tryz.prog 46 = some ([.string .empty], 1, 18) := by kernel_rfl
theorem zer_46 : zeroL Tryz.prog 46 = some ([.slice none 0 0]) := by kernel_rfl
theorem nob_46 : bldT Tryz.prog 46 = false := by kernel_rfl
theorem tyA_47 : tyA Tryz.prog 47 = some false := by kernel_rfl
theorem siz_47 : sizeOf? Tryz.prog 47 = some 1 := by kernel_rfl
theorem tag_47 : tyTag Tryz.prog 47 = 4 := by kernel_rfl
theorem slc_47 : slcOf Tryz.prog 47 = some 1 := by kernel_rfl
theorem mk_47 : mkOf Tryz.prog 47 = some ([.int .i64 0], 1, 10) := by kernel_rfl
theorem zer_47 : zeroL Tryz.prog 47 = some ([.slice none 0 0]) := by kernel_rfl
theorem nob_47 : bldT Tryz.prog 47 = false := by kernel_rfl
theorem tyA_56 : tyA Tryz.prog 56 = some false := by kernel_rfl
theorem siz_56 : sizeOf? Tryz.prog 56 = some 1 := by kernel_rfl
theorem tag_56 : tyTag Tryz.prog 56 = 4 := by kernel_rfl
theorem slc_56 : slcOf Tryz.prog 56 = some 3 := by kernel_rfl
theorem mk_56 : mkOf Tryz.prog 56 = some ([.string .empty, .bool false, .string .empty], 3, 44) := by kernel_rfl
theorem zer_56 : zeroL Tryz.prog 56 = some ([.slice none 0 0]) := by kernel_rfl
theorem nob_56 : bldT Tryz.prog 56 = false := by kernel_rfl
theorem tyA_70 : tyA Tryz.prog 70 = some false := by kernel_rfl
theorem siz_70 : sizeOf? Tryz.prog 70 = some 1 := by kernel_rfl
theorem tag_70 : tyTag Tryz.prog 70 = 2 := by kernel_rfl
theorem zer_70 : zeroL Tryz.prog 70 = some ([.pointer none]) := by kernel_rfl
theorem nob_70 : bldT Tryz.prog 70 = false := by kernel_rfl
theorem tyA_72 : tyA Tryz.prog 72 = some true := by kernel_rfl
theorem siz_72 : sizeOf? Tryz.prog 72 = some 2 := by kernel_rfl
theorem tag_72 : tyTag Tryz.prog 72 = 9 := by kernel_rfl
theorem arr_72 : arrOf Tryz.prog 72 = some (2, some false, 1) := by kernel_rfl
theorem sarr_72 : sarrOf Tryz.prog 72 = some (2, 1) := by kernel_rfl
theorem zer_72 : zeroL Tryz.prog 72 = some ([.int .i64 0, .int .i64 0]) := by kernel_rfl
theorem nob_72 : bldT Tryz.prog 72 = false := by kernel_rfl
theorem tyA_74 : tyA Tryz.prog 74 = some true := by kernel_rfl
theorem siz_74 : sizeOf? Tryz.prog 74 = some 5 := by kernel_rfl
theorem tag_74 : tyTag Tryz.prog 74 = 9 := by kernel_rfl
theorem zer_74 : zeroL Tryz.prog 74 = some ([.int .i64 0, .int .i64 0, .string .empty, .int .i64 0, .int .i64 0]) := by kernel_rfl
theorem nob_74 : bldT Tryz.prog 74 = false := by kernel_rfl
theorem fld_74_0 : fldOf Tryz.prog 74 0 = some (0, some false, 1) := by kernel_rfl
theorem fld_74_1 : fldOf Tryz.prog 74 1 = some (1, some false, 1) := by kernel_rfl
theorem fld_74_2 : fldOf Tryz.prog 74 2 = some (2, some false, 1) := by kernel_rfl
theorem fld_74_3 : fldOf Tryz.prog 74 3 = some (3, some true, 2) := by kernel_rfl
theorem tyA_76 : tyA Tryz.prog 76 = some false := by kernel_rfl
theorem siz_76 : sizeOf? Tryz.prog 76 = some 1 := by kernel_rfl
theorem tag_76 : tyTag Tryz.prog 76 = 2 := by kernel_rfl
theorem zer_76 : zeroL Tryz.prog 76 = some ([.pointer none]) := by kernel_rfl
theorem nob_76 : bldT Tryz.prog 76 = false := by kernel_rfl
theorem tyA_77 : tyA Tryz.prog 77 = some false := by kernel_rfl
theorem siz_77 : sizeOf? Tryz.prog 77 = some 1 := by kernel_rfl
theorem tag_77 : tyTag Tryz.prog 77 = 2 := by kernel_rfl
theorem zer_77 : zeroL Tryz.prog 77 = some ([.pointer none]) := by kernel_rfl
theorem nob_77 : bldT Tryz.prog 77 = false := by kernel_rfl
theorem tyA_79 : tyA Tryz.prog 79 = some true := by kernel_rfl
theorem siz_79 : sizeOf? Tryz.prog 79 = some 4 := by kernel_rfl
theorem tag_79 : tyTag Tryz.prog 79 = 9 := by kernel_rfl
theorem zer_79 : zeroL Tryz.prog 79 = some ([.pointer none, .pointer none, .pointer none, .pointer none]) := by kernel_rfl
theorem nob_79 : bldT Tryz.prog 79 = false := by kernel_rfl
theorem fld_79_0 : fldOf Tryz.prog 79 0 = some (0, some false, 1) := by kernel_rfl
theorem fld_79_1 : fldOf Tryz.prog 79 1 = some (1, some false, 1) := by kernel_rfl
theorem fld_79_2 : fldOf Tryz.prog 79 2 = some (2, some false, 1) := by kernel_rfl
theorem fld_79_3 : fldOf Tryz.prog 79 3 = some (3, some false, 1) := by kernel_rfl
theorem tyA_81 : tyA Tryz.prog 81 = some false := by kernel_rfl
theorem siz_81 : sizeOf? Tryz.prog 81 = some 1 := by kernel_rfl
theorem tag_81 : tyTag Tryz.prog 81 = 9 := by kernel_rfl
theorem intK_81 : intK Tryz.prog 81 = some .u64 := by kernel_rfl
theorem zer_81 : zeroL Tryz.prog 81 = some ([.int .u64 0]) := by kernel_rfl
theorem nob_81 : bldT Tryz.prog 81 = false := by kernel_rfl
theorem tyA_83 : tyA Tryz.prog 83 = some true := by kernel_rfl
theorem siz_83 : sizeOf? Tryz.prog 83 = some 6 := by kernel_rfl
theorem tag_83 : tyTag Tryz.prog 83 = 9 := by kernel_rfl
theorem zer_83 : zeroL Tryz.prog 83 = some ([.int .i64 0, .int .u64 0, .int .u64 0, .int .u64 0, .string .empty, .string .empty]) := by kernel_rfl
theorem nob_83 : bldT Tryz.prog 83 = false := by kernel_rfl
theorem fld_83_0 : fldOf Tryz.prog 83 0 = some (0, some false, 1) := by kernel_rfl
theorem fld_83_1 : fldOf Tryz.prog 83 1 = some (1, some false, 1) := by kernel_rfl
theorem fld_83_2 : fldOf Tryz.prog 83 2 = some (2, some false, 1) := by kernel_rfl
theorem fld_83_3 : fldOf Tryz.prog 83 3 = some (3, some false, 1) := by kernel_rfl
theorem fld_83_4 : fldOf Tryz.prog 83 4 = some (4, some false, 1) := by kernel_rfl
theorem fld_83_5 : fldOf Tryz.prog 83 5 = some (5, some false, 1) := by kernel_rfl
theorem tyA_88 : tyA Tryz.prog 88 = some true := by kernel_rfl
theorem siz_88 : sizeOf? Tryz.prog 88 = some 3 := by kernel_rfl
theorem tag_88 : tyTag Tryz.prog 88 = 9 := by kernel_rfl
theorem zer_88 : zeroL Tryz.prog 88 = some ([.string .empty, .bool false, .string .empty]) := by kernel_rfl
theorem nob_88 : bldT Tryz.prog 88 = false := by kernel_rfl
theorem fld_88_0 : fldOf Tryz.prog 88 0 = some (0, some false, 1) := by kernel_rfl
theorem fld_88_1 : fldOf Tryz.prog 88 1 = some (1, some false, 1) := by kernel_rfl
theorem fld_88_2 : fldOf Tryz.prog 88 2 = some (2, some false, 1) := by kernel_rfl
theorem tyA_90 : tyA Tryz.prog 90 = some false := by kernel_rfl
theorem siz_90 : sizeOf? Tryz.prog 90 = some 1 := by kernel_rfl
theorem tag_90 : tyTag Tryz.prog 90 = 4 := by kernel_rfl
theorem slc_90 : slcOf Tryz.prog 90 = some 1 := by kernel_rfl
theorem mk_90 : mkOf Tryz.prog 90 = some ([.int .u64 0], 1, 10) := by kernel_rfl
theorem zer_90 : zeroL Tryz.prog 90 = some ([.slice none 0 0]) := by kernel_rfl
theorem nob_90 : bldT Tryz.prog 90 = false := by kernel_rfl
theorem tyA_104 : tyA Tryz.prog 104 = some false := by kernel_rfl
theorem siz_104 : sizeOf? Tryz.prog 104 = some 1 := by kernel_rfl
theorem tag_104 : tyTag Tryz.prog 104 = 8 := by kernel_rfl
theorem zer_104 : zeroL Tryz.prog 104 = some ([.nilIface]) := by kernel_rfl
theorem nob_104 : bldT Tryz.prog 104 = false := by kernel_rfl
theorem tyA_111 : tyA Tryz.prog 111 = some true := by kernel_rfl
theorem siz_111 : sizeOf? Tryz.prog 111 = some 6 := by kernel_rfl
theorem tag_111 : tyTag Tryz.prog 111 = 9 := by kernel_rfl
theorem arr_111 : arrOf Tryz.prog 111 = some (6, some false, 1) := by kernel_rfl
theorem sarr_111 : sarrOf Tryz.prog 111 = some (6, 1) := by kernel_rfl
theorem zer_111 : zeroL Tryz.prog 111 = some ([.int .i64 0, .int .i64 0, .int .i64 0, .int .i64 0, .int .i64 0, .int .i64 0]) := by kernel_rfl
theorem nob_111 : bldT Tryz.prog 111 = false := by kernel_rfl
theorem tyA_113 : tyA Tryz.prog 113 = some true := by kernel_rfl
theorem siz_113 : sizeOf? Tryz.prog 113 = some 9 := by kernel_rfl
theorem tag_113 : tyTag Tryz.prog 113 = 9 := by kernel_rfl
theorem zer_113 : zeroL Tryz.prog 113 = some ([.int .i64 0, .int .i64 0, .int .i64 0, .int .i64 0, .int .i64 0, .int .i64 0, .int .i64 0, .int .i64 0, .int .i64 0]) := by kernel_rfl
theorem nob_113 : bldT Tryz.prog 113 = false := by kernel_rfl
theorem fld_113_0 : fldOf Tryz.prog 113 0 = some (0, some false, 1) := by kernel_rfl
theorem fld_113_1 : fldOf Tryz.prog 113 1 = some (1, some false, 1) := by kernel_rfl
theorem fld_113_2 : fldOf Tryz.prog 113 2 = some (2, some false, 1) := by kernel_rfl
theorem fld_113_3 : fldOf Tryz.prog 113 3 = some (3, some true, 6) := by kernel_rfl
theorem tyA_124 : tyA Tryz.prog 124 = some false := by kernel_rfl
theorem siz_124 : sizeOf? Tryz.prog 124 = some 1 := by kernel_rfl
theorem tag_124 : tyTag Tryz.prog 124 = 5 := by kernel_rfl
theorem slc_124 : slcOf Tryz.prog 124 = some 1 := by kernel_rfl
theorem mk_124 : mkOf Tryz.prog 124 = some ([.int .u8 0], 1, 3) := by kernel_rfl
theorem zer_124 : zeroL Tryz.prog 124 = some ([.slice none 0 0]) := by kernel_rfl
theorem nob_124 : bldT Tryz.prog 124 = false := by kernel_rfl
theorem tyA_137 : tyA Tryz.prog 137 = some true := by kernel_rfl
theorem siz_137 : sizeOf? Tryz.prog 137 = some 3 := by kernel_rfl
theorem tag_137 : tyTag Tryz.prog 137 = 9 := by kernel_rfl
theorem zer_137 : zeroL Tryz.prog 137 = some ([.slice none 0 0, .int .i64 0, .int .i64 0]) := by kernel_rfl
theorem nob_137 : bldT Tryz.prog 137 = false := by kernel_rfl
theorem fld_137_0 : fldOf Tryz.prog 137 0 = some (0, some false, 1) := by kernel_rfl
theorem fld_137_1 : fldOf Tryz.prog 137 1 = some (1, some false, 1) := by kernel_rfl
theorem fld_137_2 : fldOf Tryz.prog 137 2 = some (2, some false, 1) := by kernel_rfl
theorem tyA_144 : tyA Tryz.prog 144 = some true := by kernel_rfl
theorem siz_144 : sizeOf? Tryz.prog 144 = some 4 := by kernel_rfl
theorem tag_144 : tyTag Tryz.prog 144 = 9 := by kernel_rfl
theorem zer_144 : zeroL Tryz.prog 144 = some ([.int .i64 0, .slice none 0 0, .int .i64 0, .int .i64 0]) := by kernel_rfl
theorem nob_144 : bldT Tryz.prog 144 = false := by kernel_rfl
theorem fld_144_0 : fldOf Tryz.prog 144 0 = some (0, some false, 1) := by kernel_rfl
theorem fld_144_1 : fldOf Tryz.prog 144 1 = some (1, some false, 1) := by kernel_rfl
theorem fld_144_2 : fldOf Tryz.prog 144 2 = some (2, some false, 1) := by kernel_rfl
theorem fld_144_3 : fldOf Tryz.prog 144 3 = some (3, some false, 1) := by kernel_rfl
theorem tyA_165 : tyA Tryz.prog 165 = some true := by kernel_rfl
theorem siz_165 : sizeOf? Tryz.prog 165 = some 8 := by kernel_rfl
theorem tag_165 : tyTag Tryz.prog 165 = 9 := by kernel_rfl
theorem zer_165 : zeroL Tryz.prog 165 = some ([.int .i64 0, .int .i64 0, .string .empty, .int .i64 0, .int .i64 0, .string .empty, .int .i64 0, .bool false]) := by kernel_rfl
theorem nob_165 : bldT Tryz.prog 165 = false := by kernel_rfl
theorem fld_165_0 : fldOf Tryz.prog 165 0 = some (0, some true, 5) := by kernel_rfl
theorem fld_165_1 : fldOf Tryz.prog 165 1 = some (5, some false, 1) := by kernel_rfl
theorem fld_165_2 : fldOf Tryz.prog 165 2 = some (6, some false, 1) := by kernel_rfl
theorem fld_165_3 : fldOf Tryz.prog 165 3 = some (7, some false, 1) := by kernel_rfl
theorem tyA_169 : tyA Tryz.prog 169 = some false := by kernel_rfl
theorem siz_169 : sizeOf? Tryz.prog 169 = some 1 := by kernel_rfl
theorem tag_169 : tyTag Tryz.prog 169 = 2 := by kernel_rfl
theorem zer_169 : zeroL Tryz.prog 169 = some ([.pointer none]) := by kernel_rfl
theorem nob_169 : bldT Tryz.prog 169 = false := by kernel_rfl
theorem tyA_172 : tyA Tryz.prog 172 = some false := by kernel_rfl
theorem siz_172 : sizeOf? Tryz.prog 172 = some 1 := by kernel_rfl
theorem tag_172 : tyTag Tryz.prog 172 = 2 := by kernel_rfl
theorem zer_172 : zeroL Tryz.prog 172 = some ([.pointer none]) := by kernel_rfl
theorem nob_172 : bldT Tryz.prog 172 = false := by kernel_rfl
theorem tyA_175 : tyA Tryz.prog 175 = some false := by kernel_rfl
theorem siz_175 : sizeOf? Tryz.prog 175 = some 1 := by kernel_rfl
theorem tag_175 : tyTag Tryz.prog 175 = 2 := by kernel_rfl
theorem zer_175 : zeroL Tryz.prog 175 = some ([.pointer none]) := by kernel_rfl
theorem nob_175 : bldT Tryz.prog 175 = false := by kernel_rfl
theorem tyA_178 : tyA Tryz.prog 178 = some false := by kernel_rfl
theorem siz_178 : sizeOf? Tryz.prog 178 = some 1 := by kernel_rfl
theorem tag_178 : tyTag Tryz.prog 178 = 2 := by kernel_rfl
theorem zer_178 : zeroL Tryz.prog 178 = some ([.pointer none]) := by kernel_rfl
theorem nob_178 : bldT Tryz.prog 178 = false := by kernel_rfl
theorem tyA_182 : tyA Tryz.prog 182 = some true := by kernel_rfl
theorem siz_182 : sizeOf? Tryz.prog 182 = some 4 := by kernel_rfl
theorem tag_182 : tyTag Tryz.prog 182 = 9 := by kernel_rfl
theorem zer_182 : zeroL Tryz.prog 182 = some ([.pointer none, .pointer none, .pointer none, .pointer none]) := by kernel_rfl
theorem nob_182 : bldT Tryz.prog 182 = false := by kernel_rfl
theorem fld_182_0 : fldOf Tryz.prog 182 0 = some (0, some false, 1) := by kernel_rfl
theorem fld_182_1 : fldOf Tryz.prog 182 1 = some (1, some false, 1) := by kernel_rfl
theorem fld_182_2 : fldOf Tryz.prog 182 2 = some (2, some false, 1) := by kernel_rfl
theorem fld_182_3 : fldOf Tryz.prog 182 3 = some (3, some false, 1) := by kernel_rfl
theorem tyA_196 : tyA Tryz.prog 196 = some true := by kernel_rfl
theorem siz_196 : sizeOf? Tryz.prog 196 = some 4 := by kernel_rfl
theorem tag_196 : tyTag Tryz.prog 196 = 9 := by kernel_rfl
theorem zer_196 : zeroL Tryz.prog 196 = some ([.pointer none, .pointer none, .pointer none, .pointer none]) := by kernel_rfl
theorem nob_196 : bldT Tryz.prog 196 = false := by kernel_rfl
theorem fld_196_0 : fldOf Tryz.prog 196 0 = some (0, some false, 1) := by kernel_rfl
theorem fld_196_1 : fldOf Tryz.prog 196 1 = some (1, some false, 1) := by kernel_rfl
theorem fld_196_2 : fldOf Tryz.prog 196 2 = some (2, some false, 1) := by kernel_rfl
theorem fld_196_3 : fldOf Tryz.prog 196 3 = some (3, some false, 1) := by kernel_rfl
theorem tyA_235 : tyA Tryz.prog 235 = some false := by kernel_rfl
theorem siz_235 : sizeOf? Tryz.prog 235 = some 1 := by kernel_rfl
theorem tag_235 : tyTag Tryz.prog 235 = 9 := by kernel_rfl
theorem intK_235 : intK Tryz.prog 235 = some .u64 := by kernel_rfl
theorem zer_235 : zeroL Tryz.prog 235 = some ([.int .u64 0]) := by kernel_rfl
theorem nob_235 : bldT Tryz.prog 235 = false := by kernel_rfl
theorem tyA_275 : tyA Tryz.prog 275 = some true := by kernel_rfl
theorem siz_275 : sizeOf? Tryz.prog 275 = some 5 := by kernel_rfl
theorem tag_275 : tyTag Tryz.prog 275 = 9 := by kernel_rfl
theorem zer_275 : zeroL Tryz.prog 275 = some ([.int .i64 0, .int .i64 0, .int .i64 0, .bool false, .int .i64 0]) := by kernel_rfl
theorem nob_275 : bldT Tryz.prog 275 = false := by kernel_rfl
theorem fld_275_0 : fldOf Tryz.prog 275 0 = some (0, some false, 1) := by kernel_rfl
theorem fld_275_1 : fldOf Tryz.prog 275 1 = some (1, some false, 1) := by kernel_rfl
theorem fld_275_2 : fldOf Tryz.prog 275 2 = some (2, some false, 1) := by kernel_rfl
theorem fld_275_3 : fldOf Tryz.prog 275 3 = some (3, some false, 1) := by kernel_rfl
theorem fld_275_4 : fldOf Tryz.prog 275 4 = some (4, some false, 1) := by kernel_rfl
theorem tyA_289 : tyA Tryz.prog 289 = some false := by kernel_rfl
theorem siz_289 : sizeOf? Tryz.prog 289 = some 1 := by kernel_rfl
theorem tag_289 : tyTag Tryz.prog 289 = 4 := by kernel_rfl
theorem slc_289 : slcOf Tryz.prog 289 = some 1 := by kernel_rfl
theorem mk_289 : mkOf Tryz.prog 289 = some ([.pointer none], 1, 10) := by kernel_rfl
theorem zer_289 : zeroL Tryz.prog 289 = some ([.slice none 0 0]) := by kernel_rfl
theorem nob_289 : bldT Tryz.prog 289 = false := by kernel_rfl
theorem tyA_293 : tyA Tryz.prog 293 = some false := by kernel_rfl
theorem siz_293 : sizeOf? Tryz.prog 293 = some 1 := by kernel_rfl
theorem tag_293 : tyTag Tryz.prog 293 = 2 := by kernel_rfl
theorem zer_293 : zeroL Tryz.prog 293 = some ([.pointer none]) := by kernel_rfl
theorem nob_293 : bldT Tryz.prog 293 = false := by kernel_rfl
theorem tyA_295 : tyA Tryz.prog 295 = some true := by kernel_rfl
theorem siz_295 : sizeOf? Tryz.prog 295 = some 6 := by kernel_rfl
theorem tag_295 : tyTag Tryz.prog 295 = 9 := by kernel_rfl
theorem arr_295 : arrOf Tryz.prog 295 = some (6, some false, 1) := by kernel_rfl
theorem sarr_295 : sarrOf Tryz.prog 295 = some (6, 1) := by kernel_rfl
theorem zer_295 : zeroL Tryz.prog 295 = some ([.pointer none, .pointer none, .pointer none, .pointer none, .pointer none, .pointer none]) := by kernel_rfl
theorem nob_295 : bldT Tryz.prog 295 = false := by kernel_rfl
theorem tyA_296 : tyA Tryz.prog 296 = some true := by kernel_rfl
theorem siz_296 : sizeOf? Tryz.prog 296 = some 48 := by kernel_rfl
theorem tag_296 : tyTag Tryz.prog 296 = 9 := by kernel_rfl
theorem arr_296 : arrOf Tryz.prog 296 = some (8, some true, 6) := by kernel_rfl
theorem sarr_296 : sarrOf Tryz.prog 296 = some (8, 6) := by kernel_rfl
theorem zer_296 : zeroL Tryz.prog 296 = some (repeatL ([.pointer none, .pointer none, .pointer none, .pointer none, .pointer none, .pointer none]) 8) := by kernel_rfl
theorem nob_296 : bldT Tryz.prog 296 = false := by kernel_rfl
theorem tyA_298 : tyA Tryz.prog 298 = some true := by kernel_rfl
theorem siz_298 : sizeOf? Tryz.prog 298 = some 48 := by kernel_rfl
theorem tag_298 : tyTag Tryz.prog 298 = 9 := by kernel_rfl
theorem zer_298 : zeroL Tryz.prog 298 = some ((repeatL ([.pointer none, .pointer none, .pointer none, .pointer none, .pointer none, .pointer none]) 8)) := by kernel_rfl
theorem nob_298 : bldT Tryz.prog 298 = false := by kernel_rfl
theorem fld_298_0 : fldOf Tryz.prog 298 0 = some (0, some true, 48) := by kernel_rfl
theorem tyA_300 : tyA Tryz.prog 300 = some false := by kernel_rfl
theorem siz_300 : sizeOf? Tryz.prog 300 = some 1 := by kernel_rfl
theorem tag_300 : tyTag Tryz.prog 300 = 2 := by kernel_rfl
theorem zer_300 : zeroL Tryz.prog 300 = some ([.pointer none]) := by kernel_rfl
theorem nob_300 : bldT Tryz.prog 300 = false := by kernel_rfl
theorem tyA_301 : tyA Tryz.prog 301 = some true := by kernel_rfl
theorem siz_301 : sizeOf? Tryz.prog 301 = some 16 := by kernel_rfl
theorem tag_301 : tyTag Tryz.prog 301 = 9 := by kernel_rfl
theorem arr_301 : arrOf Tryz.prog 301 = some (16, some false, 1) := by kernel_rfl
theorem sarr_301 : sarrOf Tryz.prog 301 = some (16, 1) := by kernel_rfl
theorem zer_301 : zeroL Tryz.prog 301 = some ([.pointer none, .pointer none, .pointer none, .pointer none, .pointer none, .pointer none, .pointer none, .pointer none, .pointer none, .pointer none, .pointer none, .pointer none, .pointer none, .pointer none, .pointer none, .pointer none]) := by kernel_rfl
theorem nob_301 : bldT Tryz.prog 301 = false := by kernel_rfl
theorem tyA_303 : tyA Tryz.prog 303 = some true := by kernel_rfl
theorem siz_303 : sizeOf? Tryz.prog 303 = some 8 := by kernel_rfl
theorem tag_303 : tyTag Tryz.prog 303 = 9 := by kernel_rfl
theorem arr_303 : arrOf Tryz.prog 303 = some (8, some false, 1) := by kernel_rfl
theorem sarr_303 : sarrOf Tryz.prog 303 = some (8, 1) := by kernel_rfl
theorem zer_303 : zeroL Tryz.prog 303 = some ([.int .u8 0, .int .u8 0, .int .u8 0, .int .u8 0, .int .u8 0, .int .u8 0, .int .u8 0, .int .u8 0]) := by kernel_rfl
theorem nob_303 : bldT Tryz.prog 303 = false := by kernel_rfl
theorem tyA_305 : tyA Tryz.prog 305 = some true := by kernel_rfl
theorem siz_305 : sizeOf? Tryz.prog 305 = some 10 := by kernel_rfl
theorem tag_305 : tyTag Tryz.prog 305 = 9 := by kernel_rfl
theorem zer_305 : zeroL Tryz.prog 305 = some ([.int .u8 0, .int .u8 0, .int .u8 0, .int .u8 0, .int .u8 0, .int .u8 0, .int .u8 0, .int .u8 0, .int .i64 0, .int .i64 0]) := by kernel_rfl
theorem nob_305 : bldT Tryz.prog 305 = false := by kernel_rfl
theorem fld_305_0 : fldOf Tryz.prog 305 0 = some (0, some true, 8) := by kernel_rfl
theorem fld_305_1 : fldOf Tryz.prog 305 1 = some (8, some false, 1) := by kernel_rfl
theorem fld_305_2 : fldOf Tryz.prog 305 2 = some (9, some false, 1) := by kernel_rfl
theorem tyA_307 : tyA Tryz.prog 307 = some true := by kernel_rfl
theorem siz_307 : sizeOf? Tryz.prog 307 = some 16 := by kernel_rfl
theorem tag_307 : tyTag Tryz.prog 307 = 9 := by kernel_rfl
theorem zer_307 : zeroL Tryz.prog 307 = some ([.pointer none, .pointer none, .pointer none, .pointer none, .pointer none, .pointer none, .pointer none, .pointer none, .pointer none, .pointer none, .pointer none, .pointer none, .pointer none, .pointer none, .pointer none, .pointer none]) := by kernel_rfl
theorem nob_307 : bldT Tryz.prog 307 = false := by kernel_rfl
theorem fld_307_0 : fldOf Tryz.prog 307 0 = some (0, some true, 16) := by kernel_rfl
theorem tyA_311 : tyA Tryz.prog 311 = some true := by kernel_rfl
theorem siz_311 : sizeOf? Tryz.prog 311 = some 2 := by kernel_rfl
theorem tag_311 : tyTag Tryz.prog 311 = 9 := by kernel_rfl
theorem zer_311 : zeroL Tryz.prog 311 = some ([.int .i64 0, .slice none 0 0]) := by kernel_rfl
theorem nob_311 : bldT Tryz.prog 311 = false := by kernel_rfl
theorem fld_311_0 : fldOf Tryz.prog 311 0 = some (0, some false, 1) := by kernel_rfl
theorem fld_311_1 : fldOf Tryz.prog 311 1 = some (1, some false, 1) := by kernel_rfl
theorem tyA_317 : tyA Tryz.prog 317 = some true := by kernel_rfl
theorem siz_317 : sizeOf? Tryz.prog 317 = some 160 := by kernel_rfl
theorem tag_317 : tyTag Tryz.prog 317 = 9 := by kernel_rfl
theorem zer_317 : zeroL Tryz.prog 317 = some ((repeatL ([.int .u64 0, .int .u64 0, .int .u64 0, .int .u64 0, .int .u64 0, .int .u64 0, .int .u64 0, .int .u64 0, .int .u64 0, .int .u64 0, .int .u64 0, .int .u64 0, .int .u64 0, .int .u64 0, .int .u64 0, .int .u64 0, .int .u64 0, .bool false, .int .i64 0, .slice none 0 0]) 8)) := by kernel_rfl
theorem nob_317 : bldT Tryz.prog 317 = false := by kernel_rfl
theorem fld_317_0 : fldOf Tryz.prog 317 0 = some (0, some true, 160) := by kernel_rfl
theorem tyA_320 : tyA Tryz.prog 320 = some false := by kernel_rfl
theorem siz_320 : sizeOf? Tryz.prog 320 = some 1 := by kernel_rfl
theorem tag_320 : tyTag Tryz.prog 320 = 2 := by kernel_rfl
theorem zer_320 : zeroL Tryz.prog 320 = some ([.pointer none]) := by kernel_rfl
theorem nob_320 : bldT Tryz.prog 320 = false := by kernel_rfl
theorem tyA_322 : tyA Tryz.prog 322 = some true := by kernel_rfl
theorem siz_322 : sizeOf? Tryz.prog 322 = some 3 := by kernel_rfl
theorem tag_322 : tyTag Tryz.prog 322 = 9 := by kernel_rfl
theorem zer_322 : zeroL Tryz.prog 322 = some ([.bool false, .int .i64 0, .int .i64 0]) := by kernel_rfl
theorem nob_322 : bldT Tryz.prog 322 = false := by kernel_rfl
theorem fld_322_0 : fldOf Tryz.prog 322 0 = some (0, some false, 1) := by kernel_rfl
theorem fld_322_1 : fldOf Tryz.prog 322 1 = some (1, some false, 1) := by kernel_rfl
theorem fld_322_2 : fldOf Tryz.prog 322 2 = some (2, some false, 1) := by kernel_rfl
theorem tyA_323 : tyA Tryz.prog 323 = some false := by kernel_rfl
theorem siz_323 : sizeOf? Tryz.prog 323 = some 1 := by kernel_rfl
theorem tag_323 : tyTag Tryz.prog 323 = 6 := by kernel_rfl
theorem zer_323 : zeroL Tryz.prog 323 = some ([.map none]) := by kernel_rfl
theorem nob_323 : bldT Tryz.prog 323 = false := by kernel_rfl
theorem tyA_325 : tyA Tryz.prog 325 = some true := by kernel_rfl
theorem siz_325 : sizeOf? Tryz.prog 325 = some 1 := by kernel_rfl
theorem tag_325 : tyTag Tryz.prog 325 = 9 := by kernel_rfl
theorem zer_325 : zeroL Tryz.prog 325 = some ([.map none]) := by kernel_rfl
theorem nob_325 : bldT Tryz.prog 325 = false := by kernel_rfl
theorem fld_325_0 : fldOf Tryz.prog 325 0 = some (0, some false, 1) := by kernel_rfl
theorem tyA_356 : tyA Tryz.prog 356 = some false := by kernel_rfl
theorem siz_356 : sizeOf? Tryz.prog 356 = some 1 := by kernel_rfl
theorem tag_356 : tyTag Tryz.prog 356 = 2 := by kernel_rfl
theorem zer_356 : zeroL Tryz.prog 356 = some ([.pointer none]) := by kernel_rfl
theorem nob_356 : bldT Tryz.prog 356 = false := by kernel_rfl
theorem tyA_373 : tyA Tryz.prog 373 = some true := by kernel_rfl
theorem siz_373 : sizeOf? Tryz.prog 373 = some 1 := by kernel_rfl
theorem tag_373 : tyTag Tryz.prog 373 = 9 := by kernel_rfl
theorem zer_373 : zeroL Tryz.prog 373 = some ([.int .i64 0]) := by kernel_rfl
theorem nob_373 : bldT Tryz.prog 373 = false := by kernel_rfl
theorem fld_373_0 : fldOf Tryz.prog 373 0 = some (0, some false, 1) := by kernel_rfl
theorem tyA_376 : tyA Tryz.prog 376 = some true := by kernel_rfl
theorem siz_376 : sizeOf? Tryz.prog 376 = some 0 := by kernel_rfl
theorem tag_376 : tyTag Tryz.prog 376 = 9 := by kernel_rfl
theorem zer_376 : zeroL Tryz.prog 376 = some ([]) := by kernel_rfl
theorem nob_376 : bldT Tryz.prog 376 = false := by kernel_rfl
theorem tyA_378 : tyA Tryz.prog 378 = some true := by kernel_rfl
theorem siz_378 : sizeOf? Tryz.prog 378 = some 5 := by kernel_rfl
theorem tag_378 : tyTag Tryz.prog 378 = 9 := by kernel_rfl
theorem zer_378 : zeroL Tryz.prog 378 = some ([.int .i64 0, .int .i64 0, .int .i64 0, .bool false, .int .i64 0]) := by kernel_rfl
theorem nob_378 : bldT Tryz.prog 378 = false := by kernel_rfl
theorem fld_378_0 : fldOf Tryz.prog 378 0 = some (0, some true, 5) := by kernel_rfl
theorem tyA_380 : tyA Tryz.prog 380 = some true := by kernel_rfl
theorem siz_380 : sizeOf? Tryz.prog 380 = some 1 := by kernel_rfl
theorem tag_380 : tyTag Tryz.prog 380 = 9 := by kernel_rfl
theorem zer_380 : zeroL Tryz.prog 380 = some ([.int .i64 0]) := by kernel_rfl
theorem nob_380 : bldT Tryz.prog 380 = false := by kernel_rfl
theorem fld_380_0 : fldOf Tryz.prog 380 0 = some (0, some false, 1) := by kernel_rfl
theorem tyA_400 : tyA Tryz.prog 400 = some false := by kernel_rfl
theorem siz_400 : sizeOf? Tryz.prog 400 = some 1 := by kernel_rfl
theorem tag_400 : tyTag Tryz.prog 400 = 9 := by kernel_rfl
theorem intK_400 : intK Tryz.prog 400 = some .i64 := by kernel_rfl
theorem zer_400 : zeroL Tryz.prog 400 = some ([.int .i64 0]) := by kernel_rfl
theorem nob_400 : bldT Tryz.prog 400 = false := by kernel_rfl
theorem bld_72 : bldOf Tryz.prog 72 = some ([.int .i64 0, .int .i64 0], [(0, 1), (1, 1)]) := by kernel_rfl
theorem build_72 (parts : List (Nat × Value)) : aBuild Tryz.prog 72 parts = if parts.all (fun x => Nat.blt x.1 2) = true then fillL (fun i => [(0, 1), (1, 1)][i]?) ([.int .i64 0, .int .i64 0]) parts else aBuildO Tryz.prog 72 parts := u_build' bld_72 parts
theorem bld_74 : bldOf Tryz.prog 74 = some ([.int .i64 0, .int .i64 0, .string .empty, .int .i64 0, .int .i64 0], [(0, 1), (1, 1), (2, 1), (3, 2)]) := by kernel_rfl
theorem build_74 (parts : List (Nat × Value)) : aBuild Tryz.prog 74 parts = if parts.all (fun x => Nat.blt x.1 4) = true then fillL (fun i => [(0, 1), (1, 1), (2, 1), (3, 2)][i]?) ([.int .i64 0, .int .i64 0, .string .empty, .int .i64 0, .int .i64 0]) parts else aBuildO Tryz.prog 74 parts := u_build' bld_74 parts
theorem bld_79 : bldOf Tryz.prog 79 = some ([.pointer none, .pointer none, .pointer none, .pointer none], [(0, 1), (1, 1), (2, 1), (3, 1)]) := by kernel_rfl
theorem build_79 (parts : List (Nat × Value)) : aBuild Tryz.prog 79 parts = if parts.all (fun x => Nat.blt x.1 4) = true then fillL (fun i => [(0, 1), (1, 1), (2, 1), (3, 1)][i]?) ([.pointer none, .pointer none, .pointer none, .pointer none]) parts else aBuildO Tryz.prog 79 parts := u_build' bld_79 parts
theorem bld_83 : bldOf Tryz.prog 83 = some ([.int .i64 0, .int .u64 0, .int .u64 0, .int .u64 0, .string .empty, .string .empty], [(0, 1), (1, 1), (2, 1), (3, 1), (4, 1), (5, 1)]) := by kernel_rfl
theorem build_83 (parts : List (Nat × Value)) : aBuild Tryz.prog 83 parts = if parts.all (fun x => Nat.blt x.1 6) = true then fillL (fun i => [(0, 1), (1, 1), (2, 1), (3, 1), (4, 1), (5, 1)][i]?) ([.int .i64 0, .int .u64 0, .int .u64 0, .int .u64 0, .string .empty, .string .empty]) parts else aBuildO Tryz.prog 83 parts := u_build' bld_83 parts
theorem bld_88 : bldOf Tryz.prog 88 = some ([.string .empty, .bool false, .string .empty], [(0, 1), (1, 1), (2, 1)]) := by kernel_rfl
theorem build_88 (parts : List (Nat × Value)) : aBuild Tryz.prog 88 parts = if parts.all (fun x => Nat.blt x.1 3) = true then fillL (fun i => [(0, 1), (1, 1), (2, 1)][i]?) ([.string .empty, .bool false, .string .empty]) parts else aBuildO Tryz.prog 88 parts := u_build' bld_88 parts
theorem bld_165 : bldOf Tryz.prog 165 = some ([.int .i64 0, .int .i64 0, .string .empty, .int .i64 0, .int .i64 0, .string .empty, .int .i64 0, .bool false], [(0, 5), (5, 1), (6, 1), (7, 1)]) := by kernel_rfl
theorem build_165 (parts : List (Nat × Value)) : aBuild Tryz.prog 165 parts = if parts.all (fun x => Nat.blt x.1 4) = true then fillL (fun i => [(0, 5), (5, 1), (6, 1), (7, 1)][i]?) ([.int .i64 0, .int .i64 0, .string .empty, .int .i64 0, .int .i64 0, .string .empty, .int .i64 0, .bool false]) parts else aBuildO Tryz.prog 165 parts := u_build' bld_165 parts
theorem bld_275 : bldOf Tryz.prog 275 = some ([.int .i64 0, .int .i64 0, .int .i64 0, .bool false, .int .i64 0], [(0, 1), (1, 1), (2, 1), (3, 1), (4, 1)]) := by kernel_rfl
theorem build_275 (parts : List (Nat × Value)) : aBuild Tryz.prog 275 parts = if parts.all (fun x => Nat.blt x.1 5) = true then fillL (fun i => [(0, 1), (1, 1), (2, 1), (3, 1), (4, 1)][i]?) ([.int .i64 0, .int .i64 0, .int .i64 0, .bool false, .int .i64 0]) parts else aBuildO Tryz.prog 275 parts := u_build' bld_275 parts
theorem bld_295 : bldOf Tryz.prog 295 = some ([.pointer none, .pointer none, .pointer none, .pointer none, .pointer none, .pointer none], [(0, 1), (1, 1), (2, 1), (3, 1), (4, 1), (5, 1)]) := by kernel_rfl
theorem build_295 (parts : List (Nat × Value)) : aBuild Tryz.prog 295 parts = if parts.all (fun x => Nat.blt x.1 6) = true then fillL (fun i => [(0, 1), (1, 1), (2, 1), (3, 1), (4, 1), (5, 1)][i]?) ([.pointer none, .pointer none, .pointer none, .pointer none, .pointer none, .pointer none]) parts else aBuildO Tryz.prog 295 parts := u_build' bld_295 parts
theorem bld_373 : bldOf Tryz.prog 373 = some ([.int .i64 0], [(0, 1)]) := by kernel_rfl
theorem build_373 (parts : List (Nat × Value)) : aBuild Tryz.prog 373 parts = if parts.all (fun x => Nat.blt x.1 1) = true then fillL (fun i => [(0, 1)][i]?) ([.int .i64 0]) parts else aBuildO Tryz.prog 373 parts := u_build' bld_373 parts
theorem bld_376 : bldOf Tryz.prog 376 = some ([], []) := by kernel_rfl
theorem build_376 (parts : List (Nat × Value)) : aBuild Tryz.prog 376 parts = if parts.all (fun x => Nat.blt x.1 0) = true then fillL (fun i => [][i]?) ([]) parts else aBuildO Tryz.prog 376 parts := u_build' bld_376 parts
theorem bld_378 : bldOf Tryz.prog 378 = some ([.int .i64 0, .int .i64 0, .int .i64 0, .bool false, .int .i64 0], [(0, 5)]) := by kernel_rfl
theorem build_378 (parts : List (Nat × Value)) : aBuild Tryz.prog 378 parts = if parts.all (fun x => Nat.blt x.1 1) = true then fillL (fun i => [(0, 5)][i]?) ([.int .i64 0, .int .i64 0, .int .i64 0, .bool false, .int .i64 0]) parts else aBuildO Tryz.prog 378 parts := u_build' bld_378 parts
theorem bld_380 : bldOf Tryz.prog 380 = some ([.int .i64 0], [(0, 1)]) := by kernel_rfl
theorem build_380 (parts : List (Nat × Value)) : aBuild Tryz.prog 380 parts = if parts.all (fun x => Nat.blt x.1 1) = true then fillL (fun i => [(0, 1)][i]?) ([.int .i64 0]) parts else aBuildO Tryz.prog 380 parts := u_build' bld_380 parts
theorem app_47_47 : appT Tryz.prog #[47, 47] = some ([.int .i64 0], 1, 10) := by kernel_rfl
theorem app_289_289 : appT Tryz.prog #[289, 289] = some ([.pointer none], 1, 10) := by kernel_rfl
theorem tf0 : type_of% (And.intro (And.intro (And.intro (And.intro (And.intro (@tyA_1) (And.intro (@siz_1) (@tag_1))) (And.intro (And.intro (@zer_1) (@nob_1)) (And.intro (@tyA_2) (@siz_2)))) (And.intro (And.intro (And.intro (@tag_2) (@intK_2)) (And.intro (@zer_2) (@nob_2))) (And.intro (And.intro (@tyA_3) (@siz_3)) (And.intro (@tag_3) (@intK_3))))) (And.intro (And.intro (And.intro (@zer_3) (And.intro (@nob_3) (@tyA_4))) (And.intro (And.intro (@siz_4) (@tag_4)) (And.intro (@zer_4) (@nob_4)))) (And.intro (And.intro (And.intro (@tyA_5) (@siz_5)) (And.intro (@tag_5) (@intK_5))) (And.intro (And.intro (@zer_5) (@nob_5)) (And.intro (@tyA_9) (@siz_9)))))) (And.intro (And.intro (And.intro (And.intro (@tag_9) (And.intro (@zer_9) (@nob_9))) (And.intro (And.intro (@tyA_20) (@siz_20)) (And.intro (@tag_20) (@zer_20)))) (And.intro (And.intro (And.intro (@nob_20) (@tyA_23)) (And.intro (@siz_23) (@tag_23))) (And.intro (And.intro (@zer_23) (@nob_23)) (And.intro (@tyA_24) (@siz_24))))) (And.intro (And.intro (And.intro (@tag_24) (And.intro (@zer_24) (@nob_24))) (And.intro (And.intro (@tyA_30) (@siz_30)) (And.intro (@tag_30) (@intK_30)))) (And.intro (And.intro (And.intro (@zer_30) (@nob_30)) (And.intro (@tyA_46) (@siz_46))) (And.intro (And.intro (@tag_46) (@slc_46)) (And.intro (@mk_46) (@zer_46))))))) := And.intro (And.intro (And.intro (And.intro (And.intro (@tyA_1) (And.intro (@siz_1) (@tag_1))) (And.intro (And.intro (@zer_1) (@nob_1)) (And.intro (@tyA_2) (@siz_2)))) (And.intro (And.intro (And.intro (@tag_2) (@intK_2)) (And.intro (@zer_2) (@nob_2))) (And.intro (And.intro (@tyA_3) (@siz_3)) (And.intro (@tag_3) (@intK_3))))) (And.intro (And.intro (And.intro (@zer_3) (And.intro (@nob_3) (@tyA_4))) (And.intro (And.intro (@siz_4) (@tag_4)) (And.intro (@zer_4) (@nob_4)))) (And.intro (And.intro (And.intro (@tyA_5) (@siz_5)) (And.intro (@tag_5) (@intK_5))) (And.intro (And.intro (@zer_5) (@nob_5)) (And.intro (@tyA_9) (@siz_9)))))) (And.intro (And.intro (And.intro (And.intro (@tag_9) (And.intro (@zer_9) (@nob_9))) (And.intro (And.intro (@tyA_20) (@siz_20)) (And.intro (@tag_20) (@zer_20)))) (And.intro (And.intro (And.intro (@nob_20) (@tyA_23)) (And.intro (@siz_23) (@tag_23))) (And.intro (And.intro (@zer_23) (@nob_23)) (And.intro (@tyA_24) (@siz_24))))) (And.intro (And.intro (And.intro (@tag_24) (And.intro (@zer_24) (@nob_24))) (And.intro (And.intro (@tyA_30) (@siz_30)) (And.intro (@tag_30) (@intK_30)))) (And.intro (And.intro (And.intro (@zer_30) (@nob_30)) (And.intro (@tyA_46) (@siz_46))) (And.intro (And.intro (@tag_46) (@slc_46)) (And.intro (@mk_46) (@zer_46))))))
theorem tf1 : type_of% (And.intro (And.intro (And.intro (And.intro (And.intro (@nob_46) (And.intro (@tyA_47) (@siz_47))) (And.intro (And.intro (@tag_47) (@slc_47)) (And.intro (@mk_47) (@zer_47)))) (And.intro (And.intro (And.intro (@nob_47) (@tyA_56)) (And.intro (@siz_56) (@tag_56))) (And.intro (And.intro (@slc_56) (@mk_56)) (And.intro (@zer_56) (@nob_56))))) (And.intro (And.intro (And.intro (@tyA_70) (And.intro (@siz_70) (@tag_70))) (And.intro (And.intro (@zer_70) (@nob_70)) (And.intro (@tyA_72) (@siz_72)))) (And.intro (And.intro (And.intro (@tag_72) (@arr_72)) (And.intro (@sarr_72) (@zer_72))) (And.intro (And.intro (@nob_72) (@tyA_74)) (And.intro (@siz_74) (@tag_74)))))) (And.intro (And.intro (And.intro (And.intro (@zer_74) (And.intro (@nob_74) (@fld_74_0))) (And.intro (And.intro (@fld_74_1) (@fld_74_2)) (And.intro (@fld_74_3) (@tyA_76)))) (And.intro (And.intro (And.intro (@siz_76) (@tag_76)) (And.intro (@zer_76) (@nob_76))) (And.intro (And.intro (@tyA_77) (@siz_77)) (And.intro (@tag_77) (@zer_77))))) (And.intro (And.intro (And.intro (@nob_77) (And.intro (@tyA_79) (@siz_79))) (And.intro (And.intro (@tag_79) (@zer_79)) (And.intro (@nob_79) (@fld_79_0)))) (And.intro (And.intro (And.intro (@fld_79_1) (@fld_79_2)) (And.intro (@fld_79_3) (@tyA_81))) (And.intro (And.intro (@siz_81) (@tag_81)) (And.intro (@intK_81) (@zer_81))))))) := And.intro (And.intro (And.intro (And.intro (And.intro (@nob_46) (And.intro (@tyA_47) (@siz_47))) (And.intro (And.intro (@tag_47) (@slc_47)) (And.intro (@mk_47) (@zer_47)))) (And.intro (And.intro (And.intro (@nob_47) (@tyA_56)) (And.intro (@siz_56) (@tag_56))) (And.intro (And.intro (@slc_56) (@mk_56)) (And.intro (@zer_56) (@nob_56))))) (And.intro (And.intro (And.intro (@tyA_70) (And.intro (@siz_70) (@tag_70))) (And.intro (And.intro (@zer_70) (@nob_70)) (And.intro (@tyA_72) (@siz_72)))) (And.intro (And.intro (And.intro (@tag_72) (@arr_72)) (And.intro (@sarr_72) (@zer_72))) (And.intro (And.intro (@nob_72) (@tyA_74)) (And.intro (@siz_74) (@tag_74)))))) (And.intro (And.intro (And.intro (And.intro (@zer_74) (And.intro (@nob_74) (@fld_74_0))) (And.intro (And.intro (@fld_74_1) (@fld_74_2)) (And.intro (@fld_74_3) (@tyA_76)))) (And.intro (And.intro (And.intro (@siz_76) (@tag_76)) (And.intro (@zer_76) (@nob_76))) (And.intro (And.intro (@tyA_77) (@siz_77)) (And.intro (@tag_77) (@zer_77))))) (And.intro (And.intro (And.intro (@nob_77) (And.intro (@tyA_79) (@siz_79))) (And.intro (And.intro (@tag_79) (@zer_79)) (And.intro (@nob_79) (@fld_79_0)))) (And.intro (And.intro (And.intro (@fld_79_1) (@fld_79_2)) (And.intro (@fld_79_3) (@tyA_81))) (And.intro (And.intro (@siz_81) (@tag_81)) (And.intro (@intK_81) (@zer_81))))))
theorem tf2 : type_of% (And.intro (And.intro (And.intro (And.intro (And.intro (@nob_81) (And.intro (@tyA_83) (@siz_83))) (And.intro (And.intro (@tag_83) (@zer_83)) (And.intro (@nob_83) (@fld_83_0)))) (And.intro (And.intro (And.intro (@fld_83_1) (@fld_83_2)) (And.intro (@fld_83_3) (@fld_83_4))) (And.intro (And.intro (@fld_83_5) (@tyA_88)) (And.intro (@siz_88) (@tag_88))))) (And.intro (And.intro (And.intro (@zer_88) (And.intro (@nob_88) (@fld_88_0))) (And.intro (And.intro (@fld_88_1) (@fld_88_2)) (And.intro (@tyA_90) (@siz_90)))) (And.intro (And.intro (And.intro (@tag_90) (@slc_90)) (And.intro (@mk_90) (@zer_90))) (And.intro (And.intro (@nob_90) (@tyA_104)) (And.intro (@siz_104) (@tag_104)))))) (And.intro (And.intro (And.intro (And.intro (@zer_104) (And.intro (@nob_104) (@tyA_111))) (And.intro (And.intro (@siz_111) (@tag_111)) (And.intro (@arr_111) (@sarr_111)))) (And.intro (And.intro (And.intro (@zer_111) (@nob_111)) (And.intro (@tyA_113) (@siz_113))) (And.intro (And.intro (@tag_113) (@zer_113)) (And.intro (@nob_113) (@fld_113_0))))) (And.intro (And.intro (And.intro (@fld_113_1) (And.intro (@fld_113_2) (@fld_113_3))) (And.intro (And.intro (@tyA_124) (@siz_124)) (And.intro (@tag_124) (@slc_124)))) (And.intro (And.intro (And.intro (@mk_124) (@zer_124)) (And.intro (@nob_124) (@tyA_137))) (And.intro (And.intro (@siz_137) (@tag_137)) (And.intro (@zer_137) (@nob_137))))))) := And.intro (And.intro (And.intro (And.intro (And.intro (@nob_81) (And.intro (@tyA_83) (@siz_83))) (And.intro (And.intro (@tag_83) (@zer_83)) (And.intro (@nob_83) (@fld_83_0)))) (And.intro (And.intro (And.intro (@fld_83_1) (@fld_83_2)) (And.intro (@fld_83_3) (@fld_83_4))) (And.intro (And.intro (@fld_83_5) (@tyA_88)) (And.intro (@siz_88) (@tag_88))))) (And.intro (And.intro (And.intro (@zer_88) (And.intro (@nob_88) (@fld_88_0))) (And.intro (And.intro (@fld_88_1) (@fld_88_2)) (And.intro (@tyA_90) (@siz_90)))) (And.intro (And.intro (And.intro (@tag_90) (@slc_90)) (And.intro (@mk_90) (@zer_90))) (And.intro (And.intro (@nob_90) (@tyA_104)) (And.intro (@siz_104) (@tag_104)))))) (And.intro (And.intro (And.intro (And.intro (@zer_104) (And.intro (@nob_104) (@tyA_111))) (And.intro (And.intro (@siz_111) (@tag_111)) (And.intro (@arr_111) (@sarr_111)))) (And.intro (And.intro (And.intro (@zer_111) (@nob_111)) (And.intro (@tyA_113) (@siz_113))) (And.intro (And.intro (@tag_113) (@zer_113)) (And.intro (@nob_113) (@fld_113_0))))) (And.intro (And.intro (And.intro (@fld_113_1) (And.intro (@fld_113_2) (@fld_113_3))) (And.intro (And.intro (@tyA_124) (@siz_124)) (And.intro (@tag_124) (@slc_124)))) (And.intro (And.intro (And.intro (@mk_124) (@zer_124)) (And.intro (@nob_124) (@tyA_137))) (And.intro (And.intro (@siz_137) (@tag_137)) (And.intro (@zer_137) (@nob_137))))))
theorem tf3 : type_of% (And.intro (And.intro (And.intro (And.intro (And.intro (@fld_137_0) (And.intro (@fld_137_1) (@fld_137_2))) (And.intro (And.intro (@tyA_144) (@siz_144)) (And.intro (@tag_144) (@zer_144)))) (And.intro (And.intro (And.intro (@nob_144) (@fld_144_0)) (And.intro (@fld_144_1) (@fld_144_2))) (And.intro (And.intro (@fld_144_3) (@tyA_165)) (And.intro (@siz_165) (@tag_165))))) (And.intro (And.intro (And.intro (@zer_165) (And.intro (@nob_165) (@fld_165_0))) (And.intro (And.intro (@fld_165_1) (@fld_165_2)) (And.intro (@fld_165_3) (@tyA_169)))) (And.intro (And.intro (And.intro (@siz_169) (@tag_169)) (And.intro (@zer_169) (@nob_169))) (And.intro (And.intro (@tyA_172) (@siz_172)) (And.intro (@tag_172) (@zer_172)))))) (And.intro (And.intro (And.intro (And.intro (@nob_172) (And.intro (@tyA_175) (@siz_175))) (And.intro (And.intro (@tag_175) (@zer_175)) (And.intro (@nob_175) (@tyA_178)))) (And.intro (And.intro (And.intro (@siz_178) (@tag_178)) (And.intro (@zer_178) (@nob_178))) (And.intro (And.intro (@tyA_182) (@siz_182)) (And.intro (@tag_182) (@zer_182))))) (And.intro (And.intro (And.intro (@nob_182) (And.intro (@fld_182_0) (@fld_182_1))) (And.intro (And.intro (@fld_182_2) (@fld_182_3)) (And.intro (@tyA_196) (@siz_196)))) (And.intro (And.intro (And.intro (@tag_196) (@zer_196)) (And.intro (@nob_196) (@fld_196_0))) (And.intro (And.intro (@fld_196_1) (@fld_196_2)) (And.intro (@fld_196_3) (@tyA_235))))))) := And.intro (And.intro (And.intro (And.intro (And.intro (@fld_137_0) (And.intro (@fld_137_1) (@fld_137_2))) (And.intro (And.intro (@tyA_144) (@siz_144)) (And.intro (@tag_144) (@zer_144)))) (And.intro (And.intro (And.intro (@nob_144) (@fld_144_0)) (And.intro (@fld_144_1) (@fld_144_2))) (And.intro (And.intro (@fld_144_3) (@tyA_165)) (And.intro (@siz_165) (@tag_165))))) (And.intro (And.intro (And.intro (@zer_165) (And.intro (@nob_165) (@fld_165_0))) (And.intro (And.intro (@fld_165_1) (@fld_165_2)) (And.intro (@fld_165_3) (@tyA_169)))) (And.intro (And.intro (And.intro (@siz_169) (@tag_169)) (And.intro (@zer_169) (@nob_169))) (And.intro (And.intro (@tyA_172) (@siz_172)) (And.intro (@tag_172) (@zer_172)))))) (And.intro (And.intro (And.intro (And.intro (@nob_172) (And.intro (@tyA_175) (@siz_175))) (And.intro (And.intro (@tag_175) (@zer_175)) (And.intro (@nob_175) (@tyA_178)))) (And.intro (And.intro (And.intro (@siz_178) (@tag_178)) (And.intro (@zer_178) (@nob_178))) (And.intro (And.intro (@tyA_182) (@siz_182)) (And.intro (@tag_182) (@zer_182))))) (And.intro (And.intro (And.intro (@nob_182) (And.intro (@fld_182_0) (@fld_182_1))) (And.intro (And.intro (@fld_182_2) (@fld_182_3)) (And.intro (@tyA_196) (@siz_196)))) (And.intro (And.intro (And.intro (@tag_196) (@zer_196)) (And.intro (@nob_196) (@fld_196_0))) (And.intro (And.intro (@fld_196_1) (@fld_196_2)) (And.intro (@fld_196_3) (@tyA_235))))))
theorem tf4 : type_of% (And.intro (And.intro (And.intro (And.intro (And.intro (@siz_235) (And.intro (@tag_235) (@intK_235))) (And.intro (And.intro (@zer_235) (@nob_235)) (And.intro (@tyA_275) (@siz_275)))) (And.intro (And.intro (And.intro (@tag_275) (@zer_275)) (And.intro (@nob_275) (@fld_275_0))) (And.intro (And.intro (@fld_275_1) (@fld_275_2)) (And.intro (@fld_275_3) (@fld_275_4))))) (And.intro (And.intro (And.intro (@tyA_289) (And.intro (@siz_289) (@tag_289))) (And.intro (And.intro (@slc_289) (@mk_289)) (And.intro (@zer_289) (@nob_289)))) (And.intro (And.intro (And.intro (@tyA_293) (@siz_293)) (And.intro (@tag_293) (@zer_293))) (And.intro (And.intro (@nob_293) (@tyA_295)) (And.intro (@siz_295) (@tag_295)))))) (And.intro (And.intro (And.intro (And.intro (@arr_295) (And.intro (@sarr_295) (@zer_295))) (And.intro (And.intro (@nob_295) (@tyA_296)) (And.intro (@siz_296) (@tag_296)))) (And.intro (And.intro (And.intro (@arr_296) (@sarr_296)) (And.intro (@zer_296) (@nob_296))) (And.intro (And.intro (@tyA_298) (@siz_298)) (And.intro (@tag_298) (@zer_298))))) (And.intro (And.intro (And.intro (@nob_298) (And.intro (@fld_298_0) (@tyA_300))) (And.intro (And.intro (@siz_300) (@tag_300)) (And.intro (@zer_300) (@nob_300)))) (And.intro (And.intro (And.intro (@tyA_301) (@siz_301)) (And.intro (@tag_301) (@arr_301))) (And.intro (And.intro (@sarr_301) (@zer_301)) (And.intro (@nob_301) (@tyA_303))))))) := And.intro (And.intro (And.intro (And.intro (And.intro (@siz_235) (And.intro (@tag_235) (@intK_235))) (And.intro (And.intro (@zer_235) (@nob_235)) (And.intro (@tyA_275) (@siz_275)))) (And.intro (And.intro (And.intro (@tag_275) (@zer_275)) (And.intro (@nob_275) (@fld_275_0))) (And.intro (And.intro (@fld_275_1) (@fld_275_2)) (And.intro (@fld_275_3) (@fld_275_4))))) (And.intro (And.intro (And.intro (@tyA_289) (And.intro (@siz_289) (@tag_289))) (And.intro (And.intro (@slc_289) (@mk_289)) (And.intro (@zer_289) (@nob_289)))) (And.intro (And.intro (And.intro (@tyA_293) (@siz_293)) (And.intro (@tag_293) (@zer_293))) (And.intro (And.intro (@nob_293) (@tyA_295)) (And.intro (@siz_295) (@tag_295)))))) (And.intro (And.intro (And.intro (And.intro (@arr_295) (And.intro (@sarr_295) (@zer_295))) (And.intro (And.intro (@nob_295) (@tyA_296)) (And.intro (@siz_296) (@tag_296)))) (And.intro (And.intro (And.intro (@arr_296) (@sarr_296)) (And.intro (@zer_296) (@nob_296))) (And.intro (And.intro (@tyA_298) (@siz_298)) (And.intro (@tag_298) (@zer_298))))) (And.intro (And.intro (And.intro (@nob_298) (And.intro (@fld_298_0) (@tyA_300))) (And.intro (And.intro (@siz_300) (@tag_300)) (And.intro (@zer_300) (@nob_300)))) (And.intro (And.intro (And.intro (@tyA_301) (@siz_301)) (And.intro (@tag_301) (@arr_301))) (And.intro (And.intro (@sarr_301) (@zer_301)) (And.intro (@nob_301) (@tyA_303))))))
theorem tf5 : type_of% (And.intro (And.intro (And.intro (And.intro (And.intro (@siz_303) (And.intro (@tag_303) (@arr_303))) (And.intro (And.intro (@sarr_303) (@zer_303)) (And.intro (@nob_303) (@tyA_305)))) (And.intro (And.intro (And.intro (@siz_305) (@tag_305)) (And.intro (@zer_305) (@nob_305))) (And.intro (And.intro (@fld_305_0) (@fld_305_1)) (And.intro (@fld_305_2) (@tyA_307))))) (And.intro (And.intro (And.intro (@siz_307) (And.intro (@tag_307) (@zer_307))) (And.intro (And.intro (@nob_307) (@fld_307_0)) (And.intro (@tyA_311) (@siz_311)))) (And.intro (And.intro (And.intro (@tag_311) (@zer_311)) (And.intro (@nob_311) (@fld_311_0))) (And.intro (And.intro (@fld_311_1) (@tyA_317)) (And.intro (@siz_317) (@tag_317)))))) (And.intro (And.intro (And.intro (And.intro (@zer_317) (And.intro (@nob_317) (@fld_317_0))) (And.intro (And.intro (@tyA_320) (@siz_320)) (And.intro (@tag_320) (@zer_320)))) (And.intro (And.intro (And.intro (@nob_320) (@tyA_322)) (And.intro (@siz_322) (@tag_322))) (And.intro (And.intro (@zer_322) (@nob_322)) (And.intro (@fld_322_0) (@fld_322_1))))) (And.intro (And.intro (And.intro (@fld_322_2) (And.intro (@tyA_323) (@siz_323))) (And.intro (And.intro (@tag_323) (@zer_323)) (And.intro (@nob_323) (@tyA_325)))) (And.intro (And.intro (And.intro (@siz_325) (@tag_325)) (And.intro (@zer_325) (@nob_325))) (And.intro (And.intro (@fld_325_0) (@tyA_356)) (And.intro (@siz_356) (@tag_356))))))) := And.intro (And.intro (And.intro (And.intro (And.intro (@siz_303) (And.intro (@tag_303) (@arr_303))) (And.intro (And.intro (@sarr_303) (@zer_303)) (And.intro (@nob_303) (@tyA_305)))) (And.intro (And.intro (And.intro (@siz_305) (@tag_305)) (And.intro (@zer_305) (@nob_305))) (And.intro (And.intro (@fld_305_0) (@fld_305_1)) (And.intro (@fld_305_2) (@tyA_307))))) (And.intro (And.intro (And.intro (@siz_307) (And.intro (@tag_307) (@zer_307))) (And.intro (And.intro (@nob_307) (@fld_307_0)) (And.intro (@tyA_311) (@siz_311)))) (And.intro (And.intro (And.intro (@tag_311) (@zer_311)) (And.intro (@nob_311) (@fld_311_0))) (And.intro (And.intro (@fld_311_1) (@tyA_317)) (And.intro (@siz_317) (@tag_317)))))) (And.intro (And.intro (And.intro (And.intro (@zer_317) (And.intro (@nob_317) (@fld_317_0))) (And.intro (And.intro (@tyA_320) (@siz_320)) (And.intro (@tag_320) (@zer_320)))) (And.intro (And.intro (And.intro (@nob_320) (@tyA_322)) (And.intro (@siz_322) (@tag_322))) (And.intro (And.intro (@zer_322) (@nob_322)) (And.intro (@fld_322_0) (@fld_322_1))))) (And.intro (And.intro (And.intro (@fld_322_2) (And.intro (@tyA_323) (@siz_323))) (And.intro (And.intro (@tag_323) (@zer_323)) (And.intro (@nob_323) (@tyA_325)))) (And.intro (And.intro (And.intro (@siz_325) (@tag_325)) (And.intro (@zer_325) (@nob_325))) (And.intro (And.intro (@fld_325_0) (@tyA_356)) (And.intro (@siz_356) (@tag_356))))))
theorem tf6 : type_of% (And.intro (And.intro (And.intro (And.intro (And.intro (@zer_356) (@nob_356)) (And.intro (@tyA_373) (And.intro (@siz_373) (@tag_373)))) (And.intro (And.intro (@zer_373) (And.intro (@nob_373) (@fld_373_0))) (And.intro (@tyA_376) (And.intro (@siz_376) (@tag_376))))) (And.intro (And.intro (And.intro (@zer_376) (@nob_376)) (And.intro (@tyA_378) (And.intro (@siz_378) (@tag_378)))) (And.intro (And.intro (@zer_378) (And.intro (@nob_378) (@fld_378_0))) (And.intro (@tyA_380) (And.intro (@siz_380) (@tag_380)))))) (And.intro (And.intro (And.intro (And.intro (@zer_380) (@nob_380)) (And.intro (@fld_380_0) (And.intro (@tyA_400) (@siz_400)))) (And.intro (And.intro (@tag_400) (And.intro (@intK_400) (@zer_400))) (And.intro (@nob_400) (And.intro (@build_72) (@build_74))))) (And.intro (And.intro (And.intro (@build_79) (And.intro (@build_83) (@build_88))) (And.intro (@build_165) (And.intro (@build_275) (@build_295)))) (And.intro (And.intro (@build_373) (And.intro (@build_376) (@build_378))) (And.intro (@build_380) (And.intro (@app_47_47) (@app_289_289))))))) := And.intro (And.intro (And.intro (And.intro (And.intro (@zer_356) (@nob_356)) (And.intro (@tyA_373) (And.intro (@siz_373) (@tag_373)))) (And.intro (And.intro (@zer_373) (And.intro (@nob_373) (@fld_373_0))) (And.intro (@tyA_376) (And.intro (@siz_376) (@tag_376))))) (And.intro (And.intro (And.intro (@zer_376) (@nob_376)) (And.intro (@tyA_378) (And.intro (@siz_378) (@tag_378)))) (And.intro (And.intro (@zer_378) (And.intro (@nob_378) (@fld_378_0))) (And.intro (@tyA_380) (And.intro (@siz_380) (@tag_380)))))) (And.intro (And.intro (And.intro (And.intro (@zer_380) (@nob_380)) (And.intro (@fld_380_0) (And.intro (@tyA_400) (@siz_400)))) (And.intro (And.intro (@tag_400) (And.intro (@intK_400) (@zer_400))) (And.intro (@nob_400) (And.intro (@build_72) (@build_74))))) (And.intro (And.intro (And.intro (@build_79) (And.intro (@build_83) (@build_88))) (And.intro (@build_165) (And.intro (@build_275) (@build_295)))) (And.intro (And.intro (@build_373) (And.intro (@build_376) (@build_378))) (And.intro (@build_380) (And.intro (@app_47_47) (@app_289_289))))))
end Go.Proofs.YtgdbknbgpkmncaaGreatDoor
end
section
/- Rows of bytes of this program that grow. Conditions: as each rule says. -/
namespace Go.Proofs.YtgdbknbgpkmncaaGreatDoor
open Go.AM
open Nat renaming reduceBEq → Za, reduceEqDiff → Zb, reduceAdd → Zc, reduceSub → Zd, reduceMul → Ze, reduceLT → Zf, reduceLeDiff → Zg, reduceDiv → Zh, reduceMod → Zi, reducePow → Zj
open Int renaming reduceAdd → Zk, reduceSub → Zl, reduceMul → Zm, reduceLT → Zn, reduceLE → Zo, reduceEq → Zp, reduceNe → Zq, reduceNeg → Zr, reduceToNat → Zs, reduceDiv → Zt, reduceMod → Zu, reducePow → Zv, cast_ofNat_Int → Zw
set_option linter.unusedSimpArgs false
variable {sp : Special} {h : Heap} {R : Out → Heap → Prop}
set_option maxRecDepth 100000 in
theorem st124 : ∃ i, Tryz.prog.info? 5 = some i ∧ i.size = 1 ∧ i.bytes = 1 ∧ Tryz.prog.underlying 124 = some (.slice 5) ∧ zeroL Tryz.prog 5 = some [.int .u8 0] := ⟨_, rfl, rfl, rfl, rfl, rfl⟩
theorem appB_unf (base : Option Addr) (m : Nat) {b : Nat} {v : Int} {g : Nat → Option Blk} (nx : Nat) (hb : g b = some (cellsB [.int .u8 v] .exact)) (hm : m ≤ 1000) {old : List Value} (hold : firstL g 1 m (.slice base m m) = some old) (hk : base = none ∨ ∃ b0 L, base = some ⟨b0, 0, none⟩ ∧ g b0 = some (cellsB L (.own 5)) ∧ L.length = m) :
    ∃ wr, aAppend Tryz.prog #[124, 124] (.slice base m m) (.slice (some ⟨b, 0, none⟩) 1 1) g nx = some ⟨.slice (some ⟨nx, 0, none⟩) (m + 1) (m + 1), wr, [cellsB (old ++ [.int .u8 v]) (.own 5)]⟩ ∧ (wr = [] ∨ ∃ b0 L, base = some ⟨b0, 0, none⟩ ∧ g b0 = some (cellsB L (.own 5)) ∧ wr = [(b0, .dead)]) := by
  obtain ⟨i, hi, hs, hby, hu, hz⟩ := st124
  have hnew : firstL g 1 1 (.slice (some ⟨b, 0, none⟩) 1 1) = some [.int .u8 v] := by rw [firstL_slc _ _ _ _ _ _ _ _ _ hb (by simp)]; rfl
  unfold aAppend
  simp only [hu, hi, hz, lenV]
  rw [if_neg (by rw [hs, hby]; simp; omega), hs]
  simp only [hnew, hold]
  rw [if_neg (by omega)]
  rcases hk with rfl | ⟨b0, L, rfl, hb0, hL⟩
  · exact ⟨[], rfl, .inl rfl⟩
  · simp only [hb0]
    unfold cellsB maybeRoom
    simp only [hL, Nat.mul_one, Nat.zero_add, and_self, if_true]
    exact ⟨_, rfl, .inr ⟨b0, L, rfl, by rw [hb0]; unfold cellsB; rw [hL], rfl⟩⟩
structure BAt (h : Heap) (lo : Nat) (v : Value) (l : List UInt8) : Prop where
  is : (v = .slice none 0 0 ∧ l = []) ∨ ∃ b, lo ≤ b ∧ b < h.nx ∧ v = .slice (some ⟨b, 0, none⟩) l.length l.length ∧ h.get b = some (cellsB (u8s l) (.own 5))
theorem BAt.keep {h' : Heap} {lo : Nat} {v : Value} {l : List UInt8} (x : BAt h lo v l) (hn : h.nx ≤ h'.nx) (hk : ∀ b, lo ≤ b → b < h.nx → h'.get b = h.get b) : BAt h' lo v l := by
  rcases x.is with ⟨h1, h2⟩ | ⟨b, h1, h2, h3, h4⟩
  · exact ⟨.inl ⟨h1, h2⟩⟩
  · exact ⟨.inr ⟨b, h1, by omega, h3, (hk b h1 h2).trans h4⟩⟩
theorem bs1_124 (v : Int) (nx : Nat) : effBuildSlice Tryz.prog 124 1 [(0, .int .u8 v)] nx = some ⟨.slice (some ⟨nx, 0, none⟩) 1 1, [], [cellsB [.int .u8 v] .exact]⟩ := by
  rw [u_buildSlice 124 1 nx _ mk_124 (by omega)]; rfl
theorem growB {lo : Nat} {v : Value} {l : List UInt8} (g : BAt h lo v l) (hlo : lo ≤ h.nx) (x : UInt8) (hsz : l.length ≤ 1000) :
    ∃ E h3 w, aAppend Tryz.prog #[124, 124] v (.slice (some ⟨h.nx, 0, none⟩) 1 1) (h.new (cellsB [.int .u8 x.toNat] .exact)).get (h.nx + 1) = some E ∧ E.val = w ∧ (h.new (cellsB [.int .u8 x.toNat] .exact)).apply E = h3 ∧ BAt h3 lo w (l ++ [x]) ∧ h.nx ≤ h3.nx ∧ (∀ b', b' < lo → h3.get b' = h.get b') ∧ ∀ b', b' < h.nx → (∀ L, h.get b' ≠ some (cellsB L (.own 5))) → h3.get b' = h.get b' := by
  obtain ⟨h2, hh2⟩ : ∃ h2, h.new (cellsB [.int .u8 x.toNat] .exact) = h2 := ⟨_, rfl⟩
  have n2 : h2.nx = h.nx + 1 := by rw [← hh2, Heap.nx_new]
  have g2 : h2.get h.nx = some (cellsB [.int .u8 x.toNat] .exact) := by rw [← hh2, Heap.get_new_same]
  have k2 : ∀ b', b' < h.nx → h2.get b' = h.get b' := fun b' hb' => by rw [← hh2, Heap.get_new_ne _ _ (by omega)]
  rw [hh2, ← n2]
  rcases g.is with ⟨rfl, rfl⟩ | ⟨b, h1, h3, rfl, h5⟩
  · obtain ⟨wr, e1, e2⟩ := appB_unf none 0 h2.nx g2 (by omega) (old := []) rfl (.inl rfl)
    rcases e2 with rfl | ⟨b0, L, e, _⟩
    · refine ⟨_, _, _, e1, rfl, rfl, ⟨.inr ⟨h2.nx, by omega, ?_, rfl, ?_⟩⟩, ?_, fun b' hb' => ?_, fun b' hb' hk => ?_⟩
      · rw [Heap.apply_nw, Heap.nx_new]; omega
      · rw [Heap.apply_nw, Heap.get_new_same]; rfl
      · rw [Heap.apply_nw, Heap.nx_new]; omega
      · rw [Heap.apply_nw, Heap.get_new_ne _ _ (by omega), k2 _ (by omega)]
      · rw [Heap.apply_nw, Heap.get_new_ne _ _ (by omega), k2 _ (by omega)]
    · cases e
  · have h5' := (k2 b h3).trans h5
    obtain ⟨wr, e1, e2⟩ := appB_unf (some ⟨b, 0, none⟩) l.length h2.nx g2 hsz (old := u8s l) (by rw [firstL_slc _ _ _ _ _ _ _ _ _ h5' (by rw [u8s_len]; omega), List.drop_zero, List.take_of_length_le (by rw [u8s_len]; omega)]) (.inr ⟨b, _, rfl, h5', u8s_len l⟩)
    have hw : u8s (l ++ [x]) = u8s l ++ [.int .u8 x.toNat] := by unfold u8s; rw [List.map_append]; rfl
    rcases e2 with rfl | ⟨b0, L, e, _, rfl⟩
    · refine ⟨_, _, _, e1, rfl, rfl, ⟨.inr ⟨h2.nx, by omega, ?_, by simp, ?_⟩⟩, ?_, fun b' hb' => ?_, fun b' hb' hk => ?_⟩
      · rw [Heap.apply_nw, Heap.nx_new]; omega
      · rw [Heap.apply_nw, Heap.get_new_same, hw]
      · rw [Heap.apply_nw, Heap.nx_new]; omega
      · rw [Heap.apply_nw, Heap.get_new_ne _ _ (by omega), k2 _ (by omega)]
      · rw [Heap.apply_nw, Heap.get_new_ne _ _ (by omega), k2 _ (by omega)]
    · cases e
      refine ⟨_, _, _, e1, rfl, rfl, ⟨.inr ⟨h2.nx, by omega, ?_, by simp, ?_⟩⟩, ?_, fun b' hb' => ?_, fun b' hb' hk => ?_⟩
      · rw [Heap.apply_wr_nw, Heap.nx_new, Heap.nx_upd]; omega
      · rw [Heap.apply_wr_nw, Heap.get_new_at _ (by rw [Heap.nx_upd]; omega), hw]
      · rw [Heap.apply_wr_nw, Heap.nx_new, Heap.nx_upd]; omega
      · rw [Heap.apply_wr_nw, Heap.get_new_ne _ _ (by rw [Heap.nx_upd]; omega), Heap.get_upd_ne _ _ (by omega), k2 _ (by omega)]
      · rw [Heap.apply_wr_nw, Heap.get_new_ne _ _ (by rw [Heap.nx_upd]; omega), Heap.get_upd_ne _ _ (fun e => hk _ (by rw [e]; exact h5)), k2 _ (by omega)]
theorem conv_bytes {lo : Nat} {v : Value} {l : List UInt8} (x : BAt h lo v l) : effConv Tryz.prog 124 9 v h.get h.nx = ret (.string (mkS l)) := by
  obtain ⟨i, hi, hs, hby, hu, hz⟩ := st124
  rcases x.is with ⟨rfl, rfl⟩ | ⟨b, _, _, rfl, h4⟩
  · unfold effConv
    simp only [hu, show Tryz.prog.underlying 9 = some .string from by kernel_rfl, show Tryz.prog.underlying 5 = some (.int .u8) from by kernel_rfl]
    rfl
  · unfold effConv
    simp only [hu, show Tryz.prog.underlying 9 = some .string from by kernel_rfl, show Tryz.prog.underlying 5 = some (.int .u8) from by kernel_rfl, bytes_at h4, Option.bind_some]
end Go.Proofs.YtgdbknbgpkmncaaGreatDoor
end
section
/- Pipes: rings of 8 bytes. Conditions: the ring lies as the rules name. -/
namespace Go.Proofs.YtgdbknbgpkmncaaGreatDoor
open Go.AM
open Nat renaming reduceBEq → Za, reduceEqDiff → Zb, reduceAdd → Zc, reduceSub → Zd, reduceMul → Ze, reduceLT → Zf, reduceLeDiff → Zg, reduceDiv → Zh, reduceMod → Zi, reducePow → Zj
open Int renaming reduceAdd → Zk, reduceSub → Zl, reduceMul → Zm, reduceLT → Zn, reduceLE → Zo, reduceEq → Zp, reduceNe → Zq, reduceNeg → Zr, reduceToNat → Zs, reduceDiv → Zt, reduceMod → Zu, reducePow → Zv, cast_ofNat_Int → Zw
set_option linter.unusedSimpArgs false
variable {sp : Special} {h : Heap} {R : Out → Heap → Prop}
def ringV (arr : List UInt8) (fr n : Nat) : List Value := u8s arr ++ [.int .i64 (fr : Int), .int .i64 (n : Int)]
theorem ringV_len {arr : List UInt8} {fr n : Nat} (ha : arr.length = 8) : (ringV arr fr n).length = 10 := by unfold ringV; rw [List.length_append, u8s_len, ha]; rfl
theorem ringV_fr {arr : List UInt8} {fr n : Nat} (ha : arr.length = 8) : (ringV arr fr n)[8]? = some (.int .i64 (fr : Int)) := by
  unfold ringV
  rw [List.getElem?_append_right (by rw [u8s_len]; omega), u8s_len, ha]; rfl
theorem ringV_n {arr : List UInt8} {fr n : Nat} (ha : arr.length = 8) : (ringV arr fr n)[9]? = some (.int .i64 (n : Int)) := by
  unfold ringV
  rw [List.getElem?_append_right (by rw [u8s_len]; omega), u8s_len, ha]; rfl
theorem ringV_b {arr : List UInt8} {fr n i : Nat} {c : UInt8} (hc : arr[i]? = some c) : (ringV arr fr n)[i]? = some (.int .u8 (c.toNat : Int)) := by
  unfold ringV
  have hi := (List.getElem?_eq_some_iff.1 hc).1
  rw [List.getElem?_append_left (by rw [u8s_len]; exact hi)]
  unfold u8s
  rw [List.getElem?_map, hc]; rfl
theorem ringV_setn {arr : List UInt8} {fr n m : Nat} (ha : arr.length = 8) : (ringV arr fr n).set 9 (.int .i64 (m : Int)) = ringV arr fr m := by
  unfold ringV
  rw [List.set_append_right _ _ (by rw [u8s_len]; omega), u8s_len, ha]; rfl
theorem ringV_setf {arr : List UInt8} {fr n m : Nat} (ha : arr.length = 8) : (ringV arr fr n).set 8 (.int .i64 (m : Int)) = ringV arr m n := by
  unfold ringV
  rw [List.set_append_right _ _ (by rw [u8s_len]; omega), u8s_len, ha]; rfl
theorem ringV_setb {arr : List UInt8} {fr n i : Nat} {c : UInt8} (hi : i < arr.length) : (ringV arr fr n).set i (.int .u8 (c.toNat : Int)) = ringV (arr.set i c) fr n := by
  unfold ringV
  rw [List.set_append_left _ _ (by rw [u8s_len]; exact hi)]
  unfold u8s
  rw [List.map_set]
structure RingAt (h : Heap) (b : Nat) (q : List UInt8) : Prop where
  ex : ∃ arr fr, h.get b = some (cellsB (ringV arr fr q.length) .exact) ∧ arr.length = 8 ∧ fr < 8 ∧ q.length ≤ 8 ∧ ∀ i, i < q.length → arr[(fr + i) % 8]? = q[i]?
theorem RingAt.keep {h' : Heap} {b : Nat} {q : List UInt8} (x : RingAt h b q) (hk : h'.get b = h.get b) : RingAt h' b q := by
  obtain ⟨arr, fr, h1, h2⟩ := x.ex
  exact ⟨arr, fr, hk.trans h1, h2⟩
theorem RingAt.len {b : Nat} {q : List UInt8} (x : RingAt h b q) : q.length ≤ 8 := by
  obtain ⟨arr, fr, h1, h2, h3, h4, h5⟩ := x.ex
  exact h4
set_option maxRecDepth 100000 in
theorem rput_wf (s192 : (sp 192).isNone = true) {b : Nat} {q : List UInt8} (x : RingAt h b q) {c : UInt8} (h1 : q.length = 8 → R (.ret (.bool false)) h)
    (h2 : q.length < 8 → ∀ h', h'.nx = h.nx → RingAt h' b (q ++ [c]) → (∀ b', b' ≠ b → h'.get b' = h.get b') → R (.ret (.bool true)) h') : WF Tryz.prog 1 sp 192 [.pointer (some ⟨b, 0, none⟩), .int .u8 (c.toNat : Int)] h R := by
  obtain ⟨arr, fr, g, ha, hf, hq, hv⟩ := x.ex
  refine wf_fn (fn := Tryz.f192) s192 rfl (by kernel_rfl) rfl ?_
  have lr := ringV_len (fr := fr) (n := q.length) ha
  have ln := ringV_n (fr := fr) (n := q.length) ha
  have lf := ringV_fr (fr := fr) (n := q.length) ha
  by_cases hn : q.length = 8
  · have hn' : (q.length : Int) = 8 := by omega
    simp (disch := (first | omega | rfl | (simp only [Yn]; omega))) only [↓reduceIte, reduceCtorEq, Za, Zb, Zc, Zd, Ze, Zf, Zg, Zh, Zi, Zj, Zk, Zl, Zm, Zn, Zo, Zp, Zq, Zr, Zs, Zt, Zu, Zv, gval, Zw, rb0, rb1, rb2, rb3, rb4, tf0, tf1, tf2, tf3, tf4, tf5, tf6, Yk, Yh, overL_one, if_pos, stX_exactN, Tryz.f192, g, lr, ln, hn']
    exact h1 hn
  · have hn' : ¬ (q.length : Int) = 8 := by omega
    have wa : wrapF .i64 ((fr : Int) + (q.length : Int)) = ((fr + q.length : Nat) : Int) := by rw [wrapI (by omega) (by omega)]; omega
    have wm : ((fr + q.length : Nat) : Int).tmod 8 = (((fr + q.length) % 8 : Nat) : Int) := by rw [Int.tmod_eq_emod_of_nonneg (by omega)]; omega
    have wb : wrapF .i64 (((fr + q.length) % 8 : Nat) : Int) = (((fr + q.length) % 8 : Nat) : Int) := wrapI (by omega) (by omega)
    have hi : (fr + q.length) % 8 < 8 := Nat.mod_lt _ (by omega)
    have hi10 : (fr + q.length) % 8 < 10 := by omega
    have la2 : (arr.set ((fr + q.length) % 8) c).length = 8 := by rw [List.length_set]; exact ha
    have lr2 := ringV_len (fr := fr) (n := q.length) la2
    have ln2 := ringV_n (fr := fr) (n := q.length) la2
    have w1 : wrapF .i64 ((q.length : Int) + 1) = ((q.length + 1 : Nat) : Int) := by rw [wrapI (by omega) (by omega)]; omega
    simp (disch := (first | omega | rfl | (simp only [Yn]; omega))) only [↓reduceIte, reduceCtorEq, Za, Zb, Zc, Zd, Ze, Zf, Zg, Zh, Zi, Zj, Zk, Zl, Zm, Zn, Zo, Zp, Zq, Zr, Zs, Zt, Zu, Zv, gval, Zw, rb0, rb1, rb2, rb3, rb4, tf0, tf1, tf2, tf3, tf4, tf5, tf6, Yk, Yh, overL_one, if_pos, stX_exactN, Tryz.f192, g, lr, ln, hn']
    refine run_draw (ps := []) (by kernel_rfl) (by kernel_rfl) ?_
    simp (disch := (first | omega | rfl | (simp only [Yn]; omega))) only [↓reduceIte, reduceCtorEq, Za, Zb, Zc, Zd, Ze, Zf, Zg, Zh, Zi, Zj, Zk, Zl, Zm, Zn, Zo, Zp, Zq, Zr, Zs, Zt, Zu, Zv, gval, Zw, rb0, rb1, rb2, rb3, rb4, tf0, tf1, tf2, tf3, tf4, tf5, tf6, Yk, Yh, overL_one, if_pos, stX_exactN, g, lr, ln, lf, wa, wm, wb, hi, hi10, Nat.mul_one, Nat.zero_add, ringV_setb (fr := fr) (n := q.length) (c := c) (show (fr + q.length) % 8 < arr.length by omega), lr2, ln2, w1, ringV_setn la2]
    refine h2 (by omega) _ (Heap.nx_upd _ _ _) ⟨arr.set ((fr + q.length) % 8) c, fr, ?_, la2, hf, by rw [List.length_append, List.length_singleton]; omega, fun i hi2 => ?_⟩ fun b' hb' => Heap.get_upd_ne _ _ hb'
    · rw [Heap.get_upd_same, List.length_append, List.length_singleton]
    · rw [List.length_append, List.length_singleton] at hi2
      rw [List.getElem?_set]
      by_cases e : i = q.length
      · subst e
        rw [if_pos rfl, if_pos (by omega), List.getElem?_append_right (Nat.le_refl _), Nat.sub_self]; rfl
      · rw [if_neg (by omega), List.getElem?_append_left (by omega)]
        exact hv i (by omega)
set_option maxRecDepth 100000 in
theorem rtake_wf (s289 : (sp 289).isNone = true) {b : Nat} {q : List UInt8} (x : RingAt h b q) (h1 : q = [] → R (.ret (.tuple #[.int .u8 0, .bool false])) h)
    (h2 : ∀ c r, q = c :: r → ∀ h', h'.nx = h.nx → RingAt h' b r → (∀ b', b' ≠ b → h'.get b' = h.get b') → R (.ret (.tuple #[.int .u8 (c.toNat : Int), .bool true])) h') : WF Tryz.prog 1 sp 289 [.pointer (some ⟨b, 0, none⟩)] h R := by
  obtain ⟨arr, fr, g, ha, hf, hq, hv⟩ := x.ex
  refine wf_fn (fn := Tryz.f289) s289 rfl (by kernel_rfl) rfl ?_
  obtain ⟨n, hnq⟩ : ∃ n, q.length = n := ⟨_, rfl⟩
  rw [hnq] at g hq
  have lr := ringV_len (fr := fr) (n := n) ha
  have ln := ringV_n (fr := fr) (n := n) ha
  have lf := ringV_fr (fr := fr) (n := n) ha
  by_cases hn : n = 0
  · have hn' : (n : Int) = 0 := by omega
    simp (disch := (first | omega | rfl | (simp only [Yn]; omega))) only [↓reduceIte, reduceCtorEq, Za, Zb, Zc, Zd, Ze, Zf, Zg, Zh, Zi, Zj, Zk, Zl, Zm, Zn, Zo, Zp, Zq, Zr, Zs, Zt, Zu, Zv, gval, Zw, rb0, rb1, rb2, rb3, rb4, tf0, tf1, tf2, tf3, tf4, tf5, tf6, Yk, Yh, overL_one, if_pos, stX_exactN, Tryz.f289, g, lr, ln, hn']
    exact h1 (List.eq_nil_of_length_eq_zero (by omega))
  · obtain ⟨c, r, rfl⟩ : ∃ c r, q = c :: r := by
      cases q with
      | nil => exact absurd hnq.symm hn
      | cons c r => exact ⟨c, r, rfl⟩
    have hl : r.length + 1 = n := hnq
    have hn' : ¬ (n : Int) = 0 := by omega
    have hc : arr[fr]? = some c := by
      have := hv 0 (by omega)
      rw [Nat.add_zero, Nat.mod_eq_of_lt hf] at this
      exact this
    have hb := ringV_b (fr := fr) (n := n) hc
    have wa : wrapF .i64 ((fr : Int) + 1) = ((fr + 1 : Nat) : Int) := by rw [wrapI (by omega) (by omega)]; omega
    have wm : ((fr + 1 : Nat) : Int).tmod 8 = (((fr + 1) % 8 : Nat) : Int) := by rw [Int.tmod_eq_emod_of_nonneg (by omega)]; omega
    have wb : wrapF .i64 (((fr + 1) % 8 : Nat) : Int) = (((fr + 1) % 8 : Nat) : Int) := wrapI (by omega) (by omega)
    have w1 : wrapF .i64 ((n : Int) - 1) = (r.length : Int) := by rw [wrapI (by omega) (by omega)]; omega
    have hf10 : fr < 10 := by omega
    have lr2 := ringV_len (fr := (fr + 1) % 8) (n := n) ha
    have ln2 := ringV_n (fr := (fr + 1) % 8) (n := n) ha
    simp (disch := (first | omega | rfl | (simp only [Yn]; omega))) only [↓reduceIte, reduceCtorEq, Za, Zb, Zc, Zd, Ze, Zf, Zg, Zh, Zi, Zj, Zk, Zl, Zm, Zn, Zo, Zp, Zq, Zr, Zs, Zt, Zu, Zv, gval, Zw, rb0, rb1, rb2, rb3, rb4, tf0, tf1, tf2, tf3, tf4, tf5, tf6, Yk, Yh, overL_one, if_pos, stX_exactN, Tryz.f289, g, lr, ln, hn']
    refine run_draw (ps := []) (by kernel_rfl) (by kernel_rfl) ?_
    simp (disch := (first | omega | rfl | (simp only [Yn]; omega))) only [↓reduceIte, reduceCtorEq, Za, Zb, Zc, Zd, Ze, Zf, Zg, Zh, Zi, Zj, Zk, Zl, Zm, Zn, Zo, Zp, Zq, Zr, Zs, Zt, Zu, Zv, gval, Zw, rb0, rb1, rb2, rb3, rb4, tf0, tf1, tf2, tf3, tf4, tf5, tf6, Yk, Yh, overL_one, if_pos, stX_exactN, g, lr, ln, lf, hf, hf10, hb, wa, wm, wb, w1, Nat.mul_one, Nat.zero_add, ringV_setf ha, lr2, ln2, ringV_setn ha]
    refine h2 c r rfl _ (Heap.nx_upd _ _ _) ⟨arr, (fr + 1) % 8, ?_, ha, Nat.mod_lt _ (by omega), by omega, fun i hi2 => ?_⟩ fun b' hb' => Heap.get_upd_ne _ _ hb'
    · rw [Heap.get_upd_same]
    · have := hv (i + 1) (by omega)
      rw [List.getElem?_cons_succ] at this
      rw [← this]
      congr 1
      omega
structure PipesAt (h : Heap) (pb id rb : Nat) : Prop where
  ex : ∃ L K, h.get pb = some (cellsB L K) ∧ L.length = 16 ∧ L[id]? = some (.pointer (some ⟨rb, 0, none⟩)) ∧ id < 16 ∧ firm K = true
  rg : ∃ arr fr n, h.get rb = some (cellsB (ringV arr fr n) .exact)
theorem PipesAt.keep {h' : Heap} {pb id rb : Nat} (x : PipesAt h pb id rb) (h1 : h'.get pb = h.get pb) {q : List UInt8} (h2 : RingAt h' rb q) : PipesAt h' pb id rb := by
  obtain ⟨L, K, a⟩ := x.ex
  obtain ⟨arr, fr, b, _⟩ := h2.ex
  exact ⟨⟨L, K, h1.trans a.1, a.2⟩, ⟨arr, fr, _, b⟩⟩
set_option maxRecDepth 100000 in
theorem pat_wf (s287 : (sp 287).isNone = true) {pb id rb : Nat} (x : PipesAt h pb id rb) (hR : R (.ret (.pointer (some ⟨rb, 0, none⟩))) h) : WF Tryz.prog 1 sp 287 [.pointer (some ⟨pb, 0, none⟩), .int .i64 (id : Int)] h R := by
  obtain ⟨L, K, g, hl, hi, h16, _⟩ := x.ex
  refine wf_fn (fn := Tryz.f287) s287 rfl (by kernel_rfl) rfl ?_
  have c1 : ¬ (id : Int) < 0 := by omega
  have c2 : ¬ (16 : Int) ≤ (id : Int) := by omega
  simp (disch := (first | omega | rfl | (simp only [Yn]; omega))) only [↓reduceIte, reduceCtorEq, Za, Zb, Zc, Zd, Ze, Zf, Zg, Zh, Zi, Zj, Zk, Zl, Zm, Zn, Zo, Zp, Zq, Zr, Zs, Zt, Zu, Zv, gval, Zw, rb0, rb1, rb2, rb3, rb4, tf0, tf1, tf2, tf3, tf4, tf5, tf6, Yk, Yh, overL_one, if_pos, stX_exactN, Tryz.f287, g, hl, hi, c1, c2, h16, Nat.mul_one, Nat.zero_add]
  exact hR
end Go.Proofs.YtgdbknbgpkmncaaGreatDoor
end
section
/- Pipes: Put, Take. Conditions: the rings lie as the rules name. -/
namespace Go.Proofs.YtgdbknbgpkmncaaGreatDoor
open Go.AM
open Nat renaming reduceBEq → Za, reduceEqDiff → Zb, reduceAdd → Zc, reduceSub → Zd, reduceMul → Ze, reduceLT → Zf, reduceLeDiff → Zg, reduceDiv → Zh, reduceMod → Zi, reducePow → Zj
open Int renaming reduceAdd → Zk, reduceSub → Zl, reduceMul → Zm, reduceLT → Zn, reduceLE → Zo, reduceEq → Zp, reduceNe → Zq, reduceNeg → Zr, reduceToNat → Zs, reduceDiv → Zt, reduceMod → Zu, reducePow → Zv, cast_ofNat_Int → Zw
set_option linter.unusedSimpArgs false
variable {sp : Special} {h : Heap} {R : Out → Heap → Prop}
theorem take_succ' {α : Type} {l : List α} {i : Nat} {c : α} (hc : l[i]? = some c) : l.take (i + 1) = l.take i ++ [c] := by
  have hi := (List.getElem?_eq_some_iff.1 hc).1
  rw [List.take_add_one, hc]; rfl
set_option maxRecDepth 100000 in
set_option maxHeartbeats 1000000 in
theorem pput_wf (s1 : (sp 253).isNone = true) (s2 : (sp 287).isNone = true) (s3 : (sp 192).isNone = true) {pb id rb : Nat} (x : PipesAt h pb id rb) {q t : List UInt8} (y : RingAt h rb q) (hl : t.length < 9223372036854775807)
    (hR : ∀ h', h'.nx = h.nx → RingAt h' rb (q ++ t.take (8 - q.length)) → (∀ b', b' ≠ rb → h'.get b' = h.get b') → R (.ret (.int .i64 (min t.length (8 - q.length) : Nat))) h') : WF Tryz.prog 1 sp 253 [.pointer (some ⟨pb, 0, none⟩), .int .i64 (id : Int), .string (mkS t)] h R := by
  have hq8 := y.len
  refine wf_fn (fn := Tryz.f253) s1 rfl (by kernel_rfl) rfl ?_
  simp only [↓reduceIte, reduceCtorEq, Za, Zb, Zc, Zd, Ze, Zf, Zg, Zh, Zi, Zj, Zk, Zl, Zm, Zn, Zo, Zp, Zq, Zr, Zs, Zt, Zu, Zv, gval, Zw, rb0, rb1, rb2, rb3, rb4, tf0, tf1, tf2, tf3, tf4, tf5, tf6, Yk, Tryz.f253]
  refine runC_of (pat_wf s2 x ?_)
  simp only [↓reduceIte, reduceCtorEq, Za, Zb, Zc, Zd, Ze, Zf, Zg, Zh, Zi, Zj, Zk, Zl, Zm, Zn, Zo, Zp, Zq, Zr, Zs, Zt, Zu, Zv, gval, Zw, rb0, rb1, rb2, rb3, rb4, tf0, tf1, tf2, tf3, tf4, tf5, tf6, Yk]
  refine run_loop2 rfl (fun N e h' => ∃ i : Nat, N = t.length - i ∧ i ≤ t.length ∧ q.length + i ≤ 8 ∧ e.at 2 = .string (mkS t) ∧ e.at 7 = .pointer (some ⟨rb, 0, none⟩) ∧ e.at 8 = .int .i64 (i : Int) ∧ h'.nx = h.nx ∧ RingAt h' rb (q ++ t.take i) ∧ ∀ b', b' ≠ rb → h'.get b' = h.get b')
    (fun ex e h' => ex = .exit 0 ∧ e.at 8 = .int .i64 (min t.length (8 - q.length) : Nat) ∧ h'.nx = h.nx ∧ RingAt h' rb (q ++ t.take (8 - q.length)) ∧ ∀ b', b' ≠ rb → h'.get b' = h.get b') ?_ t.length _ _ ?_ ?_
  · rintro N e h2 ⟨i, rfl, hi, hq, e2, e7, e8, hn, hr, hk⟩ Q' hQn hQx
    obtain ⟨arr, fr, g2, _⟩ := hr.ex
    have lr : ∀ a b c, (ringV a b c).length = (ringV a b c).length := fun _ _ _ => rfl
    by_cases ht : i < t.length
    · have ht' : (i : Int) < (t.length : Int) := by omega
      obtain ⟨c, hc⟩ : ∃ c, t[i]? = some c := ⟨_, List.getElem?_eq_getElem ht⟩
      have hlen : (q ++ t.take i).length = q.length + i := by rw [List.length_append, List.length_take]; omega
      have w1 : wrapF .i64 ((i : Int) + 1) = ((i + 1 : Nat) : Int) := by rw [wrapI (by omega) (by omega)]; omega
      simp (disch := (first | omega | rfl | (simp only [Yn]; omega))) only [↓reduceIte, reduceCtorEq, Za, Zb, Zc, Zd, Ze, Zf, Zg, Zh, Zi, Zj, Zk, Zl, Zm, Zn, Zo, Zp, Zq, Zr, Zs, Zt, Zu, Zv, gval, Zw, rb0, rb1, rb2, rb3, rb4, tf0, tf1, tf2, tf3, tf4, tf5, tf6, Yk, Yh, overL_one, if_pos, stX_exactN, e2, e7, e8, mkS_size, ht', str_index tag_9 hc, g2]
      refine runC_of (rput_wf s3 hr (c := c) (fun hf => ?_) fun hf h3 n3 r3 k3 => ?_)
      · simp only [↓reduceIte, reduceCtorEq, Za, Zb, Zc, Zd, Ze, Zf, Zg, Zh, Zi, Zj, Zk, Zl, Zm, Zn, Zo, Zp, Zq, Zr, Zs, Zt, Zu, Zv, gval, Zw, rb0, rb1, rb2, rb3, rb4, tf0, tf1, tf2, tf3, tf4, tf5, tf6, Yk]
        have h8 : i = 8 - q.length := by omega
        exact hQx _ _ _ (by simp) ⟨rfl, by simp only [Za, Zw, Ye, e8]; rw [Nat.min_eq_right (by omega), h8], hn, by rw [← h8]; exact hr, hk⟩
      · simp only [↓reduceIte, reduceCtorEq, Za, Zb, Zc, Zd, Ze, Zf, Zg, Zh, Zi, Zj, Zk, Zl, Zm, Zn, Zo, Zp, Zq, Zr, Zs, Zt, Zu, Zv, gval, Zw, rb0, rb1, rb2, rb3, rb4, tf0, tf1, tf2, tf3, tf4, tf5, tf6, Yk, w1, e8]
        refine hQn _ _ _ (by omega) ⟨i + 1, rfl, by omega, by omega, by simp only [Za, Zw, Ye, e2], by simp only [Za, Zw, Ye, e7], by simp only [Za, Zw, Ye], by omega, ?_, fun b' hb' => by rw [k3 b' hb']; exact hk b' hb'⟩
        rw [take_succ' hc, ← List.append_assoc]; exact r3
    · have ht' : ¬ (i : Int) < (t.length : Int) := by omega
      simp (disch := (first | omega | rfl | (simp only [Yn]; omega))) only [↓reduceIte, reduceCtorEq, Za, Zb, Zc, Zd, Ze, Zf, Zg, Zh, Zi, Zj, Zk, Zl, Zm, Zn, Zo, Zp, Zq, Zr, Zs, Zt, Zu, Zv, gval, Zw, rb0, rb1, rb2, rb3, rb4, tf0, tf1, tf2, tf3, tf4, tf5, tf6, Yk, Yh, overL_one, if_pos, stX_exactN, e2, e7, e8, mkS_size, ht', g2, runG_undef]
      have hi2 : i = t.length := by omega
      refine hQx _ _ _ (by simp) ⟨rfl, by simp only [Za, Zw, Ye, e8]; rw [Nat.min_eq_left (by omega), hi2], hn, ?_, hk⟩
      rw [List.take_of_length_le (by omega)]
      rw [hi2, List.take_length] at hr; exact hr
  · exact ⟨0, rfl, by omega, by omega, by simp only [Za, Zw, Ye], by simp only [Za, Zw, Ye], by simp only [Za, Zw, Ye], rfl, by rw [List.take_zero, List.append_nil]; exact y, fun _ _ => rfl⟩
  · rintro ex e h2 - ⟨rfl, e8, hn, hr, hk⟩
    simp only [↓reduceIte, reduceCtorEq, Za, Zb, Zc, Zd, Ze, Zf, Zg, Zh, Zi, Zj, Zk, Zl, Zm, Zn, Zo, Zp, Zq, Zr, Zs, Zt, Zu, Zv, gval, Zw, rb0, rb1, rb2, rb3, rb4, tf0, tf1, tf2, tf3, tf4, tf5, tf6, Yk, e8]
    exact hR h2 hn hr hk
set_option maxRecDepth 100000 in
set_option maxHeartbeats 1000000 in
theorem ptake_wf (s1 : (sp 251).isNone = true) (s2 : (sp 287).isNone = true) (s3 : (sp 289).isNone = true) {pb id rb : Nat} (x : PipesAt h pb id rb) {q : List UInt8} (y : RingAt h rb q) (hrb : rb < h.nx) {n : Nat} (hn : n ≤ 128)
    (hR : ∀ h', h.nx ≤ h'.nx → RingAt h' rb (q.drop n) → (∀ b', b' < h.nx → b' ≠ rb → h'.get b' = h.get b') → R (.ret (.string (mkS (q.take n)))) h') : WF Tryz.prog 1 sp 251 [.pointer (some ⟨pb, 0, none⟩), .int .i64 (id : Int), .int .i64 (n : Int)] h R := by
  have hq8 := y.len
  refine wf_fn (fn := Tryz.f251) s1 rfl (by kernel_rfl) rfl ?_
  simp only [↓reduceIte, reduceCtorEq, Za, Zb, Zc, Zd, Ze, Zf, Zg, Zh, Zi, Zj, Zk, Zl, Zm, Zn, Zo, Zp, Zq, Zr, Zs, Zt, Zu, Zv, gval, Zw, rb0, rb1, rb2, rb3, rb4, tf0, tf1, tf2, tf3, tf4, tf5, tf6, Yk, Tryz.f251]
  refine runC_of (pat_wf s2 x ?_)
  simp only [↓reduceIte, reduceCtorEq, Za, Zb, Zc, Zd, Ze, Zf, Zg, Zh, Zi, Zj, Zk, Zl, Zm, Zn, Zo, Zp, Zq, Zr, Zs, Zt, Zu, Zv, gval, Zw, rb0, rb1, rb2, rb3, rb4, tf0, tf1, tf2, tf3, tf4, tf5, tf6, Yk]
  refine run_loop2 rfl (fun N e h' => ∃ (i : Nat) (v : Value), N = n - i ∧ i ≤ n ∧ i ≤ q.length ∧ e.at 2 = .int .i64 (n : Int) ∧ e.at 7 = .pointer (some ⟨rb, 0, none⟩) ∧ e.at 8 = v ∧ BAt h' h.nx v (q.take i) ∧ h.nx ≤ h'.nx ∧ RingAt h' rb (q.drop i) ∧ ∀ b', b' < h.nx → b' ≠ rb → h'.get b' = h.get b')
    (fun ex e h' => ex = .exit 0 ∧ ∃ v, e.at 8 = v ∧ BAt h' h.nx v (q.take n) ∧ h.nx ≤ h'.nx ∧ RingAt h' rb (q.drop n) ∧ ∀ b', b' < h.nx → b' ≠ rb → h'.get b' = h.get b') ?_ n _ _ ?_ ?_
  · rintro N e h2 ⟨i, v, rfl, hi, hiq, e2, e7, e8, hv, hn2, hr, hk⟩ Q' hQn hQx
    obtain ⟨arr, fr, g2, _⟩ := hr.ex
    have hvl : ∃ a, v = .slice a i i := by
      rcases hv.is with ⟨rfl, h0⟩ | ⟨b, _, _, rfl, _⟩
      · have : i = 0 := by have := congrArg List.length h0; rw [List.length_take, Nat.min_eq_left hiq] at this; exact this
        exact ⟨none, by rw [this]⟩
      · exact ⟨_, by rw [List.length_take, Nat.min_eq_left hiq]⟩
    obtain ⟨va, rfl⟩ := hvl
    by_cases ht : i < n
    · have ht' : (i : Int) < (n : Int) := by omega
      simp (disch := (first | omega | rfl | (simp only [Yn]; omega))) only [↓reduceIte, reduceCtorEq, Za, Zb, Zc, Zd, Ze, Zf, Zg, Zh, Zi, Zj, Zk, Zl, Zm, Zn, Zo, Zp, Zq, Zr, Zs, Zt, Zu, Zv, gval, Zw, rb0, rb1, rb2, rb3, rb4, tf0, tf1, tf2, tf3, tf4, tf5, tf6, Yk, Yh, overL_one, if_pos, stX_exactN, e2, e7, e8, ht', g2]
      refine runC_of (rtake_wf s3 hr (fun hf => ?_) fun c r hf h3 n3 r3 k3 => ?_)
      · simp only [↓reduceIte, reduceCtorEq, Za, Zb, Zc, Zd, Ze, Zf, Zg, Zh, Zi, Zj, Zk, Zl, Zm, Zn, Zo, Zp, Zq, Zr, Zs, Zt, Zu, Zv, gval, Zw, rb0, rb1, rb2, rb3, rb4, tf0, tf1, tf2, tf3, tf4, tf5, tf6, Yk]
        have h8 : i = q.length := by have := congrArg List.length hf; rw [List.length_drop] at this; simp at this; omega
        refine hQx _ _ _ (by simp) ⟨rfl, .slice va i i, by simp only [Za, Zw, Ye, e8], ?_, hn2, ?_, hk⟩
        · rw [List.take_of_length_le (by omega)]; rw [h8, List.take_length] at hv; rw [h8]; exact hv
        · rw [List.drop_eq_nil_of_le (by omega), ← hf]; exact hr
      · have hc : q[i]? = some c := by
          have := List.getElem?_drop (xs := q) (i := i) (j := 0)
          rw [hf] at this; simp at this; exact this.symm
        have hil : i < q.length := (List.getElem?_eq_some_iff.1 hc).1
        have hv3 : BAt h3 h.nx (.slice va i i) (q.take i) := hv.keep (by omega) fun b' w1 w2 => k3 _ (by omega)
        obtain ⟨Ef, h6, vw, a1, a2, a3, a4, a5, a6, a7⟩ := growB hv3 (by omega) c (by rw [List.length_take]; omega)
        simp (disch := (first | omega | rfl | (simp only [Yn]; omega))) only [↓reduceIte, reduceCtorEq, Za, Zb, Zc, Zd, Ze, Zf, Zg, Zh, Zi, Zj, Zk, Zl, Zm, Zn, Zo, Zp, Zq, Zr, Zs, Zt, Zu, Zv, gval, Zw, rb0, rb1, rb2, rb3, rb4, tf0, tf1, tf2, tf3, tf4, tf5, tf6, Yk, Yh, overL_one, if_pos, stX_exactN, e8, bs1_124, a1, a2, a3]
        refine hQn _ _ _ (by omega) ⟨i + 1, vw, rfl, by omega, by omega, by simp only [Za, Zw, Ye, e2], by simp only [Za, Zw, Ye, e7], by simp only [Za, Zw, Ye], ?_, by omega, ?_, fun b' w1 w2 => by rw [a6 _ w1, k3 _ w2]; exact hk b' w1 w2⟩
        · rw [take_succ' hc]; exact a4
        · have : q.drop (i + 1) = r := by rw [← List.drop_drop, hf]; rfl
          rw [this]
          exact r3.keep (a6 _ hrb)
    · have ht' : ¬ (i : Int) < (n : Int) := by omega
      have hin : i = n := by omega
      subst hin
      simp (disch := (first | omega | rfl | (simp only [Yn]; omega))) only [↓reduceIte, reduceCtorEq, Za, Zb, Zc, Zd, Ze, Zf, Zg, Zh, Zi, Zj, Zk, Zl, Zm, Zn, Zo, Zp, Zq, Zr, Zs, Zt, Zu, Zv, gval, Zw, rb0, rb1, rb2, rb3, rb4, tf0, tf1, tf2, tf3, tf4, tf5, tf6, Yk, Yh, overL_one, if_pos, stX_exactN, e2, e7, e8, ht', g2, runG_undef]
      exact hQx _ _ _ (by simp) ⟨rfl, .slice va i i, by simp only [Za, Zw, Ye, e8], hv, hn2, hr, hk⟩
  · exact ⟨0, .slice none 0 0, rfl, by omega, by omega, by simp only [Za, Zw, Ye], by simp only [Za, Zw, Ye], by simp only [Za, Zw, Ye], ⟨.inl ⟨rfl, by rw [List.take_zero]⟩⟩, Nat.le_refl _, by rw [List.drop_zero]; exact y, fun _ _ _ => rfl⟩
  · rintro ex e h2 - ⟨rfl, v, e8, hv, hn2, hr, hk⟩
    simp only [↓reduceIte, reduceCtorEq, Za, Zb, Zc, Zd, Ze, Zf, Zg, Zh, Zi, Zj, Zk, Zl, Zm, Zn, Zo, Zp, Zq, Zr, Zs, Zt, Zu, Zv, gval, Zw, rb0, rb1, rb2, rb3, rb4, tf0, tf1, tf2, tf3, tf4, tf5, tf6, Yk, e8, conv_bytes hv]
    exact hR h2 hn2 hr hk
end Go.Proofs.YtgdbknbgpkmncaaGreatDoor
end
section
/- The awake of layer 22 gives true: once, then a special. No condition. -/
namespace Go.Proofs.YtgdbknbgpkmncaaGreatDoor
open Go.AM
set_option maxRecDepth 100000 in
theorem aw22q : isTrue (acallQ Tryz.prog (0 + 1) trySp 3000 60 41 [] H0) = true := by kernel_rfl
theorem aw22 : isTrue (clA 41 [] H0) = true := by
  have h := aw22q
  rw [acallQ_eq] at h; exact h
end Go.Proofs.YtgdbknbgpkmncaaGreatDoor
end
section
/- The core behind a pipe's making: its blocks; what is open, run once for each. Conditions: the blocks lie as the rules name. -/
namespace Go.Proofs.YtgdbknbgpkmncaaGreatDoor
open Go.AM
open Nat renaming reduceBEq → Za, reduceEqDiff → Zb, reduceAdd → Zc, reduceSub → Zd, reduceMul → Ze, reduceLT → Zf, reduceLeDiff → Zg, reduceDiv → Zh, reduceMod → Zi, reducePow → Zj
open Int renaming reduceAdd → Zk, reduceSub → Zl, reduceMul → Zm, reduceLT → Zn, reduceLE → Zo, reduceEq → Zp, reduceNe → Zq, reduceNeg → Zr, reduceToNat → Zs, reduceDiv → Zt, reduceMod → Zu, reducePow → Zv, cast_ofNat_Int → Zw
set_option linter.unusedSimpArgs false
variable {h : Heap} {R : Out → Heap → Prop}
abbrev pT (b : Nat) : Value := .pointer (some ⟨b, 0, none⟩)
abbrev iI (n : Int) : Value := .int .i64 n
def fdsL (B : Bool) : List Value := bif B then [pT 216, pT 225, pT 236, pT 325] ++ List.replicate 44 (.pointer none) else [pT 216, pT 225, pT 236, pT 325, pT 340] ++ List.replicate 43 (.pointer none)
def fileV (k : Int) (r : Int) : List Value := [iI k, iI 0, iI 0, .bool false, iI r]
def coreL : List Value := [pT 2, pT 3, pT 4, pT 22]
noncomputable def litBlk (B : Bool) (b : Nat) : Blk :=
  bif Nat.beq b 2 then .cells (ofList (fdsL B)) 48 .ro else bif Nat.beq b 23 then .cells (ofList coreL) 4 .ro else bif Nat.beq b 216 || (Nat.beq b 225 || Nat.beq b 236) then .cells (ofList (fileV 1 1)) 5 .exact else bif Nat.beq b 325 then .cells (ofList (fileV 3 1)) 5 .exact
  else bif Nat.beq b 340 && !B then .cells (ofList (fileV 4 1)) 5 .exact else .dead
noncomputable def lit (B : Bool) : Heap := listHeap ((List.range 358).map (litBlk B))
theorem lit_get (B : Bool) (b : Nat) (hb : b < 358) : (lit B).get b = some (litBlk B b) := by
  unfold lit
  rw [listHeap_get, List.getElem?_map, List.getElem?_range hb]; rfl
theorem lit_lt {B : Bool} {b : Nat} {x : Blk} (hx : (lit B).get b = some x) : b < 358 := by
  unfold lit at hx
  rw [listHeap_get, List.getElem?_map] at hx
  obtain ⟨y, h1, _⟩ := Option.map_eq_some_iff.1 hx
  have := (List.getElem?_eq_some_iff.1 h1).1
  simpa using this
structure St (h : Heap) (B : Bool) (q : List UInt8) : Prop where
  tb : h.get 0 = some (tabBlk .u8 tab)
  g1 : h.get 2 = some (cellsB (fdsL B) .exact)
  g2 : h.get 3 = some (cellsB (pT 322 :: List.replicate 15 (.pointer none)) .exact)
  g20 : h.get 21 = some (.map [(iI 1, pT 215, 0)] 1)
  g21 : h.get 22 = some (cellsB [.map (some 21)] .exact)
  g22 : h.get 23 = some (cellsB coreL .exact)
  g167 : h.get 168 = some (cellsB [pT 23, pT 25, pT 46, pT 47] .exact)
  g214 : h.get 215 = some (cellsB [.bool false, iI 0, iI 0] .exact)
  g215 : h.get 216 = some (cellsB (fileV 1 1) .exact)
  g224 : h.get 225 = some (cellsB (fileV 1 1) .exact)
  g235 : h.get 236 = some (cellsB (fileV 1 1) .exact)
  g324 : h.get 325 = some (cellsB (fileV 3 1) .exact)
  g339 : h.get 340 = some (cellsB (fileV 4 (bif B then 0 else 1)) .exact)
  rg : RingAt h 322 q
  nx : 358 ≤ h.nx
theorem St.keep {h' : Heap} {B : Bool} {q q' : List UInt8} (x : St h B q) (hn : h.nx ≤ h'.nx) (hk : ∀ b, b < h.nx → b ≠ 322 → h'.get b = h.get b) (hr : RingAt h' 322 q') : St h' B q' := by
  have n := x.nx
  exact ⟨(hk _ (by omega) (by omega)).trans x.tb, (hk _ (by omega) (by omega)).trans x.g1, (hk _ (by omega) (by omega)).trans x.g2, (hk _ (by omega) (by omega)).trans x.g20, (hk _ (by omega) (by omega)).trans x.g21, (hk _ (by omega) (by omega)).trans x.g22, (hk _ (by omega) (by omega)).trans x.g167,
    (hk _ (by omega) (by omega)).trans x.g214, (hk _ (by omega) (by omega)).trans x.g215, (hk _ (by omega) (by omega)).trans x.g224, (hk _ (by omega) (by omega)).trans x.g235, (hk _ (by omega) (by omega)).trans x.g324, (hk _ (by omega) (by omega)).trans x.g339, hr, by omega⟩
theorem St.keep' {h' : Heap} {B : Bool} {q : List UInt8} (x : St h B q) (hn : h.nx ≤ h'.nx) (hk : ∀ b, b < h.nx → h'.get b = h.get b) : St h' B q := x.keep hn (fun b hb _ => hk b hb) (x.rg.keep (hk _ (by have := x.nx; omega)))
theorem St.pipes {B : Bool} {q : List UInt8} (x : St h B q) : PipesAt h 3 0 322 := by
  obtain ⟨arr, fr, g, _⟩ := x.rg.ex
  exact ⟨⟨_, _, x.g2, rfl, rfl, by omega, rfl⟩, ⟨arr, fr, _, g⟩⟩
theorem St.agree {B : Bool} {q : List UInt8} (x : St h B q) : Agree (lit B) h := by
  intro b xs n kd hb
  have hlt := lit_lt hb
  rw [lit_get B b hlt] at hb
  have hb := Option.some.inj hb
  unfold litBlk at hb
  by_cases e1 : b = 2
  · subst e1
    rw [show Nat.beq 2 2 = true from rfl, cond_true] at hb
    cases hb; exact ⟨.exact, by cases B <;> exact x.g1, fun q => absurd rfl q⟩
  rw [show Nat.beq b 2 = false from by rw [← Bool.not_eq_true, Nat.beq_eq]; exact e1, cond_false] at hb
  by_cases e2 : b = 23
  · subst e2
    rw [show Nat.beq 23 23 = true from rfl, cond_true] at hb
    cases hb; exact ⟨.exact, x.g22, fun q => absurd rfl q⟩
  rw [show Nat.beq b 23 = false from by rw [← Bool.not_eq_true, Nat.beq_eq]; exact e2, cond_false] at hb
  by_cases e3 : b = 216
  · subst e3
    rw [show Nat.beq 216 216 = true from rfl, Bool.true_or, cond_true] at hb
    cases hb; exact ⟨.exact, x.g215, fun _ => rfl⟩
  rw [show Nat.beq b 216 = false from by rw [← Bool.not_eq_true, Nat.beq_eq]; exact e3, Bool.false_or] at hb
  by_cases e4 : b = 225
  · subst e4
    rw [show Nat.beq 225 225 = true from rfl, Bool.true_or, cond_true] at hb
    cases hb; exact ⟨.exact, x.g224, fun _ => rfl⟩
  rw [show Nat.beq b 225 = false from by rw [← Bool.not_eq_true, Nat.beq_eq]; exact e4, Bool.false_or] at hb
  by_cases e5 : b = 236
  · subst e5
    rw [show Nat.beq 236 236 = true from rfl, cond_true] at hb
    cases hb; exact ⟨.exact, x.g235, fun _ => rfl⟩
  rw [show Nat.beq b 236 = false from by rw [← Bool.not_eq_true, Nat.beq_eq]; exact e5, cond_false] at hb
  by_cases e6 : b = 325
  · subst e6
    rw [show Nat.beq 325 325 = true from rfl, cond_true] at hb
    cases hb; exact ⟨.exact, x.g324, fun _ => rfl⟩
  rw [show Nat.beq b 325 = false from by rw [← Bool.not_eq_true, Nat.beq_eq]; exact e6, cond_false] at hb
  cases B with
  | true =>
    rw [Bool.not_true, Bool.and_false, cond_false] at hb
    cases hb
  | false =>
    by_cases e7 : b = 340
    · subst e7
      rw [show Nat.beq 340 340 = true from rfl] at hb
      cases hb; exact ⟨.exact, x.g339, fun _ => rfl⟩
    rw [show Nat.beq b 340 = false from by rw [← Bool.not_eq_true, Nat.beq_eq]; exact e7] at hb
    cases hb
theorem St.not {q : List UInt8} (x : St h true q) : ¬ Agree (lit false) h := by
  intro ha
  obtain ⟨k, hk, _⟩ := ha 2 (ofList (fdsL false)) 48 .ro (by rw [lit_get _ _ (by omega)]; rfl)
  rw [x.g1] at hk
  have hk := Option.some.inj hk
  unfold cellsB at hk
  injection hk with h1 _ _
  have h2 := congrArg (fun t => Trie.get t 4) h1
  simp only [get_ofList] at h2
  cases h2
/- ## run once -/
noncomputable def isB (H : Heap) (b : Bool) (r : Option (Out × Heap)) : Bool := match r with
  | some (.ret (.bool c), H1) => (c == b) && keptOk H H1 358
  | _ => false
noncomputable def isN (H : Heap) (r : Option (Out × Heap)) : Bool := match r with
  | some (.ret (.slice none 0 0), H1) => keptOk H H1 358
  | _ => false
theorem isB_eq {H : Heap} {b : Bool} {r : Option (Out × Heap)} (h : isB H b r = true) : ∃ H1, r = some (.ret (.bool b), H1) ∧ keptOk H H1 358 = true := by
  unfold isB at h
  split at h
  · rename_i c H1
    rw [Bool.and_eq_true] at h
    exact ⟨H1, by rw [eq_of_beq h.1], h.2⟩
  · cases h
theorem isN_eq {H : Heap} {r : Option (Out × Heap)} (h : isN H r = true) : ∃ H1, r = some (.ret (.slice none 0 0), H1) ∧ keptOk H H1 358 = true := by
  unfold isN at h
  split at h
  · exact ⟨_, rfl, h⟩
  · cases h
noncomputable abbrev clT : Caller := acallQ Tryz.prog (0 + 1) trySp 3000 60
theorem clT_ok : CallOk Tryz.prog (0 + 1) clT := by rw [show clT = clA from acallQ_eq ..]; exact clA_ok
set_option maxRecDepth 100000 in
theorem lit_ok (B : Bool) : shutOk (lit B) 358 = true := by cases B <;> kernel_rfl
set_option maxRecDepth 100000 in
theorem o3A : isB (lit false) true (clT 247 [pT 23, iI 3, iI 0] (lit false)) = true := by kernel_rfl
set_option maxRecDepth 100000 in
theorem o4A : isB (lit false) true (clT 247 [pT 23, iI 4, iI 0] (lit false)) = true := by kernel_rfl
set_option maxRecDepth 100000 in
theorem o3B : isB (lit true) true (clT 247 [pT 23, iI 3, iI 0] (lit true)) = true := by kernel_rfl
set_option maxRecDepth 100000 in
theorem o4B : isB (lit true) false (clT 247 [pT 23, iI 4, iI 0] (lit true)) = true := by kernel_rfl
set_option maxRecDepth 100000 in
theorem idA : isN (lit false) (clT 177 [pT 2, iI 2] (lit false)) = true := by kernel_rfl
set_option maxRecDepth 100000 in
theorem idB : isN (lit true) (clT 177 [pT 2, iI 2] (lit true)) = true := by kernel_rfl
noncomputable def vo (k : Int) (B r : Bool) : Shut := ⟨[pT 23, iI k, iI 0], lit B, .bool r, none⟩
noncomputable def vi (B : Bool) : Shut := ⟨[pT 2, iI 2], lit B, .slice none 0 0, none⟩
theorem ref22 (B : Bool) : refOk (lit B).get (pT 23) = true := by show ((lit B).get 23).isSome = true; rw [lit_get _ _ (by omega)]; rfl
theorem ref1 (B : Bool) : refOk (lit B).get (pT 2) = true := by show ((lit B).get 2).isSome = true; rw [lit_get _ _ (by omega)]; rfl
theorem vo_ok {k : Int} {B r : Bool} (hr : isB (lit B) r (clT 247 [pT 23, iI k, iI 0] (lit B)) = true) : (vo k B r).ok clT 247 (0 + 1) 358 := by
  obtain ⟨H1, h1, h2⟩ := isB_eq hr
  refine ⟨listHeap_wf _, lit_ok B, rfl, ?_, H1, h1, h2, rfl⟩
  show (refOk (lit B).get (pT 23) && (true && (true && true))) = true
  rw [ref22]; rfl
theorem vi_ok {B : Bool} (hr : isN (lit B) (clT 177 [pT 2, iI 2] (lit B)) = true) : (vi B).ok clT 177 (0 + 1) 358 := by
  obtain ⟨H1, h1, h2⟩ := isN_eq hr
  refine ⟨listHeap_wf _, lit_ok B, rfl, ?_, H1, h1, h2, rfl⟩
  show (refOk (lit B).get (pT 2) && (true && true)) = true
  rw [ref1]; rfl
noncomputable def Lo : List Shut := [vo 3 false true, vo 4 false true, vo 3 true true, vo 4 true false]
noncomputable def Li : List Shut := [vi false, vi true]
noncomputable abbrev spP : Special := orSpec (oneSpec 247 (shutF Tryz.prog (0 + 1) 247 Lo)) (orSpec (oneSpec 177 (shutF Tryz.prog (0 + 1) 177 Li)) (orSpec (oneSpec 41 (trueF 0 .u8 tab)) trySp))
theorem spP_ok : SpecOk Tryz.prog (0 + 1) spP :=
  orSpec_ok (oneSpec_ok fun cl hcl => shutF_ok (by kernel_rfl) clT_ok (fun x hx => by
    have : x = vo 3 false true ∨ x = vo 4 false true ∨ x = vo 3 true true ∨ x = vo 4 true false := by simpa [Lo] using hx
    rcases this with rfl | rfl | rfl | rfl
    · exact vo_ok o3A
    · exact vo_ok o4A
    · exact vo_ok o3B
    · exact vo_ok o4B) cl hcl)
  (orSpec_ok (oneSpec_ok fun cl hcl => shutF_ok (by kernel_rfl) clT_ok (fun x hx => by
    have : x = vi false ∨ x = vi true := by simpa [Li] using hx
    rcases this with rfl | rfl
    · exact vi_ok idA
    · exact vi_ok idB) cl hcl)
  (orSpec_ok (oneSpec_ok fun cl _ => trueF_ok clA_ok aw22 cl) trySp_ok))
set_option maxRecDepth 100000 in
theorem self_ok (B : Bool) : selfOk (lit B) = true := by cases B <;> kernel_rfl
theorem St.nB {q : List UInt8} (x : St h true q) (b : Bool) : (b && agreeB (lit false) h) = false := agreeB_not (listHeap_wf _) x.not b
set_option maxRecDepth 10000 in
theorem open_wf {B : Bool} {q : List UInt8} (x : St h B q) {k : Int} {r : Bool} (hk : (k = 3 ∧ r = true) ∨ (k = 4 ∧ r = !B)) (hR : R (.ret (.bool r)) h) : WF Tryz.prog 1 spP 247 [pT 23, iI k, iI 0] h R := by
  refine shut_wf (l := Lo) (o := (.ret (.bool r), h)) rfl ?_ hR
  cases B with
  | false =>
    rcases hk with ⟨rfl, rfl⟩ | ⟨rfl, rfl⟩
    · exact shutF_here (x := vo 3 false true) (by kernel_rfl) (self_ok _) x.agree
    · exact fun c => shutF_next (by rw [show beqL 100 (vo 3 false true).args [pT 23, iI 4, iI 0] = false from by kernel_rfl]; rfl) (shutF_here (x := vo 4 false true) (by kernel_rfl) (self_ok _) x.agree)
  | true =>
    rcases hk with ⟨rfl, rfl⟩ | ⟨rfl, rfl⟩
    · exact fun c => shutF_next (x.nB _) fun c => shutF_next (x.nB _) (shutF_here (x := vo 3 true true) (by kernel_rfl) (self_ok _) x.agree)
    · exact fun c => shutF_next (x.nB _) fun c => shutF_next (x.nB _) fun c => shutF_next (by rw [show beqL 100 (vo 3 true true).args [pT 23, iI 4, iI 0] = false from by kernel_rfl]; rfl) (shutF_here (x := vo 4 true false) (by kernel_rfl) (self_ok _) x.agree)
set_option maxRecDepth 10000 in
theorem ids_wf {B : Bool} {q : List UInt8} (x : St h B q) (hR : R (.ret (.slice none 0 0)) h) : WF Tryz.prog 1 spP 177 [pT 2, iI 2] h R := by
  refine shut_wf (l := Li) (o := (.ret (.slice none 0 0), h)) rfl ?_ hR
  cases B with
  | false => exact shutF_here (x := vi false) (by kernel_rfl) (self_ok _) x.agree
  | true => exact fun c => shutF_next (x.nB _) (shutF_here (x := vi true) (by kernel_rfl) (self_ok _) x.agree)
theorem aw_wf (ht : h.get 0 = some (tabBlk .u8 tab)) (hR : R (.ret (.bool true)) h) : WF Tryz.prog 1 spP 41 [] h R := by
  refine ⟨.ret (.bool true), h, ⟨1, fun fu d h1 h2 => ?_⟩, hR⟩
  obtain ⟨d, rfl⟩ : ∃ k, d = k + 1 := ⟨d - 1, by omega⟩
  show cond (beqB (h.get 0) (some (tabBlk .u8 tab))) (some (Out.ret (.bool true), h)) none = _
  rw [ht]
  have : beqB (some (tabBlk .u8 tab)) (some (tabBlk .u8 tab)) = true := by kernel_rfl
  rw [this]; rfl
end Go.Proofs.YtgdbknbgpkmncaaGreatDoor
end
section
/- The core behind a pipe's making: who lives, what a descriptor is. Conditions: the blocks lie as the rules name. -/
namespace Go.Proofs.YtgdbknbgpkmncaaGreatDoor
open Go.AM
open Nat renaming reduceBEq → Za, reduceEqDiff → Zb, reduceAdd → Zc, reduceSub → Zd, reduceMul → Ze, reduceLT → Zf, reduceLeDiff → Zg, reduceDiv → Zh, reduceMod → Zi, reducePow → Zj
open Int renaming reduceAdd → Zk, reduceSub → Zl, reduceMul → Zm, reduceLT → Zn, reduceLE → Zo, reduceEq → Zp, reduceNe → Zq, reduceNeg → Zr, reduceToNat → Zs, reduceDiv → Zt, reduceMod → Zu, reducePow → Zv, cast_ofNat_Int → Zw
set_option linter.unusedSimpArgs false
variable {h : Heap} {R : Out → Heap → Prop} {B : Bool} {q : List UInt8}
set_option maxRecDepth 100000 in
theorem lk323 (r : Nat) (n : Int) (g : Nat → Option Blk) : effLookup Tryz.prog 323 (.map (some r)) (.int .i64 n) false g = lkX .i64 n (.pointer none) (g r) := u_lookup (kt := 3) (elem := 320) (by kernel_rfl) (by kernel_rfl) (by kernel_rfl) r n g
theorem St.lk (x : St h B q) : lkX .i64 1 (.pointer none) (h.get 21) = ret (pT 215) := by
  rw [x.g20]
  exact lkX_some .i64 1 (.pointer none) [(1, pT 215, 0)] 1
set_option maxRecDepth 100000 in
theorem live_wf (x : St h B q) (hR : R (.ret (.bool true)) h) : WF Tryz.prog 1 spP 96 [pT 23, iI 1] h R := by
  refine wf_fn (fn := Tryz.f96) rfl rfl (by kernel_rfl) rfl ?_
  have g22 := x.g22
  have g21 := x.g21
  have g214 := x.g214
  unfold coreL at g22
  simp (disch := (first | omega | rfl | (simp only [Yn]; omega))) only [↓reduceIte, reduceCtorEq, Za, Zb, Zc, Zd, Ze, Zf, Zg, Zh, Zi, Zj, Zk, Zl, Zm, Zn, Zo, Zp, Zq, Zr, Zs, Zt, Zu, Zv, gval, Zw, rb0, rb1, rb2, rb3, rb4, tf0, tf1, tf2, tf3, tf4, tf5, tf6, Yk, Yh, overL_one, if_pos, stX_exactN, Tryz.f96, g22]
  refine runC_of (wf_fn (fn := Tryz.f175) rfl rfl (by kernel_rfl) rfl ?_)
  simp (disch := (first | omega | rfl | (simp only [Yn]; omega))) only [↓reduceIte, reduceCtorEq, Za, Zb, Zc, Zd, Ze, Zf, Zg, Zh, Zi, Zj, Zk, Zl, Zm, Zn, Zo, Zp, Zq, Zr, Zs, Zt, Zu, Zv, gval, Zw, rb0, rb1, rb2, rb3, rb4, tf0, tf1, tf2, tf3, tf4, tf5, tf6, Yk, Yh, overL_one, if_pos, stX_exactN, Tryz.f175]
  refine runC_of (wf_fn (fn := Tryz.f232) rfl rfl (by kernel_rfl) rfl ?_)
  simp (disch := (first | omega | rfl | (simp only [Yn]; omega))) only [↓reduceIte, reduceCtorEq, Za, Zb, Zc, Zd, Ze, Zf, Zg, Zh, Zi, Zj, Zk, Zl, Zm, Zn, Zo, Zp, Zq, Zr, Zs, Zt, Zu, Zv, gval, Zw, rb0, rb1, rb2, rb3, rb4, tf0, tf1, tf2, tf3, tf4, tf5, tf6, Yk, Yh, overL_one, if_pos, stX_exactN, Tryz.f232, g21, lk323, x.lk]
  simp (disch := (first | omega | rfl | (simp only [Yn]; omega))) only [↓reduceIte, reduceCtorEq, Za, Zb, Zc, Zd, Ze, Zf, Zg, Zh, Zi, Zj, Zk, Zl, Zm, Zn, Zo, Zp, Zq, Zr, Zs, Zt, Zu, Zv, gval, Zw, rb0, rb1, rb2, rb3, rb4, tf0, tf1, tf2, tf3, tf4, tf5, tf6, Yk, Yh, overL_one, if_pos, stX_exactN, g214]
  exact hR
theorem St.keepX {h' : Heap} (x : St h B q) (hn : h.nx ≤ h'.nx) (hk : ∀ b, b < 358 → h'.get b = h.get b) : St h' B q := by
  have n := x.nx
  exact ⟨(hk _ (by omega)).trans x.tb, (hk _ (by omega)).trans x.g1, (hk _ (by omega)).trans x.g2, (hk _ (by omega)).trans x.g20, (hk _ (by omega)).trans x.g21, (hk _ (by omega)).trans x.g22, (hk _ (by omega)).trans x.g167,
    (hk _ (by omega)).trans x.g214, (hk _ (by omega)).trans x.g215, (hk _ (by omega)).trans x.g224, (hk _ (by omega)).trans x.g235, (hk _ (by omega)).trans x.g324, (hk _ (by omega)).trans x.g339, x.rg.keep (hk _ (by omega)), by omega⟩
theorem ifc380 (v : Value) : effIface Tryz.prog 380 v = ret (.iface 380 v) := by kernel_rfl
theorem ifc373 (v : Value) : effIface Tryz.prog 373 v = ret (.iface 373 v) := by kernel_rfl
theorem ifc23 (v : Value) : effIface Tryz.prog 23 v = ret (.iface 23 v) := by kernel_rfl
theorem as1 (v : Value) : effAssert Tryz.prog (.iface 373 v) 380 true = ret (.tuple #[.agg #[iI 0], .bool false]) := by kernel_rfl
theorem as2 (v : Value) : effAssert Tryz.prog (.iface 373 v) 378 true = ret (.tuple #[.agg #[iI 0, iI 0, iI 0, .bool false, iI 0], .bool false]) := by kernel_rfl
theorem as3 (v : Value) : effAssert Tryz.prog (.iface 373 v) 373 true = ret (.tuple #[v, .bool true]) := by kernel_rfl
theorem as4 (v : Value) : effAssert Tryz.prog (.iface 380 v) 373 true = ret (.tuple #[.agg #[iI 0], .bool false]) := by kernel_rfl
theorem as5 (v : Value) : effAssert Tryz.prog (.iface 380 v) 376 true = ret (.tuple #[.agg #[], .bool false]) := by kernel_rfl
theorem as6 (v : Value) : effAssert Tryz.prog (.iface 380 v) 378 true = ret (.tuple #[.agg #[iI 0, iI 0, iI 0, .bool false, iI 0], .bool false]) := by kernel_rfl
theorem as7 (v : Value) : effAssert Tryz.prog (.iface 380 v) 380 true = ret (.tuple #[v, .bool true]) := by kernel_rfl
theorem w0 : wrapF .i64 (0 : Int) = 0 := by decide
set_option maxRecDepth 100000 in
theorem fd_wf {a : Int} (ha : 0 ≤ a ∧ a ≤ 6) (hR : R (.ret (iI a)) h) : WF Tryz.prog 1 spP 180 [.int .u64 a] h R := by
  refine wf_fn (fn := Tryz.f180) rfl rfl (by kernel_rfl) rfl ?_
  have w : wrapF .i64 a = a := wrapI (by omega) (by omega)
  have c : ¬ (6 : Int) < a := by omega
  simp only [↓reduceIte, reduceCtorEq, Za, Zb, Zc, Zd, Ze, Zf, Zg, Zh, Zi, Zj, Zk, Zl, Zm, Zn, Zo, Zp, Zq, Zr, Zs, Zt, Zu, Zv, gval, Zw, rb0, rb1, rb2, rb3, rb4, tf0, tf1, tf2, tf3, tf4, tf5, tf6, Yk, Tryz.f180, c, w]
  exact hR
set_option maxRecDepth 100000 in
theorem what_wf (x : St h B q) {fd : Int} {b : Nat} {t : Nat} {k r : Int} (hfd : (fdsL B)[fd.toNat]? = some (pT b)) (h3 : fd = 3 ∨ fd = 4) (hb : h.get b = some (cellsB (fileV k r) .exact)) (hbn : b < 358) (hk : (k = 3 ∧ t = 380) ∨ (k = 4 ∧ t = 373))
    (hR : ∀ h', h.nx ≤ h'.nx → (∀ b, b < h.nx → h'.get b = h.get b) → R (.ret (.iface t (.agg #[iI 0]))) h') : WF Tryz.prog 1 spP 249 [pT 23, iI 1, iI fd] h R := by
  refine wf_fn (fn := Tryz.f249) rfl rfl (by kernel_rfl) rfl ?_
  have hnx := x.nx
  have g22 := x.g22
  have g1 := x.g1
  unfold coreL at g22
  unfold fileV at hb
  have ll : (fdsL B).length = 48 := by cases B <;> rfl
  obtain ⟨n, rfl⟩ : ∃ n : Nat, fd = n := ⟨fd.toNat, by omega⟩
  rw [Int.toNat_natCast] at hfd
  have c1 : ¬ (n : Int) < 0 := by omega
  have c2 : ¬ (6 : Int) ≤ (n : Int) := by omega
  have c3 : n < 48 := by omega
  have c4 : n < 6 := by omega
  have c5 : 0 * 6 + n = n := by omega
  simp (disch := (first | omega | rfl | (simp only [Yn]; omega))) only [↓reduceIte, reduceCtorEq, Za, Zb, Zc, Zd, Ze, Zf, Zg, Zh, Zi, Zj, Zk, Zl, Zm, Zn, Zo, Zp, Zq, Zr, Zs, Zt, Zu, Zv, gval, Zw, rb0, rb1, rb2, rb3, rb4, tf0, tf1, tf2, tf3, tf4, tf5, tf6, Yk, Yh, overL_one, if_pos, stX_exactN, Tryz.f249, g22]
  refine runC_of (wf_fn (fn := Tryz.f288) rfl rfl (by kernel_rfl) rfl ?_)
  simp (disch := (first | omega | rfl | (simp only [Yn]; omega))) only [↓reduceIte, reduceCtorEq, Za, Zb, Zc, Zd, Ze, Zf, Zg, Zh, Zi, Zj, Zk, Zl, Zm, Zn, Zo, Zp, Zq, Zr, Zs, Zt, Zu, Zv, gval, Zw, rb0, rb1, rb2, rb3, rb4, tf0, tf1, tf2, tf3, tf4, tf5, tf6, Yk, Yh, overL_one, if_pos, stX_exactN, Tryz.f288]
  refine runC_of (wf_fn (fn := Tryz.f246) rfl rfl (by kernel_rfl) rfl ?_)
  simp (disch := (first | omega | rfl | (simp only [Yn]; omega))) only [↓reduceIte, reduceCtorEq, Za, Zb, Zc, Zd, Ze, Zf, Zg, Zh, Zi, Zj, Zk, Zl, Zm, Zn, Zo, Zp, Zq, Zr, Zs, Zt, Zu, Zv, gval, Zw, rb0, rb1, rb2, rb3, rb4, tf0, tf1, tf2, tf3, tf4, tf5, tf6, Yk, Yh, overL_one, if_pos, stX_exactN, Tryz.f246]
  refine runC_of (wf_fn (fn := Tryz.f228) rfl rfl (by kernel_rfl) rfl ?_)
  rcases hk with ⟨rfl, rfl⟩ | ⟨rfl, rfl⟩
  · simp (disch := (first | omega | rfl | (simp only [Yn]; omega))) only [↓reduceIte, reduceCtorEq, Za, Zb, Zc, Zd, Ze, Zf, Zg, Zh, Zi, Zj, Zk, Zl, Zm, Zn, Zo, Zp, Zq, Zr, Zs, Zt, Zu, Zv, gval, Zw, rb0, rb1, rb2, rb3, rb4, tf0, tf1, tf2, tf3, tf4, tf5, tf6, Yk, Yh, overL_one, if_pos, stX_exactN, Tryz.f228, w0, g1, hfd, ll, c1, c2, c3, c4, c5, hb, Nat.mul_one, Nat.zero_add, Nat.zero_mul, ifc380]
    exact hR _ (by simp only [Heap.nx_new, Heap.nx_upd]; omega) fun b' hb' => by simp (disch := (first | omega | rfl | (simp only [Yn]; omega))) only [Yh, Yc]
  · simp (disch := (first | omega | rfl | (simp only [Yn]; omega))) only [↓reduceIte, reduceCtorEq, Za, Zb, Zc, Zd, Ze, Zf, Zg, Zh, Zi, Zj, Zk, Zl, Zm, Zn, Zo, Zp, Zq, Zr, Zs, Zt, Zu, Zv, gval, Zw, rb0, rb1, rb2, rb3, rb4, tf0, tf1, tf2, tf3, tf4, tf5, tf6, Yk, Yh, overL_one, if_pos, stX_exactN, Tryz.f228, w0, g1, hfd, ll, c1, c2, c3, c4, c5, hb, Nat.mul_one, Nat.zero_add, Nat.zero_mul, ifc373]
    exact hR _ (by simp only [Heap.nx_new, Heap.nx_upd]; omega) fun b' hb' => by simp (disch := (first | omega | rfl | (simp only [Yn]; omega))) only [Yh, Yc]
set_option maxRecDepth 100000 in

theorem uwrite_wf (x : St h false q) {t : List UInt8} (ht : t ≠ []) (hl : t.length ≤ 1000)
    (hR : ∀ h', h.nx ≤ h'.nx → St h' false (q ++ t.take (8 - q.length)) → (∀ b, b < h.nx → b ≠ 322 → h'.get b = h.get b) → R (.ret (.agg #[iI (min t.length (8 - q.length) : Nat), iI 0, .string .empty, iI 0, iI 0, .string .empty, iI 0, .bool (decide (min t.length (8 - q.length) = 0))])) h') :
    WF Tryz.prog 1 spP 184 [pT 23, .iface 23 (pT 25), iI 1, .agg #[iI 8, .int .u64 4, .int .u64 0, .int .u64 0, .string (mkS t), .string .empty]] h R := by
  refine wf_fn (fn := Tryz.f184) rfl rfl (by kernel_rfl) rfl ?_
  have hnx := x.nx
  simp (disch := (first | omega | rfl | (simp only [Yn]; omega))) only [↓reduceIte, reduceCtorEq, Za, Zb, Zc, Zd, Ze, Zf, Zg, Zh, Zi, Zj, Zk, Zl, Zm, Zn, Zo, Zp, Zq, Zr, Zs, Zt, Zu, Zv, gval, Zw, rb0, rb1, rb2, rb3, rb4, tf0, tf1, tf2, tf3, tf4, tf5, tf6, Yk, Yh, overL_one, if_pos, stX_exactN, Tryz.f184]
  refine runC_of (fd_wf (a := 4) (by omega) ?_)
  simp (disch := (first | omega | rfl | (simp only [Yn]; omega))) only [↓reduceIte, reduceCtorEq, Za, Zb, Zc, Zd, Ze, Zf, Zg, Zh, Zi, Zj, Zk, Zl, Zm, Zn, Zo, Zp, Zq, Zr, Zs, Zt, Zu, Zv, gval, Zw, rb0, rb1, rb2, rb3, rb4, tf0, tf1, tf2, tf3, tf4, tf5, tf6, Yk, Yh, overL_one, if_pos, stX_exactN]
  obtain ⟨h2, hh2⟩ : ∃ h2, (h.new (cellsB [iI 8, .int .u64 4, .int .u64 0, .int .u64 0, .string (mkS t), .string .empty] .exact)).new (cellsB [.int .i64 0, .int .i64 0, .string .empty, .int .i64 0, .int .i64 0, .string .empty, .int .i64 0, .bool false] .exact) = h2 := ⟨_, rfl⟩
  have n2 : h2.nx = h.nx + 2 := by rw [← hh2, Heap.nx_new, Heap.nx_new]
  have ga : h2.get h.nx = some (cellsB [iI 8, .int .u64 4, .int .u64 0, .int .u64 0, .string (mkS t), .string .empty] .exact) := by rw [← hh2]; simp (disch := (first | omega | rfl | (simp only [Yn]; omega))) only [Yh, Yc]
  have gb : h2.get (h.nx + 1) = some (cellsB [.int .i64 0, .int .i64 0, .string .empty, .int .i64 0, .int .i64 0, .string .empty, .int .i64 0, .bool false] .exact) := by rw [← hh2]; simp (disch := (first | omega | rfl | (simp only [Yn]; omega))) only [Yh, Yc]
  have k2 : ∀ b', b' < h.nx → h2.get b' = h.get b' := fun b' hb' => by rw [← hh2]; simp (disch := (first | omega | rfl | (simp only [Yn]; omega))) only [Yh, Yc]
  rw [hh2]
  have x2 := x.keep' (h' := h2) (by omega) k2
  refine runC_of (what_wf x2 (fd := 4) (b := 340) rfl (.inr rfl) x2.g339 (by omega) (.inr ⟨rfl, rfl⟩) fun h3 n3 k3 => ?_)
  have x3 := x2.keep' n3 k3
  have ga3 := (k3 h.nx (by omega)).trans ga
  have gb3 := (k3 (h.nx + 1) (by omega)).trans gb
  have cs : decide (t = []) = false := decide_eq_false ht
  simp (disch := (first | omega | rfl | (simp only [Yn]; omega))) only [↓reduceIte, reduceCtorEq, Za, Zb, Zc, Zd, Ze, Zf, Zg, Zh, Zi, Zj, Zk, Zl, Zm, Zn, Zo, Zp, Zq, Zr, Zs, Zt, Zu, Zv, gval, Zw, rb0, rb1, rb2, rb3, rb4, tf0, tf1, tf2, tf3, tf4, tf5, tf6, Yk, Yh, overL_one, if_pos, stX_exactN, ga3, gb3, str_eqG, cs, as1, as2, as3]
  obtain ⟨h4, hh4⟩ : ∃ h4, (((h3.new (cellsB [.int .i64 0] .exact)).upd h3.nx (cellsB [iI 0] .exact)).new (cellsB [.int .i64 0] .exact)).upd (h3.nx + 1) (cellsB [iI 0] .exact) = h4 := ⟨_, rfl⟩
  have n4 : h4.nx = h3.nx + 2 := by rw [← hh4]; simp only [Heap.nx_new, Heap.nx_upd]
  have gc : h4.get (h3.nx + 1) = some (cellsB [iI 0] .exact) := by rw [← hh4]; simp (disch := (first | omega | rfl | (simp only [Yn]; omega))) only [Yh, Yc]
  have k4 : ∀ b', b' < h3.nx → h4.get b' = h3.get b' := fun b' hb' => by rw [← hh4]; simp (disch := (first | omega | rfl | (simp only [Yn]; omega))) only [Yh, Yc]
  rw [hh4]
  have x4 := x3.keep' (h' := h4) (by omega) k4
  refine runC_of (open_wf x4 (k := 3) (r := true) (.inl ⟨rfl, rfl⟩) ?_)
  have ga4 := (k4 h.nx (by omega)).trans ga3
  have gb4 := (k4 (h.nx + 1) (by omega)).trans gb3
  have g22 := x4.g22
  unfold coreL at g22
  simp (disch := (first | omega | rfl | (simp only [Yn]; omega))) only [↓reduceIte, reduceCtorEq, Za, Zb, Zc, Zd, Ze, Zf, Zg, Zh, Zi, Zj, Zk, Zl, Zm, Zn, Zo, Zp, Zq, Zr, Zs, Zt, Zu, Zv, gval, Zw, rb0, rb1, rb2, rb3, rb4, tf0, tf1, tf2, tf3, tf4, tf5, tf6, Yk, Yh, overL_one, if_pos, stX_exactN]
  refine run_draw (ps := []) (by kernel_rfl) (by kernel_rfl) ?_
  simp (disch := (first | omega | rfl | (simp only [Yn]; omega))) only [↓reduceIte, reduceCtorEq, Za, Zb, Zc, Zd, Ze, Zf, Zg, Zh, Zi, Zj, Zk, Zl, Zm, Zn, Zo, Zp, Zq, Zr, Zs, Zt, Zu, Zv, gval, Zw, rb0, rb1, rb2, rb3, rb4, tf0, tf1, tf2, tf3, tf4, tf5, tf6, Yk, Yh, overL_one, if_pos, stX_exactN, g22, gc, ga4]
  refine runCR_of (pput_wf rfl rfl rfl x4.pipes x4.rg (t := t) (by omega) fun h5 n5 r5 k5 => ?_)
  have gb5 := (k5 (h.nx + 1) (by omega)).trans gb4
  have x5 : St h5 false (q ++ t.take (8 - q.length)) := x4.keep (by omega) (fun b' _ hb' => k5 b' hb') r5
  generalize hm : min t.length (8 - q.length) = m at hR ⊢
  by_cases hz : m = 0
  · have hz' : (m : Int) = 0 := by omega
    simp (disch := (first | omega | rfl | (simp only [Yn]; omega))) only [↓reduceIte, reduceCtorEq, Za, Zb, Zc, Zd, Ze, Zf, Zg, Zh, Zi, Zj, Zk, Zl, Zm, Zn, Zo, Zp, Zq, Zr, Zs, Zt, Zu, Zv, gval, Zw, rb0, rb1, rb2, rb3, rb4, tf0, tf1, tf2, tf3, tf4, tf5, tf6, Yk, Yh, overL_one, if_pos, stX_exactN, gb5, hz']
    subst hz
    exact hR _ (by rw [Heap.nx_upd]; omega) (x5.keepX (by rw [Heap.nx_upd]; exact Nat.le_refl _) fun b' hb' => Heap.get_upd_ne _ _ (by omega)) fun b' w1 w2 => by rw [Heap.get_upd_ne _ _ (by omega), k5 _ w2, k4 _ (by omega), k3 _ (by omega), k2 _ w1]
  · have hz' : ¬ (m : Int) = 0 := by omega
    simp (disch := (first | omega | rfl | (simp only [Yn]; omega))) only [↓reduceIte, reduceCtorEq, Za, Zb, Zc, Zd, Ze, Zf, Zg, Zh, Zi, Zj, Zk, Zl, Zm, Zn, Zo, Zp, Zq, Zr, Zs, Zt, Zu, Zv, gval, Zw, rb0, rb1, rb2, rb3, rb4, tf0, tf1, tf2, tf3, tf4, tf5, tf6, Yk, Yh, overL_one, if_pos, stX_exactN, gb5, hz']
    rw [decide_eq_false hz] at hR
    exact hR _ (by rw [Heap.nx_upd]; omega) (x5.keepX (by rw [Heap.nx_upd]; exact Nat.le_refl _) fun b' hb' => Heap.get_upd_ne _ _ (by omega)) fun b' w1 w2 => by rw [Heap.get_upd_ne _ _ (by omega), k5 _ w2, k4 _ (by omega), k3 _ (by omega), k2 _ w1]
set_option maxRecDepth 100000 in
set_option maxHeartbeats 1000000 in

theorem uread_wf (x : St h B q) {n : Nat} (hn : 1 ≤ n ∧ n ≤ 20)
    (hR1 : q ≠ [] → ∀ h', h.nx ≤ h'.nx → St h' B (q.drop n) → (∀ b, b < h.nx → b ≠ 322 → h'.get b = h.get b) → R (.ret (.agg #[iI (min n q.length : Nat), iI 0, .string (mkS (q.take n)), iI 0, iI 0, .string .empty, iI 0, .bool false])) h')
    (hR2 : q = [] → ∀ h', h.nx ≤ h'.nx → St h' B [] → (∀ b, b < h.nx → b ≠ 322 → h'.get b = h.get b) → R (.ret (.agg #[iI 0, iI 0, .string .empty, iI 0, iI 0, .string .empty, iI 0, .bool (!B)])) h') :
    WF Tryz.prog 1 spP 183 [pT 23, .iface 23 (pT 25), iI 1, .agg #[iI 7, .int .u64 3, .int .u64 0, .int .u64 (n : Int), .string .empty, .string .empty], .string (mkS [])] h R := by
  refine wf_fn (fn := Tryz.f183) rfl rfl (by kernel_rfl) rfl ?_
  have hnx := x.nx
  simp (disch := (first | omega | rfl | (simp only [Yn]; omega))) only [↓reduceIte, reduceCtorEq, Za, Zb, Zc, Zd, Ze, Zf, Zg, Zh, Zi, Zj, Zk, Zl, Zm, Zn, Zo, Zp, Zq, Zr, Zs, Zt, Zu, Zv, gval, Zw, rb0, rb1, rb2, rb3, rb4, tf0, tf1, tf2, tf3, tf4, tf5, tf6, Yk, Yh, overL_one, if_pos, stX_exactN, Tryz.f183]
  refine runC_of (fd_wf (a := 3) (by omega) ?_)
  simp (disch := (first | omega | rfl | (simp only [Yn]; omega))) only [↓reduceIte, reduceCtorEq, Za, Zb, Zc, Zd, Ze, Zf, Zg, Zh, Zi, Zj, Zk, Zl, Zm, Zn, Zo, Zp, Zq, Zr, Zs, Zt, Zu, Zv, gval, Zw, rb0, rb1, rb2, rb3, rb4, tf0, tf1, tf2, tf3, tf4, tf5, tf6, Yk, Yh, overL_one, if_pos, stX_exactN]
  obtain ⟨h2, hh2⟩ : ∃ h2, (h.new (cellsB [iI 7, .int .u64 3, .int .u64 0, .int .u64 (n : Int), .string .empty, .string .empty] .exact)).new (cellsB [.int .i64 0, .int .i64 0, .string .empty, .int .i64 0, .int .i64 0, .string .empty, .int .i64 0, .bool false] .exact) = h2 := ⟨_, rfl⟩
  have n2 : h2.nx = h.nx + 2 := by rw [← hh2, Heap.nx_new, Heap.nx_new]
  have ga : h2.get h.nx = some (cellsB [iI 7, .int .u64 3, .int .u64 0, .int .u64 (n : Int), .string .empty, .string .empty] .exact) := by rw [← hh2]; simp (disch := (first | omega | rfl | (simp only [Yn]; omega))) only [Yh, Yc]
  have gb : h2.get (h.nx + 1) = some (cellsB [.int .i64 0, .int .i64 0, .string .empty, .int .i64 0, .int .i64 0, .string .empty, .int .i64 0, .bool false] .exact) := by rw [← hh2]; simp (disch := (first | omega | rfl | (simp only [Yn]; omega))) only [Yh, Yc]
  have k2 : ∀ b', b' < h.nx → h2.get b' = h.get b' := fun b' hb' => by rw [← hh2]; simp (disch := (first | omega | rfl | (simp only [Yn]; omega))) only [Yh, Yc]
  rw [hh2]
  have x2 := x.keep' (h' := h2) (by omega) k2
  refine runC_of (what_wf x2 (fd := 3) (b := 325) (by cases B <;> rfl) (.inl rfl) x2.g324 (by omega) (.inl ⟨rfl, rfl⟩) fun h3 n3 k3 => ?_)
  have x3 := x2.keep' n3 k3
  have ga3 := (k3 h.nx (by omega)).trans ga
  have gb3 := (k3 (h.nx + 1) (by omega)).trans gb
  have c1 : ¬ (128 : Int) < (n : Int) := by omega
  have c2 : ¬ (n : Int) = 0 := by omega
  have wn : wrapF .i64 (n : Int) = (n : Int) := wrapI (by omega) (by omega)
  simp (disch := (first | omega | rfl | (simp only [Yn]; omega))) only [↓reduceIte, reduceCtorEq, Za, Zb, Zc, Zd, Ze, Zf, Zg, Zh, Zi, Zj, Zk, Zl, Zm, Zn, Zo, Zp, Zq, Zr, Zs, Zt, Zu, Zv, gval, Zw, rb0, rb1, rb2, rb3, rb4, tf0, tf1, tf2, tf3, tf4, tf5, tf6, Yk, Yh, overL_one, if_pos, stX_exactN, ga3, gb3, as4, as5, as6, as7, c1, c2, wn]
  obtain ⟨h4, hh4⟩ : ∃ h4, ((((h3.new (cellsB [.int .i64 0] .exact)).upd h3.nx (cellsB [iI 0] .exact)).new (cellsB [.int .i64 0, .int .i64 0, .string .empty, .int .i64 0, .int .i64 0, .string .empty, .int .i64 0, .bool false] .exact)).new (cellsB [.int .i64 0] .exact)).upd (h3.nx + 1 + 1) (cellsB [iI 0] .exact) = h4 := ⟨_, rfl⟩
  have n4 : h4.nx = h3.nx + 3 := by rw [← hh4]; simp only [Heap.nx_new, Heap.nx_upd]
  have gc : h4.get (h3.nx + 1 + 1) = some (cellsB [iI 0] .exact) := by rw [← hh4]; simp (disch := (first | omega | rfl | (simp only [Yn]; omega))) only [Yh, Yc]
  have gd : h4.get (h3.nx + 1) = some (cellsB [.int .i64 0, .int .i64 0, .string .empty, .int .i64 0, .int .i64 0, .string .empty, .int .i64 0, .bool false] .exact) := by rw [← hh4]; simp (disch := (first | omega | rfl | (simp only [Yn]; omega))) only [Yh, Yc]
  have k4 : ∀ b', b' < h3.nx → h4.get b' = h3.get b' := fun b' hb' => by rw [← hh4]; simp (disch := (first | omega | rfl | (simp only [Yn]; omega))) only [Yh, Yc]
  rw [hh4]
  have x4 := x3.keep' (h' := h4) (by omega) k4
  have ga4 := (k4 h.nx (by omega)).trans ga3
  have gb4 := (k4 (h.nx + 1) (by omega)).trans gb3
  have g22 := x4.g22
  unfold coreL at g22
  refine run_draw (ps := []) (by kernel_rfl) (by kernel_rfl) ?_
  simp (disch := (first | omega | rfl | (simp only [Yn]; omega))) only [↓reduceIte, reduceCtorEq, Za, Zb, Zc, Zd, Ze, Zf, Zg, Zh, Zi, Zj, Zk, Zl, Zm, Zn, Zo, Zp, Zq, Zr, Zs, Zt, Zu, Zv, gval, Zw, rb0, rb1, rb2, rb3, rb4, tf0, tf1, tf2, tf3, tf4, tf5, tf6, Yk, Yh, overL_one, if_pos, stX_exactN, g22, gc]
  refine runCR_of (ptake_wf rfl rfl rfl x4.pipes x4.rg (by omega) (n := n) (by omega) fun h5 n5 r5 k5 => ?_)
  have gd5 := (k5 (h3.nx + 1) (by omega) (by omega)).trans gd
  have gc5 := (k5 (h3.nx + 1 + 1) (by omega) (by omega)).trans gc
  have gb5 := (k5 (h.nx + 1) (by omega) (by omega)).trans gb4
  have x5 : St h5 B (q.drop n) := x4.keep (by omega) (fun b' w1 w2 => k5 b' w1 w2) r5
  by_cases hq : q = []
  · have ht : q.take n = [] := by rw [hq]; exact List.take_nil
    have hd : q.drop n = [] := by rw [hq]; exact List.drop_nil
    have cs : decide (q.take n = []) = true := decide_eq_true ht
    rw [hd] at x5
    simp (disch := (first | omega | rfl | (simp only [Yn]; omega))) only [↓reduceIte, reduceCtorEq, Za, Zb, Zc, Zd, Ze, Zf, Zg, Zh, Zi, Zj, Zk, Zl, Zm, Zn, Zo, Zp, Zq, Zr, Zs, Zt, Zu, Zv, gval, Zw, rb0, rb1, rb2, rb3, rb4, tf0, tf1, tf2, tf3, tf4, tf5, tf6, Yk, Yh, overL_one, if_pos, stX_exactN, gd5, gc5, str_eqG, cs]
    obtain ⟨h6, hh6⟩ : ∃ h6, h5.upd (h3.nx + 1) (cellsB [.int .i64 0, .int .i64 0, .string (mkS (q.take n)), .int .i64 0, .int .i64 0, .string .empty, .int .i64 0, .bool false] .exact) = h6 := ⟨_, rfl⟩
    rw [hh6]
    have n6 : h6.nx = h5.nx := by rw [← hh6, Heap.nx_upd]
    have gd6 : h6.get (h3.nx + 1) = some (cellsB [.int .i64 0, .int .i64 0, .string (mkS (q.take n)), .int .i64 0, .int .i64 0, .string .empty, .int .i64 0, .bool false] .exact) := by rw [← hh6, Heap.get_upd_same]
    have k6 : ∀ b', b' < h3.nx → h6.get b' = h5.get b' := fun b' hb' => by rw [← hh6, Heap.get_upd_ne _ _ (by omega)]
    have gb6 := (k6 (h.nx + 1) (by omega)).trans gb5
    have x6 : St h6 B [] := x5.keepX (by omega) fun b' hb' => k6 b' (by omega)
    have kk : ∀ b', b' < h.nx → b' ≠ 322 → h6.get b' = h.get b' := fun b' w1 w2 => by rw [k6 _ (by omega), k5 _ (by omega) w2, k4 _ (by omega), k3 _ (by omega), k2 _ w1]
    refine runC_of (open_wf x6 (k := 4) (r := !B) (.inr ⟨rfl, rfl⟩) ?_)
    cases B with
    | false =>
      simp (disch := (first | omega | rfl | (simp only [Yn]; omega))) only [↓reduceIte, reduceCtorEq, Za, Zb, Zc, Zd, Ze, Zf, Zg, Zh, Zi, Zj, Zk, Zl, Zm, Zn, Zo, Zp, Zq, Zr, Zs, Zt, Zu, Zv, gval, Zw, rb0, rb1, rb2, rb3, rb4, tf0, tf1, tf2, tf3, tf4, tf5, tf6, Yk, Yh, overL_one, if_pos, stX_exactN, Bool.not_false, gb6]
      exact hR2 hq _ (by rw [Heap.nx_upd]; omega) (x6.keepX (by rw [Heap.nx_upd]; exact Nat.le_refl _) fun b' hb' => Heap.get_upd_ne _ _ (by omega)) fun b' w1 w2 => by rw [Heap.get_upd_ne _ _ (by omega)]; exact kk b' w1 w2
    | true =>
      have hl0 : (mkS (q.take n)).size = 0 := by rw [mkS_size, ht]; rfl
      simp (disch := (first | omega | rfl | (simp only [Yn]; omega))) only [↓reduceIte, reduceCtorEq, Za, Zb, Zc, Zd, Ze, Zf, Zg, Zh, Zi, Zj, Zk, Zl, Zm, Zn, Zo, Zp, Zq, Zr, Zs, Zt, Zu, Zv, gval, Zw, rb0, rb1, rb2, rb3, rb4, tf0, tf1, tf2, tf3, tf4, tf5, tf6, Yk, Yh, overL_one, if_pos, stX_exactN, Bool.not_true, gb6, gd6, hl0]
      rw [ht]
      exact hR2 hq _ (by simp only [Heap.nx_upd]; omega) (x6.keepX (by simp only [Heap.nx_upd]; exact Nat.le_refl _) fun b' hb' => by rw [Heap.get_upd_ne _ _ (by omega), Heap.get_upd_ne _ _ (by omega)]) fun b' w1 w2 => by rw [Heap.get_upd_ne _ _ (by omega), Heap.get_upd_ne _ _ (by omega)]; exact kk b' w1 w2
  · have cs : decide (q.take n = []) = false := decide_eq_false (fun e => hq (by
      cases q with
      | nil => rfl
      | cons c r => rw [show n = (n - 1) + 1 by omega, List.take_succ_cons] at e; cases e))
    have hl : (q.take n).length = min n q.length := List.length_take
    simp (disch := (first | omega | rfl | (simp only [Yn]; omega))) only [↓reduceIte, reduceCtorEq, Za, Zb, Zc, Zd, Ze, Zf, Zg, Zh, Zi, Zj, Zk, Zl, Zm, Zn, Zo, Zp, Zq, Zr, Zs, Zt, Zu, Zv, gval, Zw, rb0, rb1, rb2, rb3, rb4, tf0, tf1, tf2, tf3, tf4, tf5, tf6, Yk, Yh, overL_one, if_pos, stX_exactN, gd5, gc5, gb5, str_eqG, cs, mkS_size, hl]
    exact hR1 hq _ (by simp only [Heap.nx_upd]; omega) (x5.keepX (by simp only [Heap.nx_upd]; exact Nat.le_refl _) fun b' hb' => by rw [Heap.get_upd_ne _ _ (by omega), Heap.get_upd_ne _ _ (by omega)]) fun b' w1 w2 => by rw [Heap.get_upd_ne _ _ (by omega), Heap.get_upd_ne _ _ (by omega), k5 _ (by omega) w2, k4 _ (by omega), k3 _ (by omega), k2 _ w1]
end Go.Proofs.YtgdbknbgpkmncaaGreatDoor
end
section
/- The core behind a pipe's making: calls. Conditions: the blocks lie as the rules name. -/
namespace Go.Proofs.YtgdbknbgpkmncaaGreatDoor
open Go.AM
open Nat renaming reduceBEq → Za, reduceEqDiff → Zb, reduceAdd → Zc, reduceSub → Zd, reduceMul → Ze, reduceLT → Zf, reduceLeDiff → Zg, reduceDiv → Zh, reduceMod → Zi, reducePow → Zj
open Int renaming reduceAdd → Zk, reduceSub → Zl, reduceMul → Zm, reduceLT → Zn, reduceLE → Zo, reduceEq → Zp, reduceNe → Zq, reduceNeg → Zr, reduceToNat → Zs, reduceDiv → Zt, reduceMod → Zu, reducePow → Zv, cast_ofNat_Int → Zw
set_option linter.unusedSimpArgs false
variable {h : Heap} {R : Out → Heap → Prop} {B : Bool} {q : List UInt8}
abbrev cA (n a c : Int) (t : ByteArray) : Value := .agg #[iI n, .int .u64 a, .int .u64 0, .int .u64 c, .string t, .string .empty]
abbrev rA (n : Int) (t : ByteArray) (w : Bool) : Value := .agg #[iI n, iI 0, .string t, iI 0, iI 0, .string .empty, iI 0, .bool w]
set_option maxRecDepth 100000 in
set_option maxHeartbeats 1000000 in
theorem process_wf {n a c : Int} {t : ByteArray} (hn : n = 6 ∨ n = 7 ∨ n = 8) (hR : ∀ h', h.nx ≤ h'.nx → (∀ b, b < h.nx → h'.get b = h.get b) → R (.ret (.tuple #[rA 0 .empty false, .bool false])) h') :
    WF Tryz.prog 1 spP 176 [pT 23, .iface 23 (pT 25), iI 1, cA n a c t] h R := by
  refine wf_fn (fn := Tryz.f176) rfl rfl (by kernel_rfl) rfl ?_
  rcases hn with rfl | rfl | rfl
  all_goals
    simp (disch := (first | omega | rfl | (simp only [Yn]; omega))) only [↓reduceIte, reduceCtorEq, Za, Zb, Zc, Zd, Ze, Zf, Zg, Zh, Zi, Zj, Zk, Zl, Zm, Zn, Zo, Zp, Zq, Zr, Zs, Zt, Zu, Zv, gval, Zw, rb0, rb1, rb2, rb3, rb4, tf0, tf1, tf2, tf3, tf4, tf5, tf6, Yk, Yh, overL_one, if_pos, stX_exactN, Tryz.f176]
    exact hR _ (by simp only [Heap.nx_new, Heap.nx_upd]; omega) fun b' hb' => by simp (disch := (first | omega | rfl | (simp only [Yn]; omega))) only [Yh, Yc]
set_option maxRecDepth 100000 in
set_option maxHeartbeats 1000000 in
theorem do_write (x : St h false q) {t : List UInt8} (ht : t ≠ []) (hl : t.length ≤ 1000) {s : Value}
    (hR : ∀ h', h.nx ≤ h'.nx → St h' false (q ++ t.take (8 - q.length)) → (∀ b, b < h.nx → b ≠ 322 → h'.get b = h.get b) → R (.ret (rA (min t.length (8 - q.length) : Nat) .empty (decide (min t.length (8 - q.length) = 0)))) h') :
    WF Tryz.prog 1 spP 97 [pT 23, .iface 23 (pT 25), iI 1, cA 8 4 0 (mkS t), s] h R := by
  refine wf_fn (fn := Tryz.f97) rfl rfl (by kernel_rfl) rfl ?_
  have hnx := x.nx
  simp (disch := (first | omega | rfl | (simp only [Yn]; omega))) only [↓reduceIte, reduceCtorEq, Za, Zb, Zc, Zd, Ze, Zf, Zg, Zh, Zi, Zj, Zk, Zl, Zm, Zn, Zo, Zp, Zq, Zr, Zs, Zt, Zu, Zv, gval, Zw, rb0, rb1, rb2, rb3, rb4, tf0, tf1, tf2, tf3, tf4, tf5, tf6, Yk, Yh, overL_one, if_pos, stX_exactN, Tryz.f97]
  obtain ⟨h2, hh2⟩ : ∃ h2, (h.new (cellsB [iI 8, .int .u64 4, .int .u64 0, .int .u64 0, .string (mkS t), .string .empty] .exact)).new (cellsB [.int .i64 0, .int .i64 0, .string .empty, .int .i64 0, .int .i64 0, .string .empty, .int .i64 0, .bool false] .exact) = h2 := ⟨_, rfl⟩
  have n2 : h2.nx = h.nx + 2 := by rw [← hh2, Heap.nx_new, Heap.nx_new]
  have ga : h2.get h.nx = some (cellsB [iI 8, .int .u64 4, .int .u64 0, .int .u64 0, .string (mkS t), .string .empty] .exact) := by rw [← hh2]; simp (disch := (first | omega | rfl | (simp only [Yn]; omega))) only [Yh, Yc]
  have gb : h2.get (h.nx + 1) = some (cellsB [.int .i64 0, .int .i64 0, .string .empty, .int .i64 0, .int .i64 0, .string .empty, .int .i64 0, .bool false] .exact) := by rw [← hh2]; simp (disch := (first | omega | rfl | (simp only [Yn]; omega))) only [Yh, Yc]
  have k2 : ∀ b', b' < h.nx → h2.get b' = h.get b' := fun b' hb' => by rw [← hh2]; simp (disch := (first | omega | rfl | (simp only [Yn]; omega))) only [Yh, Yc]
  rw [hh2]
  have x2 := x.keep' (h' := h2) (by omega) k2
  refine runC_of (process_wf (n := 8) (a := 4) (c := 0) (t := (mkS t)) (by omega) fun h3 n3 k3 => ?_)
  have x3 := x2.keep' n3 k3
  have ga3 := (k3 h.nx (by omega)).trans ga
  have gb3 := (k3 (h.nx + 1) (by omega)).trans gb
  have g22 := x3.g22
  unfold coreL at g22
  simp (disch := (first | omega | rfl | (simp only [Yn]; omega))) only [↓reduceIte, reduceCtorEq, Za, Zb, Zc, Zd, Ze, Zf, Zg, Zh, Zi, Zj, Zk, Zl, Zm, Zn, Zo, Zp, Zq, Zr, Zs, Zt, Zu, Zv, gval, Zw, rb0, rb1, rb2, rb3, rb4, tf0, tf1, tf2, tf3, tf4, tf5, tf6, Yk, Yh, overL_one, if_pos, stX_exactN, ga3, gb3, g22]
  obtain ⟨h4, hh4⟩ : ∃ h4, (h3.new (cellsB [.int .i64 0, .int .i64 0, .string .empty, .int .i64 0, .int .i64 0, .string .empty, .int .i64 0, .bool false] .exact)).upd h3.nx (cellsB [iI 0, iI 0, .string .empty, iI 0, iI 0, .string .empty, iI 0, .bool false] .exact) = h4 := ⟨_, rfl⟩
  have n4 : h4.nx = h3.nx + 1 := by rw [← hh4]; simp only [Heap.nx_new, Heap.nx_upd]
  have k4 : ∀ b', b' < h3.nx → h4.get b' = h3.get b' := fun b' hb' => by rw [← hh4]; simp (disch := (first | omega | rfl | (simp only [Yn]; omega))) only [Yh, Yc]
  rw [hh4]
  have x4 := x3.keep' (h' := h4) (by omega) k4
  have ga4 := (k4 h.nx (by omega)).trans ga3
  have gb4 := (k4 (h.nx + 1) (by omega)).trans gb3
  refine runC_of (ids_wf x4 ?_)
  simp (disch := (first | omega | rfl | (simp only [Yn]; omega))) only [↓reduceIte, reduceCtorEq, Za, Zb, Zc, Zd, Ze, Zf, Zg, Zh, Zi, Zj, Zk, Zl, Zm, Zn, Zo, Zp, Zq, Zr, Zs, Zt, Zu, Zv, gval, Zw, rb0, rb1, rb2, rb3, rb4, tf0, tf1, tf2, tf3, tf4, tf5, tf6, Yk, Yh, overL_one, if_pos, stX_exactN, ga4, gb4]
  refine runC_of (uwrite_wf x4 ht hl fun h5 n5 x5 k5 => ?_)
  have gb5 := (k5 (h.nx + 1) (by omega) (by omega)).trans gb4
  simp (disch := (first | omega | rfl | (simp only [Yn]; omega))) only [↓reduceIte, reduceCtorEq, Za, Zb, Zc, Zd, Ze, Zf, Zg, Zh, Zi, Zj, Zk, Zl, Zm, Zn, Zo, Zp, Zq, Zr, Zs, Zt, Zu, Zv, gval, Zw, rb0, rb1, rb2, rb3, rb4, tf0, tf1, tf2, tf3, tf4, tf5, tf6, Yk, Yh, overL_one, if_pos, stX_exactN, gb5]
  exact hR _ (by rw [Heap.nx_upd]; omega) (x5.keepX (by rw [Heap.nx_upd]; exact Nat.le_refl _) fun b' hb' => Heap.get_upd_ne _ _ (by omega)) fun b' w1 w2 => by rw [Heap.get_upd_ne _ _ (by omega), k5 _ (by omega) w2, k4 _ (by omega), k3 _ (by omega), k2 _ w1]
set_option maxRecDepth 100000 in
set_option maxHeartbeats 1000000 in
theorem do_read (x : St h B q) {n : Nat} (hn : 1 ≤ n ∧ n ≤ 20)
    (hR1 : q ≠ [] → ∀ h', h.nx ≤ h'.nx → St h' B (q.drop n) → (∀ b, b < h.nx → b ≠ 322 → h'.get b = h.get b) → R (.ret (rA (min n q.length : Nat) (mkS (q.take n)) false)) h')
    (hR2 : q = [] → ∀ h', h.nx ≤ h'.nx → St h' B [] → (∀ b, b < h.nx → b ≠ 322 → h'.get b = h.get b) → R (.ret (rA 0 .empty (!B))) h') :
    WF Tryz.prog 1 spP 97 [pT 23, .iface 23 (pT 25), iI 1, cA 7 3 n .empty, .string (mkS [])] h R := by
  refine wf_fn (fn := Tryz.f97) rfl rfl (by kernel_rfl) rfl ?_
  have hnx := x.nx
  simp (disch := (first | omega | rfl | (simp only [Yn]; omega))) only [↓reduceIte, reduceCtorEq, Za, Zb, Zc, Zd, Ze, Zf, Zg, Zh, Zi, Zj, Zk, Zl, Zm, Zn, Zo, Zp, Zq, Zr, Zs, Zt, Zu, Zv, gval, Zw, rb0, rb1, rb2, rb3, rb4, tf0, tf1, tf2, tf3, tf4, tf5, tf6, Yk, Yh, overL_one, if_pos, stX_exactN, Tryz.f97]
  obtain ⟨h2, hh2⟩ : ∃ h2, (h.new (cellsB [iI 7, .int .u64 3, .int .u64 0, .int .u64 (n : Int), .string .empty, .string .empty] .exact)).new (cellsB [.int .i64 0, .int .i64 0, .string .empty, .int .i64 0, .int .i64 0, .string .empty, .int .i64 0, .bool false] .exact) = h2 := ⟨_, rfl⟩
  have n2 : h2.nx = h.nx + 2 := by rw [← hh2, Heap.nx_new, Heap.nx_new]
  have ga : h2.get h.nx = some (cellsB [iI 7, .int .u64 3, .int .u64 0, .int .u64 (n : Int), .string .empty, .string .empty] .exact) := by rw [← hh2]; simp (disch := (first | omega | rfl | (simp only [Yn]; omega))) only [Yh, Yc]
  have gb : h2.get (h.nx + 1) = some (cellsB [.int .i64 0, .int .i64 0, .string .empty, .int .i64 0, .int .i64 0, .string .empty, .int .i64 0, .bool false] .exact) := by rw [← hh2]; simp (disch := (first | omega | rfl | (simp only [Yn]; omega))) only [Yh, Yc]
  have k2 : ∀ b', b' < h.nx → h2.get b' = h.get b' := fun b' hb' => by rw [← hh2]; simp (disch := (first | omega | rfl | (simp only [Yn]; omega))) only [Yh, Yc]
  rw [hh2]
  have x2 := x.keep' (h' := h2) (by omega) k2
  refine runC_of (process_wf (n := 7) (a := 3) (c := (n : Int)) (t := .empty) (by omega) fun h3 n3 k3 => ?_)
  have x3 := x2.keep' n3 k3
  have ga3 := (k3 h.nx (by omega)).trans ga
  have gb3 := (k3 (h.nx + 1) (by omega)).trans gb
  have g22 := x3.g22
  unfold coreL at g22
  simp (disch := (first | omega | rfl | (simp only [Yn]; omega))) only [↓reduceIte, reduceCtorEq, Za, Zb, Zc, Zd, Ze, Zf, Zg, Zh, Zi, Zj, Zk, Zl, Zm, Zn, Zo, Zp, Zq, Zr, Zs, Zt, Zu, Zv, gval, Zw, rb0, rb1, rb2, rb3, rb4, tf0, tf1, tf2, tf3, tf4, tf5, tf6, Yk, Yh, overL_one, if_pos, stX_exactN, ga3, gb3, g22]
  obtain ⟨h4, hh4⟩ : ∃ h4, (h3.new (cellsB [.int .i64 0, .int .i64 0, .string .empty, .int .i64 0, .int .i64 0, .string .empty, .int .i64 0, .bool false] .exact)).upd h3.nx (cellsB [iI 0, iI 0, .string .empty, iI 0, iI 0, .string .empty, iI 0, .bool false] .exact) = h4 := ⟨_, rfl⟩
  have n4 : h4.nx = h3.nx + 1 := by rw [← hh4]; simp only [Heap.nx_new, Heap.nx_upd]
  have k4 : ∀ b', b' < h3.nx → h4.get b' = h3.get b' := fun b' hb' => by rw [← hh4]; simp (disch := (first | omega | rfl | (simp only [Yn]; omega))) only [Yh, Yc]
  rw [hh4]
  have x4 := x3.keep' (h' := h4) (by omega) k4
  have ga4 := (k4 h.nx (by omega)).trans ga3
  have gb4 := (k4 (h.nx + 1) (by omega)).trans gb3
  refine runC_of (ids_wf x4 ?_)
  simp (disch := (first | omega | rfl | (simp only [Yn]; omega))) only [↓reduceIte, reduceCtorEq, Za, Zb, Zc, Zd, Ze, Zf, Zg, Zh, Zi, Zj, Zk, Zl, Zm, Zn, Zo, Zp, Zq, Zr, Zs, Zt, Zu, Zv, gval, Zw, rb0, rb1, rb2, rb3, rb4, tf0, tf1, tf2, tf3, tf4, tf5, tf6, Yk, Yh, overL_one, if_pos, stX_exactN, ga4, gb4]
  refine runC_of (uread_wf x4 hn (fun hq h5 n5 x5 k5 => ?_) fun hq h5 n5 x5 k5 => ?_)
  · have gb5 := (k5 (h.nx + 1) (by omega) (by omega)).trans gb4
    simp (disch := (first | omega | rfl | (simp only [Yn]; omega))) only [↓reduceIte, reduceCtorEq, Za, Zb, Zc, Zd, Ze, Zf, Zg, Zh, Zi, Zj, Zk, Zl, Zm, Zn, Zo, Zp, Zq, Zr, Zs, Zt, Zu, Zv, gval, Zw, rb0, rb1, rb2, rb3, rb4, tf0, tf1, tf2, tf3, tf4, tf5, tf6, Yk, Yh, overL_one, if_pos, stX_exactN, gb5]
    exact hR1 hq _ (by rw [Heap.nx_upd]; omega) (x5.keepX (by rw [Heap.nx_upd]; exact Nat.le_refl _) fun b' hb' => Heap.get_upd_ne _ _ (by omega)) fun b' w1 w2 => by rw [Heap.get_upd_ne _ _ (by omega), k5 _ (by omega) w2, k4 _ (by omega), k3 _ (by omega), k2 _ w1]
  · have gb5 := (k5 (h.nx + 1) (by omega) (by omega)).trans gb4
    simp (disch := (first | omega | rfl | (simp only [Yn]; omega))) only [↓reduceIte, reduceCtorEq, Za, Zb, Zc, Zd, Ze, Zf, Zg, Zh, Zi, Zj, Zk, Zl, Zm, Zn, Zo, Zp, Zq, Zr, Zs, Zt, Zu, Zv, gval, Zw, rb0, rb1, rb2, rb3, rb4, tf0, tf1, tf2, tf3, tf4, tf5, tf6, Yk, Yh, overL_one, if_pos, stX_exactN, gb5]
    exact hR2 hq _ (by rw [Heap.nx_upd]; omega) (x5.keepX (by rw [Heap.nx_upd]; exact Nat.le_refl _) fun b' hb' => Heap.get_upd_ne _ _ (by omega)) fun b' w1 w2 => by rw [Heap.get_upd_ne _ _ (by omega), k5 _ (by omega) w2, k4 _ (by omega), k3 _ (by omega), k2 _ w1]
end Go.Proofs.YtgdbknbgpkmncaaGreatDoor
end
section
/- The core behind a pipe's making: calls, from outside. Conditions: the blocks lie as the rules name. -/
namespace Go.Proofs.YtgdbknbgpkmncaaGreatDoor
open Go.AM
open Nat renaming reduceBEq → Za, reduceEqDiff → Zb, reduceAdd → Zc, reduceSub → Zd, reduceMul → Ze, reduceLT → Zf, reduceLeDiff → Zg, reduceDiv → Zh, reduceMod → Zi, reducePow → Zj
open Int renaming reduceAdd → Zk, reduceSub → Zl, reduceMul → Zm, reduceLT → Zn, reduceLE → Zo, reduceEq → Zp, reduceNe → Zq, reduceNeg → Zr, reduceToNat → Zs, reduceDiv → Zt, reduceMod → Zu, reducePow → Zv, cast_ofNat_Int → Zw
set_option linter.unusedSimpArgs false
variable {h : Heap} {R : Out → Heap → Prop} {B : Bool} {q : List UInt8}
abbrev tA (n : Int) (t : ByteArray) (w : Bool) : Value := .tuple #[.agg #[iI n, iI 0, .string t, iI 0, iI 0], .string .empty, iI 0, .bool w]
set_option maxRecDepth 100000 in
set_option maxHeartbeats 1000000 in

theorem doO_wf (x : St h B q) {n : Int} {t : ByteArray} {w : Bool} {q' : List UInt8} {c1 c2 c3 : Int} {ct : ByteArray} {s : ByteArray}
    (hdo : ∀ {h2 : Heap} {R2 : Out → Heap → Prop}, St h2 B q → (∀ h', h2.nx ≤ h'.nx → St h' B q' → (∀ b, b < h2.nx → b ≠ 322 → h'.get b = h2.get b) → R2 (.ret (rA n t w)) h') → WF Tryz.prog 1 spP 97 [pT 23, .iface 23 (pT 25), iI 1, cA c1 c2 c3 ct, .string s] h2 R2)
    (hR : ∀ h', h.nx ≤ h'.nx → St h' B q' → (∀ b, b < h.nx → b ≠ 322 → h'.get b = h.get b) → R (.ret (bif w then tA 0 .empty true else tA n t false)) h') :
    WF Tryz.prog 1 spP 39 [pT 23, .iface 23 (pT 25), iI 1, cA c1 c2 c3 ct, .string s] h R := by
  refine wf_fn (fn := Tryz.f39) rfl rfl (by kernel_rfl) rfl ?_
  have hnx := x.nx
  simp (disch := (first | omega | rfl | (simp only [Yn]; omega))) only [↓reduceIte, reduceCtorEq, Za, Zb, Zc, Zd, Ze, Zf, Zg, Zh, Zi, Zj, Zk, Zl, Zm, Zn, Zo, Zp, Zq, Zr, Zs, Zt, Zu, Zv, gval, Zw, rb0, rb1, rb2, rb3, rb4, tf0, tf1, tf2, tf3, tf4, tf5, tf6, Yk, Yh, overL_one, if_pos, stX_exactN, Tryz.f39]
  obtain ⟨h2, hh2⟩ : ∃ h2, (h.new (cellsB [iI c1, .int .u64 c2, .int .u64 0, .int .u64 c3, .string ct, .string .empty] .exact)).new (cellsB [.int .i64 0, .int .i64 0, .string .empty, .int .i64 0, .int .i64 0] .exact) = h2 := ⟨_, rfl⟩
  have n2 : h2.nx = h.nx + 2 := by rw [← hh2, Heap.nx_new, Heap.nx_new]
  have ga : h2.get h.nx = some (cellsB [iI c1, .int .u64 c2, .int .u64 0, .int .u64 c3, .string ct, .string .empty] .exact) := by rw [← hh2]; simp (disch := (first | omega | rfl | (simp only [Yn]; omega))) only [Yh, Yc]
  have gb : h2.get (h.nx + 1) = some (cellsB [.int .i64 0, .int .i64 0, .string .empty, .int .i64 0, .int .i64 0] .exact) := by rw [← hh2]; simp (disch := (first | omega | rfl | (simp only [Yn]; omega))) only [Yh, Yc]
  have k2 : ∀ b', b' < h.nx → h2.get b' = h.get b' := fun b' hb' => by rw [← hh2]; simp (disch := (first | omega | rfl | (simp only [Yn]; omega))) only [Yh, Yc]
  rw [hh2]
  have x2 := x.keep' (h' := h2) (by omega) k2
  refine runC_of (live_wf x2 ?_)
  simp (disch := (first | omega | rfl | (simp only [Yn]; omega))) only [↓reduceIte, reduceCtorEq, Za, Zb, Zc, Zd, Ze, Zf, Zg, Zh, Zi, Zj, Zk, Zl, Zm, Zn, Zo, Zp, Zq, Zr, Zs, Zt, Zu, Zv, gval, Zw, rb0, rb1, rb2, rb3, rb4, tf0, tf1, tf2, tf3, tf4, tf5, tf6, Yk, Yh, overL_one, if_pos, stX_exactN, ga, gb]
  refine runC_of (hdo x2 fun h3 n3 x3 k3 => ?_)
  have gb3 := (k3 (h.nx + 1) (by omega) (by omega)).trans gb
  cases w with
  | true =>
    simp (disch := (first | omega | rfl | (simp only [Yn]; omega))) only [↓reduceIte, reduceCtorEq, Za, Zb, Zc, Zd, Ze, Zf, Zg, Zh, Zi, Zj, Zk, Zl, Zm, Zn, Zo, Zp, Zq, Zr, Zs, Zt, Zu, Zv, gval, Zw, rb0, rb1, rb2, rb3, rb4, tf0, tf1, tf2, tf3, tf4, tf5, tf6, Yk, Yh, overL_one, if_pos, stX_exactN, gb3]
    exact hR _ (by simp only [Heap.nx_upd, Heap.nx_new]; omega) (x3.keepX (by simp only [Heap.nx_upd, Heap.nx_new]; omega) fun b' hb' => by rw [Heap.get_upd_ne _ _ (by omega), Heap.get_upd_ne _ _ (by omega), Heap.get_new_ne _ _ (by omega)]) fun b' w1 w2 => by rw [Heap.get_upd_ne _ _ (by omega), Heap.get_upd_ne _ _ (by omega), Heap.get_new_ne _ _ (by omega), k3 _ (by omega) w2, k2 _ w1]
  | false =>
    have hbq : Nat.beq h3.nx (h.nx + 1) = false := by rw [← Bool.not_eq_true, Nat.beq_eq]; omega
    simp (disch := (first | omega | rfl | (simp only [Yn]; omega))) only [↓reduceIte, reduceCtorEq, Za, Zb, Zc, Zd, Ze, Zf, Zg, Zh, Zi, Zj, Zk, Zl, Zm, Zn, Zo, Zp, Zq, Zr, Zs, Zt, Zu, Zv, gval, Zw, rb0, rb1, rb2, rb3, rb4, tf0, tf1, tf2, tf3, tf4, tf5, tf6, Yk, Yh, overL_one, if_pos, stX_exactN, gb3]
    refine run_draw (ps := [(3, 6), (5, 6)]) (by kernel_rfl) (by kernel_rfl) ?_
    simp (disch := (first | omega | rfl | (simp only [Yn]; omega))) only [↓reduceIte, reduceCtorEq, Za, Zb, Zc, Zd, Ze, Zf, Zg, Zh, Zi, Zj, Zk, Zl, Zm, Zn, Zo, Zp, Zq, Zr, Zs, Zt, Zu, Zv, gval, Zw, rb0, rb1, rb2, rb3, rb4, tf0, tf1, tf2, tf3, tf4, tf5, tf6, Yk, Yh, overL_one, if_pos, stX_exactN, gb3, hbq, Bool.not_false]
    exact hR _ (by simp only [Heap.nx_upd, Heap.nx_new]; omega) (x3.keepX (by simp only [Heap.nx_upd, Heap.nx_new]; omega) fun b' hb' => by rw [Heap.get_upd_ne _ _ (by omega), Heap.get_upd_ne _ _ (by omega), Heap.get_new_ne _ _ (by omega)]) fun b' w1 w2 => by rw [Heap.get_upd_ne _ _ (by omega), Heap.get_upd_ne _ _ (by omega), Heap.get_new_ne _ _ (by omega), k3 _ (by omega) w2, k2 _ w1]
set_option maxRecDepth 100000 in
set_option maxHeartbeats 1000000 in

theorem fclose_wf (x : St h false q) (hR : ∀ h', h.nx ≤ h'.nx → St h' true q → (∀ b, b < h.nx → b ≠ 2 → b ≠ 340 → h'.get b = h.get b) → R (.ret (.tuple #[.agg #[iI 4, iI 0, iI 0, .bool false, iI 0], iI 0])) h') :
    WF Tryz.prog 1 spP 179 [pT 2, iI 1, iI 4] h R := by
  refine wf_fn (fn := Tryz.f179) rfl rfl (by kernel_rfl) rfl ?_
  have hnx := x.nx
  have g1 := x.g1
  have g339 := x.g339
  unfold fileV at g339
  have l4 : (fdsL false)[4]? = some (pT 340) := rfl
  have ll : (fdsL false).length = 48 := rfl
  have ls : (fdsL false).set 4 (.pointer none) = fdsL true := rfl
  have w1 : wrapF .i64 ((1 : Int) - 1) = 0 := by decide
  simp (disch := (first | omega | rfl | (simp only [Yn]; omega))) only [↓reduceIte, reduceCtorEq, Za, Zb, Zc, Zd, Ze, Zf, Zg, Zh, Zi, Zj, Zk, Zl, Zm, Zn, Zo, Zp, Zq, Zr, Zs, Zt, Zu, Zv, gval, Zw, rb0, rb1, rb2, rb3, rb4, tf0, tf1, tf2, tf3, tf4, tf5, tf6, Yk, Yh, overL_one, if_pos, stX_exactN, Tryz.f179]
  refine runC_of (wf_fn (fn := Tryz.f246) rfl rfl (by kernel_rfl) rfl ?_)
  simp (disch := (first | omega | rfl | (simp only [Yn]; omega))) only [↓reduceIte, reduceCtorEq, Za, Zb, Zc, Zd, Ze, Zf, Zg, Zh, Zi, Zj, Zk, Zl, Zm, Zn, Zo, Zp, Zq, Zr, Zs, Zt, Zu, Zv, gval, Zw, rb0, rb1, rb2, rb3, rb4, tf0, tf1, tf2, tf3, tf4, tf5, tf6, Yk, Yh, overL_one, if_pos, stX_exactN, Tryz.f246]
  refine runC_of (wf_fn (fn := Tryz.f228) rfl rfl (by kernel_rfl) rfl ?_)
  simp (disch := (first | omega | rfl | (simp only [Yn]; omega))) only [↓reduceIte, reduceCtorEq, Za, Zb, Zc, Zd, Ze, Zf, Zg, Zh, Zi, Zj, Zk, Zl, Zm, Zn, Zo, Zp, Zq, Zr, Zs, Zt, Zu, Zv, gval, Zw, rb0, rb1, rb2, rb3, rb4, tf0, tf1, tf2, tf3, tf4, tf5, tf6, Yk, Yh, overL_one, if_pos, stX_exactN, Tryz.f228, w0, g1, l4, ll]
  simp (disch := (first | omega | rfl | (simp only [Yn]; omega))) only [↓reduceIte, reduceCtorEq, Za, Zb, Zc, Zd, Ze, Zf, Zg, Zh, Zi, Zj, Zk, Zl, Zm, Zn, Zo, Zp, Zq, Zr, Zs, Zt, Zu, Zv, gval, Zw, rb0, rb1, rb2, rb3, rb4, tf0, tf1, tf2, tf3, tf4, tf5, tf6, Yk, Yh, overL_one, if_pos, stX_exactN, g339, w0, w1, g1, ll, ls]
  obtain ⟨h5, hh5⟩ : ∃ h5, (((h.new (cellsB [.int .i64 0, .int .i64 0, .int .i64 0, .bool false, .int .i64 0] .exact)).upd 340 (cellsB [iI 4, iI 0, iI 0, .bool false, .int .i64 0] .exact)).upd 2 (cellsB (fdsL true) .exact)).upd h.nx (cellsB [iI 4, iI 0, iI 0, .bool false, .int .i64 0] .exact) = h5 := ⟨_, rfl⟩
  rw [hh5]
  have n5 : h5.nx = h.nx + 1 := by rw [← hh5]; simp only [Heap.nx_new, Heap.nx_upd]
  have k5 : ∀ b', b' < h.nx → b' ≠ 2 → b' ≠ 340 → h5.get b' = h.get b' := fun b' w1 w2 w3 => by rw [← hh5, Heap.get_upd_ne _ _ (by omega), Heap.get_upd_ne _ _ w2, Heap.get_upd_ne _ _ w3, Heap.get_new_ne _ _ (by omega)]
  have e1 : h5.get 2 = some (cellsB (fdsL true) .exact) := by rw [← hh5, Heap.get_upd_ne _ _ (by omega), Heap.get_upd_same]
  have e339 : h5.get 340 = some (cellsB (fileV 4 0) .exact) := by rw [← hh5, Heap.get_upd_ne _ _ (by omega), Heap.get_upd_ne _ _ (by omega), Heap.get_upd_same]; rfl
  refine hR h5 (by omega) ⟨?_, e1, ?_, ?_, ?_, ?_, ?_, ?_, ?_, ?_, ?_, ?_, e339, x.rg.keep (k5 _ (by omega) (by omega) (by omega)), by omega⟩ k5
  all_goals rw [k5 _ (by omega) (by omega) (by omega)]
  · exact x.tb
  · exact x.g2
  · exact x.g20
  · exact x.g21
  · exact x.g22
  · exact x.g167
  · exact x.g214
  · exact x.g215
  · exact x.g224
  · exact x.g235
  · exact x.g324
set_option maxRecDepth 100000 in
theorem ended_wf (x : St h true q) (hR : ∀ h', h.nx ≤ h'.nx → (∀ b, b < h.nx → h'.get b = h.get b) → R (.ret (.tuple #[])) h') :
    WF Tryz.prog 1 spP 181 [pT 23, .iface 23 (pT 25), .agg #[iI 4, iI 0, iI 0, .bool false, iI 0]] h R := by
  refine wf_fn (fn := Tryz.f181) rfl rfl (by kernel_rfl) rfl ?_
  simp (disch := (first | omega | rfl | (simp only [Yn]; omega))) only [↓reduceIte, reduceCtorEq, Za, Zb, Zc, Zd, Ze, Zf, Zg, Zh, Zi, Zj, Zk, Zl, Zm, Zn, Zo, Zp, Zq, Zr, Zs, Zt, Zu, Zv, gval, Zw, rb0, rb1, rb2, rb3, rb4, tf0, tf1, tf2, tf3, tf4, tf5, tf6, Yk, Yh, overL_one, if_pos, stX_exactN, Tryz.f181]
  obtain ⟨h2, hh2⟩ : ∃ h2, h.new (cellsB [iI 4, iI 0, iI 0, .bool false, iI 0] .exact) = h2 := ⟨_, rfl⟩
  rw [hh2]
  have n2 : h2.nx = h.nx + 1 := by rw [← hh2, Heap.nx_new]
  have ga : h2.get h.nx = some (cellsB [iI 4, iI 0, iI 0, .bool false, iI 0] .exact) := by rw [← hh2, Heap.get_new_same]
  have k2 : ∀ b', b' < h.nx → h2.get b' = h.get b' := fun b' hb' => by rw [← hh2, Heap.get_new_ne _ _ (by omega)]
  have x2 := x.keep' (h' := h2) (by omega) k2
  refine runC_of (open_wf x2 (k := 4) (r := false) (.inr ⟨rfl, rfl⟩) ?_)
  simp (disch := (first | omega | rfl | (simp only [Yn]; omega))) only [↓reduceIte, reduceCtorEq, Za, Zb, Zc, Zd, Ze, Zf, Zg, Zh, Zi, Zj, Zk, Zl, Zm, Zn, Zo, Zp, Zq, Zr, Zs, Zt, Zu, Zv, gval, Zw, rb0, rb1, rb2, rb3, rb4, tf0, tf1, tf2, tf3, tf4, tf5, tf6, Yk, Yh, overL_one, if_pos, stX_exactN, ga]
  refine runC_of (open_wf x2 (k := 3) (r := true) (.inl ⟨rfl, rfl⟩) ?_)
  simp (disch := (first | omega | rfl | (simp only [Yn]; omega))) only [↓reduceIte, reduceCtorEq, Za, Zb, Zc, Zd, Ze, Zf, Zg, Zh, Zi, Zj, Zk, Zl, Zm, Zn, Zo, Zp, Zq, Zr, Zs, Zt, Zu, Zv, gval, Zw, rb0, rb1, rb2, rb3, rb4, tf0, tf1, tf2, tf3, tf4, tf5, tf6, Yk, Yh, overL_one, if_pos, stX_exactN, ga]
  exact hR _ (by omega) k2
set_option maxRecDepth 100000 in
theorem number0_wf (hR : ∀ h', h.nx ≤ h'.nx → (∀ b, b < h.nx → h'.get b = h.get b) → R (.ret (rA 0 .empty false)) h') : WF Tryz.prog 1 spP 182 [iI 0, iI 0] h R := by
  refine wf_fn (fn := Tryz.f182) rfl rfl (by kernel_rfl) rfl ?_
  simp (disch := (first | omega | rfl | (simp only [Yn]; omega))) only [↓reduceIte, reduceCtorEq, Za, Zb, Zc, Zd, Ze, Zf, Zg, Zh, Zi, Zj, Zk, Zl, Zm, Zn, Zo, Zp, Zq, Zr, Zs, Zt, Zu, Zv, gval, Zw, rb0, rb1, rb2, rb3, rb4, tf0, tf1, tf2, tf3, tf4, tf5, tf6, Yk, Yh, overL_one, if_pos, stX_exactN, Tryz.f182]
  exact hR _ (by simp only [Heap.nx_upd, Heap.nx_new]; omega) fun b' hb' => by simp (disch := (first | omega | rfl | (simp only [Yn]; omega))) only [Yh, Yc]
set_option maxRecDepth 100000 in
set_option maxHeartbeats 1000000 in
theorem do_close (x : St h false q) {s : ByteArray}
    (hR : ∀ h', h.nx ≤ h'.nx → St h' true q → (∀ b, b < h.nx → b ≠ 2 → b ≠ 340 → h'.get b = h.get b) → R (.ret (rA 0 .empty false)) h') :
    WF Tryz.prog 1 spP 97 [pT 23, .iface 23 (pT 25), iI 1, cA 6 4 0 .empty, .string s] h R := by
  refine wf_fn (fn := Tryz.f97) rfl rfl (by kernel_rfl) rfl ?_
  have hnx := x.nx
  simp (disch := (first | omega | rfl | (simp only [Yn]; omega))) only [↓reduceIte, reduceCtorEq, Za, Zb, Zc, Zd, Ze, Zf, Zg, Zh, Zi, Zj, Zk, Zl, Zm, Zn, Zo, Zp, Zq, Zr, Zs, Zt, Zu, Zv, gval, Zw, rb0, rb1, rb2, rb3, rb4, tf0, tf1, tf2, tf3, tf4, tf5, tf6, Yk, Yh, overL_one, if_pos, stX_exactN, Tryz.f97]
  obtain ⟨h2, hh2⟩ : ∃ h2, (h.new (cellsB [iI 6, .int .u64 4, .int .u64 0, .int .u64 0, .string .empty, .string .empty] .exact)).new (cellsB [.int .i64 0, .int .i64 0, .string .empty, .int .i64 0, .int .i64 0, .string .empty, .int .i64 0, .bool false] .exact) = h2 := ⟨_, rfl⟩
  have n2 : h2.nx = h.nx + 2 := by rw [← hh2, Heap.nx_new, Heap.nx_new]
  have ga : h2.get h.nx = some (cellsB [iI 6, .int .u64 4, .int .u64 0, .int .u64 0, .string .empty, .string .empty] .exact) := by rw [← hh2]; simp (disch := (first | omega | rfl | (simp only [Yn]; omega))) only [Yh, Yc]
  have gb : h2.get (h.nx + 1) = some (cellsB [.int .i64 0, .int .i64 0, .string .empty, .int .i64 0, .int .i64 0, .string .empty, .int .i64 0, .bool false] .exact) := by rw [← hh2]; simp (disch := (first | omega | rfl | (simp only [Yn]; omega))) only [Yh, Yc]
  have k2 : ∀ b', b' < h.nx → h2.get b' = h.get b' := fun b' hb' => by rw [← hh2]; simp (disch := (first | omega | rfl | (simp only [Yn]; omega))) only [Yh, Yc]
  rw [hh2]
  have x2 := x.keep' (h' := h2) (by omega) k2
  refine runC_of (process_wf (n := 6) (a := 4) (c := 0) (t := .empty) (by omega) fun h3 n3 k3 => ?_)
  have x3 := x2.keep' n3 k3
  have ga3 := (k3 h.nx (by omega)).trans ga
  have gb3 := (k3 (h.nx + 1) (by omega)).trans gb
  have g22 := x3.g22
  unfold coreL at g22
  simp (disch := (first | omega | rfl | (simp only [Yn]; omega))) only [↓reduceIte, reduceCtorEq, Za, Zb, Zc, Zd, Ze, Zf, Zg, Zh, Zi, Zj, Zk, Zl, Zm, Zn, Zo, Zp, Zq, Zr, Zs, Zt, Zu, Zv, gval, Zw, rb0, rb1, rb2, rb3, rb4, tf0, tf1, tf2, tf3, tf4, tf5, tf6, Yk, Yh, overL_one, if_pos, stX_exactN, ga3, gb3, g22]
  obtain ⟨h4, hh4⟩ : ∃ h4, (h3.new (cellsB [.int .i64 0, .int .i64 0, .string .empty, .int .i64 0, .int .i64 0, .string .empty, .int .i64 0, .bool false] .exact)).upd h3.nx (cellsB [iI 0, iI 0, .string .empty, iI 0, iI 0, .string .empty, iI 0, .bool false] .exact) = h4 := ⟨_, rfl⟩
  have n4 : h4.nx = h3.nx + 1 := by rw [← hh4]; simp only [Heap.nx_new, Heap.nx_upd]
  have k4 : ∀ b', b' < h3.nx → h4.get b' = h3.get b' := fun b' hb' => by rw [← hh4]; simp (disch := (first | omega | rfl | (simp only [Yn]; omega))) only [Yh, Yc]
  rw [hh4]
  have x4 := x3.keep' (h' := h4) (by omega) k4
  have ga4 := (k4 h.nx (by omega)).trans ga3
  have gb4 := (k4 (h.nx + 1) (by omega)).trans gb3
  refine runC_of (ids_wf x4 ?_)
  simp (disch := (first | omega | rfl | (simp only [Yn]; omega))) only [↓reduceIte, reduceCtorEq, Za, Zb, Zc, Zd, Ze, Zf, Zg, Zh, Zi, Zj, Zk, Zl, Zm, Zn, Zo, Zp, Zq, Zr, Zs, Zt, Zu, Zv, gval, Zw, rb0, rb1, rb2, rb3, rb4, tf0, tf1, tf2, tf3, tf4, tf5, tf6, Yk, Yh, overL_one, if_pos, stX_exactN, ga4, gb4]
  have g22' := x4.g22
  unfold coreL at g22'
  refine run_draw (ps := [(3, 7), (3, 12), (6, 12), (7, 12), (8, 12)]) (by kernel_rfl) (by kernel_rfl) ?_
  simp (disch := (first | omega | rfl | (simp only [Yn]; omega))) only [↓reduceIte, reduceCtorEq, Za, Zb, Zc, Zd, Ze, Zf, Zg, Zh, Zi, Zj, Zk, Zl, Zm, Zn, Zo, Zp, Zq, Zr, Zs, Zt, Zu, Zv, gval, Zw, rb0, rb1, rb2, rb3, rb4, tf0, tf1, tf2, tf3, tf4, tf5, tf6, Yk, Yh, overL_one, if_pos, stX_exactN, ga4, gb4, g22']
  refine runCR_of (fd_wf (a := 4) (by omega) ?_)
  simp (disch := (first | omega | rfl | (simp only [Yn]; omega))) only [↓reduceIte, reduceCtorEq, Za, Zb, Zc, Zd, Ze, Zf, Zg, Zh, Zi, Zj, Zk, Zl, Zm, Zn, Zo, Zp, Zq, Zr, Zs, Zt, Zu, Zv, gval, Zw, rb0, rb1, rb2, rb3, rb4, tf0, tf1, tf2, tf3, tf4, tf5, tf6, Yk, Yh, overL_one, if_pos, stX_exactN]
  refine runCR_of (fclose_wf x4 fun h5 n5 x5 k5 => ?_)
  have ga5 := (k5 h.nx (by omega) (by omega) (by omega)).trans ga4
  have gb5 := (k5 (h.nx + 1) (by omega) (by omega) (by omega)).trans gb4
  have b1 : Nat.beq 23 h5.nx = false := by rw [← Bool.not_eq_true, Nat.beq_eq]; omega
  have b2 : Nat.beq h.nx h5.nx = false := by rw [← Bool.not_eq_true, Nat.beq_eq]; omega
  simp (disch := (first | omega | rfl | (simp only [Yn]; omega))) only [↓reduceIte, reduceCtorEq, Za, Zb, Zc, Zd, Ze, Zf, Zg, Zh, Zi, Zj, Zk, Zl, Zm, Zn, Zo, Zp, Zq, Zr, Zs, Zt, Zu, Zv, gval, Zw, rb0, rb1, rb2, rb3, rb4, tf0, tf1, tf2, tf3, tf4, tf5, tf6, Yk, Yh, overL_one, if_pos, stX_exactN, ga5, gb5, b1, b2, Bool.not_false]
  obtain ⟨h6, hh6⟩ : ∃ h6, (h5.new (cellsB [.int .i64 0, .int .i64 0, .int .i64 0, .bool false, .int .i64 0] .exact)).upd h5.nx (cellsB [iI 4, iI 0, iI 0, .bool false, iI 0] .exact) = h6 := ⟨_, rfl⟩
  rw [hh6]
  have n6 : h6.nx = h5.nx + 1 := by rw [← hh6]; simp only [Heap.nx_new, Heap.nx_upd]
  have k6 : ∀ b', b' < h5.nx → h6.get b' = h5.get b' := fun b' hb' => by rw [← hh6]; simp (disch := (first | omega | rfl | (simp only [Yn]; omega))) only [Yh, Yc]
  have x6 := x5.keep' (h' := h6) (by omega) k6
  refine runC_of (ended_wf x6 fun h7 n7 k7 => ?_)
  have x7 := x6.keep' n7 k7
  simp (disch := (first | omega | rfl | (simp only [Yn]; omega))) only [↓reduceIte, reduceCtorEq, Za, Zb, Zc, Zd, Ze, Zf, Zg, Zh, Zi, Zj, Zk, Zl, Zm, Zn, Zo, Zp, Zq, Zr, Zs, Zt, Zu, Zv, gval, Zw, rb0, rb1, rb2, rb3, rb4, tf0, tf1, tf2, tf3, tf4, tf5, tf6, Yk, Yh, overL_one, if_pos, stX_exactN]
  refine runC_of (number0_wf fun h8 n8 k8 => ?_)
  have x8 := x7.keep' n8 k8
  have gb8 := (k8 (h.nx + 1) (by omega)).trans ((k7 (h.nx + 1) (by omega)).trans ((k6 (h.nx + 1) (by omega)).trans gb5))
  simp (disch := (first | omega | rfl | (simp only [Yn]; omega))) only [↓reduceIte, reduceCtorEq, Za, Zb, Zc, Zd, Ze, Zf, Zg, Zh, Zi, Zj, Zk, Zl, Zm, Zn, Zo, Zp, Zq, Zr, Zs, Zt, Zu, Zv, gval, Zw, rb0, rb1, rb2, rb3, rb4, tf0, tf1, tf2, tf3, tf4, tf5, tf6, Yk, Yh, overL_one, if_pos, stX_exactN, gb8]
  exact hR _ (by rw [Heap.nx_upd]; omega) (x8.keepX (by rw [Heap.nx_upd]; exact Nat.le_refl _) fun b' hb' => Heap.get_upd_ne _ _ (by omega)) fun b' w1 w2 w3 => by rw [Heap.get_upd_ne _ _ (by omega), k8 _ (by omega), k7 _ (by omega), k6 _ (by omega), k5 _ (by omega) w2 w3, k4 _ (by omega), k3 _ (by omega), k2 _ w1]
set_option maxRecDepth 100000 in
set_option maxHeartbeats 1000000 in
theorem doClose (x : St h false q) {s : ByteArray} (hR : ∀ h', h.nx ≤ h'.nx → St h' true q → R (.ret (tA 0 .empty false)) h') :
    WF Tryz.prog 1 spP 39 [pT 23, .iface 23 (pT 25), iI 1, cA 6 4 0 .empty, .string s] h R := by
  refine wf_fn (fn := Tryz.f39) rfl rfl (by kernel_rfl) rfl ?_
  have hnx := x.nx
  simp (disch := (first | omega | rfl | (simp only [Yn]; omega))) only [↓reduceIte, reduceCtorEq, Za, Zb, Zc, Zd, Ze, Zf, Zg, Zh, Zi, Zj, Zk, Zl, Zm, Zn, Zo, Zp, Zq, Zr, Zs, Zt, Zu, Zv, gval, Zw, rb0, rb1, rb2, rb3, rb4, tf0, tf1, tf2, tf3, tf4, tf5, tf6, Yk, Yh, overL_one, if_pos, stX_exactN, Tryz.f39]
  obtain ⟨h2, hh2⟩ : ∃ h2, (h.new (cellsB [iI 6, .int .u64 4, .int .u64 0, .int .u64 0, .string .empty, .string .empty] .exact)).new (cellsB [.int .i64 0, .int .i64 0, .string .empty, .int .i64 0, .int .i64 0] .exact) = h2 := ⟨_, rfl⟩
  have n2 : h2.nx = h.nx + 2 := by rw [← hh2, Heap.nx_new, Heap.nx_new]
  have ga : h2.get h.nx = some (cellsB [iI 6, .int .u64 4, .int .u64 0, .int .u64 0, .string .empty, .string .empty] .exact) := by rw [← hh2]; simp (disch := (first | omega | rfl | (simp only [Yn]; omega))) only [Yh, Yc]
  have gb : h2.get (h.nx + 1) = some (cellsB [.int .i64 0, .int .i64 0, .string .empty, .int .i64 0, .int .i64 0] .exact) := by rw [← hh2]; simp (disch := (first | omega | rfl | (simp only [Yn]; omega))) only [Yh, Yc]
  have k2 : ∀ b', b' < h.nx → h2.get b' = h.get b' := fun b' hb' => by rw [← hh2]; simp (disch := (first | omega | rfl | (simp only [Yn]; omega))) only [Yh, Yc]
  rw [hh2]
  have x2 := x.keep' (h' := h2) (by omega) k2
  refine runC_of (live_wf x2 ?_)
  simp (disch := (first | omega | rfl | (simp only [Yn]; omega))) only [↓reduceIte, reduceCtorEq, Za, Zb, Zc, Zd, Ze, Zf, Zg, Zh, Zi, Zj, Zk, Zl, Zm, Zn, Zo, Zp, Zq, Zr, Zs, Zt, Zu, Zv, gval, Zw, rb0, rb1, rb2, rb3, rb4, tf0, tf1, tf2, tf3, tf4, tf5, tf6, Yk, Yh, overL_one, if_pos, stX_exactN, ga, gb]
  refine runC_of (do_close x2 fun h3 n3 x3 k3 => ?_)
  have gb3 := (k3 (h.nx + 1) (by omega) (by omega) (by omega)).trans gb
  have hbq : Nat.beq h3.nx (h.nx + 1) = false := by rw [← Bool.not_eq_true, Nat.beq_eq]; omega
  simp (disch := (first | omega | rfl | (simp only [Yn]; omega))) only [↓reduceIte, reduceCtorEq, Za, Zb, Zc, Zd, Ze, Zf, Zg, Zh, Zi, Zj, Zk, Zl, Zm, Zn, Zo, Zp, Zq, Zr, Zs, Zt, Zu, Zv, gval, Zw, rb0, rb1, rb2, rb3, rb4, tf0, tf1, tf2, tf3, tf4, tf5, tf6, Yk, Yh, overL_one, if_pos, stX_exactN]
  refine run_draw (ps := [(3, 6), (5, 6)]) (by kernel_rfl) (by kernel_rfl) ?_
  simp (disch := (first | omega | rfl | (simp only [Yn]; omega))) only [↓reduceIte, reduceCtorEq, Za, Zb, Zc, Zd, Ze, Zf, Zg, Zh, Zi, Zj, Zk, Zl, Zm, Zn, Zo, Zp, Zq, Zr, Zs, Zt, Zu, Zv, gval, Zw, rb0, rb1, rb2, rb3, rb4, tf0, tf1, tf2, tf3, tf4, tf5, tf6, Yk, Yh, overL_one, if_pos, stX_exactN, gb3, hbq, Bool.not_false]
  exact hR _ (by simp only [Heap.nx_upd, Heap.nx_new]; omega) (x3.keepX (by simp only [Heap.nx_upd, Heap.nx_new]; omega) fun b' hb' => by rw [Heap.get_upd_ne _ _ (by omega), Heap.get_upd_ne _ _ (by omega), Heap.get_new_ne _ _ (by omega)])
theorem doWrite (x : St h false q) {t : List UInt8} (ht : t ≠ []) (hl : t.length ≤ 1000)
    (hR : ∀ h', h.nx ≤ h'.nx → St h' false (q ++ t.take (8 - q.length)) → (∀ b, b < h.nx → b ≠ 322 → h'.get b = h.get b) → R (.ret (bif decide (min t.length (8 - q.length) = 0) then tA 0 .empty true else tA (min t.length (8 - q.length) : Nat) .empty false)) h') :
    WF Tryz.prog 1 spP 39 [pT 23, .iface 23 (pT 25), iI 1, cA 8 4 0 (mkS t), .string .empty] h R :=
  doO_wf x (fun x2 hR2 => do_write x2 ht hl hR2) hR
theorem doRead1 (x : St h B q) {n : Nat} (hn : 1 ≤ n ∧ n ≤ 20) (hq : q ≠ [])
    (hR : ∀ h', h.nx ≤ h'.nx → St h' B (q.drop n) → (∀ b, b < h.nx → b ≠ 322 → h'.get b = h.get b) → R (.ret (tA (min n q.length : Nat) (mkS (q.take n)) false)) h') :
    WF Tryz.prog 1 spP 39 [pT 23, .iface 23 (pT 25), iI 1, cA 7 3 n .empty, .string (mkS [])] h R :=
  doO_wf (w := false) x (fun x2 hR2 => do_read x2 hn (fun _ => hR2) fun e => absurd e hq) hR
theorem doRead2 (x : St h B []) {n : Nat} (hn : 1 ≤ n ∧ n ≤ 20)
    (hR : ∀ h', h.nx ≤ h'.nx → St h' B [] → (∀ b, b < h.nx → b ≠ 322 → h'.get b = h.get b) → R (.ret (tA 0 .empty (!B))) h') :
    WF Tryz.prog 1 spP 39 [pT 23, .iface 23 (pT 25), iI 1, cA 7 3 n .empty, .string (mkS [])] h R :=
  doO_wf (w := !B) x (fun x2 hR2 => do_read x2 hn (fun e => absurd rfl e) fun _ => hR2) (by cases B <;> exact hR)
end Go.Proofs.YtgdbknbgpkmncaaGreatDoor
end
section
/- A core with a pipe, behind the law's argument: run once. No condition. -/
namespace Go.Proofs.YtgdbknbgpkmncaaGreatDoor
open Go.AM
open Nat renaming reduceBEq → Za, reduceEqDiff → Zb, reduceAdd → Zc, reduceSub → Zd, reduceMul → Ze, reduceLT → Zf, reduceLeDiff → Zg, reduceDiv → Zh, reduceMod → Zi, reducePow → Zj
open Int renaming reduceAdd → Zk, reduceSub → Zl, reduceMul → Zm, reduceLT → Zn, reduceLE → Zo, reduceEq → Zp, reduceNe → Zq, reduceNeg → Zr, reduceToNat → Zs, reduceDiv → Zt, reduceMod → Zu, reducePow → Zv, cast_ofNat_Int → Zw
set_option linter.unusedSimpArgs false
variable {R : Out → Heap → Prop}
noncomputable def beH (H : Heap) : Heap := match acallQ Tryz.prog (0 + 1) spP 3000 60 38 [iI 40, .slice none 0 0] H with
  | some (_, h) => h
  | none => H
noncomputable def ppH (H : Heap) : Heap := match acallQ Tryz.prog (0 + 1) spP 3000 60 39 [pT 23, .iface 23 (pT 25), iI 1, cA 9 0 0 .empty, .string .empty] (beH H) with
  | some (_, h) => h
  | none => H
set_option maxRecDepth 100000 in
theorem be_run (X : Blk) : ∀ fu d, acallQ Tryz.prog (0 + 1) spP (fu + 3000) (d + 60) 38 [iI 40, .slice none 0 0] (H0.new X) = some (.ret (pT 168), beH (H0.new X)) := fun fu d => by kernel_rfl
set_option maxRecDepth 100000 in
theorem pp_run (X : Blk) : ∀ fu d, acallQ Tryz.prog (0 + 1) spP (fu + 3000) (d + 60) 39 [pT 23, .iface 23 (pT 25), iI 1, cA 9 0 0 .empty, .string .empty] (beH (H0.new X)) = some (.ret (.tuple #[.agg #[iI 0, iI 0, .string .empty, iI 3, iI 4], .string .empty, iI 0, .bool false]), ppH (H0.new X)) := fun fu d => by kernel_rfl
set_option maxRecDepth 100000 in
theorem pp_f (X : Blk) : ((beH (H0.new X)).get 168, (ppH (H0.new X)).get 0, (ppH (H0.new X)).get 1, (ppH (H0.new X)).get 2, (ppH (H0.new X)).get 3, (ppH (H0.new X)).get 21, (ppH (H0.new X)).get 22, (ppH (H0.new X)).get 23, (ppH (H0.new X)).get 168, (ppH (H0.new X)).get 215, (ppH (H0.new X)).get 216, (ppH (H0.new X)).get 225, (ppH (H0.new X)).get 236, (ppH (H0.new X)).get 325, (ppH (H0.new X)).get 340, (ppH (H0.new X)).get 322, Nat.ble 358 (ppH (H0.new X)).nx) =
    (some (cellsB [pT 23, pT 25, pT 46, pT 47] .exact), some (tabBlk .u8 tab), some X, some (cellsB (fdsL false) .exact), some (cellsB (pT 322 :: List.replicate 15 (.pointer none)) .exact), some (.map [(iI 1, pT 215, 0)] 1), some (cellsB [.map (some 21)] .exact), some (cellsB coreL .exact), some (cellsB [pT 23, pT 25, pT 46, pT 47] .exact), some (cellsB [.bool false, iI 0, iI 0] .exact),
      some (cellsB (fileV 1 1) .exact), some (cellsB (fileV 1 1) .exact), some (cellsB (fileV 1 1) .exact), some (cellsB (fileV 3 1) .exact), some (cellsB (fileV 4 1) .exact), some (cellsB (ringV [0, 0, 0, 0, 0, 0, 0, 0] 0 0) .exact), true) := by kernel_rfl
theorem be_wf {X : Blk} (hR : R (.ret (pT 168)) (beH (H0.new X))) : WF Tryz.prog 1 spP 38 [iI 40, .slice none 0 0] (H0.new X) R := by
  refine ⟨_, _, ⟨3000, fun fu d h1 h2 => ?_⟩, hR⟩
  obtain ⟨fu, rfl⟩ : ∃ k, fu = k + 3000 := ⟨fu - 3000, by omega⟩
  obtain ⟨d, rfl⟩ : ∃ k, d = k + 60 := ⟨d - 60, by omega⟩
  rw [← acallQ_eq]; exact be_run X fu d
theorem pp_wf {X : Blk} (hR : R (.ret (.tuple #[.agg #[iI 0, iI 0, .string .empty, iI 3, iI 4], .string .empty, iI 0, .bool false])) (ppH (H0.new X))) : WF Tryz.prog 1 spP 39 [pT 23, .iface 23 (pT 25), iI 1, cA 9 0 0 .empty, .string .empty] (beH (H0.new X)) R := by
  refine ⟨_, _, ⟨3000, fun fu d h1 h2 => ?_⟩, hR⟩
  obtain ⟨fu, rfl⟩ : ∃ k, fu = k + 3000 := ⟨fu - 3000, by omega⟩
  obtain ⟨d, rfl⟩ : ∃ k, d = k + 60 := ⟨d - 60, by omega⟩
  rw [← acallQ_eq]; exact pp_run X fu d
theorem pp_st (X : Blk) : (beH (H0.new X)).get 168 = some (cellsB [pT 23, pT 25, pT 46, pT 47] .exact) ∧ St (ppH (H0.new X)) false [] ∧ (ppH (H0.new X)).get 1 = some X := by
  have hf := pp_f X
  simp only [Prod.mk.injEq] at hf
  obtain ⟨f0, f1, f2, f3, f4, f5, f6, f7, f8, f9, f10, f11, f12, f13, f14, f15, f16⟩ := hf
  exact ⟨f0, ⟨f1, f3, f4, f5, f6, f7, f8, f9, f10, f11, f12, f13, f14, ⟨_, _, f15, rfl, by omega, by simp, fun i hi => absurd hi (Nat.not_lt_zero _)⟩, Nat.le_of_ble_eq_true f16⟩, f2⟩
end Go.Proofs.YtgdbknbgpkmncaaGreatDoor
end
section
/- UnixPipes: the law's own steps. Conditions: the texts are lengths. -/
namespace Go.Proofs.YtgdbknbgpkmncaaGreatDoor
open Go.AM
open Nat renaming reduceBEq → Za, reduceEqDiff → Zb, reduceAdd → Zc, reduceSub → Zd, reduceMul → Ze, reduceLT → Zf, reduceLeDiff → Zg, reduceDiv → Zh, reduceMod → Zi, reducePow → Zj
open Int renaming reduceAdd → Zk, reduceSub → Zl, reduceMul → Zm, reduceLT → Zn, reduceLE → Zo, reduceEq → Zp, reduceNe → Zq, reduceNeg → Zr, reduceToNat → Zs, reduceDiv → Zt, reduceMod → Zu, reducePow → Zv, cast_ofNat_Int → Zw
set_option linter.unusedSimpArgs false
variable {h : Heap} {R : Out → Heap → Prop} {B : Bool} {q : List UInt8}
set_option maxRecDepth 100000 in
theorem ne72 (x y : Operand) (g : Nat → Option Blk) : effBin Tryz.prog .neq 72 x y (.agg #[iI 3, iI 4]) (.agg #[iI 3, iI 4]) g = ret (.bool false) := by kernel_rfl
set_option maxRecDepth 100000 in
theorem eq74 (x y : Operand) (g : Nat → Option Blk) : effBin Tryz.prog .eql 74 x y (.agg #[iI 0, iI 0, .string .empty, iI 0, iI 0]) (.agg #[iI 0, iI 0, .string .empty, iI 0, iI 0]) g = ret (.bool true) := by kernel_rfl
theorem str_add (t : TypeId) (x y : Operand) {a b : List UInt8} (hl : a.length + b.length ≤ 100000) (g : Nat → Option Blk) : effBin Tryz.prog .add t x y (.string (mkS a)) (.string (mkS b)) g = ret (.string (mkS (a ++ b))) := by
  rw [effBin_str]
  have h2 : strOp .add (mkS a) (mkS b) = some (.string (mkS a ++ mkS b)) := by
    unfold strOp
    simp only [mkS_size]
    rw [if_pos (by omega)]
  rw [h2]
  show ret (.string (mkS a ++ mkS b)) = _
  have : mkS a ++ mkS b = mkS (a ++ b) := by
    have h1 : (mkS a ++ mkS b).data = (mkS (a ++ b)).data := by
      rw [ByteArray.data_append]
      show a.toArray ++ b.toArray = (a ++ b).toArray
      rw [List.append_toArray]
    cases hx : mkS a ++ mkS b with
    | mk d => rw [hx] at h1; exact congrArg ByteArray.mk h1
  rw [this]
set_option maxRecDepth 100000 in
set_option maxHeartbeats 1000000 in
theorem bread_wf (x : St h false q) (hq : q ≠ []) {n : Nat} (hn : 1 ≤ n ∧ n ≤ 20)
    (hR : ∀ h', h.nx ≤ h'.nx → St h' false (q.drop n) → (∀ b, b < h.nx → b ≠ 322 → h'.get b = h.get b) → R (.ret (.tuple #[.string (mkS (q.take n)), .bool true])) h') :
    WF Tryz.prog 1 spP 40 [pT 168, iI n] h R := by
  refine wf_fn (fn := Tryz.f40) rfl rfl (by kernel_rfl) rfl ?_
  have hnx := x.nx
  have g168 := x.g167
  have wn : wrapF .u64 (n : Int) = (n : Int) := wrapU (by omega) (by omega)
  simp (disch := (first | omega | rfl | (simp only [Yn]; omega))) only [↓reduceIte, reduceCtorEq, Za, Zb, Zc, Zd, Ze, Zf, Zg, Zh, Zi, Zj, Zk, Zl, Zm, Zn, Zo, Zp, Zq, Zr, Zs, Zt, Zu, Zv, gval, Zw, rb0, rb1, rb2, rb3, rb4, tf0, tf1, tf2, tf3, tf4, tf5, tf6, Yk, Yh, overL_one, if_pos, stX_exactN, Tryz.f40]
  refine run_draw (ps := [(3, 10), (7, 10), (3, 11), (7, 11), (3, 18), (7, 18), (10, 18), (11, 18), (12, 18)]) (by kernel_rfl) (by kernel_rfl) ?_
  simp (disch := (first | omega | rfl | (simp only [Yn]; omega))) only [↓reduceIte, reduceCtorEq, Za, Zb, Zc, Zd, Ze, Zf, Zg, Zh, Zi, Zj, Zk, Zl, Zm, Zn, Zo, Zp, Zq, Zr, Zs, Zt, Zu, Zv, gval, Zw, rb0, rb1, rb2, rb3, rb4, tf0, tf1, tf2, tf3, tf4, tf5, tf6, Yk, Yh, overL_one, if_pos, stX_exactN, g168, ifc23, wn]
  refine runCR_of (doRead1 x hn hq fun h2 n2 x2 k2 => ?_)
  have b1 : Nat.beq 168 h2.nx = false := by rw [← Bool.not_eq_true, Nat.beq_eq]; omega
  have g2 := x2.g167
  have sb : sameB (h.get 168) (h2.get 168) = true := by rw [g168, g2]; exact sameB_of rfl
  have hl1 : 1 ≤ q.length := by
    cases q with
    | nil => exact absurd rfl hq
    | cons _ _ => exact Nat.succ_le_succ (Nat.zero_le _)
  have hm : ¬ ((min n q.length : Nat) : Int) = 0 := by omega
  have hl : (q.take n).length = min n q.length := List.length_take
  simp (disch := (first | omega | rfl | (simp only [Yn]; omega))) only [↓reduceIte, reduceCtorEq, Za, Zb, Zc, Zd, Ze, Zf, Zg, Zh, Zi, Zj, Zk, Zl, Zm, Zn, Zo, Zp, Zq, Zr, Zs, Zt, Zu, Zv, gval, Zw, rb0, rb1, rb2, rb3, rb4, tf0, tf1, tf2, tf3, tf4, tf5, tf6, Yk, Yh, overL_one, if_pos, stX_exactN, b1, sb, Bool.not_false, hm, mkS_size, hl]
  exact hR _ (by simp only [Heap.nx_upd, Heap.nx_new]; omega) (x2.keepX (by simp only [Heap.nx_upd, Heap.nx_new]; omega) fun b' hb' => by rw [Heap.get_upd_ne _ _ (by omega), Heap.get_new_ne _ _ (by omega)]) fun b' w1 w2 => by rw [Heap.get_upd_ne _ _ (by omega), Heap.get_new_ne _ _ (by omega)]; exact k2 b' w1 w2
structure ArgT (v : Value) (L : List (List UInt8)) (i : Nat) (X : Blk) : Prop where
  is : ∃ a c, v = .slice a L.length c ∧ (L.length = 0 ∨ (a = some ⟨i, 0, none⟩ ∧ X = cellsB (strs L) .ro))
set_option maxRecDepth 100000 in
set_option maxHeartbeats 4000000 in
theorem pipes_walk {v : Value} {L : List (List UInt8)} {X : Blk} (ax : ArgT v L 1 X) {n : Int} (hR : ∀ h, R (.ret (.bool true)) h) :
    WF Tryz.prog 1 spP 6 [v, .int .i64 n] (H0.new X) R := by
  refine wf_fn (fn := Tryz.f6) rfl rfl (by kernel_rfl) rfl ?_
  obtain ⟨a, c, rfl, ha⟩ := ax.is
  obtain ⟨be168, x0, gX⟩ := pp_st X
  obtain ⟨m, hm, hm1, hm2⟩ : ∃ m : Nat, (if 1 < (if 20 < n then 20 else n) then (if 20 < n then 20 else n) else 1) = (m : Int) ∧ 1 ≤ m ∧ m ≤ 20 := by
    refine ⟨(if 1 < (if 20 < n then 20 else n) then (if 20 < n then 20 else n) else 1).toNat, ?_, ?_, ?_⟩
    · (repeat' split) <;> omega
    · (repeat' split) <;> omega
    · (repeat' split) <;> omega
  simp only [↓reduceIte, reduceCtorEq, Za, Zb, Zc, Zd, Ze, Zf, Zg, Zh, Zi, Zj, Zk, Zl, Zm, Zn, Zo, Zp, Zq, Zr, Zs, Zt, Zu, Zv, gval, Zw, rb0, rb1, rb2, rb3, rb4, tf0, tf1, tf2, tf3, tf4, tf5, tf6, Yk, Tryz.f6]
  refine runC_of (be_wf ?_)
  simp only [↓reduceIte, reduceCtorEq, Za, Zb, Zc, Zd, Ze, Zf, Zg, Zh, Zi, Zj, Zk, Zl, Zm, Zn, Zo, Zp, Zq, Zr, Zs, Zt, Zu, Zv, gval, Zw, rb0, rb1, rb2, rb3, rb4, tf0, tf1, tf2, tf3, tf4, tf5, tf6, Yk]
  refine run_draw (ps := [(3, 9), (7, 9), (3, 16), (7, 16), (9, 16), (10, 16)]) (by kernel_rfl) (by kernel_rfl) ?_
  simp (disch := (first | omega | rfl | (simp only [Yn]; omega))) only [↓reduceIte, reduceCtorEq, Za, Zb, Zc, Zd, Ze, Zf, Zg, Zh, Zi, Zj, Zk, Zl, Zm, Zn, Zo, Zp, Zq, Zr, Zs, Zt, Zu, Zv, gval, Zw, rb0, rb1, rb2, rb3, rb4, tf0, tf1, tf2, tf3, tf4, tf5, tf6, Yk, Yh, overL_one, if_pos, stX_exactN, be168, ifc23]
  refine runCR_of (pp_wf ?_)
  have hnx := x0.nx
  have g168 := x0.g167
  have b1 : Nat.beq 168 (ppH (H0.new X)).nx = false := by rw [← Bool.not_eq_true, Nat.beq_eq]; omega
  have sb : sameB ((beH (H0.new X)).get 168) ((ppH (H0.new X)).get 168) = true := by rw [g168, be168]; exact sameB_of rfl
  simp (disch := (first | omega | rfl | (simp only [Yn]; omega))) only [↓reduceIte, reduceCtorEq, Za, Zb, Zc, Zd, Ze, Zf, Zg, Zh, Zi, Zj, Zk, Zl, Zm, Zn, Zo, Zp, Zq, Zr, Zs, Zt, Zu, Zv, gval, Zw, rb0, rb1, rb2, rb3, rb4, tf0, tf1, tf2, tf3, tf4, tf5, tf6, Yk, Yh, overL_one, if_pos, stX_exactN, b1, sb, Bool.not_false, ne72, hm]
  obtain ⟨h1, hh1⟩ : ∃ h1, ((ppH (H0.new X)).new (cellsB [.int .i64 0, .int .i64 0, .string .empty, .int .i64 0, .int .i64 0] .exact)).upd (ppH (H0.new X)).nx (cellsB [iI 0, iI 0, .string .empty, iI 3, iI 4] .exact) = h1 := ⟨_, rfl⟩
  rw [hh1]
  have n1 : h1.nx = (ppH (H0.new X)).nx + 1 := by rw [← hh1]; simp only [Heap.nx_new, Heap.nx_upd]
  have k1 : ∀ b', b' < (ppH (H0.new X)).nx → h1.get b' = (ppH (H0.new X)).get b' := fun b' hb' => by rw [← hh1]; simp (disch := (first | omega | rfl | (simp only [Yn]; omega))) only [Yh, Yc]
  have x1 := x0.keep' (h' := h1) (by omega) k1
  have gX1 : h1.get 1 = some X := (k1 1 (by omega)).trans gX
  refine run_loop2 rfl (fun N e h' => ∃ (i : Nat) (q inn out : List UInt8), N = 30 - i ∧ i ≤ 30 ∧ inn = out ++ q ∧ inn.length ≤ 50 * i ∧ e.at 0 = .slice a L.length c ∧ e.at 1 = .int .i64 (m : Int) ∧ e.at 5 = pT 168 ∧ e.at 10 = .string (mkS inn) ∧ e.at 11 = .string (mkS out) ∧ e.at 12 = .int .i64 (i : Int) ∧ St h' false q ∧ h'.get 1 = some X)
    (fun ex e h' => ex = .exit 0 ∧ ∃ (q inn out : List UInt8), inn = out ++ q ∧ inn.length ≤ 1500 ∧ e.at 1 = .int .i64 (m : Int) ∧ e.at 5 = pT 168 ∧ e.at 10 = .string (mkS inn) ∧ e.at 11 = .string (mkS out) ∧ St h' false q) ?_ 30 _ _ ?_ ?_
  · rintro N e h2 ⟨i, q, inn, out, rfl, hi, rfl, hil, e0, e1, e5, e10, e11, e12, x2, gX2⟩ Q' hQn hQx
    have hnx2 := x2.nx
    have hq8 := x2.rg.len
    by_cases d1 : i < L.length ∧ i < 30
    · obtain ⟨d1, d2⟩ := d1
      have d1' : (i : Int) < (L.length : Int) := by omega
      have d2' : (i : Int) < 30 := by omega
      have d0' : (0 : Int) ≤ (i : Int) := by omega
      obtain ⟨t, ht⟩ : ∃ t, L[i]? = some t := ⟨_, List.getElem?_eq_getElem d1⟩
      rcases ha with ha | ⟨rfl, rfl⟩
      · omega
      have hs := strs_at ht
      have hsl := strs_len L
      have w1 : wrapF .i64 ((i : Int) + 1) = ((i + 1 : Nat) : Int) := by rw [wrapI (by omega) (by omega)]; omega
      by_cases c1 : t = []
      · have c1' : decide (t = []) = true := decide_eq_true c1
        simp (disch := (first | omega | rfl | (simp only [Yn]; omega))) only [↓reduceIte, reduceCtorEq, Za, Zb, Zc, Zd, Ze, Zf, Zg, Zh, Zi, Zj, Zk, Zl, Zm, Zn, Zo, Zp, Zq, Zr, Zs, Zt, Zu, Zv, gval, Zw, rb0, rb1, rb2, rb3, rb4, tf0, tf1, tf2, tf3, tf4, tf5, tf6, Yk, Yh, overL_one, if_pos, stX_exactN, e0, e1, e5, e10, e11, e12, d1', d2', d0', gX2, hs, hsl, str_eqG, c1', runG_undef, w1, Nat.mul_one, Nat.zero_add]
        exact hQn _ _ _ (by omega) ⟨i + 1, q, _, out, rfl, by omega, rfl, by omega, by simp only [Za, Zw, Ye, e0], by simp only [Za, Zw, Ye, e1], by simp only [Za, Zw, Ye, e5], by simp only [Za, Zw, Ye, e10], by simp only [Za, Zw, Ye, e11], by simp only [Za, Zw, Ye], x2, gX2⟩
      have c1' : decide (t = []) = false := decide_eq_false c1
      by_cases c2 : (50 : Int) < (t.length : Int)
      · simp (disch := (first | omega | rfl | (simp only [Yn]; omega))) only [↓reduceIte, reduceCtorEq, Za, Zb, Zc, Zd, Ze, Zf, Zg, Zh, Zi, Zj, Zk, Zl, Zm, Zn, Zo, Zp, Zq, Zr, Zs, Zt, Zu, Zv, gval, Zw, rb0, rb1, rb2, rb3, rb4, tf0, tf1, tf2, tf3, tf4, tf5, tf6, Yk, Yh, overL_one, if_pos, stX_exactN, e0, e1, e5, e10, e11, e12, d1', d2', d0', gX2, hs, hsl, str_eqG, c1', c2, mkS_size, w1, Nat.mul_one, Nat.zero_add]
        exact hQn _ _ _ (by omega) ⟨i + 1, q, _, out, rfl, by omega, rfl, by omega, by simp only [Za, Zw, Ye, e0], by simp only [Za, Zw, Ye, e1], by simp only [Za, Zw, Ye, e5], by simp only [Za, Zw, Ye, e10], by simp only [Za, Zw, Ye, e11], by simp only [Za, Zw, Ye], x2, gX2⟩
      have g168b := x2.g167
      simp (disch := (first | omega | rfl | (simp only [Yn]; omega))) only [↓reduceIte, reduceCtorEq, Za, Zb, Zc, Zd, Ze, Zf, Zg, Zh, Zi, Zj, Zk, Zl, Zm, Zn, Zo, Zp, Zq, Zr, Zs, Zt, Zu, Zv, gval, Zw, rb0, rb1, rb2, rb3, rb4, tf0, tf1, tf2, tf3, tf4, tf5, tf6, Yk, Yh, overL_one, if_pos, stX_exactN, e0, e1, e5, e10, e11, e12, d1', d2', d0', gX2, hs, hsl, str_eqG, c1', c2, mkS_size, w1, Nat.mul_one, Nat.zero_add]
      refine run_draw (ps := [(3, 13), (7, 13), (3, 20), (7, 20), (12, 20), (13, 20), (14, 20)]) (by kernel_rfl) (by kernel_rfl) ?_
      simp (disch := (first | omega | rfl | (simp only [Yn]; omega))) only [↓reduceIte, reduceCtorEq, Za, Zb, Zc, Zd, Ze, Zf, Zg, Zh, Zi, Zj, Zk, Zl, Zm, Zn, Zo, Zp, Zq, Zr, Zs, Zt, Zu, Zv, gval, Zw, rb0, rb1, rb2, rb3, rb4, tf0, tf1, tf2, tf3, tf4, tf5, tf6, Yk, Yh, overL_one, if_pos, stX_exactN, e0, e5, e12, g168b, ifc23, gX2, hs, hsl, d1', d0', Nat.mul_one, Nat.zero_add]
      refine runCR_of (doWrite x2 c1 (by omega) fun h3 n3 x3 k3 => ?_)
      have b168 : Nat.beq 168 h3.nx = false := by rw [← Bool.not_eq_true, Nat.beq_eq]; omega
      have b001 : Nat.beq 1 h3.nx = false := by rw [← Bool.not_eq_true, Nat.beq_eq]; omega
      have gX3 : h3.get 1 = some (cellsB (strs L) .ro) := (k3 1 (by omega) (by omega)).trans gX2
      have g168c := x3.g167
      have s168 : sameB (h2.get 168) (h3.get 168) = true := by rw [g168b, g168c]; exact sameB_of rfl
      have s001 : sameB (h2.get 1) (h3.get 1) = true := by rw [gX2, gX3]; exact sameB_of rfl
      have tl0 : t.length ≠ 0 := fun q => c1 (List.eq_nil_of_length_eq_zero q)
      have hlt3 : h3.nx < h3.nx + 1 := by omega
      by_cases c3 : min t.length (8 - q.length) = 0
      · have hq : q.length = 8 := by omega
        have hqn : q ≠ [] := fun q0 => by rw [q0] at hq; cases hq
        rw [show 8 - q.length = 0 by omega, List.take_zero, List.append_nil] at x3
        have c3' : decide (min t.length (8 - q.length) = 0) = true := decide_eq_true c3
        rw [c3', cond_true]
        simp (disch := (first | omega | rfl | (simp only [Yn]; omega))) only [↓reduceIte, reduceCtorEq, Za, Zb, Zc, Zd, Ze, Zf, Zg, Zh, Zi, Zj, Zk, Zl, Zm, Zn, Zo, Zp, Zq, Zr, Zs, Zt, Zu, Zv, gval, Zw, rb0, rb1, rb2, rb3, rb4, tf0, tf1, tf2, tf3, tf4, tf5, tf6, Yk, Yh, overL_one, if_pos, stX_exactN, b168, b001, s168, s001, Bool.not_false, e1, e5]
        obtain ⟨h4, hh4⟩ : ∃ h4, (h3.new (cellsB [.int .i64 0, .int .i64 0, .string .empty, .int .i64 0, .int .i64 0] .exact)).upd h3.nx (cellsB [iI 0, iI 0, .string .empty, iI 0, iI 0] .exact) = h4 := ⟨_, rfl⟩
        rw [hh4]
        have n4 : h4.nx = h3.nx + 1 := by rw [← hh4]; simp only [Heap.nx_new, Heap.nx_upd]
        have k4 : ∀ b', b' < h3.nx → h4.get b' = h3.get b' := fun b' hb' => by rw [← hh4]; simp (disch := (first | omega | rfl | (simp only [Yn]; omega))) only [Yh, Yc]
        have x4 := x3.keep' (h' := h4) (by omega) k4
        refine runC_of (bread_wf x4 hqn (n := m) ⟨hm1, hm2⟩ fun h5 n5 x5 k5 => ?_)
        have j1 : out.length + (q.take m).length ≤ 100000 := by rw [List.length_append] at hil; rw [List.length_take]; omega
        simp (disch := (first | omega | rfl | (simp only [Yn]; omega))) only [↓reduceIte, reduceCtorEq, Za, Zb, Zc, Zd, Ze, Zf, Zg, Zh, Zi, Zj, Zk, Zl, Zm, Zn, Zo, Zp, Zq, Zr, Zs, Zt, Zu, Zv, gval, Zw, rb0, rb1, rb2, rb3, rb4, tf0, tf1, tf2, tf3, tf4, tf5, tf6, Yk, Yh, overL_one, if_pos, stX_exactN, e11, e12, w1, str_add _ _ _ j1]
        refine hQn _ _ _ (by omega) ⟨i + 1, q.drop m, _, out ++ q.take m, rfl, by omega, by rw [List.append_assoc, List.take_append_drop], by omega, by simp only [Za, Zw, Ye, e0], by simp only [Za, Zw, Ye, e1], by simp only [Za, Zw, Ye, e5], by simp only [Za, Zw, Ye, e10], by simp only [Za, Zw, Ye], by simp only [Za, Zw, Ye], x5, ?_⟩
        rw [k5 1 (by omega) (by omega), k4 1 (by omega)]; exact gX3
      · have c3' : decide (min t.length (8 - q.length) = 0) = false := decide_eq_false c3
        rw [c3', cond_false]
        generalize hmm : min t.length (8 - q.length) = mm at c3 ⊢
        have c4 : ¬ (mm : Int) < 1 := by omega
        have c5 : ¬ (t.length : Int) < (mm : Int) := by omega
        have tk : t.take (8 - q.length) = t.take mm := by
          rw [← hmm]
          by_cases c6 : t.length ≤ 8 - q.length
          · rw [Nat.min_eq_left c6, List.take_of_length_le c6, List.take_of_length_le (Nat.le_refl _)]
          · rw [Nat.min_eq_right (by omega)]
        rw [tk] at x3
        have hst := str_to tag_9 (l := t) (b := mm) (by omega)
        have j1 : (out ++ q).length + (t.take mm).length ≤ 100000 := by rw [List.length_take]; omega
        simp (disch := (first | omega | rfl | (simp only [Yn]; omega))) only [↓reduceIte, reduceCtorEq, Za, Zb, Zc, Zd, Ze, Zf, Zg, Zh, Zi, Zj, Zk, Zl, Zm, Zn, Zo, Zp, Zq, Zr, Zs, Zt, Zu, Zv, gval, Zw, rb0, rb1, rb2, rb3, rb4, tf0, tf1, tf2, tf3, tf4, tf5, tf6, Yk, Yh, overL_one, if_pos, stX_exactN, b168, b001, s168, s001, Bool.not_false, e1, e5]
        refine run_draw (ps := [(10, 15)]) (by kernel_rfl) (by kernel_rfl) ?_
        simp (disch := (first | omega | rfl | (simp only [Yn]; omega))) only [↓reduceIte, reduceCtorEq, Za, Zb, Zc, Zd, Ze, Zf, Zg, Zh, Zi, Zj, Zk, Zl, Zm, Zn, Zo, Zp, Zq, Zr, Zs, Zt, Zu, Zv, gval, Zw, rb0, rb1, rb2, rb3, rb4, tf0, tf1, tf2, tf3, tf4, tf5, tf6, Yk, Yh, overL_one, if_pos, stX_exactN, e0, e12, gX3, hs, hsl, d1', d0', c4, c5, mkS_size, Nat.mul_one, Nat.zero_add]
        refine run_draw (ps := []) (by kernel_rfl) (by kernel_rfl) ?_
        simp (disch := (first | omega | rfl | (simp only [Yn]; omega))) only [↓reduceIte, reduceCtorEq, Za, Zb, Zc, Zd, Ze, Zf, Zg, Zh, Zi, Zj, Zk, Zl, Zm, Zn, Zo, Zp, Zq, Zr, Zs, Zt, Zu, Zv, gval, Zw, rb0, rb1, rb2, rb3, rb4, tf0, tf1, tf2, tf3, tf4, tf5, tf6, Yk, Yh, overL_one, if_pos, stX_exactN, e0, e10, e12, gX3, hs, hsl, d1', d0', hst, str_add _ _ _ j1, w1, Nat.mul_one, Nat.zero_add]
        refine hQn _ _ _ (by omega) ⟨i + 1, q ++ t.take mm, (out ++ q) ++ t.take mm, out, rfl, by omega, by rw [List.append_assoc], ?_, by simp only [Za, Zw, Ye, e0], by simp only [Za, Zw, Ye, e1], by simp only [Za, Zw, Ye, e5], by simp only [Za, Zw, Ye], by simp only [Za, Zw, Ye, e11], by simp only [Za, Zw, Ye], x3.keepX (by simp only [Heap.nx_upd, Heap.nx_new]; omega) fun b' hb' => by rw [Heap.get_upd_ne _ _ (by omega), Heap.get_new_ne _ _ (by omega)], by rw [Heap.get_upd_ne _ _ (by omega), Heap.get_new_ne _ _ (by omega)]; exact gX3⟩
        rw [List.length_append, List.length_take]; omega
    · have hx : ∀ e' h', e' = e → h' = h2 → True := fun _ _ _ _ => trivial
      by_cases d2 : i < L.length
      · have d1' : (i : Int) < (L.length : Int) := by omega
        have d2' : ¬ (i : Int) < 30 := by omega
        simp only [↓reduceIte, reduceCtorEq, Za, Zb, Zc, Zd, Ze, Zf, Zg, Zh, Zi, Zj, Zk, Zl, Zm, Zn, Zo, Zp, Zq, Zr, Zs, Zt, Zu, Zv, gval, Zw, rb0, rb1, rb2, rb3, rb4, tf0, tf1, tf2, tf3, tf4, tf5, tf6, Yk, e0, e12, d1', d2']
        exact hQx _ _ _ (by simp) ⟨rfl, q, out ++ q, out, rfl, by omega, by simp only [Za, Zw, Ye, e1], by simp only [Za, Zw, Ye, e5], by simp only [Za, Zw, Ye, e10], by simp only [Za, Zw, Ye, e11], x2⟩
      · have d1' : ¬ (i : Int) < (L.length : Int) := by omega
        simp only [↓reduceIte, reduceCtorEq, Za, Zb, Zc, Zd, Ze, Zf, Zg, Zh, Zi, Zj, Zk, Zl, Zm, Zn, Zo, Zp, Zq, Zr, Zs, Zt, Zu, Zv, gval, Zw, rb0, rb1, rb2, rb3, rb4, tf0, tf1, tf2, tf3, tf4, tf5, tf6, Yk, e0, e12, d1', runG_undef]
        exact hQx _ _ _ (by simp) ⟨rfl, q, out ++ q, out, rfl, by omega, by simp only [Za, Zw, Ye, e1], by simp only [Za, Zw, Ye, e5], by simp only [Za, Zw, Ye, e10], by simp only [Za, Zw, Ye, e11], x2⟩
  · exact ⟨0, [], [], [], rfl, by omega, rfl, by simp, by simp only [Za, Zw, Ye], by simp only [Za, Zw, Ye], by simp only [Za, Zw, Ye], by simp only [Za, Zw, Ye], by simp only [Za, Zw, Ye], by simp only [Za, Zw, Ye], x1, gX1⟩
  · rintro ex e h2 - ⟨rfl, q, inn, out, rfl, hil, e1, e5, e10, e11, x2⟩
    simp only [↓reduceIte, reduceCtorEq, Za, Zb, Zc, Zd, Ze, Zf, Zg, Zh, Zi, Zj, Zk, Zl, Zm, Zn, Zo, Zp, Zq, Zr, Zs, Zt, Zu, Zv, gval, Zw, rb0, rb1, rb2, rb3, rb4, tf0, tf1, tf2, tf3, tf4, tf5, tf6, Yk]
    refine run_loop2 rfl (fun N e h' => ∃ (q2 out2 : List UInt8), N = q2.length ∧ out ++ q = out2 ++ q2 ∧ e.at 1 = .int .i64 (m : Int) ∧ e.at 5 = pT 168 ∧ e.at 10 = .string (mkS (out ++ q)) ∧ e.at 11 = .string (mkS out2) ∧ St h' false q2)
      (fun ex e h' => ex = .exit 2 ∧ e.at 5 = pT 168 ∧ e.at 10 = .string (mkS (out ++ q)) ∧ e.at 11 = .string (mkS (out ++ q)) ∧ St h' false []) ?_ q.length _ _ ?_ ?_
    · rintro N e h3 ⟨q2, out2, rfl, hio, e1, e5, e10, e11, x3⟩ Q' hQn hQx
      have hlen : (out ++ q).length = out2.length + q2.length := by rw [hio, List.length_append]
      by_cases d1 : q2 = []
      · subst d1
        have d1' : ¬ (out2.length : Int) < ((out ++ q).length : Int) := by rw [hlen]; simp
        rw [List.append_nil] at hio
        rw [hio] at d1' e10
        simp only [↓reduceIte, reduceCtorEq, Za, Zb, Zc, Zd, Ze, Zf, Zg, Zh, Zi, Zj, Zk, Zl, Zm, Zn, Zo, Zp, Zq, Zr, Zs, Zt, Zu, Zv, gval, Zw, rb0, rb1, rb2, rb3, rb4, tf0, tf1, tf2, tf3, tf4, tf5, tf6, Yk, e10, e11, mkS_size, d1']
        exact hQx _ _ _ (by simp) ⟨rfl, by simp only [Za, Zw, Ye, e5], by rw [hio]; simp only [Za, Zw, Ye, e10], by rw [hio]; simp only [Za, Zw, Ye, e11], x3⟩
      · have hl2 : 1 ≤ q2.length := by
          cases q2 with
          | nil => exact absurd rfl d1
          | cons _ _ => exact Nat.succ_le_succ (Nat.zero_le _)
        have d1' : (out2.length : Int) < ((out ++ q).length : Int) := by rw [hlen]; omega
        simp only [↓reduceIte, reduceCtorEq, Za, Zb, Zc, Zd, Ze, Zf, Zg, Zh, Zi, Zj, Zk, Zl, Zm, Zn, Zo, Zp, Zq, Zr, Zs, Zt, Zu, Zv, gval, Zw, rb0, rb1, rb2, rb3, rb4, tf0, tf1, tf2, tf3, tf4, tf5, tf6, Yk, e1, e5, e10, e11, mkS_size, d1']
        refine runC_of (bread_wf x3 d1 (n := m) ⟨hm1, hm2⟩ fun h4 n4 x4 k4 => ?_)
        have j1 : out2.length + (q2.take m).length ≤ 100000 := by rw [List.length_take]; omega
        simp only [↓reduceIte, reduceCtorEq, Za, Zb, Zc, Zd, Ze, Zf, Zg, Zh, Zi, Zj, Zk, Zl, Zm, Zn, Zo, Zp, Zq, Zr, Zs, Zt, Zu, Zv, gval, Zw, rb0, rb1, rb2, rb3, rb4, tf0, tf1, tf2, tf3, tf4, tf5, tf6, Yk, e11, str_add _ _ _ j1]
        exact hQn _ _ _ (by rw [List.length_drop]; omega) ⟨q2.drop m, out2 ++ q2.take m, rfl, by rw [List.append_assoc, List.take_append_drop]; exact hio, by simp only [Za, Zw, Ye, e1], by simp only [Za, Zw, Ye, e5], by simp only [Za, Zw, Ye, e10], by simp only [Za, Zw, Ye], x4⟩
    · exact ⟨q, out, rfl, rfl, by simp only [Za, Zw, Ye, e1], by simp only [Za, Zw, Ye, e5], by simp only [Za, Zw, Ye, e10], by simp only [Za, Zw, Ye, e11], x2⟩
    · rintro ex e h3 - ⟨rfl, e5, e10, e11, x3⟩
      have g168a := x3.g167
      have nx3 := x3.nx
      simp only [↓reduceIte, reduceCtorEq, Za, Zb, Zc, Zd, Ze, Zf, Zg, Zh, Zi, Zj, Zk, Zl, Zm, Zn, Zo, Zp, Zq, Zr, Zs, Zt, Zu, Zv, gval, Zw, rb0, rb1, rb2, rb3, rb4, tf0, tf1, tf2, tf3, tf4, tf5, tf6, Yk]
      refine run_draw (ps := [(3, 9), (7, 9), (3, 16), (7, 16), (9, 16), (10, 16)]) (by kernel_rfl) (by kernel_rfl) ?_
      simp (disch := (first | omega | rfl | (simp only [Yn]; omega))) only [↓reduceIte, reduceCtorEq, Za, Zb, Zc, Zd, Ze, Zf, Zg, Zh, Zi, Zj, Zk, Zl, Zm, Zn, Zo, Zp, Zq, Zr, Zs, Zt, Zu, Zv, gval, Zw, rb0, rb1, rb2, rb3, rb4, tf0, tf1, tf2, tf3, tf4, tf5, tf6, Yk, Yh, overL_one, if_pos, stX_exactN, e5, g168a, ifc23]
      refine runCR_of (doRead2 x3 (n := 1) ⟨by omega, by omega⟩ fun h4 n4 x4 k4 => ?_)
      have b4 : Nat.beq 168 h4.nx = false := by rw [← Bool.not_eq_true, Nat.beq_eq]; omega
      have g168b := x4.g167
      have s4 : sameB (h3.get 168) (h4.get 168) = true := by rw [g168a, g168b]; exact sameB_of rfl
      simp (disch := (first | omega | rfl | (simp only [Yn]; omega))) only [↓reduceIte, reduceCtorEq, Za, Zb, Zc, Zd, Ze, Zf, Zg, Zh, Zi, Zj, Zk, Zl, Zm, Zn, Zo, Zp, Zq, Zr, Zs, Zt, Zu, Zv, gval, Zw, rb0, rb1, rb2, rb3, rb4, tf0, tf1, tf2, tf3, tf4, tf5, tf6, Yk, Yh, overL_one, if_pos, stX_exactN, b4, s4, Bool.not_false]
      obtain ⟨h5, hh5⟩ : ∃ h5, (h4.new (cellsB [.int .i64 0, .int .i64 0, .string .empty, .int .i64 0, .int .i64 0] .exact)).upd h4.nx (cellsB [iI 0, iI 0, .string .empty, iI 0, iI 0] .exact) = h5 := ⟨_, rfl⟩
      rw [hh5]
      have n5 : h5.nx = h4.nx + 1 := by rw [← hh5]; simp only [Heap.nx_new, Heap.nx_upd]
      have k5 : ∀ b', b' < h4.nx → h5.get b' = h4.get b' := fun b' hb' => by rw [← hh5]; simp (disch := (first | omega | rfl | (simp only [Yn]; omega))) only [Yh, Yc]
      have x5 := x4.keep' (h' := h5) (by omega) k5
      have g168c := x5.g167
      refine run_draw (ps := [(3, 9), (7, 9)]) (by kernel_rfl) (by kernel_rfl) ?_
      simp (disch := (first | omega | rfl | (simp only [Yn]; omega))) only [↓reduceIte, reduceCtorEq, Za, Zb, Zc, Zd, Ze, Zf, Zg, Zh, Zi, Zj, Zk, Zl, Zm, Zn, Zo, Zp, Zq, Zr, Zs, Zt, Zu, Zv, gval, Zw, rb0, rb1, rb2, rb3, rb4, tf0, tf1, tf2, tf3, tf4, tf5, tf6, Yk, Yh, overL_one, if_pos, stX_exactN, e5, g168c, ifc23]
      refine runCR_of (doClose x5 fun h6 n6 x6 => ?_)
      have g168d := x6.g167
      have s6 : sameB (h5.get 168) (h6.get 168) = true := by rw [g168c, g168d]; exact sameB_of rfl
      simp (disch := (first | omega | rfl | (simp only [Yn]; omega))) only [↓reduceIte, reduceCtorEq, Za, Zb, Zc, Zd, Ze, Zf, Zg, Zh, Zi, Zj, Zk, Zl, Zm, Zn, Zo, Zp, Zq, Zr, Zs, Zt, Zu, Zv, gval, Zw, rb0, rb1, rb2, rb3, rb4, tf0, tf1, tf2, tf3, tf4, tf5, tf6, Yk, Yh, overL_one, if_pos, stX_exactN, s6]
      refine run_draw (ps := [(3, 9), (7, 9), (3, 16), (7, 16), (9, 16), (10, 16)]) (by kernel_rfl) (by kernel_rfl) ?_
      simp (disch := (first | omega | rfl | (simp only [Yn]; omega))) only [↓reduceIte, reduceCtorEq, Za, Zb, Zc, Zd, Ze, Zf, Zg, Zh, Zi, Zj, Zk, Zl, Zm, Zn, Zo, Zp, Zq, Zr, Zs, Zt, Zu, Zv, gval, Zw, rb0, rb1, rb2, rb3, rb4, tf0, tf1, tf2, tf3, tf4, tf5, tf6, Yk, Yh, overL_one, if_pos, stX_exactN, e5, g168d, ifc23]
      refine runCR_of (doRead2 x6 (n := 1) ⟨by omega, by omega⟩ fun h7 n7 x7 k7 => ?_)
      have b7 : Nat.beq 168 h7.nx = false := by rw [← Bool.not_eq_true, Nat.beq_eq]; have := x7.nx; omega
      have g168e := x7.g167
      have s7 : sameB (h6.get 168) (h7.get 168) = true := by rw [g168d, g168e]; exact sameB_of rfl
      have cs : decide (out ++ q = out ++ q) = true := decide_eq_true rfl
      simp (disch := (first | omega | rfl | (simp only [Yn]; omega))) only [↓reduceIte, reduceCtorEq, Za, Zb, Zc, Zd, Ze, Zf, Zg, Zh, Zi, Zj, Zk, Zl, Zm, Zn, Zo, Zp, Zq, Zr, Zs, Zt, Zu, Zv, gval, Zw, rb0, rb1, rb2, rb3, rb4, tf0, tf1, tf2, tf3, tf4, tf5, tf6, Yk, Yh, overL_one, if_pos, stX_exactN, b7, s7, Bool.not_false, e10, e11, str_eqG, cs, eq74]
      refine runC_of (aw_wf (by rw [Heap.get_upd_ne _ _ (by omega), Heap.get_new_ne _ _ (by omega)]; exact x7.tb) ?_)
      simp only [↓reduceIte, reduceCtorEq, Za, Zb, Zc, Zd, Ze, Zf, Zg, Zh, Zi, Zj, Zk, Zl, Zm, Zn, Zo, Zp, Zq, Zr, Zs, Zt, Zu, Zv, gval, Zw, rb0, rb1, rb2, rb3, rb4, tf0, tf1, tf2, tf3, tf4, tf5, tf6, Yk]
      exact hR _
end Go.Proofs.YtgdbknbgpkmncaaGreatDoor
end
section
/- From a walk behind the table's block and one more to the row. Conditions: as the rule says. -/
namespace Go.Proofs.YtgdbknbgpkmncaaGreatDoor
open Go.AM
theorem h0_new (X : Blk) : listHeap [tabBlk .u8 tab, X] = H0.new X := by kernel_rfl
theorem doorX_wf {W : World} {sp : Special} (hsp : SpecOk Tryz.prog 1 sp) {f : FuncId} {args args' : List Value} {X : Blk} {s : AM.Stat} {cs : Array Value} {el : TypeId} {fr : Nat × Nat} (t1 : W.heap[0]? = some (.cells cs el fr)) (t2 : cs.size = 64) (t3 : ∀ i, i < 64 → cs[i]? = (tab.map (Value.int .u8))[i]?)
    (r3 : ∀ m, BRel m W s (some X)) (r4 : ∀ l1, s = .live l1 → roB (some X) = true ∧ l1.rw = false) (hw : WF Tryz.prog 1 sp f args (H0.new X) fun o _ => o = .ret (.bool true)) (ha : VRels (statMp [.live ⟨0, 0, 0, 64, 64, false⟩, s]) args args') :
    Calls Tryz.prog f args'.toArray W fun e W' => e = .returned (.bool true) ∧ Still W W' := by
  refine wf_list (ng := 1) (by kernel_rfl) hsp (l := [tabBlk .u8 tab, X]) (st := [.live ⟨0, 0, 0, 64, 64, false⟩, s]) rfl (fun i st b hs hb => ?_) (fun i l b hs hb => ?_) (fun g hg => ?_) (by rw [h0_new]; exact hw) ha
  · match i with
    | 0 => cases hs; cases hb; exact tab_rel (bs := tab) t1 t2 t3
    | 1 => cases hs; cases hb; exact r3 _
    | i + 2 => simp at hs
  · match i with
    | 0 => cases hs; cases hb; exact ⟨rfl, rfl⟩
    | 1 => cases hb; exact r4 l (by simpa using hs)
    | i + 2 => simp at hs
  · obtain rfl : g = 0 := by omega
    exact .inl ⟨_, rfl, rfl, rfl, rfl⟩
end Go.Proofs.YtgdbknbgpkmncaaGreatDoor
end
section
/- Closed facts of this seat's program, each by itself: together they outgrow a process. -/
namespace Go.Proofs.YtgdbknbgpkmncaaGreatDoor
open Go.ChangeShapes Go.WideShapes Go.ChangeAt Go.RowKit
theorem Tryz.laidOut : laidOutB Tryz.prog = true := by kernel_rfl
theorem Tryz.mapsRowed : mapsRowed Tryz.prog = true := by kernel_rfl
theorem Tryz.plainKeys : (Rows.unixPipesRow.plainKeys == Tryz.prog.plainKeys) = true := by kernel_rfl
theorem Tryz.stopsHeard : Tryz.prog.stopsHeard = true := by kernel_rfl
theorem Tryz.mayEnter : Tryz.prog.mayEnter = true := by kernel_rfl
theorem Tryz.lifted : (Rows.unixPipesRow.lifted == Tryz.prog.liftsFinal) = true := by kernel_rfl
theorem Tryz.make : (Tryz.prog.make == some Rows.unixPipesRow.make) = true := by kernel_rfl
theorem Tryz.looks : true = Tryz.prog.looks [] := by kernel_rfl
end Go.Proofs.YtgdbknbgpkmncaaGreatDoor
end
section
/- UnixPipes: whatever the texts and the number, the law gives true. (Its card: the table of math/bits is as the program's text lays it.) -/
namespace Go.Proofs.YtgdbknbgpkmncaaGreatDoor
open Go.ChangeShapes Go.WideShapes Go.ChangeAt Go.RowKit Go.AM
set_option maxRecDepth 100000 in
theorem unixPipes_calls {H : Type} {enc : TypeId × Value → H} {W : World} {base : Nat} {v0 v1 : Value} {d0 d1 : DataW H} {p0 p1 : List MemPlace} (h0 : Value.okWide Tryz.prog W .any base 46 v0) (t0 : DataW.Trod enc Tryz.prog W 0 (fun _ => true) true 46 v0 d0 p0) (h1 : Value.okWide Tryz.prog W .any base 3 v1) (_t1 : DataW.Trod enc Tryz.prog W 0 (fun _ => true) true 3 v1 d1 p1) (hL : laidMetH Tryz.prog Rows.unixPipesRow.laid W) :
    Calls Tryz.prog 6 #[v0, v1] W fun e W' => e = .returned (.bool true) ∧ Still W W' := by
  obtain ⟨tc, el, fr, w1, w2, w3⟩ := tab_laid hL
  have hc0 : v0.cells.toList = [v0] := by
    obtain ⟨a, n, c, rfl⟩ := okWide_slice (e := 9) (by kernel_rfl) h0
    rfl
  obtain ⟨i, rfl, _⟩ := val_int (u := 3) (k := .i64) (by kernel_rfl) h1
  obtain ⟨fuel, t0⟩ := t0
  rw [hc0] at t0
  obtain ⟨v, a, l, c, s, x, z1, z2, zl, z3, z4, z5, z6⟩ := strs_block 1 (e := 9) (by kernel_rfl) (by kernel_rfl) (by kernel_rfl) t0
  cases z1
  exact doorX_wf spP_ok (args := [.slice a l.length c, .int .i64 i]) (args' := [_, _]) (X := x) (s := s) w1 w2 w3 z5 z6 (pipes_walk (X := x) ⟨a, c, rfl, z3⟩ fun _ => rfl) (.cons _ _ _ _ (z4 _ rfl) (.cons _ _ _ _ (.int _ _) .nil))

set_option maxRecDepth 100000 in
theorem unixPipes_lifted (os : Os) (started : os.Started) (H : Type) (enc : TypeId × Value → H) :
    ReturnsInHanded {} Tryz.checked os 6 .any (fun w args => (Rows.unixPipesSpec.pre enc Tryz.prog Tryz.f6 Rows.unixPipesRow.domain false w args ∧ laidMetH Tryz.prog Rows.unixPipesRow.laid w) ∧ sizedMet enc Tryz.prog Tryz.f6 (OpenSpec.ofChange Rows.unixPipesSpec) false w args)
      (Rows.unixPipesSpec.post enc Tryz.prog Tryz.f6 false true false false) := by
  refine returnsInHanded_of_change_and (C := Tryz.checked) (X := fun w _ => laidMetH Tryz.prog Rows.unixPipesRow.laid w) (fun _ _ _ hh h => h.of_heap hh) Tryz.own started (by kernel_rfl) Tryz.func6
    (ChangeSpec.witness_shaped (enc := enc) (C := Tryz.checked) (os := os) (X := fun w _ => laidMetH Tryz.prog Rows.unixPipesRow.laid w) false (World.laidAll Tryz.prog os Rows.unixPipesRow.laid) #[.slice none 0 0, .int .i64 0] 8 (World.laidAll_os _ _ _)
      (World.shaped_of_ZipB (by kernel_rfl) (by kernel_rfl)) (by kernel_rfl) (by kernel_rfl) (by kernel_rfl)
      (by rw [MakeChecks.laidMetH_plain _ _ _ (by kernel_rfl)]; exact laidMet_laidAll _ (by kernel_rfl) (by kernel_rfl))) ?_
  intro W base args ds gs before hval0 hW hcnd _ hL _
  have hval : ∀ (j : Nat) t v, Tryz.f6.params[j]? = some t → args[j]? = some v → Value.okWide Tryz.prog W .any base t v := hval0
  have hW' := hW
  obtain ⟨p, q, hA0, hV, rfl, hfz, hnd⟩ := hW
  have hA1 : DataW.TrodAll enc Tryz.prog W 0 (fun _ => true) true Tryz.f6.params.toList args.toList ds p := hA0
  have hA := hA1
  rw [Tryz.params6] at hA hval
  obtain ⟨v0, v1, d0, d1, p0, p1, rfl, rfl, rfl, h0, h1⟩ := trodAll_two hA
  obtain ⟨rfl, rfl⟩ := trodVars_none hV
  refine (unixPipes_calls (hval 0 46 v0 rfl rfl) h0 (hval 1 3 v1 rfl rfl) h1 hL).mono fun e W' ⟨he, hw⟩ => ?_
  subst he
  simp only [List.append_nil] at hW' ⊢
  exact ⟨_, rfl, post_true (bt := 4) Tryz.kids Tryz.full (by rw [Tryz.params6]; decide) (by kernel_rfl) (by kernel_rfl) rfl rfl hW' hA1 rfl rfl rfl hw⟩

end Go.Proofs.YtgdbknbgpkmncaaGreatDoor
end
section
/- UnixPipes: whatever the texts and the number, the law gives true. (Its card: the table of math/bits is as the program's text lays it.) -/
namespace Go.Proofs.YtgdbknbgpkmncaaGreatDoor
open Go.ChangeShapes Go.WideShapes Go.ChangeAt Go.RowKit Go.AM
theorem unixPipes_inPlace : (Rows.unixPipesRow.inPlace == Tryz.prog.inPlace 6) = true := by kernel_rfl
theorem unixPipes_unfollowed : (Rows.unixPipesRow.unfollowed == Tryz.prog.unfollowed 6) = true := by kernel_rfl
theorem unixPipes_recurses : (Rows.unixPipesRow.recurses == Tryz.prog.recurses 6) = true := by kernel_rfl
theorem unixPipes_named : (Rows.unixPipesRow.named == Tryz.prog.varsNamed 6) = true := by kernel_rfl
theorem unixPipes_joined : joinedFacts Tryz.prog 6 Tryz.f6 Rows.unixPipesSpec Rows.unixPipesRow = true := by
  simp only [joinedFacts, Bool.and_eq_true]
  exact ⟨⟨⟨⟨⟨⟨⟨⟨⟨⟨⟨⟨⟨⟨⟨⟨⟨⟨⟨⟨⟨⟨⟨⟨⟨⟨⟨⟨⟨⟨⟨by kernel_rfl, Tryz.laidOut⟩, Tryz.mapsRowed⟩, by kernel_rfl⟩, by kernel_rfl⟩, by kernel_rfl⟩, by kernel_rfl⟩, by kernel_rfl⟩, by kernel_rfl⟩, unixPipes_inPlace⟩, unixPipes_unfollowed⟩, unixPipes_recurses⟩, unixPipes_named⟩, by kernel_rfl⟩, by kernel_rfl⟩, by kernel_rfl⟩, by kernel_rfl⟩, by kernel_rfl⟩, by kernel_rfl⟩, by kernel_rfl⟩, by kernel_rfl⟩, by kernel_rfl⟩, Tryz.plainKeys⟩, by kernel_rfl⟩, Tryz.stopsHeard⟩, Tryz.mayEnter⟩, Tryz.lifted⟩, Tryz.make⟩, by kernel_rfl⟩, by kernel_rfl⟩, by kernel_rfl⟩, by kernel_rfl⟩
theorem unixPipes_holds : Rows.UnixPipesSaid :=
  OpenClaim.holds_of_wide 6 Tryz.f6 rfl rfl rfl rfl rfl rfl rfl ⟨rfl, rfl, rfl, rfl, rfl⟩ rfl rfl rfl rfl rfl (by kernel_rfl) Tryz.func6 unixPipes_joined
    (of_decide_eq_true (by kernel_rfl)) (by unfold Func.isWrapper; first | (rw [if_pos (by decide +kernel)]; kernel_rfl) | (rw [if_neg (by decide +kernel)]; exact ⟨rfl, rfl⟩))
    (fun os started H enc _ => unixPipes_lifted os started H enc)
end Go.Proofs.YtgdbknbgpkmncaaGreatDoor
end
