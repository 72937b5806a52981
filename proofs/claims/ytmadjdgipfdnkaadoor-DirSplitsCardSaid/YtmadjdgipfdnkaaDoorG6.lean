/- Lemmas of the claim: the machine of the proof and the walks of the program. Conditions: as each says. -/
import Derived.Test.YtmadjdgipfdnkaaDoorRows
import Derived.Test.YtmadjdgipfdnkaaDoorG4
import Derived.Test.YtmadjdgipfdnkaaDoorG5
import Derived.Shelf.Lays
import Derived.Ground.NamesProg
import Derived.Test.YtmadjdgipfdnkaaDoorG3
import Derived.ProofKit
import GoSem.ClaimSeven
import Derived.Test.YtmadjdgipfdnkaaDoorCards
import Derived.Test.YtmadjdgipfdnkaaDoorTie
section
/- What all proofs of this seat share: the program's own facts, the machine, the table. -/
namespace Go.Proofs.YtmadjdgipfdnkaaDoor
open Go.ChangeShapes Go.WideShapes Go.ChangeAt Go.RowKit Go.AM

theorem Tryd.own : ownKnob Tryd.prog.godebug = none := by kernel_rfl
theorem Tryd.kids : Kids Tryd.prog (· < Tryd.prog.types.size) := kids_rows (by kernel_rfl) (by kernel_rfl)
theorem Tryd.full : ∀ t e, t < Tryd.prog.types.size → Tryd.prog.underlying t = some (.slice e) → 0 < Tryd.prog.cellsOf e := slices_full_of Tryd.prog (by kernel_rfl)
noncomputable abbrev noSp : Special := fun _ => none
noncomputable abbrev clA : Caller := acall Tryd.prog (0 + 1) noSp 3000 60
theorem clA_ok : CallOk Tryd.prog (0 + 1) clA := acall_ok (by kernel_rfl) noSpec_ok 3000 60
def tab : List Int := [0, 1, 56, 2, 57, 49, 28, 3, 61, 58, 42, 50, 38, 29, 17, 4, 62, 47, 59, 36, 45, 43, 51, 22, 53, 39, 33, 30, 24, 18, 12, 5, 63, 55, 48, 27, 60, 41, 37, 16, 46, 35, 44, 21, 52, 32, 23, 11, 54, 26, 40, 15, 34, 20, 31, 10, 25, 14, 19, 9, 13, 8, 7, 6]
theorem tab_laid {W : World} (hL : laidMetH Tryd.prog [("math/bits.deBruijn64tab", Rows.laid_math_bits_deBruijn64tab)] W) :
    ∃ cs el fr, W.heap[0]? = some (.cells cs el fr) ∧ cs.size = 64 ∧ ∀ i, i < 64 → cs[i]? = (tab.map (Value.int .u8))[i]? := by
  rw [MakeChecks.laidMetH_plain _ _ _ (by kernel_rfl)] at hL
  exact laid_table (g := 0) (k := .u8) (bs := tab) (t := 141) (e := 5) hL (by kernel_rfl) (by kernel_rfl) (by kernel_rfl) (by kernel_rfl) (by kernel_rfl) (by kernel_rfl) rfl
noncomputable abbrev H0 : Heap := listHeap (doorL 0 .u8 tab ++ [])
set_option maxRecDepth 100000 in
theorem aw15 : isTrue (clA 17 [] H0) = true := by kernel_rfl
noncomputable abbrev sp15 : Special := oneSpec 17 (trueF 0 .u8 tab)
theorem sp15_ok : SpecOk Tryd.prog (0 + 1) sp15 := oneSpec_ok fun cl _ => trueF_ok clA_ok aw15 cl
end Go.Proofs.YtmadjdgipfdnkaaDoor
end
section
/- Facts of the types of the program that Tryd names, for rewriting. No condition. -/
namespace Go.Proofs.YtmadjdgipfdnkaaDoor
open Go.AM Go
theorem tyA_1 : tyA Tryd.prog 1 = some false := by kernel_rfl
theorem siz_1 : sizeOf? Tryd.prog 1 = some 1 := by kernel_rfl
theorem tag_1 : tyTag Tryd.prog 1 = 7 := by kernel_rfl
theorem zer_1 : zeroL Tryd.prog 1 = some ([.nilFunc]) := by kernel_rfl
theorem nob_1 : bldT Tryd.prog 1 = false := by kernel_rfl
theorem tyA_2 : tyA Tryd.prog 2 = some false := by kernel_rfl
theorem siz_2 : sizeOf? Tryd.prog 2 = some 1 := by kernel_rfl
theorem tag_2 : tyTag Tryd.prog 2 = 9 := by kernel_rfl
theorem intK_2 : intK Tryd.prog 2 = some .i64 := by kernel_rfl
theorem zer_2 : zeroL Tryd.prog 2 = some ([.int .i64 0]) := by kernel_rfl
theorem nob_2 : bldT Tryd.prog 2 = false := by kernel_rfl
theorem tyA_3 : tyA Tryd.prog 3 = some false := by kernel_rfl
theorem siz_3 : sizeOf? Tryd.prog 3 = some 1 := by kernel_rfl
theorem tag_3 : tyTag Tryd.prog 3 = 9 := by kernel_rfl
theorem intK_3 : intK Tryd.prog 3 = some .i64 := by kernel_rfl
theorem zer_3 : zeroL Tryd.prog 3 = some ([.int .i64 0]) := by kernel_rfl
theorem nob_3 : bldT Tryd.prog 3 = false := by kernel_rfl
theorem tyA_4 : tyA Tryd.prog 4 = some false := by kernel_rfl
theorem siz_4 : sizeOf? Tryd.prog 4 = some 1 := by kernel_rfl
theorem tag_4 : tyTag Tryd.prog 4 = 1 := by kernel_rfl
theorem zer_4 : zeroL Tryd.prog 4 = some ([.bool false]) := by kernel_rfl
theorem nob_4 : bldT Tryd.prog 4 = false := by kernel_rfl
theorem tyA_5 : tyA Tryd.prog 5 = some false := by kernel_rfl
theorem siz_5 : sizeOf? Tryd.prog 5 = some 1 := by kernel_rfl
theorem tag_5 : tyTag Tryd.prog 5 = 9 := by kernel_rfl
theorem intK_5 : intK Tryd.prog 5 = some .u8 := by kernel_rfl
theorem zer_5 : zeroL Tryd.prog 5 = some ([.int .u8 0]) := by kernel_rfl
theorem nob_5 : bldT Tryd.prog 5 = false := by kernel_rfl
theorem tyA_9 : tyA Tryd.prog 9 = some false := by kernel_rfl
theorem siz_9 : sizeOf? Tryd.prog 9 = some 1 := by kernel_rfl
theorem tag_9 : tyTag Tryd.prog 9 = 3 := by kernel_rfl
theorem zer_9 : zeroL Tryd.prog 9 = some ([.string .empty]) := by kernel_rfl
theorem nob_9 : bldT Tryd.prog 9 = false := by kernel_rfl
theorem tyA_20 : tyA Tryd.prog 20 = some false := by kernel_rfl
theorem siz_20 : sizeOf? Tryd.prog 20 = some 1 := by kernel_rfl
theorem tag_20 : tyTag Tryd.prog 20 = 8 := by kernel_rfl
theorem zer_20 : zeroL Tryd.prog 20 = some ([.nilIface]) := by kernel_rfl
theorem nob_20 : bldT Tryd.prog 20 = false := by kernel_rfl
theorem tyA_21 : tyA Tryd.prog 21 = some false := by kernel_rfl
theorem siz_21 : sizeOf? Tryd.prog 21 = some 1 := by kernel_rfl
theorem tag_21 : tyTag Tryd.prog 21 = 9 := by kernel_rfl
theorem intK_21 : intK Tryd.prog 21 = some .i32 := by kernel_rfl
theorem zer_21 : zeroL Tryd.prog 21 = some ([.int .i32 0]) := by kernel_rfl
theorem nob_21 : bldT Tryd.prog 21 = false := by kernel_rfl
theorem tyA_22 : tyA Tryd.prog 22 = some false := by kernel_rfl
theorem siz_22 : sizeOf? Tryd.prog 22 = some 1 := by kernel_rfl
theorem tag_22 : tyTag Tryd.prog 22 = 4 := by kernel_rfl
theorem slc_22 : slcOf Tryd.prog 22 = some 5 := by kernel_rfl
theorem mk_22 : mkOf Tryd.prog 22 = some ([.int .i64 0, .int .i64 0, .int .i64 0, .int .i64 0, .string .empty], 5, 54) := by kernel_rfl
theorem zer_22 : zeroL Tryd.prog 22 = some ([.slice none 0 0]) := by kernel_rfl
theorem nob_22 : bldT Tryd.prog 22 = false := by kernel_rfl
theorem tyA_23 : tyA Tryd.prog 23 = some false := by kernel_rfl
theorem siz_23 : sizeOf? Tryd.prog 23 = some 1 := by kernel_rfl
theorem tag_23 : tyTag Tryd.prog 23 = 2 := by kernel_rfl
theorem zer_23 : zeroL Tryd.prog 23 = some ([.pointer none]) := by kernel_rfl
theorem nob_23 : bldT Tryd.prog 23 = false := by kernel_rfl
theorem tyA_24 : tyA Tryd.prog 24 = some false := by kernel_rfl
theorem siz_24 : sizeOf? Tryd.prog 24 = some 1 := by kernel_rfl
theorem tag_24 : tyTag Tryd.prog 24 = 2 := by kernel_rfl
theorem zer_24 : zeroL Tryd.prog 24 = some ([.pointer none]) := by kernel_rfl
theorem nob_24 : bldT Tryd.prog 24 = false := by kernel_rfl
theorem tyA_27 : tyA Tryd.prog 27 = some true := by kernel_rfl
theorem siz_27 : sizeOf? Tryd.prog 27 = some 3 := by kernel_rfl
theorem tag_27 : tyTag Tryd.prog 27 = 9 := by kernel_rfl
theorem arr_27 : arrOf Tryd.prog 27 = some (3, some false, 1) := by kernel_rfl
theorem sarr_27 : sarrOf Tryd.prog 27 = some (3, 1) := by kernel_rfl
theorem zer_27 : zeroL Tryd.prog 27 = some ([.int .i64 0, .int .i64 0, .int .i64 0]) := by kernel_rfl
theorem nob_27 : bldT Tryd.prog 27 = false := by kernel_rfl
theorem tyA_28 : tyA Tryd.prog 28 = some true := by kernel_rfl
theorem siz_28 : sizeOf? Tryd.prog 28 = some 3 := by kernel_rfl
theorem tag_28 : tyTag Tryd.prog 28 = 9 := by kernel_rfl
theorem arr_28 : arrOf Tryd.prog 28 = some (3, some false, 1) := by kernel_rfl
theorem sarr_28 : sarrOf Tryd.prog 28 = some (3, 1) := by kernel_rfl
theorem zer_28 : zeroL Tryd.prog 28 = some ([.string .empty, .string .empty, .string .empty]) := by kernel_rfl
theorem nob_28 : bldT Tryd.prog 28 = false := by kernel_rfl
theorem tyA_29 : tyA Tryd.prog 29 = some false := by kernel_rfl
theorem siz_29 : sizeOf? Tryd.prog 29 = some 1 := by kernel_rfl
theorem tag_29 : tyTag Tryd.prog 29 = 9 := by kernel_rfl
theorem intK_29 : intK Tryd.prog 29 = some .i64 := by kernel_rfl
theorem zer_29 : zeroL Tryd.prog 29 = some ([.int .i64 0]) := by kernel_rfl
theorem nob_29 : bldT Tryd.prog 29 = false := by kernel_rfl
theorem tyA_33 : tyA Tryd.prog 33 = some true := by kernel_rfl
theorem siz_33 : sizeOf? Tryd.prog 33 = some 5 := by kernel_rfl
theorem tag_33 : tyTag Tryd.prog 33 = 9 := by kernel_rfl
theorem zer_33 : zeroL Tryd.prog 33 = some ([.int .i64 0, .int .i64 0, .int .i64 0, .int .i64 0, .string .empty]) := by kernel_rfl
theorem nob_33 : bldT Tryd.prog 33 = false := by kernel_rfl
theorem fld_33_0 : fldOf Tryd.prog 33 0 = some (0, some false, 1) := by kernel_rfl
theorem fld_33_1 : fldOf Tryd.prog 33 1 = some (1, some false, 1) := by kernel_rfl
theorem fld_33_2 : fldOf Tryd.prog 33 2 = some (2, some false, 1) := by kernel_rfl
theorem fld_33_3 : fldOf Tryd.prog 33 3 = some (3, some false, 1) := by kernel_rfl
theorem fld_33_4 : fldOf Tryd.prog 33 4 = some (4, some false, 1) := by kernel_rfl
theorem tyA_34 : tyA Tryd.prog 34 = some false := by kernel_rfl
theorem siz_34 : sizeOf? Tryd.prog 34 = some 1 := by kernel_rfl
theorem tag_34 : tyTag Tryd.prog 34 = 5 := by kernel_rfl
theorem slc_34 : slcOf Tryd.prog 34 = some 1 := by kernel_rfl
theorem mk_34 : mkOf Tryd.prog 34 = some ([.int .u8 0], 1, 3) := by kernel_rfl
theorem zer_34 : zeroL Tryd.prog 34 = some ([.slice none 0 0]) := by kernel_rfl
theorem nob_34 : bldT Tryd.prog 34 = false := by kernel_rfl
theorem tyA_41 : tyA Tryd.prog 41 = some true := by kernel_rfl
theorem siz_41 : sizeOf? Tryd.prog 41 = some 6 := by kernel_rfl
theorem tag_41 : tyTag Tryd.prog 41 = 9 := by kernel_rfl
theorem arr_41 : arrOf Tryd.prog 41 = some (6, some false, 1) := by kernel_rfl
theorem sarr_41 : sarrOf Tryd.prog 41 = some (6, 1) := by kernel_rfl
theorem zer_41 : zeroL Tryd.prog 41 = some ([.int .i64 0, .int .i64 0, .int .i64 0, .int .i64 0, .int .i64 0, .int .i64 0]) := by kernel_rfl
theorem nob_41 : bldT Tryd.prog 41 = false := by kernel_rfl
theorem tyA_43 : tyA Tryd.prog 43 = some true := by kernel_rfl
theorem siz_43 : sizeOf? Tryd.prog 43 = some 9 := by kernel_rfl
theorem tag_43 : tyTag Tryd.prog 43 = 9 := by kernel_rfl
theorem zer_43 : zeroL Tryd.prog 43 = some ([.int .i64 0, .int .i64 0, .int .i64 0, .int .i64 0, .int .i64 0, .int .i64 0, .int .i64 0, .int .i64 0, .int .i64 0]) := by kernel_rfl
theorem nob_43 : bldT Tryd.prog 43 = false := by kernel_rfl
theorem fld_43_0 : fldOf Tryd.prog 43 0 = some (0, some false, 1) := by kernel_rfl
theorem fld_43_1 : fldOf Tryd.prog 43 1 = some (1, some false, 1) := by kernel_rfl
theorem fld_43_2 : fldOf Tryd.prog 43 2 = some (2, some false, 1) := by kernel_rfl
theorem fld_43_3 : fldOf Tryd.prog 43 3 = some (3, some true, 6) := by kernel_rfl
theorem tyA_50 : tyA Tryd.prog 50 = some false := by kernel_rfl
theorem siz_50 : sizeOf? Tryd.prog 50 = some 1 := by kernel_rfl
theorem tag_50 : tyTag Tryd.prog 50 = 4 := by kernel_rfl
theorem slc_50 : slcOf Tryd.prog 50 = some 1 := by kernel_rfl
theorem mk_50 : mkOf Tryd.prog 50 = some ([.int .i64 0], 1, 10) := by kernel_rfl
theorem zer_50 : zeroL Tryd.prog 50 = some ([.slice none 0 0]) := by kernel_rfl
theorem nob_50 : bldT Tryd.prog 50 = false := by kernel_rfl
theorem tyA_53 : tyA Tryd.prog 53 = some true := by kernel_rfl
theorem siz_53 : sizeOf? Tryd.prog 53 = some 100 := by kernel_rfl
theorem tag_53 : tyTag Tryd.prog 53 = 9 := by kernel_rfl
theorem arr_53 : arrOf Tryd.prog 53 = some (100, some false, 1) := by kernel_rfl
theorem sarr_53 : sarrOf Tryd.prog 53 = some (100, 1) := by kernel_rfl
theorem zer_53 : zeroL Tryd.prog 53 = some (repeatL ([.bool false]) 100) := by kernel_rfl
theorem nob_53 : bldT Tryd.prog 53 = false := by kernel_rfl
theorem tyA_56 : tyA Tryd.prog 56 = some false := by kernel_rfl
theorem siz_56 : sizeOf? Tryd.prog 56 = some 1 := by kernel_rfl
theorem tag_56 : tyTag Tryd.prog 56 = 4 := by kernel_rfl
theorem slc_56 : slcOf Tryd.prog 56 = some 1 := by kernel_rfl
theorem mk_56 : mkOf Tryd.prog 56 = some ([.string .empty], 1, 18) := by kernel_rfl
theorem zer_56 : zeroL Tryd.prog 56 = some ([.slice none 0 0]) := by kernel_rfl
theorem nob_56 : bldT Tryd.prog 56 = false := by kernel_rfl
theorem tyA_75 : tyA Tryd.prog 75 = some false := by kernel_rfl
theorem siz_75 : sizeOf? Tryd.prog 75 = some 1 := by kernel_rfl
theorem tag_75 : tyTag Tryd.prog 75 = 8 := by kernel_rfl
theorem zer_75 : zeroL Tryd.prog 75 = some ([.nilIface]) := by kernel_rfl
theorem nob_75 : bldT Tryd.prog 75 = false := by kernel_rfl
theorem tyA_76 : tyA Tryd.prog 76 = some false := by kernel_rfl
theorem siz_76 : sizeOf? Tryd.prog 76 = some 1 := by kernel_rfl
theorem tag_76 : tyTag Tryd.prog 76 = 2 := by kernel_rfl
theorem zer_76 : zeroL Tryd.prog 76 = some ([.pointer none]) := by kernel_rfl
theorem nob_76 : bldT Tryd.prog 76 = false := by kernel_rfl
theorem tyA_81 : tyA Tryd.prog 81 = some false := by kernel_rfl
theorem siz_81 : sizeOf? Tryd.prog 81 = some 1 := by kernel_rfl
theorem tag_81 : tyTag Tryd.prog 81 = 4 := by kernel_rfl
theorem slc_81 : slcOf Tryd.prog 81 = some 1 := by kernel_rfl
theorem mk_81 : mkOf Tryd.prog 81 = some ([.int .u64 0], 1, 10) := by kernel_rfl
theorem zer_81 : zeroL Tryd.prog 81 = some ([.slice none 0 0]) := by kernel_rfl
theorem nob_81 : bldT Tryd.prog 81 = false := by kernel_rfl
theorem tyA_84 : tyA Tryd.prog 84 = some false := by kernel_rfl
theorem siz_84 : sizeOf? Tryd.prog 84 = some 1 := by kernel_rfl
theorem tag_84 : tyTag Tryd.prog 84 = 9 := by kernel_rfl
theorem intK_84 : intK Tryd.prog 84 = some .u64 := by kernel_rfl
theorem zer_84 : zeroL Tryd.prog 84 = some ([.int .u64 0]) := by kernel_rfl
theorem nob_84 : bldT Tryd.prog 84 = false := by kernel_rfl
theorem tyA_85 : tyA Tryd.prog 85 = some false := by kernel_rfl
theorem siz_85 : sizeOf? Tryd.prog 85 = some 1 := by kernel_rfl
theorem tag_85 : tyTag Tryd.prog 85 = 7 := by kernel_rfl
theorem zer_85 : zeroL Tryd.prog 85 = some ([.nilFunc]) := by kernel_rfl
theorem nob_85 : bldT Tryd.prog 85 = false := by kernel_rfl
theorem tyA_88 : tyA Tryd.prog 88 = some false := by kernel_rfl
theorem siz_88 : sizeOf? Tryd.prog 88 = some 1 := by kernel_rfl
theorem tag_88 : tyTag Tryd.prog 88 = 7 := by kernel_rfl
theorem zer_88 : zeroL Tryd.prog 88 = some ([.nilFunc]) := by kernel_rfl
theorem nob_88 : bldT Tryd.prog 88 = false := by kernel_rfl
theorem tyA_93 : tyA Tryd.prog 93 = some false := by kernel_rfl
theorem siz_93 : sizeOf? Tryd.prog 93 = some 1 := by kernel_rfl
theorem tag_93 : tyTag Tryd.prog 93 = 4 := by kernel_rfl
theorem slc_93 : slcOf Tryd.prog 93 = some 2 := by kernel_rfl
theorem mk_93 : mkOf Tryd.prog 93 = some ([.string .empty, .int .i64 0], 2, 27) := by kernel_rfl
theorem zer_93 : zeroL Tryd.prog 93 = some ([.slice none 0 0]) := by kernel_rfl
theorem nob_93 : bldT Tryd.prog 93 = false := by kernel_rfl
theorem tyA_99 : tyA Tryd.prog 99 = some true := by kernel_rfl
theorem siz_99 : sizeOf? Tryd.prog 99 = some 2 := by kernel_rfl
theorem tag_99 : tyTag Tryd.prog 99 = 9 := by kernel_rfl
theorem zer_99 : zeroL Tryd.prog 99 = some ([.string .empty, .int .i64 0]) := by kernel_rfl
theorem nob_99 : bldT Tryd.prog 99 = false := by kernel_rfl
theorem fld_99_0 : fldOf Tryd.prog 99 0 = some (0, some false, 1) := by kernel_rfl
theorem fld_99_1 : fldOf Tryd.prog 99 1 = some (1, some false, 1) := by kernel_rfl
theorem tyA_102 : tyA Tryd.prog 102 = some true := by kernel_rfl
theorem siz_102 : sizeOf? Tryd.prog 102 = some 4 := by kernel_rfl
theorem tag_102 : tyTag Tryd.prog 102 = 9 := by kernel_rfl
theorem zer_102 : zeroL Tryd.prog 102 = some ([.int .i64 0, .slice none 0 0, .int .i64 0, .int .i64 0]) := by kernel_rfl
theorem nob_102 : bldT Tryd.prog 102 = false := by kernel_rfl
theorem fld_102_0 : fldOf Tryd.prog 102 0 = some (0, some false, 1) := by kernel_rfl
theorem fld_102_1 : fldOf Tryd.prog 102 1 = some (1, some false, 1) := by kernel_rfl
theorem fld_102_2 : fldOf Tryd.prog 102 2 = some (2, some false, 1) := by kernel_rfl
theorem fld_102_3 : fldOf Tryd.prog 102 3 = some (3, some false, 1) := by kernel_rfl
theorem tyA_103 : tyA Tryd.prog 103 = some false := by kernel_rfl
theorem siz_103 : sizeOf? Tryd.prog 103 = some 1 := by kernel_rfl
theorem tag_103 : tyTag Tryd.prog 103 = 4 := by kernel_rfl
theorem slc_103 : slcOf Tryd.prog 103 = some 1 := by kernel_rfl
theorem mk_103 : mkOf Tryd.prog 103 = some ([.slice none 0 0], 1, 26) := by kernel_rfl
theorem zer_103 : zeroL Tryd.prog 103 = some ([.slice none 0 0]) := by kernel_rfl
theorem nob_103 : bldT Tryd.prog 103 = false := by kernel_rfl
theorem tyA_105 : tyA Tryd.prog 105 = some true := by kernel_rfl
theorem siz_105 : sizeOf? Tryd.prog 105 = some 3 := by kernel_rfl
theorem tag_105 : tyTag Tryd.prog 105 = 9 := by kernel_rfl
theorem zer_105 : zeroL Tryd.prog 105 = some ([.slice none 0 0, .int .i64 0, .int .i64 0]) := by kernel_rfl
theorem nob_105 : bldT Tryd.prog 105 = false := by kernel_rfl
theorem fld_105_0 : fldOf Tryd.prog 105 0 = some (0, some false, 1) := by kernel_rfl
theorem fld_105_1 : fldOf Tryd.prog 105 1 = some (1, some false, 1) := by kernel_rfl
theorem fld_105_2 : fldOf Tryd.prog 105 2 = some (2, some false, 1) := by kernel_rfl
theorem tyA_110 : tyA Tryd.prog 110 = some false := by kernel_rfl
theorem siz_110 : sizeOf? Tryd.prog 110 = some 1 := by kernel_rfl
theorem tag_110 : tyTag Tryd.prog 110 = 7 := by kernel_rfl
theorem zer_110 : zeroL Tryd.prog 110 = some ([.nilFunc]) := by kernel_rfl
theorem nob_110 : bldT Tryd.prog 110 = false := by kernel_rfl
theorem tyA_111 : tyA Tryd.prog 111 = some false := by kernel_rfl
theorem siz_111 : sizeOf? Tryd.prog 111 = some 1 := by kernel_rfl
theorem tag_111 : tyTag Tryd.prog 111 = 9 := by kernel_rfl
theorem intK_111 : intK Tryd.prog 111 = some .u64 := by kernel_rfl
theorem zer_111 : zeroL Tryd.prog 111 = some ([.int .u64 0]) := by kernel_rfl
theorem nob_111 : bldT Tryd.prog 111 = false := by kernel_rfl
theorem tyA_112 : tyA Tryd.prog 112 = some false := by kernel_rfl
theorem siz_112 : sizeOf? Tryd.prog 112 = some 1 := by kernel_rfl
theorem tag_112 : tyTag Tryd.prog 112 = 4 := by kernel_rfl
theorem slc_112 : slcOf Tryd.prog 112 = some 1 := by kernel_rfl
theorem mk_112 : mkOf Tryd.prog 112 = some ([.int .u64 0], 1, 10) := by kernel_rfl
theorem zer_112 : zeroL Tryd.prog 112 = some ([.slice none 0 0]) := by kernel_rfl
theorem nob_112 : bldT Tryd.prog 112 = false := by kernel_rfl
theorem tyA_114 : tyA Tryd.prog 114 = some true := by kernel_rfl
theorem siz_114 : sizeOf? Tryd.prog 114 = some 2 := by kernel_rfl
theorem tag_114 : tyTag Tryd.prog 114 = 9 := by kernel_rfl
theorem zer_114 : zeroL Tryd.prog 114 = some ([.int .i64 0, .slice none 0 0]) := by kernel_rfl
theorem nob_114 : bldT Tryd.prog 114 = false := by kernel_rfl
theorem fld_114_0 : fldOf Tryd.prog 114 0 = some (0, some false, 1) := by kernel_rfl
theorem fld_114_1 : fldOf Tryd.prog 114 1 = some (1, some false, 1) := by kernel_rfl
theorem tyA_122 : tyA Tryd.prog 122 = some false := by kernel_rfl
theorem siz_122 : sizeOf? Tryd.prog 122 = some 1 := by kernel_rfl
theorem tag_122 : tyTag Tryd.prog 122 = 2 := by kernel_rfl
theorem zer_122 : zeroL Tryd.prog 122 = some ([.pointer none]) := by kernel_rfl
theorem nob_122 : bldT Tryd.prog 122 = false := by kernel_rfl
theorem tyA_124 : tyA Tryd.prog 124 = some true := by kernel_rfl
theorem siz_124 : sizeOf? Tryd.prog 124 = some 2 := by kernel_rfl
theorem tag_124 : tyTag Tryd.prog 124 = 9 := by kernel_rfl
theorem zer_124 : zeroL Tryd.prog 124 = some ([.pointer none, .slice none 0 0]) := by kernel_rfl
theorem fld_124_0 : fldOf Tryd.prog 124 0 = some (0, some false, 1) := by kernel_rfl
theorem fld_124_1 : fldOf Tryd.prog 124 1 = some (1, some false, 1) := by kernel_rfl
theorem tyA_126 : tyA Tryd.prog 126 = some false := by kernel_rfl
theorem siz_126 : sizeOf? Tryd.prog 126 = some 1 := by kernel_rfl
theorem tag_126 : tyTag Tryd.prog 126 = 8 := by kernel_rfl
theorem zer_126 : zeroL Tryd.prog 126 = some ([.nilIface]) := by kernel_rfl
theorem nob_126 : bldT Tryd.prog 126 = false := by kernel_rfl
theorem tyA_134 : tyA Tryd.prog 134 = some false := by kernel_rfl
theorem siz_134 : sizeOf? Tryd.prog 134 = some 1 := by kernel_rfl
theorem tag_134 : tyTag Tryd.prog 134 = 9 := by kernel_rfl
theorem intK_134 : intK Tryd.prog 134 = some .u64 := by kernel_rfl
theorem zer_134 : zeroL Tryd.prog 134 = some ([.int .u64 0]) := by kernel_rfl
theorem nob_134 : bldT Tryd.prog 134 = false := by kernel_rfl
theorem tyA_138 : tyA Tryd.prog 138 = some false := by kernel_rfl
theorem siz_138 : sizeOf? Tryd.prog 138 = some 1 := by kernel_rfl
theorem tag_138 : tyTag Tryd.prog 138 = 2 := by kernel_rfl
theorem zer_138 : zeroL Tryd.prog 138 = some ([.pointer none]) := by kernel_rfl
theorem nob_138 : bldT Tryd.prog 138 = false := by kernel_rfl
theorem tyA_141 : tyA Tryd.prog 141 = some true := by kernel_rfl
theorem siz_141 : sizeOf? Tryd.prog 141 = some 64 := by kernel_rfl
theorem tag_141 : tyTag Tryd.prog 141 = 9 := by kernel_rfl
theorem arr_141 : arrOf Tryd.prog 141 = some (64, some false, 1) := by kernel_rfl
theorem sarr_141 : sarrOf Tryd.prog 141 = some (64, 1) := by kernel_rfl
theorem zer_141 : zeroL Tryd.prog 141 = some (repeatL ([.int .u8 0]) 64) := by kernel_rfl
theorem nob_141 : bldT Tryd.prog 141 = false := by kernel_rfl
theorem tyA_144 : tyA Tryd.prog 144 = some false := by kernel_rfl
theorem siz_144 : sizeOf? Tryd.prog 144 = some 1 := by kernel_rfl
theorem tag_144 : tyTag Tryd.prog 144 = 9 := by kernel_rfl
theorem intK_144 : intK Tryd.prog 144 = some .u32 := by kernel_rfl
theorem zer_144 : zeroL Tryd.prog 144 = some ([.int .u32 0]) := by kernel_rfl
theorem nob_144 : bldT Tryd.prog 144 = false := by kernel_rfl
theorem bld_41 : bldOf Tryd.prog 41 = some ([.int .i64 0, .int .i64 0, .int .i64 0, .int .i64 0, .int .i64 0, .int .i64 0], [(0, 1), (1, 1), (2, 1), (3, 1), (4, 1), (5, 1)]) := by kernel_rfl
theorem build_41 (parts : List (Nat × Value)) : aBuild Tryd.prog 41 parts = if parts.all (fun x => Nat.blt x.1 6) = true then fillL (fun i => [(0, 1), (1, 1), (2, 1), (3, 1), (4, 1), (5, 1)][i]?) ([.int .i64 0, .int .i64 0, .int .i64 0, .int .i64 0, .int .i64 0, .int .i64 0]) parts else aBuildO Tryd.prog 41 parts := u_build' bld_41 parts
theorem bld_43 : bldOf Tryd.prog 43 = some ([.int .i64 0, .int .i64 0, .int .i64 0, .int .i64 0, .int .i64 0, .int .i64 0, .int .i64 0, .int .i64 0, .int .i64 0], [(0, 1), (1, 1), (2, 1), (3, 6)]) := by kernel_rfl
theorem build_43 (parts : List (Nat × Value)) : aBuild Tryd.prog 43 parts = if parts.all (fun x => Nat.blt x.1 4) = true then fillL (fun i => [(0, 1), (1, 1), (2, 1), (3, 6)][i]?) ([.int .i64 0, .int .i64 0, .int .i64 0, .int .i64 0, .int .i64 0, .int .i64 0, .int .i64 0, .int .i64 0, .int .i64 0]) parts else aBuildO Tryd.prog 43 parts := u_build' bld_43 parts
theorem bld_99 : bldOf Tryd.prog 99 = some ([.string .empty, .int .i64 0], [(0, 1), (1, 1)]) := by kernel_rfl
theorem build_99 (parts : List (Nat × Value)) : aBuild Tryd.prog 99 parts = if parts.all (fun x => Nat.blt x.1 2) = true then fillL (fun i => [(0, 1), (1, 1)][i]?) ([.string .empty, .int .i64 0]) parts else aBuildO Tryd.prog 99 parts := u_build' bld_99 parts
theorem bld_102 : bldOf Tryd.prog 102 = some ([.int .i64 0, .slice none 0 0, .int .i64 0, .int .i64 0], [(0, 1), (1, 1), (2, 1), (3, 1)]) := by kernel_rfl
theorem build_102 (parts : List (Nat × Value)) : aBuild Tryd.prog 102 parts = if parts.all (fun x => Nat.blt x.1 4) = true then fillL (fun i => [(0, 1), (1, 1), (2, 1), (3, 1)][i]?) ([.int .i64 0, .slice none 0 0, .int .i64 0, .int .i64 0]) parts else aBuildO Tryd.prog 102 parts := u_build' bld_102 parts
theorem bld_105 : bldOf Tryd.prog 105 = some ([.slice none 0 0, .int .i64 0, .int .i64 0], [(0, 1), (1, 1), (2, 1)]) := by kernel_rfl
theorem build_105 (parts : List (Nat × Value)) : aBuild Tryd.prog 105 parts = if parts.all (fun x => Nat.blt x.1 3) = true then fillL (fun i => [(0, 1), (1, 1), (2, 1)][i]?) ([.slice none 0 0, .int .i64 0, .int .i64 0]) parts else aBuildO Tryd.prog 105 parts := u_build' bld_105 parts
theorem bld_114 : bldOf Tryd.prog 114 = some ([.int .i64 0, .slice none 0 0], [(0, 1), (1, 1)]) := by kernel_rfl
theorem build_114 (parts : List (Nat × Value)) : aBuild Tryd.prog 114 parts = if parts.all (fun x => Nat.blt x.1 2) = true then fillL (fun i => [(0, 1), (1, 1)][i]?) ([.int .i64 0, .slice none 0 0]) parts else aBuildO Tryd.prog 114 parts := u_build' bld_114 parts
theorem bld_141 : bldOf Tryd.prog 141 = some (repeatL ([.int .u8 0]) 64, [(0, 1), (1, 1), (2, 1), (3, 1), (4, 1), (5, 1), (6, 1), (7, 1), (8, 1), (9, 1), (10, 1), (11, 1), (12, 1), (13, 1), (14, 1), (15, 1), (16, 1), (17, 1), (18, 1), (19, 1), (20, 1), (21, 1), (22, 1), (23, 1), (24, 1), (25, 1), (26, 1), (27, 1), (28, 1), (29, 1), (30, 1), (31, 1), (32, 1), (33, 1), (34, 1), (35, 1), (36, 1), (37, 1), (38, 1), (39, 1), (40, 1), (41, 1), (42, 1), (43, 1), (44, 1), (45, 1), (46, 1), (47, 1), (48, 1), (49, 1), (50, 1), (51, 1), (52, 1), (53, 1), (54, 1), (55, 1), (56, 1), (57, 1), (58, 1), (59, 1), (60, 1), (61, 1), (62, 1), (63, 1)]) := by kernel_rfl
theorem build_141 (parts : List (Nat × Value)) : aBuild Tryd.prog 141 parts = if parts.all (fun x => Nat.blt x.1 64) = true then fillL (fun i => [(0, 1), (1, 1), (2, 1), (3, 1), (4, 1), (5, 1), (6, 1), (7, 1), (8, 1), (9, 1), (10, 1), (11, 1), (12, 1), (13, 1), (14, 1), (15, 1), (16, 1), (17, 1), (18, 1), (19, 1), (20, 1), (21, 1), (22, 1), (23, 1), (24, 1), (25, 1), (26, 1), (27, 1), (28, 1), (29, 1), (30, 1), (31, 1), (32, 1), (33, 1), (34, 1), (35, 1), (36, 1), (37, 1), (38, 1), (39, 1), (40, 1), (41, 1), (42, 1), (43, 1), (44, 1), (45, 1), (46, 1), (47, 1), (48, 1), (49, 1), (50, 1), (51, 1), (52, 1), (53, 1), (54, 1), (55, 1), (56, 1), (57, 1), (58, 1), (59, 1), (60, 1), (61, 1), (62, 1), (63, 1)][i]?) (repeatL ([.int .u8 0]) 64) parts else aBuildO Tryd.prog 141 parts := u_build' bld_141 parts
theorem app_50_50 : appT Tryd.prog #[50, 50] = some ([.int .i64 0], 1, 10) := by kernel_rfl
theorem app_56_56 : appT Tryd.prog #[56, 56] = some ([.string .empty], 1, 18) := by kernel_rfl
theorem app_81_81 : appT Tryd.prog #[81, 81] = some ([.int .u64 0], 1, 10) := by kernel_rfl
theorem app_93_93 : appT Tryd.prog #[93, 93] = some ([.string .empty, .int .i64 0], 2, 27) := by kernel_rfl
theorem app_103_103 : appT Tryd.prog #[103, 103] = some ([.slice none 0 0], 1, 26) := by kernel_rfl
theorem tf0 : type_of% (And.intro (And.intro (And.intro (And.intro (And.intro (@tyA_1) (And.intro (@siz_1) (@tag_1))) (And.intro (And.intro (@zer_1) (@nob_1)) (And.intro (@tyA_2) (@siz_2)))) (And.intro (And.intro (And.intro (@tag_2) (@intK_2)) (And.intro (@zer_2) (@nob_2))) (And.intro (And.intro (@tyA_3) (@siz_3)) (And.intro (@tag_3) (@intK_3))))) (And.intro (And.intro (And.intro (@zer_3) (And.intro (@nob_3) (@tyA_4))) (And.intro (And.intro (@siz_4) (@tag_4)) (And.intro (@zer_4) (@nob_4)))) (And.intro (And.intro (And.intro (@tyA_5) (@siz_5)) (And.intro (@tag_5) (@intK_5))) (And.intro (And.intro (@zer_5) (@nob_5)) (And.intro (@tyA_9) (@siz_9)))))) (And.intro (And.intro (And.intro (And.intro (@tag_9) (And.intro (@zer_9) (@nob_9))) (And.intro (And.intro (@tyA_20) (@siz_20)) (And.intro (@tag_20) (@zer_20)))) (And.intro (And.intro (And.intro (@nob_20) (@tyA_21)) (And.intro (@siz_21) (@tag_21))) (And.intro (And.intro (@intK_21) (@zer_21)) (And.intro (@nob_21) (@tyA_22))))) (And.intro (And.intro (And.intro (@siz_22) (And.intro (@tag_22) (@slc_22))) (And.intro (And.intro (@mk_22) (@zer_22)) (And.intro (@nob_22) (@tyA_23)))) (And.intro (And.intro (And.intro (@siz_23) (@tag_23)) (And.intro (@zer_23) (@nob_23))) (And.intro (And.intro (@tyA_24) (@siz_24)) (And.intro (@tag_24) (@zer_24))))))) := And.intro (And.intro (And.intro (And.intro (And.intro (@tyA_1) (And.intro (@siz_1) (@tag_1))) (And.intro (And.intro (@zer_1) (@nob_1)) (And.intro (@tyA_2) (@siz_2)))) (And.intro (And.intro (And.intro (@tag_2) (@intK_2)) (And.intro (@zer_2) (@nob_2))) (And.intro (And.intro (@tyA_3) (@siz_3)) (And.intro (@tag_3) (@intK_3))))) (And.intro (And.intro (And.intro (@zer_3) (And.intro (@nob_3) (@tyA_4))) (And.intro (And.intro (@siz_4) (@tag_4)) (And.intro (@zer_4) (@nob_4)))) (And.intro (And.intro (And.intro (@tyA_5) (@siz_5)) (And.intro (@tag_5) (@intK_5))) (And.intro (And.intro (@zer_5) (@nob_5)) (And.intro (@tyA_9) (@siz_9)))))) (And.intro (And.intro (And.intro (And.intro (@tag_9) (And.intro (@zer_9) (@nob_9))) (And.intro (And.intro (@tyA_20) (@siz_20)) (And.intro (@tag_20) (@zer_20)))) (And.intro (And.intro (And.intro (@nob_20) (@tyA_21)) (And.intro (@siz_21) (@tag_21))) (And.intro (And.intro (@intK_21) (@zer_21)) (And.intro (@nob_21) (@tyA_22))))) (And.intro (And.intro (And.intro (@siz_22) (And.intro (@tag_22) (@slc_22))) (And.intro (And.intro (@mk_22) (@zer_22)) (And.intro (@nob_22) (@tyA_23)))) (And.intro (And.intro (And.intro (@siz_23) (@tag_23)) (And.intro (@zer_23) (@nob_23))) (And.intro (And.intro (@tyA_24) (@siz_24)) (And.intro (@tag_24) (@zer_24))))))
theorem tf1 : type_of% (And.intro (And.intro (And.intro (And.intro (And.intro (@nob_24) (And.intro (@tyA_27) (@siz_27))) (And.intro (And.intro (@tag_27) (@arr_27)) (And.intro (@sarr_27) (@zer_27)))) (And.intro (And.intro (And.intro (@nob_27) (@tyA_28)) (And.intro (@siz_28) (@tag_28))) (And.intro (And.intro (@arr_28) (@sarr_28)) (And.intro (@zer_28) (@nob_28))))) (And.intro (And.intro (And.intro (@tyA_29) (And.intro (@siz_29) (@tag_29))) (And.intro (And.intro (@intK_29) (@zer_29)) (And.intro (@nob_29) (@tyA_33)))) (And.intro (And.intro (And.intro (@siz_33) (@tag_33)) (And.intro (@zer_33) (@nob_33))) (And.intro (And.intro (@fld_33_0) (@fld_33_1)) (And.intro (@fld_33_2) (@fld_33_3)))))) (And.intro (And.intro (And.intro (And.intro (@fld_33_4) (And.intro (@tyA_34) (@siz_34))) (And.intro (And.intro (@tag_34) (@slc_34)) (And.intro (@mk_34) (@zer_34)))) (And.intro (And.intro (And.intro (@nob_34) (@tyA_41)) (And.intro (@siz_41) (@tag_41))) (And.intro (And.intro (@arr_41) (@sarr_41)) (And.intro (@zer_41) (@nob_41))))) (And.intro (And.intro (And.intro (@tyA_43) (And.intro (@siz_43) (@tag_43))) (And.intro (And.intro (@zer_43) (@nob_43)) (And.intro (@fld_43_0) (@fld_43_1)))) (And.intro (And.intro (And.intro (@fld_43_2) (@fld_43_3)) (And.intro (@tyA_50) (@siz_50))) (And.intro (And.intro (@tag_50) (@slc_50)) (And.intro (@mk_50) (@zer_50))))))) := And.intro (And.intro (And.intro (And.intro (And.intro (@nob_24) (And.intro (@tyA_27) (@siz_27))) (And.intro (And.intro (@tag_27) (@arr_27)) (And.intro (@sarr_27) (@zer_27)))) (And.intro (And.intro (And.intro (@nob_27) (@tyA_28)) (And.intro (@siz_28) (@tag_28))) (And.intro (And.intro (@arr_28) (@sarr_28)) (And.intro (@zer_28) (@nob_28))))) (And.intro (And.intro (And.intro (@tyA_29) (And.intro (@siz_29) (@tag_29))) (And.intro (And.intro (@intK_29) (@zer_29)) (And.intro (@nob_29) (@tyA_33)))) (And.intro (And.intro (And.intro (@siz_33) (@tag_33)) (And.intro (@zer_33) (@nob_33))) (And.intro (And.intro (@fld_33_0) (@fld_33_1)) (And.intro (@fld_33_2) (@fld_33_3)))))) (And.intro (And.intro (And.intro (And.intro (@fld_33_4) (And.intro (@tyA_34) (@siz_34))) (And.intro (And.intro (@tag_34) (@slc_34)) (And.intro (@mk_34) (@zer_34)))) (And.intro (And.intro (And.intro (@nob_34) (@tyA_41)) (And.intro (@siz_41) (@tag_41))) (And.intro (And.intro (@arr_41) (@sarr_41)) (And.intro (@zer_41) (@nob_41))))) (And.intro (And.intro (And.intro (@tyA_43) (And.intro (@siz_43) (@tag_43))) (And.intro (And.intro (@zer_43) (@nob_43)) (And.intro (@fld_43_0) (@fld_43_1)))) (And.intro (And.intro (And.intro (@fld_43_2) (@fld_43_3)) (And.intro (@tyA_50) (@siz_50))) (And.intro (And.intro (@tag_50) (@slc_50)) (And.intro (@mk_50) (@zer_50))))))
theorem tf2 : type_of% (And.intro (And.intro (And.intro (And.intro (And.intro (@nob_50) (And.intro (@tyA_53) (@siz_53))) (And.intro (And.intro (@tag_53) (@arr_53)) (And.intro (@sarr_53) (@zer_53)))) (And.intro (And.intro (And.intro (@nob_53) (@tyA_56)) (And.intro (@siz_56) (@tag_56))) (And.intro (And.intro (@slc_56) (@mk_56)) (And.intro (@zer_56) (@nob_56))))) (And.intro (And.intro (And.intro (@tyA_75) (And.intro (@siz_75) (@tag_75))) (And.intro (And.intro (@zer_75) (@nob_75)) (And.intro (@tyA_76) (@siz_76)))) (And.intro (And.intro (And.intro (@tag_76) (@zer_76)) (And.intro (@nob_76) (@tyA_81))) (And.intro (And.intro (@siz_81) (@tag_81)) (And.intro (@slc_81) (@mk_81)))))) (And.intro (And.intro (And.intro (And.intro (@zer_81) (And.intro (@nob_81) (@tyA_84))) (And.intro (And.intro (@siz_84) (@tag_84)) (And.intro (@intK_84) (@zer_84)))) (And.intro (And.intro (And.intro (@nob_84) (@tyA_85)) (And.intro (@siz_85) (@tag_85))) (And.intro (And.intro (@zer_85) (@nob_85)) (And.intro (@tyA_88) (@siz_88))))) (And.intro (And.intro (And.intro (@tag_88) (And.intro (@zer_88) (@nob_88))) (And.intro (And.intro (@tyA_93) (@siz_93)) (And.intro (@tag_93) (@slc_93)))) (And.intro (And.intro (And.intro (@mk_93) (@zer_93)) (And.intro (@nob_93) (@tyA_99))) (And.intro (And.intro (@siz_99) (@tag_99)) (And.intro (@zer_99) (@nob_99))))))) := And.intro (And.intro (And.intro (And.intro (And.intro (@nob_50) (And.intro (@tyA_53) (@siz_53))) (And.intro (And.intro (@tag_53) (@arr_53)) (And.intro (@sarr_53) (@zer_53)))) (And.intro (And.intro (And.intro (@nob_53) (@tyA_56)) (And.intro (@siz_56) (@tag_56))) (And.intro (And.intro (@slc_56) (@mk_56)) (And.intro (@zer_56) (@nob_56))))) (And.intro (And.intro (And.intro (@tyA_75) (And.intro (@siz_75) (@tag_75))) (And.intro (And.intro (@zer_75) (@nob_75)) (And.intro (@tyA_76) (@siz_76)))) (And.intro (And.intro (And.intro (@tag_76) (@zer_76)) (And.intro (@nob_76) (@tyA_81))) (And.intro (And.intro (@siz_81) (@tag_81)) (And.intro (@slc_81) (@mk_81)))))) (And.intro (And.intro (And.intro (And.intro (@zer_81) (And.intro (@nob_81) (@tyA_84))) (And.intro (And.intro (@siz_84) (@tag_84)) (And.intro (@intK_84) (@zer_84)))) (And.intro (And.intro (And.intro (@nob_84) (@tyA_85)) (And.intro (@siz_85) (@tag_85))) (And.intro (And.intro (@zer_85) (@nob_85)) (And.intro (@tyA_88) (@siz_88))))) (And.intro (And.intro (And.intro (@tag_88) (And.intro (@zer_88) (@nob_88))) (And.intro (And.intro (@tyA_93) (@siz_93)) (And.intro (@tag_93) (@slc_93)))) (And.intro (And.intro (And.intro (@mk_93) (@zer_93)) (And.intro (@nob_93) (@tyA_99))) (And.intro (And.intro (@siz_99) (@tag_99)) (And.intro (@zer_99) (@nob_99))))))
theorem tf3 : type_of% (And.intro (And.intro (And.intro (And.intro (And.intro (@fld_99_0) (And.intro (@fld_99_1) (@tyA_102))) (And.intro (And.intro (@siz_102) (@tag_102)) (And.intro (@zer_102) (@nob_102)))) (And.intro (And.intro (And.intro (@fld_102_0) (@fld_102_1)) (And.intro (@fld_102_2) (@fld_102_3))) (And.intro (And.intro (@tyA_103) (@siz_103)) (And.intro (@tag_103) (@slc_103))))) (And.intro (And.intro (And.intro (@mk_103) (And.intro (@zer_103) (@nob_103))) (And.intro (And.intro (@tyA_105) (@siz_105)) (And.intro (@tag_105) (@zer_105)))) (And.intro (And.intro (And.intro (@nob_105) (@fld_105_0)) (And.intro (@fld_105_1) (@fld_105_2))) (And.intro (And.intro (@tyA_110) (@siz_110)) (And.intro (@tag_110) (@zer_110)))))) (And.intro (And.intro (And.intro (And.intro (@nob_110) (And.intro (@tyA_111) (@siz_111))) (And.intro (And.intro (@tag_111) (@intK_111)) (And.intro (@zer_111) (@nob_111)))) (And.intro (And.intro (And.intro (@tyA_112) (@siz_112)) (And.intro (@tag_112) (@slc_112))) (And.intro (And.intro (@mk_112) (@zer_112)) (And.intro (@nob_112) (@tyA_114))))) (And.intro (And.intro (And.intro (@siz_114) (And.intro (@tag_114) (@zer_114))) (And.intro (And.intro (@nob_114) (@fld_114_0)) (And.intro (@fld_114_1) (@tyA_122)))) (And.intro (And.intro (And.intro (@siz_122) (@tag_122)) (And.intro (@zer_122) (@nob_122))) (And.intro (And.intro (@tyA_124) (@siz_124)) (And.intro (@tag_124) (@zer_124))))))) := And.intro (And.intro (And.intro (And.intro (And.intro (@fld_99_0) (And.intro (@fld_99_1) (@tyA_102))) (And.intro (And.intro (@siz_102) (@tag_102)) (And.intro (@zer_102) (@nob_102)))) (And.intro (And.intro (And.intro (@fld_102_0) (@fld_102_1)) (And.intro (@fld_102_2) (@fld_102_3))) (And.intro (And.intro (@tyA_103) (@siz_103)) (And.intro (@tag_103) (@slc_103))))) (And.intro (And.intro (And.intro (@mk_103) (And.intro (@zer_103) (@nob_103))) (And.intro (And.intro (@tyA_105) (@siz_105)) (And.intro (@tag_105) (@zer_105)))) (And.intro (And.intro (And.intro (@nob_105) (@fld_105_0)) (And.intro (@fld_105_1) (@fld_105_2))) (And.intro (And.intro (@tyA_110) (@siz_110)) (And.intro (@tag_110) (@zer_110)))))) (And.intro (And.intro (And.intro (And.intro (@nob_110) (And.intro (@tyA_111) (@siz_111))) (And.intro (And.intro (@tag_111) (@intK_111)) (And.intro (@zer_111) (@nob_111)))) (And.intro (And.intro (And.intro (@tyA_112) (@siz_112)) (And.intro (@tag_112) (@slc_112))) (And.intro (And.intro (@mk_112) (@zer_112)) (And.intro (@nob_112) (@tyA_114))))) (And.intro (And.intro (And.intro (@siz_114) (And.intro (@tag_114) (@zer_114))) (And.intro (And.intro (@nob_114) (@fld_114_0)) (And.intro (@fld_114_1) (@tyA_122)))) (And.intro (And.intro (And.intro (@siz_122) (@tag_122)) (And.intro (@zer_122) (@nob_122))) (And.intro (And.intro (@tyA_124) (@siz_124)) (And.intro (@tag_124) (@zer_124))))))
theorem tf4 : type_of% (And.intro (And.intro (And.intro (And.intro (And.intro (@fld_124_0) (@fld_124_1)) (And.intro (@tyA_126) (And.intro (@siz_126) (@tag_126)))) (And.intro (And.intro (@zer_126) (@nob_126)) (And.intro (@tyA_134) (And.intro (@siz_134) (@tag_134))))) (And.intro (And.intro (And.intro (@intK_134) (@zer_134)) (And.intro (@nob_134) (And.intro (@tyA_138) (@siz_138)))) (And.intro (And.intro (@tag_138) (And.intro (@zer_138) (@nob_138))) (And.intro (@tyA_141) (And.intro (@siz_141) (@tag_141)))))) (And.intro (And.intro (And.intro (And.intro (@arr_141) (@sarr_141)) (And.intro (@zer_141) (And.intro (@nob_141) (@tyA_144)))) (And.intro (And.intro (@siz_144) (And.intro (@tag_144) (@intK_144))) (And.intro (@zer_144) (And.intro (@nob_144) (@build_41))))) (And.intro (And.intro (And.intro (@build_43) (@build_99)) (And.intro (@build_102) (And.intro (@build_105) (@build_114)))) (And.intro (And.intro (@build_141) (And.intro (@app_50_50) (@app_56_56))) (And.intro (@app_81_81) (And.intro (@app_93_93) (@app_103_103))))))) := And.intro (And.intro (And.intro (And.intro (And.intro (@fld_124_0) (@fld_124_1)) (And.intro (@tyA_126) (And.intro (@siz_126) (@tag_126)))) (And.intro (And.intro (@zer_126) (@nob_126)) (And.intro (@tyA_134) (And.intro (@siz_134) (@tag_134))))) (And.intro (And.intro (And.intro (@intK_134) (@zer_134)) (And.intro (@nob_134) (And.intro (@tyA_138) (@siz_138)))) (And.intro (And.intro (@tag_138) (And.intro (@zer_138) (@nob_138))) (And.intro (@tyA_141) (And.intro (@siz_141) (@tag_141)))))) (And.intro (And.intro (And.intro (And.intro (@arr_141) (@sarr_141)) (And.intro (@zer_141) (And.intro (@nob_141) (@tyA_144)))) (And.intro (And.intro (@siz_144) (And.intro (@tag_144) (@intK_144))) (And.intro (@zer_144) (And.intro (@nob_144) (@build_41))))) (And.intro (And.intro (And.intro (@build_43) (@build_99)) (And.intro (@build_102) (And.intro (@build_105) (@build_114)))) (And.intro (And.intro (@build_141) (And.intro (@app_50_50) (@app_56_56))) (And.intro (@app_81_81) (And.intro (@app_93_93) (@app_103_103))))))
end Go.Proofs.YtmadjdgipfdnkaaDoor
end
section
/- Paths: the error of a part, texts one by one. Conditions: as each rule says. -/
namespace Go.Proofs.YtmadjdgipfdnkaaDoor
open Go.AM
open Nat renaming reduceBEq → Za, reduceEqDiff → Zb, reduceAdd → Zc, reduceSub → Zd, reduceMul → Ze, reduceLT → Zf, reduceLeDiff → Zg, reduceDiv → Zh, reduceMod → Zi, reducePow → Zj, blt_eq → ZF, zero_add → Qc, add_zero → Qd
open Int renaming reduceAdd → Zk, reduceSub → Zl, reduceMul → Zm, reduceLT → Zn, reduceLE → Zo, reduceEq → Zp, reduceNe → Zq, reduceNeg → Zr, reduceToNat → Zs, reduceDiv → Zt, reduceMod → Zu, reducePow → Zv, cast_ofNat_Int → Zw, toNat_natCast → Qb
open List renaming set_cons_zero → Zx, set_cons_succ → Zy, map_toArray → Zz, cons_append → ZA, nil_append → ZB, append_nil → ZC, all_cons → ZD, all_nil → ZE, getElem?_cons_zero → ZJ, getElem?_cons_succ → ZK, length_cons → ZL, length_nil → ZM, map_cons → ZN, map_nil → ZO, isEmpty_nil → Qe, any_cons → Qf, any_nil → Qg, drop_zero → Qk, drop_succ_cons → Ql, take_succ_cons → Qm, take_zero → Qn, take_nil → Qo, drop_nil → Qp
open Bool renaming and_true → ZG, true_and → ZH, and_self → ZI, not_true → ZT, not_false → ZU, true_eq_false → ZZ, false_eq_true → Qa, or_false → Qh, false_or → Qi, and_eq_true → Qj
open Option renaming map_some → ZP, map_none → ZQ, bind_some → ZR, getD_some → ZS, isNone_some → ZV, isNone_none → ZW, isSome_some → ZX, isSome_none → ZY
set_option linter.unusedSimpArgs false
variable {sp : Special} {h : Heap} {R : Out → Heap → Prop}
/-- the error of a part. -/
def chk (l : List UInt8) : Int := if 8 < l.length then 36 else if 0 ∈ l then 22 else 0
theorem no0 {l : List UInt8} {p : Nat} (h : ∀ j, j < p → l[j]? ≠ some 0) (hp : l.length ≤ p) : ¬ (0 : UInt8) ∈ l := fun hm => by
  obtain ⟨j, hj⟩ := List.mem_iff_getElem?.1 hm
  have := (List.getElem?_eq_some_iff.1 hj).1
  exact h j (by omega) hj
set_option maxRecDepth 100000 in
theorem check_spec (hsp : (sp 45).isNone = true) {l : List UInt8} (hR : ∀ h', h.nx ≤ h'.nx → (∀ b, b < h.nx → h'.get b = h.get b) → R (.ret (.int .i64 (chk l))) h') : WF Tryd.prog 1 sp 45 [.string (mkS l)] h R := by
  refine wf_fn (fn := Tryd.f45) hsp rfl (by kernel_rfl) rfl ?_
  by_cases c1 : 8 < l.length
  · have c1' : (8 : Int) < (l.length : Int) := by omega
    simp only [↓reduceIte, reduceCtorEq, Za, Zb, Zc, Zd, Ze, Zf, Zg, Zh, Zi, Zj, Zk, Zl, Zm, Zn, Zo, Zp, Zq, Zr, Zs, Zt, Zu, Zv, gval, Zw, Zx, Zy, Zz, ZA, ZB, ZC, ZD, ZE, ZF, decide_eq_true_eq, ZG, ZH, ZI, ZJ, ZK, ZL, ZM, ZN, ZO, ZP, ZQ, ZR, ZS, Option.some.injEq, exists_eq_left', ZT, ZU, ZV, ZW, ZX, ZY, true_and, and_true, true_or, or_true, false_or, or_false, ite_true, ite_false, cond_true, cond_false, ZZ, Qa, if_true, if_false, decide_true, decide_false, Qb, Qc, Qd, Qe, Qf, Qg, Qh, Qi, Qj, Qk, Ql, Qm, Qn, Qo, Qp, rb0, rb1, rb2, rb3, rb4, tf0, tf1, tf2, tf3, tf4, Tryd.f45, mkS_size, c1']
    have := hR h (Nat.le_refl _) fun _ _ => rfl
    unfold chk at this
    rw [if_pos c1] at this
    exact this
  have c1' : ¬ (8 : Int) < (l.length : Int) := by omega
  simp only [↓reduceIte, reduceCtorEq, Za, Zb, Zc, Zd, Ze, Zf, Zg, Zh, Zi, Zj, Zk, Zl, Zm, Zn, Zo, Zp, Zq, Zr, Zs, Zt, Zu, Zv, gval, Zw, Zx, Zy, Zz, ZA, ZB, ZC, ZD, ZE, ZF, decide_eq_true_eq, ZG, ZH, ZI, ZJ, ZK, ZL, ZM, ZN, ZO, ZP, ZQ, ZR, ZS, Option.some.injEq, exists_eq_left', ZT, ZU, ZV, ZW, ZX, ZY, true_and, and_true, true_or, or_true, false_or, or_false, ite_true, ite_false, cond_true, cond_false, ZZ, Qa, if_true, if_false, decide_true, decide_false, Qb, Qc, Qd, Qe, Qf, Qg, Qh, Qi, Qj, Qk, Ql, Qm, Qn, Qo, Qp, rb0, rb1, rb2, rb3, rb4, tf0, tf1, tf2, tf3, tf4, Tryd.f45, mkS_size, c1', u_rangeS (show Tryd.prog.underlying 9 = some .string from by kernel_rfl)]
  refine run_loop2 rfl (fun N e h' => ∃ p, N = l.length - p ∧ (∀ j, j < p → l[j]? ≠ some 0) ∧ e.at 9 = .pointer (some ⟨h.nx, 0, none⟩) ∧ h'.get h.nx = some (.str (mkS l) p) ∧ h'.nx = h.nx + 1 ∧ ∀ b, b < h.nx → h'.get b = h.get b)
    (fun ex e h' => (ex = .ret ∧ e.at 2 = .int .i64 22 ∧ (0 : UInt8) ∈ l ∨ ex = .exit 0 ∧ ¬ (0 : UInt8) ∈ l) ∧ h.nx ≤ h'.nx ∧ ∀ b, b < h.nx → h'.get b = h.get b) ?_ (l.length - 0) _ _ ?_ ?_
  · rintro N e h' ⟨p, rfl, hz, e9, g, hn, hk⟩ Q' hQn hQx
    by_cases hp : p < l.length
    · obtain ⟨b, hb⟩ : ∃ b, l[p]? = some b := ⟨_, List.getElem?_eq_getElem hp⟩
      obtain ⟨c, w, hd, hc, hw, hk1, hk2⟩ := dec_any hb
      have hbz : b.toNat = 0 ↔ b = 0 := by rw [← UInt8.toNat_inj]; rfl
      by_cases c2 : b = 0
      · have c2' : (c : Int) = 0 := by have := (hk1 0 (by omega)).2 (hbz.2 c2); omega
        simp only [↓reduceIte, reduceCtorEq, Za, Zb, Zc, Zd, Ze, Zf, Zg, Zh, Zi, Zj, Zk, Zl, Zm, Zn, Zo, Zp, Zq, Zr, Zs, Zt, Zu, Zv, gval, Zw, Zx, Zy, Zz, ZA, ZB, ZC, ZD, ZE, ZF, decide_eq_true_eq, ZG, ZH, ZI, ZJ, ZK, ZL, ZM, ZN, ZO, ZP, ZQ, ZR, ZS, Option.some.injEq, exists_eq_left', ZT, ZU, ZV, ZW, ZX, ZY, true_and, and_true, true_or, or_true, false_or, or_false, ite_true, ite_false, cond_true, cond_false, ZZ, Qa, if_true, if_false, decide_true, decide_false, Qb, Qc, Qd, Qe, Qf, Qg, Qh, Qi, Qj, Qk, Ql, Qm, Qn, Qo, Qp, rb0, rb1, rb2, rb3, rb4, tf0, tf1, tf2, tf3, tf4, e9, u_nextS g (by rw [mkS_size]; exact hp) hd, c2']
        exact hQx _ _ _ (by simp) ⟨.inl ⟨rfl, by simp only [at_put, at_args, Nat.reduceBEq, cond_true, cond_false, List.getElem?_cons_zero, List.getElem?_cons_succ, Option.getD_some, Nat.add_zero, Int.cast_ofNat_Int], List.mem_of_getElem? (c2 ▸ hb)⟩, by simp (disch := (first | omega | rfl | (simp only [Heap.nx_upd, Heap.nx_new]; omega))) only [Heap.get_upd_ne, Heap.get_new_ne, Heap.get_new_at, Heap.get_upd_same, Heap.get_new_same, Heap.nx_upd, Heap.nx_new]; omega, fun b hb => by simp (disch := (first | omega | rfl | (simp only [Heap.nx_upd, Heap.nx_new]; omega))) only [Heap.get_upd_ne, Heap.get_new_ne, Heap.get_new_at, Heap.get_upd_same, Heap.get_new_same, Heap.nx_upd, Heap.nx_new]; exact hk b hb⟩
      · have c2' : ¬ (c : Int) = 0 := fun e => c2 (hbz.1 ((hk1 0 (by omega)).1 (by omega)))
        simp only [↓reduceIte, reduceCtorEq, Za, Zb, Zc, Zd, Ze, Zf, Zg, Zh, Zi, Zj, Zk, Zl, Zm, Zn, Zo, Zp, Zq, Zr, Zs, Zt, Zu, Zv, gval, Zw, Zx, Zy, Zz, ZA, ZB, ZC, ZD, ZE, ZF, decide_eq_true_eq, ZG, ZH, ZI, ZJ, ZK, ZL, ZM, ZN, ZO, ZP, ZQ, ZR, ZS, Option.some.injEq, exists_eq_left', ZT, ZU, ZV, ZW, ZX, ZY, true_and, and_true, true_or, or_true, false_or, or_false, ite_true, ite_false, cond_true, cond_false, ZZ, Qa, if_true, if_false, decide_true, decide_false, Qb, Qc, Qd, Qe, Qf, Qg, Qh, Qi, Qj, Qk, Ql, Qm, Qn, Qo, Qp, rb0, rb1, rb2, rb3, rb4, tf0, tf1, tf2, tf3, tf4, e9, u_nextS g (by rw [mkS_size]; exact hp) hd, c2']
        refine hQn _ _ _ (by omega) ⟨p + w, rfl, fun j hj => ?_, by simp only [at_put, at_args, Nat.reduceBEq, cond_true, cond_false, List.getElem?_cons_zero, List.getElem?_cons_succ, Option.getD_some, Nat.add_zero, Int.cast_ofNat_Int, e9], by simp (disch := (first | omega | rfl | (simp only [Heap.nx_upd, Heap.nx_new]; omega))) only [Heap.get_upd_ne, Heap.get_new_ne, Heap.get_new_at, Heap.get_upd_same, Heap.get_new_same, Heap.nx_upd, Heap.nx_new], by simp (disch := (first | omega | rfl | (simp only [Heap.nx_upd, Heap.nx_new]; omega))) only [Heap.get_upd_ne, Heap.get_new_ne, Heap.get_new_at, Heap.get_upd_same, Heap.get_new_same, Heap.nx_upd, Heap.nx_new]; exact hn, fun b hb => by simp (disch := (first | omega | rfl | (simp only [Heap.nx_upd, Heap.nx_new]; omega))) only [Heap.get_upd_ne, Heap.get_new_ne, Heap.get_new_at, Heap.get_upd_same, Heap.get_new_same, Heap.nx_upd, Heap.nx_new]; exact hk b hb⟩
        rcases Nat.lt_trichotomy j p with q | q | q
        · exact hz j q
        · rw [q, hb]; exact fun e => c2 (Option.some.inj e)
        · obtain ⟨d, q1, q2⟩ := hk2 j q hj
          rw [q1]; intro e; cases Option.some.inj e; exact absurd q2 (by decide)
    · simp only [↓reduceIte, reduceCtorEq, Za, Zb, Zc, Zd, Ze, Zf, Zg, Zh, Zi, Zj, Zk, Zl, Zm, Zn, Zo, Zp, Zq, Zr, Zs, Zt, Zu, Zv, gval, Zw, Zx, Zy, Zz, ZA, ZB, ZC, ZD, ZE, ZF, decide_eq_true_eq, ZG, ZH, ZI, ZJ, ZK, ZL, ZM, ZN, ZO, ZP, ZQ, ZR, ZS, Option.some.injEq, exists_eq_left', ZT, ZU, ZV, ZW, ZX, ZY, true_and, and_true, true_or, or_true, false_or, or_false, ite_true, ite_false, cond_true, cond_false, ZZ, Qa, if_true, if_false, decide_true, decide_false, Qb, Qc, Qd, Qe, Qf, Qg, Qh, Qi, Qj, Qk, Ql, Qm, Qn, Qo, Qp, rb0, rb1, rb2, rb3, rb4, tf0, tf1, tf2, tf3, tf4, e9, u_nextE g (by rw [mkS_size]; exact hp)]
      exact hQx _ _ _ (by simp) ⟨.inr ⟨rfl, no0 hz (by omega)⟩, by omega, hk⟩
  · exact ⟨0, rfl, fun _ h => absurd h (Nat.not_lt_zero _), by simp only [at_put, at_args, Nat.reduceBEq, cond_true, cond_false, List.getElem?_cons_zero, List.getElem?_cons_succ, Option.getD_some, Nat.add_zero, Int.cast_ofNat_Int], by simp (disch := (first | omega | rfl | (simp only [Heap.nx_upd, Heap.nx_new]; omega))) only [Heap.get_upd_ne, Heap.get_new_ne, Heap.get_new_at, Heap.get_upd_same, Heap.get_new_same, Heap.nx_upd, Heap.nx_new], by rw [Heap.nx_new], fun b hb => by rw [Heap.get_new_ne _ _ (by omega)]⟩
  · rintro ex e h' - ⟨⟨rfl, e2, hm⟩ | ⟨rfl, hm⟩, hn, hk⟩
    · simp only [↓reduceIte, reduceCtorEq, Za, Zb, Zc, Zd, Ze, Zf, Zg, Zh, Zi, Zj, Zk, Zl, Zm, Zn, Zo, Zp, Zq, Zr, Zs, Zt, Zu, Zv, gval, Zw, Zx, Zy, Zz, ZA, ZB, ZC, ZD, ZE, ZF, decide_eq_true_eq, ZG, ZH, ZI, ZJ, ZK, ZL, ZM, ZN, ZO, ZP, ZQ, ZR, ZS, Option.some.injEq, exists_eq_left', ZT, ZU, ZV, ZW, ZX, ZY, true_and, and_true, true_or, or_true, false_or, or_false, ite_true, ite_false, cond_true, cond_false, ZZ, Qa, if_true, if_false, decide_true, decide_false, Qb, Qc, Qd, Qe, Qf, Qg, Qh, Qi, Qj, Qk, Ql, Qm, Qn, Qo, Qp, rb0, rb1, rb2, rb3, rb4, tf0, tf1, tf2, tf3, tf4, e2]
      have := hR h' hn hk
      unfold chk at this
      rw [if_neg c1, if_pos hm] at this
      exact this
    · simp only [↓reduceIte, reduceCtorEq, Za, Zb, Zc, Zd, Ze, Zf, Zg, Zh, Zi, Zj, Zk, Zl, Zm, Zn, Zo, Zp, Zq, Zr, Zs, Zt, Zu, Zv, gval, Zw, Zx, Zy, Zz, ZA, ZB, ZC, ZD, ZE, ZF, decide_eq_true_eq, ZG, ZH, ZI, ZJ, ZK, ZL, ZM, ZN, ZO, ZP, ZQ, ZR, ZS, Option.some.injEq, exists_eq_left', ZT, ZU, ZV, ZW, ZX, ZY, true_and, and_true, true_or, or_true, false_or, or_false, ite_true, ite_false, cond_true, cond_false, ZZ, Qa, if_true, if_false, decide_true, decide_false, Qb, Qc, Qd, Qe, Qf, Qg, Qh, Qi, Qj, Qk, Ql, Qm, Qn, Qo, Qp, rb0, rb1, rb2, rb3, rb4, tf0, tf1, tf2, tf3, tf4]
      have := hR h' hn hk
      unfold chk at this
      rw [if_neg c1, if_neg hm] at this
      exact this
set_option maxRecDepth 100000 in
theorem part_spec (hsp : (sp 46).isNone = true) {l : List UInt8} (hR : R (.ret (.int .i64 (chk l))) h) : WF Tryd.prog 1 sp 46 [.string (mkS l)] h R := by
  refine wf_fn (fn := Tryd.f46) hsp rfl (by kernel_rfl) rfl ?_
  unfold chk at hR
  by_cases c1 : 8 < l.length
  · have c1' : (8 : Int) < (l.length : Int) := by omega
    simp only [↓reduceIte, reduceCtorEq, Za, Zb, Zc, Zd, Ze, Zf, Zg, Zh, Zi, Zj, Zk, Zl, Zm, Zn, Zo, Zp, Zq, Zr, Zs, Zt, Zu, Zv, gval, Zw, Zx, Zy, Zz, ZA, ZB, ZC, ZD, ZE, ZF, decide_eq_true_eq, ZG, ZH, ZI, ZJ, ZK, ZL, ZM, ZN, ZO, ZP, ZQ, ZR, ZS, Option.some.injEq, exists_eq_left', ZT, ZU, ZV, ZW, ZX, ZY, true_and, and_true, true_or, or_true, false_or, or_false, ite_true, ite_false, cond_true, cond_false, ZZ, Qa, if_true, if_false, decide_true, decide_false, Qb, Qc, Qd, Qe, Qf, Qg, Qh, Qi, Qj, Qk, Ql, Qm, Qn, Qo, Qp, rb0, rb1, rb2, rb3, rb4, tf0, tf1, tf2, tf3, tf4, Tryd.f46, mkS_size, c1']
    rw [if_pos c1] at hR
    exact hR
  have c1' : ¬ (8 : Int) < (l.length : Int) := by omega
  rw [if_neg c1] at hR
  simp only [↓reduceIte, reduceCtorEq, Za, Zb, Zc, Zd, Ze, Zf, Zg, Zh, Zi, Zj, Zk, Zl, Zm, Zn, Zo, Zp, Zq, Zr, Zs, Zt, Zu, Zv, gval, Zw, Zx, Zy, Zz, ZA, ZB, ZC, ZD, ZE, ZF, decide_eq_true_eq, ZG, ZH, ZI, ZJ, ZK, ZL, ZM, ZN, ZO, ZP, ZQ, ZR, ZS, Option.some.injEq, exists_eq_left', ZT, ZU, ZV, ZW, ZX, ZY, true_and, and_true, true_or, or_true, false_or, or_false, ite_true, ite_false, cond_true, cond_false, ZZ, Qa, if_true, if_false, decide_true, decide_false, Qb, Qc, Qd, Qe, Qf, Qg, Qh, Qi, Qj, Qk, Ql, Qm, Qn, Qo, Qp, rb0, rb1, rb2, rb3, rb4, tf0, tf1, tf2, tf3, tf4, Tryd.f46, mkS_size, c1']
  refine run_loop2 rfl (fun N e h' => ∃ p : Nat, N = l.length - p ∧ p ≤ l.length ∧ (∀ j, j < p → l[j]? ≠ some 0) ∧ e.at 0 = .string (mkS l) ∧ e.at 3 = .int .i64 p ∧ h' = h)
    (fun ex e h' => (ex = .ret ∧ e.at 2 = .int .i64 22 ∧ (0 : UInt8) ∈ l ∨ ex = .exit 0 ∧ ¬ (0 : UInt8) ∈ l) ∧ h' = h) ?_ (l.length - 0) _ _ ?_ ?_
  · rintro N e h' ⟨p, rfl, hpl, hz, e0, e3, rfl⟩ Q' hQn hQx
    by_cases hp : p < l.length
    · obtain ⟨b, hb⟩ : ∃ b, l[p]? = some b := ⟨_, List.getElem?_eq_getElem hp⟩
      have hbz : b.toNat = 0 ↔ b = 0 := by rw [← UInt8.toNat_inj]; rfl
      have hp' : (p : Int) < (l.length : Int) := by omega
      have wp : wrapF .i64 ((p : Int) + 1) = ((p + 1 : Nat) : Int) := by rw [wrapI (by omega) (by omega)]; omega
      by_cases c2 : b = 0
      · have c2' : (b.toNat : Int) = 0 := by have := hbz.2 c2; omega
        simp only [↓reduceIte, reduceCtorEq, Za, Zb, Zc, Zd, Ze, Zf, Zg, Zh, Zi, Zj, Zk, Zl, Zm, Zn, Zo, Zp, Zq, Zr, Zs, Zt, Zu, Zv, gval, Zw, Zx, Zy, Zz, ZA, ZB, ZC, ZD, ZE, ZF, decide_eq_true_eq, ZG, ZH, ZI, ZJ, ZK, ZL, ZM, ZN, ZO, ZP, ZQ, ZR, ZS, Option.some.injEq, exists_eq_left', ZT, ZU, ZV, ZW, ZX, ZY, true_and, and_true, true_or, or_true, false_or, or_false, ite_true, ite_false, cond_true, cond_false, ZZ, Qa, if_true, if_false, decide_true, decide_false, Qb, Qc, Qd, Qe, Qf, Qg, Qh, Qi, Qj, Qk, Ql, Qm, Qn, Qo, Qp, rb0, rb1, rb2, rb3, rb4, tf0, tf1, tf2, tf3, tf4, e0, e3, mkS_size, hp', str_index tag_9 hb, c2']
        exact hQx _ _ _ (by simp) ⟨.inl ⟨rfl, by simp only [at_put, at_args, Nat.reduceBEq, cond_true, cond_false, List.getElem?_cons_zero, List.getElem?_cons_succ, Option.getD_some, Nat.add_zero, Int.cast_ofNat_Int], List.mem_of_getElem? (c2 ▸ hb)⟩, rfl⟩
      · have c2' : ¬ (b.toNat : Int) = 0 := fun e => c2 (hbz.1 (by omega))
        simp only [↓reduceIte, reduceCtorEq, Za, Zb, Zc, Zd, Ze, Zf, Zg, Zh, Zi, Zj, Zk, Zl, Zm, Zn, Zo, Zp, Zq, Zr, Zs, Zt, Zu, Zv, gval, Zw, Zx, Zy, Zz, ZA, ZB, ZC, ZD, ZE, ZF, decide_eq_true_eq, ZG, ZH, ZI, ZJ, ZK, ZL, ZM, ZN, ZO, ZP, ZQ, ZR, ZS, Option.some.injEq, exists_eq_left', ZT, ZU, ZV, ZW, ZX, ZY, true_and, and_true, true_or, or_true, false_or, or_false, ite_true, ite_false, cond_true, cond_false, ZZ, Qa, if_true, if_false, decide_true, decide_false, Qb, Qc, Qd, Qe, Qf, Qg, Qh, Qi, Qj, Qk, Ql, Qm, Qn, Qo, Qp, rb0, rb1, rb2, rb3, rb4, tf0, tf1, tf2, tf3, tf4, e0, e3, mkS_size, hp', str_index tag_9 hb, c2', wp]
        refine hQn _ _ _ (by omega) ⟨p + 1, rfl, by omega, fun j hj => ?_, by simp only [at_put, at_args, Nat.reduceBEq, cond_true, cond_false, List.getElem?_cons_zero, List.getElem?_cons_succ, Option.getD_some, Nat.add_zero, Int.cast_ofNat_Int, e0], by simp only [at_put, at_args, Nat.reduceBEq, cond_true, cond_false, List.getElem?_cons_zero, List.getElem?_cons_succ, Option.getD_some, Nat.add_zero, Int.cast_ofNat_Int], rfl⟩
        rcases Nat.lt_or_ge j p with q | q
        · exact hz j q
        · rw [show j = p by omega, hb]; exact fun e => c2 (Option.some.inj e)
    · have hp' : ¬ (p : Int) < (l.length : Int) := by omega
      simp only [↓reduceIte, reduceCtorEq, Za, Zb, Zc, Zd, Ze, Zf, Zg, Zh, Zi, Zj, Zk, Zl, Zm, Zn, Zo, Zp, Zq, Zr, Zs, Zt, Zu, Zv, gval, Zw, Zx, Zy, Zz, ZA, ZB, ZC, ZD, ZE, ZF, decide_eq_true_eq, ZG, ZH, ZI, ZJ, ZK, ZL, ZM, ZN, ZO, ZP, ZQ, ZR, ZS, Option.some.injEq, exists_eq_left', ZT, ZU, ZV, ZW, ZX, ZY, true_and, and_true, true_or, or_true, false_or, or_false, ite_true, ite_false, cond_true, cond_false, ZZ, Qa, if_true, if_false, decide_true, decide_false, Qb, Qc, Qd, Qe, Qf, Qg, Qh, Qi, Qj, Qk, Ql, Qm, Qn, Qo, Qp, rb0, rb1, rb2, rb3, rb4, tf0, tf1, tf2, tf3, tf4, e0, e3, mkS_size, hp']
      exact hQx _ _ _ (by simp) ⟨.inr ⟨rfl, no0 hz (by omega)⟩, rfl⟩
  · exact ⟨0, rfl, by omega, fun _ h => absurd h (Nat.not_lt_zero _), by simp only [at_put, at_args, Nat.reduceBEq, cond_true, cond_false, List.getElem?_cons_zero, List.getElem?_cons_succ, Option.getD_some, Nat.add_zero, Int.cast_ofNat_Int], by simp only [at_put, at_args, Nat.reduceBEq, cond_true, cond_false, List.getElem?_cons_zero, List.getElem?_cons_succ, Option.getD_some, Nat.add_zero, Int.cast_ofNat_Int], rfl⟩
  · rintro ex e h' - ⟨⟨rfl, e2, hm⟩ | ⟨rfl, hm⟩, rfl⟩
    · simp only [↓reduceIte, reduceCtorEq, Za, Zb, Zc, Zd, Ze, Zf, Zg, Zh, Zi, Zj, Zk, Zl, Zm, Zn, Zo, Zp, Zq, Zr, Zs, Zt, Zu, Zv, gval, Zw, Zx, Zy, Zz, ZA, ZB, ZC, ZD, ZE, ZF, decide_eq_true_eq, ZG, ZH, ZI, ZJ, ZK, ZL, ZM, ZN, ZO, ZP, ZQ, ZR, ZS, Option.some.injEq, exists_eq_left', ZT, ZU, ZV, ZW, ZX, ZY, true_and, and_true, true_or, or_true, false_or, or_false, ite_true, ite_false, cond_true, cond_false, ZZ, Qa, if_true, if_false, decide_true, decide_false, Qb, Qc, Qd, Qe, Qf, Qg, Qh, Qi, Qj, Qk, Ql, Qm, Qn, Qo, Qp, rb0, rb1, rb2, rb3, rb4, tf0, tf1, tf2, tf3, tf4, e2]
      rw [if_pos hm] at hR
      exact hR
    · simp only [↓reduceIte, reduceCtorEq, Za, Zb, Zc, Zd, Ze, Zf, Zg, Zh, Zi, Zj, Zk, Zl, Zm, Zn, Zo, Zp, Zq, Zr, Zs, Zt, Zu, Zv, gval, Zw, Zx, Zy, Zz, ZA, ZB, ZC, ZD, ZE, ZF, decide_eq_true_eq, ZG, ZH, ZI, ZJ, ZK, ZL, ZM, ZN, ZO, ZP, ZQ, ZR, ZS, Option.some.injEq, exists_eq_left', ZT, ZU, ZV, ZW, ZX, ZY, true_and, and_true, true_or, or_true, false_or, or_false, ite_true, ite_false, cond_true, cond_false, ZZ, Qa, if_true, if_false, decide_true, decide_false, Qb, Qc, Qd, Qe, Qf, Qg, Qh, Qi, Qj, Qk, Ql, Qm, Qn, Qo, Qp, rb0, rb1, rb2, rb3, rb4, tf0, tf1, tf2, tf3, tf4]
      rw [if_neg hm] at hR
      exact hR
/-- a row of texts. -/
structure TxtAt (h : Heap) (v : Value) (l : List (List UInt8)) : Prop where
  is : (v = .slice none 0 0 ∧ l = []) ∨ ∃ b k, v = .slice (some ⟨b, 0, none⟩) l.length l.length ∧ h.get b = some (cellsB (strs l) k)
theorem TxtAt.of {lo : Nat} {v : Value} {l : List (List UInt8)} (x : RowG h lo 1 v l.length (strs l)) : TxtAt h v l := by
  rcases x.is with ⟨h1, h2, h3⟩ | ⟨b, h1, h2, h3, h4⟩
  · exact ⟨.inl ⟨h1, List.length_eq_zero_iff.1 h3⟩⟩
  · exact ⟨.inr ⟨b, _, h3, h4⟩⟩
theorem TxtAt.keep {h' : Heap} {v : Value} {l : List (List UInt8)} (x : TxtAt h v l) (hk : ∀ b ∈ blkOf v, h'.get b = h.get b) : TxtAt h' v l := by
  rcases x.is with h1 | ⟨b, k, rfl, h4⟩
  · exact ⟨.inl h1⟩
  · exact ⟨.inr ⟨b, k, rfl, (hk b (List.mem_singleton.2 rfl)).trans h4⟩⟩
set_option maxRecDepth 100000 in
theorem texts_spec (hsp : (sp 24).isNone = true) {v w : Value} {A B : List (List UInt8)} (hA : TxtAt h v A) (hB : TxtAt h w B) (hla : A.length < 9223372036854775807) (hlb : B.length < 9223372036854775807) (hR : R (.ret (.bool (decide (A = B)))) h) : WF Tryd.prog 1 sp 24 [v, w] h R := by
  refine wf_fn (fn := Tryd.f24) hsp rfl (by kernel_rfl) rfl ?_
  have hv : ∃ a, v = .slice a A.length A.length := by
    rcases hA.is with ⟨rfl, rfl⟩ | ⟨b, k, rfl, _⟩ <;> exact ⟨_, rfl⟩
  have hw : ∃ a, w = .slice a B.length B.length := by
    rcases hB.is with ⟨rfl, rfl⟩ | ⟨b, k, rfl, _⟩ <;> exact ⟨_, rfl⟩
  obtain ⟨va, hv⟩ := hv
  obtain ⟨wa, hw⟩ := hw
  by_cases c1 : A.length = B.length
  · have c1' : (A.length : Int) = (B.length : Int) := by omega
    simp only [↓reduceIte, reduceCtorEq, Za, Zb, Zc, Zd, Ze, Zf, Zg, Zh, Zi, Zj, Zk, Zl, Zm, Zn, Zo, Zp, Zq, Zr, Zs, Zt, Zu, Zv, gval, Zw, Zx, Zy, Zz, ZA, ZB, ZC, ZD, ZE, ZF, decide_eq_true_eq, ZG, ZH, ZI, ZJ, ZK, ZL, ZM, ZN, ZO, ZP, ZQ, ZR, ZS, Option.some.injEq, exists_eq_left', ZT, ZU, ZV, ZW, ZX, ZY, true_and, and_true, true_or, or_true, false_or, or_false, ite_true, ite_false, cond_true, cond_false, ZZ, Qa, if_true, if_false, decide_true, decide_false, Qb, Qc, Qd, Qe, Qf, Qg, Qh, Qi, Qj, Qk, Ql, Qm, Qn, Qo, Qp, rb0, rb1, rb2, rb3, rb4, tf0, tf1, tf2, tf3, tf4, Tryd.f24, hv, hw, c1']
    refine run_loop2 rfl (fun N e h' => ∃ p : Nat, N = A.length - p ∧ p ≤ A.length ∧ (∀ j, j < p → A[j]? = B[j]?) ∧ e.at 0 = v ∧ e.at 1 = w ∧ e.at 5 = .int .i64 p ∧ h' = h)
      (fun ex e h' => (ex = .ret ∧ e.at 4 = .bool false ∧ A ≠ B ∨ ex = .exit 0 ∧ A = B) ∧ h' = h) ?_ (A.length - 0) _ _ ?_ ?_
    · rintro N e h' ⟨p, rfl, hpl, hz, e0, e1, e5, rfl⟩ Q' hQn hQx
      by_cases hp : p < A.length
      · obtain ⟨x, hx⟩ : ∃ x, A[p]? = some x := ⟨_, List.getElem?_eq_getElem hp⟩
        obtain ⟨y, hy⟩ : ∃ y, B[p]? = some y := ⟨_, List.getElem?_eq_getElem (by omega)⟩
        have hp1 : (p : Int) < (A.length : Int) := by omega
        have hp2 : (p : Int) < (B.length : Int) := by omega
        have hp0 : (0 : Int) ≤ (p : Int) := by omega
        have hp3 : p < B.length := by omega
        have wp : wrapF .i64 ((p : Int) + 1) = ((p + 1 : Nat) : Int) := by rw [wrapI (by omega) (by omega)]; omega
        rcases hA.is with ⟨_, rfl⟩ | ⟨b, k, hv2, g1⟩
        · exact absurd hp (Nat.not_lt_zero _)
        rcases hB.is with ⟨_, rfl⟩ | ⟨b', k', hw2, g2⟩
        · exact absurd hp3 (Nat.not_lt_zero _)
        rw [hv2] at e0
        rw [hw2] at e1
        have x1 := strs_at hx
        have x2 := strs_at hy
        have l1 := strs_len A
        have l2 := strs_len B
        by_cases c2 : x = y
        · have cx : decide (x ≠ y) = false := by simp [c2]
          simp only [↓reduceIte, reduceCtorEq, Za, Zb, Zc, Zd, Ze, Zf, Zg, Zh, Zi, Zj, Zk, Zl, Zm, Zn, Zo, Zp, Zq, Zr, Zs, Zt, Zu, Zv, gval, Zw, Zx, Zy, Zz, ZA, ZB, ZC, ZD, ZE, ZF, decide_eq_true_eq, ZG, ZH, ZI, ZJ, ZK, ZL, ZM, ZN, ZO, ZP, ZQ, ZR, ZS, Option.some.injEq, exists_eq_left', ZT, ZU, ZV, ZW, ZX, ZY, true_and, and_true, true_or, or_true, false_or, or_false, ite_true, ite_false, cond_true, cond_false, ZZ, Qa, if_true, if_false, decide_true, decide_false, Qb, Qc, Qd, Qe, Qf, Qg, Qh, Qi, Qj, Qk, Ql, Qm, Qn, Qo, Qp, rb0, rb1, rb2, rb3, rb4, tf0, tf1, tf2, tf3, tf4, e0, e1, e5, hp1]
          refine run_draw (ps := []) (by kernel_rfl) (by kernel_rfl) ?_
          simp only [↓reduceIte, reduceCtorEq, Za, Zb, Zc, Zd, Ze, Zf, Zg, Zh, Zi, Zj, Zk, Zl, Zm, Zn, Zo, Zp, Zq, Zr, Zs, Zt, Zu, Zv, gval, Zw, Zx, Zy, Zz, ZA, ZB, ZC, ZD, ZE, ZF, decide_eq_true_eq, ZG, ZH, ZI, ZJ, ZK, ZL, ZM, ZN, ZO, ZP, ZQ, ZR, ZS, Option.some.injEq, exists_eq_left', ZT, ZU, ZV, ZW, ZX, ZY, true_and, and_true, true_or, or_true, false_or, or_false, ite_true, ite_false, cond_true, cond_false, ZZ, Qa, if_true, if_false, decide_true, decide_false, Qb, Qc, Qd, Qe, Qf, Qg, Qh, Qi, Qj, Qk, Ql, Qm, Qn, Qo, Qp, rb0, rb1, rb2, rb3, rb4, tf0, tf1, tf2, tf3, tf4, e0, e1, e5, hp0, hp1, hp2, hp, hp3, g1, g2, l1, l2, x1, x2, str_neG, cx, wp, Nat.mul_one]
          refine hQn _ _ _ (by omega) ⟨p + 1, rfl, by omega, fun j hj => ?_, by simp only [at_put, at_args, Nat.reduceBEq, cond_true, cond_false, List.getElem?_cons_zero, List.getElem?_cons_succ, Option.getD_some, Nat.add_zero, Int.cast_ofNat_Int, e0, hv2], by simp only [at_put, at_args, Nat.reduceBEq, cond_true, cond_false, List.getElem?_cons_zero, List.getElem?_cons_succ, Option.getD_some, Nat.add_zero, Int.cast_ofNat_Int, e1, hw2], by simp only [at_put, at_args, Nat.reduceBEq, cond_true, cond_false, List.getElem?_cons_zero, List.getElem?_cons_succ, Option.getD_some, Nat.add_zero, Int.cast_ofNat_Int], rfl⟩
          rcases Nat.lt_or_ge j p with q | q
          · exact hz j q
          · rw [show j = p by omega, hx, hy, c2]
        · have cx : decide (x ≠ y) = true := by simp [c2]
          simp only [↓reduceIte, reduceCtorEq, Za, Zb, Zc, Zd, Ze, Zf, Zg, Zh, Zi, Zj, Zk, Zl, Zm, Zn, Zo, Zp, Zq, Zr, Zs, Zt, Zu, Zv, gval, Zw, Zx, Zy, Zz, ZA, ZB, ZC, ZD, ZE, ZF, decide_eq_true_eq, ZG, ZH, ZI, ZJ, ZK, ZL, ZM, ZN, ZO, ZP, ZQ, ZR, ZS, Option.some.injEq, exists_eq_left', ZT, ZU, ZV, ZW, ZX, ZY, true_and, and_true, true_or, or_true, false_or, or_false, ite_true, ite_false, cond_true, cond_false, ZZ, Qa, if_true, if_false, decide_true, decide_false, Qb, Qc, Qd, Qe, Qf, Qg, Qh, Qi, Qj, Qk, Ql, Qm, Qn, Qo, Qp, rb0, rb1, rb2, rb3, rb4, tf0, tf1, tf2, tf3, tf4, e0, e1, e5, hp1]
          refine run_draw (ps := []) (by kernel_rfl) (by kernel_rfl) ?_
          simp only [↓reduceIte, reduceCtorEq, Za, Zb, Zc, Zd, Ze, Zf, Zg, Zh, Zi, Zj, Zk, Zl, Zm, Zn, Zo, Zp, Zq, Zr, Zs, Zt, Zu, Zv, gval, Zw, Zx, Zy, Zz, ZA, ZB, ZC, ZD, ZE, ZF, decide_eq_true_eq, ZG, ZH, ZI, ZJ, ZK, ZL, ZM, ZN, ZO, ZP, ZQ, ZR, ZS, Option.some.injEq, exists_eq_left', ZT, ZU, ZV, ZW, ZX, ZY, true_and, and_true, true_or, or_true, false_or, or_false, ite_true, ite_false, cond_true, cond_false, ZZ, Qa, if_true, if_false, decide_true, decide_false, Qb, Qc, Qd, Qe, Qf, Qg, Qh, Qi, Qj, Qk, Ql, Qm, Qn, Qo, Qp, rb0, rb1, rb2, rb3, rb4, tf0, tf1, tf2, tf3, tf4, e0, e1, e5, hp0, hp1, hp2, hp, hp3, g1, g2, l1, l2, x1, x2, str_neG, cx, wp, Nat.mul_one]
          exact hQx _ _ _ (by simp) ⟨.inl ⟨rfl, by simp only [at_put, at_args, Nat.reduceBEq, cond_true, cond_false, List.getElem?_cons_zero, List.getElem?_cons_succ, Option.getD_some, Nat.add_zero, Int.cast_ofNat_Int], fun e => by rw [e, hy] at hx; exact c2 (Option.some.inj hx).symm⟩, rfl⟩
      · have hp' : ¬ (p : Int) < (A.length : Int) := by omega
        rw [hv] at e0
        simp only [↓reduceIte, reduceCtorEq, Za, Zb, Zc, Zd, Ze, Zf, Zg, Zh, Zi, Zj, Zk, Zl, Zm, Zn, Zo, Zp, Zq, Zr, Zs, Zt, Zu, Zv, gval, Zw, Zx, Zy, Zz, ZA, ZB, ZC, ZD, ZE, ZF, decide_eq_true_eq, ZG, ZH, ZI, ZJ, ZK, ZL, ZM, ZN, ZO, ZP, ZQ, ZR, ZS, Option.some.injEq, exists_eq_left', ZT, ZU, ZV, ZW, ZX, ZY, true_and, and_true, true_or, or_true, false_or, or_false, ite_true, ite_false, cond_true, cond_false, ZZ, Qa, if_true, if_false, decide_true, decide_false, Qb, Qc, Qd, Qe, Qf, Qg, Qh, Qi, Qj, Qk, Ql, Qm, Qn, Qo, Qp, rb0, rb1, rb2, rb3, rb4, tf0, tf1, tf2, tf3, tf4, e0, e5, hp']
        refine hQx _ _ _ (by simp) ⟨.inr ⟨rfl, List.ext_getElem? fun j => ?_⟩, rfl⟩
        rcases Nat.lt_or_ge j p with q | q
        · exact hz j q
        · rw [List.getElem?_eq_none (by omega), List.getElem?_eq_none (by omega)]
    · exact ⟨0, rfl, by omega, fun _ h => absurd h (Nat.not_lt_zero _), by simp only [at_put, at_args, Nat.reduceBEq, cond_true, cond_false, List.getElem?_cons_zero, List.getElem?_cons_succ, Option.getD_some, Nat.add_zero, Int.cast_ofNat_Int, hv], by simp only [at_put, at_args, Nat.reduceBEq, cond_true, cond_false, List.getElem?_cons_zero, List.getElem?_cons_succ, Option.getD_some, Nat.add_zero, Int.cast_ofNat_Int, hw], by simp only [at_put, at_args, Nat.reduceBEq, cond_true, cond_false, List.getElem?_cons_zero, List.getElem?_cons_succ, Option.getD_some, Nat.add_zero, Int.cast_ofNat_Int], rfl⟩
    · rintro ex e h' - ⟨⟨rfl, e2, hm⟩ | ⟨rfl, hm⟩, rfl⟩
      · simp only [↓reduceIte, reduceCtorEq, Za, Zb, Zc, Zd, Ze, Zf, Zg, Zh, Zi, Zj, Zk, Zl, Zm, Zn, Zo, Zp, Zq, Zr, Zs, Zt, Zu, Zv, gval, Zw, Zx, Zy, Zz, ZA, ZB, ZC, ZD, ZE, ZF, decide_eq_true_eq, ZG, ZH, ZI, ZJ, ZK, ZL, ZM, ZN, ZO, ZP, ZQ, ZR, ZS, Option.some.injEq, exists_eq_left', ZT, ZU, ZV, ZW, ZX, ZY, true_and, and_true, true_or, or_true, false_or, or_false, ite_true, ite_false, cond_true, cond_false, ZZ, Qa, if_true, if_false, decide_true, decide_false, Qb, Qc, Qd, Qe, Qf, Qg, Qh, Qi, Qj, Qk, Ql, Qm, Qn, Qo, Qp, rb0, rb1, rb2, rb3, rb4, tf0, tf1, tf2, tf3, tf4, e2]
        rw [decide_eq_false hm] at hR
        exact hR
      · simp only [↓reduceIte, reduceCtorEq, Za, Zb, Zc, Zd, Ze, Zf, Zg, Zh, Zi, Zj, Zk, Zl, Zm, Zn, Zo, Zp, Zq, Zr, Zs, Zt, Zu, Zv, gval, Zw, Zx, Zy, Zz, ZA, ZB, ZC, ZD, ZE, ZF, decide_eq_true_eq, ZG, ZH, ZI, ZJ, ZK, ZL, ZM, ZN, ZO, ZP, ZQ, ZR, ZS, Option.some.injEq, exists_eq_left', ZT, ZU, ZV, ZW, ZX, ZY, true_and, and_true, true_or, or_true, false_or, or_false, ite_true, ite_false, cond_true, cond_false, ZZ, Qa, if_true, if_false, decide_true, decide_false, Qb, Qc, Qd, Qe, Qf, Qg, Qh, Qi, Qj, Qk, Ql, Qm, Qn, Qo, Qp, rb0, rb1, rb2, rb3, rb4, tf0, tf1, tf2, tf3, tf4]
        rw [decide_eq_true hm] at hR
        exact hR
  · have c1' : ¬ (A.length : Int) = (B.length : Int) := by omega
    simp only [↓reduceIte, reduceCtorEq, Za, Zb, Zc, Zd, Ze, Zf, Zg, Zh, Zi, Zj, Zk, Zl, Zm, Zn, Zo, Zp, Zq, Zr, Zs, Zt, Zu, Zv, gval, Zw, Zx, Zy, Zz, ZA, ZB, ZC, ZD, ZE, ZF, decide_eq_true_eq, ZG, ZH, ZI, ZJ, ZK, ZL, ZM, ZN, ZO, ZP, ZQ, ZR, ZS, Option.some.injEq, exists_eq_left', ZT, ZU, ZV, ZW, ZX, ZY, true_and, and_true, true_or, or_true, false_or, or_false, ite_true, ite_false, cond_true, cond_false, ZZ, Qa, if_true, if_false, decide_true, decide_false, Qb, Qc, Qd, Qe, Qf, Qg, Qh, Qi, Qj, Qk, Ql, Qm, Qn, Qo, Qp, rb0, rb1, rb2, rb3, rb4, tf0, tf1, tf2, tf3, tf4, Tryd.f24, hv, hw, c1']
    rw [decide_eq_false (fun e => c1 (by rw [e]))] at hR
    exact hR
end Go.Proofs.YtmadjdgipfdnkaaDoor
end
section
/- Paths: the parts of a path. Conditions: as each rule says. -/
namespace Go.Proofs.YtmadjdgipfdnkaaDoor
open Go.AM
open Nat renaming reduceBEq → Za, reduceEqDiff → Zb, reduceAdd → Zc, reduceSub → Zd, reduceMul → Ze, reduceLT → Zf, reduceLeDiff → Zg, reduceDiv → Zh, reduceMod → Zi, reducePow → Zj, blt_eq → ZF, zero_add → Qc, add_zero → Qd
open Int renaming reduceAdd → Zk, reduceSub → Zl, reduceMul → Zm, reduceLT → Zn, reduceLE → Zo, reduceEq → Zp, reduceNe → Zq, reduceNeg → Zr, reduceToNat → Zs, reduceDiv → Zt, reduceMod → Zu, reducePow → Zv, cast_ofNat_Int → Zw, toNat_natCast → Qb
open List renaming set_cons_zero → Zx, set_cons_succ → Zy, map_toArray → Zz, cons_append → ZA, nil_append → ZB, append_nil → ZC, all_cons → ZD, all_nil → ZE, getElem?_cons_zero → ZJ, getElem?_cons_succ → ZK, length_cons → ZL, length_nil → ZM, map_cons → ZN, map_nil → ZO, isEmpty_nil → Qe, any_cons → Qf, any_nil → Qg, drop_zero → Qk, drop_succ_cons → Ql, take_succ_cons → Qm, take_zero → Qn, take_nil → Qo, drop_nil → Qp
open Bool renaming and_true → ZG, true_and → ZH, and_self → ZI, not_true → ZT, not_false → ZU, true_eq_false → ZZ, false_eq_true → Qa, or_false → Qh, false_or → Qi, and_eq_true → Qj
open Option renaming map_some → ZP, map_none → ZQ, bind_some → ZR, getD_some → ZS, isNone_some → ZV, isNone_none → ZW, isSome_some → ZX, isSome_none → ZY
set_option linter.unusedSimpArgs false
variable {sp : Special} {h : Heap} {R : Out → Heap → Prop}
/-- a part ends at i. -/
def cutP (p : List UInt8) (st : List (List UInt8) × Nat) (i : Nat) : List (List UInt8) × Nat := (if st.2 < i then st.1 ++ [(p.drop st.2).take (i - st.2)] else st.1, i + 1)
/-- the parts that end before i, and where the next begins. -/
def cutS (p : List UInt8) : Nat → List (List UInt8) × Nat
  | 0 => ([], 0)
  | i + 1 => if p[i]? = some 47 then cutP p (cutS p i) i else cutS p i
def parts (p : List UInt8) : List (List UInt8) := (cutP p (cutS p p.length) p.length).1
theorem cutS_le (p : List UInt8) : ∀ i, (cutS p i).2 ≤ i
  | 0 => Nat.le_refl _
  | i + 1 => by
    unfold cutS
    split
    · exact Nat.le_refl _
    · have := cutS_le p i; omega
theorem cutS_len (p : List UInt8) : ∀ i, (cutS p i).1.length ≤ i
  | 0 => Nat.le_refl _
  | i + 1 => by
    have := cutS_len p i
    unfold cutS cutP
    split
    · simp only
      split
      · rw [List.length_append, List.length_singleton]; omega
      · omega
    · omega
theorem cutS_skip (p : List UInt8) {i : Nat} : ∀ w, (∀ j, i ≤ j → j < i + w → p[j]? ≠ some 47) → cutS p (i + w) = cutS p i
  | 0, _ => rfl
  | w + 1, hw => by
    show cutS p ((i + w) + 1) = _
    conv => lhs; unfold cutS
    rw [if_neg (hw (i + w) (by omega) (by omega)), cutS_skip p w fun j h1 h2 => hw j h1 (by omega)]
theorem cutP_len (p : List UInt8) {st : List (List UInt8) × Nat} {i : Nat} : (cutP p st i).1.length ≤ st.1.length + 1 := by
  unfold cutP
  simp only
  split
  · rw [List.length_append, List.length_singleton]; exact Nat.le_refl _
  · omega
theorem parts_len (p : List UInt8) : (parts p).length ≤ p.length + 1 := by
  have h1 := cutS_len p p.length
  have h2 := cutP_len p (st := cutS p p.length) (i := p.length)
  unfold parts; omega
/-- the first error. -/
def errL : List (List UInt8) → Int
  | [] => 0
  | x :: r => if chk x ≠ 0 then chk x else errL r
theorem errL_at : ∀ {L : List (List UInt8)} {i : Nat} {x : List UInt8}, (∀ j y, j < i → L[j]? = some y → chk y = 0) → L[i]? = some x → chk x ≠ 0 → errL L = chk x
  | [], _, _, _, h, _ => by simp at h
  | y :: r, 0, x, _, h, hc => by
    rw [List.getElem?_cons_zero] at h
    cases Option.some.inj h
    unfold errL; rw [if_pos hc]
  | y :: r, i + 1, x, hz, h, hc => by
    unfold errL
    rw [if_neg (by rw [hz 0 y (by omega) rfl]; exact fun h => h rfl)]
    exact errL_at (fun j y hj hy => hz (j + 1) y (by omega) hy) h hc
theorem errL_none : ∀ {L : List (List UInt8)}, (∀ (j : Nat) (y : List UInt8), L[j]? = some y → chk y = 0) → errL L = 0
  | [], _ => rfl
  | y :: r, hz => by
    unfold errL
    rw [if_neg (by rw [hz 0 y rfl]; exact fun h => h rfl)]
    exact errL_none fun j y hy => hz (j + 1) y hy
/-- the answer's error, its parts. -/
def splE (p : List UInt8) : Int := if p = [] then 2 else if 32 < p.length then 36 else errL (parts p)
def splL (p : List UInt8) : List (List UInt8) := if splE p = 0 then parts p else []
theorem chk_b (l : List UInt8) : chk l = 36 ∨ chk l = 22 ∨ chk l = 0 := by
  unfold chk
  split
  · exact .inl rfl
  · split
    · exact .inr (.inl rfl)
    · exact .inr (.inr rfl)
theorem bs1_56 (s : ByteArray) (nx : Nat) : effBuildSlice Tryd.prog 56 1 [(0, .string s)] nx = some ⟨.slice (some ⟨nx, 0, none⟩) 1 1, [], [cellsB [.string s] .exact]⟩ := by
  rw [u_buildSlice 56 1 nx _ mk_56 (by omega)]; rfl
theorem nbeq {a b : Nat} (h : a ≠ b) : a.beq b = false := by rw [← Bool.not_eq_true, Nat.beq_eq]; exact h
set_option maxRecDepth 100000 in
theorem part44_spec (hsp : (sp 44).isNone = true) {bf bl bp lo n i fr : Nat} {v : Value} {p : List UInt8} {L : List (List UInt8)} (gf : h.get bf = some (cellsB [.int .i64 fr] .exact)) (gl : h.get bl = some (cellsB [v] .exact)) (gp : h.get bp = some (cellsB [.string (mkS p)] .exact))
    (hd : bf ≠ bl ∧ bf ≠ bp ∧ bl ≠ bp ∧ bf < lo ∧ bl < lo ∧ bp < lo ∧ lo ≤ h.nx) (r : RowG h lo 1 v n (strs L)) (hi : i ≤ p.length) (hp : p.length ≤ 32) (hn : n ≤ 1000)
    (hR : ∀ h' w n', h.nx ≤ h'.nx → h'.get bf = some (cellsB [.int .i64 ((cutP p (L, fr) i).2 : Nat)] .exact) → h'.get bl = some (cellsB [w] .exact) → h'.get bp = some (cellsB [.string (mkS p)] .exact) → RowG h' lo 1 w n' (strs (cutP p (L, fr) i).1) → n' ≤ n + 1 → (∀ b, b < lo → b ≠ bf → b ≠ bl → h'.get b = h.get b) → R (.ret (.tuple #[])) h') :
    WF Tryd.prog 1 sp 44 [.int .i64 i, .pointer (some ⟨bf, 0, none⟩), .pointer (some ⟨bl, 0, none⟩), .pointer (some ⟨bp, 0, none⟩)] h R := by
  refine wf_fn (fn := Tryd.f44) hsp rfl (by kernel_rfl) rfl ?_
  obtain ⟨d1, d2, d3, d4, d5, d6, d7⟩ := hd
  have wp : wrapF .i64 ((i : Int) + 1) = ((i + 1 : Nat) : Int) := by rw [wrapI (by omega) (by omega)]; omega
  by_cases c1 : fr < i
  · have c1' : (fr : Int) < (i : Int) := by omega
    simp only [↓reduceIte, reduceCtorEq, Za, Zb, Zc, Zd, Ze, Zf, Zg, Zh, Zi, Zj, Zk, Zl, Zm, Zn, Zo, Zp, Zq, Zr, Zs, Zt, Zu, Zv, gval, Zw, Zx, Zy, Zz, ZA, ZB, ZC, ZD, ZE, ZF, decide_eq_true_eq, ZG, ZH, ZI, ZJ, ZK, ZL, ZM, ZN, ZO, ZP, ZQ, ZR, ZS, Option.some.injEq, exists_eq_left', ZT, ZU, ZV, ZW, ZX, ZY, true_and, and_true, true_or, or_true, false_or, or_false, ite_true, ite_false, cond_true, cond_false, ZZ, Qa, if_true, if_false, decide_true, decide_false, Qb, Qc, Qd, Qe, Qf, Qg, Qh, Qi, Qj, Qk, Ql, Qm, Qn, Qo, Qp, rb0, rb1, rb2, rb3, rb4, tf0, tf1, tf2, tf3, tf4, Tryd.f44, gf, c1']
    refine run_draw (ps := [(0, 4), (0, 5)]) (by kernel_rfl) (by kernel_rfl) ?_
    obtain ⟨X, hX⟩ : ∃ X, (p.drop fr).take (i - fr) = X := ⟨_, rfl⟩
    have hcut : cutP p (L, fr) i = (L ++ [X], i + 1) := by unfold cutP; simp only; rw [if_pos c1, hX]
    rw [hcut] at hR
    have hnew : firstL (h.new (cellsB [.string (mkS X)] .exact)).get 1 1 (.slice (some ⟨h.nx, 0, none⟩) 1 1) = some [.string (mkS X)] := by rw [firstL_slc _ _ _ _ _ _ _ _ _ (Heap.get_new_same _ _) (by simp)]; rfl
    rcases r.is with ⟨rfl, hL, rfl⟩ | ⟨b, q1, q2, rfl, q4⟩
    · have hap := aAppend_nil app_56_56 1 _ _ (h.nx + 1) rfl (by omega) (by omega) hnew
      simp (disch := (first | omega | rfl | (simp only [Heap.nx_upd, Heap.nx_new]; omega))) only [↓reduceIte, reduceCtorEq, Za, Zb, Zc, Zd, Ze, Zf, Zg, Zh, Zi, Zj, Zk, Zl, Zm, Zn, Zo, Zp, Zq, Zr, Zs, Zt, Zu, Zv, gval, Zw, Zx, Zy, Zz, ZA, ZB, ZC, ZD, ZE, ZF, decide_eq_true_eq, ZG, ZH, ZI, ZJ, ZK, ZL, ZM, ZN, ZO, ZP, ZQ, ZR, ZS, Option.some.injEq, exists_eq_left', ZT, ZU, ZV, ZW, ZX, ZY, true_and, and_true, true_or, or_true, false_or, or_false, ite_true, ite_false, cond_true, cond_false, ZZ, Qa, if_true, if_false, decide_true, decide_false, Qb, Qc, Qd, Qe, Qf, Qg, Qh, Qi, Qj, Qk, Ql, Qm, Qn, Qo, Qp, rb0, rb1, rb2, rb3, rb4, tf0, tf1, tf2, tf3, tf4, Heap.get_upd_ne, Heap.get_new_ne, Heap.get_new_at, overL_one, if_pos, stX_exactN, gf, gl, gp, hX, str_slice tag_9 (Nat.le_of_lt c1) hi, bs1_56, hap]
      refine ⟨by rw [nbeq (show bl ≠ h.nx by omega)]; rfl, ?_⟩
      rw [wp]
      refine hR _ (.slice (some ⟨h.nx + 1, 0, none⟩) 1 1) 1 ?_ (by simp (disch := (first | omega | rfl | (simp only [Heap.nx_upd, Heap.nx_new]; omega))) only [Heap.get_upd_ne, Heap.get_new_ne, Heap.get_new_at, Heap.get_upd_same, Heap.get_new_same, Heap.nx_upd, Heap.nx_new]) (by simp (disch := (first | omega | rfl | (simp only [Heap.nx_upd, Heap.nx_new]; omega))) only [Heap.get_upd_ne, Heap.get_new_ne, Heap.get_new_at, Heap.get_upd_same, Heap.get_new_same, Heap.nx_upd, Heap.nx_new]) (by simp (disch := (first | omega | rfl | (simp only [Heap.nx_upd, Heap.nx_new]; omega))) only [Heap.get_upd_ne, Heap.get_new_ne, Heap.get_new_at, Heap.get_upd_same, Heap.get_new_same, Heap.nx_upd, Heap.nx_new, gp]) ⟨?_, .inr ⟨h.nx + 1, by omega, ?_, rfl, ?_⟩⟩ (by omega) fun b' h1 h2 h3 => ?_
      · simp (disch := (first | omega | rfl | (simp only [Heap.nx_upd, Heap.nx_new]; omega))) only [Heap.get_upd_ne, Heap.get_new_ne, Heap.get_new_at, Heap.get_upd_same, Heap.get_new_same, Heap.nx_upd, Heap.nx_new]; omega
      · show (strs (L ++ [X])).length = _
        rw [strs_len, List.length_append, List.length_singleton]; have := r.len; rw [strs_len] at this; omega
      · simp (disch := (first | omega | rfl | (simp only [Heap.nx_upd, Heap.nx_new]; omega))) only [Heap.get_upd_ne, Heap.get_new_ne, Heap.get_new_at, Heap.get_upd_same, Heap.get_new_same, Heap.nx_upd, Heap.nx_new]; omega
      · simp (disch := (first | omega | rfl | (simp only [Heap.nx_upd, Heap.nx_new]; omega))) only [Heap.get_upd_ne, Heap.get_new_ne, Heap.get_new_at, Heap.get_upd_same, Heap.get_new_same, Heap.nx_upd, Heap.nx_new]; rw [strs_app, hL]; rfl
      · simp (disch := (first | omega | rfl | (simp only [Heap.nx_upd, Heap.nx_new]; omega))) only [Heap.get_upd_ne, Heap.get_new_ne, Heap.get_new_at, Heap.get_upd_same, Heap.get_new_same, Heap.nx_upd, Heap.nx_new]
    · have q4' : (h.new (cellsB [.string (mkS X)] .exact)).get b = some (cellsB (strs L) (.loose 1)) := by rw [Heap.get_new_ne _ _ (by omega)]; exact q4
      have hap := aAppend_loose app_56_56 b n 1 _ _ (h.nx + 1) q4' r.len rfl (by omega) (by omega) hnew
      simp (disch := (first | omega | rfl | (simp only [Heap.nx_upd, Heap.nx_new]; omega))) only [↓reduceIte, reduceCtorEq, Za, Zb, Zc, Zd, Ze, Zf, Zg, Zh, Zi, Zj, Zk, Zl, Zm, Zn, Zo, Zp, Zq, Zr, Zs, Zt, Zu, Zv, gval, Zw, Zx, Zy, Zz, ZA, ZB, ZC, ZD, ZE, ZF, decide_eq_true_eq, ZG, ZH, ZI, ZJ, ZK, ZL, ZM, ZN, ZO, ZP, ZQ, ZR, ZS, Option.some.injEq, exists_eq_left', ZT, ZU, ZV, ZW, ZX, ZY, true_and, and_true, true_or, or_true, false_or, or_false, ite_true, ite_false, cond_true, cond_false, ZZ, Qa, if_true, if_false, decide_true, decide_false, Qb, Qc, Qd, Qe, Qf, Qg, Qh, Qi, Qj, Qk, Ql, Qm, Qn, Qo, Qp, rb0, rb1, rb2, rb3, rb4, tf0, tf1, tf2, tf3, tf4, Heap.get_upd_ne, Heap.get_new_ne, Heap.get_new_at, overL_one, if_pos, stX_exactN, gf, gl, gp, hX, str_slice tag_9 (Nat.le_of_lt c1) hi, bs1_56, hap]
      refine ⟨by rw [nbeq (show bl ≠ h.nx by omega)]; rfl, ?_⟩
      rw [wp]
      refine hR _ (.slice (some ⟨h.nx + 1, 0, none⟩) (n + 1) (n + 1)) (n + 1) ?_ (by simp (disch := (first | omega | rfl | (simp only [Heap.nx_upd, Heap.nx_new]; omega))) only [Heap.get_upd_ne, Heap.get_new_ne, Heap.get_new_at, Heap.get_upd_same, Heap.get_new_same, Heap.nx_upd, Heap.nx_new]) (by simp (disch := (first | omega | rfl | (simp only [Heap.nx_upd, Heap.nx_new]; omega))) only [Heap.get_upd_ne, Heap.get_new_ne, Heap.get_new_at, Heap.get_upd_same, Heap.get_new_same, Heap.nx_upd, Heap.nx_new]) (by simp (disch := (first | omega | rfl | (simp only [Heap.nx_upd, Heap.nx_new]; omega))) only [Heap.get_upd_ne, Heap.get_new_ne, Heap.get_new_at, Heap.get_upd_same, Heap.get_new_same, Heap.nx_upd, Heap.nx_new, gp]) ⟨?_, .inr ⟨h.nx + 1, by omega, ?_, rfl, ?_⟩⟩ (by omega) fun b' h1 h2 h3 => ?_
      · simp (disch := (first | omega | rfl | (simp only [Heap.nx_upd, Heap.nx_new]; omega))) only [Heap.get_upd_ne, Heap.get_new_ne, Heap.get_new_at, Heap.get_upd_same, Heap.get_new_same, Heap.nx_upd, Heap.nx_new]; omega
      · show (strs (L ++ [X])).length = _
        rw [strs_len, List.length_append, List.length_singleton]; have := r.len; rw [strs_len] at this; omega
      · simp (disch := (first | omega | rfl | (simp only [Heap.nx_upd, Heap.nx_new]; omega))) only [Heap.get_upd_ne, Heap.get_new_ne, Heap.get_new_at, Heap.get_upd_same, Heap.get_new_same, Heap.nx_upd, Heap.nx_new]; omega
      · simp (disch := (first | omega | rfl | (simp only [Heap.nx_upd, Heap.nx_new]; omega))) only [Heap.get_upd_ne, Heap.get_new_ne, Heap.get_new_at, Heap.get_upd_same, Heap.get_new_same, Heap.nx_upd, Heap.nx_new]; rw [strs_app]; rfl
      · simp (disch := (first | omega | rfl | (simp only [Heap.nx_upd, Heap.nx_new]; omega))) only [Heap.get_upd_ne, Heap.get_new_ne, Heap.get_new_at, Heap.get_upd_same, Heap.get_new_same, Heap.nx_upd, Heap.nx_new]
  · have c1' : ¬ (fr : Int) < (i : Int) := by omega
    simp (disch := (first | omega | rfl | (simp only [Heap.nx_upd, Heap.nx_new]; omega))) only [↓reduceIte, reduceCtorEq, Za, Zb, Zc, Zd, Ze, Zf, Zg, Zh, Zi, Zj, Zk, Zl, Zm, Zn, Zo, Zp, Zq, Zr, Zs, Zt, Zu, Zv, gval, Zw, Zx, Zy, Zz, ZA, ZB, ZC, ZD, ZE, ZF, decide_eq_true_eq, ZG, ZH, ZI, ZJ, ZK, ZL, ZM, ZN, ZO, ZP, ZQ, ZR, ZS, Option.some.injEq, exists_eq_left', ZT, ZU, ZV, ZW, ZX, ZY, true_and, and_true, true_or, or_true, false_or, or_false, ite_true, ite_false, cond_true, cond_false, ZZ, Qa, if_true, if_false, decide_true, decide_false, Qb, Qc, Qd, Qe, Qf, Qg, Qh, Qi, Qj, Qk, Ql, Qm, Qn, Qo, Qp, rb0, rb1, rb2, rb3, rb4, tf0, tf1, tf2, tf3, tf4, Heap.get_upd_ne, Heap.get_new_ne, Heap.get_new_at, overL_one, if_pos, stX_exactN, Tryd.f44, gf, c1', wp]
    have hcut : cutP p (L, fr) i = (L, i + 1) := by unfold cutP; simp only; rw [if_neg c1]
    rw [hcut] at hR
    exact hR _ v n (by rw [Heap.nx_upd]; exact Nat.le_refl _) (by simp (disch := (first | omega | rfl | (simp only [Heap.nx_upd, Heap.nx_new]; omega))) only [Heap.get_upd_ne, Heap.get_new_ne, Heap.get_new_at, Heap.get_upd_same, Heap.get_new_same, Heap.nx_upd, Heap.nx_new]) (by simp (disch := (first | omega | rfl | (simp only [Heap.nx_upd, Heap.nx_new]; omega))) only [Heap.get_upd_ne, Heap.get_new_ne, Heap.get_new_at, Heap.get_upd_same, Heap.get_new_same, Heap.nx_upd, Heap.nx_new, gl]) (by simp (disch := (first | omega | rfl | (simp only [Heap.nx_upd, Heap.nx_new]; omega))) only [Heap.get_upd_ne, Heap.get_new_ne, Heap.get_new_at, Heap.get_upd_same, Heap.get_new_same, Heap.nx_upd, Heap.nx_new, gp]) (r.keep (by rw [Heap.nx_upd]; exact Nat.le_refl _) fun b h1 h2 _ => by simp (disch := (first | omega | rfl | (simp only [Heap.nx_upd, Heap.nx_new]; omega))) only [Heap.get_upd_ne, Heap.get_new_ne, Heap.get_new_at, Heap.get_upd_same, Heap.get_new_same, Heap.nx_upd, Heap.nx_new]) (by omega) fun b' h1 h2 h3 => by simp (disch := (first | omega | rfl | (simp only [Heap.nx_upd, Heap.nx_new]; omega))) only [Heap.get_upd_ne, Heap.get_new_ne, Heap.get_new_at, Heap.get_upd_same, Heap.get_new_same, Heap.nx_upd, Heap.nx_new]
set_option maxRecDepth 100000 in
theorem split_spec (p22 : (sp 22).isNone = true) (p44 : (sp 44).isNone = true) (p45 : (sp 45).isNone = true) {p : List UInt8} (hR : ∀ h' v, h.nx ≤ h'.nx → RowG h' h.nx 1 v (splL p).length (strs (splL p)) → (∀ b, b < h.nx → h'.get b = h.get b) → R (.ret (.tuple #[v, .int .i64 (splE p)])) h') : WF Tryd.prog 1 sp 22 [.string (mkS p)] h R := by
  refine wf_fn (fn := Tryd.f22) p22 rfl (by kernel_rfl) rfl ?_
  by_cases c1 : p = []
  · have hE : splE p = 2 := by unfold splE; rw [if_pos c1]
    have hL : splL p = [] := by unfold splL; rw [hE]; rfl
    have cx : decide (p = []) = true := by simp [c1]
    simp (disch := (first | omega | rfl | (simp only [Heap.nx_upd, Heap.nx_new]; omega))) only [↓reduceIte, reduceCtorEq, Za, Zb, Zc, Zd, Ze, Zf, Zg, Zh, Zi, Zj, Zk, Zl, Zm, Zn, Zo, Zp, Zq, Zr, Zs, Zt, Zu, Zv, gval, Zw, Zx, Zy, Zz, ZA, ZB, ZC, ZD, ZE, ZF, decide_eq_true_eq, ZG, ZH, ZI, ZJ, ZK, ZL, ZM, ZN, ZO, ZP, ZQ, ZR, ZS, Option.some.injEq, exists_eq_left', ZT, ZU, ZV, ZW, ZX, ZY, true_and, and_true, true_or, or_true, false_or, or_false, ite_true, ite_false, cond_true, cond_false, ZZ, Qa, if_true, if_false, decide_true, decide_false, Qb, Qc, Qd, Qe, Qf, Qg, Qh, Qi, Qj, Qk, Ql, Qm, Qn, Qo, Qp, rb0, rb1, rb2, rb3, rb4, tf0, tf1, tf2, tf3, tf4, Heap.get_upd_ne, Heap.get_new_ne, Heap.get_new_at, overL_one, if_pos, stX_exactN, Tryd.f22, str_eqG, cx, show ByteArray.empty = mkS [] from rfl]
    rw [hE, hL] at hR
    exact hR _ _ (by rw [Heap.nx_new]; omega) .nil fun b hb => by simp (disch := (first | omega | rfl | (simp only [Heap.nx_upd, Heap.nx_new]; omega))) only [Heap.get_upd_ne, Heap.get_new_ne, Heap.get_new_at, Heap.get_upd_same, Heap.get_new_same, Heap.nx_upd, Heap.nx_new]
  have cx : decide (p = []) = false := by simp [c1]
  by_cases c2 : 32 < p.length
  · have hE : splE p = 36 := by unfold splE; rw [if_neg c1, if_pos c2]
    have hL : splL p = [] := by unfold splL; rw [hE]; rfl
    have c2' : (32 : Int) < (p.length : Int) := by omega
    simp (disch := (first | omega | rfl | (simp only [Heap.nx_upd, Heap.nx_new]; omega))) only [↓reduceIte, reduceCtorEq, Za, Zb, Zc, Zd, Ze, Zf, Zg, Zh, Zi, Zj, Zk, Zl, Zm, Zn, Zo, Zp, Zq, Zr, Zs, Zt, Zu, Zv, gval, Zw, Zx, Zy, Zz, ZA, ZB, ZC, ZD, ZE, ZF, decide_eq_true_eq, ZG, ZH, ZI, ZJ, ZK, ZL, ZM, ZN, ZO, ZP, ZQ, ZR, ZS, Option.some.injEq, exists_eq_left', ZT, ZU, ZV, ZW, ZX, ZY, true_and, and_true, true_or, or_true, false_or, or_false, ite_true, ite_false, cond_true, cond_false, ZZ, Qa, if_true, if_false, decide_true, decide_false, Qb, Qc, Qd, Qe, Qf, Qg, Qh, Qi, Qj, Qk, Ql, Qm, Qn, Qo, Qp, rb0, rb1, rb2, rb3, rb4, tf0, tf1, tf2, tf3, tf4, Heap.get_upd_ne, Heap.get_new_ne, Heap.get_new_at, overL_one, if_pos, stX_exactN, Tryd.f22, str_eqG, cx, show ByteArray.empty = mkS [] from rfl, mkS_size, c2']
    rw [hE, hL] at hR
    exact hR _ _ (by rw [Heap.nx_new]; omega) .nil fun b hb => by simp (disch := (first | omega | rfl | (simp only [Heap.nx_upd, Heap.nx_new]; omega))) only [Heap.get_upd_ne, Heap.get_new_ne, Heap.get_new_at, Heap.get_upd_same, Heap.get_new_same, Heap.nx_upd, Heap.nx_new]
  have c2' : ¬ (32 : Int) < (p.length : Int) := by omega
  simp (disch := (first | omega | rfl | (simp only [Heap.nx_upd, Heap.nx_new]; omega))) only [↓reduceIte, reduceCtorEq, Za, Zb, Zc, Zd, Ze, Zf, Zg, Zh, Zi, Zj, Zk, Zl, Zm, Zn, Zo, Zp, Zq, Zr, Zs, Zt, Zu, Zv, gval, Zw, Zx, Zy, Zz, ZA, ZB, ZC, ZD, ZE, ZF, decide_eq_true_eq, ZG, ZH, ZI, ZJ, ZK, ZL, ZM, ZN, ZO, ZP, ZQ, ZR, ZS, Option.some.injEq, exists_eq_left', ZT, ZU, ZV, ZW, ZX, ZY, true_and, and_true, true_or, or_true, false_or, or_false, ite_true, ite_false, cond_true, cond_false, ZZ, Qa, if_true, if_false, decide_true, decide_false, Qb, Qc, Qd, Qe, Qf, Qg, Qh, Qi, Qj, Qk, Ql, Qm, Qn, Qo, Qp, rb0, rb1, rb2, rb3, rb4, tf0, tf1, tf2, tf3, tf4, Heap.get_upd_ne, Heap.get_new_ne, Heap.get_new_at, overL_one, if_pos, stX_exactN, Tryd.f22, str_eqG, cx, show ByteArray.empty = mkS [] from rfl, mkS_size, c2', u_rangeS (show Tryd.prog.underlying 9 = some .string from by kernel_rfl)]
  refine run_loop2 rfl (fun N e h' => ∃ (q n : Nat) (v : Value), N = p.length - q ∧ q ≤ p.length ∧ e.at 1 = .pointer (some ⟨h.nx, 0, none⟩) ∧ e.at 4 = .pointer (some ⟨h.nx + 1, 0, none⟩) ∧ e.at 6 = .func (.func 44) #[] #[.pointer (some ⟨h.nx + 1 + 1, 0, none⟩), .pointer (some ⟨h.nx + 1, 0, none⟩), .pointer (some ⟨h.nx, 0, none⟩)] ∧ e.at 19 = .pointer (some ⟨h.nx + 1 + 1 + 1, 0, none⟩) ∧
      h'.get (h.nx + 1 + 1 + 1) = some (.str (mkS p) q) ∧ h'.get (h.nx + 1 + 1) = some (cellsB [.int .i64 ((cutS p q).2 : Nat)] .exact) ∧ h'.get (h.nx + 1) = some (cellsB [v] .exact) ∧ h'.get h.nx = some (cellsB [.string (mkS p)] .exact) ∧ RowG h' (h.nx + 4) 1 v n (strs (cutS p q).1) ∧ h.nx + 4 ≤ h'.nx ∧ ∀ b, b < h.nx → h'.get b = h.get b)
    (fun ex e h' => ex = .exit 0 ∧ ∃ (n : Nat) (v : Value), e.at 1 = .pointer (some ⟨h.nx, 0, none⟩) ∧ e.at 4 = .pointer (some ⟨h.nx + 1, 0, none⟩) ∧ e.at 6 = .func (.func 44) #[] #[.pointer (some ⟨h.nx + 1 + 1, 0, none⟩), .pointer (some ⟨h.nx + 1, 0, none⟩), .pointer (some ⟨h.nx, 0, none⟩)] ∧
      h'.get (h.nx + 1 + 1) = some (cellsB [.int .i64 ((cutS p p.length).2 : Nat)] .exact) ∧ h'.get (h.nx + 1) = some (cellsB [v] .exact) ∧ h'.get h.nx = some (cellsB [.string (mkS p)] .exact) ∧ RowG h' (h.nx + 4) 1 v n (strs (cutS p p.length).1) ∧ h.nx + 4 ≤ h'.nx ∧ ∀ b, b < h.nx → h'.get b = h.get b) ?_ (p.length - 0) _ _ ?_ ?_
  · rintro N e h' ⟨q, n, v, rfl, hq, e1, e4, e6, e19, gi, gf, gl, gp, r, hn, hk⟩ Q' hQn hQx
    by_cases hp : q < p.length
    · obtain ⟨b, hb⟩ : ∃ b, p[q]? = some b := ⟨_, List.getElem?_eq_getElem hp⟩
      by_cases c3 : b.toNat = 47
      · have hb47 : b = 47 := by rw [← UInt8.toNat_inj]; exact c3
        have hd := dec_lo hb (by omega)
        rw [c3] at hd
        have hcut : cutS p (q + 1) = cutP p (cutS p q) q := by
          conv => lhs; unfold cutS
          rw [if_pos (by rw [hb, hb47])]
        simp (disch := (first | omega | rfl | (simp only [Heap.nx_upd, Heap.nx_new]; omega))) only [↓reduceIte, reduceCtorEq, Za, Zb, Zc, Zd, Ze, Zf, Zg, Zh, Zi, Zj, Zk, Zl, Zm, Zn, Zo, Zp, Zq, Zr, Zs, Zt, Zu, Zv, gval, Zw, Zx, Zy, Zz, ZA, ZB, ZC, ZD, ZE, ZF, decide_eq_true_eq, ZG, ZH, ZI, ZJ, ZK, ZL, ZM, ZN, ZO, ZP, ZQ, ZR, ZS, Option.some.injEq, exists_eq_left', ZT, ZU, ZV, ZW, ZX, ZY, true_and, and_true, true_or, or_true, false_or, or_false, ite_true, ite_false, cond_true, cond_false, ZZ, Qa, if_true, if_false, decide_true, decide_false, Qb, Qc, Qd, Qe, Qf, Qg, Qh, Qi, Qj, Qk, Ql, Qm, Qn, Qo, Qp, rb0, rb1, rb2, rb3, rb4, tf0, tf1, tf2, tf3, tf4, Heap.get_upd_ne, Heap.get_new_ne, Heap.get_new_at, overL_one, if_pos, stX_exactN, e1, e4, e6, e19, u_nextS gi (by rw [mkS_size]; exact hp) hd]
        have hnl : n ≤ q := by have h1 := r.len; have h2 := cutS_len p q; rw [strs_len] at h1; omega
        refine runC_of (part44_spec p44 (lo := h.nx + 4) (p := p) (L := (cutS p q).1) (fr := (cutS p q).2) (i := q) (n := n) (v := v) (by simp (disch := (first | omega | rfl | (simp only [Heap.nx_upd, Heap.nx_new]; omega))) only [Heap.get_upd_ne, Heap.get_new_ne, Heap.get_new_at, Heap.get_upd_same, Heap.get_new_same, Heap.nx_upd, Heap.nx_new, gf]) (by simp (disch := (first | omega | rfl | (simp only [Heap.nx_upd, Heap.nx_new]; omega))) only [Heap.get_upd_ne, Heap.get_new_ne, Heap.get_new_at, Heap.get_upd_same, Heap.get_new_same, Heap.nx_upd, Heap.nx_new, gl]) (by simp (disch := (first | omega | rfl | (simp only [Heap.nx_upd, Heap.nx_new]; omega))) only [Heap.get_upd_ne, Heap.get_new_ne, Heap.get_new_at, Heap.get_upd_same, Heap.get_new_same, Heap.nx_upd, Heap.nx_new, gp]) ⟨by omega, by omega, by omega, by omega, by omega, by omega, by simp (disch := (first | omega | rfl | (simp only [Heap.nx_upd, Heap.nx_new]; omega))) only [Heap.get_upd_ne, Heap.get_new_ne, Heap.get_new_at, Heap.get_upd_same, Heap.get_new_same, Heap.nx_upd, Heap.nx_new]; omega⟩ (r.keep (by rw [Heap.nx_upd]; exact Nat.le_refl _) fun b' h1 h2 _ => by simp (disch := (first | omega | rfl | (simp only [Heap.nx_upd, Heap.nx_new]; omega))) only [Heap.get_upd_ne, Heap.get_new_ne, Heap.get_new_at, Heap.get_upd_same, Heap.get_new_same, Heap.nx_upd, Heap.nx_new]) (by omega) (by omega) (by omega) fun h2 w n' n2 gf2 gl2 gp2 r2 hn2 k2 => ?_)
        simp only [↓reduceIte, reduceCtorEq, Za, Zb, Zc, Zd, Ze, Zf, Zg, Zh, Zi, Zj, Zk, Zl, Zm, Zn, Zo, Zp, Zq, Zr, Zs, Zt, Zu, Zv, gval, Zw, Zx, Zy, Zz, ZA, ZB, ZC, ZD, ZE, ZF, decide_eq_true_eq, ZG, ZH, ZI, ZJ, ZK, ZL, ZM, ZN, ZO, ZP, ZQ, ZR, ZS, Option.some.injEq, exists_eq_left', ZT, ZU, ZV, ZW, ZX, ZY, true_and, and_true, true_or, or_true, false_or, or_false, ite_true, ite_false, cond_true, cond_false, ZZ, Qa, if_true, if_false, decide_true, decide_false, Qb, Qc, Qd, Qe, Qf, Qg, Qh, Qi, Qj, Qk, Ql, Qm, Qn, Qo, Qp, rb0, rb1, rb2, rb3, rb4, tf0, tf1, tf2, tf3, tf4]
        refine hQn _ _ _ (by omega) ⟨q + 1, n', w, rfl, by omega, by simp only [at_put, at_args, Nat.reduceBEq, cond_true, cond_false, List.getElem?_cons_zero, List.getElem?_cons_succ, Option.getD_some, Nat.add_zero, Int.cast_ofNat_Int, e1], by simp only [at_put, at_args, Nat.reduceBEq, cond_true, cond_false, List.getElem?_cons_zero, List.getElem?_cons_succ, Option.getD_some, Nat.add_zero, Int.cast_ofNat_Int, e4], by simp only [at_put, at_args, Nat.reduceBEq, cond_true, cond_false, List.getElem?_cons_zero, List.getElem?_cons_succ, Option.getD_some, Nat.add_zero, Int.cast_ofNat_Int, e6], by simp only [at_put, at_args, Nat.reduceBEq, cond_true, cond_false, List.getElem?_cons_zero, List.getElem?_cons_succ, Option.getD_some, Nat.add_zero, Int.cast_ofNat_Int, e19], ?_, ?_, gl2, gp2, ?_, ?_, fun b' hb' => ?_⟩
        · rw [k2 _ (by omega) (by omega) (by omega)]; simp (disch := (first | omega | rfl | (simp only [Heap.nx_upd, Heap.nx_new]; omega))) only [Heap.get_upd_ne, Heap.get_new_ne, Heap.get_new_at, Heap.get_upd_same, Heap.get_new_same, Heap.nx_upd, Heap.nx_new]
        · rw [hcut]; exact gf2
        · rw [hcut]; exact r2
        · rw [Heap.nx_upd] at n2; omega
        · rw [k2 _ (by omega) (by omega) (by omega), Heap.get_upd_ne _ _ (by omega)]; exact hk b' hb'
      · obtain ⟨c, w, hd, hc, hw, hk1, hk2⟩ := dec_any hb
        have c3' : ¬ (c : Int) = 47 := fun e => c3 ((hk1 47 (by omega)).1 (by omega))
        have hqw : q + w ≤ p.length := by
          rcases Nat.lt_or_ge (q + w - 1) p.length with h1 | h1
          · omega
          · obtain ⟨d, hd1, _⟩ := hk2 (q + w - 1) (by omega) (by omega)
            rw [List.getElem?_eq_none h1] at hd1; cases hd1
        have hcut : cutS p (q + w) = cutS p q := cutS_skip p w fun j h1 h2 => by
          rcases Nat.lt_or_ge q j with h3 | h3
          · obtain ⟨d, q1, q2⟩ := hk2 j h3 h2
            rw [q1]; intro e; cases Option.some.inj e; exact absurd q2 (by decide)
          · rw [show j = q by omega, hb]; intro e; cases Option.some.inj e; exact c3 rfl
        simp (disch := (first | omega | rfl | (simp only [Heap.nx_upd, Heap.nx_new]; omega))) only [↓reduceIte, reduceCtorEq, Za, Zb, Zc, Zd, Ze, Zf, Zg, Zh, Zi, Zj, Zk, Zl, Zm, Zn, Zo, Zp, Zq, Zr, Zs, Zt, Zu, Zv, gval, Zw, Zx, Zy, Zz, ZA, ZB, ZC, ZD, ZE, ZF, decide_eq_true_eq, ZG, ZH, ZI, ZJ, ZK, ZL, ZM, ZN, ZO, ZP, ZQ, ZR, ZS, Option.some.injEq, exists_eq_left', ZT, ZU, ZV, ZW, ZX, ZY, true_and, and_true, true_or, or_true, false_or, or_false, ite_true, ite_false, cond_true, cond_false, ZZ, Qa, if_true, if_false, decide_true, decide_false, Qb, Qc, Qd, Qe, Qf, Qg, Qh, Qi, Qj, Qk, Ql, Qm, Qn, Qo, Qp, rb0, rb1, rb2, rb3, rb4, tf0, tf1, tf2, tf3, tf4, Heap.get_upd_ne, Heap.get_new_ne, Heap.get_new_at, overL_one, if_pos, stX_exactN, e1, e4, e6, e19, u_nextS gi (by rw [mkS_size]; exact hp) hd, c3']
        refine hQn _ _ _ (by omega) ⟨q + w, n, v, rfl, hqw, by simp only [at_put, at_args, Nat.reduceBEq, cond_true, cond_false, List.getElem?_cons_zero, List.getElem?_cons_succ, Option.getD_some, Nat.add_zero, Int.cast_ofNat_Int, e1], by simp only [at_put, at_args, Nat.reduceBEq, cond_true, cond_false, List.getElem?_cons_zero, List.getElem?_cons_succ, Option.getD_some, Nat.add_zero, Int.cast_ofNat_Int, e4], by simp only [at_put, at_args, Nat.reduceBEq, cond_true, cond_false, List.getElem?_cons_zero, List.getElem?_cons_succ, Option.getD_some, Nat.add_zero, Int.cast_ofNat_Int, e6], by simp only [at_put, at_args, Nat.reduceBEq, cond_true, cond_false, List.getElem?_cons_zero, List.getElem?_cons_succ, Option.getD_some, Nat.add_zero, Int.cast_ofNat_Int, e19], by simp (disch := (first | omega | rfl | (simp only [Heap.nx_upd, Heap.nx_new]; omega))) only [Heap.get_upd_ne, Heap.get_new_ne, Heap.get_new_at, Heap.get_upd_same, Heap.get_new_same, Heap.nx_upd, Heap.nx_new], by rw [hcut]; simp (disch := (first | omega | rfl | (simp only [Heap.nx_upd, Heap.nx_new]; omega))) only [Heap.get_upd_ne, Heap.get_new_ne, Heap.get_new_at, Heap.get_upd_same, Heap.get_new_same, Heap.nx_upd, Heap.nx_new, gf], by simp (disch := (first | omega | rfl | (simp only [Heap.nx_upd, Heap.nx_new]; omega))) only [Heap.get_upd_ne, Heap.get_new_ne, Heap.get_new_at, Heap.get_upd_same, Heap.get_new_same, Heap.nx_upd, Heap.nx_new, gl], by simp (disch := (first | omega | rfl | (simp only [Heap.nx_upd, Heap.nx_new]; omega))) only [Heap.get_upd_ne, Heap.get_new_ne, Heap.get_new_at, Heap.get_upd_same, Heap.get_new_same, Heap.nx_upd, Heap.nx_new, gp], by rw [hcut]; exact r.keep (by rw [Heap.nx_upd]; exact Nat.le_refl _) fun b' h1 h2 _ => by simp (disch := (first | omega | rfl | (simp only [Heap.nx_upd, Heap.nx_new]; omega))) only [Heap.get_upd_ne, Heap.get_new_ne, Heap.get_new_at, Heap.get_upd_same, Heap.get_new_same, Heap.nx_upd, Heap.nx_new], by simp (disch := (first | omega | rfl | (simp only [Heap.nx_upd, Heap.nx_new]; omega))) only [Heap.get_upd_ne, Heap.get_new_ne, Heap.get_new_at, Heap.get_upd_same, Heap.get_new_same, Heap.nx_upd, Heap.nx_new, hn], fun b' hb' => by simp (disch := (first | omega | rfl | (simp only [Heap.nx_upd, Heap.nx_new]; omega))) only [Heap.get_upd_ne, Heap.get_new_ne, Heap.get_new_at, Heap.get_upd_same, Heap.get_new_same, Heap.nx_upd, Heap.nx_new]; exact hk b' hb'⟩
    · simp only [↓reduceIte, reduceCtorEq, Za, Zb, Zc, Zd, Ze, Zf, Zg, Zh, Zi, Zj, Zk, Zl, Zm, Zn, Zo, Zp, Zq, Zr, Zs, Zt, Zu, Zv, gval, Zw, Zx, Zy, Zz, ZA, ZB, ZC, ZD, ZE, ZF, decide_eq_true_eq, ZG, ZH, ZI, ZJ, ZK, ZL, ZM, ZN, ZO, ZP, ZQ, ZR, ZS, Option.some.injEq, exists_eq_left', ZT, ZU, ZV, ZW, ZX, ZY, true_and, and_true, true_or, or_true, false_or, or_false, ite_true, ite_false, cond_true, cond_false, ZZ, Qa, if_true, if_false, decide_true, decide_false, Qb, Qc, Qd, Qe, Qf, Qg, Qh, Qi, Qj, Qk, Ql, Qm, Qn, Qo, Qp, rb0, rb1, rb2, rb3, rb4, tf0, tf1, tf2, tf3, tf4, e19, u_nextE gi (by rw [mkS_size]; exact hp)]
      have hqe : q = p.length := by omega
      rw [hqe] at gf r
      exact hQx _ _ _ (by simp) ⟨rfl, n, v, by simp only [at_put, at_args, Nat.reduceBEq, cond_true, cond_false, List.getElem?_cons_zero, List.getElem?_cons_succ, Option.getD_some, Nat.add_zero, Int.cast_ofNat_Int, e1], by simp only [at_put, at_args, Nat.reduceBEq, cond_true, cond_false, List.getElem?_cons_zero, List.getElem?_cons_succ, Option.getD_some, Nat.add_zero, Int.cast_ofNat_Int, e4], by simp only [at_put, at_args, Nat.reduceBEq, cond_true, cond_false, List.getElem?_cons_zero, List.getElem?_cons_succ, Option.getD_some, Nat.add_zero, Int.cast_ofNat_Int, e6], gf, gl, gp, r, hn, hk⟩
  · exact ⟨0, 0, _, rfl, by omega, by simp only [at_put, at_args, Nat.reduceBEq, cond_true, cond_false, List.getElem?_cons_zero, List.getElem?_cons_succ, Option.getD_some, Nat.add_zero, Int.cast_ofNat_Int], by simp only [at_put, at_args, Nat.reduceBEq, cond_true, cond_false, List.getElem?_cons_zero, List.getElem?_cons_succ, Option.getD_some, Nat.add_zero, Int.cast_ofNat_Int], by simp only [at_put, at_args, Nat.reduceBEq, cond_true, cond_false, List.getElem?_cons_zero, List.getElem?_cons_succ, Option.getD_some, Nat.add_zero, Int.cast_ofNat_Int], by simp only [at_put, at_args, Nat.reduceBEq, cond_true, cond_false, List.getElem?_cons_zero, List.getElem?_cons_succ, Option.getD_some, Nat.add_zero, Int.cast_ofNat_Int], by simp (disch := (first | omega | rfl | (simp only [Heap.nx_upd, Heap.nx_new]; omega))) only [Heap.get_upd_ne, Heap.get_new_ne, Heap.get_new_at, Heap.get_upd_same, Heap.get_new_same, Heap.nx_upd, Heap.nx_new], by simp (disch := (first | omega | rfl | (simp only [Heap.nx_upd, Heap.nx_new]; omega))) only [Heap.get_upd_ne, Heap.get_new_ne, Heap.get_new_at, Heap.get_upd_same, Heap.get_new_same, Heap.nx_upd, Heap.nx_new]; rfl, by simp (disch := (first | omega | rfl | (simp only [Heap.nx_upd, Heap.nx_new]; omega))) only [Heap.get_upd_ne, Heap.get_new_ne, Heap.get_new_at, Heap.get_upd_same, Heap.get_new_same, Heap.nx_upd, Heap.nx_new], by simp (disch := (first | omega | rfl | (simp only [Heap.nx_upd, Heap.nx_new]; omega))) only [Heap.get_upd_ne, Heap.get_new_ne, Heap.get_new_at, Heap.get_upd_same, Heap.get_new_same, Heap.nx_upd, Heap.nx_new], .nil, by simp (disch := (first | omega | rfl | (simp only [Heap.nx_upd, Heap.nx_new]; omega))) only [Heap.get_upd_ne, Heap.get_new_ne, Heap.get_new_at, Heap.get_upd_same, Heap.get_new_same, Heap.nx_upd, Heap.nx_new]; omega, fun b hb => by simp (disch := (first | omega | rfl | (simp only [Heap.nx_upd, Heap.nx_new]; omega))) only [Heap.get_upd_ne, Heap.get_new_ne, Heap.get_new_at, Heap.get_upd_same, Heap.get_new_same, Heap.nx_upd, Heap.nx_new]⟩
  rintro ex e h1 - ⟨rfl, n, v, e1, e4, e6, gf, gl, gp, r, hn, hk⟩
  simp (disch := (first | omega | rfl | (simp only [Heap.nx_upd, Heap.nx_new]; omega))) only [↓reduceIte, reduceCtorEq, Za, Zb, Zc, Zd, Ze, Zf, Zg, Zh, Zi, Zj, Zk, Zl, Zm, Zn, Zo, Zp, Zq, Zr, Zs, Zt, Zu, Zv, gval, Zw, Zx, Zy, Zz, ZA, ZB, ZC, ZD, ZE, ZF, decide_eq_true_eq, ZG, ZH, ZI, ZJ, ZK, ZL, ZM, ZN, ZO, ZP, ZQ, ZR, ZS, Option.some.injEq, exists_eq_left', ZT, ZU, ZV, ZW, ZX, ZY, true_and, and_true, true_or, or_true, false_or, or_false, ite_true, ite_false, cond_true, cond_false, ZZ, Qa, if_true, if_false, decide_true, decide_false, Qb, Qc, Qd, Qe, Qf, Qg, Qh, Qi, Qj, Qk, Ql, Qm, Qn, Qo, Qp, rb0, rb1, rb2, rb3, rb4, tf0, tf1, tf2, tf3, tf4, Heap.get_upd_ne, Heap.get_new_ne, Heap.get_new_at, overL_one, if_pos, stX_exactN, e1, e4, e6, gp, mkS_size]
  have hnl : n ≤ p.length := by have h1 := r.len; have h2 := cutS_len p p.length; rw [strs_len] at h1; omega
  have hE : splE p = errL (parts p) := by unfold splE; rw [if_neg c1, if_neg c2]
  refine runC_of (part44_spec p44 (lo := h.nx + 4) (p := p) (L := (cutS p p.length).1) (fr := (cutS p p.length).2) (i := p.length) (n := n) (v := v) gf gl gp ⟨by omega, by omega, by omega, by omega, by omega, by omega, by omega⟩ r (by omega) (by omega) (by omega) fun h2 w m n2 gf2 gl2 gp2 r2 hn2 k2 => ?_)
  have r2 : RowG h2 (h.nx + 4) 1 w m (strs (parts p)) := r2
  have hm : (parts p).length = m := by have h1 := r2.len; rw [strs_len] at h1; omega
  obtain ⟨wa, hw⟩ := r2.slc
  rw [hw] at gl2
  simp only [↓reduceIte, reduceCtorEq, Za, Zb, Zc, Zd, Ze, Zf, Zg, Zh, Zi, Zj, Zk, Zl, Zm, Zn, Zo, Zp, Zq, Zr, Zs, Zt, Zu, Zv, gval, Zw, Zx, Zy, Zz, ZA, ZB, ZC, ZD, ZE, ZF, decide_eq_true_eq, ZG, ZH, ZI, ZJ, ZK, ZL, ZM, ZN, ZO, ZP, ZQ, ZR, ZS, Option.some.injEq, exists_eq_left', ZT, ZU, ZV, ZW, ZX, ZY, true_and, and_true, true_or, or_true, false_or, or_false, ite_true, ite_false, cond_true, cond_false, ZZ, Qa, if_true, if_false, decide_true, decide_false, Qb, Qc, Qd, Qe, Qf, Qg, Qh, Qi, Qj, Qk, Ql, Qm, Qn, Qo, Qp, rb0, rb1, rb2, rb3, rb4, tf0, tf1, tf2, tf3, tf4, e4, gl2]
  refine run_loop2 rfl (fun N e h' => ∃ i : Nat, N = m - i ∧ i ≤ m ∧ (∀ (j : Nat) (y : List UInt8), j < i → (parts p)[j]? = some y → chk y = 0) ∧ e.at 4 = .pointer (some ⟨h.nx + 1, 0, none⟩) ∧ e.at 33 = .slice wa m m ∧ e.at 34 = .int .i64 m ∧ e.at 35 = .int .i64 i ∧ h2.nx ≤ h'.nx ∧ ∀ b, b < h2.nx → h'.get b = h2.get b)
    (fun ex e h' => (ex = .ret ∧ e.at 2 = .slice none 0 0 ∧ e.at 3 = .int .i64 (errL (parts p)) ∧ errL (parts p) ≠ 0 ∨ ex = .exit 2 ∧ e.at 4 = .pointer (some ⟨h.nx + 1, 0, none⟩) ∧ errL (parts p) = 0) ∧ h2.nx ≤ h'.nx ∧ ∀ b, b < h2.nx → h'.get b = h2.get b) ?_ (m - 0) _ _ ?_ ?_
  · rintro N e h' ⟨i, rfl, him, hz, i4, i33, i34, i35, hn', hk'⟩ Q' hQn hQx
    by_cases hi : i < m
    · obtain ⟨x, hx⟩ : ∃ x, (parts p)[i]? = some x := ⟨_, List.getElem?_eq_getElem (by omega)⟩
      have hi0 : (0 : Int) ≤ (i : Int) := by omega
      have hi1 : (i : Int) < (m : Int) := by omega
      have wi : wrapF .i64 ((i : Int) + 1) = ((i + 1 : Nat) : Int) := by rw [wrapI (by omega) (by omega)]; omega
      rcases r2.is with ⟨_, _, rfl⟩ | ⟨b, q1, q2, hv2, g1⟩
      · exact absurd hi (Nat.not_lt_zero _)
      rw [hw] at hv2
      rw [hv2] at i33
      have x1 := strs_at hx
      have l1 := strs_len (parts p)
      have g1' := (hk' b q2).trans g1
      have hil : i < (parts p).length := by omega
      simp only [↓reduceIte, reduceCtorEq, Za, Zb, Zc, Zd, Ze, Zf, Zg, Zh, Zi, Zj, Zk, Zl, Zm, Zn, Zo, Zp, Zq, Zr, Zs, Zt, Zu, Zv, gval, Zw, Zx, Zy, Zz, ZA, ZB, ZC, ZD, ZE, ZF, decide_eq_true_eq, ZG, ZH, ZI, ZJ, ZK, ZL, ZM, ZN, ZO, ZP, ZQ, ZR, ZS, Option.some.injEq, exists_eq_left', ZT, ZU, ZV, ZW, ZX, ZY, true_and, and_true, true_or, or_true, false_or, or_false, ite_true, ite_false, cond_true, cond_false, ZZ, Qa, if_true, if_false, decide_true, decide_false, Qb, Qc, Qd, Qe, Qf, Qg, Qh, Qi, Qj, Qk, Ql, Qm, Qn, Qo, Qp, rb0, rb1, rb2, rb3, rb4, tf0, tf1, tf2, tf3, tf4, i4, i33, i34, i35, hi0, hi1, hi, hil, g1', l1, x1, Nat.mul_one]
      refine runC_of (check_spec p45 fun h3 n3 k3 => ?_)
      by_cases c4 : chk x = 0
      · simp only [↓reduceIte, reduceCtorEq, Za, Zb, Zc, Zd, Ze, Zf, Zg, Zh, Zi, Zj, Zk, Zl, Zm, Zn, Zo, Zp, Zq, Zr, Zs, Zt, Zu, Zv, gval, Zw, Zx, Zy, Zz, ZA, ZB, ZC, ZD, ZE, ZF, decide_eq_true_eq, ZG, ZH, ZI, ZJ, ZK, ZL, ZM, ZN, ZO, ZP, ZQ, ZR, ZS, Option.some.injEq, exists_eq_left', ZT, ZU, ZV, ZW, ZX, ZY, true_and, and_true, true_or, or_true, false_or, or_false, ite_true, ite_false, cond_true, cond_false, ZZ, Qa, if_true, if_false, decide_true, decide_false, Qb, Qc, Qd, Qe, Qf, Qg, Qh, Qi, Qj, Qk, Ql, Qm, Qn, Qo, Qp, rb0, rb1, rb2, rb3, rb4, tf0, tf1, tf2, tf3, tf4, c4, i35, wi]
        refine hQn _ _ _ (by omega) ⟨i + 1, rfl, by omega, fun j y hj hy => ?_, by simp only [at_put, at_args, Nat.reduceBEq, cond_true, cond_false, List.getElem?_cons_zero, List.getElem?_cons_succ, Option.getD_some, Nat.add_zero, Int.cast_ofNat_Int, i4], by simp only [at_put, at_args, Nat.reduceBEq, cond_true, cond_false, List.getElem?_cons_zero, List.getElem?_cons_succ, Option.getD_some, Nat.add_zero, Int.cast_ofNat_Int, i33, hv2], by simp only [at_put, at_args, Nat.reduceBEq, cond_true, cond_false, List.getElem?_cons_zero, List.getElem?_cons_succ, Option.getD_some, Nat.add_zero, Int.cast_ofNat_Int, i34], by simp only [at_put, at_args, Nat.reduceBEq, cond_true, cond_false, List.getElem?_cons_zero, List.getElem?_cons_succ, Option.getD_some, Nat.add_zero, Int.cast_ofNat_Int], by omega, fun b' hb' => by rw [k3 _ (by omega)]; exact hk' b' hb'⟩
        rcases Nat.lt_or_ge j i with q | q
        · exact hz j y q hy
        · rw [show j = i by omega, hx] at hy
          cases Option.some.inj hy; exact c4
      · simp only [↓reduceIte, reduceCtorEq, Za, Zb, Zc, Zd, Ze, Zf, Zg, Zh, Zi, Zj, Zk, Zl, Zm, Zn, Zo, Zp, Zq, Zr, Zs, Zt, Zu, Zv, gval, Zw, Zx, Zy, Zz, ZA, ZB, ZC, ZD, ZE, ZF, decide_eq_true_eq, ZG, ZH, ZI, ZJ, ZK, ZL, ZM, ZN, ZO, ZP, ZQ, ZR, ZS, Option.some.injEq, exists_eq_left', ZT, ZU, ZV, ZW, ZX, ZY, true_and, and_true, true_or, or_true, false_or, or_false, ite_true, ite_false, cond_true, cond_false, ZZ, Qa, if_true, if_false, decide_true, decide_false, Qb, Qc, Qd, Qe, Qf, Qg, Qh, Qi, Qj, Qk, Ql, Qm, Qn, Qo, Qp, rb0, rb1, rb2, rb3, rb4, tf0, tf1, tf2, tf3, tf4, c4, i35, wi]
        have := errL_at hz hx c4
        exact hQx _ _ _ (by simp) ⟨.inl ⟨rfl, by simp only [at_put, at_args, Nat.reduceBEq, cond_true, cond_false, List.getElem?_cons_zero, List.getElem?_cons_succ, Option.getD_some, Nat.add_zero, Int.cast_ofNat_Int], by simp only [at_put, at_args, Nat.reduceBEq, cond_true, cond_false, List.getElem?_cons_zero, List.getElem?_cons_succ, Option.getD_some, Nat.add_zero, Int.cast_ofNat_Int, this], by rw [this]; exact c4⟩, by omega, fun b' hb' => by rw [k3 _ (by omega)]; exact hk' b' hb'⟩
    · have hi1 : ¬ (i : Int) < (m : Int) := by omega
      simp only [↓reduceIte, reduceCtorEq, Za, Zb, Zc, Zd, Ze, Zf, Zg, Zh, Zi, Zj, Zk, Zl, Zm, Zn, Zo, Zp, Zq, Zr, Zs, Zt, Zu, Zv, gval, Zw, Zx, Zy, Zz, ZA, ZB, ZC, ZD, ZE, ZF, decide_eq_true_eq, ZG, ZH, ZI, ZJ, ZK, ZL, ZM, ZN, ZO, ZP, ZQ, ZR, ZS, Option.some.injEq, exists_eq_left', ZT, ZU, ZV, ZW, ZX, ZY, true_and, and_true, true_or, or_true, false_or, or_false, ite_true, ite_false, cond_true, cond_false, ZZ, Qa, if_true, if_false, decide_true, decide_false, Qb, Qc, Qd, Qe, Qf, Qg, Qh, Qi, Qj, Qk, Ql, Qm, Qn, Qo, Qp, rb0, rb1, rb2, rb3, rb4, tf0, tf1, tf2, tf3, tf4, i34, i35, hi1]
      exact hQx _ _ _ (by simp) ⟨.inr ⟨rfl, by simp only [at_put, at_args, Nat.reduceBEq, cond_true, cond_false, List.getElem?_cons_zero, List.getElem?_cons_succ, Option.getD_some, Nat.add_zero, Int.cast_ofNat_Int, i4], errL_none fun j y hy => hz j y (by have := (List.getElem?_eq_some_iff.1 hy).1; omega) hy⟩, hn', hk'⟩
  · exact ⟨0, rfl, by omega, fun _ _ h => absurd h (Nat.not_lt_zero _), by simp only [at_put, at_args, Nat.reduceBEq, cond_true, cond_false, List.getElem?_cons_zero, List.getElem?_cons_succ, Option.getD_some, Nat.add_zero, Int.cast_ofNat_Int, e4], by simp only [at_put, at_args, Nat.reduceBEq, cond_true, cond_false, List.getElem?_cons_zero, List.getElem?_cons_succ, Option.getD_some, Nat.add_zero, Int.cast_ofNat_Int], by simp only [at_put, at_args, Nat.reduceBEq, cond_true, cond_false, List.getElem?_cons_zero, List.getElem?_cons_succ, Option.getD_some, Nat.add_zero, Int.cast_ofNat_Int], by simp only [at_put, at_args, Nat.reduceBEq, cond_true, cond_false, List.getElem?_cons_zero, List.getElem?_cons_succ, Option.getD_some, Nat.add_zero, Int.cast_ofNat_Int], Nat.le_refl _, fun _ _ => rfl⟩
  · rintro ex e h3 - ⟨⟨rfl, i2, i3, hne⟩ | ⟨rfl, i4, h0⟩, n3, k3⟩
    · simp only [↓reduceIte, reduceCtorEq, Za, Zb, Zc, Zd, Ze, Zf, Zg, Zh, Zi, Zj, Zk, Zl, Zm, Zn, Zo, Zp, Zq, Zr, Zs, Zt, Zu, Zv, gval, Zw, Zx, Zy, Zz, ZA, ZB, ZC, ZD, ZE, ZF, decide_eq_true_eq, ZG, ZH, ZI, ZJ, ZK, ZL, ZM, ZN, ZO, ZP, ZQ, ZR, ZS, Option.some.injEq, exists_eq_left', ZT, ZU, ZV, ZW, ZX, ZY, true_and, and_true, true_or, or_true, false_or, or_false, ite_true, ite_false, cond_true, cond_false, ZZ, Qa, if_true, if_false, decide_true, decide_false, Qb, Qc, Qd, Qe, Qf, Qg, Qh, Qi, Qj, Qk, Ql, Qm, Qn, Qo, Qp, rb0, rb1, rb2, rb3, rb4, tf0, tf1, tf2, tf3, tf4, i2, i3]
      have hL : splL p = [] := by unfold splL; rw [hE, if_neg hne]
      rw [hE, hL] at hR
      exact hR _ _ (by omega) .nil fun b hb => by rw [k3 _ (by omega), k2 _ (by omega) (by omega) (by omega)]; exact hk b hb
    · have gl3 : h3.get (h.nx + 1) = some (cellsB [.slice wa m m] .exact) := (k3 _ (by omega)).trans gl2
      simp only [↓reduceIte, reduceCtorEq, Za, Zb, Zc, Zd, Ze, Zf, Zg, Zh, Zi, Zj, Zk, Zl, Zm, Zn, Zo, Zp, Zq, Zr, Zs, Zt, Zu, Zv, gval, Zw, Zx, Zy, Zz, ZA, ZB, ZC, ZD, ZE, ZF, decide_eq_true_eq, ZG, ZH, ZI, ZJ, ZK, ZL, ZM, ZN, ZO, ZP, ZQ, ZR, ZS, Option.some.injEq, exists_eq_left', ZT, ZU, ZV, ZW, ZX, ZY, true_and, and_true, true_or, or_true, false_or, or_false, ite_true, ite_false, cond_true, cond_false, ZZ, Qa, if_true, if_false, decide_true, decide_false, Qb, Qc, Qd, Qe, Qf, Qg, Qh, Qi, Qj, Qk, Ql, Qm, Qn, Qo, Qp, rb0, rb1, rb2, rb3, rb4, tf0, tf1, tf2, tf3, tf4, i4, gl3]
      have hL : splL p = parts p := by unfold splL; rw [hE, if_pos h0]
      rw [hE, hL, h0, hm] at hR
      rw [hw] at r2
      exact hR _ _ (by omega) ((r2.mono (by omega)).keep n3 fun b h1 h2 _ => k3 b h2) fun b hb => by rw [k3 _ (by omega), k2 _ (by omega) (by omega) (by omega)]; exact hk b hb
end Go.Proofs.YtmadjdgipfdnkaaDoor
end
section
/- Paths: the answer's parts of a path. Conditions: as each rule says. -/
namespace Go.Proofs.YtmadjdgipfdnkaaDoor
open Go.AM
open Nat renaming reduceBEq → Za, reduceEqDiff → Zb, reduceAdd → Zc, reduceSub → Zd, reduceMul → Ze, reduceLT → Zf, reduceLeDiff → Zg, reduceDiv → Zh, reduceMod → Zi, reducePow → Zj, blt_eq → ZF, zero_add → Qc, add_zero → Qd
open Int renaming reduceAdd → Zk, reduceSub → Zl, reduceMul → Zm, reduceLT → Zn, reduceLE → Zo, reduceEq → Zp, reduceNe → Zq, reduceNeg → Zr, reduceToNat → Zs, reduceDiv → Zt, reduceMod → Zu, reducePow → Zv, cast_ofNat_Int → Zw, toNat_natCast → Qb
open List renaming set_cons_zero → Zx, set_cons_succ → Zy, map_toArray → Zz, cons_append → ZA, nil_append → ZB, append_nil → ZC, all_cons → ZD, all_nil → ZE, getElem?_cons_zero → ZJ, getElem?_cons_succ → ZK, length_cons → ZL, length_nil → ZM, map_cons → ZN, map_nil → ZO, isEmpty_nil → Qe, any_cons → Qf, any_nil → Qg, drop_zero → Qk, drop_succ_cons → Ql, take_succ_cons → Qm, take_zero → Qn, take_nil → Qo, drop_nil → Qp
open Bool renaming and_true → ZG, true_and → ZH, and_self → ZI, not_true → ZT, not_false → ZU, true_eq_false → ZZ, false_eq_true → Qa, or_false → Qh, false_or → Qi, and_eq_true → Qj
open Option renaming map_some → ZP, map_none → ZQ, bind_some → ZR, getD_some → ZS, isNone_some → ZV, isNone_none → ZW, isSome_some → ZX, isSome_none → ZY
set_option linter.unusedSimpArgs false
variable {sp : Special} {h : Heap} {R : Out → Heap → Prop}
def cutT (p : List UInt8) (i : Nat) : List (List UInt8) × Nat := if i ≤ p.length then cutS p i else cutP p (cutS p p.length) p.length
theorem cutT_le {p : List UInt8} {i : Nat} (h : i ≤ p.length) : cutT p i = cutS p i := if_pos h
theorem cutT_skip {p : List UInt8} {i : Nat} (h : i < p.length) (hp : p[i]? ≠ some 47) : cutT p (i + 1) = cutS p i := by
  rw [cutT_le (by omega)]
  conv => lhs; unfold cutS
  rw [if_neg hp]
theorem cutT_part {p : List UInt8} {i : Nat} (h : i ≤ p.length) (hp : i < p.length → p[i]? = some 47) : cutT p (i + 1) = cutP p (cutS p i) i := by
  rcases Nat.lt_or_ge i p.length with q | q
  · rw [cutT_le (by omega)]
    conv => lhs; unfold cutS
    rw [if_pos (hp q)]
  · unfold cutT
    rw [if_neg (by omega), show i = p.length by omega]
theorem cutT_end (p : List UInt8) {i : Nat} (h : p.length < i) : (cutT p i).1 = parts p := by
  unfold cutT
  rw [if_neg (by omega)]; rfl
set_option maxRecDepth 100000 in
theorem rsplit_spec (p23 : (sp 23).isNone = true) (p46 : (sp 46).isNone = true) {p : List UInt8} (hR : ∀ h' v, h.nx ≤ h'.nx → RowG h' h.nx 1 v (splL p).length (strs (splL p)) → (∀ b, b < h.nx → h'.get b = h.get b) → R (.ret (.tuple #[v, .int .i64 (splE p)])) h') : WF Tryd.prog 1 sp 23 [.string (mkS p)] h R := by
  refine wf_fn (fn := Tryd.f23) p23 rfl (by kernel_rfl) rfl ?_
  by_cases c1 : p = []
  · have hE : splE p = 2 := by unfold splE; rw [if_pos c1]
    have hL : splL p = [] := by unfold splL; rw [hE]; rfl
    have cx : decide (p = []) = true := by simp [c1]
    simp (disch := (first | omega | rfl | (simp only [Heap.nx_upd, Heap.nx_new]; omega))) only [↓reduceIte, reduceCtorEq, Za, Zb, Zc, Zd, Ze, Zf, Zg, Zh, Zi, Zj, Zk, Zl, Zm, Zn, Zo, Zp, Zq, Zr, Zs, Zt, Zu, Zv, gval, Zw, Zx, Zy, Zz, ZA, ZB, ZC, ZD, ZE, ZF, decide_eq_true_eq, ZG, ZH, ZI, ZJ, ZK, ZL, ZM, ZN, ZO, ZP, ZQ, ZR, ZS, Option.some.injEq, exists_eq_left', ZT, ZU, ZV, ZW, ZX, ZY, true_and, and_true, true_or, or_true, false_or, or_false, ite_true, ite_false, cond_true, cond_false, ZZ, Qa, if_true, if_false, decide_true, decide_false, Qb, Qc, Qd, Qe, Qf, Qg, Qh, Qi, Qj, Qk, Ql, Qm, Qn, Qo, Qp, rb0, rb1, rb2, rb3, rb4, tf0, tf1, tf2, tf3, tf4, Heap.get_upd_ne, Heap.get_new_ne, Heap.get_new_at, overL_one, if_pos, stX_exactN, Tryd.f23, str_eqG, cx, show ByteArray.empty = mkS [] from rfl]
    rw [hE, hL] at hR
    exact hR _ _ (Nat.le_refl _) .nil fun b hb => rfl
  have cx : decide (p = []) = false := by simp [c1]
  by_cases c2 : 32 < p.length
  · have hE : splE p = 36 := by unfold splE; rw [if_neg c1, if_pos c2]
    have hL : splL p = [] := by unfold splL; rw [hE]; rfl
    have c2' : (32 : Int) < (p.length : Int) := by omega
    simp (disch := (first | omega | rfl | (simp only [Heap.nx_upd, Heap.nx_new]; omega))) only [↓reduceIte, reduceCtorEq, Za, Zb, Zc, Zd, Ze, Zf, Zg, Zh, Zi, Zj, Zk, Zl, Zm, Zn, Zo, Zp, Zq, Zr, Zs, Zt, Zu, Zv, gval, Zw, Zx, Zy, Zz, ZA, ZB, ZC, ZD, ZE, ZF, decide_eq_true_eq, ZG, ZH, ZI, ZJ, ZK, ZL, ZM, ZN, ZO, ZP, ZQ, ZR, ZS, Option.some.injEq, exists_eq_left', ZT, ZU, ZV, ZW, ZX, ZY, true_and, and_true, true_or, or_true, false_or, or_false, ite_true, ite_false, cond_true, cond_false, ZZ, Qa, if_true, if_false, decide_true, decide_false, Qb, Qc, Qd, Qe, Qf, Qg, Qh, Qi, Qj, Qk, Ql, Qm, Qn, Qo, Qp, rb0, rb1, rb2, rb3, rb4, tf0, tf1, tf2, tf3, tf4, Heap.get_upd_ne, Heap.get_new_ne, Heap.get_new_at, overL_one, if_pos, stX_exactN, Tryd.f23, str_eqG, cx, show ByteArray.empty = mkS [] from rfl, mkS_size, c2']
    rw [hE, hL] at hR
    exact hR _ _ (Nat.le_refl _) .nil fun b hb => rfl
  have c2' : ¬ (32 : Int) < (p.length : Int) := by omega
  have hE : splE p = errL (parts p) := by unfold splE; rw [if_neg c1, if_neg c2]
  simp (disch := (first | omega | rfl | (simp only [Heap.nx_upd, Heap.nx_new]; omega))) only [↓reduceIte, reduceCtorEq, Za, Zb, Zc, Zd, Ze, Zf, Zg, Zh, Zi, Zj, Zk, Zl, Zm, Zn, Zo, Zp, Zq, Zr, Zs, Zt, Zu, Zv, gval, Zw, Zx, Zy, Zz, ZA, ZB, ZC, ZD, ZE, ZF, decide_eq_true_eq, ZG, ZH, ZI, ZJ, ZK, ZL, ZM, ZN, ZO, ZP, ZQ, ZR, ZS, Option.some.injEq, exists_eq_left', ZT, ZU, ZV, ZW, ZX, ZY, true_and, and_true, true_or, or_true, false_or, or_false, ite_true, ite_false, cond_true, cond_false, ZZ, Qa, if_true, if_false, decide_true, decide_false, Qb, Qc, Qd, Qe, Qf, Qg, Qh, Qi, Qj, Qk, Ql, Qm, Qn, Qo, Qp, rb0, rb1, rb2, rb3, rb4, tf0, tf1, tf2, tf3, tf4, Heap.get_upd_ne, Heap.get_new_ne, Heap.get_new_at, overL_one, if_pos, stX_exactN, Tryd.f23, str_eqG, cx, show ByteArray.empty = mkS [] from rfl, mkS_size, c2']
  refine run_loop2 rfl (fun N e h' => ∃ (i n : Nat) (v : Value), N = p.length + 1 - i ∧ i ≤ p.length + 1 ∧ e.at 0 = .string (mkS p) ∧ e.at 4 = v ∧ e.at 5 = .int .i64 ((cutT p i).2 : Nat) ∧ e.at 6 = .int .i64 i ∧ RowG h' h.nx 1 v n (strs (cutT p i).1) ∧ h.nx ≤ h'.nx ∧ ∀ b, b < h.nx → h'.get b = h.get b)
    (fun ex e h' => ex = .exit 0 ∧ ∃ (n : Nat) (v : Value), e.at 4 = v ∧ RowG h' h.nx 1 v n (strs (parts p)) ∧ h.nx ≤ h'.nx ∧ ∀ b, b < h.nx → h'.get b = h.get b) ?_ (p.length + 1 - 0) _ _ ?_ ?_
  · rintro N e h' ⟨i, n, v, rfl, hi, e0, e4, e5, e6, r, hn, hk⟩ Q' hQn hQx
    by_cases hip : i ≤ p.length
    · rw [cutT_le hip] at e5 r
      have hnl : n ≤ i := by have h1 := r.len; have h2 := cutS_len p i; rw [strs_len] at h1; omega
      have hip' : (i : Int) ≤ (p.length : Int) := by omega
      have wi : wrapF .i64 ((i : Int) + 1) = ((i + 1 : Nat) : Int) := by rw [wrapI (by omega) (by omega)]; omega
      have hle := cutS_le p i
      by_cases c3 : i < p.length
      · obtain ⟨b, hb⟩ : ∃ b, p[i]? = some b := ⟨_, List.getElem?_eq_getElem c3⟩
        have c3' : (i : Int) < (p.length : Int) := by omega
        by_cases c4 : b = 47
        · have c4' : (b.toNat : Int) = 47 := by rw [c4]; rfl
          simp only [↓reduceIte, reduceCtorEq, Za, Zb, Zc, Zd, Ze, Zf, Zg, Zh, Zi, Zj, Zk, Zl, Zm, Zn, Zo, Zp, Zq, Zr, Zs, Zt, Zu, Zv, gval, Zw, Zx, Zy, Zz, ZA, ZB, ZC, ZD, ZE, ZF, decide_eq_true_eq, ZG, ZH, ZI, ZJ, ZK, ZL, ZM, ZN, ZO, ZP, ZQ, ZR, ZS, Option.some.injEq, exists_eq_left', ZT, ZU, ZV, ZW, ZX, ZY, true_and, and_true, true_or, or_true, false_or, or_false, ite_true, ite_false, cond_true, cond_false, ZZ, Qa, if_true, if_false, decide_true, decide_false, Qb, Qc, Qd, Qe, Qf, Qg, Qh, Qi, Qj, Qk, Ql, Qm, Qn, Qo, Qp, rb0, rb1, rb2, rb3, rb4, tf0, tf1, tf2, tf3, tf4, e0, e4, e5, e6, mkS_size, hip', c3', str_index tag_9 hb, c4']
          have hcut := cutT_part (p := p) hip fun q => by rw [hb, c4]
          by_cases c5 : (cutS p i).2 < i
          · have c5' : ((cutS p i).2 : Int) < (i : Int) := by omega
            obtain ⟨X, hX⟩ : ∃ X, (p.drop (cutS p i).2).take (i - (cutS p i).2) = X := ⟨_, rfl⟩
            have hc2 : cutP p (cutS p i) i = ((cutS p i).1 ++ [X], i + 1) := by unfold cutP; rw [if_pos c5, hX]
            rw [hc2] at hcut
            have r' : RowG (h'.new (cellsB [.string (mkS X)] .exact)) h.nx 1 v n (strs (cutS p i).1) := r.keep (by rw [Heap.nx_new]; omega) fun b h1 h2 _ => by rw [Heap.get_new_ne _ _ (by omega)]
            obtain ⟨E, h3, w, a1, a2, a3, a4, a5, a6, a7⟩ := growG app_56_56 r' (by rw [Heap.nx_new]; omega) (x := .slice (some ⟨h'.nx, 0, none⟩) 1 1) (k := 1) rfl (by omega) (by omega) (new := [.string (mkS X)]) (by rw [firstL_slc _ _ _ _ _ _ _ _ _ (Heap.get_new_same _ _) (by simp)]; rfl) rfl
            rw [Heap.nx_new] at a1
            rw [Heap.nx_new] at a5
            simp only [↓reduceIte, reduceCtorEq, Za, Zb, Zc, Zd, Ze, Zf, Zg, Zh, Zi, Zj, Zk, Zl, Zm, Zn, Zo, Zp, Zq, Zr, Zs, Zt, Zu, Zv, gval, Zw, Zx, Zy, Zz, ZA, ZB, ZC, ZD, ZE, ZF, decide_eq_true_eq, ZG, ZH, ZI, ZJ, ZK, ZL, ZM, ZN, ZO, ZP, ZQ, ZR, ZS, Option.some.injEq, exists_eq_left', ZT, ZU, ZV, ZW, ZX, ZY, true_and, and_true, true_or, or_true, false_or, or_false, ite_true, ite_false, cond_true, cond_false, ZZ, Qa, if_true, if_false, decide_true, decide_false, Qb, Qc, Qd, Qe, Qf, Qg, Qh, Qi, Qj, Qk, Ql, Qm, Qn, Qo, Qp, rb0, rb1, rb2, rb3, rb4, tf0, tf1, tf2, tf3, tf4, c5', e0, e4, e5, e6, str_slice tag_9 hle hip, hX, bs1_56, a1, a2, a3, wi]
            refine hQn _ _ _ (by omega) ⟨i + 1, n + 1, w, rfl, by omega, by simp only [at_put, at_args, Nat.reduceBEq, cond_true, cond_false, List.getElem?_cons_zero, List.getElem?_cons_succ, Option.getD_some, Nat.add_zero, Int.cast_ofNat_Int, e0], by simp only [at_put, at_args, Nat.reduceBEq, cond_true, cond_false, List.getElem?_cons_zero, List.getElem?_cons_succ, Option.getD_some, Nat.add_zero, Int.cast_ofNat_Int], by rw [hcut]; simp only [at_put, at_args, Nat.reduceBEq, cond_true, cond_false, List.getElem?_cons_zero, List.getElem?_cons_succ, Option.getD_some, Nat.add_zero, Int.cast_ofNat_Int], by simp only [at_put, at_args, Nat.reduceBEq, cond_true, cond_false, List.getElem?_cons_zero, List.getElem?_cons_succ, Option.getD_some, Nat.add_zero, Int.cast_ofNat_Int], ?_, by omega, fun b' hb' => ?_⟩
            · rw [hcut]; show RowG _ _ _ _ _ (strs ((cutS p i).1 ++ [X])); rw [strs_app]; exact a4
            · rw [a6 _ (by rw [Heap.nx_new]; omega) (fun hm => by have := (r.lt b' hm).1; omega), Heap.get_new_ne _ _ (by omega)]; exact hk b' hb'
          · have c5' : ¬ ((cutS p i).2 : Int) < (i : Int) := by omega
            have hc2 : cutP p (cutS p i) i = ((cutS p i).1, i + 1) := by unfold cutP; rw [if_neg c5]
            rw [hc2] at hcut
            simp only [↓reduceIte, reduceCtorEq, Za, Zb, Zc, Zd, Ze, Zf, Zg, Zh, Zi, Zj, Zk, Zl, Zm, Zn, Zo, Zp, Zq, Zr, Zs, Zt, Zu, Zv, gval, Zw, Zx, Zy, Zz, ZA, ZB, ZC, ZD, ZE, ZF, decide_eq_true_eq, ZG, ZH, ZI, ZJ, ZK, ZL, ZM, ZN, ZO, ZP, ZQ, ZR, ZS, Option.some.injEq, exists_eq_left', ZT, ZU, ZV, ZW, ZX, ZY, true_and, and_true, true_or, or_true, false_or, or_false, ite_true, ite_false, cond_true, cond_false, ZZ, Qa, if_true, if_false, decide_true, decide_false, Qb, Qc, Qd, Qe, Qf, Qg, Qh, Qi, Qj, Qk, Ql, Qm, Qn, Qo, Qp, rb0, rb1, rb2, rb3, rb4, tf0, tf1, tf2, tf3, tf4, c5', e0, e4, e5, e6, wi]
            exact hQn _ _ _ (by omega) ⟨i + 1, n, v, rfl, by omega, by simp only [at_put, at_args, Nat.reduceBEq, cond_true, cond_false, List.getElem?_cons_zero, List.getElem?_cons_succ, Option.getD_some, Nat.add_zero, Int.cast_ofNat_Int, e0], by simp only [at_put, at_args, Nat.reduceBEq, cond_true, cond_false, List.getElem?_cons_zero, List.getElem?_cons_succ, Option.getD_some, Nat.add_zero, Int.cast_ofNat_Int, e4], by rw [hcut]; simp only [at_put, at_args, Nat.reduceBEq, cond_true, cond_false, List.getElem?_cons_zero, List.getElem?_cons_succ, Option.getD_some, Nat.add_zero, Int.cast_ofNat_Int], by simp only [at_put, at_args, Nat.reduceBEq, cond_true, cond_false, List.getElem?_cons_zero, List.getElem?_cons_succ, Option.getD_some, Nat.add_zero, Int.cast_ofNat_Int], by rw [hcut]; exact r, hn, hk⟩
        · have c4' : ¬ (b.toNat : Int) = 47 := fun e => c4 (by rw [← UInt8.toNat_inj]; show b.toNat = 47; omega)
          simp only [↓reduceIte, reduceCtorEq, Za, Zb, Zc, Zd, Ze, Zf, Zg, Zh, Zi, Zj, Zk, Zl, Zm, Zn, Zo, Zp, Zq, Zr, Zs, Zt, Zu, Zv, gval, Zw, Zx, Zy, Zz, ZA, ZB, ZC, ZD, ZE, ZF, decide_eq_true_eq, ZG, ZH, ZI, ZJ, ZK, ZL, ZM, ZN, ZO, ZP, ZQ, ZR, ZS, Option.some.injEq, exists_eq_left', ZT, ZU, ZV, ZW, ZX, ZY, true_and, and_true, true_or, or_true, false_or, or_false, ite_true, ite_false, cond_true, cond_false, ZZ, Qa, if_true, if_false, decide_true, decide_false, Qb, Qc, Qd, Qe, Qf, Qg, Qh, Qi, Qj, Qk, Ql, Qm, Qn, Qo, Qp, rb0, rb1, rb2, rb3, rb4, tf0, tf1, tf2, tf3, tf4, e0, e4, e5, e6, mkS_size, hip', c3', str_index tag_9 hb, c4', wi]
          have hcut := cutT_skip c3 (p := p) (by rw [hb]; exact fun e => c4 (Option.some.inj e))
          exact hQn _ _ _ (by omega) ⟨i + 1, n, v, rfl, by omega, by simp only [at_put, at_args, Nat.reduceBEq, cond_true, cond_false, List.getElem?_cons_zero, List.getElem?_cons_succ, Option.getD_some, Nat.add_zero, Int.cast_ofNat_Int, e0], by simp only [at_put, at_args, Nat.reduceBEq, cond_true, cond_false, List.getElem?_cons_zero, List.getElem?_cons_succ, Option.getD_some, Nat.add_zero, Int.cast_ofNat_Int, e4], by rw [hcut]; simp only [at_put, at_args, Nat.reduceBEq, cond_true, cond_false, List.getElem?_cons_zero, List.getElem?_cons_succ, Option.getD_some, Nat.add_zero, Int.cast_ofNat_Int, e5], by simp only [at_put, at_args, Nat.reduceBEq, cond_true, cond_false, List.getElem?_cons_zero, List.getElem?_cons_succ, Option.getD_some, Nat.add_zero, Int.cast_ofNat_Int], by rw [hcut]; exact r, hn, hk⟩
      · have c3' : ¬ (i : Int) < (p.length : Int) := by omega
        simp only [↓reduceIte, reduceCtorEq, Za, Zb, Zc, Zd, Ze, Zf, Zg, Zh, Zi, Zj, Zk, Zl, Zm, Zn, Zo, Zp, Zq, Zr, Zs, Zt, Zu, Zv, gval, Zw, Zx, Zy, Zz, ZA, ZB, ZC, ZD, ZE, ZF, decide_eq_true_eq, ZG, ZH, ZI, ZJ, ZK, ZL, ZM, ZN, ZO, ZP, ZQ, ZR, ZS, Option.some.injEq, exists_eq_left', ZT, ZU, ZV, ZW, ZX, ZY, true_and, and_true, true_or, or_true, false_or, or_false, ite_true, ite_false, cond_true, cond_false, ZZ, Qa, if_true, if_false, decide_true, decide_false, Qb, Qc, Qd, Qe, Qf, Qg, Qh, Qi, Qj, Qk, Ql, Qm, Qn, Qo, Qp, rb0, rb1, rb2, rb3, rb4, tf0, tf1, tf2, tf3, tf4, e0, e4, e5, e6, mkS_size, hip', c3', runG_undef]
        have hcut := cutT_part (p := p) hip fun q => absurd q c3
        by_cases c5 : (cutS p i).2 < i
        · have c5' : ((cutS p i).2 : Int) < (i : Int) := by omega
          obtain ⟨X, hX⟩ : ∃ X, (p.drop (cutS p i).2).take (i - (cutS p i).2) = X := ⟨_, rfl⟩
          have hc2 : cutP p (cutS p i) i = ((cutS p i).1 ++ [X], i + 1) := by unfold cutP; rw [if_pos c5, hX]
          rw [hc2] at hcut
          have r' : RowG (h'.new (cellsB [.string (mkS X)] .exact)) h.nx 1 v n (strs (cutS p i).1) := r.keep (by rw [Heap.nx_new]; omega) fun b h1 h2 _ => by rw [Heap.get_new_ne _ _ (by omega)]
          obtain ⟨E, h3, w, a1, a2, a3, a4, a5, a6, a7⟩ := growG app_56_56 r' (by rw [Heap.nx_new]; omega) (x := .slice (some ⟨h'.nx, 0, none⟩) 1 1) (k := 1) rfl (by omega) (by omega) (new := [.string (mkS X)]) (by rw [firstL_slc _ _ _ _ _ _ _ _ _ (Heap.get_new_same _ _) (by simp)]; rfl) rfl
          rw [Heap.nx_new] at a1
          rw [Heap.nx_new] at a5
          simp only [↓reduceIte, reduceCtorEq, Za, Zb, Zc, Zd, Ze, Zf, Zg, Zh, Zi, Zj, Zk, Zl, Zm, Zn, Zo, Zp, Zq, Zr, Zs, Zt, Zu, Zv, gval, Zw, Zx, Zy, Zz, ZA, ZB, ZC, ZD, ZE, ZF, decide_eq_true_eq, ZG, ZH, ZI, ZJ, ZK, ZL, ZM, ZN, ZO, ZP, ZQ, ZR, ZS, Option.some.injEq, exists_eq_left', ZT, ZU, ZV, ZW, ZX, ZY, true_and, and_true, true_or, or_true, false_or, or_false, ite_true, ite_false, cond_true, cond_false, ZZ, Qa, if_true, if_false, decide_true, decide_false, Qb, Qc, Qd, Qe, Qf, Qg, Qh, Qi, Qj, Qk, Ql, Qm, Qn, Qo, Qp, rb0, rb1, rb2, rb3, rb4, tf0, tf1, tf2, tf3, tf4, c5', e0, e4, e5, e6, str_slice tag_9 hle hip, hX, bs1_56, a1, a2, a3, wi]
          refine hQn _ _ _ (by omega) ⟨i + 1, n + 1, w, rfl, by omega, by simp only [at_put, at_args, Nat.reduceBEq, cond_true, cond_false, List.getElem?_cons_zero, List.getElem?_cons_succ, Option.getD_some, Nat.add_zero, Int.cast_ofNat_Int, e0], by simp only [at_put, at_args, Nat.reduceBEq, cond_true, cond_false, List.getElem?_cons_zero, List.getElem?_cons_succ, Option.getD_some, Nat.add_zero, Int.cast_ofNat_Int], by rw [hcut]; simp only [at_put, at_args, Nat.reduceBEq, cond_true, cond_false, List.getElem?_cons_zero, List.getElem?_cons_succ, Option.getD_some, Nat.add_zero, Int.cast_ofNat_Int], by simp only [at_put, at_args, Nat.reduceBEq, cond_true, cond_false, List.getElem?_cons_zero, List.getElem?_cons_succ, Option.getD_some, Nat.add_zero, Int.cast_ofNat_Int], ?_, by omega, fun b' hb' => ?_⟩
          · rw [hcut]; show RowG _ _ _ _ _ (strs ((cutS p i).1 ++ [X])); rw [strs_app]; exact a4
          · rw [a6 _ (by rw [Heap.nx_new]; omega) (fun hm => by have := (r.lt b' hm).1; omega), Heap.get_new_ne _ _ (by omega)]; exact hk b' hb'
        · have c5' : ¬ ((cutS p i).2 : Int) < (i : Int) := by omega
          have hc2 : cutP p (cutS p i) i = ((cutS p i).1, i + 1) := by unfold cutP; rw [if_neg c5]
          rw [hc2] at hcut
          simp only [↓reduceIte, reduceCtorEq, Za, Zb, Zc, Zd, Ze, Zf, Zg, Zh, Zi, Zj, Zk, Zl, Zm, Zn, Zo, Zp, Zq, Zr, Zs, Zt, Zu, Zv, gval, Zw, Zx, Zy, Zz, ZA, ZB, ZC, ZD, ZE, ZF, decide_eq_true_eq, ZG, ZH, ZI, ZJ, ZK, ZL, ZM, ZN, ZO, ZP, ZQ, ZR, ZS, Option.some.injEq, exists_eq_left', ZT, ZU, ZV, ZW, ZX, ZY, true_and, and_true, true_or, or_true, false_or, or_false, ite_true, ite_false, cond_true, cond_false, ZZ, Qa, if_true, if_false, decide_true, decide_false, Qb, Qc, Qd, Qe, Qf, Qg, Qh, Qi, Qj, Qk, Ql, Qm, Qn, Qo, Qp, rb0, rb1, rb2, rb3, rb4, tf0, tf1, tf2, tf3, tf4, c5', e0, e4, e5, e6, wi]
          exact hQn _ _ _ (by omega) ⟨i + 1, n, v, rfl, by omega, by simp only [at_put, at_args, Nat.reduceBEq, cond_true, cond_false, List.getElem?_cons_zero, List.getElem?_cons_succ, Option.getD_some, Nat.add_zero, Int.cast_ofNat_Int, e0], by simp only [at_put, at_args, Nat.reduceBEq, cond_true, cond_false, List.getElem?_cons_zero, List.getElem?_cons_succ, Option.getD_some, Nat.add_zero, Int.cast_ofNat_Int, e4], by rw [hcut]; simp only [at_put, at_args, Nat.reduceBEq, cond_true, cond_false, List.getElem?_cons_zero, List.getElem?_cons_succ, Option.getD_some, Nat.add_zero, Int.cast_ofNat_Int], by simp only [at_put, at_args, Nat.reduceBEq, cond_true, cond_false, List.getElem?_cons_zero, List.getElem?_cons_succ, Option.getD_some, Nat.add_zero, Int.cast_ofNat_Int], by rw [hcut]; exact r, hn, hk⟩
    · have hip' : ¬ (i : Int) ≤ (p.length : Int) := by omega
      simp only [↓reduceIte, reduceCtorEq, Za, Zb, Zc, Zd, Ze, Zf, Zg, Zh, Zi, Zj, Zk, Zl, Zm, Zn, Zo, Zp, Zq, Zr, Zs, Zt, Zu, Zv, gval, Zw, Zx, Zy, Zz, ZA, ZB, ZC, ZD, ZE, ZF, decide_eq_true_eq, ZG, ZH, ZI, ZJ, ZK, ZL, ZM, ZN, ZO, ZP, ZQ, ZR, ZS, Option.some.injEq, exists_eq_left', ZT, ZU, ZV, ZW, ZX, ZY, true_and, and_true, true_or, or_true, false_or, or_false, ite_true, ite_false, cond_true, cond_false, ZZ, Qa, if_true, if_false, decide_true, decide_false, Qb, Qc, Qd, Qe, Qf, Qg, Qh, Qi, Qj, Qk, Ql, Qm, Qn, Qo, Qp, rb0, rb1, rb2, rb3, rb4, tf0, tf1, tf2, tf3, tf4, e0, e6, mkS_size, hip']
      rw [cutT_end p (by omega)] at r
      exact hQx _ _ _ (by simp) ⟨rfl, n, v, by simp only [at_put, at_args, Nat.reduceBEq, cond_true, cond_false, List.getElem?_cons_zero, List.getElem?_cons_succ, Option.getD_some, Nat.add_zero, Int.cast_ofNat_Int, e4], r, hn, hk⟩
  · exact ⟨0, 0, _, rfl, by omega, by simp only [at_put, at_args, Nat.reduceBEq, cond_true, cond_false, List.getElem?_cons_zero, List.getElem?_cons_succ, Option.getD_some, Nat.add_zero, Int.cast_ofNat_Int], by simp only [at_put, at_args, Nat.reduceBEq, cond_true, cond_false, List.getElem?_cons_zero, List.getElem?_cons_succ, Option.getD_some, Nat.add_zero, Int.cast_ofNat_Int], by simp only [at_put, at_args, Nat.reduceBEq, cond_true, cond_false, List.getElem?_cons_zero, List.getElem?_cons_succ, Option.getD_some, Nat.add_zero, Int.cast_ofNat_Int]; rfl, by simp only [at_put, at_args, Nat.reduceBEq, cond_true, cond_false, List.getElem?_cons_zero, List.getElem?_cons_succ, Option.getD_some, Nat.add_zero, Int.cast_ofNat_Int], .nil, Nat.le_refl _, fun _ _ => rfl⟩
  rintro ex e h1 - ⟨rfl, n, v, e4, r, hn, hk⟩
  have hm : (parts p).length = n := by have h1 := r.len; rw [strs_len] at h1; omega
  have hpl := parts_len p
  obtain ⟨wa, hw⟩ := r.slc
  rw [hw] at e4
  simp only [↓reduceIte, reduceCtorEq, Za, Zb, Zc, Zd, Ze, Zf, Zg, Zh, Zi, Zj, Zk, Zl, Zm, Zn, Zo, Zp, Zq, Zr, Zs, Zt, Zu, Zv, gval, Zw, Zx, Zy, Zz, ZA, ZB, ZC, ZD, ZE, ZF, decide_eq_true_eq, ZG, ZH, ZI, ZJ, ZK, ZL, ZM, ZN, ZO, ZP, ZQ, ZR, ZS, Option.some.injEq, exists_eq_left', ZT, ZU, ZV, ZW, ZX, ZY, true_and, and_true, true_or, or_true, false_or, or_false, ite_true, ite_false, cond_true, cond_false, ZZ, Qa, if_true, if_false, decide_true, decide_false, Qb, Qc, Qd, Qe, Qf, Qg, Qh, Qi, Qj, Qk, Ql, Qm, Qn, Qo, Qp, rb0, rb1, rb2, rb3, rb4, tf0, tf1, tf2, tf3, tf4, e4]
  refine run_loop2 rfl (fun N e h' => ∃ i : Nat, N = n - i ∧ i ≤ n ∧ (∀ (j : Nat) (y : List UInt8), j < i → (parts p)[j]? = some y → chk y = 0) ∧ e.at 4 = .slice wa n n ∧ e.at 7 = .int .i64 i ∧ h' = h1)
    (fun ex e h' => (ex = .ret ∧ e.at 2 = .slice none 0 0 ∧ e.at 3 = .int .i64 (errL (parts p)) ∧ errL (parts p) ≠ 0 ∨ ex = .exit 2 ∧ e.at 4 = .slice wa n n ∧ errL (parts p) = 0) ∧ h' = h1) ?_ (n - 0) _ _ ?_ ?_
  · rintro N e h' ⟨i, rfl, him, hz, i4, i7, rfl⟩ Q' hQn hQx
    by_cases hi : i < n
    · obtain ⟨x, hx⟩ : ∃ x, (parts p)[i]? = some x := ⟨_, List.getElem?_eq_getElem (by omega)⟩
      have hi0 : (0 : Int) ≤ (i : Int) := by omega
      have hi1 : (i : Int) < (n : Int) := by omega
      have wi : wrapF .i64 ((i : Int) + 1) = ((i + 1 : Nat) : Int) := by rw [wrapI (by omega) (by omega)]; omega
      rcases r.is with ⟨_, _, rfl⟩ | ⟨b, q1, q2, hv2, g1⟩
      · exact absurd hi (Nat.not_lt_zero _)
      rw [hw] at hv2
      rw [hv2] at i4
      have x1 := strs_at hx
      have l1 := strs_len (parts p)
      have hil : i < (parts p).length := by omega
      simp only [↓reduceIte, reduceCtorEq, Za, Zb, Zc, Zd, Ze, Zf, Zg, Zh, Zi, Zj, Zk, Zl, Zm, Zn, Zo, Zp, Zq, Zr, Zs, Zt, Zu, Zv, gval, Zw, Zx, Zy, Zz, ZA, ZB, ZC, ZD, ZE, ZF, decide_eq_true_eq, ZG, ZH, ZI, ZJ, ZK, ZL, ZM, ZN, ZO, ZP, ZQ, ZR, ZS, Option.some.injEq, exists_eq_left', ZT, ZU, ZV, ZW, ZX, ZY, true_and, and_true, true_or, or_true, false_or, or_false, ite_true, ite_false, cond_true, cond_false, ZZ, Qa, if_true, if_false, decide_true, decide_false, Qb, Qc, Qd, Qe, Qf, Qg, Qh, Qi, Qj, Qk, Ql, Qm, Qn, Qo, Qp, rb0, rb1, rb2, rb3, rb4, tf0, tf1, tf2, tf3, tf4, i4, i7, hi0, hi1, hi, hil, g1, l1, x1, Nat.mul_one]
      refine runC_of (part_spec p46 ?_)
      by_cases c4 : chk x = 0
      · simp only [↓reduceIte, reduceCtorEq, Za, Zb, Zc, Zd, Ze, Zf, Zg, Zh, Zi, Zj, Zk, Zl, Zm, Zn, Zo, Zp, Zq, Zr, Zs, Zt, Zu, Zv, gval, Zw, Zx, Zy, Zz, ZA, ZB, ZC, ZD, ZE, ZF, decide_eq_true_eq, ZG, ZH, ZI, ZJ, ZK, ZL, ZM, ZN, ZO, ZP, ZQ, ZR, ZS, Option.some.injEq, exists_eq_left', ZT, ZU, ZV, ZW, ZX, ZY, true_and, and_true, true_or, or_true, false_or, or_false, ite_true, ite_false, cond_true, cond_false, ZZ, Qa, if_true, if_false, decide_true, decide_false, Qb, Qc, Qd, Qe, Qf, Qg, Qh, Qi, Qj, Qk, Ql, Qm, Qn, Qo, Qp, rb0, rb1, rb2, rb3, rb4, tf0, tf1, tf2, tf3, tf4, c4, i7, wi]
        refine hQn _ _ _ (by omega) ⟨i + 1, rfl, by omega, fun j y hj hy => ?_, by simp only [at_put, at_args, Nat.reduceBEq, cond_true, cond_false, List.getElem?_cons_zero, List.getElem?_cons_succ, Option.getD_some, Nat.add_zero, Int.cast_ofNat_Int, i4, hv2], by simp only [at_put, at_args, Nat.reduceBEq, cond_true, cond_false, List.getElem?_cons_zero, List.getElem?_cons_succ, Option.getD_some, Nat.add_zero, Int.cast_ofNat_Int], rfl⟩
        rcases Nat.lt_or_ge j i with q | q
        · exact hz j y q hy
        · rw [show j = i by omega, hx] at hy
          cases Option.some.inj hy; exact c4
      · simp only [↓reduceIte, reduceCtorEq, Za, Zb, Zc, Zd, Ze, Zf, Zg, Zh, Zi, Zj, Zk, Zl, Zm, Zn, Zo, Zp, Zq, Zr, Zs, Zt, Zu, Zv, gval, Zw, Zx, Zy, Zz, ZA, ZB, ZC, ZD, ZE, ZF, decide_eq_true_eq, ZG, ZH, ZI, ZJ, ZK, ZL, ZM, ZN, ZO, ZP, ZQ, ZR, ZS, Option.some.injEq, exists_eq_left', ZT, ZU, ZV, ZW, ZX, ZY, true_and, and_true, true_or, or_true, false_or, or_false, ite_true, ite_false, cond_true, cond_false, ZZ, Qa, if_true, if_false, decide_true, decide_false, Qb, Qc, Qd, Qe, Qf, Qg, Qh, Qi, Qj, Qk, Ql, Qm, Qn, Qo, Qp, rb0, rb1, rb2, rb3, rb4, tf0, tf1, tf2, tf3, tf4, c4, i7, wi]
        have := errL_at hz hx c4
        exact hQx _ _ _ (by simp) ⟨.inl ⟨rfl, by simp only [at_put, at_args, Nat.reduceBEq, cond_true, cond_false, List.getElem?_cons_zero, List.getElem?_cons_succ, Option.getD_some, Nat.add_zero, Int.cast_ofNat_Int], by simp only [at_put, at_args, Nat.reduceBEq, cond_true, cond_false, List.getElem?_cons_zero, List.getElem?_cons_succ, Option.getD_some, Nat.add_zero, Int.cast_ofNat_Int, this], by rw [this]; exact c4⟩, rfl⟩
    · have hi1 : ¬ (i : Int) < (n : Int) := by omega
      simp only [↓reduceIte, reduceCtorEq, Za, Zb, Zc, Zd, Ze, Zf, Zg, Zh, Zi, Zj, Zk, Zl, Zm, Zn, Zo, Zp, Zq, Zr, Zs, Zt, Zu, Zv, gval, Zw, Zx, Zy, Zz, ZA, ZB, ZC, ZD, ZE, ZF, decide_eq_true_eq, ZG, ZH, ZI, ZJ, ZK, ZL, ZM, ZN, ZO, ZP, ZQ, ZR, ZS, Option.some.injEq, exists_eq_left', ZT, ZU, ZV, ZW, ZX, ZY, true_and, and_true, true_or, or_true, false_or, or_false, ite_true, ite_false, cond_true, cond_false, ZZ, Qa, if_true, if_false, decide_true, decide_false, Qb, Qc, Qd, Qe, Qf, Qg, Qh, Qi, Qj, Qk, Ql, Qm, Qn, Qo, Qp, rb0, rb1, rb2, rb3, rb4, tf0, tf1, tf2, tf3, tf4, i4, i7, hi1]
      exact hQx _ _ _ (by simp) ⟨.inr ⟨rfl, by simp only [at_put, at_args, Nat.reduceBEq, cond_true, cond_false, List.getElem?_cons_zero, List.getElem?_cons_succ, Option.getD_some, Nat.add_zero, Int.cast_ofNat_Int, i4], errL_none fun j y hy => hz j y (by have := (List.getElem?_eq_some_iff.1 hy).1; omega) hy⟩, rfl⟩
  · exact ⟨0, rfl, by omega, fun _ _ h => absurd h (Nat.not_lt_zero _), by simp only [at_put, at_args, Nat.reduceBEq, cond_true, cond_false, List.getElem?_cons_zero, List.getElem?_cons_succ, Option.getD_some, Nat.add_zero, Int.cast_ofNat_Int, e4], by simp only [at_put, at_args, Nat.reduceBEq, cond_true, cond_false, List.getElem?_cons_zero, List.getElem?_cons_succ, Option.getD_some, Nat.add_zero, Int.cast_ofNat_Int], rfl⟩
  · rintro ex e h3 - ⟨⟨rfl, i2, i3, hne⟩ | ⟨rfl, i4, h0⟩, rfl⟩
    · simp only [↓reduceIte, reduceCtorEq, Za, Zb, Zc, Zd, Ze, Zf, Zg, Zh, Zi, Zj, Zk, Zl, Zm, Zn, Zo, Zp, Zq, Zr, Zs, Zt, Zu, Zv, gval, Zw, Zx, Zy, Zz, ZA, ZB, ZC, ZD, ZE, ZF, decide_eq_true_eq, ZG, ZH, ZI, ZJ, ZK, ZL, ZM, ZN, ZO, ZP, ZQ, ZR, ZS, Option.some.injEq, exists_eq_left', ZT, ZU, ZV, ZW, ZX, ZY, true_and, and_true, true_or, or_true, false_or, or_false, ite_true, ite_false, cond_true, cond_false, ZZ, Qa, if_true, if_false, decide_true, decide_false, Qb, Qc, Qd, Qe, Qf, Qg, Qh, Qi, Qj, Qk, Ql, Qm, Qn, Qo, Qp, rb0, rb1, rb2, rb3, rb4, tf0, tf1, tf2, tf3, tf4, i2, i3]
      have hL : splL p = [] := by unfold splL; rw [hE, if_neg hne]
      rw [hE, hL] at hR
      exact hR _ _ hn .nil hk
    · simp only [↓reduceIte, reduceCtorEq, Za, Zb, Zc, Zd, Ze, Zf, Zg, Zh, Zi, Zj, Zk, Zl, Zm, Zn, Zo, Zp, Zq, Zr, Zs, Zt, Zu, Zv, gval, Zw, Zx, Zy, Zz, ZA, ZB, ZC, ZD, ZE, ZF, decide_eq_true_eq, ZG, ZH, ZI, ZJ, ZK, ZL, ZM, ZN, ZO, ZP, ZQ, ZR, ZS, Option.some.injEq, exists_eq_left', ZT, ZU, ZV, ZW, ZX, ZY, true_and, and_true, true_or, or_true, false_or, or_false, ite_true, ite_false, cond_true, cond_false, ZZ, Qa, if_true, if_false, decide_true, decide_false, Qb, Qc, Qd, Qe, Qf, Qg, Qh, Qi, Qj, Qk, Ql, Qm, Qn, Qo, Qp, rb0, rb1, rb2, rb3, rb4, tf0, tf1, tf2, tf3, tf4, i4]
      have hL : splL p = parts p := by unfold splL; rw [hE, if_pos h0]
      rw [hE, hL, h0, hm] at hR
      rw [hw] at r
      exact hR _ _ hn r hk
end Go.Proofs.YtmadjdgipfdnkaaDoor
end
section
/- The library's texts in this seat: specials; the fifth layer's awake. -/
namespace Go.Proofs
open Go.Shelf Go.RowKit
def Tryd.laysRepeat_ren : Go.Shelf.Ren := ⟨fun | 105 => 64 | 212 => 74 | 99 => 75 | 165 => 76 | 166 => 63 | 170 => 67 | 169 => 66 | 263 => 80 | 264 => 81 | 206 => 82 | 240 => 73 | 241 => 83 | 276 => 79 | 277 => 88 | n => n, fun | 9 => 9 | 3 => 3 | 4 => 4 | 20 => 20 | 0 => 0 | 46 => 134 | 109 => 136 | 5 => 5 | 72 => 124 | 76 => 127 | 51 => 144 | 146 => 145 | 53 => 84 | 148 => 147 | 70 => 122 | 37 => 34 | 75 => 126 | 127 => 138 | 164 => 142 | 80 => 131 | n => n, fun | n => n⟩
theorem Tryd.laysRepeat : Go.Proofs.Lays.n105 Tryd.prog Tryd.laysRepeat_ren := {
  mixed := by kernel_rfl
  f99 := Tryd.func75.trans (congrArg some (by kernel_rfl))
  f105 := Tryd.func64.trans (congrArg some (by kernel_rfl))
  f165 := Tryd.func76.trans (congrArg some (by kernel_rfl))
  f166 := Tryd.func63.trans (congrArg some (by kernel_rfl))
  f169 := Tryd.func66.trans (congrArg some (by kernel_rfl))
  f170 := Tryd.func67.trans (congrArg some (by kernel_rfl))
  f206 := Tryd.func82.trans (congrArg some (by kernel_rfl))
  f212 := Tryd.func74.trans (congrArg some (by kernel_rfl))
  f240 := Tryd.func73.trans (congrArg some (by kernel_rfl))
  f241 := Tryd.func83.trans (congrArg some (by kernel_rfl))
  f263 := Tryd.func80.trans (congrArg some (by kernel_rfl))
  f264 := Tryd.func81.trans (congrArg some (by kernel_rfl))
  f276 := Tryd.func79.trans (congrArg some (by kernel_rfl))
  f277 := Tryd.func88.trans (congrArg some (by kernel_rfl))
  t0 := Tryd.underlying0
  a0 := Tryd.isAgg0
  z0 := Tryd.sizeOf0
  v0 := Tryd.zeroValue0
  t3 := Tryd.underlying3
  a3 := Tryd.isAgg3
  z3 := Tryd.sizeOf3
  v3 := Tryd.zeroValue3
  t4 := Tryd.underlying4
  a4 := Tryd.isAgg4
  z4 := Tryd.sizeOf4
  v4 := Tryd.zeroValue4
  t5 := Tryd.underlying5
  a5 := Tryd.isAgg5
  z5 := Tryd.sizeOf5
  v5 := Tryd.zeroValue5
  t9 := Tryd.underlying9
  a9 := Tryd.isAgg9
  z9 := Tryd.sizeOf9
  v9 := Tryd.zeroValue9
  t20 := Tryd.underlying20
  a20 := Tryd.isAgg20
  z20 := Tryd.sizeOf20
  v20 := Tryd.zeroValue20
  t37 := Tryd.underlying34
  a37 := Tryd.isAgg34
  z37 := Tryd.sizeOf34
  v37 := Tryd.zeroValue34
  t46 := Tryd.underlying134
  a46 := Tryd.isAgg134
  z46 := Tryd.sizeOf134
  v46 := Tryd.zeroValue134
  t51 := Tryd.underlying144
  a51 := Tryd.isAgg144
  z51 := Tryd.sizeOf144
  v51 := Tryd.zeroValue144
  t53 := Tryd.underlying84
  a53 := Tryd.isAgg84
  z53 := Tryd.sizeOf84
  v53 := Tryd.zeroValue84
  t70 := Tryd.underlying122
  a70 := Tryd.isAgg122
  z70 := Tryd.sizeOf122
  v70 := Tryd.zeroValue122
  t72 := Tryd.underlying124
  a72 := Tryd.isAgg124
  z72 := Tryd.sizeOf124
  v72 := Tryd.zeroValue124
  t75 := Tryd.underlying126
  a75 := Tryd.isAgg126
  z75 := Tryd.sizeOf126
  v75 := Tryd.zeroValue126
  t76 := Tryd.underlying127
  a76 := Tryd.isAgg127
  z76 := Tryd.sizeOf127
  v76 := Tryd.zeroValue127
  t109 := Tryd.underlying136
  a109 := Tryd.isAgg136
  z109 := Tryd.sizeOf136
  v109 := Tryd.zeroValue136
  t127 := Tryd.underlying138
  a127 := Tryd.isAgg138
  z127 := Tryd.sizeOf138
  v127 := Tryd.zeroValue138
  t146 := Tryd.underlying145
  a146 := Tryd.isAgg145
  z146 := Tryd.sizeOf145
  v146 := Tryd.zeroValue145
  t148 := Tryd.underlying147
  a148 := Tryd.isAgg147
  z148 := Tryd.sizeOf147
  v148 := Tryd.zeroValue147
  t164 := Tryd.underlying142
  a164 := Tryd.isAgg142
  z164 := Tryd.sizeOf142
  v164 := Tryd.zeroValue142 }
def Tryd.laysIndex_ren : Go.Shelf.Ren := ⟨fun | 219 => 78 | 217 => 84 | 225 => 85 | 224 => 86 | 267 => 87 | 266 => 89 | 314 => 90 | n => n, fun | 9 => 9 | 3 => 3 | 4 => 4 | 5 => 5 | 46 => 134 | 146 => 145 | 51 => 144 | n => n, fun | 1 => 1 | n => n⟩
theorem Tryd.laysIndex : Go.Proofs.Lays.n219 Tryd.prog Tryd.laysIndex_ren := {
  mixed := by kernel_rfl
  f217 := Tryd.func84.trans (congrArg some (by kernel_rfl))
  f219 := Tryd.func78.trans (congrArg some (by kernel_rfl))
  f224 := Tryd.func86.trans (congrArg some (by kernel_rfl))
  f225 := Tryd.func85.trans (congrArg some (by kernel_rfl))
  f266 := Tryd.func89.trans (congrArg some (by kernel_rfl))
  f267 := Tryd.func87.trans (congrArg some (by kernel_rfl))
  f314 := Tryd.func90.trans (congrArg some (by kernel_rfl))
  t3 := Tryd.underlying3
  a3 := Tryd.isAgg3
  z3 := Tryd.sizeOf3
  v3 := Tryd.zeroValue3
  t4 := Tryd.underlying4
  a4 := Tryd.isAgg4
  z4 := Tryd.sizeOf4
  v4 := Tryd.zeroValue4
  t5 := Tryd.underlying5
  a5 := Tryd.isAgg5
  z5 := Tryd.sizeOf5
  v5 := Tryd.zeroValue5
  t9 := Tryd.underlying9
  a9 := Tryd.isAgg9
  z9 := Tryd.sizeOf9
  v9 := Tryd.zeroValue9
  t46 := Tryd.underlying134
  a46 := Tryd.isAgg134
  z46 := Tryd.sizeOf134
  v46 := Tryd.zeroValue134
  t51 := Tryd.underlying144
  a51 := Tryd.isAgg144
  z51 := Tryd.sizeOf144
  v51 := Tryd.zeroValue144
  t146 := Tryd.underlying145
  a146 := Tryd.isAgg145
  z146 := Tryd.sizeOf145
  v146 := Tryd.zeroValue145
  g1 := by kernel_rfl }
theorem Tryd.exRepeat : Builder.Extra Tryd.prog Tryd.laysRepeat_ren := ⟨⟨by kernel_rfl, by kernel_rfl⟩, Tryd.laysRepeat.t5, Tryd.laysRepeat.a5, Tryd.laysRepeat.z5, Tryd.laysRepeat.v5, by kernel_rfl, by kernel_rfl, by kernel_rfl, by decide⟩
theorem Tryd.laysCopy : Lays.n240 Tryd.prog Tryd.laysRepeat_ren := { Tryd.laysRepeat with }
theorem Tryd.laysString : Lays.n169 Tryd.prog Tryd.laysRepeat_ren := { Tryd.laysRepeat with }
namespace YtmadjdgipfdnkaaDoor
open Go.AM
noncomputable def strSp : Special := orSpec (oneSpec 73 (ccF (Tryd.laysRepeat_ren.t 72))) (orSpec (oneSpec 66 (stF (Tryd.laysRepeat_ren.t 72) (Tryd.laysRepeat_ren.t 5))) (orSpec (oneSpec 64 (pureF repV)) (oneSpec 78 (pureF ixoV))))
theorem strSp_ok : SpecOk Tryd.prog (0 + 1) strSp := by
  refine orSpec_ok (oneSpec_ok fun cl _ => ?_) (orSpec_ok (oneSpec_ok fun cl _ => ?_) (orSpec_ok (oneSpec_ok fun cl _ => ?_) (oneSpec_ok fun cl _ => ?_)))
  · exact ccF_ok Tryd.laysCopy Tryd.exRepeat.toX72 (enters_of Tryd.func73 (by kernel_rfl) rfl) cl
  · exact stF_ok Tryd.laysString Tryd.exRepeat (enters_of Tryd.func66 (by kernel_rfl) rfl) cl
  · exact repF_ok Tryd.laysRepeat Tryd.exRepeat (enters_of Tryd.func64 (by kernel_rfl) rfl) cl
  · exact ixoF_ok Tryd.laysIndex (enters_of Tryd.func78 (by kernel_rfl) rfl) cl
noncomputable abbrev clS : Caller := acall Tryd.prog (0 + 1) strSp 3000 60
theorem clS_ok : CallOk Tryd.prog (0 + 1) clS := acall_ok (by kernel_rfl) strSp_ok 3000 60
end YtmadjdgipfdnkaaDoor
end Go.Proofs
end
section
/- The sixteenth layer's awake gives true: once, then a special. -/
namespace Go.Proofs.YtmadjdgipfdnkaaDoor
open Go.AM
set_option maxRecDepth 100000 in
theorem aw16 : isTrue (clS 25 [] H0) = true := by kernel_rfl
noncomputable abbrev sp16 : Special := orSpec (oneSpec 25 (trueF 0 .u8 tab)) strSp
theorem sp16_ok : SpecOk Tryd.prog (0 + 1) sp16 := orSpec_ok (oneSpec_ok fun cl _ => trueF_ok clS_ok aw16 cl) strSp_ok
theorem aw16_wf {h : Heap} {R : Out → Heap → Prop} (ht : h.get 0 = some (tabBlk .u8 tab)) (hR : R (.ret (.bool true)) h) : WF Tryd.prog 1 sp16 25 [] h R := by
  refine ⟨.ret (.bool true), h, ⟨1, fun fu d h1 h2 => ?_⟩, hR⟩
  obtain ⟨d, rfl⟩ : ∃ k, d = k + 1 := ⟨d - 1, by omega⟩
  show cond (beqB (h.get 0) (some (tabBlk .u8 tab))) (some (Out.ret (.bool true), h)) none = _
  rw [ht]
  have : beqB (some (tabBlk .u8 tab)) (some (tabBlk .u8 tab)) = true := by kernel_rfl
  rw [this]; rfl
end Go.Proofs.YtmadjdgipfdnkaaDoor
end
section
/- DirSplits: the law's own steps. No condition on the path. -/
namespace Go.Proofs.YtmadjdgipfdnkaaDoor
open Go.AM
open Nat renaming reduceBEq → Za, reduceEqDiff → Zb, reduceAdd → Zc, reduceSub → Zd, reduceMul → Ze, reduceLT → Zf, reduceLeDiff → Zg, reduceDiv → Zh, reduceMod → Zi, reducePow → Zj, blt_eq → ZF, zero_add → Qc, add_zero → Qd
open Int renaming reduceAdd → Zk, reduceSub → Zl, reduceMul → Zm, reduceLT → Zn, reduceLE → Zo, reduceEq → Zp, reduceNe → Zq, reduceNeg → Zr, reduceToNat → Zs, reduceDiv → Zt, reduceMod → Zu, reducePow → Zv, cast_ofNat_Int → Zw, toNat_natCast → Qb
open List renaming set_cons_zero → Zx, set_cons_succ → Zy, map_toArray → Zz, cons_append → ZA, nil_append → ZB, append_nil → ZC, all_cons → ZD, all_nil → ZE, getElem?_cons_zero → ZJ, getElem?_cons_succ → ZK, length_cons → ZL, length_nil → ZM, map_cons → ZN, map_nil → ZO, isEmpty_nil → Qe, any_cons → Qf, any_nil → Qg, drop_zero → Qk, drop_succ_cons → Ql, take_succ_cons → Qm, take_zero → Qn, take_nil → Qo, drop_nil → Qp
open Bool renaming and_true → ZG, true_and → ZH, and_self → ZI, not_true → ZT, not_false → ZU, true_eq_false → ZZ, false_eq_true → Qa, or_false → Qh, false_or → Qi, and_eq_true → Qj
open Option renaming map_some → ZP, map_none → ZQ, bind_some → ZR, getD_some → ZS, isNone_some → ZV, isNone_none → ZW, isSome_some → ZX, isSome_none → ZY
set_option linter.unusedSimpArgs false
variable {h : Heap} {R : Out → Heap → Prop}
theorem splL_len (p : List UInt8) : (splL p).length ≤ 33 := by
  by_cases h0 : splE p = 0
  · have hl : splL p = parts p := by unfold splL; rw [if_pos h0]
    rw [hl]
    by_cases c1 : p = []
    · unfold splE at h0; rw [if_pos c1] at h0; exact absurd h0 (by decide)
    by_cases c2 : 32 < p.length
    · unfold splE at h0; rw [if_neg c1, if_pos c2] at h0; exact absurd h0 (by decide)
    have := parts_len p; omega
  · have hl : splL p = [] := by unfold splL; rw [if_neg h0]
    rw [hl]; exact Nat.zero_le _
set_option maxRecDepth 100000 in
theorem splits_walk {p : List UInt8} (hR : ∀ h, R (.ret (.bool true)) h) : WF Tryd.prog 1 sp16 8 [.string (mkS p)] H0 R := by
  refine wf_fn (fn := Tryd.f8) rfl rfl (by kernel_rfl) rfl ?_
  have t0 : H0.get 0 = some (tabBlk .u8 tab) := by kernel_rfl
  have n0 : H0.nx = 1 := by kernel_rfl
  simp only [↓reduceIte, reduceCtorEq, Za, Zb, Zc, Zd, Ze, Zf, Zg, Zh, Zi, Zj, Zk, Zl, Zm, Zn, Zo, Zp, Zq, Zr, Zs, Zt, Zu, Zv, gval, Zw, Zx, Zy, Zz, ZA, ZB, ZC, ZD, ZE, ZF, decide_eq_true_eq, ZG, ZH, ZI, ZJ, ZK, ZL, ZM, ZN, ZO, ZP, ZQ, ZR, ZS, Option.some.injEq, exists_eq_left', ZT, ZU, ZV, ZW, ZX, ZY, true_and, and_true, true_or, or_true, false_or, or_false, ite_true, ite_false, cond_true, cond_false, ZZ, Qa, if_true, if_false, decide_true, decide_false, Qb, Qc, Qd, Qe, Qf, Qg, Qh, Qi, Qj, Qk, Ql, Qm, Qn, Qo, Qp, rb0, rb1, rb2, rb3, rb4, tf0, tf1, tf2, tf3, tf4, Tryd.f8]
  refine runC_of (split_spec (sp := sp16) rfl rfl rfl fun h1 v n1 r1 k1 => ?_)
  have sv : storable v = true := by obtain ⟨a, hv⟩ := r1.slc; rw [hv]; rfl
  simp only [↓reduceIte, reduceCtorEq, Za, Zb, Zc, Zd, Ze, Zf, Zg, Zh, Zi, Zj, Zk, Zl, Zm, Zn, Zo, Zp, Zq, Zr, Zs, Zt, Zu, Zv, gval, Zw, Zx, Zy, Zz, ZA, ZB, ZC, ZD, ZE, ZF, decide_eq_true_eq, ZG, ZH, ZI, ZJ, ZK, ZL, ZM, ZN, ZO, ZP, ZQ, ZR, ZS, Option.some.injEq, exists_eq_left', ZT, ZU, ZV, ZW, ZX, ZY, true_and, and_true, true_or, or_true, false_or, or_false, ite_true, ite_false, cond_true, cond_false, ZZ, Qa, if_true, if_false, decide_true, decide_false, Qb, Qc, Qd, Qe, Qf, Qg, Qh, Qi, Qj, Qk, Ql, Qm, Qn, Qo, Qp, rb0, rb1, rb2, rb3, rb4, tf0, tf1, tf2, tf3, tf4, sv]
  refine runC_of (rsplit_spec (sp := sp16) rfl rfl fun h2 w n2 r2 k2 => ?_)
  have hlen := splL_len p
  have sw : storable w = true := by obtain ⟨a, hv⟩ := r2.slc; rw [hv]; rfl
  simp only [↓reduceIte, reduceCtorEq, Za, Zb, Zc, Zd, Ze, Zf, Zg, Zh, Zi, Zj, Zk, Zl, Zm, Zn, Zo, Zp, Zq, Zr, Zs, Zt, Zu, Zv, gval, Zw, Zx, Zy, Zz, ZA, ZB, ZC, ZD, ZE, ZF, decide_eq_true_eq, ZG, ZH, ZI, ZJ, ZK, ZL, ZM, ZN, ZO, ZP, ZQ, ZR, ZS, Option.some.injEq, exists_eq_left', ZT, ZU, ZV, ZW, ZX, ZY, true_and, and_true, true_or, or_true, false_or, or_false, ite_true, ite_false, cond_true, cond_false, ZZ, Qa, if_true, if_false, decide_true, decide_false, Qb, Qc, Qd, Qe, Qf, Qg, Qh, Qi, Qj, Qk, Ql, Qm, Qn, Qo, Qp, rb0, rb1, rb2, rb3, rb4, tf0, tf1, tf2, tf3, tf4, sw]
  refine runC_of (texts_spec (sp := sp16) rfl (TxtAt.of (r1.keep n2 fun b h1 h2 _ => k2 b h2)) (TxtAt.of r2) (by omega) (by omega) ?_)
  simp only [↓reduceIte, reduceCtorEq, Za, Zb, Zc, Zd, Ze, Zf, Zg, Zh, Zi, Zj, Zk, Zl, Zm, Zn, Zo, Zp, Zq, Zr, Zs, Zt, Zu, Zv, gval, Zw, Zx, Zy, Zz, ZA, ZB, ZC, ZD, ZE, ZF, decide_eq_true_eq, ZG, ZH, ZI, ZJ, ZK, ZL, ZM, ZN, ZO, ZP, ZQ, ZR, ZS, Option.some.injEq, exists_eq_left', ZT, ZU, ZV, ZW, ZX, ZY, true_and, and_true, true_or, or_true, false_or, or_false, ite_true, ite_false, cond_true, cond_false, ZZ, Qa, if_true, if_false, decide_true, decide_false, Qb, Qc, Qd, Qe, Qf, Qg, Qh, Qi, Qj, Qk, Ql, Qm, Qn, Qo, Qp, rb0, rb1, rb2, rb3, rb4, tf0, tf1, tf2, tf3, tf4, decide_true]
  refine runC_of (aw16_wf (by rw [k2 _ (by omega), k1 _ (by omega)]; exact t0) ?_)
  simp only [↓reduceIte, reduceCtorEq, Za, Zb, Zc, Zd, Ze, Zf, Zg, Zh, Zi, Zj, Zk, Zl, Zm, Zn, Zo, Zp, Zq, Zr, Zs, Zt, Zu, Zv, gval, Zw, Zx, Zy, Zz, ZA, ZB, ZC, ZD, ZE, ZF, decide_eq_true_eq, ZG, ZH, ZI, ZJ, ZK, ZL, ZM, ZN, ZO, ZP, ZQ, ZR, ZS, Option.some.injEq, exists_eq_left', ZT, ZU, ZV, ZW, ZX, ZY, true_and, and_true, true_or, or_true, false_or, or_false, ite_true, ite_false, cond_true, cond_false, ZZ, Qa, if_true, if_false, decide_true, decide_false, Qb, Qc, Qd, Qe, Qf, Qg, Qh, Qi, Qj, Qk, Ql, Qm, Qn, Qo, Qp, rb0, rb1, rb2, rb3, rb4, tf0, tf1, tf2, tf3, tf4]
  exact hR _
end Go.Proofs.YtmadjdgipfdnkaaDoor
end
section
/- From a walk behind the table's block and one more to the row. Conditions: as the rule says. -/
namespace Go.Proofs.YtmadjdgipfdnkaaDoor
open Go.AM
theorem h0_new (X : Blk) : listHeap [tabBlk .u8 tab, X] = H0.new X := by kernel_rfl
theorem doorX_wf {W : World} {sp : Special} (hsp : SpecOk Tryd.prog 1 sp) {f : FuncId} {args args' : List Value} {X : Blk} {s : AM.Stat} {cs : Array Value} {el : TypeId} {fr : Nat × Nat} (t1 : W.heap[0]? = some (.cells cs el fr)) (t2 : cs.size = 64) (t3 : ∀ i, i < 64 → cs[i]? = (tab.map (Value.int .u8))[i]?)
    (r3 : ∀ m, BRel m W s (some X)) (r4 : ∀ l1, s = .live l1 → roB (some X) = true ∧ l1.rw = false) (hw : WF Tryd.prog 1 sp f args (H0.new X) fun o _ => o = .ret (.bool true)) (ha : VRels (statMp [.live ⟨0, 0, 0, 64, 64, false⟩, s]) args args') :
    Calls Tryd.prog f args'.toArray W fun e W' => e = .returned (.bool true) ∧ Still W W' := by
  refine wf_list (ng := 1) (by kernel_rfl) hsp (l := [tabBlk .u8 tab, X]) (st := [.live ⟨0, 0, 0, 64, 64, false⟩, s]) rfl (fun i st b hs hb => ?_) (fun i l b hs hb => ?_) (fun g hg => ?_) (by rw [h0_new]; exact hw) ha
  · match i with
    | 0 => cases hs; cases hb; exact tab_rel (bs := tab) t1 t2 t3
    | 1 => cases hs; cases hb; exact r3 _
    | i + 2 => simp at hs
  · match i with
    | 0 => cases hs; cases hb; exact ⟨rfl, rfl⟩
    | 1 => cases hb; exact r4 l (by simpa using hs)
    | i + 2 => simp at hs
  · obtain rfl : g = 0 := by omega
    exact .inl ⟨_, rfl, rfl, rfl, rfl⟩
theorem door0_wf {W : World} {sp : Special} (hsp : SpecOk Tryd.prog 1 sp) {f : FuncId} {args args' : List Value} {cs : Array Value} {el : TypeId} {fr : Nat × Nat} (t1 : W.heap[0]? = some (.cells cs el fr)) (t2 : cs.size = 64) (t3 : ∀ i, i < 64 → cs[i]? = (tab.map (Value.int .u8))[i]?)
    (hw : WF Tryd.prog 1 sp f args H0 fun o _ => o = .ret (.bool true)) (ha : VRels (statMp [.live ⟨0, 0, 0, 64, 64, false⟩]) args args') :
    Calls Tryd.prog f args'.toArray W fun e W' => e = .returned (.bool true) ∧ Still W W' := by
  refine wf_list (ng := 1) (by kernel_rfl) hsp (l := [tabBlk .u8 tab]) (st := [.live ⟨0, 0, 0, 64, 64, false⟩]) rfl (fun i st b hs hb => ?_) (fun i l b hs hb => ?_) (fun g hg => ?_) hw ha
  · match i with
    | 0 => cases hs; cases hb; exact tab_rel (bs := tab) t1 t2 t3
    | i + 1 => simp at hs
  · match i with
    | 0 => cases hs; cases hb; exact ⟨rfl, rfl⟩
    | i + 1 => simp at hs
  · obtain rfl : g = 0 := by omega
    exact .inl ⟨_, rfl, rfl, rfl, rfl⟩
end Go.Proofs.YtmadjdgipfdnkaaDoor
end
section
/- Closed facts of this seat's program, each by itself. -/
namespace Go.Proofs.YtmadjdgipfdnkaaDoor
open Go.ChangeShapes Go.WideShapes Go.ChangeAt Go.RowKit
theorem Tryd.laidOut : laidOutB Tryd.prog = true := by kernel_rfl
theorem Tryd.mapsRowed : mapsRowed Tryd.prog = true := by kernel_rfl
theorem Tryd.plainKeys : (Rows.inodePutsRow.plainKeys == Tryd.prog.plainKeys) = true := by kernel_rfl
theorem Tryd.stopsHeard : Tryd.prog.stopsHeard = true := by kernel_rfl
theorem Tryd.mayEnter : Tryd.prog.mayEnter = true := by kernel_rfl
theorem Tryd.lifted : (Rows.inodePutsRow.lifted == Tryd.prog.liftsFinal) = true := by kernel_rfl
theorem Tryd.make : (Tryd.prog.make == some Rows.inodePutsRow.make) = true := by kernel_rfl
theorem Tryd.looks : false = Tryd.prog.looks [] := by kernel_rfl
end Go.Proofs.YtmadjdgipfdnkaaDoor
end
section
/- DirSplits: whatever the path, the law gives true. (Its card: the table of math/bits is as the program's text lays it.) -/
namespace Go.Proofs.YtmadjdgipfdnkaaDoor
open Go.ChangeShapes Go.WideShapes Go.ChangeAt Go.RowKit Go.AM
set_option maxRecDepth 100000 in
theorem dirSplits_calls {W : World} {base : Nat} {v0 : Value} (h0 : Value.okWide Tryd.prog W .any base 9 v0) (hL : laidMetH Tryd.prog Rows.dirSplitsRow.laid W) :
    Calls Tryd.prog 8 #[v0] W fun e W' => e = .returned (.bool true) ∧ Still W W' := by
  obtain ⟨tc, el, fr, w1, w2, w3⟩ := tab_laid hL
  obtain ⟨S, rfl⟩ := okWide_string (by kernel_rfl) h0
  rw [← mkS_data S]
  exact door0_wf sp16_ok (args := [.string _]) (args' := [_]) w1 w2 w3 (splits_walk fun _ => rfl) (.cons _ _ _ _ (.string _) .nil)

set_option maxRecDepth 100000 in
theorem dirSplits_lifted (os : Os) (started : os.Started) (H : Type) (enc : TypeId × Value → H) :
    ReturnsInHanded {} Tryd.checked os 8 .any (fun w args => (Rows.dirSplitsSpec.pre enc Tryd.prog Tryd.f8 Rows.dirSplitsRow.domain false w args ∧ laidMetH Tryd.prog Rows.dirSplitsRow.laid w) ∧ sizedMet enc Tryd.prog Tryd.f8 (OpenSpec.ofChange Rows.dirSplitsSpec) false w args)
      (Rows.dirSplitsSpec.post enc Tryd.prog Tryd.f8 false true false false) := by
  refine returnsInHanded_of_change_and (C := Tryd.checked) (X := fun w _ => laidMetH Tryd.prog Rows.dirSplitsRow.laid w) (fun _ _ _ hh h => h.of_heap hh) Tryd.own started (by kernel_rfl) Tryd.func8
    (ChangeSpec.witness_shaped (enc := enc) (C := Tryd.checked) (os := os) (X := fun w _ => laidMetH Tryd.prog Rows.dirSplitsRow.laid w) false (World.laidAll Tryd.prog os Rows.dirSplitsRow.laid) #[.string .empty] 8 (World.laidAll_os _ _ _)
      (World.shaped_of_ZipB (by kernel_rfl) (by kernel_rfl)) (by kernel_rfl) (by kernel_rfl) (by kernel_rfl)
      (by rw [MakeChecks.laidMetH_plain _ _ _ (by kernel_rfl)]; exact laidMet_laidAll _ (by kernel_rfl) (by kernel_rfl))) ?_
  intro W base args ds gs before hval0 hW hcnd _ hL _
  have hval : ∀ (j : Nat) t v, Tryd.f8.params[j]? = some t → args[j]? = some v → Value.okWide Tryd.prog W .any base t v := hval0
  have hW' := hW
  obtain ⟨p, q, hA0, hV, rfl, hfz, hnd⟩ := hW
  have hA1 : DataW.TrodAll enc Tryd.prog W 0 (fun _ => true) true Tryd.f8.params.toList args.toList ds p := hA0
  have hA := hA1
  rw [Tryd.params8] at hA hval
  obtain ⟨v0, d0, rfl, rfl, h0⟩ := trodAll_one hA
  obtain ⟨rfl, rfl⟩ := trodVars_none hV
  refine (dirSplits_calls (hval 0 9 v0 rfl rfl) hL).mono fun e W' ⟨he, hw⟩ => ?_
  subst he
  simp only [List.append_nil] at hW' ⊢
  exact ⟨_, rfl, post_true (bt := 4) Tryd.kids Tryd.full (by rw [Tryd.params8]; decide) (by kernel_rfl) (by kernel_rfl) rfl rfl hW' hA1 rfl rfl rfl hw⟩

end Go.Proofs.YtmadjdgipfdnkaaDoor
end
section
/- DirSplits: whatever the path, the law gives true. (Its card: the table of math/bits is as the program's text lays it.) -/
namespace Go.Proofs.YtmadjdgipfdnkaaDoor
open Go.ChangeShapes Go.WideShapes Go.ChangeAt Go.RowKit Go.AM
theorem dirSplits_inPlace : (Rows.dirSplitsRow.inPlace == Tryd.prog.inPlace 8) = true := by kernel_rfl
theorem dirSplits_unfollowed : (Rows.dirSplitsRow.unfollowed == Tryd.prog.unfollowed 8) = true := by kernel_rfl
theorem dirSplits_recurses : (Rows.dirSplitsRow.recurses == Tryd.prog.recurses 8) = true := by kernel_rfl
theorem dirSplits_named : (Rows.dirSplitsRow.named == Tryd.prog.varsNamed 8) = true := by kernel_rfl
theorem dirSplits_joined : joinedFacts Tryd.prog 8 Tryd.f8 Rows.dirSplitsSpec Rows.dirSplitsRow = true := by
  simp only [joinedFacts, Bool.and_eq_true]
  exact ⟨⟨⟨⟨⟨⟨⟨⟨⟨⟨⟨⟨⟨⟨⟨⟨⟨⟨⟨⟨⟨⟨⟨⟨⟨⟨⟨⟨⟨⟨⟨by kernel_rfl, Tryd.laidOut⟩, Tryd.mapsRowed⟩, by kernel_rfl⟩, by kernel_rfl⟩, by kernel_rfl⟩, by kernel_rfl⟩, by kernel_rfl⟩, by kernel_rfl⟩, dirSplits_inPlace⟩, dirSplits_unfollowed⟩, dirSplits_recurses⟩, dirSplits_named⟩, by kernel_rfl⟩, by kernel_rfl⟩, by kernel_rfl⟩, by kernel_rfl⟩, by kernel_rfl⟩, by kernel_rfl⟩, by kernel_rfl⟩, by kernel_rfl⟩, by kernel_rfl⟩, Tryd.plainKeys⟩, by kernel_rfl⟩, Tryd.stopsHeard⟩, Tryd.mayEnter⟩, Tryd.lifted⟩, Tryd.make⟩, by kernel_rfl⟩, by kernel_rfl⟩, by kernel_rfl⟩, by kernel_rfl⟩
theorem dirSplits_holds : Rows.DirSplitsSaid :=
  OpenClaim.holds_of_wide 8 Tryd.f8 rfl rfl rfl rfl rfl rfl rfl ⟨rfl, rfl, rfl, rfl, rfl⟩ rfl rfl rfl rfl rfl (by kernel_rfl) Tryd.func8 dirSplits_joined
    (of_decide_eq_true (by kernel_rfl)) (by unfold Func.isWrapper; first | (rw [if_pos (by decide +kernel)]; kernel_rfl) | (rw [if_neg (by decide +kernel)]; exact ⟨rfl, rfl⟩))
    (fun os started H enc _ => dirSplits_lifted os started H enc)
end Go.Proofs.YtmadjdgipfdnkaaDoor
end
