/- Lemmas of the claim: the machine of the proof and the walks of the program. Conditions: as each says. -/
import Derived.Test.YtmadjdgipfdnkaaDoorRows
import Derived.Test.YtmadjdgipfdnkaaDoorG4
import Derived.Shelf.Lays
import Derived.Ground.NamesProg
import Derived.Test.YtmadjdgipfdnkaaDoorG3
import Derived.Lib.TrailingZeros
section
/- What all proofs of this seat share: the program's own facts, the machine, the table. -/
namespace Go.Proofs.YtmadjdgipfdnkaaDoor
open Go.ChangeShapes Go.WideShapes Go.ChangeAt Go.RowKit Go.AM

theorem Tryd.own : ownKnob Tryd.prog.godebug = none := by kernel_rfl
theorem Tryd.kids : Kids Tryd.prog (· < Tryd.prog.types.size) := kids_rows (by kernel_rfl) (by kernel_rfl)
theorem Tryd.full : ∀ t e, t < Tryd.prog.types.size → Tryd.prog.underlying t = some (.slice e) → 0 < Tryd.prog.cellsOf e := slices_full_of Tryd.prog (by kernel_rfl)
noncomputable abbrev noSp : Special := fun _ => none
def tab : List Int := [0, 1, 56, 2, 57, 49, 28, 3, 61, 58, 42, 50, 38, 29, 17, 4, 62, 47, 59, 36, 45, 43, 51, 22, 53, 39, 33, 30, 24, 18, 12, 5, 63, 55, 48, 27, 60, 41, 37, 16, 46, 35, 44, 21, 52, 32, 23, 11, 54, 26, 40, 15, 34, 20, 31, 10, 25, 14, 19, 9, 13, 8, 7, 6]
theorem tab_laid {W : World} (hL : laidMetH Tryd.prog [("math/bits.deBruijn64tab", Rows.laid_math_bits_deBruijn64tab)] W) :
    ∃ cs el fr, W.heap[0]? = some (.cells cs el fr) ∧ cs.size = 64 ∧ ∀ i, i < 64 → cs[i]? = (tab.map (Value.int .u8))[i]? := by
  rw [MakeChecks.laidMetH_plain _ _ _ (by kernel_rfl)] at hL
  exact laid_table (g := 0) (k := .u8) (bs := tab) (t := 141) (e := 5) hL (by kernel_rfl) (by kernel_rfl) (by kernel_rfl) (by kernel_rfl) (by kernel_rfl) (by kernel_rfl) rfl
noncomputable abbrev H0 : Heap := listHeap (doorL 0 .u8 tab ++ [])
noncomputable abbrev sp15 : Special := oneSpec 17 (trueF 0 .u8 tab)
end Go.Proofs.YtmadjdgipfdnkaaDoor
end
section
/- Facts of the types of the program that Tryd names, for rewriting. No condition. -/
namespace Go.Proofs.YtmadjdgipfdnkaaDoor
open Go.AM Go
theorem tyA_1 : tyA Tryd.prog 1 = some false := by kernel_rfl
theorem siz_1 : sizeOf? Tryd.prog 1 = some 1 := by kernel_rfl
theorem tag_1 : tyTag Tryd.prog 1 = 7 := by kernel_rfl
theorem zer_1 : zeroL Tryd.prog 1 = some ([.nilFunc]) := by kernel_rfl
theorem nob_1 : bldT Tryd.prog 1 = false := by kernel_rfl
theorem tyA_2 : tyA Tryd.prog 2 = some false := by kernel_rfl
theorem siz_2 : sizeOf? Tryd.prog 2 = some 1 := by kernel_rfl
theorem tag_2 : tyTag Tryd.prog 2 = 9 := by kernel_rfl
theorem intK_2 : intK Tryd.prog 2 = some .i64 := by kernel_rfl
theorem zer_2 : zeroL Tryd.prog 2 = some ([.int .i64 0]) := by kernel_rfl
theorem nob_2 : bldT Tryd.prog 2 = false := by kernel_rfl
theorem tyA_3 : tyA Tryd.prog 3 = some false := by kernel_rfl
theorem siz_3 : sizeOf? Tryd.prog 3 = some 1 := by kernel_rfl
theorem tag_3 : tyTag Tryd.prog 3 = 9 := by kernel_rfl
theorem intK_3 : intK Tryd.prog 3 = some .i64 := by kernel_rfl
theorem zer_3 : zeroL Tryd.prog 3 = some ([.int .i64 0]) := by kernel_rfl
theorem nob_3 : bldT Tryd.prog 3 = false := by kernel_rfl
theorem tyA_4 : tyA Tryd.prog 4 = some false := by kernel_rfl
theorem siz_4 : sizeOf? Tryd.prog 4 = some 1 := by kernel_rfl
theorem tag_4 : tyTag Tryd.prog 4 = 1 := by kernel_rfl
theorem zer_4 : zeroL Tryd.prog 4 = some ([.bool false]) := by kernel_rfl
theorem nob_4 : bldT Tryd.prog 4 = false := by kernel_rfl
theorem tyA_5 : tyA Tryd.prog 5 = some false := by kernel_rfl
theorem siz_5 : sizeOf? Tryd.prog 5 = some 1 := by kernel_rfl
theorem tag_5 : tyTag Tryd.prog 5 = 9 := by kernel_rfl
theorem intK_5 : intK Tryd.prog 5 = some .u8 := by kernel_rfl
theorem zer_5 : zeroL Tryd.prog 5 = some ([.int .u8 0]) := by kernel_rfl
theorem nob_5 : bldT Tryd.prog 5 = false := by kernel_rfl
theorem tyA_9 : tyA Tryd.prog 9 = some false := by kernel_rfl
theorem siz_9 : sizeOf? Tryd.prog 9 = some 1 := by kernel_rfl
theorem tag_9 : tyTag Tryd.prog 9 = 3 := by kernel_rfl
theorem zer_9 : zeroL Tryd.prog 9 = some ([.string .empty]) := by kernel_rfl
theorem nob_9 : bldT Tryd.prog 9 = false := by kernel_rfl
theorem tyA_20 : tyA Tryd.prog 20 = some false := by kernel_rfl
theorem siz_20 : sizeOf? Tryd.prog 20 = some 1 := by kernel_rfl
theorem tag_20 : tyTag Tryd.prog 20 = 8 := by kernel_rfl
theorem zer_20 : zeroL Tryd.prog 20 = some ([.nilIface]) := by kernel_rfl
theorem nob_20 : bldT Tryd.prog 20 = false := by kernel_rfl
theorem tyA_21 : tyA Tryd.prog 21 = some false := by kernel_rfl
theorem siz_21 : sizeOf? Tryd.prog 21 = some 1 := by kernel_rfl
theorem tag_21 : tyTag Tryd.prog 21 = 9 := by kernel_rfl
theorem intK_21 : intK Tryd.prog 21 = some .i32 := by kernel_rfl
theorem zer_21 : zeroL Tryd.prog 21 = some ([.int .i32 0]) := by kernel_rfl
theorem nob_21 : bldT Tryd.prog 21 = false := by kernel_rfl
theorem tyA_22 : tyA Tryd.prog 22 = some false := by kernel_rfl
theorem siz_22 : sizeOf? Tryd.prog 22 = some 1 := by kernel_rfl
theorem tag_22 : tyTag Tryd.prog 22 = 4 := by kernel_rfl
theorem slc_22 : slcOf Tryd.prog 22 = some 5 := by kernel_rfl
theorem mk_22 : mkOf Tryd.prog 22 = some ([.int .i64 0, .int .i64 0, .int .i64 0, .int .i64 0, .string .empty], 5, 54) := by kernel_rfl
theorem zer_22 : zeroL Tryd.prog 22 = some ([.slice none 0 0]) := by kernel_rfl
theorem nob_22 : bldT Tryd.prog 22 = false := by kernel_rfl
theorem tyA_23 : tyA Tryd.prog 23 = some false := by kernel_rfl
theorem siz_23 : sizeOf? Tryd.prog 23 = some 1 := by kernel_rfl
theorem tag_23 : tyTag Tryd.prog 23 = 2 := by kernel_rfl
theorem zer_23 : zeroL Tryd.prog 23 = some ([.pointer none]) := by kernel_rfl
theorem nob_23 : bldT Tryd.prog 23 = false := by kernel_rfl
theorem tyA_24 : tyA Tryd.prog 24 = some false := by kernel_rfl
theorem siz_24 : sizeOf? Tryd.prog 24 = some 1 := by kernel_rfl
theorem tag_24 : tyTag Tryd.prog 24 = 2 := by kernel_rfl
theorem zer_24 : zeroL Tryd.prog 24 = some ([.pointer none]) := by kernel_rfl
theorem nob_24 : bldT Tryd.prog 24 = false := by kernel_rfl
theorem tyA_27 : tyA Tryd.prog 27 = some true := by kernel_rfl
theorem siz_27 : sizeOf? Tryd.prog 27 = some 3 := by kernel_rfl
theorem tag_27 : tyTag Tryd.prog 27 = 9 := by kernel_rfl
theorem arr_27 : arrOf Tryd.prog 27 = some (3, some false, 1) := by kernel_rfl
theorem sarr_27 : sarrOf Tryd.prog 27 = some (3, 1) := by kernel_rfl
theorem zer_27 : zeroL Tryd.prog 27 = some ([.int .i64 0, .int .i64 0, .int .i64 0]) := by kernel_rfl
theorem nob_27 : bldT Tryd.prog 27 = false := by kernel_rfl
theorem tyA_28 : tyA Tryd.prog 28 = some true := by kernel_rfl
theorem siz_28 : sizeOf? Tryd.prog 28 = some 3 := by kernel_rfl
theorem tag_28 : tyTag Tryd.prog 28 = 9 := by kernel_rfl
theorem arr_28 : arrOf Tryd.prog 28 = some (3, some false, 1) := by kernel_rfl
theorem sarr_28 : sarrOf Tryd.prog 28 = some (3, 1) := by kernel_rfl
theorem zer_28 : zeroL Tryd.prog 28 = some ([.string .empty, .string .empty, .string .empty]) := by kernel_rfl
theorem nob_28 : bldT Tryd.prog 28 = false := by kernel_rfl
theorem tyA_29 : tyA Tryd.prog 29 = some false := by kernel_rfl
theorem siz_29 : sizeOf? Tryd.prog 29 = some 1 := by kernel_rfl
theorem tag_29 : tyTag Tryd.prog 29 = 9 := by kernel_rfl
theorem intK_29 : intK Tryd.prog 29 = some .i64 := by kernel_rfl
theorem zer_29 : zeroL Tryd.prog 29 = some ([.int .i64 0]) := by kernel_rfl
theorem nob_29 : bldT Tryd.prog 29 = false := by kernel_rfl
theorem tyA_33 : tyA Tryd.prog 33 = some true := by kernel_rfl
theorem siz_33 : sizeOf? Tryd.prog 33 = some 5 := by kernel_rfl
theorem tag_33 : tyTag Tryd.prog 33 = 9 := by kernel_rfl
theorem zer_33 : zeroL Tryd.prog 33 = some ([.int .i64 0, .int .i64 0, .int .i64 0, .int .i64 0, .string .empty]) := by kernel_rfl
theorem nob_33 : bldT Tryd.prog 33 = false := by kernel_rfl
theorem fld_33_0 : fldOf Tryd.prog 33 0 = some (0, some false, 1) := by kernel_rfl
theorem fld_33_1 : fldOf Tryd.prog 33 1 = some (1, some false, 1) := by kernel_rfl
theorem fld_33_2 : fldOf Tryd.prog 33 2 = some (2, some false, 1) := by kernel_rfl
theorem fld_33_3 : fldOf Tryd.prog 33 3 = some (3, some false, 1) := by kernel_rfl
theorem fld_33_4 : fldOf Tryd.prog 33 4 = some (4, some false, 1) := by kernel_rfl
theorem tyA_34 : tyA Tryd.prog 34 = some false := by kernel_rfl
theorem siz_34 : sizeOf? Tryd.prog 34 = some 1 := by kernel_rfl
theorem tag_34 : tyTag Tryd.prog 34 = 5 := by kernel_rfl
theorem slc_34 : slcOf Tryd.prog 34 = some 1 := by kernel_rfl
theorem mk_34 : mkOf Tryd.prog 34 = some ([.int .u8 0], 1, 3) := by kernel_rfl
theorem zer_34 : zeroL Tryd.prog 34 = some ([.slice none 0 0]) := by kernel_rfl
theorem nob_34 : bldT Tryd.prog 34 = false := by kernel_rfl
theorem tyA_41 : tyA Tryd.prog 41 = some true := by kernel_rfl
theorem siz_41 : sizeOf? Tryd.prog 41 = some 6 := by kernel_rfl
theorem tag_41 : tyTag Tryd.prog 41 = 9 := by kernel_rfl
theorem arr_41 : arrOf Tryd.prog 41 = some (6, some false, 1) := by kernel_rfl
theorem sarr_41 : sarrOf Tryd.prog 41 = some (6, 1) := by kernel_rfl
theorem zer_41 : zeroL Tryd.prog 41 = some ([.int .i64 0, .int .i64 0, .int .i64 0, .int .i64 0, .int .i64 0, .int .i64 0]) := by kernel_rfl
theorem nob_41 : bldT Tryd.prog 41 = false := by kernel_rfl
theorem tyA_43 : tyA Tryd.prog 43 = some true := by kernel_rfl
theorem siz_43 : sizeOf? Tryd.prog 43 = some 9 := by kernel_rfl
theorem tag_43 : tyTag Tryd.prog 43 = 9 := by kernel_rfl
theorem zer_43 : zeroL Tryd.prog 43 = some ([.int .i64 0, .int .i64 0, .int .i64 0, .int .i64 0, .int .i64 0, .int .i64 0, .int .i64 0, .int .i64 0, .int .i64 0]) := by kernel_rfl
theorem nob_43 : bldT Tryd.prog 43 = false := by kernel_rfl
theorem fld_43_0 : fldOf Tryd.prog 43 0 = some (0, some false, 1) := by kernel_rfl
theorem fld_43_1 : fldOf Tryd.prog 43 1 = some (1, some false, 1) := by kernel_rfl
theorem fld_43_2 : fldOf Tryd.prog 43 2 = some (2, some false, 1) := by kernel_rfl
theorem fld_43_3 : fldOf Tryd.prog 43 3 = some (3, some true, 6) := by kernel_rfl
theorem tyA_50 : tyA Tryd.prog 50 = some false := by kernel_rfl
theorem siz_50 : sizeOf? Tryd.prog 50 = some 1 := by kernel_rfl
theorem tag_50 : tyTag Tryd.prog 50 = 4 := by kernel_rfl
theorem slc_50 : slcOf Tryd.prog 50 = some 1 := by kernel_rfl
theorem mk_50 : mkOf Tryd.prog 50 = some ([.int .i64 0], 1, 10) := by kernel_rfl
theorem zer_50 : zeroL Tryd.prog 50 = some ([.slice none 0 0]) := by kernel_rfl
theorem nob_50 : bldT Tryd.prog 50 = false := by kernel_rfl
theorem tyA_53 : tyA Tryd.prog 53 = some true := by kernel_rfl
theorem siz_53 : sizeOf? Tryd.prog 53 = some 100 := by kernel_rfl
theorem tag_53 : tyTag Tryd.prog 53 = 9 := by kernel_rfl
theorem arr_53 : arrOf Tryd.prog 53 = some (100, some false, 1) := by kernel_rfl
theorem sarr_53 : sarrOf Tryd.prog 53 = some (100, 1) := by kernel_rfl
theorem zer_53 : zeroL Tryd.prog 53 = some (repeatL ([.bool false]) 100) := by kernel_rfl
theorem nob_53 : bldT Tryd.prog 53 = false := by kernel_rfl
theorem tyA_56 : tyA Tryd.prog 56 = some false := by kernel_rfl
theorem siz_56 : sizeOf? Tryd.prog 56 = some 1 := by kernel_rfl
theorem tag_56 : tyTag Tryd.prog 56 = 4 := by kernel_rfl
theorem slc_56 : slcOf Tryd.prog 56 = some 1 := by kernel_rfl
theorem mk_56 : mkOf Tryd.prog 56 = some ([.string .empty], 1, 18) := by kernel_rfl
theorem zer_56 : zeroL Tryd.prog 56 = some ([.slice none 0 0]) := by kernel_rfl
theorem nob_56 : bldT Tryd.prog 56 = false := by kernel_rfl
theorem tyA_75 : tyA Tryd.prog 75 = some false := by kernel_rfl
theorem siz_75 : sizeOf? Tryd.prog 75 = some 1 := by kernel_rfl
theorem tag_75 : tyTag Tryd.prog 75 = 8 := by kernel_rfl
theorem zer_75 : zeroL Tryd.prog 75 = some ([.nilIface]) := by kernel_rfl
theorem nob_75 : bldT Tryd.prog 75 = false := by kernel_rfl
theorem tyA_76 : tyA Tryd.prog 76 = some false := by kernel_rfl
theorem siz_76 : sizeOf? Tryd.prog 76 = some 1 := by kernel_rfl
theorem tag_76 : tyTag Tryd.prog 76 = 2 := by kernel_rfl
theorem zer_76 : zeroL Tryd.prog 76 = some ([.pointer none]) := by kernel_rfl
theorem nob_76 : bldT Tryd.prog 76 = false := by kernel_rfl
theorem tyA_81 : tyA Tryd.prog 81 = some false := by kernel_rfl
theorem siz_81 : sizeOf? Tryd.prog 81 = some 1 := by kernel_rfl
theorem tag_81 : tyTag Tryd.prog 81 = 4 := by kernel_rfl
theorem slc_81 : slcOf Tryd.prog 81 = some 1 := by kernel_rfl
theorem mk_81 : mkOf Tryd.prog 81 = some ([.int .u64 0], 1, 10) := by kernel_rfl
theorem zer_81 : zeroL Tryd.prog 81 = some ([.slice none 0 0]) := by kernel_rfl
theorem nob_81 : bldT Tryd.prog 81 = false := by kernel_rfl
theorem tyA_84 : tyA Tryd.prog 84 = some false := by kernel_rfl
theorem siz_84 : sizeOf? Tryd.prog 84 = some 1 := by kernel_rfl
theorem tag_84 : tyTag Tryd.prog 84 = 9 := by kernel_rfl
theorem intK_84 : intK Tryd.prog 84 = some .u64 := by kernel_rfl
theorem zer_84 : zeroL Tryd.prog 84 = some ([.int .u64 0]) := by kernel_rfl
theorem nob_84 : bldT Tryd.prog 84 = false := by kernel_rfl
theorem tyA_85 : tyA Tryd.prog 85 = some false := by kernel_rfl
theorem siz_85 : sizeOf? Tryd.prog 85 = some 1 := by kernel_rfl
theorem tag_85 : tyTag Tryd.prog 85 = 7 := by kernel_rfl
theorem zer_85 : zeroL Tryd.prog 85 = some ([.nilFunc]) := by kernel_rfl
theorem nob_85 : bldT Tryd.prog 85 = false := by kernel_rfl
theorem tyA_88 : tyA Tryd.prog 88 = some false := by kernel_rfl
theorem siz_88 : sizeOf? Tryd.prog 88 = some 1 := by kernel_rfl
theorem tag_88 : tyTag Tryd.prog 88 = 7 := by kernel_rfl
theorem zer_88 : zeroL Tryd.prog 88 = some ([.nilFunc]) := by kernel_rfl
theorem nob_88 : bldT Tryd.prog 88 = false := by kernel_rfl
theorem tyA_93 : tyA Tryd.prog 93 = some false := by kernel_rfl
theorem siz_93 : sizeOf? Tryd.prog 93 = some 1 := by kernel_rfl
theorem tag_93 : tyTag Tryd.prog 93 = 4 := by kernel_rfl
theorem slc_93 : slcOf Tryd.prog 93 = some 2 := by kernel_rfl
theorem mk_93 : mkOf Tryd.prog 93 = some ([.string .empty, .int .i64 0], 2, 27) := by kernel_rfl
theorem zer_93 : zeroL Tryd.prog 93 = some ([.slice none 0 0]) := by kernel_rfl
theorem nob_93 : bldT Tryd.prog 93 = false := by kernel_rfl
theorem tyA_99 : tyA Tryd.prog 99 = some true := by kernel_rfl
theorem siz_99 : sizeOf? Tryd.prog 99 = some 2 := by kernel_rfl
theorem tag_99 : tyTag Tryd.prog 99 = 9 := by kernel_rfl
theorem zer_99 : zeroL Tryd.prog 99 = some ([.string .empty, .int .i64 0]) := by kernel_rfl
theorem nob_99 : bldT Tryd.prog 99 = false := by kernel_rfl
theorem fld_99_0 : fldOf Tryd.prog 99 0 = some (0, some false, 1) := by kernel_rfl
theorem fld_99_1 : fldOf Tryd.prog 99 1 = some (1, some false, 1) := by kernel_rfl
theorem tyA_102 : tyA Tryd.prog 102 = some true := by kernel_rfl
theorem siz_102 : sizeOf? Tryd.prog 102 = some 4 := by kernel_rfl
theorem tag_102 : tyTag Tryd.prog 102 = 9 := by kernel_rfl
theorem zer_102 : zeroL Tryd.prog 102 = some ([.int .i64 0, .slice none 0 0, .int .i64 0, .int .i64 0]) := by kernel_rfl
theorem nob_102 : bldT Tryd.prog 102 = false := by kernel_rfl
theorem fld_102_0 : fldOf Tryd.prog 102 0 = some (0, some false, 1) := by kernel_rfl
theorem fld_102_1 : fldOf Tryd.prog 102 1 = some (1, some false, 1) := by kernel_rfl
theorem fld_102_2 : fldOf Tryd.prog 102 2 = some (2, some false, 1) := by kernel_rfl
theorem fld_102_3 : fldOf Tryd.prog 102 3 = some (3, some false, 1) := by kernel_rfl
theorem tyA_103 : tyA Tryd.prog 103 = some false := by kernel_rfl
theorem siz_103 : sizeOf? Tryd.prog 103 = some 1 := by kernel_rfl
theorem tag_103 : tyTag Tryd.prog 103 = 4 := by kernel_rfl
theorem slc_103 : slcOf Tryd.prog 103 = some 1 := by kernel_rfl
theorem mk_103 : mkOf Tryd.prog 103 = some ([.slice none 0 0], 1, 26) := by kernel_rfl
theorem zer_103 : zeroL Tryd.prog 103 = some ([.slice none 0 0]) := by kernel_rfl
theorem nob_103 : bldT Tryd.prog 103 = false := by kernel_rfl
theorem tyA_105 : tyA Tryd.prog 105 = some true := by kernel_rfl
theorem siz_105 : sizeOf? Tryd.prog 105 = some 3 := by kernel_rfl
theorem tag_105 : tyTag Tryd.prog 105 = 9 := by kernel_rfl
theorem zer_105 : zeroL Tryd.prog 105 = some ([.slice none 0 0, .int .i64 0, .int .i64 0]) := by kernel_rfl
theorem nob_105 : bldT Tryd.prog 105 = false := by kernel_rfl
theorem fld_105_0 : fldOf Tryd.prog 105 0 = some (0, some false, 1) := by kernel_rfl
theorem fld_105_1 : fldOf Tryd.prog 105 1 = some (1, some false, 1) := by kernel_rfl
theorem fld_105_2 : fldOf Tryd.prog 105 2 = some (2, some false, 1) := by kernel_rfl
theorem tyA_110 : tyA Tryd.prog 110 = some false := by kernel_rfl
theorem siz_110 : sizeOf? Tryd.prog 110 = some 1 := by kernel_rfl
theorem tag_110 : tyTag Tryd.prog 110 = 7 := by kernel_rfl
theorem zer_110 : zeroL Tryd.prog 110 = some ([.nilFunc]) := by kernel_rfl
theorem nob_110 : bldT Tryd.prog 110 = false := by kernel_rfl
theorem tyA_111 : tyA Tryd.prog 111 = some false := by kernel_rfl
theorem siz_111 : sizeOf? Tryd.prog 111 = some 1 := by kernel_rfl
theorem tag_111 : tyTag Tryd.prog 111 = 9 := by kernel_rfl
theorem intK_111 : intK Tryd.prog 111 = some .u64 := by kernel_rfl
theorem zer_111 : zeroL Tryd.prog 111 = some ([.int .u64 0]) := by kernel_rfl
theorem nob_111 : bldT Tryd.prog 111 = false := by kernel_rfl
theorem tyA_112 : tyA Tryd.prog 112 = some false := by kernel_rfl
theorem siz_112 : sizeOf? Tryd.prog 112 = some 1 := by kernel_rfl
theorem tag_112 : tyTag Tryd.prog 112 = 4 := by kernel_rfl
theorem slc_112 : slcOf Tryd.prog 112 = some 1 := by kernel_rfl
theorem mk_112 : mkOf Tryd.prog 112 = some ([.int .u64 0], 1, 10) := by kernel_rfl
theorem zer_112 : zeroL Tryd.prog 112 = some ([.slice none 0 0]) := by kernel_rfl
theorem nob_112 : bldT Tryd.prog 112 = false := by kernel_rfl
theorem tyA_114 : tyA Tryd.prog 114 = some true := by kernel_rfl
theorem siz_114 : sizeOf? Tryd.prog 114 = some 2 := by kernel_rfl
theorem tag_114 : tyTag Tryd.prog 114 = 9 := by kernel_rfl
theorem zer_114 : zeroL Tryd.prog 114 = some ([.int .i64 0, .slice none 0 0]) := by kernel_rfl
theorem nob_114 : bldT Tryd.prog 114 = false := by kernel_rfl
theorem fld_114_0 : fldOf Tryd.prog 114 0 = some (0, some false, 1) := by kernel_rfl
theorem fld_114_1 : fldOf Tryd.prog 114 1 = some (1, some false, 1) := by kernel_rfl
theorem tyA_122 : tyA Tryd.prog 122 = some false := by kernel_rfl
theorem siz_122 : sizeOf? Tryd.prog 122 = some 1 := by kernel_rfl
theorem tag_122 : tyTag Tryd.prog 122 = 2 := by kernel_rfl
theorem zer_122 : zeroL Tryd.prog 122 = some ([.pointer none]) := by kernel_rfl
theorem nob_122 : bldT Tryd.prog 122 = false := by kernel_rfl
theorem tyA_124 : tyA Tryd.prog 124 = some true := by kernel_rfl
theorem siz_124 : sizeOf? Tryd.prog 124 = some 2 := by kernel_rfl
theorem tag_124 : tyTag Tryd.prog 124 = 9 := by kernel_rfl
theorem zer_124 : zeroL Tryd.prog 124 = some ([.pointer none, .slice none 0 0]) := by kernel_rfl
theorem fld_124_0 : fldOf Tryd.prog 124 0 = some (0, some false, 1) := by kernel_rfl
theorem fld_124_1 : fldOf Tryd.prog 124 1 = some (1, some false, 1) := by kernel_rfl
theorem tyA_126 : tyA Tryd.prog 126 = some false := by kernel_rfl
theorem siz_126 : sizeOf? Tryd.prog 126 = some 1 := by kernel_rfl
theorem tag_126 : tyTag Tryd.prog 126 = 8 := by kernel_rfl
theorem zer_126 : zeroL Tryd.prog 126 = some ([.nilIface]) := by kernel_rfl
theorem nob_126 : bldT Tryd.prog 126 = false := by kernel_rfl
theorem tyA_134 : tyA Tryd.prog 134 = some false := by kernel_rfl
theorem siz_134 : sizeOf? Tryd.prog 134 = some 1 := by kernel_rfl
theorem tag_134 : tyTag Tryd.prog 134 = 9 := by kernel_rfl
theorem intK_134 : intK Tryd.prog 134 = some .u64 := by kernel_rfl
theorem zer_134 : zeroL Tryd.prog 134 = some ([.int .u64 0]) := by kernel_rfl
theorem nob_134 : bldT Tryd.prog 134 = false := by kernel_rfl
theorem tyA_138 : tyA Tryd.prog 138 = some false := by kernel_rfl
theorem siz_138 : sizeOf? Tryd.prog 138 = some 1 := by kernel_rfl
theorem tag_138 : tyTag Tryd.prog 138 = 2 := by kernel_rfl
theorem zer_138 : zeroL Tryd.prog 138 = some ([.pointer none]) := by kernel_rfl
theorem nob_138 : bldT Tryd.prog 138 = false := by kernel_rfl
theorem tyA_141 : tyA Tryd.prog 141 = some true := by kernel_rfl
theorem siz_141 : sizeOf? Tryd.prog 141 = some 64 := by kernel_rfl
theorem tag_141 : tyTag Tryd.prog 141 = 9 := by kernel_rfl
theorem arr_141 : arrOf Tryd.prog 141 = some (64, some false, 1) := by kernel_rfl
theorem sarr_141 : sarrOf Tryd.prog 141 = some (64, 1) := by kernel_rfl
theorem zer_141 : zeroL Tryd.prog 141 = some (repeatL ([.int .u8 0]) 64) := by kernel_rfl
theorem nob_141 : bldT Tryd.prog 141 = false := by kernel_rfl
theorem tyA_144 : tyA Tryd.prog 144 = some false := by kernel_rfl
theorem siz_144 : sizeOf? Tryd.prog 144 = some 1 := by kernel_rfl
theorem tag_144 : tyTag Tryd.prog 144 = 9 := by kernel_rfl
theorem intK_144 : intK Tryd.prog 144 = some .u32 := by kernel_rfl
theorem zer_144 : zeroL Tryd.prog 144 = some ([.int .u32 0]) := by kernel_rfl
theorem nob_144 : bldT Tryd.prog 144 = false := by kernel_rfl
theorem bld_41 : bldOf Tryd.prog 41 = some ([.int .i64 0, .int .i64 0, .int .i64 0, .int .i64 0, .int .i64 0, .int .i64 0], [(0, 1), (1, 1), (2, 1), (3, 1), (4, 1), (5, 1)]) := by kernel_rfl
theorem build_41 (parts : List (Nat × Value)) : aBuild Tryd.prog 41 parts = if parts.all (fun x => Nat.blt x.1 6) = true then fillL (fun i => [(0, 1), (1, 1), (2, 1), (3, 1), (4, 1), (5, 1)][i]?) ([.int .i64 0, .int .i64 0, .int .i64 0, .int .i64 0, .int .i64 0, .int .i64 0]) parts else aBuildO Tryd.prog 41 parts := u_build' bld_41 parts
theorem bld_43 : bldOf Tryd.prog 43 = some ([.int .i64 0, .int .i64 0, .int .i64 0, .int .i64 0, .int .i64 0, .int .i64 0, .int .i64 0, .int .i64 0, .int .i64 0], [(0, 1), (1, 1), (2, 1), (3, 6)]) := by kernel_rfl
theorem build_43 (parts : List (Nat × Value)) : aBuild Tryd.prog 43 parts = if parts.all (fun x => Nat.blt x.1 4) = true then fillL (fun i => [(0, 1), (1, 1), (2, 1), (3, 6)][i]?) ([.int .i64 0, .int .i64 0, .int .i64 0, .int .i64 0, .int .i64 0, .int .i64 0, .int .i64 0, .int .i64 0, .int .i64 0]) parts else aBuildO Tryd.prog 43 parts := u_build' bld_43 parts
theorem bld_99 : bldOf Tryd.prog 99 = some ([.string .empty, .int .i64 0], [(0, 1), (1, 1)]) := by kernel_rfl
theorem build_99 (parts : List (Nat × Value)) : aBuild Tryd.prog 99 parts = if parts.all (fun x => Nat.blt x.1 2) = true then fillL (fun i => [(0, 1), (1, 1)][i]?) ([.string .empty, .int .i64 0]) parts else aBuildO Tryd.prog 99 parts := u_build' bld_99 parts
theorem bld_102 : bldOf Tryd.prog 102 = some ([.int .i64 0, .slice none 0 0, .int .i64 0, .int .i64 0], [(0, 1), (1, 1), (2, 1), (3, 1)]) := by kernel_rfl
theorem build_102 (parts : List (Nat × Value)) : aBuild Tryd.prog 102 parts = if parts.all (fun x => Nat.blt x.1 4) = true then fillL (fun i => [(0, 1), (1, 1), (2, 1), (3, 1)][i]?) ([.int .i64 0, .slice none 0 0, .int .i64 0, .int .i64 0]) parts else aBuildO Tryd.prog 102 parts := u_build' bld_102 parts
theorem bld_105 : bldOf Tryd.prog 105 = some ([.slice none 0 0, .int .i64 0, .int .i64 0], [(0, 1), (1, 1), (2, 1)]) := by kernel_rfl
theorem build_105 (parts : List (Nat × Value)) : aBuild Tryd.prog 105 parts = if parts.all (fun x => Nat.blt x.1 3) = true then fillL (fun i => [(0, 1), (1, 1), (2, 1)][i]?) ([.slice none 0 0, .int .i64 0, .int .i64 0]) parts else aBuildO Tryd.prog 105 parts := u_build' bld_105 parts
theorem bld_114 : bldOf Tryd.prog 114 = some ([.int .i64 0, .slice none 0 0], [(0, 1), (1, 1)]) := by kernel_rfl
theorem build_114 (parts : List (Nat × Value)) : aBuild Tryd.prog 114 parts = if parts.all (fun x => Nat.blt x.1 2) = true then fillL (fun i => [(0, 1), (1, 1)][i]?) ([.int .i64 0, .slice none 0 0]) parts else aBuildO Tryd.prog 114 parts := u_build' bld_114 parts
theorem bld_141 : bldOf Tryd.prog 141 = some (repeatL ([.int .u8 0]) 64, [(0, 1), (1, 1), (2, 1), (3, 1), (4, 1), (5, 1), (6, 1), (7, 1), (8, 1), (9, 1), (10, 1), (11, 1), (12, 1), (13, 1), (14, 1), (15, 1), (16, 1), (17, 1), (18, 1), (19, 1), (20, 1), (21, 1), (22, 1), (23, 1), (24, 1), (25, 1), (26, 1), (27, 1), (28, 1), (29, 1), (30, 1), (31, 1), (32, 1), (33, 1), (34, 1), (35, 1), (36, 1), (37, 1), (38, 1), (39, 1), (40, 1), (41, 1), (42, 1), (43, 1), (44, 1), (45, 1), (46, 1), (47, 1), (48, 1), (49, 1), (50, 1), (51, 1), (52, 1), (53, 1), (54, 1), (55, 1), (56, 1), (57, 1), (58, 1), (59, 1), (60, 1), (61, 1), (62, 1), (63, 1)]) := by kernel_rfl
theorem build_141 (parts : List (Nat × Value)) : aBuild Tryd.prog 141 parts = if parts.all (fun x => Nat.blt x.1 64) = true then fillL (fun i => [(0, 1), (1, 1), (2, 1), (3, 1), (4, 1), (5, 1), (6, 1), (7, 1), (8, 1), (9, 1), (10, 1), (11, 1), (12, 1), (13, 1), (14, 1), (15, 1), (16, 1), (17, 1), (18, 1), (19, 1), (20, 1), (21, 1), (22, 1), (23, 1), (24, 1), (25, 1), (26, 1), (27, 1), (28, 1), (29, 1), (30, 1), (31, 1), (32, 1), (33, 1), (34, 1), (35, 1), (36, 1), (37, 1), (38, 1), (39, 1), (40, 1), (41, 1), (42, 1), (43, 1), (44, 1), (45, 1), (46, 1), (47, 1), (48, 1), (49, 1), (50, 1), (51, 1), (52, 1), (53, 1), (54, 1), (55, 1), (56, 1), (57, 1), (58, 1), (59, 1), (60, 1), (61, 1), (62, 1), (63, 1)][i]?) (repeatL ([.int .u8 0]) 64) parts else aBuildO Tryd.prog 141 parts := u_build' bld_141 parts
theorem app_50_50 : appT Tryd.prog #[50, 50] = some ([.int .i64 0], 1, 10) := by kernel_rfl
theorem app_56_56 : appT Tryd.prog #[56, 56] = some ([.string .empty], 1, 18) := by kernel_rfl
theorem app_81_81 : appT Tryd.prog #[81, 81] = some ([.int .u64 0], 1, 10) := by kernel_rfl
theorem app_93_93 : appT Tryd.prog #[93, 93] = some ([.string .empty, .int .i64 0], 2, 27) := by kernel_rfl
theorem app_103_103 : appT Tryd.prog #[103, 103] = some ([.slice none 0 0], 1, 26) := by kernel_rfl
theorem tf0 : type_of% (And.intro (And.intro (And.intro (And.intro (And.intro (@tyA_1) (And.intro (@siz_1) (@tag_1))) (And.intro (And.intro (@zer_1) (@nob_1)) (And.intro (@tyA_2) (@siz_2)))) (And.intro (And.intro (And.intro (@tag_2) (@intK_2)) (And.intro (@zer_2) (@nob_2))) (And.intro (And.intro (@tyA_3) (@siz_3)) (And.intro (@tag_3) (@intK_3))))) (And.intro (And.intro (And.intro (@zer_3) (And.intro (@nob_3) (@tyA_4))) (And.intro (And.intro (@siz_4) (@tag_4)) (And.intro (@zer_4) (@nob_4)))) (And.intro (And.intro (And.intro (@tyA_5) (@siz_5)) (And.intro (@tag_5) (@intK_5))) (And.intro (And.intro (@zer_5) (@nob_5)) (And.intro (@tyA_9) (@siz_9)))))) (And.intro (And.intro (And.intro (And.intro (@tag_9) (And.intro (@zer_9) (@nob_9))) (And.intro (And.intro (@tyA_20) (@siz_20)) (And.intro (@tag_20) (@zer_20)))) (And.intro (And.intro (And.intro (@nob_20) (@tyA_21)) (And.intro (@siz_21) (@tag_21))) (And.intro (And.intro (@intK_21) (@zer_21)) (And.intro (@nob_21) (@tyA_22))))) (And.intro (And.intro (And.intro (@siz_22) (And.intro (@tag_22) (@slc_22))) (And.intro (And.intro (@mk_22) (@zer_22)) (And.intro (@nob_22) (@tyA_23)))) (And.intro (And.intro (And.intro (@siz_23) (@tag_23)) (And.intro (@zer_23) (@nob_23))) (And.intro (And.intro (@tyA_24) (@siz_24)) (And.intro (@tag_24) (@zer_24))))))) := And.intro (And.intro (And.intro (And.intro (And.intro (@tyA_1) (And.intro (@siz_1) (@tag_1))) (And.intro (And.intro (@zer_1) (@nob_1)) (And.intro (@tyA_2) (@siz_2)))) (And.intro (And.intro (And.intro (@tag_2) (@intK_2)) (And.intro (@zer_2) (@nob_2))) (And.intro (And.intro (@tyA_3) (@siz_3)) (And.intro (@tag_3) (@intK_3))))) (And.intro (And.intro (And.intro (@zer_3) (And.intro (@nob_3) (@tyA_4))) (And.intro (And.intro (@siz_4) (@tag_4)) (And.intro (@zer_4) (@nob_4)))) (And.intro (And.intro (And.intro (@tyA_5) (@siz_5)) (And.intro (@tag_5) (@intK_5))) (And.intro (And.intro (@zer_5) (@nob_5)) (And.intro (@tyA_9) (@siz_9)))))) (And.intro (And.intro (And.intro (And.intro (@tag_9) (And.intro (@zer_9) (@nob_9))) (And.intro (And.intro (@tyA_20) (@siz_20)) (And.intro (@tag_20) (@zer_20)))) (And.intro (And.intro (And.intro (@nob_20) (@tyA_21)) (And.intro (@siz_21) (@tag_21))) (And.intro (And.intro (@intK_21) (@zer_21)) (And.intro (@nob_21) (@tyA_22))))) (And.intro (And.intro (And.intro (@siz_22) (And.intro (@tag_22) (@slc_22))) (And.intro (And.intro (@mk_22) (@zer_22)) (And.intro (@nob_22) (@tyA_23)))) (And.intro (And.intro (And.intro (@siz_23) (@tag_23)) (And.intro (@zer_23) (@nob_23))) (And.intro (And.intro (@tyA_24) (@siz_24)) (And.intro (@tag_24) (@zer_24))))))
theorem tf1 : type_of% (And.intro (And.intro (And.intro (And.intro (And.intro (@nob_24) (And.intro (@tyA_27) (@siz_27))) (And.intro (And.intro (@tag_27) (@arr_27)) (And.intro (@sarr_27) (@zer_27)))) (And.intro (And.intro (And.intro (@nob_27) (@tyA_28)) (And.intro (@siz_28) (@tag_28))) (And.intro (And.intro (@arr_28) (@sarr_28)) (And.intro (@zer_28) (@nob_28))))) (And.intro (And.intro (And.intro (@tyA_29) (And.intro (@siz_29) (@tag_29))) (And.intro (And.intro (@intK_29) (@zer_29)) (And.intro (@nob_29) (@tyA_33)))) (And.intro (And.intro (And.intro (@siz_33) (@tag_33)) (And.intro (@zer_33) (@nob_33))) (And.intro (And.intro (@fld_33_0) (@fld_33_1)) (And.intro (@fld_33_2) (@fld_33_3)))))) (And.intro (And.intro (And.intro (And.intro (@fld_33_4) (And.intro (@tyA_34) (@siz_34))) (And.intro (And.intro (@tag_34) (@slc_34)) (And.intro (@mk_34) (@zer_34)))) (And.intro (And.intro (And.intro (@nob_34) (@tyA_41)) (And.intro (@siz_41) (@tag_41))) (And.intro (And.intro (@arr_41) (@sarr_41)) (And.intro (@zer_41) (@nob_41))))) (And.intro (And.intro (And.intro (@tyA_43) (And.intro (@siz_43) (@tag_43))) (And.intro (And.intro (@zer_43) (@nob_43)) (And.intro (@fld_43_0) (@fld_43_1)))) (And.intro (And.intro (And.intro (@fld_43_2) (@fld_43_3)) (And.intro (@tyA_50) (@siz_50))) (And.intro (And.intro (@tag_50) (@slc_50)) (And.intro (@mk_50) (@zer_50))))))) := And.intro (And.intro (And.intro (And.intro (And.intro (@nob_24) (And.intro (@tyA_27) (@siz_27))) (And.intro (And.intro (@tag_27) (@arr_27)) (And.intro (@sarr_27) (@zer_27)))) (And.intro (And.intro (And.intro (@nob_27) (@tyA_28)) (And.intro (@siz_28) (@tag_28))) (And.intro (And.intro (@arr_28) (@sarr_28)) (And.intro (@zer_28) (@nob_28))))) (And.intro (And.intro (And.intro (@tyA_29) (And.intro (@siz_29) (@tag_29))) (And.intro (And.intro (@intK_29) (@zer_29)) (And.intro (@nob_29) (@tyA_33)))) (And.intro (And.intro (And.intro (@siz_33) (@tag_33)) (And.intro (@zer_33) (@nob_33))) (And.intro (And.intro (@fld_33_0) (@fld_33_1)) (And.intro (@fld_33_2) (@fld_33_3)))))) (And.intro (And.intro (And.intro (And.intro (@fld_33_4) (And.intro (@tyA_34) (@siz_34))) (And.intro (And.intro (@tag_34) (@slc_34)) (And.intro (@mk_34) (@zer_34)))) (And.intro (And.intro (And.intro (@nob_34) (@tyA_41)) (And.intro (@siz_41) (@tag_41))) (And.intro (And.intro (@arr_41) (@sarr_41)) (And.intro (@zer_41) (@nob_41))))) (And.intro (And.intro (And.intro (@tyA_43) (And.intro (@siz_43) (@tag_43))) (And.intro (And.intro (@zer_43) (@nob_43)) (And.intro (@fld_43_0) (@fld_43_1)))) (And.intro (And.intro (And.intro (@fld_43_2) (@fld_43_3)) (And.intro (@tyA_50) (@siz_50))) (And.intro (And.intro (@tag_50) (@slc_50)) (And.intro (@mk_50) (@zer_50))))))
theorem tf2 : type_of% (And.intro (And.intro (And.intro (And.intro (And.intro (@nob_50) (And.intro (@tyA_53) (@siz_53))) (And.intro (And.intro (@tag_53) (@arr_53)) (And.intro (@sarr_53) (@zer_53)))) (And.intro (And.intro (And.intro (@nob_53) (@tyA_56)) (And.intro (@siz_56) (@tag_56))) (And.intro (And.intro (@slc_56) (@mk_56)) (And.intro (@zer_56) (@nob_56))))) (And.intro (And.intro (And.intro (@tyA_75) (And.intro (@siz_75) (@tag_75))) (And.intro (And.intro (@zer_75) (@nob_75)) (And.intro (@tyA_76) (@siz_76)))) (And.intro (And.intro (And.intro (@tag_76) (@zer_76)) (And.intro (@nob_76) (@tyA_81))) (And.intro (And.intro (@siz_81) (@tag_81)) (And.intro (@slc_81) (@mk_81)))))) (And.intro (And.intro (And.intro (And.intro (@zer_81) (And.intro (@nob_81) (@tyA_84))) (And.intro (And.intro (@siz_84) (@tag_84)) (And.intro (@intK_84) (@zer_84)))) (And.intro (And.intro (And.intro (@nob_84) (@tyA_85)) (And.intro (@siz_85) (@tag_85))) (And.intro (And.intro (@zer_85) (@nob_85)) (And.intro (@tyA_88) (@siz_88))))) (And.intro (And.intro (And.intro (@tag_88) (And.intro (@zer_88) (@nob_88))) (And.intro (And.intro (@tyA_93) (@siz_93)) (And.intro (@tag_93) (@slc_93)))) (And.intro (And.intro (And.intro (@mk_93) (@zer_93)) (And.intro (@nob_93) (@tyA_99))) (And.intro (And.intro (@siz_99) (@tag_99)) (And.intro (@zer_99) (@nob_99))))))) := And.intro (And.intro (And.intro (And.intro (And.intro (@nob_50) (And.intro (@tyA_53) (@siz_53))) (And.intro (And.intro (@tag_53) (@arr_53)) (And.intro (@sarr_53) (@zer_53)))) (And.intro (And.intro (And.intro (@nob_53) (@tyA_56)) (And.intro (@siz_56) (@tag_56))) (And.intro (And.intro (@slc_56) (@mk_56)) (And.intro (@zer_56) (@nob_56))))) (And.intro (And.intro (And.intro (@tyA_75) (And.intro (@siz_75) (@tag_75))) (And.intro (And.intro (@zer_75) (@nob_75)) (And.intro (@tyA_76) (@siz_76)))) (And.intro (And.intro (And.intro (@tag_76) (@zer_76)) (And.intro (@nob_76) (@tyA_81))) (And.intro (And.intro (@siz_81) (@tag_81)) (And.intro (@slc_81) (@mk_81)))))) (And.intro (And.intro (And.intro (And.intro (@zer_81) (And.intro (@nob_81) (@tyA_84))) (And.intro (And.intro (@siz_84) (@tag_84)) (And.intro (@intK_84) (@zer_84)))) (And.intro (And.intro (And.intro (@nob_84) (@tyA_85)) (And.intro (@siz_85) (@tag_85))) (And.intro (And.intro (@zer_85) (@nob_85)) (And.intro (@tyA_88) (@siz_88))))) (And.intro (And.intro (And.intro (@tag_88) (And.intro (@zer_88) (@nob_88))) (And.intro (And.intro (@tyA_93) (@siz_93)) (And.intro (@tag_93) (@slc_93)))) (And.intro (And.intro (And.intro (@mk_93) (@zer_93)) (And.intro (@nob_93) (@tyA_99))) (And.intro (And.intro (@siz_99) (@tag_99)) (And.intro (@zer_99) (@nob_99))))))
theorem tf3 : type_of% (And.intro (And.intro (And.intro (And.intro (And.intro (@fld_99_0) (And.intro (@fld_99_1) (@tyA_102))) (And.intro (And.intro (@siz_102) (@tag_102)) (And.intro (@zer_102) (@nob_102)))) (And.intro (And.intro (And.intro (@fld_102_0) (@fld_102_1)) (And.intro (@fld_102_2) (@fld_102_3))) (And.intro (And.intro (@tyA_103) (@siz_103)) (And.intro (@tag_103) (@slc_103))))) (And.intro (And.intro (And.intro (@mk_103) (And.intro (@zer_103) (@nob_103))) (And.intro (And.intro (@tyA_105) (@siz_105)) (And.intro (@tag_105) (@zer_105)))) (And.intro (And.intro (And.intro (@nob_105) (@fld_105_0)) (And.intro (@fld_105_1) (@fld_105_2))) (And.intro (And.intro (@tyA_110) (@siz_110)) (And.intro (@tag_110) (@zer_110)))))) (And.intro (And.intro (And.intro (And.intro (@nob_110) (And.intro (@tyA_111) (@siz_111))) (And.intro (And.intro (@tag_111) (@intK_111)) (And.intro (@zer_111) (@nob_111)))) (And.intro (And.intro (And.intro (@tyA_112) (@siz_112)) (And.intro (@tag_112) (@slc_112))) (And.intro (And.intro (@mk_112) (@zer_112)) (And.intro (@nob_112) (@tyA_114))))) (And.intro (And.intro (And.intro (@siz_114) (And.intro (@tag_114) (@zer_114))) (And.intro (And.intro (@nob_114) (@fld_114_0)) (And.intro (@fld_114_1) (@tyA_122)))) (And.intro (And.intro (And.intro (@siz_122) (@tag_122)) (And.intro (@zer_122) (@nob_122))) (And.intro (And.intro (@tyA_124) (@siz_124)) (And.intro (@tag_124) (@zer_124))))))) := And.intro (And.intro (And.intro (And.intro (And.intro (@fld_99_0) (And.intro (@fld_99_1) (@tyA_102))) (And.intro (And.intro (@siz_102) (@tag_102)) (And.intro (@zer_102) (@nob_102)))) (And.intro (And.intro (And.intro (@fld_102_0) (@fld_102_1)) (And.intro (@fld_102_2) (@fld_102_3))) (And.intro (And.intro (@tyA_103) (@siz_103)) (And.intro (@tag_103) (@slc_103))))) (And.intro (And.intro (And.intro (@mk_103) (And.intro (@zer_103) (@nob_103))) (And.intro (And.intro (@tyA_105) (@siz_105)) (And.intro (@tag_105) (@zer_105)))) (And.intro (And.intro (And.intro (@nob_105) (@fld_105_0)) (And.intro (@fld_105_1) (@fld_105_2))) (And.intro (And.intro (@tyA_110) (@siz_110)) (And.intro (@tag_110) (@zer_110)))))) (And.intro (And.intro (And.intro (And.intro (@nob_110) (And.intro (@tyA_111) (@siz_111))) (And.intro (And.intro (@tag_111) (@intK_111)) (And.intro (@zer_111) (@nob_111)))) (And.intro (And.intro (And.intro (@tyA_112) (@siz_112)) (And.intro (@tag_112) (@slc_112))) (And.intro (And.intro (@mk_112) (@zer_112)) (And.intro (@nob_112) (@tyA_114))))) (And.intro (And.intro (And.intro (@siz_114) (And.intro (@tag_114) (@zer_114))) (And.intro (And.intro (@nob_114) (@fld_114_0)) (And.intro (@fld_114_1) (@tyA_122)))) (And.intro (And.intro (And.intro (@siz_122) (@tag_122)) (And.intro (@zer_122) (@nob_122))) (And.intro (And.intro (@tyA_124) (@siz_124)) (And.intro (@tag_124) (@zer_124))))))
theorem tf4 : type_of% (And.intro (And.intro (And.intro (And.intro (And.intro (@fld_124_0) (@fld_124_1)) (And.intro (@tyA_126) (And.intro (@siz_126) (@tag_126)))) (And.intro (And.intro (@zer_126) (@nob_126)) (And.intro (@tyA_134) (And.intro (@siz_134) (@tag_134))))) (And.intro (And.intro (And.intro (@intK_134) (@zer_134)) (And.intro (@nob_134) (And.intro (@tyA_138) (@siz_138)))) (And.intro (And.intro (@tag_138) (And.intro (@zer_138) (@nob_138))) (And.intro (@tyA_141) (And.intro (@siz_141) (@tag_141)))))) (And.intro (And.intro (And.intro (And.intro (@arr_141) (@sarr_141)) (And.intro (@zer_141) (And.intro (@nob_141) (@tyA_144)))) (And.intro (And.intro (@siz_144) (And.intro (@tag_144) (@intK_144))) (And.intro (@zer_144) (And.intro (@nob_144) (@build_41))))) (And.intro (And.intro (And.intro (@build_43) (@build_99)) (And.intro (@build_102) (And.intro (@build_105) (@build_114)))) (And.intro (And.intro (@build_141) (And.intro (@app_50_50) (@app_56_56))) (And.intro (@app_81_81) (And.intro (@app_93_93) (@app_103_103))))))) := And.intro (And.intro (And.intro (And.intro (And.intro (@fld_124_0) (@fld_124_1)) (And.intro (@tyA_126) (And.intro (@siz_126) (@tag_126)))) (And.intro (And.intro (@zer_126) (@nob_126)) (And.intro (@tyA_134) (And.intro (@siz_134) (@tag_134))))) (And.intro (And.intro (And.intro (@intK_134) (@zer_134)) (And.intro (@nob_134) (And.intro (@tyA_138) (@siz_138)))) (And.intro (And.intro (@tag_138) (And.intro (@zer_138) (@nob_138))) (And.intro (@tyA_141) (And.intro (@siz_141) (@tag_141)))))) (And.intro (And.intro (And.intro (And.intro (@arr_141) (@sarr_141)) (And.intro (@zer_141) (And.intro (@nob_141) (@tyA_144)))) (And.intro (And.intro (@siz_144) (And.intro (@tag_144) (@intK_144))) (And.intro (@zer_144) (And.intro (@nob_144) (@build_41))))) (And.intro (And.intro (And.intro (@build_43) (@build_99)) (And.intro (@build_102) (And.intro (@build_105) (@build_114)))) (And.intro (And.intro (@build_141) (And.intro (@app_50_50) (@app_56_56))) (And.intro (@app_81_81) (And.intro (@app_93_93) (@app_103_103))))))
end Go.Proofs.YtmadjdgipfdnkaaDoor
end
section
/- Paths: the error of a part, texts one by one. Conditions: as each rule says. -/
namespace Go.Proofs.YtmadjdgipfdnkaaDoor
open Go.AM
open Nat renaming reduceBEq → Za, reduceEqDiff → Zb, reduceAdd → Zc, reduceSub → Zd, reduceMul → Ze, reduceLT → Zf, reduceLeDiff → Zg, reduceDiv → Zh, reduceMod → Zi, reducePow → Zj
open Int renaming reduceAdd → Zk, reduceSub → Zl, reduceMul → Zm, reduceLT → Zn, reduceLE → Zo, reduceEq → Zp, reduceNe → Zq, reduceNeg → Zr, reduceToNat → Zs, reduceDiv → Zt, reduceMod → Zu, reducePow → Zv, cast_ofNat_Int → Zw
set_option linter.unusedSimpArgs false
variable {sp : Special} {h : Heap} {R : Out → Heap → Prop}
def chk (l : List UInt8) : Int := if 8 < l.length then 36 else if 0 ∈ l then 22 else 0
theorem no0 {l : List UInt8} {p : Nat} (h : ∀ j, j < p → l[j]? ≠ some 0) (hp : l.length ≤ p) : ¬ (0 : UInt8) ∈ l := fun hm => by
  obtain ⟨j, hj⟩ := List.mem_iff_getElem?.1 hm
  have := (List.getElem?_eq_some_iff.1 hj).1
  exact h j (by omega) hj
set_option maxRecDepth 100000 in
theorem check_spec (hsp : (sp 45).isNone = true) {l : List UInt8} (hR : ∀ h', h.nx ≤ h'.nx → (∀ b, b < h.nx → h'.get b = h.get b) → R (.ret (.int .i64 (chk l))) h') : WF Tryd.prog 1 sp 45 [.string (mkS l)] h R := by
  refine wf_fn (fn := Tryd.f45) hsp rfl (by kernel_rfl) rfl ?_
  by_cases c1 : 8 < l.length
  · have c1' : (8 : Int) < (l.length : Int) := by omega
    simp only [↓reduceIte, reduceCtorEq, Za, Zb, Zc, Zd, Ze, Zf, Zg, Zh, Zi, Zj, Zk, Zl, Zm, Zn, Zo, Zp, Zq, Zr, Zs, Zt, Zu, Zv, gval, Zw, rb0, rb1, rb2, rb3, rb4, tf0, tf1, tf2, tf3, tf4, Yk, Tryd.f45, mkS_size, c1']
    have := hR h (Nat.le_refl _) fun _ _ => rfl
    unfold chk at this
    rw [if_pos c1] at this
    exact this
  have c1' : ¬ (8 : Int) < (l.length : Int) := by omega
  simp only [↓reduceIte, reduceCtorEq, Za, Zb, Zc, Zd, Ze, Zf, Zg, Zh, Zi, Zj, Zk, Zl, Zm, Zn, Zo, Zp, Zq, Zr, Zs, Zt, Zu, Zv, gval, Zw, rb0, rb1, rb2, rb3, rb4, tf0, tf1, tf2, tf3, tf4, Yk, Tryd.f45, mkS_size, c1', u_rangeS (show Tryd.prog.underlying 9 = some .string from by kernel_rfl)]
  refine run_loop2 rfl (fun N e h' => ∃ p, N = l.length - p ∧ (∀ j, j < p → l[j]? ≠ some 0) ∧ e.at 9 = .pointer (some ⟨h.nx, 0, none⟩) ∧ h'.get h.nx = some (.str (mkS l) p) ∧ h'.nx = h.nx + 1 ∧ ∀ b, b < h.nx → h'.get b = h.get b)
    (fun ex e h' => (ex = .ret ∧ e.at 2 = .int .i64 22 ∧ (0 : UInt8) ∈ l ∨ ex = .exit 0 ∧ ¬ (0 : UInt8) ∈ l) ∧ h.nx ≤ h'.nx ∧ ∀ b, b < h.nx → h'.get b = h.get b) ?_ (l.length - 0) _ _ ?_ ?_
  · rintro N e h' ⟨p, rfl, hz, e9, g, hn, hk⟩ Q' hQn hQx
    by_cases hp : p < l.length
    · obtain ⟨b, hb⟩ : ∃ b, l[p]? = some b := ⟨_, List.getElem?_eq_getElem hp⟩
      obtain ⟨c, w, hd, hc, hw, hk1, hk2⟩ := dec_any hb
      have hbz : b.toNat = 0 ↔ b = 0 := by rw [← UInt8.toNat_inj]; rfl
      by_cases c2 : b = 0
      · have c2' : (c : Int) = 0 := by have := (hk1 0 (by omega)).2 (hbz.2 c2); omega
        simp only [↓reduceIte, reduceCtorEq, Za, Zb, Zc, Zd, Ze, Zf, Zg, Zh, Zi, Zj, Zk, Zl, Zm, Zn, Zo, Zp, Zq, Zr, Zs, Zt, Zu, Zv, gval, Zw, rb0, rb1, rb2, rb3, rb4, tf0, tf1, tf2, tf3, tf4, Yk, e9, u_nextS g (by rw [mkS_size]; exact hp) hd, c2']
        exact hQx _ _ _ (by simp) ⟨.inl ⟨rfl, by simp only [Za, Zw, Ye], List.mem_of_getElem? (c2 ▸ hb)⟩, by simp (disch := (first | omega | rfl | (simp only [Yn]; omega))) only [Yh, Yc]; omega, fun b hb => by simp (disch := (first | omega | rfl | (simp only [Yn]; omega))) only [Yh, Yc]; exact hk b hb⟩
      · have c2' : ¬ (c : Int) = 0 := fun e => c2 (hbz.1 ((hk1 0 (by omega)).1 (by omega)))
        simp only [↓reduceIte, reduceCtorEq, Za, Zb, Zc, Zd, Ze, Zf, Zg, Zh, Zi, Zj, Zk, Zl, Zm, Zn, Zo, Zp, Zq, Zr, Zs, Zt, Zu, Zv, gval, Zw, rb0, rb1, rb2, rb3, rb4, tf0, tf1, tf2, tf3, tf4, Yk, e9, u_nextS g (by rw [mkS_size]; exact hp) hd, c2']
        refine hQn _ _ _ (by omega) ⟨p + w, rfl, fun j hj => ?_, by simp only [Za, Zw, Ye, e9], by simp (disch := (first | omega | rfl | (simp only [Yn]; omega))) only [Yh, Yc], by simp (disch := (first | omega | rfl | (simp only [Yn]; omega))) only [Yh, Yc]; exact hn, fun b hb => by simp (disch := (first | omega | rfl | (simp only [Yn]; omega))) only [Yh, Yc]; exact hk b hb⟩
        rcases Nat.lt_trichotomy j p with q | q | q
        · exact hz j q
        · rw [q, hb]; exact fun e => c2 (Option.some.inj e)
        · obtain ⟨d, q1, q2⟩ := hk2 j q hj
          rw [q1]; intro e; cases Option.some.inj e; exact absurd q2 (by decide)
    · simp only [↓reduceIte, reduceCtorEq, Za, Zb, Zc, Zd, Ze, Zf, Zg, Zh, Zi, Zj, Zk, Zl, Zm, Zn, Zo, Zp, Zq, Zr, Zs, Zt, Zu, Zv, gval, Zw, rb0, rb1, rb2, rb3, rb4, tf0, tf1, tf2, tf3, tf4, Yk, e9, u_nextE g (by rw [mkS_size]; exact hp)]
      exact hQx _ _ _ (by simp) ⟨.inr ⟨rfl, no0 hz (by omega)⟩, by omega, hk⟩
  · exact ⟨0, rfl, fun _ h => absurd h (Nat.not_lt_zero _), by simp only [Za, Zw, Ye], by simp (disch := (first | omega | rfl | (simp only [Yn]; omega))) only [Yh, Yc], by rw [Heap.nx_new], fun b hb => by rw [Heap.get_new_ne _ _ (by omega)]⟩
  · rintro ex e h' - ⟨⟨rfl, e2, hm⟩ | ⟨rfl, hm⟩, hn, hk⟩
    · simp only [↓reduceIte, reduceCtorEq, Za, Zb, Zc, Zd, Ze, Zf, Zg, Zh, Zi, Zj, Zk, Zl, Zm, Zn, Zo, Zp, Zq, Zr, Zs, Zt, Zu, Zv, gval, Zw, rb0, rb1, rb2, rb3, rb4, tf0, tf1, tf2, tf3, tf4, Yk, e2]
      have := hR h' hn hk
      unfold chk at this
      rw [if_neg c1, if_pos hm] at this
      exact this
    · simp only [↓reduceIte, reduceCtorEq, Za, Zb, Zc, Zd, Ze, Zf, Zg, Zh, Zi, Zj, Zk, Zl, Zm, Zn, Zo, Zp, Zq, Zr, Zs, Zt, Zu, Zv, gval, Zw, rb0, rb1, rb2, rb3, rb4, tf0, tf1, tf2, tf3, tf4, Yk]
      have := hR h' hn hk
      unfold chk at this
      rw [if_neg c1, if_neg hm] at this
      exact this
set_option maxRecDepth 100000 in
theorem part_spec (hsp : (sp 46).isNone = true) {l : List UInt8} (hR : R (.ret (.int .i64 (chk l))) h) : WF Tryd.prog 1 sp 46 [.string (mkS l)] h R := by
  refine wf_fn (fn := Tryd.f46) hsp rfl (by kernel_rfl) rfl ?_
  unfold chk at hR
  by_cases c1 : 8 < l.length
  · have c1' : (8 : Int) < (l.length : Int) := by omega
    simp only [↓reduceIte, reduceCtorEq, Za, Zb, Zc, Zd, Ze, Zf, Zg, Zh, Zi, Zj, Zk, Zl, Zm, Zn, Zo, Zp, Zq, Zr, Zs, Zt, Zu, Zv, gval, Zw, rb0, rb1, rb2, rb3, rb4, tf0, tf1, tf2, tf3, tf4, Yk, Tryd.f46, mkS_size, c1']
    rw [if_pos c1] at hR
    exact hR
  have c1' : ¬ (8 : Int) < (l.length : Int) := by omega
  rw [if_neg c1] at hR
  simp only [↓reduceIte, reduceCtorEq, Za, Zb, Zc, Zd, Ze, Zf, Zg, Zh, Zi, Zj, Zk, Zl, Zm, Zn, Zo, Zp, Zq, Zr, Zs, Zt, Zu, Zv, gval, Zw, rb0, rb1, rb2, rb3, rb4, tf0, tf1, tf2, tf3, tf4, Yk, Tryd.f46, mkS_size, c1']
  refine run_loop2 rfl (fun N e h' => ∃ p : Nat, N = l.length - p ∧ p ≤ l.length ∧ (∀ j, j < p → l[j]? ≠ some 0) ∧ e.at 0 = .string (mkS l) ∧ e.at 3 = .int .i64 p ∧ h' = h)
    (fun ex e h' => (ex = .ret ∧ e.at 2 = .int .i64 22 ∧ (0 : UInt8) ∈ l ∨ ex = .exit 0 ∧ ¬ (0 : UInt8) ∈ l) ∧ h' = h) ?_ (l.length - 0) _ _ ?_ ?_
  · rintro N e h' ⟨p, rfl, hpl, hz, e0, e3, rfl⟩ Q' hQn hQx
    by_cases hp : p < l.length
    · obtain ⟨b, hb⟩ : ∃ b, l[p]? = some b := ⟨_, List.getElem?_eq_getElem hp⟩
      have hbz : b.toNat = 0 ↔ b = 0 := by rw [← UInt8.toNat_inj]; rfl
      have hp' : (p : Int) < (l.length : Int) := by omega
      have wp : wrapF .i64 ((p : Int) + 1) = ((p + 1 : Nat) : Int) := by rw [wrapI (by omega) (by omega)]; omega
      by_cases c2 : b = 0
      · have c2' : (b.toNat : Int) = 0 := by have := hbz.2 c2; omega
        simp only [↓reduceIte, reduceCtorEq, Za, Zb, Zc, Zd, Ze, Zf, Zg, Zh, Zi, Zj, Zk, Zl, Zm, Zn, Zo, Zp, Zq, Zr, Zs, Zt, Zu, Zv, gval, Zw, rb0, rb1, rb2, rb3, rb4, tf0, tf1, tf2, tf3, tf4, Yk, e0, e3, mkS_size, hp', str_index tag_9 hb, c2']
        exact hQx _ _ _ (by simp) ⟨.inl ⟨rfl, by simp only [Za, Zw, Ye], List.mem_of_getElem? (c2 ▸ hb)⟩, rfl⟩
      · have c2' : ¬ (b.toNat : Int) = 0 := fun e => c2 (hbz.1 (by omega))
        simp only [↓reduceIte, reduceCtorEq, Za, Zb, Zc, Zd, Ze, Zf, Zg, Zh, Zi, Zj, Zk, Zl, Zm, Zn, Zo, Zp, Zq, Zr, Zs, Zt, Zu, Zv, gval, Zw, rb0, rb1, rb2, rb3, rb4, tf0, tf1, tf2, tf3, tf4, Yk, e0, e3, mkS_size, hp', str_index tag_9 hb, c2', wp]
        refine hQn _ _ _ (by omega) ⟨p + 1, rfl, by omega, fun j hj => ?_, by simp only [Za, Zw, Ye, e0], by simp only [Za, Zw, Ye], rfl⟩
        rcases Nat.lt_or_ge j p with q | q
        · exact hz j q
        · rw [show j = p by omega, hb]; exact fun e => c2 (Option.some.inj e)
    · have hp' : ¬ (p : Int) < (l.length : Int) := by omega
      simp only [↓reduceIte, reduceCtorEq, Za, Zb, Zc, Zd, Ze, Zf, Zg, Zh, Zi, Zj, Zk, Zl, Zm, Zn, Zo, Zp, Zq, Zr, Zs, Zt, Zu, Zv, gval, Zw, rb0, rb1, rb2, rb3, rb4, tf0, tf1, tf2, tf3, tf4, Yk, e0, e3, mkS_size, hp']
      exact hQx _ _ _ (by simp) ⟨.inr ⟨rfl, no0 hz (by omega)⟩, rfl⟩
  · exact ⟨0, rfl, by omega, fun _ h => absurd h (Nat.not_lt_zero _), by simp only [Za, Zw, Ye], by simp only [Za, Zw, Ye], rfl⟩
  · rintro ex e h' - ⟨⟨rfl, e2, hm⟩ | ⟨rfl, hm⟩, rfl⟩
    · simp only [↓reduceIte, reduceCtorEq, Za, Zb, Zc, Zd, Ze, Zf, Zg, Zh, Zi, Zj, Zk, Zl, Zm, Zn, Zo, Zp, Zq, Zr, Zs, Zt, Zu, Zv, gval, Zw, rb0, rb1, rb2, rb3, rb4, tf0, tf1, tf2, tf3, tf4, Yk, e2]
      rw [if_pos hm] at hR
      exact hR
    · simp only [↓reduceIte, reduceCtorEq, Za, Zb, Zc, Zd, Ze, Zf, Zg, Zh, Zi, Zj, Zk, Zl, Zm, Zn, Zo, Zp, Zq, Zr, Zs, Zt, Zu, Zv, gval, Zw, rb0, rb1, rb2, rb3, rb4, tf0, tf1, tf2, tf3, tf4, Yk]
      rw [if_neg hm] at hR
      exact hR
structure TxtAt (h : Heap) (v : Value) (l : List (List UInt8)) : Prop where
  is : (v = .slice none 0 0 ∧ l = []) ∨ ∃ b k, v = .slice (some ⟨b, 0, none⟩) l.length l.length ∧ h.get b = some (cellsB (strs l) k)
theorem TxtAt.of {lo : Nat} {v : Value} {l : List (List UInt8)} (x : RowG h lo 1 v l.length (strs l)) : TxtAt h v l := by
  rcases x.is with ⟨h1, h2, h3⟩ | ⟨b, h1, h2, h3, h4⟩
  · exact ⟨.inl ⟨h1, List.length_eq_zero_iff.1 h3⟩⟩
  · exact ⟨.inr ⟨b, _, h3, h4⟩⟩
theorem TxtAt.keep {h' : Heap} {v : Value} {l : List (List UInt8)} (x : TxtAt h v l) (hk : ∀ b ∈ blkOf v, h'.get b = h.get b) : TxtAt h' v l := by
  rcases x.is with h1 | ⟨b, k, rfl, h4⟩
  · exact ⟨.inl h1⟩
  · exact ⟨.inr ⟨b, k, rfl, (hk b (List.mem_singleton.2 rfl)).trans h4⟩⟩
end Go.Proofs.YtmadjdgipfdnkaaDoor
end
section
/- The library's texts in this seat: specials; the fifth layer's awake. -/
namespace Go.Proofs
open Go.Shelf Go.RowKit
def Tryd.laysRepeat_ren : Go.Shelf.Ren := ⟨fun | 105 => 64 | 212 => 74 | 99 => 75 | 165 => 76 | 166 => 63 | 170 => 67 | 169 => 66 | 263 => 80 | 264 => 81 | 206 => 82 | 240 => 73 | 241 => 83 | 276 => 79 | 277 => 88 | n => n, fun | 9 => 9 | 3 => 3 | 4 => 4 | 20 => 20 | 0 => 0 | 46 => 134 | 109 => 136 | 5 => 5 | 72 => 124 | 76 => 127 | 51 => 144 | 146 => 145 | 53 => 84 | 148 => 147 | 70 => 122 | 37 => 34 | 75 => 126 | 127 => 138 | 164 => 142 | 80 => 131 | n => n, fun | n => n⟩
theorem Tryd.laysRepeat : Go.Proofs.Lays.n105 Tryd.prog Tryd.laysRepeat_ren := {
  mixed := by kernel_rfl
  f99 := Tryd.func75.trans (congrArg some (by kernel_rfl))
  f105 := Tryd.func64.trans (congrArg some (by kernel_rfl))
  f165 := Tryd.func76.trans (congrArg some (by kernel_rfl))
  f166 := Tryd.func63.trans (congrArg some (by kernel_rfl))
  f169 := Tryd.func66.trans (congrArg some (by kernel_rfl))
  f170 := Tryd.func67.trans (congrArg some (by kernel_rfl))
  f206 := Tryd.func82.trans (congrArg some (by kernel_rfl))
  f212 := Tryd.func74.trans (congrArg some (by kernel_rfl))
  f240 := Tryd.func73.trans (congrArg some (by kernel_rfl))
  f241 := Tryd.func83.trans (congrArg some (by kernel_rfl))
  f263 := Tryd.func80.trans (congrArg some (by kernel_rfl))
  f264 := Tryd.func81.trans (congrArg some (by kernel_rfl))
  f276 := Tryd.func79.trans (congrArg some (by kernel_rfl))
  f277 := Tryd.func88.trans (congrArg some (by kernel_rfl))
  t0 := Tryd.underlying0
  a0 := Tryd.isAgg0
  z0 := Tryd.sizeOf0
  v0 := Tryd.zeroValue0
  t3 := Tryd.underlying3
  a3 := Tryd.isAgg3
  z3 := Tryd.sizeOf3
  v3 := Tryd.zeroValue3
  t4 := Tryd.underlying4
  a4 := Tryd.isAgg4
  z4 := Tryd.sizeOf4
  v4 := Tryd.zeroValue4
  t5 := Tryd.underlying5
  a5 := Tryd.isAgg5
  z5 := Tryd.sizeOf5
  v5 := Tryd.zeroValue5
  t9 := Tryd.underlying9
  a9 := Tryd.isAgg9
  z9 := Tryd.sizeOf9
  v9 := Tryd.zeroValue9
  t20 := Tryd.underlying20
  a20 := Tryd.isAgg20
  z20 := Tryd.sizeOf20
  v20 := Tryd.zeroValue20
  t37 := Tryd.underlying34
  a37 := Tryd.isAgg34
  z37 := Tryd.sizeOf34
  v37 := Tryd.zeroValue34
  t46 := Tryd.underlying134
  a46 := Tryd.isAgg134
  z46 := Tryd.sizeOf134
  v46 := Tryd.zeroValue134
  t51 := Tryd.underlying144
  a51 := Tryd.isAgg144
  z51 := Tryd.sizeOf144
  v51 := Tryd.zeroValue144
  t53 := Tryd.underlying84
  a53 := Tryd.isAgg84
  z53 := Tryd.sizeOf84
  v53 := Tryd.zeroValue84
  t70 := Tryd.underlying122
  a70 := Tryd.isAgg122
  z70 := Tryd.sizeOf122
  v70 := Tryd.zeroValue122
  t72 := Tryd.underlying124
  a72 := Tryd.isAgg124
  z72 := Tryd.sizeOf124
  v72 := Tryd.zeroValue124
  t75 := Tryd.underlying126
  a75 := Tryd.isAgg126
  z75 := Tryd.sizeOf126
  v75 := Tryd.zeroValue126
  t76 := Tryd.underlying127
  a76 := Tryd.isAgg127
  z76 := Tryd.sizeOf127
  v76 := Tryd.zeroValue127
  t109 := Tryd.underlying136
  a109 := Tryd.isAgg136
  z109 := Tryd.sizeOf136
  v109 := Tryd.zeroValue136
  t127 := Tryd.underlying138
  a127 := Tryd.isAgg138
  z127 := Tryd.sizeOf138
  v127 := Tryd.zeroValue138
  t146 := Tryd.underlying145
  a146 := Tryd.isAgg145
  z146 := Tryd.sizeOf145
  v146 := Tryd.zeroValue145
  t148 := Tryd.underlying147
  a148 := Tryd.isAgg147
  z148 := Tryd.sizeOf147
  v148 := Tryd.zeroValue147
  t164 := Tryd.underlying142
  a164 := Tryd.isAgg142
  z164 := Tryd.sizeOf142
  v164 := Tryd.zeroValue142 }
def Tryd.laysIndex_ren : Go.Shelf.Ren := ⟨fun | 219 => 78 | 217 => 84 | 225 => 85 | 224 => 86 | 267 => 87 | 266 => 89 | 314 => 90 | n => n, fun | 9 => 9 | 3 => 3 | 4 => 4 | 5 => 5 | 46 => 134 | 146 => 145 | 51 => 144 | n => n, fun | 1 => 1 | n => n⟩
theorem Tryd.laysIndex : Go.Proofs.Lays.n219 Tryd.prog Tryd.laysIndex_ren := {
  mixed := by kernel_rfl
  f217 := Tryd.func84.trans (congrArg some (by kernel_rfl))
  f219 := Tryd.func78.trans (congrArg some (by kernel_rfl))
  f224 := Tryd.func86.trans (congrArg some (by kernel_rfl))
  f225 := Tryd.func85.trans (congrArg some (by kernel_rfl))
  f266 := Tryd.func89.trans (congrArg some (by kernel_rfl))
  f267 := Tryd.func87.trans (congrArg some (by kernel_rfl))
  f314 := Tryd.func90.trans (congrArg some (by kernel_rfl))
  t3 := Tryd.underlying3
  a3 := Tryd.isAgg3
  z3 := Tryd.sizeOf3
  v3 := Tryd.zeroValue3
  t4 := Tryd.underlying4
  a4 := Tryd.isAgg4
  z4 := Tryd.sizeOf4
  v4 := Tryd.zeroValue4
  t5 := Tryd.underlying5
  a5 := Tryd.isAgg5
  z5 := Tryd.sizeOf5
  v5 := Tryd.zeroValue5
  t9 := Tryd.underlying9
  a9 := Tryd.isAgg9
  z9 := Tryd.sizeOf9
  v9 := Tryd.zeroValue9
  t46 := Tryd.underlying134
  a46 := Tryd.isAgg134
  z46 := Tryd.sizeOf134
  v46 := Tryd.zeroValue134
  t51 := Tryd.underlying144
  a51 := Tryd.isAgg144
  z51 := Tryd.sizeOf144
  v51 := Tryd.zeroValue144
  t146 := Tryd.underlying145
  a146 := Tryd.isAgg145
  z146 := Tryd.sizeOf145
  v146 := Tryd.zeroValue145
  g1 := by kernel_rfl }
theorem Tryd.exRepeat : Builder.Extra Tryd.prog Tryd.laysRepeat_ren := ⟨⟨by kernel_rfl, by kernel_rfl⟩, Tryd.laysRepeat.t5, Tryd.laysRepeat.a5, Tryd.laysRepeat.z5, Tryd.laysRepeat.v5, by kernel_rfl, by kernel_rfl, by kernel_rfl, by decide⟩
theorem Tryd.laysCopy : Lays.n240 Tryd.prog Tryd.laysRepeat_ren := { Tryd.laysRepeat with }
theorem Tryd.laysString : Lays.n169 Tryd.prog Tryd.laysRepeat_ren := { Tryd.laysRepeat with }
namespace YtmadjdgipfdnkaaDoor
open Go.AM
noncomputable def strSp : Special := orSpec (oneSpec 73 (ccF (Tryd.laysRepeat_ren.t 72))) (orSpec (oneSpec 66 (stF (Tryd.laysRepeat_ren.t 72) (Tryd.laysRepeat_ren.t 5))) (orSpec (oneSpec 64 (pureF repV)) (oneSpec 78 (pureF ixoV))))
theorem strSp_ok : SpecOk Tryd.prog (0 + 1) strSp := by
  refine orSpec_ok (oneSpec_ok fun cl _ => ?_) (orSpec_ok (oneSpec_ok fun cl _ => ?_) (orSpec_ok (oneSpec_ok fun cl _ => ?_) (oneSpec_ok fun cl _ => ?_)))
  · exact ccF_ok Tryd.laysCopy Tryd.exRepeat.toX72 (enters_of Tryd.func73 (by kernel_rfl) rfl) cl
  · exact stF_ok Tryd.laysString Tryd.exRepeat (enters_of Tryd.func66 (by kernel_rfl) rfl) cl
  · exact repF_ok Tryd.laysRepeat Tryd.exRepeat (enters_of Tryd.func64 (by kernel_rfl) rfl) cl
  · exact ixoF_ok Tryd.laysIndex (enters_of Tryd.func78 (by kernel_rfl) rfl) cl
noncomputable abbrev clS : Caller := acall Tryd.prog (0 + 1) strSp 3000 60
theorem clS_ok : CallOk Tryd.prog (0 + 1) clS := acall_ok (by kernel_rfl) strSp_ok 3000 60
end YtmadjdgipfdnkaaDoor
end Go.Proofs
end
section
/- The sixteenth layer's awake gives true: once, then a special. -/
namespace Go.Proofs.YtmadjdgipfdnkaaDoor
open Go.AM
set_option maxRecDepth 100000 in
theorem aw16 : isTrue (clS 25 [] H0) = true := by kernel_rfl
noncomputable abbrev sp16 : Special := orSpec (oneSpec 25 (trueF 0 .u8 tab)) strSp
theorem sp16_ok : SpecOk Tryd.prog (0 + 1) sp16 := orSpec_ok (oneSpec_ok fun cl _ => trueF_ok clS_ok aw16 cl) strSp_ok
theorem aw16_wf {h : Heap} {R : Out → Heap → Prop} (ht : h.get 0 = some (tabBlk .u8 tab)) (hR : R (.ret (.bool true)) h) : WF Tryd.prog 1 sp16 25 [] h R := by
  refine ⟨.ret (.bool true), h, ⟨1, fun fu d h1 h2 => ?_⟩, hR⟩
  obtain ⟨d, rfl⟩ : ∃ k, d = k + 1 := ⟨d - 1, by omega⟩
  show cond (beqB (h.get 0) (some (tabBlk .u8 tab))) (some (Out.ret (.bool true), h)) none = _
  rw [ht]
  have : beqB (some (tabBlk .u8 tab)) (some (tabBlk .u8 tab)) = true := by kernel_rfl
  rw [this]; rfl
end Go.Proofs.YtmadjdgipfdnkaaDoor
end
section
/- Directories: names, texts' pieces. Conditions: as each rule says. -/
namespace Go.Proofs.YtmadjdgipfdnkaaDoor
open Go.AM
open Nat renaming reduceBEq → Za, reduceEqDiff → Zb, reduceAdd → Zc, reduceSub → Zd, reduceMul → Ze, reduceLT → Zf, reduceLeDiff → Zg, reduceDiv → Zh, reduceMod → Zi, reducePow → Zj
open Int renaming reduceAdd → Zk, reduceSub → Zl, reduceMul → Zm, reduceLT → Zn, reduceLE → Zo, reduceEq → Zp, reduceNe → Zq, reduceNeg → Zr, reduceToNat → Zs, reduceDiv → Zt, reduceMod → Zu, reducePow → Zv, cast_ofNat_Int → Zw
set_option linter.unusedSimpArgs false
variable {h : Heap} {R : Out → Heap → Prop}
theorem idxA_tw (c : UInt8) : ∀ (l : List UInt8) (i : Nat), (c ∈ l ∧ idxA l c.toNat i = ((i + (l.takeWhile (· != c)).length : Nat) : Int)) ∨ (¬ c ∈ l ∧ idxA l c.toNat i = -1 ∧ l.takeWhile (· != c) = l)
  | [], i => .inr ⟨by simp, rfl, rfl⟩
  | b :: l, i => by
    have hc : idxA (b :: l) c.toNat i = cond (Nat.beq b.toNat c.toNat) (Int.ofNat i) (idxA l c.toNat (i + 1)) := rfl
    by_cases e : b = c
    · subst e
      refine .inl ⟨List.mem_cons_self, ?_⟩
      rw [hc, Nat.beq_refl]
      simp
    · have e2 : Nat.beq b.toNat c.toNat = false := by
        rw [← Bool.not_eq_true, Nat.beq_eq]
        exact fun q => e (UInt8.toNat_inj.1 q)
      have e3 : (b != c) = true := by simpa using e
      rw [hc, e2, cond_false, List.takeWhile_cons, if_pos e3]
      rcases idxA_tw c l (i + 1) with ⟨h1, h2⟩ | ⟨h1, h2, h3⟩
      · refine .inl ⟨List.mem_cons_of_mem _ h1, ?_⟩
        rw [h2, List.length_cons]; omega
      · refine .inr ⟨fun hm => ?_, h2, by rw [h3]⟩
        rcases List.mem_cons.1 hm with q | q
        · exact e q.symm
        · exact h1 q
theorem tw_take (c : UInt8) : ∀ l : List UInt8, l.take (l.takeWhile (· != c)).length = l.takeWhile (· != c)
  | [] => rfl
  | b :: l => by
    rw [List.takeWhile_cons]
    split
    · rw [List.length_cons, List.take_succ_cons, tw_take c l]
    · rfl
theorem tw_mem {c : UInt8} : ∀ {l : List UInt8}, c ∈ l → (l.takeWhile (· != c)).length < l.length
  | b :: l, hm => by
    rw [List.takeWhile_cons]
    split
    · rename_i hb
      rcases List.mem_cons.1 hm with q | q
      · rw [q] at hb; simp at hb
      · have := tw_mem q
        rw [List.length_cons, List.length_cons]; omega
    · rw [List.length_nil, List.length_cons]; omega
theorem idx_wf {l : List UInt8} {c : UInt8} (hR : R (.ret (.int .i64 (idxA l c.toNat 0))) h) : WF Tryd.prog 1 sp16 78 [.string (mkS l), .string (mkS [c])] h R := by
  refine ⟨_, h, ⟨1, fun fu d h1 h2 => ?_⟩, hR⟩
  obtain ⟨d, rfl⟩ : ∃ k, d = k + 1 := ⟨d - 1, by omega⟩
  rfl
set_option maxRecDepth 100000 in
theorem cut71_wf {l : List UInt8} {c : UInt8} (hl : l.length < 9223372036854775807) (hR : ∀ a f, R (.ret (.tuple #[.string (mkS (l.takeWhile (· != c))), .string (mkS a), .bool f])) h) : WF Tryd.prog 1 sp16 71 [.string (mkS l), .string (mkS [c])] h R := by
  refine wf_fn (fn := Tryd.f71) rfl rfl (by kernel_rfl) rfl ?_
  simp only [↓reduceIte, reduceCtorEq, Za, Zb, Zc, Zd, Ze, Zf, Zg, Zh, Zi, Zj, Zk, Zl, Zm, Zn, Zo, Zp, Zq, Zr, Zs, Zt, Zu, Zv, gval, Zw, rb0, rb1, rb2, rb3, rb4, tf0, tf1, tf2, tf3, tf4, Yk, Tryd.f71]
  refine runC_of (idx_wf ?_)
  rcases idxA_tw c l 0 with ⟨h1, h2⟩ | ⟨h1, h2, h3⟩
  · rw [h2]
    obtain ⟨k, hk⟩ : ∃ k, (l.takeWhile (· != c)).length = k := ⟨_, rfl⟩
    have hkl : k < l.length := hk ▸ tw_mem h1
    have c0 : (0 : Int) ≤ (k : Int) := by omega
    have wk : wrapF .i64 ((k : Int) + 1) = ((k + 1 : Nat) : Int) := by rw [wrapI (by omega) (by omega)]; omega
    rw [hk, Nat.zero_add]
    simp only [↓reduceIte, reduceCtorEq, Za, Zb, Zc, Zd, Ze, Zf, Zg, Zh, Zi, Zj, Zk, Zl, Zm, Zn, Zo, Zp, Zq, Zr, Zs, Zt, Zu, Zv, gval, Zw, rb0, rb1, rb2, rb3, rb4, tf0, tf1, tf2, tf3, tf4, Yk, c0]
    refine run_draw (ps := [(2, 6), (2, 7), (2, 8)]) (by kernel_rfl) (by kernel_rfl) ?_
    simp only [↓reduceIte, reduceCtorEq, Za, Zb, Zc, Zd, Ze, Zf, Zg, Zh, Zi, Zj, Zk, Zl, Zm, Zn, Zo, Zp, Zq, Zr, Zs, Zt, Zu, Zv, gval, Zw, rb0, rb1, rb2, rb3, rb4, tf0, tf1, tf2, tf3, tf4, Yk, mkS_size, wk, str_to tag_9 (Nat.le_of_lt hkl), str_from tag_9 (show k + 1 ≤ l.length from hkl)]
    have := hR (l.drop (k + 1)) true
    rw [← tw_take c l, hk] at this
    exact this
  · rw [h2]
    simp only [↓reduceIte, reduceCtorEq, Za, Zb, Zc, Zd, Ze, Zf, Zg, Zh, Zi, Zj, Zk, Zl, Zm, Zn, Zo, Zp, Zq, Zr, Zs, Zt, Zu, Zv, gval, Zw, rb0, rb1, rb2, rb3, rb4, tf0, tf1, tf2, tf3, tf4, Yk]
    have := hR [] false
    rw [h3] at this
    exact this
set_option maxRecDepth 100000 in
theorem cut_wf {l : List UInt8} {c : UInt8} (hl : l.length < 9223372036854775807) (hR : ∀ a f, R (.ret (.tuple #[.string (mkS (l.takeWhile (· != c))), .string (mkS a), .bool f])) h) : WF Tryd.prog 1 sp16 61 [.string (mkS l), .string (mkS [c])] h R := by
  refine wf_fn (fn := Tryd.f61) rfl rfl (by kernel_rfl) rfl ?_
  simp only [↓reduceIte, reduceCtorEq, Za, Zb, Zc, Zd, Ze, Zf, Zg, Zh, Zi, Zj, Zk, Zl, Zm, Zn, Zo, Zp, Zq, Zr, Zs, Zt, Zu, Zv, gval, Zw, rb0, rb1, rb2, rb3, rb4, tf0, tf1, tf2, tf3, tf4, Yk, Tryd.f61]
  refine runC_of (cut71_wf hl fun a f => ?_)
  simp only [↓reduceIte, reduceCtorEq, Za, Zb, Zc, Zd, Ze, Zf, Zg, Zh, Zi, Zj, Zk, Zl, Zm, Zn, Zo, Zp, Zq, Zr, Zs, Zt, Zu, Zv, gval, Zw, rb0, rb1, rb2, rb3, rb4, tf0, tf1, tf2, tf3, tf4, Yk]
  exact hR a f
set_option maxRecDepth 100000 in
theorem contains_wf {l : List UInt8} {c : UInt8} (hR : R (.ret (.bool (decide (c ∈ l)))) h) : WF Tryd.prog 1 sp16 62 [.string (mkS l), .string (mkS [c])] h R := by
  refine wf_fn (fn := Tryd.f62) rfl rfl (by kernel_rfl) rfl ?_
  simp only [↓reduceIte, reduceCtorEq, Za, Zb, Zc, Zd, Ze, Zf, Zg, Zh, Zi, Zj, Zk, Zl, Zm, Zn, Zo, Zp, Zq, Zr, Zs, Zt, Zu, Zv, gval, Zw, rb0, rb1, rb2, rb3, rb4, tf0, tf1, tf2, tf3, tf4, Yk, Tryd.f62]
  refine runC_of (wf_fn (fn := Tryd.f72) rfl rfl (by kernel_rfl) rfl ?_)
  simp only [↓reduceIte, reduceCtorEq, Za, Zb, Zc, Zd, Ze, Zf, Zg, Zh, Zi, Zj, Zk, Zl, Zm, Zn, Zo, Zp, Zq, Zr, Zs, Zt, Zu, Zv, gval, Zw, rb0, rb1, rb2, rb3, rb4, tf0, tf1, tf2, tf3, tf4, Yk, Tryd.f72]
  refine runC_of (idx_wf ?_)
  rcases idxA_tw c l 0 with ⟨h1, h2⟩ | ⟨h1, h2, h3⟩
  · rw [h2]
    generalize (0 + (l.takeWhile (· != c)).length) = k
    have c0 : (0 : Int) ≤ (k : Int) := by omega
    simp only [↓reduceIte, reduceCtorEq, Za, Zb, Zc, Zd, Ze, Zf, Zg, Zh, Zi, Zj, Zk, Zl, Zm, Zn, Zo, Zp, Zq, Zr, Zs, Zt, Zu, Zv, gval, Zw, rb0, rb1, rb2, rb3, rb4, tf0, tf1, tf2, tf3, tf4, Yk, c0]
    rw [decide_eq_true h1] at hR
    exact hR
  · rw [h2]
    simp only [↓reduceIte, reduceCtorEq, Za, Zb, Zc, Zd, Ze, Zf, Zg, Zh, Zi, Zj, Zk, Zl, Zm, Zn, Zo, Zp, Zq, Zr, Zs, Zt, Zu, Zv, gval, Zw, rb0, rb1, rb2, rb3, rb4, tf0, tf1, tf2, tf3, tf4, Yk]
    rw [decide_eq_false h1] at hR
    exact hR
def NmP (l : List UInt8) : Prop := l ≠ [] ∧ ¬ (47 : UInt8) ∈ l ∧ chk l = 0
instance (l : List UInt8) : Decidable (NmP l) := by unfold NmP; infer_instance
set_option maxRecDepth 100000 in
theorem name_wf {l : List UInt8} (hR : ∀ h', h.nx ≤ h'.nx → (∀ b, b < h.nx → h'.get b = h.get b) → R (.ret (.bool (decide (NmP l)))) h') : WF Tryd.prog 1 sp16 49 [.string (mkS l)] h R := by
  refine wf_fn (fn := Tryd.f49) rfl rfl (by kernel_rfl) rfl ?_
  by_cases c1 : l = []
  · have cx : decide (l ≠ []) = false := by simp [c1]
    simp only [↓reduceIte, reduceCtorEq, Za, Zb, Zc, Zd, Ze, Zf, Zg, Zh, Zi, Zj, Zk, Zl, Zm, Zn, Zo, Zp, Zq, Zr, Zs, Zt, Zu, Zv, gval, Zw, rb0, rb1, rb2, rb3, rb4, tf0, tf1, tf2, tf3, tf4, Yk, Tryd.f49, str_neG, cx, show ByteArray.empty = mkS [] from rfl, runG_undef]
    have := hR h (Nat.le_refl _) fun _ _ => rfl
    rw [decide_eq_false (fun q => q.1 c1)] at this
    exact this
  have cx : decide (l ≠ []) = true := by simp [c1]
  simp only [↓reduceIte, reduceCtorEq, Za, Zb, Zc, Zd, Ze, Zf, Zg, Zh, Zi, Zj, Zk, Zl, Zm, Zn, Zo, Zp, Zq, Zr, Zs, Zt, Zu, Zv, gval, Zw, rb0, rb1, rb2, rb3, rb4, tf0, tf1, tf2, tf3, tf4, Yk, Tryd.f49, str_neG, cx, show ByteArray.empty = mkS [] from rfl]
  refine runC_of (contains_wf (c := 47) ?_)
  by_cases c2 : (47 : UInt8) ∈ l
  · simp only [↓reduceIte, reduceCtorEq, Za, Zb, Zc, Zd, Ze, Zf, Zg, Zh, Zi, Zj, Zk, Zl, Zm, Zn, Zo, Zp, Zq, Zr, Zs, Zt, Zu, Zv, gval, Zw, rb0, rb1, rb2, rb3, rb4, tf0, tf1, tf2, tf3, tf4, Yk, decide_eq_true c2, Bool.not_true, runG_undef]
    have := hR h (Nat.le_refl _) fun _ _ => rfl
    rw [decide_eq_false (fun q => q.2.1 c2)] at this
    exact this
  · simp only [↓reduceIte, reduceCtorEq, Za, Zb, Zc, Zd, Ze, Zf, Zg, Zh, Zi, Zj, Zk, Zl, Zm, Zn, Zo, Zp, Zq, Zr, Zs, Zt, Zu, Zv, gval, Zw, rb0, rb1, rb2, rb3, rb4, tf0, tf1, tf2, tf3, tf4, Yk, decide_eq_false c2, Bool.not_false]
    refine runC_of (check_spec rfl fun h1 n1 k1 => ?_)
    have := hR h1 n1 k1
    by_cases c3 : chk l = 0
    · simp only [↓reduceIte, reduceCtorEq, Za, Zb, Zc, Zd, Ze, Zf, Zg, Zh, Zi, Zj, Zk, Zl, Zm, Zn, Zo, Zp, Zq, Zr, Zs, Zt, Zu, Zv, gval, Zw, rb0, rb1, rb2, rb3, rb4, tf0, tf1, tf2, tf3, tf4, Yk, c3]
      rw [decide_eq_true ⟨c1, c2, c3⟩] at this
      exact this
    · simp only [↓reduceIte, reduceCtorEq, Za, Zb, Zc, Zd, Ze, Zf, Zg, Zh, Zi, Zj, Zk, Zl, Zm, Zn, Zo, Zp, Zq, Zr, Zs, Zt, Zu, Zv, gval, Zw, rb0, rb1, rb2, rb3, rb4, tf0, tf1, tf2, tf3, tf4, Yk, c3]
      rw [decide_eq_false (fun q => c3 q.2.2)] at this
      exact this
end Go.Proofs.YtmadjdgipfdnkaaDoor
end
section
/- Directories: rows of entries, the place of a name. Conditions: as each rule says. -/
namespace Go.Proofs.YtmadjdgipfdnkaaDoor
open Go.AM
open Nat renaming reduceBEq → Za, reduceEqDiff → Zb, reduceAdd → Zc, reduceSub → Zd, reduceMul → Ze, reduceLT → Zf, reduceLeDiff → Zg, reduceDiv → Zh, reduceMod → Zi, reducePow → Zj
open Int renaming reduceAdd → Zk, reduceSub → Zl, reduceMul → Zm, reduceLT → Zn, reduceLE → Zo, reduceEq → Zp, reduceNe → Zq, reduceNeg → Zr, reduceToNat → Zs, reduceDiv → Zt, reduceMod → Zu, reducePow → Zv, cast_ofNat_Int → Zw
set_option linter.unusedSimpArgs false
variable {h : Heap} {R : Out → Heap → Prop}
set_option maxRecDepth 100000 in
theorem rname_wf {l : List UInt8} (hl : l.length ≤ 9223372036854775807) (hR : R (.ret (.bool (decide (NmP l)))) h) : WF Tryd.prog 1 sp16 26 [.string (mkS l)] h R := by
  refine wf_fn (fn := Tryd.f26) rfl rfl (by kernel_rfl) rfl ?_
  simp only [↓reduceIte, reduceCtorEq, Za, Zb, Zc, Zd, Ze, Zf, Zg, Zh, Zi, Zj, Zk, Zl, Zm, Zn, Zo, Zp, Zq, Zr, Zs, Zt, Zu, Zv, gval, Zw, rb0, rb1, rb2, rb3, rb4, tf0, tf1, tf2, tf3, tf4, Yk, Tryd.f26, mkS_size]
  refine run_loop2 rfl (fun N e h' => ∃ p : Nat, N = l.length - p ∧ p ≤ l.length ∧ (∀ j, j < p → l[j]? ≠ some 47) ∧ e.at 0 = .string (mkS l) ∧ e.at 3 = .int .i64 p ∧ h' = h)
    (fun ex e h' => (ex = .ret ∧ e.at 2 = .bool false ∧ (47 : UInt8) ∈ l ∨ ex = .exit 0 ∧ e.at 0 = .string (mkS l) ∧ ¬ (47 : UInt8) ∈ l) ∧ h' = h) ?_ (l.length - 0) _ _ ?_ ?_
  · rintro N e h' ⟨p, rfl, hpl, hz, e0, e3, rfl⟩ Q' hQn hQx
    by_cases hp : p < l.length
    · obtain ⟨b, hb⟩ : ∃ b, l[p]? = some b := ⟨_, List.getElem?_eq_getElem hp⟩
      have hbz : b.toNat = 47 ↔ b = 47 := by rw [← UInt8.toNat_inj]; rfl
      have hp' : (p : Int) < (l.length : Int) := by omega
      have wp : wrapF .i64 ((p : Int) + 1) = ((p + 1 : Nat) : Int) := by rw [wrapI (by omega) (by omega)]; omega
      by_cases c2 : b = 47
      · have c2' : (b.toNat : Int) = 47 := by have := hbz.2 c2; omega
        simp only [↓reduceIte, reduceCtorEq, Za, Zb, Zc, Zd, Ze, Zf, Zg, Zh, Zi, Zj, Zk, Zl, Zm, Zn, Zo, Zp, Zq, Zr, Zs, Zt, Zu, Zv, gval, Zw, rb0, rb1, rb2, rb3, rb4, tf0, tf1, tf2, tf3, tf4, Yk, e0, e3, mkS_size, hp', str_index tag_9 hb, c2']
        exact hQx _ _ _ (by simp) ⟨.inl ⟨rfl, by simp only [Za, Zw, Ye], List.mem_of_getElem? (c2 ▸ hb)⟩, rfl⟩
      · have c2' : ¬ (b.toNat : Int) = 47 := fun e => c2 (hbz.1 (by omega))
        simp only [↓reduceIte, reduceCtorEq, Za, Zb, Zc, Zd, Ze, Zf, Zg, Zh, Zi, Zj, Zk, Zl, Zm, Zn, Zo, Zp, Zq, Zr, Zs, Zt, Zu, Zv, gval, Zw, rb0, rb1, rb2, rb3, rb4, tf0, tf1, tf2, tf3, tf4, Yk, e0, e3, mkS_size, hp', str_index tag_9 hb, c2', wp]
        refine hQn _ _ _ (by omega) ⟨p + 1, rfl, by omega, fun j hj => ?_, by simp only [Za, Zw, Ye, e0], by simp only [Za, Zw, Ye], rfl⟩
        rcases Nat.lt_or_ge j p with q | q
        · exact hz j q
        · rw [show j = p by omega, hb]; exact fun e => c2 (Option.some.inj e)
    · have hp' : ¬ (p : Int) < (l.length : Int) := by omega
      simp only [↓reduceIte, reduceCtorEq, Za, Zb, Zc, Zd, Ze, Zf, Zg, Zh, Zi, Zj, Zk, Zl, Zm, Zn, Zo, Zp, Zq, Zr, Zs, Zt, Zu, Zv, gval, Zw, rb0, rb1, rb2, rb3, rb4, tf0, tf1, tf2, tf3, tf4, Yk, e0, e3, mkS_size, hp']
      refine hQx _ _ _ (by simp) ⟨.inr ⟨rfl, by simp only [Za, Zw, Ye, e0], fun hm => ?_⟩, rfl⟩
      obtain ⟨j, hj⟩ := List.mem_iff_getElem?.1 hm
      exact hz j (by have := (List.getElem?_eq_some_iff.1 hj).1; omega) hj
  · exact ⟨0, rfl, by omega, fun _ h => absurd h (Nat.not_lt_zero _), by simp only [Za, Zw, Ye], by simp only [Za, Zw, Ye], rfl⟩
  · rintro ex e h' - ⟨⟨rfl, e2, hm⟩ | ⟨rfl, e0, hm⟩, rfl⟩
    · simp only [↓reduceIte, reduceCtorEq, Za, Zb, Zc, Zd, Ze, Zf, Zg, Zh, Zi, Zj, Zk, Zl, Zm, Zn, Zo, Zp, Zq, Zr, Zs, Zt, Zu, Zv, gval, Zw, rb0, rb1, rb2, rb3, rb4, tf0, tf1, tf2, tf3, tf4, Yk, e2]
      rw [decide_eq_false (fun q => q.2.1 hm)] at hR
      exact hR
    · by_cases c1 : l = []
      · have cx : decide (l ≠ []) = false := by simp [c1]
        simp only [↓reduceIte, reduceCtorEq, Za, Zb, Zc, Zd, Ze, Zf, Zg, Zh, Zi, Zj, Zk, Zl, Zm, Zn, Zo, Zp, Zq, Zr, Zs, Zt, Zu, Zv, gval, Zw, rb0, rb1, rb2, rb3, rb4, tf0, tf1, tf2, tf3, tf4, Yk, e0, str_neG, cx, show ByteArray.empty = mkS [] from rfl, runG_undef]
        rw [decide_eq_false (fun q => q.1 c1)] at hR
        exact hR
      have cx : decide (l ≠ []) = true := by simp [c1]
      simp only [↓reduceIte, reduceCtorEq, Za, Zb, Zc, Zd, Ze, Zf, Zg, Zh, Zi, Zj, Zk, Zl, Zm, Zn, Zo, Zp, Zq, Zr, Zs, Zt, Zu, Zv, gval, Zw, rb0, rb1, rb2, rb3, rb4, tf0, tf1, tf2, tf3, tf4, Yk, e0, str_neG, cx, show ByteArray.empty = mkS [] from rfl]
      refine runC_of (part_spec (sp := sp16) rfl ?_)
      by_cases c3 : chk l = 0
      · simp only [↓reduceIte, reduceCtorEq, Za, Zb, Zc, Zd, Ze, Zf, Zg, Zh, Zi, Zj, Zk, Zl, Zm, Zn, Zo, Zp, Zq, Zr, Zs, Zt, Zu, Zv, gval, Zw, rb0, rb1, rb2, rb3, rb4, tf0, tf1, tf2, tf3, tf4, Yk, c3]
        rw [decide_eq_true ⟨c1, hm, c3⟩] at hR
        exact hR
      · simp only [↓reduceIte, reduceCtorEq, Za, Zb, Zc, Zd, Ze, Zf, Zg, Zh, Zi, Zj, Zk, Zl, Zm, Zn, Zo, Zp, Zq, Zr, Zs, Zt, Zu, Zv, gval, Zw, rb0, rb1, rb2, rb3, rb4, tf0, tf1, tf2, tf3, tf4, Yk, c3]
        rw [decide_eq_false (fun q => c3 q.2.2)] at hR
        exact hR
def ents : List (List UInt8 × Nat) → List Value
  | [] => []
  | e :: r => .string (mkS e.1) :: .int .i64 (e.2 : Int) :: ents r
theorem ents_len : ∀ l : List (List UInt8 × Nat), (ents l).length = l.length * 2
  | [] => rfl
  | e :: r => by
    unfold ents
    rw [List.length_cons, List.length_cons, ents_len r, List.length_cons]; omega
theorem ents_app : ∀ a b : List (List UInt8 × Nat), ents (a ++ b) = ents a ++ ents b
  | [], b => rfl
  | e :: r, b => by
    show _ :: _ :: ents (r ++ b) = _ :: _ :: (ents r ++ ents b)
    rw [ents_app r b]
theorem ents_take : ∀ {l : List (List UInt8 × Nat)} {i : Nat} {e : List UInt8 × Nat}, l[i]? = some e → ((ents l).drop (i * 2)).take 2 = [.string (mkS e.1), .int .i64 (e.2 : Int)]
  | [], i, e, h => by simp at h
  | x :: r, 0, e, h => by
    rw [List.getElem?_cons_zero] at h
    cases Option.some.inj h; rfl
  | x :: r, i + 1, e, h => by
    rw [List.getElem?_cons_succ] at h
    show ((_ :: _ :: ents r).drop ((i + 1) * 2)).take 2 = _
    rw [show (i + 1) * 2 = i * 2 + 1 + 1 by omega, List.drop_succ_cons, List.drop_succ_cons]
    exact ents_take h
structure EntAt (h : Heap) (v : Value) (l : List (List UInt8 × Nat)) : Prop where
  is : (v = .slice none 0 0 ∧ l = []) ∨ ∃ b c K L, v = .slice (some ⟨b, 0, none⟩) l.length c ∧ h.get b = some (cellsB L K) ∧ l.length * 2 ≤ L.length ∧ ∀ (i : Nat) (e : List UInt8 × Nat), l[i]? = some e → (L.drop (i * 2)).take 2 = [.string (mkS e.1), .int .i64 (e.2 : Int)]
theorem EntAt.of {lo : Nat} {v : Value} {l : List (List UInt8 × Nat)} (x : RowG h lo 2 v l.length (ents l)) : EntAt h v l := by
  rcases x.is with ⟨h1, h2, h3⟩ | ⟨b, h1, h2, h3, h4⟩
  · exact ⟨.inl ⟨h1, List.length_eq_zero_iff.1 h3⟩⟩
  · exact ⟨.inr ⟨b, _, _, _, h3, h4, by rw [ents_len]; exact Nat.le_refl _, fun i e he => ents_take he⟩⟩
theorem EntAt.keep {h' : Heap} {v : Value} {l : List (List UInt8 × Nat)} (x : EntAt h v l) (hk : ∀ b ∈ blkOf v, h'.get b = h.get b) : EntAt h' v l := by
  rcases x.is with h1 | ⟨b, c, K, L, rfl, h4, h5⟩
  · exact ⟨.inl h1⟩
  · exact ⟨.inr ⟨b, c, K, L, rfl, (hk b (List.mem_singleton.2 rfl)).trans h4, h5⟩⟩
theorem EntAt.slc {v : Value} {l : List (List UInt8 × Nat)} (x : EntAt h v l) : ∃ a c, v = .slice a l.length c := by
  rcases x.is with ⟨rfl, rfl⟩ | ⟨b, c, K, L, rfl, _⟩ <;> exact ⟨_, _, rfl⟩
set_option maxRecDepth 100000 in
theorem find_wf {v : Value} {l : List (List UInt8 × Nat)} {nm : List UInt8} (x : EntAt h v l) (hv : ∀ b ∈ blkOf v, b < h.nx) (hl : l.length < 9223372036854775807)
    (hR1 : ∀ (k : Nat) e, l[k]? = some e → e.1 = nm → (∀ (j : Nat) e', j < k → l[j]? = some e' → e'.1 ≠ nm) → ∀ h', h.nx ≤ h'.nx → (∀ b, b < h.nx → h'.get b = h.get b) → R (.ret (.int .i64 k)) h')
    (hR2 : (∀ (j : Nat) e', l[j]? = some e' → e'.1 ≠ nm) → ∀ h', h.nx ≤ h'.nx → (∀ b, b < h.nx → h'.get b = h.get b) → R (.ret (.int .i64 (-1))) h') :
    WF Tryd.prog 1 sp16 50 [v, .string (mkS nm)] h R := by
  refine wf_fn (fn := Tryd.f50) rfl rfl (by kernel_rfl) rfl ?_
  obtain ⟨a, c, hs⟩ := x.slc
  rw [hs]
  simp only [↓reduceIte, reduceCtorEq, Za, Zb, Zc, Zd, Ze, Zf, Zg, Zh, Zi, Zj, Zk, Zl, Zm, Zn, Zo, Zp, Zq, Zr, Zs, Zt, Zu, Zv, gval, Zw, rb0, rb1, rb2, rb3, rb4, tf0, tf1, tf2, tf3, tf4, Yk, Tryd.f50]
  refine run_loop2 rfl (fun N e h' => ∃ p : Nat, N = l.length - p ∧ p ≤ l.length ∧ (∀ (j : Nat) e', j < p → l[j]? = some e' → e'.1 ≠ nm) ∧ e.at 1 = .string (mkS nm) ∧ e.at 7 = .slice a l.length c ∧ e.at 8 = .int .i64 l.length ∧ e.at 9 = .int .i64 p ∧ h.nx ≤ h'.nx ∧ ∀ b, b < h.nx → h'.get b = h.get b)
    (fun ex e h' => ((∃ (k : Nat) (y : List UInt8 × Nat), ex = .ret ∧ e.at 4 = .int .i64 k ∧ l[k]? = some y ∧ y.1 = nm ∧ ∀ (j : Nat) e', j < k → l[j]? = some e' → e'.1 ≠ nm) ∨ ex = .exit 0 ∧ ∀ (j : Nat) e', l[j]? = some e' → e'.1 ≠ nm) ∧ h.nx ≤ h'.nx ∧ ∀ b, b < h.nx → h'.get b = h.get b) ?_ (l.length - 0) _ _ ?_ ?_
  · rintro N e h' ⟨p, rfl, hpl, hz, e1, e7, e8, e9, hn, hk⟩ Q' hQn hQx
    by_cases hp : p < l.length
    · obtain ⟨y, hy⟩ : ∃ y, l[p]? = some y := ⟨_, List.getElem?_eq_getElem hp⟩
      rcases x.is with ⟨_, rfl⟩ | ⟨b, c', K, L, hv2, g1, hL, hA⟩
      · exact absurd hp (Nat.not_lt_zero _)
      rw [hs] at hv2
      cases hv2
      have hp0 : (0 : Int) ≤ (p : Int) := by omega
      have hp1 : (p : Int) < (l.length : Int) := by omega
      have wp : wrapF .i64 ((p : Int) + 1) = ((p + 1 : Nat) : Int) := by rw [wrapI (by omega) (by omega)]; omega
      have g1' := (hk b (hv b (by rw [hs]; exact List.mem_singleton.2 rfl))).trans g1
      have hA := hA p y hy
      have hp2 : p * 2 + 2 ≤ L.length := by omega
      by_cases c2 : y.1 = nm
      · have cx : decide (y.1 = nm) = true := decide_eq_true c2
        simp (disch := (first | omega | rfl | (simp only [Yn]; omega))) only [↓reduceIte, reduceCtorEq, Za, Zb, Zc, Zd, Ze, Zf, Zg, Zh, Zi, Zj, Zk, Zl, Zm, Zn, Zo, Zp, Zq, Zr, Zs, Zt, Zu, Zv, gval, Zw, rb0, rb1, rb2, rb3, rb4, tf0, tf1, tf2, tf3, tf4, Yk, Yh, overL_one, if_pos, stX_exactN, e1, e7, e8, e9, hp0, hp1, hp2, g1', hA, str_eqG, cx]
        exact hQx _ _ _ (by simp) ⟨.inl ⟨p, y, rfl, by simp only [Za, Zw, Ye], hy, c2, hz⟩, by simp (disch := (first | omega | rfl | (simp only [Yn]; omega))) only [Yh, Yc]; omega, fun b hb => by simp (disch := (first | omega | rfl | (simp only [Yn]; omega))) only [Yh, Yc]; exact hk b hb⟩
      · have cx : decide (y.1 = nm) = false := decide_eq_false c2
        simp (disch := (first | omega | rfl | (simp only [Yn]; omega))) only [↓reduceIte, reduceCtorEq, Za, Zb, Zc, Zd, Ze, Zf, Zg, Zh, Zi, Zj, Zk, Zl, Zm, Zn, Zo, Zp, Zq, Zr, Zs, Zt, Zu, Zv, gval, Zw, rb0, rb1, rb2, rb3, rb4, tf0, tf1, tf2, tf3, tf4, Yk, Yh, overL_one, if_pos, stX_exactN, e1, e7, e8, e9, hp0, hp1, hp2, g1', hA, str_eqG, cx, wp]
        refine hQn _ _ _ (by omega) ⟨p + 1, rfl, by omega, fun j e' hj he => ?_, by simp only [Za, Zw, Ye, e1], by simp only [Za, Zw, Ye, e7], by simp only [Za, Zw, Ye, e8], by simp only [Za, Zw, Ye], by simp (disch := (first | omega | rfl | (simp only [Yn]; omega))) only [Yh, Yc]; omega, fun b hb => by simp (disch := (first | omega | rfl | (simp only [Yn]; omega))) only [Yh, Yc]; exact hk b hb⟩
        rcases Nat.lt_or_ge j p with q | q
        · exact hz j e' q he
        · rw [show j = p by omega, hy] at he
          cases Option.some.inj he; exact c2
    · have hp' : ¬ (p : Int) < (l.length : Int) := by omega
      simp only [↓reduceIte, reduceCtorEq, Za, Zb, Zc, Zd, Ze, Zf, Zg, Zh, Zi, Zj, Zk, Zl, Zm, Zn, Zo, Zp, Zq, Zr, Zs, Zt, Zu, Zv, gval, Zw, rb0, rb1, rb2, rb3, rb4, tf0, tf1, tf2, tf3, tf4, Yk, e8, e9, hp']
      exact hQx _ _ _ (by simp) ⟨.inr ⟨rfl, fun j e' hj => hz j e' (by have := (List.getElem?_eq_some_iff.1 hj).1; omega) hj⟩, hn, hk⟩
  · exact ⟨0, rfl, by omega, fun _ _ h => absurd h (Nat.not_lt_zero _), by simp only [Za, Zw, Ye], by simp only [Za, Zw, Ye], by simp only [Za, Zw, Ye], by simp only [Za, Zw, Ye], Nat.le_refl _, fun _ _ => rfl⟩
  · rintro ex e h' - ⟨⟨k, y, rfl, e4, h1, h2, h3⟩ | ⟨rfl, h1⟩, hn, hk⟩
    · simp only [↓reduceIte, reduceCtorEq, Za, Zb, Zc, Zd, Ze, Zf, Zg, Zh, Zi, Zj, Zk, Zl, Zm, Zn, Zo, Zp, Zq, Zr, Zs, Zt, Zu, Zv, gval, Zw, rb0, rb1, rb2, rb3, rb4, tf0, tf1, tf2, tf3, tf4, Yk, e4]
      exact hR1 k y h1 h2 h3 h' hn hk
    · simp only [↓reduceIte, reduceCtorEq, Za, Zb, Zc, Zd, Ze, Zf, Zg, Zh, Zi, Zj, Zk, Zl, Zm, Zn, Zo, Zp, Zq, Zr, Zs, Zt, Zu, Zv, gval, Zw, rb0, rb1, rb2, rb3, rb4, tf0, tf1, tf2, tf3, tf4, Yk]
      exact hR2 h1 h' hn hk
end Go.Proofs.YtmadjdgipfdnkaaDoor
end
section
/- Pair of 20 blocks: run once; what lies where. No condition. -/
namespace Go.Proofs.YtmadjdgipfdnkaaDoor
open Go.AM
noncomputable def pairQ (n : Int) : Option (Out × Heap) := acall Tryd.prog (0 + 1) noSp 400 20 12 [.int .i64 n] H0
noncomputable def pairH (n : Int) : Heap := match pairQ n with
  | some (_, h) => h
  | none => H0
def words0 (n : Nat) : List Int := (List.range (n * 32)).map fun i => if i = 0 then 318923232595 else if i = 1 then n else if i = 2 then 1 else if i = 3 then 4095 else if i = 32 then 2 else if i = 33 then 1 else 0
abbrev u64s (l : List Int) : List Value := l.map (.int .u64 ·)
end Go.Proofs.YtmadjdgipfdnkaaDoor
end
section
/- Blocks and inodes: at, Get, Put, get. Conditions: the disk lies as the rule names. -/
namespace Go.Proofs.YtmadjdgipfdnkaaDoor
open Go.AM
open Nat renaming reduceBEq → Za, reduceEqDiff → Zb, reduceAdd → Zc, reduceSub → Zd, reduceMul → Ze, reduceLT → Zf, reduceLeDiff → Zg, reduceDiv → Zh, reduceMod → Zi, reducePow → Zj
open Int renaming reduceAdd → Zk, reduceSub → Zl, reduceMul → Zm, reduceLT → Zn, reduceLE → Zo, reduceEq → Zp, reduceNe → Zq, reduceNeg → Zr, reduceToNat → Zs, reduceDiv → Zt, reduceMod → Zu, reducePow → Zv, cast_ofNat_Int → Zw
set_option linter.unusedSimpArgs false
variable {sp : Special} {h : Heap} {R : Out → Heap → Prop}
structure DiskAt (h : Heap) (bd bl n : Nat) (L : List Int) : Prop where
  is : ∃ g p : Int, h.get bd = some (cellsB [.int .i64 n, .slice (some ⟨bl, 0, none⟩) (n * 32) (n * 32), .int .i64 g, .int .i64 p] .exact)
  wd : h.get bl = some (cellsB (u64s L) .exact)
  len : L.length = n * 32
  le : n ≤ 1024
  bd_lt : bd < h.nx
  bl_lt : bl < h.nx
  ne : bd ≠ bl
theorem DiskAt.keep {h' : Heap} {bd bl n : Nat} {L : List Int} (x : DiskAt h bd bl n L) (hn : h.nx ≤ h'.nx) (h1 : h'.get bd = h.get bd) (h2 : h'.get bl = h.get bl) : DiskAt h' bd bl n L := by
  obtain ⟨g, p, e⟩ := x.is
  exact ⟨⟨g, p, h1.trans e⟩, h2.trans x.wd, x.len, x.le, Nat.lt_of_lt_of_le x.bd_lt hn, Nat.lt_of_lt_of_le x.bl_lt hn, x.ne⟩
set_option maxRecDepth 100000 in
theorem at_spec (h0 : (sp 109).isNone = true) {bd bl n : Nat} {L : List Int} (hd : DiskAt h bd bl n L) {b : Nat} (hb : b < n) (hR : R (.ret (.slice (some ⟨bl, b * 32, none⟩) 32 32)) h) :
    WF Tryd.prog 1 sp 109 [.pointer (some ⟨bd, 0, none⟩), .int .i64 b] h R := by
  refine wf_fn (fn := Tryd.f109) h0 rfl (by kernel_rfl) rfl ?_
  obtain ⟨g, p, e⟩ := hd.is
  have hle := hd.le
  have c1 : ¬ (b : Int) < 0 := by omega
  have c2 : ¬ (n : Int) ≤ (b : Int) := by omega
  have w1 : wrapF .i64 ((b : Int) * 32) = (b : Int) * 32 := wrapI (by omega) (by omega)
  have w2 : wrapF .i64 ((b : Int) + 1) = (b : Int) + 1 := wrapI (by omega) (by omega)
  have w3 : wrapF .i64 (((b : Int) + 1) * 32) = ((b : Int) + 1) * 32 := wrapI (by omega) (by omega)
  have hsl := slS_max (k := .i64) (k' := .i64) (k2 := .i64) (off := 0) (n := n * 32) (c := n * 32) (l := b * 32) (hi := (b + 1) * 32) hd.wd (by omega) (by omega)
  rw [show ((b * 32 : Nat) : Int) = (b : Int) * 32 by omega, show (((b + 1) * 32 : Nat) : Int) = ((b : Int) + 1) * 32 by omega, show (b + 1) * 32 - b * 32 = 32 by omega] at hsl
  simp (disch := (first | omega | rfl | (simp only [Yn]; omega))) only [↓reduceIte, reduceCtorEq, Za, Zb, Zc, Zd, Ze, Zf, Zg, Zh, Zi, Zj, Zk, Zl, Zm, Zn, Zo, Zp, Zq, Zr, Zs, Zt, Zu, Zv, gval, Zw, rb0, rb1, rb2, rb3, rb4, tf0, tf1, tf2, tf3, tf4, Yk, Yh, overL_one, if_pos, stX_exactN, Tryd.f109, e, c1, c2, w1, w2, w3, hsl]
  exact hR
set_option maxRecDepth 100000 in
theorem dget_spec (h0 : (sp 106).isNone = true) (h1 : (sp 109).isNone = true) {bd bl n : Nat} {L : List Int} (hd : DiskAt h bd bl n L) {b : Nat} (hb : b < n)
    (hR : ∀ h', h'.nx = h.nx + 1 → h'.get h.nx = some (cellsB (u64s ((L.drop (b * 32)).take 32)) (.loose 1)) → DiskAt h' bd bl n L → (∀ b', b' < h.nx → b' ≠ bd → h'.get b' = h.get b') → R (.ret (.tuple #[.slice (some ⟨h.nx, 0, none⟩) 32 32, .int .i64 0])) h') :
    WF Tryd.prog 1 sp 106 [.pointer (some ⟨bd, 0, none⟩), .int .i64 b] h R := by
  refine wf_fn (fn := Tryd.f106) h0 rfl (by kernel_rfl) rfl ?_
  simp only [↓reduceIte, reduceCtorEq, Za, Zb, Zc, Zd, Ze, Zf, Zg, Zh, Zi, Zj, Zk, Zl, Zm, Zn, Zo, Zp, Zq, Zr, Zs, Zt, Zu, Zv, gval, Zw, rb0, rb1, rb2, rb3, rb4, tf0, tf1, tf2, tf3, tf4, Yk, Tryd.f106]
  refine runC_of (at_spec h1 hd hb ?_)
  obtain ⟨g, p, e⟩ := hd.is
  have q1 := hd.bd_lt
  have q2 := hd.bl_lt
  have q3 := hd.ne
  simp (disch := (first | omega | rfl | (simp only [Yn]; omega))) only [↓reduceIte, reduceCtorEq, Za, Zb, Zc, Zd, Ze, Zf, Zg, Zh, Zi, Zj, Zk, Zl, Zm, Zn, Zo, Zp, Zq, Zr, Zs, Zt, Zu, Zv, gval, Zw, rb0, rb1, rb2, rb3, rb4, tf0, tf1, tf2, tf3, tf4, Yk, Yh, overL_one, if_pos, stX_exactN, e]
  obtain ⟨h1', hh1⟩ : ∃ h1', h.upd bd (cellsB [.int .i64 n, .slice (some ⟨bl, 0, none⟩) (n * 32) (n * 32), .int .i64 (wrapF .i64 (g + 1)), .int .i64 p] .exact) = h1' := ⟨_, rfl⟩
  have hw1 : h1'.get bl = some (cellsB (u64s L) .exact) := by rw [← hh1, Heap.get_upd_ne _ _ (fun e => q3 e.symm)]; exact hd.wd
  have hnx : h1'.nx = h.nx := by rw [← hh1, Heap.nx_upd]
  have hlen := hd.len
  have hcl : (u64s L).length = n * 32 := by rw [List.length_map, hlen]
  rw [hh1, aAppend_nil app_81_81 32 _ _ _ rfl (by omega) (by omega) (firstL_slc _ _ _ _ _ _ _ _ _ hw1 (by rw [hcl]; omega))]
  have hcut : ((u64s L).drop (b * 32)).take (32 * 1) = u64s ((L.drop (b * 32)).take 32) := by rw [← List.map_drop, ← List.map_take]
  rw [hcut]
  simp only [↓reduceIte, reduceCtorEq, Za, Zb, Zc, Zd, Ze, Zf, Zg, Zh, Zi, Zj, Zk, Zl, Zm, Zn, Zo, Zp, Zq, Zr, Zs, Zt, Zu, Zv, gval, Zw, rb0, rb1, rb2, rb3, rb4, tf0, tf1, tf2, tf3, tf4, Yk]
  refine hR _ (by rw [Heap.nx_new, hnx]) (by rw [Heap.get_new_at _ (by omega)]) ⟨⟨wrapF .i64 (g + 1), p, ?_⟩, ?_, hlen, hd.le, ?_, ?_, q3⟩ (fun b' h1 h2 => ?_)
  · rw [Heap.get_new_ne _ _ (by omega), ← hh1, Heap.get_upd_same]
  · rw [Heap.get_new_ne _ _ (by omega)]; exact hw1
  · rw [Heap.nx_new]; omega
  · rw [Heap.nx_new]; omega
  · rw [Heap.get_new_ne _ _ (by omega), ← hh1, Heap.get_upd_ne _ _ h2]
set_option maxRecDepth 100000 in
theorem dput_spec (h0 : (sp 108).isNone = true) (h1 : (sp 109).isNone = true) {bd bl n : Nat} {L : List Int} (hd : DiskAt h bd bl n L) {b : Nat} (hb : b < n) {bs off c : Nat} {X : List Value} {k : Kind} {W : List Int} (hs : h.get bs = some (cellsB X k)) (hX : (X.drop off).take 32 = u64s W) (hW : W.length = 32)
    (hR : ∀ h', h'.nx = h.nx → DiskAt h' bd bl n (L.take (b * 32) ++ W ++ L.drop (b * 32 + 32)) → (∀ b', b' ≠ bd → b' ≠ bl → h'.get b' = h.get b') → R (.ret (.int .i64 0)) h') (hne : bs ≠ bd) :
    WF Tryd.prog 1 sp 108 [.pointer (some ⟨bd, 0, none⟩), .int .i64 b, .slice (some ⟨bs, off, none⟩) 32 c] h R := by
  refine wf_fn (fn := Tryd.f108) h0 rfl (by kernel_rfl) rfl ?_
  simp only [↓reduceIte, reduceCtorEq, Za, Zb, Zc, Zd, Ze, Zf, Zg, Zh, Zi, Zj, Zk, Zl, Zm, Zn, Zo, Zp, Zq, Zr, Zs, Zt, Zu, Zv, gval, Zw, rb0, rb1, rb2, rb3, rb4, tf0, tf1, tf2, tf3, tf4, Yk, Tryd.f108]
  refine runC_of (at_spec h1 hd hb ?_)
  obtain ⟨g, p, e⟩ := hd.is
  have q3 := hd.ne
  simp (disch := (first | omega | rfl | (simp only [Yn]; omega))) only [↓reduceIte, reduceCtorEq, Za, Zb, Zc, Zd, Ze, Zf, Zg, Zh, Zi, Zj, Zk, Zl, Zm, Zn, Zo, Zp, Zq, Zr, Zs, Zt, Zu, Zv, gval, Zw, rb0, rb1, rb2, rb3, rb4, tf0, tf1, tf2, tf3, tf4, Yk, Yh, overL_one, if_pos, stX_exactN, e]
  obtain ⟨h1', hh1⟩ : ∃ h1', h.upd bd (cellsB [.int .i64 n, .slice (some ⟨bl, 0, none⟩) (n * 32) (n * 32), .int .i64 g, .int .i64 (wrapF .i64 (p + 1))] .exact) = h1' := ⟨_, rfl⟩
  have hw1 : h1'.get bl = some (cellsB (u64s L) .exact) := by rw [← hh1, Heap.get_upd_ne _ _ (fun e => q3 e.symm)]; exact hd.wd
  have hs1 : h1'.get bs = some (cellsB X k) := by rw [← hh1, Heap.get_upd_ne _ _ hne]; exact hs
  have hlen := hd.len
  have hcl : (u64s L).length = n * 32 := by rw [List.length_map, hlen]
  have hXl : off + 32 ≤ X.length := by
    have := congrArg List.length hX
    rw [List.length_take, List.length_drop, List.length_map, hW] at this
    omega
  have hcp := aCopy_at (P := Tryd.prog) (ts := #[81, 81]) (dt := 81) (st := 81) rfl (s := 1) (by kernel_rfl) (b := bl) (off := b * 32) (dn := 32) (c := 32) (n := 32) (x := .slice (some ⟨bs, off, none⟩) 32 c) (g := h1'.get) (L := u64s L) (cells := u64s W) (k := .exact) rfl
    (by rw [show Nat.min 32 32 = 32 from rfl, ← hX]; exact firstL_slc _ 1 32 bs off _ _ X k hs1 (by omega)) hw1 (by simp) (by rw [List.length_map, hW, hcl]; omega)
  rw [hh1]
  simp (disch := (first | omega | rfl | (simp only [Yn]; omega))) only [↓reduceIte, reduceCtorEq, Za, Zb, Zc, Zd, Ze, Zf, Zg, Zh, Zi, Zj, Zk, Zl, Zm, Zn, Zo, Zp, Zq, Zr, Zs, Zt, Zu, Zv, gval, Zw, rb0, rb1, rb2, rb3, rb4, tf0, tf1, tf2, tf3, tf4, Yk, Yh, overL_one, if_pos, stX_exactN, hcp]
  have hov : overL (u64s L) (b * 32) (u64s W) = u64s (L.take (b * 32) ++ W ++ L.drop (b * 32 + 32)) := by
    unfold overL u64s
    rw [List.map_append, List.map_append, List.map_take, List.map_drop, List.length_map, hW]
  rw [hov]
  refine hR _ (by rw [Heap.nx_upd, ← hh1, Heap.nx_upd]) ⟨⟨g, wrapF .i64 (p + 1), ?_⟩, Heap.get_upd_same _ _ _, ?_, hd.le, ?_, ?_, q3⟩ (fun b' h1 h2 => ?_)
  · rw [Heap.get_upd_ne _ _ q3, ← hh1, Heap.get_upd_same]
  · simp only [List.length_append, List.length_take, List.length_drop, hW, hlen]; omega
  · rw [Heap.nx_upd, ← hh1, Heap.nx_upd]; exact hd.bd_lt
  · rw [Heap.nx_upd, ← hh1, Heap.nx_upd]; exact hd.bl_lt
  · rw [Heap.get_upd_ne _ _ h2, ← hh1, Heap.get_upd_ne _ _ h1]
theorem inv_get : invOf Tryd.prog 23 "Get" = some 106 := by kernel_rfl
theorem inv_put : invOf Tryd.prog 23 "Put" = some 108 := by kernel_rfl
set_option maxRecDepth 100000 in
theorem get_spec (h39 : (sp 39).isNone = true) (h0 : (sp 106).isNone = true) (h1 : (sp 109).isNone = true) {bd bl n : Nat} {L : List Int} (hd : DiskAt h bd bl n L) {b : Nat} (hb : b < n)
    (hR : ∀ h', h'.nx = h.nx + 1 → h'.get h.nx = some (cellsB (u64s ((L.drop (b * 32)).take 32)) (.loose 1)) → DiskAt h' bd bl n L → (∀ b', b' < h.nx → b' ≠ bd → h'.get b' = h.get b') → R (.ret (.tuple #[.slice (some ⟨h.nx, 0, none⟩) 32 32, .int .i64 0])) h') :
    WF Tryd.prog 1 sp 39 [.iface 23 (.pointer (some ⟨bd, 0, none⟩)), .int .i64 b] h R := by
  refine wf_fn (fn := Tryd.f39) h39 rfl (by kernel_rfl) rfl ?_
  simp only [↓reduceIte, reduceCtorEq, Za, Zb, Zc, Zd, Ze, Zf, Zg, Zh, Zi, Zj, Zk, Zl, Zm, Zn, Zo, Zp, Zq, Zr, Zs, Zt, Zu, Zv, gval, Zw, rb0, rb1, rb2, rb3, rb4, tf0, tf1, tf2, tf3, tf4, Yk, Tryd.f39, u_invoke, invK_iface, inv_get]
  refine runC_of (dget_spec h0 h1 hd hb fun h' g1 g2 g3 g4 => ?_)
  simp only [↓reduceIte, reduceCtorEq, Za, Zb, Zc, Zd, Ze, Zf, Zg, Zh, Zi, Zj, Zk, Zl, Zm, Zn, Zo, Zp, Zq, Zr, Zs, Zt, Zu, Zv, gval, Zw, rb0, rb1, rb2, rb3, rb4, tf0, tf1, tf2, tf3, tf4, Yk]
  exact hR h' g1 g2 g3 g4
end Go.Proofs.YtmadjdgipfdnkaaDoor
end
section
/- Inodes: Get. Conditions: the disk lies as the rule names. -/
namespace Go.Proofs.YtmadjdgipfdnkaaDoor
open Go.AM
open Nat renaming reduceBEq → Za, reduceEqDiff → Zb, reduceAdd → Zc, reduceSub → Zd, reduceMul → Ze, reduceLT → Zf, reduceLeDiff → Zg, reduceDiv → Zh, reduceMod → Zi, reducePow → Zj
open Int renaming reduceAdd → Zk, reduceSub → Zl, reduceMul → Zm, reduceLT → Zn, reduceLE → Zo, reduceEq → Zp, reduceNe → Zq, reduceNeg → Zr, reduceToNat → Zs, reduceDiv → Zt, reduceMod → Zu, reducePow → Zv, cast_ofNat_Int → Zw
set_option linter.unusedSimpArgs false
variable {sp : Special} {h : Heap} {R : Out → Heap → Prop}
set_option maxRecDepth 100000 in
theorem in_spec (h0 : (sp 43).isNone = true) {i : Int} (hR : R (.ret (.bool (decide (0 ≤ i ∧ i < 32)))) h) : WF Tryd.prog 1 sp 43 [.int .i64 i] h R := by
  refine wf_fn (fn := Tryd.f43) h0 rfl (by kernel_rfl) rfl ?_
  by_cases c1 : 0 ≤ i
  · by_cases c2 : i < 32
    · simp only [↓reduceIte, reduceCtorEq, Za, Zb, Zc, Zd, Ze, Zf, Zg, Zh, Zi, Zj, Zk, Zl, Zm, Zn, Zo, Zp, Zq, Zr, Zs, Zt, Zu, Zv, gval, Zw, rb0, rb1, rb2, rb3, rb4, tf0, tf1, tf2, tf3, tf4, Yk, Tryd.f43, c1, c2]
      rw [decide_eq_true ⟨c1, c2⟩] at hR
      exact hR
    · simp only [↓reduceIte, reduceCtorEq, Za, Zb, Zc, Zd, Ze, Zf, Zg, Zh, Zi, Zj, Zk, Zl, Zm, Zn, Zo, Zp, Zq, Zr, Zs, Zt, Zu, Zv, gval, Zw, rb0, rb1, rb2, rb3, rb4, tf0, tf1, tf2, tf3, tf4, Yk, Tryd.f43, c1, c2]
      rw [decide_eq_false (fun h => c2 h.2)] at hR
      exact hR
  · simp only [↓reduceIte, reduceCtorEq, Za, Zb, Zc, Zd, Ze, Zf, Zg, Zh, Zi, Zj, Zk, Zl, Zm, Zn, Zo, Zp, Zq, Zr, Zs, Zt, Zu, Zv, gval, Zw, rb0, rb1, rb2, rb3, rb4, tf0, tf1, tf2, tf3, tf4, Yk, Tryd.f43, c1]
    rw [decide_eq_false (fun h => c1 h.1)] at hR
    exact hR
def inoAt (i : Nat) : Nat := (1 + i / 3) * 32 + i % 3 * 9
def inoI (L : List Int) (i : Nat) : List Int := (List.range 9).map fun j => wrapF .i64 (L[inoAt i + j]!)
abbrev i64s (l : List Int) : List Value := l.map (.int .i64 ·)
def partI (v : List Int) (k : Nat) : List Value := i64s (v.take (3 + k) ++ List.replicate (6 - k) 0)
theorem partI_len {v : List Int} (hv : v.length = 9) {k : Nat} (hk : k ≤ 6) : (partI v k).length = 9 := by
  unfold partI
  simp only [List.length_map, List.length_append, List.length_take, List.length_replicate]; omega
theorem partI_set {v : List Int} (hv : v.length = 9) {k : Nat} (hk : k < 6) {x : Int} (hx : v[3 + k]? = some x) : (partI v k).set (3 + k) (.int .i64 x) = partI v (k + 1) := by
  match v, hv with
  | [a, b, c, d, e, f, g, h, i], _ =>
    have : k = 0 ∨ k = 1 ∨ k = 2 ∨ k = 3 ∨ k = 4 ∨ k = 5 := by omega
    rcases this with rfl | rfl | rfl | rfl | rfl | rfl <;> (simp at hx; subst hx; rfl)
set_option maxRecDepth 100000 in
theorem iget_spec (h18 : (sp 18).isNone = true) (h39 : (sp 39).isNone = true) (h43 : (sp 43).isNone = true) (h0 : (sp 106).isNone = true) (h1 : (sp 109).isNone = true) {bd bl n : Nat} {L : List Int} (hd : DiskAt h bd bl n L) (hn : 12 ≤ n) {i : Nat} (hi : i < 32)
    (hR : ∀ h', h.nx ≤ h'.nx → DiskAt h' bd bl n L → (∀ b', b' < h.nx → b' ≠ bd → h'.get b' = h.get b') → R (.ret (.tuple #[.agg (i64s (inoI L i)).toArray, .int .i64 0])) h') :
    WF Tryd.prog 1 sp 18 [.iface 23 (.pointer (some ⟨bd, 0, none⟩)), .int .i64 i] h R := by
  refine wf_fn (fn := Tryd.f18) h18 rfl (by kernel_rfl) rfl ?_
  have q1 := hd.bd_lt
  have q2 := hd.bl_lt
  simp only [↓reduceIte, reduceCtorEq, Za, Zb, Zc, Zd, Ze, Zf, Zg, Zh, Zi, Zj, Zk, Zl, Zm, Zn, Zo, Zp, Zq, Zr, Zs, Zt, Zu, Zv, gval, Zw, rb0, rb1, rb2, rb3, rb4, tf0, tf1, tf2, tf3, tf4, Yk, Tryd.f18]
  refine runC_of (in_spec h43 ?_)
  rw [decide_eq_true (show 0 ≤ (i : Int) ∧ (i : Int) < 32 by omega)]
  have hq : (i : Int).tdiv 3 = ((i / 3 : Nat) : Int) := by rw [Int.tdiv_eq_ediv_of_nonneg (by omega)]; omega
  have hm : (i : Int).tmod 3 = ((i % 3 : Nat) : Int) := by rw [Int.tmod_eq_emod_of_nonneg (by omega)]; omega
  have e1 : wrapF .i64 ((i / 3 : Nat) : Int) = ((i / 3 : Nat) : Int) := wrapI (by omega) (by omega)
  have e2 : wrapF .i64 (1 + ((i / 3 : Nat) : Int)) = ((1 + i / 3 : Nat) : Int) := by rw [wrapI (by omega) (by omega)]; omega
  have e3 : wrapF .i64 ((i % 3 : Nat) : Int) = ((i % 3 : Nat) : Int) := wrapI (by omega) (by omega)
  have e4 : wrapF .i64 (((i % 3 : Nat) : Int) * 9) = ((i % 3 * 9 : Nat) : Int) := by rw [wrapI (by omega) (by omega)]; omega
  simp only [↓reduceIte, reduceCtorEq, Za, Zb, Zc, Zd, Ze, Zf, Zg, Zh, Zi, Zj, Zk, Zl, Zm, Zn, Zo, Zp, Zq, Zr, Zs, Zt, Zu, Zv, gval, Zw, rb0, rb1, rb2, rb3, rb4, tf0, tf1, tf2, tf3, tf4, Yk, hq, e1, e2]
  obtain ⟨ha, hha⟩ : ∃ ha, h.new (cellsB [.int .i64 0, .int .i64 0, .int .i64 0, .int .i64 0, .int .i64 0, .int .i64 0, .int .i64 0, .int .i64 0, .int .i64 0] .exact) = ha := ⟨_, rfl⟩
  have hna : ha.nx = h.nx + 1 := by rw [← hha, Heap.nx_new]
  have hka : ∀ b', b' < h.nx → ha.get b' = h.get b' := fun b' hb' => by rw [← hha, Heap.get_new_ne _ _ (by omega)]
  have hga : ha.get h.nx = some (cellsB [.int .i64 0, .int .i64 0, .int .i64 0, .int .i64 0, .int .i64 0, .int .i64 0, .int .i64 0, .int .i64 0, .int .i64 0] .exact) := by rw [← hha, Heap.get_new_same]
  rw [hha]
  refine runC_of (get_spec h39 h0 h1 (hd.keep (h' := ha) (by omega) (hka _ q1) (hka _ q2)) (b := 1 + i / 3) (by omega) fun hb g1 g2 g3 g4 => ?_)
  have hlen := hd.len
  have hbl : (u64s ((L.drop ((1 + i / 3) * 32)).take 32)).length = 32 := by rw [List.length_map, List.length_take, List.length_drop]; omega
  have hsl := slS_loose (k := .i64) (off := 0) (n := 32) (c := 32) (l := i % 3 * 9) g2 (by rw [hbl]) (by omega) (by omega)
  simp (disch := (first | omega | rfl | (simp only [Yn]; omega))) only [↓reduceIte, reduceCtorEq, Za, Zb, Zc, Zd, Ze, Zf, Zg, Zh, Zi, Zj, Zk, Zl, Zm, Zn, Zo, Zp, Zq, Zr, Zs, Zt, Zu, Zv, gval, Zw, rb0, rb1, rb2, rb3, rb4, tf0, tf1, tf2, tf3, tf4, Yk, Yh, overL_one, if_pos, stX_exactN, hm, e3, e4, hsl]
  refine run_draw (ps := [(3, 6), (2, 7), (3, 7), (3, 10), (7, 10), (2, 11), (3, 11), (6, 11), (7, 11), (2, 13), (3, 13), (6, 13), (7, 13), (10, 13), (11, 13), (12, 13)]) (by kernel_rfl) (by kernel_rfl) ?_
  obtain ⟨o, ho⟩ : ∃ o, i % 3 * 9 = o := ⟨_, rfl⟩
  have hol : o ≤ 18 := by omega
  obtain ⟨BL, hBL⟩ : ∃ BL, u64s ((L.drop ((1 + i / 3) * 32)).take 32) = BL := ⟨_, rfl⟩
  rw [hBL] at g2 hbl
  have hc : ∀ j, j < 9 → BL[o + j]? = some (.int .u64 L[inoAt i + j]!) := fun j hj => by
    rw [← hBL, List.getElem?_map, List.getElem?_take, if_pos (by omega), List.getElem?_drop, show (1 + i / 3) * 32 + (o + j) = inoAt i + j by unfold inoAt; omega]
    have hlt : inoAt i + j < L.length := by unfold inoAt; omega
    rw [List.getElem?_eq_getElem hlt, getElem!_pos L _ hlt]; rfl
  have c0 : BL[o]? = some (.int .u64 L[inoAt i]!) := hc 0 (by omega)
  have c1 := hc 1 (by omega)
  have c2 := hc 2 (by omega)
  have r0 : (0 : Int) < ((32 - o : Nat) : Int) := by omega
  have r1 : (1 : Int) < ((32 - o : Nat) : Int) := by omega
  have r2 : (2 : Int) < ((32 - o : Nat) : Int) := by omega
  rw [ho]
  have hgb : hb.get h.nx = some (cellsB [.int .i64 0, .int .i64 0, .int .i64 0, .int .i64 0, .int .i64 0, .int .i64 0, .int .i64 0, .int .i64 0, .int .i64 0] .exact) := (g4 _ (by omega) (by omega)).trans hga
  simp (disch := (first | omega | rfl | (simp only [Yn]; omega))) only [↓reduceIte, reduceCtorEq, Za, Zb, Zc, Zd, Ze, Zf, Zg, Zh, Zi, Zj, Zk, Zl, Zm, Zn, Zo, Zp, Zq, Zr, Zs, Zt, Zu, Zv, gval, Zw, rb0, rb1, rb2, rb3, rb4, tf0, tf1, tf2, tf3, tf4, Yk, Yh, overL_one, if_pos, stX_exactN, r0, r1, r2, g2, hbl, c0, c1, c2, Nat.mul_one, nbeq_ne]
  rw [Heap.upd_new]
  have hv : (inoI L i).length = 9 := by unfold inoI; simp
  have hv0 : ∀ j, j < 9 → (inoI L i)[j]? = some (wrapF .i64 L[inoAt i + j]!) := fun j hj => by
    unfold inoI; rw [List.getElem?_map, List.getElem?_range hj]; rfl
  have hp0 : [Value.int .i64 (wrapF .i64 L[inoAt i]!), .int .i64 (wrapF .i64 L[inoAt i + 1]!), .int .i64 (wrapF .i64 L[inoAt i + 2]!), .int .i64 0, .int .i64 0, .int .i64 0, .int .i64 0, .int .i64 0, .int .i64 0] = partI (inoI L i) 0 := rfl
  rw [hp0]
  have hnb : hb.nx = h.nx + 2 := by omega
  refine run_loop2 rfl (fun m e h2 => ∃ k : Nat, m = 6 - k ∧ k ≤ 6 ∧ e.at 4 = .pointer (some ⟨h.nx, 0, none⟩) ∧ e.at 6 = .slice (some ⟨ha.nx, o, none⟩) (32 - o) (32 - o) ∧ e.at 8 = .pointer (some ⟨hb.nx, 0, none⟩) ∧ e.at 44 = .int .i64 k ∧ h2.get hb.nx = some (cellsB (partI (inoI L i) k) .exact) ∧ h2.nx = hb.nx + 1 ∧ ∀ b', b' ≠ hb.nx → h2.get b' = hb.get b')
    (fun ex e h2 => ex = .exit 0 ∧ e.at 4 = .pointer (some ⟨h.nx, 0, none⟩) ∧ e.at 8 = .pointer (some ⟨hb.nx, 0, none⟩) ∧ h2.get hb.nx = some (cellsB (partI (inoI L i) 6) .exact) ∧ h2.nx = hb.nx + 1 ∧ ∀ b', b' ≠ hb.nx → h2.get b' = hb.get b') ?_ 6 _ _ ?_ ?_
  · rintro m e h2 ⟨k, rfl, hk, f4, f6, f8, f44, gd, gn, gk⟩ Q' hQn hQx
    by_cases hc6 : k < 6
    · have hc6' : (k : Int) < 6 := by omega
      have hpl := partI_len hv hk
      have w1 : wrapF .i64 (3 + (k : Int)) = ((3 + k : Nat) : Int) := by rw [wrapI (by omega) (by omega)]; omega
      have w2 : wrapF .i64 ((k : Int) + 1) = (k : Int) + 1 := wrapI (by omega) (by omega)
      have rk : ((3 + k : Nat) : Int) < ((32 - o : Nat) : Int) := by omega
      have ck := hc (3 + k) (by omega)
      have g2' : h2.get ha.nx = some (cellsB BL (.loose 1)) := (gk _ (by omega)).trans g2
      simp (disch := (first | omega | rfl | (simp only [Yn]; omega))) only [↓reduceIte, reduceCtorEq, Za, Zb, Zc, Zd, Ze, Zf, Zg, Zh, Zi, Zj, Zk, Zl, Zm, Zn, Zo, Zp, Zq, Zr, Zs, Zt, Zu, Zv, gval, Zw, rb0, rb1, rb2, rb3, rb4, tf0, tf1, tf2, tf3, tf4, Yk, Yh, overL_one, if_pos, stX_exactN, f4, f6, f8, f44, hc6', w1, w2, rk, g2', ck, hbl, gd, hpl, Nat.mul_one]
      refine hQn _ _ _ (by omega) ⟨k + 1, rfl, by omega, ?_, ?_, ?_, ?_, ?_, ?_, fun b' hb' => by rw [Heap.get_upd_ne _ _ hb']; exact gk b' hb'⟩
      · simp only [↓reduceIte, reduceCtorEq, Za, Zb, Zc, Zd, Ze, Zf, Zg, Zh, Zi, Zj, Zk, Zl, Zm, Zn, Zo, Zp, Zq, Zr, Zs, Zt, Zu, Zv, gval, Zw, rb0, rb1, rb2, rb3, rb4, tf0, tf1, tf2, tf3, tf4, Yk, f4]
      · simp only [↓reduceIte, reduceCtorEq, Za, Zb, Zc, Zd, Ze, Zf, Zg, Zh, Zi, Zj, Zk, Zl, Zm, Zn, Zo, Zp, Zq, Zr, Zs, Zt, Zu, Zv, gval, Zw, rb0, rb1, rb2, rb3, rb4, tf0, tf1, tf2, tf3, tf4, Yk, f6]
      · simp only [↓reduceIte, reduceCtorEq, Za, Zb, Zc, Zd, Ze, Zf, Zg, Zh, Zi, Zj, Zk, Zl, Zm, Zn, Zo, Zp, Zq, Zr, Zs, Zt, Zu, Zv, gval, Zw, rb0, rb1, rb2, rb3, rb4, tf0, tf1, tf2, tf3, tf4, Yk, f8]
      · simp only [↓reduceIte, reduceCtorEq, Za, Zb, Zc, Zd, Ze, Zf, Zg, Zh, Zi, Zj, Zk, Zl, Zm, Zn, Zo, Zp, Zq, Zr, Zs, Zt, Zu, Zv, gval, Zw, rb0, rb1, rb2, rb3, rb4, tf0, tf1, tf2, tf3, tf4, Yk]
        rfl
      · rw [Heap.get_upd_same, partI_set hv hc6 (hv0 (3 + k) (by omega))]
      · rw [Heap.nx_upd]; exact gn
    · obtain rfl : k = 6 := by omega
      simp (disch := (first | omega | rfl | (simp only [Yn]; omega))) only [↓reduceIte, reduceCtorEq, Za, Zb, Zc, Zd, Ze, Zf, Zg, Zh, Zi, Zj, Zk, Zl, Zm, Zn, Zo, Zp, Zq, Zr, Zs, Zt, Zu, Zv, gval, Zw, rb0, rb1, rb2, rb3, rb4, tf0, tf1, tf2, tf3, tf4, Yk, Yh, overL_one, if_pos, stX_exactN, f44]
      exact hQx _ _ _ (by simp) ⟨rfl, by simp only [↓reduceIte, reduceCtorEq, Za, Zb, Zc, Zd, Ze, Zf, Zg, Zh, Zi, Zj, Zk, Zl, Zm, Zn, Zo, Zp, Zq, Zr, Zs, Zt, Zu, Zv, gval, Zw, rb0, rb1, rb2, rb3, rb4, tf0, tf1, tf2, tf3, tf4, Yk, f4], by simp only [↓reduceIte, reduceCtorEq, Za, Zb, Zc, Zd, Ze, Zf, Zg, Zh, Zi, Zj, Zk, Zl, Zm, Zn, Zo, Zp, Zq, Zr, Zs, Zt, Zu, Zv, gval, Zw, rb0, rb1, rb2, rb3, rb4, tf0, tf1, tf2, tf3, tf4, Yk, f8], gd, gn, gk⟩
  · refine ⟨0, rfl, by omega, ?_, ?_, ?_, ?_, by rw [Heap.get_new_same], by rw [Heap.nx_new], fun b' hb' => by rw [Heap.get_new_ne _ _ hb']⟩
    · simp only [↓reduceIte, reduceCtorEq, Za, Zb, Zc, Zd, Ze, Zf, Zg, Zh, Zi, Zj, Zk, Zl, Zm, Zn, Zo, Zp, Zq, Zr, Zs, Zt, Zu, Zv, gval, Zw, rb0, rb1, rb2, rb3, rb4, tf0, tf1, tf2, tf3, tf4, Yk]
    · simp only [↓reduceIte, reduceCtorEq, Za, Zb, Zc, Zd, Ze, Zf, Zg, Zh, Zi, Zj, Zk, Zl, Zm, Zn, Zo, Zp, Zq, Zr, Zs, Zt, Zu, Zv, gval, Zw, rb0, rb1, rb2, rb3, rb4, tf0, tf1, tf2, tf3, tf4, Yk]
    · simp only [↓reduceIte, reduceCtorEq, Za, Zb, Zc, Zd, Ze, Zf, Zg, Zh, Zi, Zj, Zk, Zl, Zm, Zn, Zo, Zp, Zq, Zr, Zs, Zt, Zu, Zv, gval, Zw, rb0, rb1, rb2, rb3, rb4, tf0, tf1, tf2, tf3, tf4, Yk]
    · simp only [↓reduceIte, reduceCtorEq, Za, Zb, Zc, Zd, Ze, Zf, Zg, Zh, Zi, Zj, Zk, Zl, Zm, Zn, Zo, Zp, Zq, Zr, Zs, Zt, Zu, Zv, gval, Zw, rb0, rb1, rb2, rb3, rb4, tf0, tf1, tf2, tf3, tf4, Yk]
  · rintro ex e h2 - ⟨rfl, f4, f8, gd, gn, gk⟩
    have hg0 : h2.get h.nx = some (cellsB [.int .i64 0, .int .i64 0, .int .i64 0, .int .i64 0, .int .i64 0, .int .i64 0, .int .i64 0, .int .i64 0, .int .i64 0] .exact) := (gk _ (by omega)).trans hgb
    have hpl := partI_len hv (Nat.le_refl 6)
    have hp6 : partI (inoI L i) 6 = i64s (inoI L i) := by unfold partI; rw [List.take_of_length_le (by omega)]; simp
    have ht9 : (i64s (inoI L i)).take 9 = i64s (inoI L i) := List.take_of_length_le (by rw [List.length_map]; omega)
    have hov : ∀ Z : List Value, Z.length = 9 → overL Z 0 (i64s (inoI L i)) = i64s (inoI L i) := fun Z hZ => by
      unfold overL
      rw [List.take_zero, List.nil_append, List.length_map, hv, List.drop_eq_nil_of_le (by omega), List.append_nil]
    have hl9 : (i64s (inoI L i)).length = 9 := by rw [List.length_map, hv]
    rw [hp6] at gd
    simp (disch := (first | omega | rfl | (simp only [Yn]; omega))) only [↓reduceIte, reduceCtorEq, Za, Zb, Zc, Zd, Ze, Zf, Zg, Zh, Zi, Zj, Zk, Zl, Zm, Zn, Zo, Zp, Zq, Zr, Zs, Zt, Zu, Zv, gval, Zw, rb0, rb1, rb2, rb3, rb4, tf0, tf1, tf2, tf3, tf4, Yk, Yh, overL_one, if_pos, stX_exactN, f4, f8, gd, hl9, ht9, hg0]
    simp only [hov _ (show [Value.int .i64 0, .int .i64 0, .int .i64 0, .int .i64 0, .int .i64 0, .int .i64 0, .int .i64 0, .int .i64 0, .int .i64 0].length = 9 from rfl), hl9, ht9, Nat.le_refl, if_true]
    refine ⟨_, rfl, hR _ ?_ ?_ fun b' h1 h2' => ?_⟩
    · rw [Heap.nx_upd]; omega
    · refine g3.keep (by rw [Heap.nx_upd]; omega) ?_ ?_
      · rw [Heap.get_upd_ne _ _ (by omega)]; exact gk _ (by omega)
      · rw [Heap.get_upd_ne _ _ (by omega)]; exact gk _ (by omega)
    · rw [Heap.get_upd_ne _ _ (by omega), gk _ (by omega), g4 _ (by omega) h2', hka _ h1]
set_option maxRecDepth 100000 in
theorem iget_none (h18 : (sp 18).isNone = true) (h43 : (sp 43).isNone = true) {v : Value} {i : Int} (hi : ¬ (0 ≤ i ∧ i < 32))
    (hR : ∀ h', h.nx ≤ h'.nx → (∀ b', b' < h.nx → h'.get b' = h.get b') → R (.ret (.tuple #[.agg (i64s (List.replicate 9 0)).toArray, .int .i64 101])) h') :
    WF Tryd.prog 1 sp 18 [v, .int .i64 i] h R := by
  refine wf_fn (fn := Tryd.f18) h18 rfl (by kernel_rfl) rfl ?_
  simp only [↓reduceIte, reduceCtorEq, Za, Zb, Zc, Zd, Ze, Zf, Zg, Zh, Zi, Zj, Zk, Zl, Zm, Zn, Zo, Zp, Zq, Zr, Zs, Zt, Zu, Zv, gval, Zw, rb0, rb1, rb2, rb3, rb4, tf0, tf1, tf2, tf3, tf4, Yk, Tryd.f18]
  refine runC_of (in_spec h43 ?_)
  rw [decide_eq_false hi]
  simp (disch := (first | omega | rfl | (simp only [Yn]; omega))) only [↓reduceIte, reduceCtorEq, Za, Zb, Zc, Zd, Ze, Zf, Zg, Zh, Zi, Zj, Zk, Zl, Zm, Zn, Zo, Zp, Zq, Zr, Zs, Zt, Zu, Zv, gval, Zw, rb0, rb1, rb2, rb3, rb4, tf0, tf1, tf2, tf3, tf4, Yk, Yh, overL_one, if_pos, stX_exactN]
  refine hR _ ?_ fun b' hb' => ?_
  · rw [Heap.nx_upd, Heap.nx_new]; omega
  · rw [Heap.get_upd_ne _ _ (by omega), Heap.get_new_ne _ _ (by omega)]
end Go.Proofs.YtmadjdgipfdnkaaDoor
end
section
/- Inodes: Put. Conditions: the disk lies as the rule names. -/
namespace Go.Proofs.YtmadjdgipfdnkaaDoor
open Go.AM
open Nat renaming reduceBEq → Za, reduceEqDiff → Zb, reduceAdd → Zc, reduceSub → Zd, reduceMul → Ze, reduceLT → Zf, reduceLeDiff → Zg, reduceDiv → Zh, reduceMod → Zi, reducePow → Zj
open Int renaming reduceAdd → Zk, reduceSub → Zl, reduceMul → Zm, reduceLT → Zn, reduceLE → Zo, reduceEq → Zp, reduceNe → Zq, reduceNeg → Zr, reduceToNat → Zs, reduceDiv → Zt, reduceMod → Zu, reducePow → Zv, cast_ofNat_Int → Zw
set_option linter.unusedSimpArgs false
variable {sp : Special} {h : Heap} {R : Out → Heap → Prop}
def putB (B : List Int) (o : Nat) (xs : List Int) (m : Nat) : List Int := B.take o ++ (xs.take m) ++ B.drop (o + m)
theorem putB_len {B : List Int} {o : Nat} {xs : List Int} {m : Nat} (h : o + m ≤ B.length) (hm : m ≤ xs.length) : (putB B o xs m).length = B.length := by
  unfold putB
  simp only [List.length_append, List.length_take, List.length_drop]; omega
theorem putB_zero {B : List Int} {o : Nat} {xs : List Int} : putB B o xs 0 = B := by
  unfold putB
  rw [List.take_zero, List.append_nil, Nat.add_zero, List.take_append_drop]
theorem putB_set {B : List Int} {o : Nat} {xs : List Int} {m : Nat} {v : Int} (h : o + m < B.length) (hv : xs[m]? = some v) : (putB B o xs m).set (o + m) v = putB B o xs (m + 1) := by
  obtain ⟨hm, rfl⟩ := List.getElem?_eq_some_iff.1 hv
  unfold putB
  have hl : (B.take o ++ xs.take m).length = o + m := by simp only [List.length_append, List.length_take]; omega
  rw [List.set_append_right _ _ (by omega), hl, Nat.sub_self, List.drop_eq_getElem_cons h, List.set_cons_zero, List.take_succ_eq_append_getElem hm, show o + (m + 1) = o + m + 1 by omega]
  simp only [List.append_assoc, List.cons_append, List.nil_append]
theorem putB_setv {B : List Int} {o : Nat} {xs : List Int} {m : Nat} {v : Int} (h : o + m < B.length) (hv : xs[m]? = some v) : (u64s (putB B o xs m)).set (o + m) (.int .u64 v) = u64s (putB B o xs (m + 1)) := by
  rw [← putB_set h hv, ← List.map_set]
def putL (L : List Int) (i : Nat) (x : List Int) : List Int := L.take (inoAt i) ++ x.map (wrapF .u64 ·) ++ L.drop (inoAt i + 9)
theorem putL_eq {L : List Int} {i : Nat} {x : List Int} {o : Nat} (ho : i % 3 * 9 = o) (hx : x.length = 9) (hL : (1 + i / 3) * 32 + 32 ≤ L.length) :
    L.take ((1 + i / 3) * 32) ++ putB ((L.drop ((1 + i / 3) * 32)).take 32) o (x.map (wrapF .u64 ·)) 9 ++ L.drop ((1 + i / 3) * 32 + 32) = putL L i x := by
  unfold putL putB inoAt
  rw [ho]
  generalize (1 + i / 3) * 32 = b at *
  have hol : o ≤ 18 := by omega
  rw [show (x.map (wrapF .u64 ·)).take 9 = x.map (wrapF .u64 ·) from List.take_of_length_le (by rw [List.length_map]; omega), List.take_add, List.take_take, show min o 32 = o by omega]
  have key : L.drop (b + o + 9) = ((L.drop b).take 32).drop (o + 9) ++ L.drop (b + 32) := by
    have a1 : L.drop (b + o + 9) = (L.drop b).drop (o + 9) := by rw [List.drop_drop, Nat.add_assoc]
    have a2 : L.drop (b + 32) = (L.drop b).drop 32 := by rw [List.drop_drop]
    rw [a1, a2]
    conv => lhs; rw [← List.take_append_drop 32 (L.drop b)]
    rw [List.drop_append_of_le_length (by rw [List.length_take, List.length_drop]; omega)]
  rw [key]
  simp only [List.append_assoc]
set_option maxRecDepth 100000 in
theorem iput_spec (h19 : (sp 19).isNone = true) (h39 : (sp 39).isNone = true) (h43 : (sp 43).isNone = true) (h0 : (sp 106).isNone = true) (h1 : (sp 109).isNone = true) (h2' : (sp 108).isNone = true) {bd bl n : Nat} {L : List Int} (hd : DiskAt h bd bl n L) (hn : 12 ≤ n) {i : Nat} (hi : i < 32) {x : List Int} (hx : x.length = 9)
    (hR : ∀ h', h.nx ≤ h'.nx → DiskAt h' bd bl n (putL L i x) → (∀ b', b' < h.nx → b' ≠ bd → b' ≠ bl → h'.get b' = h.get b') → R (.ret (.int .i64 0)) h') :
    WF Tryd.prog 1 sp 19 [.iface 23 (.pointer (some ⟨bd, 0, none⟩)), .int .i64 i, .agg (i64s x).toArray] h R := by
  refine wf_fn (fn := Tryd.f19) h19 rfl (by kernel_rfl) rfl ?_
  have q1 := hd.bd_lt
  have q2 := hd.bl_lt
  simp only [↓reduceIte, reduceCtorEq, Za, Zb, Zc, Zd, Ze, Zf, Zg, Zh, Zi, Zj, Zk, Zl, Zm, Zn, Zo, Zp, Zq, Zr, Zs, Zt, Zu, Zv, gval, Zw, rb0, rb1, rb2, rb3, rb4, tf0, tf1, tf2, tf3, tf4, Yk, Tryd.f19]
  refine runC_of (in_spec h43 ?_)
  rw [decide_eq_true (show 0 ≤ (i : Int) ∧ (i : Int) < 32 by omega)]
  have hq : (i : Int).tdiv 3 = ((i / 3 : Nat) : Int) := by rw [Int.tdiv_eq_ediv_of_nonneg (by omega)]; omega
  have hm : (i : Int).tmod 3 = ((i % 3 : Nat) : Int) := by rw [Int.tmod_eq_emod_of_nonneg (by omega)]; omega
  have e1 : wrapF .i64 ((i / 3 : Nat) : Int) = ((i / 3 : Nat) : Int) := wrapI (by omega) (by omega)
  have e2 : wrapF .i64 (1 + ((i / 3 : Nat) : Int)) = ((1 + i / 3 : Nat) : Int) := by rw [wrapI (by omega) (by omega)]; omega
  have e3 : wrapF .i64 ((i % 3 : Nat) : Int) = ((i % 3 : Nat) : Int) := wrapI (by omega) (by omega)
  have e4 : wrapF .i64 (((i % 3 : Nat) : Int) * 9) = ((i % 3 * 9 : Nat) : Int) := by rw [wrapI (by omega) (by omega)]; omega
  simp only [↓reduceIte, reduceCtorEq, Za, Zb, Zc, Zd, Ze, Zf, Zg, Zh, Zi, Zj, Zk, Zl, Zm, Zn, Zo, Zp, Zq, Zr, Zs, Zt, Zu, Zv, gval, Zw, rb0, rb1, rb2, rb3, rb4, tf0, tf1, tf2, tf3, tf4, Yk, hq, e1, e2]
  obtain ⟨ha, hha⟩ : ∃ ha, h.new (cellsB (i64s x) .exact) = ha := ⟨_, rfl⟩
  have hna : ha.nx = h.nx + 1 := by rw [← hha, Heap.nx_new]
  have hka : ∀ b', b' < h.nx → ha.get b' = h.get b' := fun b' hb' => by rw [← hha, Heap.get_new_ne _ _ (by omega)]
  have hga : ha.get h.nx = some (cellsB (i64s x) .exact) := by rw [← hha, Heap.get_new_same]
  rw [hha]
  refine runC_of (get_spec h39 h0 h1 (hd.keep (h' := ha) (by omega) (hka _ q1) (hka _ q2)) (b := 1 + i / 3) (by omega) fun hb g1 g2 g3 g4 => ?_)
  have hlen := hd.len
  have hbl : (u64s ((L.drop ((1 + i / 3) * 32)).take 32)).length = 32 := by rw [List.length_map, List.length_take, List.length_drop]; omega
  have hsl := slS_loose (k := .i64) (off := 0) (n := 32) (c := 32) (l := i % 3 * 9) g2 (by rw [hbl]) (by omega) (by omega)
  simp (disch := (first | omega | rfl | (simp only [Yn]; omega))) only [↓reduceIte, reduceCtorEq, Za, Zb, Zc, Zd, Ze, Zf, Zg, Zh, Zi, Zj, Zk, Zl, Zm, Zn, Zo, Zp, Zq, Zr, Zs, Zt, Zu, Zv, gval, Zw, rb0, rb1, rb2, rb3, rb4, tf0, tf1, tf2, tf3, tf4, Yk, Yh, overL_one, if_pos, stX_exactN, hm, e3, e4, hsl]
  refine run_draw (ps := [(5, 7), (4, 8), (5, 8), (5, 10), (8, 10), (4, 11), (5, 11), (7, 11), (8, 11), (7, 13), (8, 13), (10, 13), (11, 13), (10, 15), (11, 15)]) (by kernel_rfl) (by kernel_rfl) ?_
  obtain ⟨o, ho⟩ : ∃ o, i % 3 * 9 = o := ⟨_, rfl⟩
  have hol : o ≤ 18 := by omega
  obtain ⟨B, hB⟩ : ∃ B, (L.drop ((1 + i / 3) * 32)).take 32 = B := ⟨_, rfl⟩
  rw [hB] at g2 hbl
  rw [List.length_map] at hbl
  obtain ⟨xs, hxs⟩ : ∃ xs, x.map (wrapF .u64 ·) = xs := ⟨_, rfl⟩
  have hxl : xs.length = 9 := by rw [← hxs, List.length_map, hx]
  have hxg : ∀ j v, x[j]? = some v → xs[j]? = some (wrapF .u64 v) := fun j v hv => by rw [← hxs, List.getElem?_map, hv]; rfl
  have hgx : hb.get h.nx = some (cellsB (i64s x) .exact) := (g4 _ (by omega) (by omega)).trans hga
  have hxi : ∀ j, j < 9 → x[j]? = some x[j]! := fun j hj => by rw [List.getElem?_eq_getElem (by omega), getElem!_pos x j (by omega)]
  have y0 : (i64s x)[0]? = some (.int .i64 x[0]!) := by rw [List.getElem?_map, hxi 0 (by omega)]; rfl
  have y1 : (i64s x)[1]? = some (.int .i64 x[1]!) := by rw [List.getElem?_map, hxi 1 (by omega)]; rfl
  have y2 : (i64s x)[2]? = some (.int .i64 x[2]!) := by rw [List.getElem?_map, hxi 2 (by omega)]; rfl
  have r0 : (0 : Int) < ((32 - o : Nat) : Int) := by omega
  have r1 : (1 : Int) < ((32 - o : Nat) : Int) := by omega
  have r2 : (2 : Int) < ((32 - o : Nat) : Int) := by omega
  have hix : (i64s x).length = 9 := by rw [List.length_map, hx]
  rw [ho]
  have z0 := putB_setv (B := B) (o := o) (xs := xs) (m := 0) (by omega) (hxg 0 _ (hxi 0 (by omega)))
  have z1 := putB_setv (B := B) (o := o) (xs := xs) (m := 1) (by omega) (hxg 1 _ (hxi 1 (by omega)))
  have z2 := putB_setv (B := B) (o := o) (xs := xs) (m := 2) (by omega) (hxg 2 _ (hxi 2 (by omega)))
  rw [← putB_zero (B := B) (o := o) (xs := xs)] at g2
  have l0 : (u64s (putB B o xs 0)).length = 32 := by rw [List.length_map, putB_len (by omega) (by omega), hbl]
  have l1 : (u64s (putB B o xs 1)).length = 32 := by rw [List.length_map, putB_len (by omega) (by omega), hbl]
  have l2 : (u64s (putB B o xs 2)).length = 32 := by rw [List.length_map, putB_len (by omega) (by omega), hbl]
  rw [Nat.add_zero] at z0
  simp (disch := (first | omega | rfl | (simp only [Yn]; omega))) only [↓reduceIte, reduceCtorEq, Za, Zb, Zc, Zd, Ze, Zf, Zg, Zh, Zi, Zj, Zk, Zl, Zm, Zn, Zo, Zp, Zq, Zr, Zs, Zt, Zu, Zv, gval, Zw, rb0, rb1, rb2, rb3, rb4, tf0, tf1, tf2, tf3, tf4, Yk, Yh, overL_one, if_pos, stX_exactN, r0, r1, r2, g2, hgx, hix, y0, y1, y2, l0, l1, l2, z0, z1, z2, Nat.mul_one, nbeq_ne]
  obtain ⟨A, hA⟩ : ∃ A, ((i64s x).drop 3).take 6 = A := ⟨_, rfl⟩
  have hAg : ∀ k, k < 6 → A[k]? = some (.int .i64 x[3 + k]!) := fun k hk => by
    rw [← hA, List.getElem?_take, if_pos hk, List.getElem?_drop, List.getElem?_map, hxi (3 + k) (by omega)]; rfl
  refine run_loop2 rfl (fun m e h2 => ∃ k : Nat, m = 6 - k ∧ k ≤ 6 ∧ e.at 0 = .iface 23 (.pointer (some ⟨bd, 0, none⟩)) ∧ e.at 1 = .int .i64 i ∧ e.at 7 = .slice (some ⟨ha.nx, 0, none⟩) 32 32 ∧ e.at 9 = .slice (some ⟨ha.nx, o, none⟩) (32 - o) (32 - o) ∧ e.at 47 = .agg A.toArray ∧ e.at 48 = .int .i64 k ∧
      h2.get ha.nx = some (cellsB (u64s (putB B o xs (3 + k))) (.loose 1)) ∧ h2.nx = hb.nx ∧ ∀ b', b' ≠ ha.nx → h2.get b' = hb.get b')
    (fun ex e h2 => ex = .exit 0 ∧ e.at 0 = .iface 23 (.pointer (some ⟨bd, 0, none⟩)) ∧ e.at 1 = .int .i64 i ∧ e.at 7 = .slice (some ⟨ha.nx, 0, none⟩) 32 32 ∧ h2.get ha.nx = some (cellsB (u64s (putB B o xs 9)) (.loose 1)) ∧ h2.nx = hb.nx ∧ ∀ b', b' ≠ ha.nx → h2.get b' = hb.get b') ?_ 6 _ _ ?_ ?_
  · rintro m e h2 ⟨k, rfl, hk, f0, f1, f7, f9, f47, f48, gd, gn, gk⟩ Q' hQn hQx
    by_cases hc6 : k < 6
    · have hc6' : (k : Int) < 6 := by omega
      have w1 : wrapF .i64 (3 + (k : Int)) = ((3 + k : Nat) : Int) := by rw [wrapI (by omega) (by omega)]; omega
      have w2 : wrapF .i64 ((k : Int) + 1) = (k : Int) + 1 := wrapI (by omega) (by omega)
      have rk : ((3 + k : Nat) : Int) < ((32 - o : Nat) : Int) := by omega
      have ak := hAg k hc6
      have lk : (u64s (putB B o xs (3 + k))).length = 32 := by rw [List.length_map, putB_len (by omega) (by omega), hbl]
      have zk := putB_setv (B := B) (o := o) (xs := xs) (m := 3 + k) (by omega) (hxg (3 + k) _ (hxi (3 + k) (by omega)))
      have hia : A.length = 6 := by rw [← hA, List.length_take, List.length_drop, hix]; rfl
      simp (disch := (first | omega | rfl | (simp only [Yn]; omega))) only [↓reduceIte, reduceCtorEq, Za, Zb, Zc, Zd, Ze, Zf, Zg, Zh, Zi, Zj, Zk, Zl, Zm, Zn, Zo, Zp, Zq, Zr, Zs, Zt, Zu, Zv, gval, Zw, rb0, rb1, rb2, rb3, rb4, tf0, tf1, tf2, tf3, tf4, Yk, Yh, overL_one, if_pos, stX_exactN, f0, f1, f7, f9, f47, f48, hc6', u_index _ _ _ arr_41, ak, w1, w2, rk, gd, lk, zk, Nat.mul_one]
      refine hQn _ _ _ (by omega) ⟨k + 1, rfl, by omega, ?_, ?_, ?_, ?_, ?_, ?_, by rw [Heap.get_upd_same]; rfl, by rw [Heap.nx_upd]; exact gn, fun b' hb' => by rw [Heap.get_upd_ne _ _ hb']; exact gk b' hb'⟩
      · simp only [↓reduceIte, reduceCtorEq, Za, Zb, Zc, Zd, Ze, Zf, Zg, Zh, Zi, Zj, Zk, Zl, Zm, Zn, Zo, Zp, Zq, Zr, Zs, Zt, Zu, Zv, gval, Zw, rb0, rb1, rb2, rb3, rb4, tf0, tf1, tf2, tf3, tf4, Yk, f0]
      · simp only [↓reduceIte, reduceCtorEq, Za, Zb, Zc, Zd, Ze, Zf, Zg, Zh, Zi, Zj, Zk, Zl, Zm, Zn, Zo, Zp, Zq, Zr, Zs, Zt, Zu, Zv, gval, Zw, rb0, rb1, rb2, rb3, rb4, tf0, tf1, tf2, tf3, tf4, Yk, f1]
      · simp only [↓reduceIte, reduceCtorEq, Za, Zb, Zc, Zd, Ze, Zf, Zg, Zh, Zi, Zj, Zk, Zl, Zm, Zn, Zo, Zp, Zq, Zr, Zs, Zt, Zu, Zv, gval, Zw, rb0, rb1, rb2, rb3, rb4, tf0, tf1, tf2, tf3, tf4, Yk, f7]
      · simp only [↓reduceIte, reduceCtorEq, Za, Zb, Zc, Zd, Ze, Zf, Zg, Zh, Zi, Zj, Zk, Zl, Zm, Zn, Zo, Zp, Zq, Zr, Zs, Zt, Zu, Zv, gval, Zw, rb0, rb1, rb2, rb3, rb4, tf0, tf1, tf2, tf3, tf4, Yk, f9]
      · simp only [↓reduceIte, reduceCtorEq, Za, Zb, Zc, Zd, Ze, Zf, Zg, Zh, Zi, Zj, Zk, Zl, Zm, Zn, Zo, Zp, Zq, Zr, Zs, Zt, Zu, Zv, gval, Zw, rb0, rb1, rb2, rb3, rb4, tf0, tf1, tf2, tf3, tf4, Yk, f47]
      · simp only [↓reduceIte, reduceCtorEq, Za, Zb, Zc, Zd, Ze, Zf, Zg, Zh, Zi, Zj, Zk, Zl, Zm, Zn, Zo, Zp, Zq, Zr, Zs, Zt, Zu, Zv, gval, Zw, rb0, rb1, rb2, rb3, rb4, tf0, tf1, tf2, tf3, tf4, Yk]
        rfl
    · obtain rfl : k = 6 := by omega
      simp (disch := (first | omega | rfl | (simp only [Yn]; omega))) only [↓reduceIte, reduceCtorEq, Za, Zb, Zc, Zd, Ze, Zf, Zg, Zh, Zi, Zj, Zk, Zl, Zm, Zn, Zo, Zp, Zq, Zr, Zs, Zt, Zu, Zv, gval, Zw, rb0, rb1, rb2, rb3, rb4, tf0, tf1, tf2, tf3, tf4, Yk, Yh, overL_one, if_pos, stX_exactN, f48]
      exact hQx _ _ _ (by simp) ⟨rfl, by simp only [↓reduceIte, reduceCtorEq, Za, Zb, Zc, Zd, Ze, Zf, Zg, Zh, Zi, Zj, Zk, Zl, Zm, Zn, Zo, Zp, Zq, Zr, Zs, Zt, Zu, Zv, gval, Zw, rb0, rb1, rb2, rb3, rb4, tf0, tf1, tf2, tf3, tf4, Yk, f0], by simp only [↓reduceIte, reduceCtorEq, Za, Zb, Zc, Zd, Ze, Zf, Zg, Zh, Zi, Zj, Zk, Zl, Zm, Zn, Zo, Zp, Zq, Zr, Zs, Zt, Zu, Zv, gval, Zw, rb0, rb1, rb2, rb3, rb4, tf0, tf1, tf2, tf3, tf4, Yk, f1], by simp only [↓reduceIte, reduceCtorEq, Za, Zb, Zc, Zd, Ze, Zf, Zg, Zh, Zi, Zj, Zk, Zl, Zm, Zn, Zo, Zp, Zq, Zr, Zs, Zt, Zu, Zv, gval, Zw, rb0, rb1, rb2, rb3, rb4, tf0, tf1, tf2, tf3, tf4, Yk, f7], gd, gn, gk⟩
  · refine ⟨0, rfl, by omega, ?_, ?_, ?_, ?_, ?_, ?_, Heap.get_upd_same _ _ _, by rw [Heap.nx_upd], fun b' hb' => by rw [Heap.get_upd_ne _ _ hb']⟩
    · simp only [↓reduceIte, reduceCtorEq, Za, Zb, Zc, Zd, Ze, Zf, Zg, Zh, Zi, Zj, Zk, Zl, Zm, Zn, Zo, Zp, Zq, Zr, Zs, Zt, Zu, Zv, gval, Zw, rb0, rb1, rb2, rb3, rb4, tf0, tf1, tf2, tf3, tf4, Yk]
    · simp only [↓reduceIte, reduceCtorEq, Za, Zb, Zc, Zd, Ze, Zf, Zg, Zh, Zi, Zj, Zk, Zl, Zm, Zn, Zo, Zp, Zq, Zr, Zs, Zt, Zu, Zv, gval, Zw, rb0, rb1, rb2, rb3, rb4, tf0, tf1, tf2, tf3, tf4, Yk]
    · simp only [↓reduceIte, reduceCtorEq, Za, Zb, Zc, Zd, Ze, Zf, Zg, Zh, Zi, Zj, Zk, Zl, Zm, Zn, Zo, Zp, Zq, Zr, Zs, Zt, Zu, Zv, gval, Zw, rb0, rb1, rb2, rb3, rb4, tf0, tf1, tf2, tf3, tf4, Yk]
    · simp only [↓reduceIte, reduceCtorEq, Za, Zb, Zc, Zd, Ze, Zf, Zg, Zh, Zi, Zj, Zk, Zl, Zm, Zn, Zo, Zp, Zq, Zr, Zs, Zt, Zu, Zv, gval, Zw, rb0, rb1, rb2, rb3, rb4, tf0, tf1, tf2, tf3, tf4, Yk]
    · simp only [↓reduceIte, reduceCtorEq, Za, Zb, Zc, Zd, Ze, Zf, Zg, Zh, Zi, Zj, Zk, Zl, Zm, Zn, Zo, Zp, Zq, Zr, Zs, Zt, Zu, Zv, gval, Zw, rb0, rb1, rb2, rb3, rb4, tf0, tf1, tf2, tf3, tf4, Yk, hA]
    · simp only [↓reduceIte, reduceCtorEq, Za, Zb, Zc, Zd, Ze, Zf, Zg, Zh, Zi, Zj, Zk, Zl, Zm, Zn, Zo, Zp, Zq, Zr, Zs, Zt, Zu, Zv, gval, Zw, rb0, rb1, rb2, rb3, rb4, tf0, tf1, tf2, tf3, tf4, Yk]
  · rintro ex e h2 - ⟨rfl, f0, f1, f7, gd, gn, gk⟩
    simp only [↓reduceIte, reduceCtorEq, Za, Zb, Zc, Zd, Ze, Zf, Zg, Zh, Zi, Zj, Zk, Zl, Zm, Zn, Zo, Zp, Zq, Zr, Zs, Zt, Zu, Zv, gval, Zw, rb0, rb1, rb2, rb3, rb4, tf0, tf1, tf2, tf3, tf4, Yk, f0, f1, f7, hq, e1, e2, u_invoke, invK_iface, inv_put]
    have hd2 : DiskAt h2 bd bl n L := g3.keep (by omega) (gk _ (by omega)) (gk _ (by omega))
    have hl9 : (putB B o xs 9).length = 32 := by rw [putB_len (by omega) (by omega), hbl]
    refine runC_of (dput_spec h2' h1 hd2 (b := 1 + i / 3) (by omega) gd (off := 0) (W := putB B o xs 9) (by rw [List.drop_zero, List.take_of_length_le (by rw [List.length_map]; omega)]) hl9 (fun h3 p1 p2 p3 => ?_) (by omega))
    simp only [↓reduceIte, reduceCtorEq, Za, Zb, Zc, Zd, Ze, Zf, Zg, Zh, Zi, Zj, Zk, Zl, Zm, Zn, Zo, Zp, Zq, Zr, Zs, Zt, Zu, Zv, gval, Zw, rb0, rb1, rb2, rb3, rb4, tf0, tf1, tf2, tf3, tf4, Yk]
    rw [← hB, ← hxs, putL_eq ho hx (by omega)] at p2
    refine hR h3 (by omega) p2 fun b' w1 w2 w3 => ?_
    rw [p3 b' w2 w3, gk b' (by omega), g4 b' (by omega) w2, hka b' w1]
end Go.Proofs.YtmadjdgipfdnkaaDoor
end
section
/- InodePuts: the law's own steps. Conditions: the disk lies as the rule names. -/
namespace Go.Proofs.YtmadjdgipfdnkaaDoor
open Go.AM
open Nat renaming reduceBEq → Za, reduceEqDiff → Zb, reduceAdd → Zc, reduceSub → Zd, reduceMul → Ze, reduceLT → Zf, reduceLeDiff → Zg, reduceDiv → Zh, reduceMod → Zi, reducePow → Zj
open Int renaming reduceAdd → Zk, reduceSub → Zl, reduceMul → Zm, reduceLT → Zn, reduceLE → Zo, reduceEq → Zp, reduceNe → Zq, reduceNeg → Zr, reduceToNat → Zs, reduceDiv → Zt, reduceMod → Zu, reducePow → Zv, cast_ofNat_Int → Zw
set_option linter.unusedSimpArgs false
variable {sp : Special} {h : Heap} {R : Out → Heap → Prop}
noncomputable def pairXQ (X : Blk) (n : Int) : Option (Out × Heap) := acall Tryd.prog (0 + 1) noSp 400 20 12 [.int .i64 n] (H0.new X)
noncomputable def pairXH (X : Blk) (n : Int) : Heap := match pairXQ X n with
  | some (_, h) => h
  | none => H0
end Go.Proofs.YtmadjdgipfdnkaaDoor
end
section
/- InodePuts: the law's own steps. Conditions: the inode's numbers are ints. -/
namespace Go.Proofs.YtmadjdgipfdnkaaDoor
open Go.AM
open Nat renaming reduceBEq → Za, reduceEqDiff → Zb, reduceAdd → Zc, reduceSub → Zd, reduceMul → Ze, reduceLT → Zf, reduceLeDiff → Zg, reduceDiv → Zh, reduceMod → Zi, reducePow → Zj
open Int renaming reduceAdd → Zk, reduceSub → Zl, reduceMul → Zm, reduceLT → Zn, reduceLE → Zo, reduceEq → Zp, reduceNe → Zq, reduceNeg → Zr, reduceToNat → Zs, reduceDiv → Zt, reduceMod → Zu, reducePow → Zv, cast_ofNat_Int → Zw
set_option linter.unusedSimpArgs false
variable {h : Heap} {R : Out → Heap → Prop}
theorem ifc23 (v : Value) : effIface Tryd.prog 23 v = ret (.iface 23 v) := by kernel_rfl
theorem overL_nine {Z V : List Value} (hz : Z.length = 9) (hv : V.length = 9) : overL Z 0 V = V := by
  unfold overL
  rw [List.take_zero, List.nil_append, hv, List.drop_eq_nil_of_le (by omega), List.append_nil]
end Go.Proofs.YtmadjdgipfdnkaaDoor
end
section
/- File systems as numbers: their words, what Get and Put do to them. Conditions: the disk lies as the rules name. -/
namespace Go.Proofs.YtmadjdgipfdnkaaDoor
open Go.AM
open Nat renaming reduceBEq → Za, reduceEqDiff → Zb, reduceAdd → Zc, reduceSub → Zd, reduceMul → Ze, reduceLT → Zf, reduceLeDiff → Zg, reduceDiv → Zh, reduceMod → Zi, reducePow → Zj
open Int renaming reduceAdd → Zk, reduceSub → Zl, reduceMul → Zm, reduceLT → Zn, reduceLE → Zo, reduceEq → Zp, reduceNe → Zq, reduceNeg → Zr, reduceToNat → Zs, reduceDiv → Zt, reduceMod → Zu, reducePow → Zv, cast_ofNat_Int → Zw
set_option linter.unusedSimpArgs false
variable {sp : Special} {h : Heap} {R : Out → Heap → Prop}
structure FS where
  n : Nat
  a : Nat
  b : Nat
  ino : Nat → Nat → Int
  dat : Nat → Nat → Int
def FS.D (s : FS) (b k : Nat) : Int :=
  if b = 0 then (if k = 0 then 318923232595 else if k = 1 then (s.n : Int) else if k = 2 then (s.a : Int) else if k = 3 then (s.b : Int) else 0)
  else if b < 12 then (if k < 27 then s.ino (3 * (b - 1) + k / 9) (k % 9) else 0)
  else s.dat b k
structure FS.Wf (s : FS) : Prop where
  n1 : 13 ≤ s.n
  n2 : s.n ≤ 60
  a : s.a < 4294967296
  b : s.b < bitN s.n
  ino : ∀ i j, 0 ≤ s.ino i j ∧ s.ino i j < 9223372036854775808
  dat : ∀ i j, 0 ≤ s.dat i j ∧ s.dat i j < 18446744073709551616
def flatD (n : Nat) (D : Nat → Nat → Int) : List Int := (List.range (n * 32)).map fun j => D (j / 32) (j % 32)
theorem flat_len {n : Nat} {D : Nat → Nat → Int} : (flatD n D).length = n * 32 := by unfold flatD; simp
theorem flat_get {n : Nat} {D : Nat → Nat → Int} {b k : Nat} (hb : b < n) (hk : k < 32) : (flatD n D)[b * 32 + k]? = some (D b k) := by
  unfold flatD
  rw [List.getElem?_map, List.getElem?_range (by omega)]
  show some (D ((b * 32 + k) / 32) ((b * 32 + k) % 32)) = _
  rw [show (b * 32 + k) / 32 = b by omega, show (b * 32 + k) % 32 = k by omega]
theorem flat_getj {n : Nat} {D : Nat → Nat → Int} {j : Nat} (hj : j < n * 32) : (flatD n D)[j]? = some (D (j / 32) (j % 32)) := by
  unfold flatD
  rw [List.getElem?_map, List.getElem?_range hj]; rfl
def rowD (D : Nat → Nat → Int) (b : Nat) : List Int := (List.range 32).map (D b)
theorem rowD_len {D : Nat → Nat → Int} {b : Nat} : (rowD D b).length = 32 := by unfold rowD; simp
theorem rowD_get {D : Nat → Nat → Int} {b k : Nat} (hk : k < 32) : (rowD D b)[k]? = some (D b k) := by
  unfold rowD
  rw [List.getElem?_map, List.getElem?_range hk]; rfl
theorem flat_block {n : Nat} {D : Nat → Nat → Int} {b : Nat} (hb : b < n) : ((flatD n D).drop (b * 32)).take 32 = rowD D b := by
  apply List.ext_getElem?
  intro k
  rw [List.getElem?_take]
  by_cases hk : k < 32
  · rw [if_pos hk, List.getElem?_drop, flat_get hb hk, rowD_get hk]
  · rw [if_neg hk, List.getElem?_eq_none (by rw [rowD_len]; omega)]
theorem flat_put {n : Nat} {D D' : Nat → Nat → Int} {b : Nat} {W : List Int} (hb : b < n) (hW : W.length = 32) (h1 : ∀ k, k < 32 → W[k]? = some (D' b k)) (h2 : ∀ b' k, b' < n → k < 32 → b' ≠ b → D' b' k = D b' k) : (flatD n D).take (b * 32) ++ W ++ (flatD n D).drop (b * 32 + 32) = flatD n D' := by
  have hl : (flatD n D).length = n * 32 := flat_len
  have hA : ((flatD n D).take (b * 32)).length = b * 32 := by rw [List.length_take]; omega
  apply List.ext_getElem?
  intro j
  by_cases hj : j < n * 32
  · rw [flat_getj hj]
    by_cases c1 : j < b * 32
    · rw [List.append_assoc, List.getElem?_append_left (by omega), List.getElem?_take, if_pos c1, flat_getj hj, h2 _ _ (by omega) (by omega) (by omega)]
    · by_cases c2 : j < b * 32 + 32
      · rw [List.append_assoc, List.getElem?_append_right (by omega), hA, List.getElem?_append_left (by omega), h1 _ (by omega), show j / 32 = b by omega, show j % 32 = j - b * 32 by omega]
      · rw [List.getElem?_append_right (by rw [List.length_append]; omega), List.getElem?_drop, List.length_append, hA, hW, show b * 32 + 32 + (j - (b * 32 + 32)) = j by omega, flat_getj hj, h2 _ _ (by omega) (by omega) (by omega)]
  · rw [List.getElem?_eq_none (by rw [List.length_append, List.length_append, List.length_drop]; omega), List.getElem?_eq_none (by rw [flat_len]; omega)]
def FS.putI (s : FS) (i : Nat) (x : Nat → Int) : FS := { s with ino := fun i' => if i' = i then x else s.ino i' }
def FS.putB (s : FS) (b : Nat) (w : Nat → Int) : FS := { s with dat := fun b' => if b' = b then w else s.dat b' }
def FS.maps (s : FS) (a b : Nat) : FS := { s with a := a, b := b }
def row9 (x : Nat → Int) : List Int := (List.range 9).map x
theorem row9_len {x : Nat → Int} : (row9 x).length = 9 := by unfold row9; simp
theorem row9_get {x : Nat → Int} {j : Nat} (hj : j < 9) : (row9 x)[j]? = some (x j) := by
  unfold row9
  rw [List.getElem?_map, List.getElem?_range hj]; rfl
theorem ino_D {s : FS} {i j : Nat} (hi : i < 32) (hj : j < 9) : s.D (1 + i / 3) (i % 3 * 9 + j) = s.ino i j := by
  unfold FS.D
  rw [if_neg (by omega), if_pos (by omega), if_pos (by omega), show 3 * (1 + i / 3 - 1) + (i % 3 * 9 + j) / 9 = i by omega, show (i % 3 * 9 + j) % 9 = j by omega]
theorem inoI_fs {s : FS} (hs : s.Wf) {i : Nat} (hi : i < 32) : inoI (flatD s.n s.D) i = row9 (s.ino i) := by
  unfold inoI row9
  refine List.map_congr_left fun j hj => ?_
  have hj : j < 9 := List.mem_range.1 hj
  have hn := hs.n1
  have := flat_get (n := s.n) (D := s.D) (b := 1 + i / 3) (k := i % 3 * 9 + j) (by omega) (by omega)
  rw [ino_D hi hj] at this
  rw [show inoAt i + j = (1 + i / 3) * 32 + (i % 3 * 9 + j) by unfold inoAt; omega, List.getElem!_eq_getElem?_getD, this]
  exact wrapI (by have := (hs.ino i j).1; show _ ≤ s.ino i j; omega) (hs.ino i j).2
theorem putL_fs {s : FS} (hs : s.Wf) {i : Nat} (hi : i < 32) {x : Nat → Int} (hx : ∀ j, j < 9 → 0 ≤ x j ∧ x j < 9223372036854775808) : putL (flatD s.n s.D) i (row9 x) = flatD s.n (s.putI i x).D := by
  have hn := hs.n1
  have hl : (flatD s.n s.D).length = s.n * 32 := flat_len
  have hM : ((row9 x).map (wrapF .u64 ·)).length = 9 := by rw [List.length_map, row9_len]
  have hat : inoAt i + 9 ≤ s.n * 32 := by unfold inoAt; omega
  have hA : ((flatD s.n s.D).take (inoAt i)).length = inoAt i := by rw [List.length_take]; omega
  have hD : ∀ j, j < s.n * 32 → ¬ (inoAt i ≤ j ∧ j < inoAt i + 9) → (s.putI i x).D (j / 32) (j % 32) = s.D (j / 32) (j % 32) := fun j hj hne => by
    unfold FS.D
    split
    · rfl
    · split
      · split
        · show (if 3 * (j / 32 - 1) + j % 32 / 9 = i then x else s.ino _) _ = _
          rw [if_neg]
          intro e
          apply hne
          subst e
          unfold inoAt
          omega
        · rfl
      · rfl
  unfold putL
  apply List.ext_getElem?
  intro j
  by_cases hj : j < s.n * 32
  · rw [flat_getj hj]
    by_cases c1 : j < inoAt i
    · rw [List.append_assoc, List.getElem?_append_left (by omega), List.getElem?_take, if_pos c1, flat_getj hj, hD j hj (by omega)]
    · by_cases c2 : j < inoAt i + 9
      · rw [List.append_assoc, List.getElem?_append_right (by omega), hA, List.getElem?_append_left (by omega), List.getElem?_map, row9_get (by omega)]
        have h1 := hx (j - inoAt i) (by omega)
        have e1 : j / 32 = 1 + i / 3 := by unfold inoAt at c1 c2; omega
        have e2 : j % 32 = i % 3 * 9 + (j - inoAt i) := by unfold inoAt at c1 c2 ⊢; omega
        rw [e1, e2, ino_D hi (by omega)]
        show some (wrapF .u64 (x (j - inoAt i))) = some ((if i = i then x else s.ino i) (j - inoAt i))
        rw [if_pos rfl, wrapU h1.1 (by omega)]
      · rw [List.getElem?_append_right (by rw [List.length_append]; omega), List.getElem?_drop, List.length_append, hA, hM, show inoAt i + 9 + (j - (inoAt i + 9)) = j by omega, flat_getj hj, hD j hj (by omega)]
  · rw [List.getElem?_eq_none (by rw [List.length_append, List.length_append, List.length_drop]; omega), List.getElem?_eq_none (by rw [flat_len]; omega)]
structure Fs (h : Heap) (bd bl : Nat) (s : FS) : Prop where
  d : DiskAt h bd bl s.n (flatD s.n s.D)
  wf : s.Wf
theorem Fs.keep {h' : Heap} {bd bl : Nat} {s : FS} (x : Fs h bd bl s) (hn : h.nx ≤ h'.nx) (h1 : h'.get bd = h.get bd) (h2 : h'.get bl = h.get bl) : Fs h' bd bl s := ⟨x.d.keep hn h1 h2, x.wf⟩
variable {bd bl : Nat} {s : FS}
theorem FS.Wf.putI (hs : s.Wf) {i : Nat} {x : Nat → Int} (hx : ∀ j, 0 ≤ x j ∧ x j < 9223372036854775808) : (s.putI i x).Wf := ⟨hs.n1, hs.n2, hs.a, hs.b, fun i' j => by
  show 0 ≤ (if i' = i then x else s.ino i') j ∧ (if i' = i then x else s.ino i') j < _
  split
  · exact hx j
  · exact hs.ino i' j, hs.dat⟩
theorem FS.Wf.putB (hs : s.Wf) {b : Nat} {w : Nat → Int} (hx : ∀ j, 0 ≤ w j ∧ w j < 18446744073709551616) : (s.putB b w).Wf := ⟨hs.n1, hs.n2, hs.a, hs.b, hs.ino, fun i' j => by
  show 0 ≤ (if i' = b then w else s.dat i') j ∧ (if i' = b then w else s.dat i') j < _
  split
  · exact hx j
  · exact hs.dat i' j⟩
theorem FS.Wf.maps (hs : s.Wf) {a b : Nat} (ha : a < 4294967296) (hb : b < bitN s.n) : (s.maps a b).Wf := ⟨hs.n1, hs.n2, ha, hb, hs.ino, hs.dat⟩
structure Plain (sp : Special) : Prop where
  p13 : (sp 13).isNone = true
  p14 : (sp 14).isNone = true
  p15 : (sp 15).isNone = true
  p16 : (sp 16).isNone = true
  p18 : (sp 18).isNone = true
  p19 : (sp 19).isNone = true
  p20 : (sp 20).isNone = true
  p21 : (sp 21).isNone = true
  p36 : (sp 36).isNone = true
  p37 : (sp 37).isNone = true
  p38 : (sp 38).isNone = true
  p39 : (sp 39).isNone = true
  p40 : (sp 40).isNone = true
  p41 : (sp 41).isNone = true
  p42 : (sp 42).isNone = true
  p43 : (sp 43).isNone = true
  p55 : (sp 55).isNone = true
  p56 : (sp 56).isNone = true
  p57 : (sp 57).isNone = true
  p58 : (sp 58).isNone = true
  p59 : (sp 59).isNone = true
  p60 : (sp 60).isNone = true
  p69 : (sp 69).isNone = true
  p70 : (sp 70).isNone = true
  p106 : (sp 106).isNone = true
  p108 : (sp 108).isNone = true
  p109 : (sp 109).isNone = true
theorem fget_spec (pl : Plain sp) (f : Fs h bd bl s) {b : Nat} (hb : b < s.n)
    (hR : ∀ h', h'.nx = h.nx + 1 → h'.get h.nx = some (cellsB (u64s (rowD s.D b)) (.loose 1)) → Fs h' bd bl s → (∀ b', b' < h.nx → b' ≠ bd → h'.get b' = h.get b') → R (.ret (.tuple #[.slice (some ⟨h.nx, 0, none⟩) 32 32, .int .i64 0])) h') :
    WF Tryd.prog 1 sp 39 [.iface 23 (.pointer (some ⟨bd, 0, none⟩)), .int .i64 b] h R :=
  get_spec pl.p39 pl.p106 pl.p109 f.d hb fun h' g1 g2 g3 g4 => hR h' g1 (by rw [g2, flat_block hb]) ⟨g3, f.wf⟩ g4
theorem figet_spec (pl : Plain sp) (f : Fs h bd bl s) {i : Nat} (hi : i < 32)
    (hR : ∀ h', h.nx ≤ h'.nx → Fs h' bd bl s → (∀ b', b' < h.nx → b' ≠ bd → h'.get b' = h.get b') → R (.ret (.tuple #[.agg (i64s (row9 (s.ino i))).toArray, .int .i64 0])) h') :
    WF Tryd.prog 1 sp 18 [.iface 23 (.pointer (some ⟨bd, 0, none⟩)), .int .i64 i] h R :=
  iget_spec pl.p18 pl.p39 pl.p43 pl.p106 pl.p109 f.d (by have := f.wf.n1; omega) hi fun h' g1 g2 g3 => by
    have := hR h' g1 ⟨g2, f.wf⟩ g3
    rwa [← inoI_fs f.wf hi] at this
theorem fiput_spec (pl : Plain sp) (f : Fs h bd bl s) {i : Nat} (hi : i < 32) {x : Nat → Int} (hx : ∀ j, 0 ≤ x j ∧ x j < 9223372036854775808)
    (hR : ∀ h', h.nx ≤ h'.nx → Fs h' bd bl (s.putI i x) → (∀ b', b' < h.nx → b' ≠ bd → b' ≠ bl → h'.get b' = h.get b') → R (.ret (.int .i64 0)) h') :
    WF Tryd.prog 1 sp 19 [.iface 23 (.pointer (some ⟨bd, 0, none⟩)), .int .i64 i, .agg (i64s (row9 x)).toArray] h R :=
  iput_spec pl.p19 pl.p39 pl.p43 pl.p106 pl.p109 pl.p108 f.d (by have := f.wf.n1; omega) hi row9_len fun h' g1 g2 g3 => by
    rw [putL_fs f.wf hi fun j _ => hx j] at g2
    exact hR h' g1 ⟨g2, f.wf.putI hx⟩ g3
theorem fbput_spec (pl : Plain sp) (f : Fs h bd bl s) {b : Nat} (h12 : 12 ≤ b) (hb : b < s.n) {bs off c : Nat} {X : List Value} {k : Kind} {w : Nat → Int} (hs : h.get bs = some (cellsB X k)) (hX : (X.drop off).take 32 = u64s ((List.range 32).map w)) (hw : ∀ j, 0 ≤ w j ∧ w j < 18446744073709551616)
    (hR : ∀ h', h'.nx = h.nx → Fs h' bd bl (s.putB b w) → (∀ b', b' ≠ bd → b' ≠ bl → h'.get b' = h.get b') → R (.ret (.int .i64 0)) h') (hne : bs ≠ bd) :
    WF Tryd.prog 1 sp 108 [.pointer (some ⟨bd, 0, none⟩), .int .i64 b, .slice (some ⟨bs, off, none⟩) 32 c] h R := by
  refine dput_spec pl.p108 pl.p109 f.d hb hs hX (by simp) (fun h' g1 g2 g3 => ?_) hne
  rw [flat_put (D' := (s.putB b w).D) hb (by simp) (fun k hk => ?_) (fun b' k hb' hk hne => ?_)] at g2
  · exact hR h' g1 ⟨g2, f.wf.putB hw⟩ g3
  · rw [List.getElem?_map, List.getElem?_range hk]
    unfold FS.D
    rw [if_neg (by omega), if_neg (by omega)]
    show some (w k) = some ((if b = b then w else s.dat b) k)
    rw [if_pos rfl]
  · unfold FS.D
    split
    · rfl
    · split
      · rfl
      · show (if b' = b then w else s.dat b') k = s.dat b' k
        rw [if_neg hne]
theorem fmput_spec (pl : Plain sp) (f : Fs h bd bl s) {bs off c : Nat} {X : List Value} {k : Kind} {a b : Nat} (ha : a < 4294967296) (hb : b < bitN s.n) (hs : h.get bs = some (cellsB X k)) (hX : (X.drop off).take 32 = u64s (rowD (s.maps a b).D 0))
    (hR : ∀ h', h'.nx = h.nx → Fs h' bd bl (s.maps a b) → (∀ b', b' ≠ bd → b' ≠ bl → h'.get b' = h.get b') → R (.ret (.int .i64 0)) h') (hne : bs ≠ bd) :
    WF Tryd.prog 1 sp 108 [.pointer (some ⟨bd, 0, none⟩), .int .i64 (0 : Nat), .slice (some ⟨bs, off, none⟩) 32 c] h R := by
  have hn := f.wf.n1
  refine dput_spec pl.p108 pl.p109 f.d (b := 0) (by omega) hs hX rowD_len (fun h' g1 g2 g3 => ?_) hne
  rw [flat_put (D' := (s.maps a b).D) (b := 0) (by omega) rowD_len (fun k hk => rowD_get hk) (fun b' k hb' hk hne => ?_)] at g2
  · exact hR h' g1 ⟨g2, f.wf.maps ha hb⟩ g3
  · unfold FS.D
    rw [if_neg hne, if_neg hne]; rfl
end Go.Proofs.YtmadjdgipfdnkaaDoor
end
section
/- Bitmaps: bits.TrailingZeros64, OnesCount64, set, free. Conditions: the table lies as the rule names. -/
namespace Go.Proofs.YtmadjdgipfdnkaaDoor
open Go.AM
open Nat renaming reduceBEq → Za, reduceEqDiff → Zb, reduceAdd → Zc, reduceSub → Zd, reduceMul → Ze, reduceLT → Zf, reduceLeDiff → Zg, reduceDiv → Zh, reduceMod → Zi, reducePow → Zj
open Int renaming reduceAdd → Zk, reduceSub → Zl, reduceMul → Zm, reduceLT → Zn, reduceLE → Zo, reduceEq → Zp, reduceNe → Zq, reduceNeg → Zr, reduceToNat → Zs, reduceDiv → Zt, reduceMod → Zu, reducePow → Zv, cast_ofNat_Int → Zw
set_option linter.unusedSimpArgs false
variable {sp : Special} {h : Heap} {R : Out → Heap → Prop}
def lowZ (p : Nat) : Nat := Go.Lib.ctz 64 (18446744073709551615 - p)
theorem testBit_not {p k : Nat} (hp : p < 18446744073709551616) (hk : k < 64) : (18446744073709551615 - p).testBit k = !p.testBit k := by
  have := Nat.testBit_two_pow_sub_succ (n := 64) (x := p) (by omega) k
  rw [show 2 ^ 64 - (p + 1) = 18446744073709551615 - p by omega, decide_eq_true hk, Bool.true_and] at this
  exact this
theorem lowZ_spec {p : Nat} (hp : p < 18446744073709551615) : lowZ p < 64 ∧ p.testBit (lowZ p) = false ∧ ∀ j, j < lowZ p → p.testBit j = true := by
  have hc : lowZ p = Go.Lib.ctzFrom 64 (18446744073709551615 - p) := by
    unfold lowZ Go.Lib.ctz
    rw [if_neg (by omega)]
  obtain ⟨m, hm, hk⟩ := Go.Lib.ctzFrom_spec 64 (18446744073709551615 - p) (by omega) (by omega)
  rw [← hc] at hm hk
  have hb : ∀ j, (18446744073709551615 - p).testBit j = (decide (j ≥ lowZ p) && (2 * m + 1).testBit (j - lowZ p)) := fun j => by
    conv => lhs; rw [hm]
    exact Nat.testBit_two_pow_mul
  refine ⟨hk, ?_, fun j hj => ?_⟩
  · have h1 := testBit_not (p := p) (k := lowZ p) (by omega) hk
    rw [hb, decide_eq_true (Nat.le_refl _), Nat.sub_self, Bool.true_and, Nat.testBit_zero, show (2 * m + 1) % 2 = 1 by omega] at h1
    cases hh : p.testBit (lowZ p) with
    | false => rfl
    | true => rw [hh] at h1; cases h1
  · have h1 := testBit_not (p := p) (k := j) (by omega) (by omega)
    rw [hb, decide_eq_false (by omega), Bool.false_and] at h1
    cases hh : p.testBit j with
    | true => rfl
    | false => rw [hh] at h1; cases h1
theorem tab_cells : tabBlk .u8 tab = cellsB (tab.map (Value.int .u8)) .ro := by
  unfold tabBlk cellsB
  rw [List.length_map]
theorem tab_at : ∀ k, k < 64 → (tab.map (Value.int .u8))[2 ^ k * 285870213051353865 % 18446744073709551616 / 288230376151711744]? = some (.int .u8 (k : Int)) := by
  have key : ∀ k : Fin 64, tab[2 ^ k.1 * 285870213051353865 % 18446744073709551616 / 288230376151711744]? = some (k.1 : Int) := by decide +kernel
  intro k hk
  rw [List.getElem?_map, key ⟨k, hk⟩]; rfl
theorem un_neg (k : IntKind) (n : Int) : effUn .neg (.int k n) = ret (.int k (wrapF k (0 - n))) := by rw [wrapF_eq]; rfl
theorem un_xor {p : Nat} (hp : p < 18446744073709551616) : effUn .xor (.int .u64 (p : Int)) = ret (.int .u64 ((18446744073709551615 - p : Nat) : Int)) := by
  show ret (.int .u64 (IntKind.u64.wrap ((BitVec.ofInt 64 18446744073709551615 ^^^ BitVec.ofInt 64 (p : Int)).toNat : Int))) = _
  rw [BitVec.toNat_xor, ofInt_toNat (by omega) (by omega), ofInt_toNat (by omega) (by omega), Int.toNat_natCast]
  have : (18446744073709551615 : Int).toNat ^^^ p = 18446744073709551615 - p := by
    apply Nat.eq_of_testBit_eq
    intro i
    rw [Nat.testBit_xor]
    have h1 := Nat.testBit_two_pow_sub_succ (n := 64) (x := p) (by omega) i
    rw [show 2 ^ 64 - (p + 1) = 18446744073709551615 - p by omega] at h1
    have h2 : ((18446744073709551615 : Int).toNat).testBit i = decide (i < 64) := by
      show (2 ^ 64 - 1).testBit i = _
      exact Nat.testBit_two_pow_sub_one 64 i
    rw [h1, h2]
    by_cases hi : i < 64
    · simp [hi]
    · have : p.testBit i = false := Nat.testBit_lt_two_pow (Nat.lt_of_lt_of_le hp (Nat.pow_le_pow_right (n := 2) (by omega) (show 64 ≤ i by omega)))
      simp [hi, this]
  rw [this]
  rw [wrap_nat (by omega)]
set_option maxRecDepth 100000 in
theorem tz_spec (h70 : (sp 70).isNone = true) (ht : h.get 0 = some (tabBlk .u8 tab)) {p : Nat} (hp : p < 18446744073709551616) (hR : R (.ret (.int .i64 (lowZ p))) h) :
    WF Tryd.prog 1 sp 70 [.int .u64 ((18446744073709551615 - p : Nat) : Int)] h R := by
  refine wf_fn (fn := Tryd.f70) h70 rfl (by kernel_rfl) rfl ?_
  obtain ⟨x, hx⟩ : ∃ x, 18446744073709551615 - p = x := ⟨_, rfl⟩
  have hxl : x < 18446744073709551616 := by omega
  have hlz : lowZ p = Go.Lib.ctz 64 x := by unfold lowZ; rw [hx]
  rw [hlz] at hR
  rw [hx]
  by_cases h0 : x = 0
  · subst h0
    simp only [↓reduceIte, reduceCtorEq, Za, Zb, Zc, Zd, Ze, Zf, Zg, Zh, Zi, Zj, Zk, Zl, Zm, Zn, Zo, Zp, Zq, Zr, Zs, Zt, Zu, Zv, gval, Zw, rb0, rb1, rb2, rb3, rb4, tf0, tf1, tf2, tf3, tf4, Yk, Tryd.f70]
    exact hR
  · have h0' : ¬ (x : Int) = 0 := by omega
    obtain ⟨l1, l2⟩ := Go.Lib.lowest_bit 64 x h0 hxl
    obtain ⟨k, hk⟩ : ∃ k, Go.Lib.ctz 64 x = k := ⟨_, rfl⟩
    rw [hk] at l1 l2 hR
    rw [tab_cells] at ht
    have hta := tab_at k l2
    have hn : wrapF .u64 (0 - (x : Int)) = ((18446744073709551616 - x : Nat) : Int) := by
      rw [wrapF_eq]
      unfold IntKind.wrap IntKind.signed IntKind.bits
      simp only [Bool.false_and, Bool.false_eq_true, if_false]
      omega
    have ha := and_u64 (a := (x : Int)) (b := ((18446744073709551616 - x : Nat) : Int)) (by omega) (by omega) (by omega) (by omega)
    rw [Int.toNat_natCast, Int.toNat_natCast, show 18446744073709551616 - x = 2 ^ 64 - x from rfl, l1] at ha
    have hix := (Go.Lib.deBruijn64_at k l2).1
    obtain ⟨idx, hidx⟩ : ∃ idx, 2 ^ k * 285870213051353865 % 18446744073709551616 / 288230376151711744 = idx := ⟨_, rfl⟩
    have hf : (wrapF .u64 (((2 ^ k : Nat) : Int) * 285870213051353865)).fdiv (2 ^ min 58 IntKind.u64.bits) = (idx : Int) := by
      have e1 : wrapF .u64 (((2 ^ k : Nat) : Int) * 285870213051353865) = ((2 ^ k * 285870213051353865 % 18446744073709551616 : Nat) : Int) := by
        generalize 2 ^ k = q
        rw [wrapF_eq]
        unfold IntKind.wrap IntKind.signed IntKind.bits
        simp only [Bool.false_and, Bool.false_eq_true, if_false]
        omega
      rw [e1, shr_nat (by omega) (by omega), Int.toNat_natCast, ← hidx]
      unfold shrN
      rw [Nat.shiftRight_eq_div_pow]
    rw [hidx] at hta hix
    have hi1 : (0 : Int) ≤ (idx : Int) ∧ (idx : Int) < 64 := ⟨Int.natCast_nonneg _, Int.ofNat_lt.2 hix⟩
    clear hidx l1
    generalize 2 ^ k = q at ha hf
    have hl64 : (tab.map (Value.int .u8)).length = 64 := rfl
    have wk : wrapF .i64 (k : Int) = (k : Int) := wrapI (by omega) (by omega)
    have hki : (idx : Int).toNat = idx := Int.toNat_natCast idx
    simp (disch := (first | omega | rfl | (simp only [Yn]; omega))) only [↓reduceIte, reduceCtorEq, Za, Zb, Zc, Zd, Ze, Zf, Zg, Zh, Zi, Zj, Zk, Zl, Zm, Zn, Zo, Zp, Zq, Zr, Zs, Zt, Zu, Zv, gval, Zw, rb0, rb1, rb2, rb3, rb4, tf0, tf1, tf2, tf3, tf4, Yk, Yh, overL_one, if_pos, stX_exactN, Tryd.f70, un_neg, h0', hn, ha, hf, hi1, ht, hta, hl64, wk, Nat.mul_one]
    exact hR
set_option maxRecDepth 100000 in
theorem free_spec (h56 : (sp 56).isNone = true) (h70 : (sp 70).isNone = true) (ht : h.get 0 = some (tabBlk .u8 tab)) {p : Nat} (hp : p < 18446744073709551616) {v : Value} (hR : R (.ret (.int .i64 (lowZ p))) h) :
    WF Tryd.prog 1 sp 56 [.int .u64 (p : Int), v] h R := by
  refine wf_fn (fn := Tryd.f56) h56 rfl (by kernel_rfl) rfl ?_
  simp only [↓reduceIte, reduceCtorEq, Za, Zb, Zc, Zd, Ze, Zf, Zg, Zh, Zi, Zj, Zk, Zl, Zm, Zn, Zo, Zp, Zq, Zr, Zs, Zt, Zu, Zv, gval, Zw, rb0, rb1, rb2, rb3, rb4, tf0, tf1, tf2, tf3, tf4, Yk, Tryd.f56, un_xor hp]
  refine runC_of (tz_spec h70 ht hp ?_)
  simp only [↓reduceIte, reduceCtorEq, Za, Zb, Zc, Zd, Ze, Zf, Zg, Zh, Zi, Zj, Zk, Zl, Zm, Zn, Zo, Zp, Zq, Zr, Zs, Zt, Zu, Zv, gval, Zw, rb0, rb1, rb2, rb3, rb4, tf0, tf1, tf2, tf3, tf4, Yk]
  exact hR
set_option maxRecDepth 100000 in
theorem set_spec (h60 : (sp 60).isNone = true) {p i : Nat} (hp : p < 18446744073709551616) (hi : i < 64) {on : Bool} (hR : R (.ret (.int .u64 ((cond on (p ||| bitN i) (without p (bitN i)) : Nat) : Int))) h) :
    WF Tryd.prog 1 sp 60 [.int .u64 (p : Int), .int .i64 i, .bool on] h R := by
  refine wf_fn (fn := Tryd.f60) h60 rfl (by kernel_rfl) rfl ?_
  have hb := bitN_lt hi
  cases on with
  | true =>
    have ho := or_u64 (a := (p : Int)) (b := (bitN i : Int)) (by omega) (by omega) (by omega) (by omega)
    rw [Int.toNat_natCast, Int.toNat_natCast] at ho
    simp (disch := omega) only [↓reduceIte, reduceCtorEq, Za, Zb, Zc, Zd, Ze, Zf, Zg, Zh, Zi, Zj, Zk, Zl, Zm, Zn, Zo, Zp, Zq, Zr, Zs, Zt, Zu, Zv, gval, Zw, rb0, rb1, rb2, rb3, rb4, tf0, tf1, tf2, tf3, tf4, Yk, Tryd.f60, if_pos, shl1_nat, ho]
    exact hR
  | false =>
    have ho := andNot_u64 (a := (p : Int)) (b := (bitN i : Int)) (by omega) (by omega) (by omega) (by omega)
    rw [Int.toNat_natCast, Int.toNat_natCast] at ho
    simp (disch := omega) only [↓reduceIte, reduceCtorEq, Za, Zb, Zc, Zd, Ze, Zf, Zg, Zh, Zi, Zj, Zk, Zl, Zm, Zn, Zo, Zp, Zq, Zr, Zs, Zt, Zu, Zv, gval, Zw, rb0, rb1, rb2, rb3, rb4, tf0, tf1, tf2, tf3, tf4, Yk, Tryd.f60, if_pos, shl1_nat, ho]
    exact hR
theorem and_nat {a b : Nat} (ha : a < 18446744073709551616) (hb : b < 18446744073709551616) : IntKind.u64.wrap ((BitVec.ofInt IntKind.u64.bits (a : Int) &&& BitVec.ofInt IntKind.u64.bits (b : Int)).toNat : Int) = ((a &&& b : Nat) : Int) := by
  have := and_u64 (a := (a : Int)) (b := (b : Int)) (by omega) (by omega) (by omega) (by omega)
  rwa [Int.toNat_natCast, Int.toNat_natCast] at this
theorem and127 {a : Nat} (ha : a < 9223372036854775808) : IntKind.i64.wrap ((BitVec.ofInt IntKind.i64.bits (a : Int) &&& BitVec.ofInt IntKind.i64.bits (127 : Int)).toNat : Int) = ((a % 128 : Nat) : Int) := by
  show IntKind.i64.wrap ((BitVec.ofInt 64 (a : Int) &&& BitVec.ofInt 64 (127 : Int)).toNat : Int) = _
  rw [BitVec.toNat_and, ofInt_toNat (by omega) (by omega), ofInt_toNat (by omega) (by omega), Int.toNat_natCast]
  have : a &&& (127 : Int).toNat = a % 128 := Nat.and_two_pow_sub_one_eq_mod a 7
  rw [this]
  unfold IntKind.wrap IntKind.signed IntKind.bits
  simp only [Bool.true_and, decide_eq_true_eq]
  split <;> omega
set_option maxRecDepth 100000 in
theorem ones_spec (h58 : (sp 58).isNone = true) {p : Nat} (hp : p < 18446744073709551616) (hR : R (.ret (.int .i64 (popc 64 p))) h) :
    WF Tryd.prog 1 sp 58 [.int .u64 (p : Int)] h R := by
  refine wf_fn (fn := Tryd.f58) h58 rfl (by kernel_rfl) rfl ?_
  obtain ⟨y, y1, y2, y3, hy, hy1, hy2, hy3, hlt, hpc⟩ := pop_sum p
  rw [← hpc] at hR
  have r0 : rep 85 8 = 6148914691236517205 := rfl
  have r1 : rep 51 8 = 3689348814741910323 := rfl
  have r2 : rep 15 8 = 1085102592571150095 := rfl
  have m0 : ((6148914691236517205 : Nat) : Int) = 6148914691236517205 := rfl
  have m1 : ((3689348814741910323 : Nat) : Int) = 3689348814741910323 := rfl
  have m2 : ((1085102592571150095 : Nat) : Int) = 1085102592571150095 := rfl
  obtain ⟨s1, hs1⟩ : ∃ s1, popS1 8 p = s1 := ⟨_, rfl⟩
  obtain ⟨s2, hs2⟩ : ∃ s2, popS2 8 s1 = s2 := ⟨_, rfl⟩
  have hy' : popS3 8 s2 = y := by rw [hy, ← hs2, ← hs1]; rfl
  unfold popS1 at hs1
  unfold popS2 at hs2
  unfold popS3 at hy'
  rw [r0] at hs1
  rw [r1] at hs2
  rw [r2] at hy'
  have shr : ∀ a s : Nat, s < 64 → ((a : Int)).fdiv (2 ^ (min s IntKind.u64.bits)) = ((a / 2 ^ s : Nat) : Int) := fun a s hs => by
    rw [shr_nat (by omega) hs, Int.toNat_natCast]
    unfold shrN
    rw [Nat.shiftRight_eq_div_pow]
  have a1 := shr p 1 (by omega)
  have a2 := and_nat (a := p / 2) (b := 6148914691236517205) (by omega) (by omega)
  have a3 := and_nat (a := p) (b := 6148914691236517205) (by omega) (by omega)
  have l1 : p / 2 &&& 6148914691236517205 ≤ 6148914691236517205 := Nat.and_le_right
  have l2 : p &&& 6148914691236517205 ≤ 6148914691236517205 := Nat.and_le_right
  generalize p / 2 &&& 6148914691236517205 = q1 at *
  generalize p &&& 6148914691236517205 = q2 at *
  have a4 : wrapF .u64 ((q1 : Int) + (q2 : Int)) = (s1 : Int) := by rw [← hs1, wrapU (by omega) (by omega)]; omega
  have a5 := shr s1 2 (by omega)
  have a6 := and_nat (a := s1 / 4) (b := 3689348814741910323) (by omega) (by omega)
  have a7 := and_nat (a := s1) (b := 3689348814741910323) (by omega) (by omega)
  have l3 : s1 / 4 &&& 3689348814741910323 ≤ 3689348814741910323 := Nat.and_le_right
  have l4 : s1 &&& 3689348814741910323 ≤ 3689348814741910323 := Nat.and_le_right
  generalize s1 / 4 &&& 3689348814741910323 = q3 at *
  generalize s1 &&& 3689348814741910323 = q4 at *
  have a8 : wrapF .u64 ((q3 : Int) + (q4 : Int)) = (s2 : Int) := by rw [← hs2, wrapU (by omega) (by omega)]; omega
  have a9 := shr s2 4 (by omega)
  have b1 : wrapF .u64 (((s2 / 2 ^ 4 : Nat) : Int) + (s2 : Int)) = ((s2 / 16 + s2 : Nat) : Int) := by rw [wrapU (by omega) (by omega)]; omega
  have b2 := and_nat (a := s2 / 16 + s2) (b := 1085102592571150095) (by omega) (by omega)
  have l5 : s2 / 16 + s2 &&& 1085102592571150095 ≤ 1085102592571150095 := Nat.and_le_right
  rw [hy'] at b2 l5
  have b3 := shr y 8 (by omega)
  have b4 : wrapF .u64 ((y : Int) + ((y / 2 ^ 8 : Nat) : Int)) = (y1 : Int) := by rw [wrapU (by omega) (by omega)]; omega
  have b5 := shr y1 16 (by omega)
  have b6 : wrapF .u64 ((y1 : Int) + ((y1 / 2 ^ 16 : Nat) : Int)) = (y2 : Int) := by rw [wrapU (by omega) (by omega)]; omega
  have b7 := shr y2 32 (by omega)
  have b8 : wrapF .u64 ((y2 : Int) + ((y2 / 2 ^ 32 : Nat) : Int)) = (y3 : Int) := by rw [wrapU (by omega) (by omega)]; omega
  have b9 : wrapF .i64 (y3 : Int) = (y3 : Int) := wrapI (by omega) (by omega)
  have c1 := and127 hlt
  rw [m0] at a2 a3
  rw [m1] at a6 a7
  rw [m2] at b2
  simp only [↓reduceIte, reduceCtorEq, Za, Zb, Zc, Zd, Ze, Zf, Zg, Zh, Zi, Zj, Zk, Zl, Zm, Zn, Zo, Zp, Zq, Zr, Zs, Zt, Zu, Zv, gval, Zw, rb0, rb1, rb2, rb3, rb4, tf0, tf1, tf2, tf3, tf4, Yk, Tryd.f58, a1, a2, a3, a4, a5, a6, a7, a8, a9, b1, b2, b3, b4, b5, b6, b7, b8, b9, c1]
  exact hR
end Go.Proofs.YtmadjdgipfdnkaaDoor
end
section
/- Bitmaps of one word: New, Of, in, Mark, Take, Left, Words. Conditions: the map lies as the rule names. -/
namespace Go.Proofs.YtmadjdgipfdnkaaDoor
open Go.AM
open Nat renaming reduceBEq → Za, reduceEqDiff → Zb, reduceAdd → Zc, reduceSub → Zd, reduceMul → Ze, reduceLT → Zf, reduceLeDiff → Zg, reduceDiv → Zh, reduceMod → Zi, reducePow → Zj
open Int renaming reduceAdd → Zk, reduceSub → Zl, reduceMul → Zm, reduceLT → Zn, reduceLE → Zo, reduceEq → Zp, reduceNe → Zq, reduceNeg → Zr, reduceToNat → Zs, reduceDiv → Zt, reduceMod → Zu, reducePow → Zv, cast_ofNat_Int → Zw
set_option linter.unusedSimpArgs false
variable {sp : Special} {h : Heap} {R : Out → Heap → Prop}
structure MapAt (h : Heap) (p lb n w : Nat) : Prop where
  m : h.get p = some (cellsB [.int .i64 n, .slice (some ⟨lb, 0, none⟩) 1 1] .exact)
  l : h.get lb = some (cellsB [.int .u64 w] .exact)
  n1 : 1 ≤ n
  n2 : n < 64
  w : w < bitN n
theorem MapAt.lt {p lb n w : Nat} (x : MapAt h p lb n w) : w < 18446744073709551616 := Nat.lt_trans x.w (bitN_lt x.n2)
theorem MapAt.keep {h' : Heap} {p lb n w : Nat} (x : MapAt h p lb n w) (h1 : h'.get p = h.get p) (h2 : h'.get lb = h.get lb) : MapAt h' p lb n w := ⟨h1.trans x.m, h2.trans x.l, x.n1, x.n2, x.w⟩
theorem MapAt.ne {p lb n w : Nat} (x : MapAt h p lb n w) : p ≠ lb := fun e => by
  have := x.m
  rw [e, x.l] at this
  unfold cellsB at this
  injection this with this
  injection this with _ e _
  cases e
set_option maxRecDepth 100000 in
theorem min_spec (h59 : (sp 59).isNone = true) {p lb n w : Nat} (m : MapAt h p lb n w) {i : Int} (hR : R (.ret (.bool (decide (0 ≤ i ∧ i < n)))) h) : WF Tryd.prog 1 sp 59 [.pointer (some ⟨p, 0, none⟩), .int .i64 i] h R := by
  refine wf_fn (fn := Tryd.f59) h59 rfl (by kernel_rfl) rfl ?_
  by_cases c1 : 0 ≤ i
  · by_cases c2 : i < n
    · simp only [↓reduceIte, reduceCtorEq, Za, Zb, Zc, Zd, Ze, Zf, Zg, Zh, Zi, Zj, Zk, Zl, Zm, Zn, Zo, Zp, Zq, Zr, Zs, Zt, Zu, Zv, gval, Zw, rb0, rb1, rb2, rb3, rb4, tf0, tf1, tf2, tf3, tf4, Yk, Tryd.f59, c1, c2, m.m]
      rw [decide_eq_true ⟨c1, c2⟩] at hR
      exact hR
    · simp only [↓reduceIte, reduceCtorEq, Za, Zb, Zc, Zd, Ze, Zf, Zg, Zh, Zi, Zj, Zk, Zl, Zm, Zn, Zo, Zp, Zq, Zr, Zs, Zt, Zu, Zv, gval, Zw, rb0, rb1, rb2, rb3, rb4, tf0, tf1, tf2, tf3, tf4, Yk, Tryd.f59, c1, c2, m.m]
      rw [decide_eq_false (fun h => c2 h.2)] at hR
      exact hR
  · simp only [↓reduceIte, reduceCtorEq, Za, Zb, Zc, Zd, Ze, Zf, Zg, Zh, Zi, Zj, Zk, Zl, Zm, Zn, Zo, Zp, Zq, Zr, Zs, Zt, Zu, Zv, gval, Zw, rb0, rb1, rb2, rb3, rb4, tf0, tf1, tf2, tf3, tf4, Yk, Tryd.f59, c1, m.m, runG_undef]
    rw [decide_eq_false (fun h => c1 h.1)] at hR
    exact hR
set_option maxRecDepth 100000 in
theorem mnew_spec (h69 : (sp 69).isNone = true) {n : Nat} (h1 : 1 ≤ n) (h2 : n < 64) (hR : ∀ h', h'.nx = h.nx + 2 → MapAt h' (h.nx + 1) h.nx n 0 → (∀ b, b < h.nx → h'.get b = h.get b) → R (.ret (.pointer (some ⟨h.nx + 1, 0, none⟩))) h') : WF Tryd.prog 1 sp 69 [.int .i64 n] h R := by
  refine wf_fn (fn := Tryd.f69) h69 rfl (by kernel_rfl) rfl ?_
  have c1 : ¬ (n : Int) < 1 := by omega
  have c2 : ¬ (1024 : Int) < (n : Int) := by omega
  have w1 : wrapF .i64 ((n : Int) + 63) = ((n + 63 : Nat) : Int) := by rw [wrapI (by omega) (by omega)]; omega
  have w2 : ((n + 63 : Nat) : Int).tdiv 64 = 1 := by rw [Int.tdiv_eq_ediv_of_nonneg (by omega)]; omega
  have w3 : wrapF .i64 1 = 1 := wrapI (by omega) (by omega)
  have hrow : mkRow [Value.int .u64 0] 1 = cellsB [.int .u64 ((0 : Nat) : Int)] .exact := mkRow_eq _ _ (by omega)
  simp only [↓reduceIte, reduceCtorEq, Za, Zb, Zc, Zd, Ze, Zf, Zg, Zh, Zi, Zj, Zk, Zl, Zm, Zn, Zo, Zp, Zq, Zr, Zs, Zt, Zu, Zv, gval, Zw, rb0, rb1, rb2, rb3, rb4, tf0, tf1, tf2, tf3, tf4, Yk, Tryd.f69, c1, c2, w1, w2, w3, hrow]
  refine hR _ (by rw [Heap.nx_new, Heap.nx_new]) ⟨?_, ?_, h1, h2, Nat.two_pow_pos _⟩ fun b hb => ?_
  · rw [Heap.get_new_at _ (by rw [Heap.nx_new]; omega)]
  · rw [Heap.get_new_ne _ _ (by rw [Heap.nx_new]; omega), Heap.get_new_same]; rfl
  · rw [Heap.get_new_ne _ _ (by rw [Heap.nx_new]; omega), Heap.get_new_ne _ _ (by omega)]
set_option maxRecDepth 100000 in
theorem mof_spec (h55 : (sp 55).isNone = true) (h69 : (sp 69).isNone = true) {n w : Nat} (h1 : 1 ≤ n) (h2 : n < 64) (hw : w < bitN n) {b off c : Nat} {X : List Value} {k : Kind} (hX : h.get b = some (cellsB X k)) (hXw : X[off]? = some (.int .u64 (w : Int))) (hbn : b < h.nx)
    (hR : ∀ h', h'.nx = h.nx + 2 → MapAt h' (h.nx + 1) h.nx n w → (∀ b, b < h.nx → h'.get b = h.get b) → R (.ret (.tuple #[.pointer (some ⟨h.nx + 1, 0, none⟩), .int .i64 0])) h') : WF Tryd.prog 1 sp 55 [.int .i64 n, .slice (some ⟨b, off, none⟩) 1 c] h R := by
  refine wf_fn (fn := Tryd.f55) h55 rfl (by kernel_rfl) rfl ?_
  simp only [↓reduceIte, reduceCtorEq, Za, Zb, Zc, Zd, Ze, Zf, Zg, Zh, Zi, Zj, Zk, Zl, Zm, Zn, Zo, Zp, Zq, Zr, Zs, Zt, Zu, Zv, gval, Zw, rb0, rb1, rb2, rb3, rb4, tf0, tf1, tf2, tf3, tf4, Yk, Tryd.f55]
  refine runC_of (mnew_spec h69 h1 h2 fun h3 n3 m3 k3 => ?_)
  have hX3 := (k3 b hbn).trans hX
  simp (disch := (first | omega | rfl | (simp only [Yn]; omega))) only [↓reduceIte, reduceCtorEq, Za, Zb, Zc, Zd, Ze, Zf, Zg, Zh, Zi, Zj, Zk, Zl, Zm, Zn, Zo, Zp, Zq, Zr, Zs, Zt, Zu, Zv, gval, Zw, rb0, rb1, rb2, rb3, rb4, tf0, tf1, tf2, tf3, tf4, Yk, Yh, overL_one, if_pos, stX_exactN, m3.m, show ((1 : Int) == 1) = true from rfl]
  refine Run.loop rfl ?_
  have hlX : off < X.length := by
    by_cases q : off < X.length
    · exact q
    · rw [List.getElem?_eq_none (by omega)] at hXw; cases hXw
  have z1 : wrapF .i64 1 = 1 := wrapI (by omega) (by omega)
  simp (disch := (first | omega | rfl | (simp only [Yn]; omega))) only [↓reduceIte, reduceCtorEq, Za, Zb, Zc, Zd, Ze, Zf, Zg, Zh, Zi, Zj, Zk, Zl, Zm, Zn, Zo, Zp, Zq, Zr, Zs, Zt, Zu, Zv, gval, Zw, rb0, rb1, rb2, rb3, rb4, tf0, tf1, tf2, tf3, tf4, Yk, Yh, overL_one, if_pos, stX_exactN, m3.m, m3.l, hX3, hXw, hlX, Nat.mul_one, z1]
  refine Run.loop rfl ?_
  obtain ⟨h4, hh4⟩ : ∃ h4, h3.upd h.nx (cellsB [.int .u64 (w : Int)] .exact) = h4 := ⟨_, rfl⟩
  have m4 : MapAt h4 (h.nx + 1) h.nx n w := ⟨by rw [← hh4, Heap.get_upd_ne _ _ (by omega)]; exact m3.m, by rw [← hh4, Heap.get_upd_same], h1, h2, hw⟩
  have n4 : h4.nx = h.nx + 2 := by rw [← hh4, Heap.nx_upd, n3]
  have k4 : ∀ b, b < h.nx → h4.get b = h.get b := fun b hb => by rw [← hh4, Heap.get_upd_ne _ _ (by omega)]; exact k3 b hb
  have hm : (n : Int).tmod 64 = n := by rw [Int.tmod_eq_emod_of_nonneg (by omega)]; omega
  have e1 : wrapF .i64 (n : Int) = n := wrapI (by omega) (by omega)
  have c1 : (0 : Int) < (n : Int) := by omega
  have c0 : (0 : Int) ≤ (n : Int) := by omega
  have hsh : ((w : Int)).fdiv (2 ^ (min n IntKind.u64.bits)) = 0 := by
    rw [shr_nat (by omega) h2, Int.toNat_natCast]
    unfold shrN
    rw [Nat.shiftRight_eq_div_pow, Nat.div_eq_of_lt (show w < 2 ^ n from hw)]; rfl
  have z2 : wrapF .i64 0 = 0 := wrapI (by omega) (by omega)
  rw [hh4]
  have q11 : ¬ (1 : Int) < 1 := by decide
  simp (disch := (first | omega | rfl | (simp only [Yn]; omega))) only [↓reduceIte, reduceCtorEq, Za, Zb, Zc, Zd, Ze, Zf, Zg, Zh, Zi, Zj, Zk, Zl, Zm, Zn, Zo, Zp, Zq, Zr, Zs, Zt, Zu, Zv, gval, Zw, rb0, rb1, rb2, rb3, rb4, tf0, tf1, tf2, tf3, tf4, Yk, Yh, overL_one, if_pos, stX_exactN, hm, e1, z1, q11]
  refine run_draw (ps := [(6, 11)]) (by kernel_rfl) (by kernel_rfl) ?_
  simp (disch := (first | omega | rfl | (simp only [Yn]; omega))) only [↓reduceIte, reduceCtorEq, Za, Zb, Zc, Zd, Ze, Zf, Zg, Zh, Zi, Zj, Zk, Zl, Zm, Zn, Zo, Zp, Zq, Zr, Zs, Zt, Zu, Zv, gval, Zw, rb0, rb1, rb2, rb3, rb4, tf0, tf1, tf2, tf3, tf4, Yk, Yh, overL_one, if_pos, stX_exactN, m4.m, m4.l, c1, c0, hsh, z2, show ((0 : Int) == 0) = true from rfl, Nat.mul_one]
  exact hR h4 n4 m4 k4
theorem with_bit {w n i : Nat} (hw : w < bitN n) (hi : i < n) : w ||| bitN i < bitN n := Nat.or_lt_two_pow hw (Nat.pow_lt_pow_right (by omega) hi)
theorem without_le (a b : Nat) : without a b ≤ a % 18446744073709551616 := by
  unfold without
  rw [BitVec.toNat_and, BitVec.toNat_ofNat]
  exact Nat.and_le_left
theorem without_bit {w n : Nat} (b : Nat) (hw : w < bitN n) (hn : n < 64) : without w b < bitN n := by
  have h1 := without_le w b
  have h2 := bitN_lt hn
  rw [Nat.mod_eq_of_lt (Nat.lt_trans hw h2)] at h1
  exact Nat.lt_of_le_of_lt h1 hw
def markW (w i : Nat) (on : Bool) : Nat := cond on (w ||| bitN i) (without w (bitN i))
theorem markW_lt {w n i : Nat} {on : Bool} (hw : w < bitN n) (hi : i < n) (hn : n < 64) : markW w i on < bitN n := by
  cases on with
  | true => exact with_bit hw hi
  | false => exact without_bit _ hw hn
set_option maxRecDepth 100000 in
theorem mark_spec (pl : Plain sp) {p lb n w i : Nat} (m : MapAt h p lb n w) (hi : i < n) {on : Bool} (hR : MapAt (h.upd lb (cellsB [.int .u64 (markW w i on : Nat)] .exact)) p lb n (markW w i on) → R (.ret (.int .i64 0)) (h.upd lb (cellsB [.int .u64 (markW w i on : Nat)] .exact))) :
    WF Tryd.prog 1 sp 42 [.pointer (some ⟨p, 0, none⟩), .int .i64 i, .bool on] h R := by
  refine wf_fn (fn := Tryd.f42) pl.p42 rfl (by kernel_rfl) rfl ?_
  have hn2 := m.n2
  simp only [↓reduceIte, reduceCtorEq, Za, Zb, Zc, Zd, Ze, Zf, Zg, Zh, Zi, Zj, Zk, Zl, Zm, Zn, Zo, Zp, Zq, Zr, Zs, Zt, Zu, Zv, gval, Zw, rb0, rb1, rb2, rb3, rb4, tf0, tf1, tf2, tf3, tf4, Yk, Tryd.f42]
  refine runC_of (min_spec pl.p59 m ?_)
  rw [decide_eq_true (show 0 ≤ (i : Int) ∧ (i : Int) < n by omega)]
  simp only [↓reduceIte, reduceCtorEq, Za, Zb, Zc, Zd, Ze, Zf, Zg, Zh, Zi, Zj, Zk, Zl, Zm, Zn, Zo, Zp, Zq, Zr, Zs, Zt, Zu, Zv, gval, Zw, rb0, rb1, rb2, rb3, rb4, tf0, tf1, tf2, tf3, tf4, Yk]
  have hq : (i : Int).tdiv 64 = 0 := by rw [Int.tdiv_eq_ediv_of_nonneg (by omega)]; omega
  have hr : (i : Int).tmod 64 = i := by rw [Int.tmod_eq_emod_of_nonneg (by omega)]; omega
  have z0 : wrapF .i64 0 = 0 := wrapI (by omega) (by omega)
  have zi : wrapF .i64 (i : Int) = i := wrapI (by omega) (by omega)
  refine run_draw (ps := [(3, 17), (5, 17)]) (by kernel_rfl) (by kernel_rfl) ?_
  simp (disch := (first | omega | rfl | (simp only [Yn]; omega))) only [↓reduceIte, reduceCtorEq, Za, Zb, Zc, Zd, Ze, Zf, Zg, Zh, Zi, Zj, Zk, Zl, Zm, Zn, Zo, Zp, Zq, Zr, Zs, Zt, Zu, Zv, gval, Zw, rb0, rb1, rb2, rb3, rb4, tf0, tf1, tf2, tf3, tf4, Yk, Yh, overL_one, if_pos, stX_exactN, m.m, m.l, hq, hr, z0, zi, Nat.mul_one]
  refine runCR_of (set_spec pl.p60 m.lt (by omega) ?_)
  simp (disch := (first | omega | rfl | (simp only [Yn]; omega))) only [↓reduceIte, reduceCtorEq, Za, Zb, Zc, Zd, Ze, Zf, Zg, Zh, Zi, Zj, Zk, Zl, Zm, Zn, Zo, Zp, Zq, Zr, Zs, Zt, Zu, Zv, gval, Zw, rb0, rb1, rb2, rb3, rb4, tf0, tf1, tf2, tf3, tf4, Yk, Yh, overL_one, if_pos, stX_exactN, m.m, m.l, hq, hr, z0, zi, Nat.mul_one]
  exact hR ⟨by rw [Heap.get_upd_ne _ _ m.ne]; exact m.m, by rw [Heap.get_upd_same], m.n1, m.n2, markW_lt m.w hi m.n2⟩
set_option maxRecDepth 100000 in
theorem take_spec (pl : Plain sp) (ht : h.get 0 = some (tabBlk .u8 tab)) {p lb n w : Nat} (m : MapAt h p lb n w)
    (hno : ¬ lowZ w < n → R (.ret (.int .i64 (-1))) h)
    (hok : lowZ w < n → MapAt (h.upd lb (cellsB [.int .u64 (markW w (lowZ w) true : Nat)] .exact)) p lb n (markW w (lowZ w) true) → R (.ret (.int .i64 (lowZ w))) (h.upd lb (cellsB [.int .u64 (markW w (lowZ w) true : Nat)] .exact))) :
    WF Tryd.prog 1 sp 37 [.pointer (some ⟨p, 0, none⟩)] h R := by
  refine wf_fn (fn := Tryd.f37) pl.p37 rfl (by kernel_rfl) rfl ?_
  have hn2 := m.n2
  have hwl : w < 18446744073709551615 := by have := m.w; have : bitN n ≤ 2 ^ 63 := Nat.pow_le_pow_right (by omega) (by omega); omega
  have hl := (lowZ_spec hwl).1
  simp (disch := (first | omega | rfl | (simp only [Yn]; omega))) only [↓reduceIte, reduceCtorEq, Za, Zb, Zc, Zd, Ze, Zf, Zg, Zh, Zi, Zj, Zk, Zl, Zm, Zn, Zo, Zp, Zq, Zr, Zs, Zt, Zu, Zv, gval, Zw, rb0, rb1, rb2, rb3, rb4, tf0, tf1, tf2, tf3, tf4, Yk, Yh, overL_one, if_pos, stX_exactN, Tryd.f37, m.m, m.l]
  refine Run.loop rfl ?_
  simp (disch := (first | omega | rfl | (simp only [Yn]; omega))) only [↓reduceIte, reduceCtorEq, Za, Zb, Zc, Zd, Ze, Zf, Zg, Zh, Zi, Zj, Zk, Zl, Zm, Zn, Zo, Zp, Zq, Zr, Zs, Zt, Zu, Zv, gval, Zw, rb0, rb1, rb2, rb3, rb4, tf0, tf1, tf2, tf3, tf4, Yk, Yh, overL_one, if_pos, stX_exactN, m.l, Nat.mul_one]
  refine runC_of (free_spec pl.p56 pl.p70 ht m.lt ?_)
  have z0 : wrapF .i64 0 = 0 := wrapI (by omega) (by omega)
  have z1 : wrapF .i64 1 = 1 := wrapI (by omega) (by omega)
  have z64 : wrapF .i64 64 = 64 := wrapI (by omega) (by omega)
  have zl : wrapF .i64 (lowZ w : Int) = lowZ w := wrapI (by omega) (by omega)
  have zl' : wrapF .i64 (0 + (lowZ w : Int)) = lowZ w := by rw [Int.zero_add, zl]
  have c64 : (lowZ w : Int) < 64 := by omega
  have q11 : ¬ (1 : Int) < 1 := by decide
  by_cases c : lowZ w < n
  · have c1 : (lowZ w : Int) < (n : Int) := by omega
    simp (disch := (first | omega | rfl | (simp only [Yn]; omega))) only [↓reduceIte, reduceCtorEq, Za, Zb, Zc, Zd, Ze, Zf, Zg, Zh, Zi, Zj, Zk, Zl, Zm, Zn, Zo, Zp, Zq, Zr, Zs, Zt, Zu, Zv, gval, Zw, rb0, rb1, rb2, rb3, rb4, tf0, tf1, tf2, tf3, tf4, Yk, Yh, overL_one, if_pos, stX_exactN, z0, z64, zl, zl', c64, m.m, c1]
    refine runC_of (mark_spec pl m c fun m2 => ?_)
    simp only [↓reduceIte, reduceCtorEq, Za, Zb, Zc, Zd, Ze, Zf, Zg, Zh, Zi, Zj, Zk, Zl, Zm, Zn, Zo, Zp, Zq, Zr, Zs, Zt, Zu, Zv, gval, Zw, rb0, rb1, rb2, rb3, rb4, tf0, tf1, tf2, tf3, tf4, Yk]
    exact hok c m2
  · have c1 : ¬ (lowZ w : Int) < (n : Int) := by omega
    simp (disch := (first | omega | rfl | (simp only [Yn]; omega))) only [↓reduceIte, reduceCtorEq, Za, Zb, Zc, Zd, Ze, Zf, Zg, Zh, Zi, Zj, Zk, Zl, Zm, Zn, Zo, Zp, Zq, Zr, Zs, Zt, Zu, Zv, gval, Zw, rb0, rb1, rb2, rb3, rb4, tf0, tf1, tf2, tf3, tf4, Yk, Yh, overL_one, if_pos, stX_exactN, z0, z1, z64, zl, zl', c64, m.m, c1]
    refine Run.loop rfl ?_
    simp (disch := (first | omega | rfl | (simp only [Yn]; omega))) only [↓reduceIte, reduceCtorEq, Za, Zb, Zc, Zd, Ze, Zf, Zg, Zh, Zi, Zj, Zk, Zl, Zm, Zn, Zo, Zp, Zq, Zr, Zs, Zt, Zu, Zv, gval, Zw, rb0, rb1, rb2, rb3, rb4, tf0, tf1, tf2, tf3, tf4, Yk, Yh, overL_one, if_pos, stX_exactN, q11]
    exact hno c
set_option maxRecDepth 100000 in
theorem left_spec (pl : Plain sp) {p lb n w : Nat} (m : MapAt h p lb n w) (hR : R (.ret (.int .i64 ((n : Int) - popc 64 w))) h) :
    WF Tryd.prog 1 sp 41 [.pointer (some ⟨p, 0, none⟩)] h R := by
  refine wf_fn (fn := Tryd.f41) pl.p41 rfl (by kernel_rfl) rfl ?_
  have hn2 := m.n2
  have hp := popc_le 64 w
  simp (disch := (first | omega | rfl | (simp only [Yn]; omega))) only [↓reduceIte, reduceCtorEq, Za, Zb, Zc, Zd, Ze, Zf, Zg, Zh, Zi, Zj, Zk, Zl, Zm, Zn, Zo, Zp, Zq, Zr, Zs, Zt, Zu, Zv, gval, Zw, rb0, rb1, rb2, rb3, rb4, tf0, tf1, tf2, tf3, tf4, Yk, Yh, overL_one, if_pos, stX_exactN, Tryd.f41, m.m, m.l]
  refine Run.loop rfl ?_
  simp (disch := (first | omega | rfl | (simp only [Yn]; omega))) only [↓reduceIte, reduceCtorEq, Za, Zb, Zc, Zd, Ze, Zf, Zg, Zh, Zi, Zj, Zk, Zl, Zm, Zn, Zo, Zp, Zq, Zr, Zs, Zt, Zu, Zv, gval, Zw, rb0, rb1, rb2, rb3, rb4, tf0, tf1, tf2, tf3, tf4, Yk, Yh, overL_one, if_pos, stX_exactN, m.l, Nat.mul_one]
  refine runC_of (ones_spec pl.p58 m.lt ?_)
  have z1 : wrapF .i64 1 = 1 := wrapI (by omega) (by omega)
  have zl : wrapF .i64 ((n : Int) - popc 64 w) = (n : Int) - popc 64 w := wrapI (by omega) (by omega)
  have q11 : ¬ (1 : Int) < 1 := by decide
  simp (disch := (first | omega | rfl | (simp only [Yn]; omega))) only [↓reduceIte, reduceCtorEq, Za, Zb, Zc, Zd, Ze, Zf, Zg, Zh, Zi, Zj, Zk, Zl, Zm, Zn, Zo, Zp, Zq, Zr, Zs, Zt, Zu, Zv, gval, Zw, rb0, rb1, rb2, rb3, rb4, tf0, tf1, tf2, tf3, tf4, Yk, Yh, overL_one, if_pos, stX_exactN, z1, zl]
  refine Run.loop rfl ?_
  simp (disch := (first | omega | rfl | (simp only [Yn]; omega))) only [↓reduceIte, reduceCtorEq, Za, Zb, Zc, Zd, Ze, Zf, Zg, Zh, Zi, Zj, Zk, Zl, Zm, Zn, Zo, Zp, Zq, Zr, Zs, Zt, Zu, Zv, gval, Zw, rb0, rb1, rb2, rb3, rb4, tf0, tf1, tf2, tf3, tf4, Yk, Yh, overL_one, if_pos, stX_exactN, q11]
  exact hR
theorem bs1_81 (v : Int) (nx : Nat) : effBuildSlice Tryd.prog 81 1 [(0, .int .u64 v)] nx = some ⟨.slice (some ⟨nx, 0, none⟩) 1 1, [], [cellsB [.int .u64 v] .exact]⟩ := by
  rw [u_buildSlice 81 1 nx _ mk_81 (by omega)]; rfl
set_option maxRecDepth 100000 in
theorem mwords_spec (pl : Plain sp) {p lb n w : Nat} (m : MapAt h p lb n w) (hR : ∀ h', h'.nx = h.nx + 2 → h'.get (h.nx + 1) = some (cellsB [.int .u64 w] (.loose 1)) → (∀ b, b < h.nx → h'.get b = h.get b) → R (.ret (.slice (some ⟨h.nx + 1, 0, none⟩) 1 1)) h') :
    WF Tryd.prog 1 sp 57 [.pointer (some ⟨p, 0, none⟩)] h R := by
  refine wf_fn (fn := Tryd.f57) pl.p57 rfl (by kernel_rfl) rfl ?_
  simp (disch := (first | omega | rfl | (simp only [Yn]; omega))) only [↓reduceIte, reduceCtorEq, Za, Zb, Zc, Zd, Ze, Zf, Zg, Zh, Zi, Zj, Zk, Zl, Zm, Zn, Zo, Zp, Zq, Zr, Zs, Zt, Zu, Zv, gval, Zw, rb0, rb1, rb2, rb3, rb4, tf0, tf1, tf2, tf3, tf4, Yk, Yh, overL_one, if_pos, stX_exactN, Tryd.f57, m.m, m.l]
  refine Run.loop rfl ?_
  have z1 : wrapF .i64 1 = 1 := wrapI (by omega) (by omega)
  have q11 : ¬ (1 : Int) < 1 := by decide
  have happ := aAppend_nil (P := Tryd.prog) app_81_81 1 (.slice (some ⟨h.nx, 0, none⟩) 1 1) (h.new (cellsB [.int .u64 (w : Int)] .exact)).get (h.nx + 1) rfl (by omega) (by omega) (by rw [firstL_slc _ _ _ _ _ _ _ _ _ (Heap.get_new_same _ _) (by simp)])
  simp (disch := (first | omega | rfl | (simp only [Yn]; omega))) only [↓reduceIte, reduceCtorEq, Za, Zb, Zc, Zd, Ze, Zf, Zg, Zh, Zi, Zj, Zk, Zl, Zm, Zn, Zo, Zp, Zq, Zr, Zs, Zt, Zu, Zv, gval, Zw, rb0, rb1, rb2, rb3, rb4, tf0, tf1, tf2, tf3, tf4, Yk, Yh, overL_one, if_pos, stX_exactN, m.l, Nat.mul_one, bs1_81, happ, z1]
  refine Run.loop rfl ?_
  simp (disch := (first | omega | rfl | (simp only [Yn]; omega))) only [↓reduceIte, reduceCtorEq, Za, Zb, Zc, Zd, Ze, Zf, Zg, Zh, Zi, Zj, Zk, Zl, Zm, Zn, Zo, Zp, Zq, Zr, Zs, Zt, Zu, Zv, gval, Zw, rb0, rb1, rb2, rb3, rb4, tf0, tf1, tf2, tf3, tf4, Yk, Yh, overL_one, if_pos, stX_exactN, q11]
  refine hR _ (by rw [Heap.nx_new, Heap.nx_new]) (by rw [Heap.get_new_at _ (by rw [Heap.nx_new]; omega)]) fun b hb => ?_
  rw [Heap.get_new_ne _ _ (by rw [Heap.nx_new]; omega), Heap.get_new_ne _ _ (by omega)]
end Go.Proofs.YtmadjdgipfdnkaaDoor
end
section
/- Inodes: maps, keep, Alloc, Left. Conditions: the disk lies as the rule names. -/
namespace Go.Proofs.YtmadjdgipfdnkaaDoor
open Go.AM
open Nat renaming reduceBEq → Za, reduceEqDiff → Zb, reduceAdd → Zc, reduceSub → Zd, reduceMul → Ze, reduceLT → Zf, reduceLeDiff → Zg, reduceDiv → Zh, reduceMod → Zi, reducePow → Zj
open Int renaming reduceAdd → Zk, reduceSub → Zl, reduceMul → Zm, reduceLT → Zn, reduceLE → Zo, reduceEq → Zp, reduceNe → Zq, reduceNeg → Zr, reduceToNat → Zs, reduceDiv → Zt, reduceMod → Zu, reducePow → Zv, cast_ofNat_Int → Zw
set_option linter.unusedSimpArgs false
variable {sp : Special} {h : Heap} {R : Out → Heap → Prop} {bd bl : Nat} {s : FS}
theorem foot_slc (t : TypeId) (x : Operand) (k : IntKind) (c : Int) (ρ : Operand → Value) : foot (.slice t x (some (.const (.int k c))) none none) ρ = blkOf (ρ x) ++ (blkOf (ρ (.const (.int k c))) ++ []) := rfl
theorem blk_slc (b o n c : Nat) (_ : Option Nat) : blkOf (.slice (some ⟨b, o, none⟩) n c) = [b] := rfl
theorem blk_int (k : IntKind) (c : Int) : blkOf (.int k c) = [] := rfl
set_option maxRecDepth 100000 in
theorem maps_spec (pl : Plain sp) (f : Fs h bd bl s)
    (hR : ∀ h' pa la pb lb, Fs h' bd bl s → MapAt h' pa la 32 s.a → MapAt h' pb lb s.n s.b → h.nx ≤ la ∧ la < pa ∧ pa < lb ∧ lb < pb ∧ pb < h'.nx → (∀ b', b' < h.nx → b' ≠ bd → h'.get b' = h.get b') → R (.ret (.tuple #[.pointer (some ⟨pa, 0, none⟩), .pointer (some ⟨pb, 0, none⟩), .int .i64 0])) h') :
    WF Tryd.prog 1 sp 36 [.iface 23 (.pointer (some ⟨bd, 0, none⟩))] h R := by
  refine wf_fn (fn := Tryd.f36) pl.p36 rfl (by kernel_rfl) rfl ?_
  have n1 := f.wf.n1
  have n2 := f.wf.n2
  simp only [↓reduceIte, reduceCtorEq, Za, Zb, Zc, Zd, Ze, Zf, Zg, Zh, Zi, Zj, Zk, Zl, Zm, Zn, Zo, Zp, Zq, Zr, Zs, Zt, Zu, Zv, gval, Zw, rb0, rb1, rb2, rb3, rb4, tf0, tf1, tf2, tf3, tf4, Yk, Tryd.f36]
  refine runC_of (fget_spec pl f (b := 0) (by omega) fun h1 m1 g1 f1 k1 => ?_)
  have hrl : (u64s (rowD s.D 0)).length = 32 := by rw [List.length_map, rowD_len]
  have r1 : (u64s (rowD s.D 0))[1]? = some (.int .u64 (s.n : Int)) := by rw [List.getElem?_map, rowD_get (by omega)]; rfl
  have r2 : (u64s (rowD s.D 0))[2]? = some (.int .u64 ((s.a : Nat) : Int)) := by rw [List.getElem?_map, rowD_get (by omega)]; rfl
  have r3 : (u64s (rowD s.D 0))[3]? = some (.int .u64 ((s.b : Nat) : Int)) := by rw [List.getElem?_map, rowD_get (by omega)]; rfl
  have w1 : wrapF .i64 (s.n : Int) = s.n := wrapI (by omega) (by omega)
  have c1 : ¬ (s.n : Int) < 1 := by omega
  have c2 : ¬ (1024 : Int) < (s.n : Int) := by omega
  have hsl : slS (some 1) (some ⟨h.nx, 0, none⟩) 32 32 (some (.int .i64 2)) (some (.int .i64 3)) none h1.get = ret (.slice (some ⟨h.nx, 2, none⟩) 1 30) := slS_mid_loose (k := .i64) (k' := .i64) (off := 0) (n := 32) (c := 32) (l := 2) (hi := 3) g1 (by rw [hrl]) (by omega) (by omega)
  simp (disch := (first | omega | rfl | (simp only [Yn]; omega))) only [↓reduceIte, reduceCtorEq, Za, Zb, Zc, Zd, Ze, Zf, Zg, Zh, Zi, Zj, Zk, Zl, Zm, Zn, Zo, Zp, Zq, Zr, Zs, Zt, Zu, Zv, gval, Zw, rb0, rb1, rb2, rb3, rb4, tf0, tf1, tf2, tf3, tf4, Yk, Yh, overL_one, if_pos, stX_exactN, show ((0 : Int) == 0) = true from rfl, g1, hrl, r1, w1, c1, c2, hsl]
  refine runC_of (mof_spec pl.p55 pl.p69 (n := 32) (w := s.a) (by omega) (by omega) f.wf.a g1 r2 (by omega) fun h2 m2 a2 k2 => ?_)
  have g2 : h2.get h.nx = some (cellsB (u64s (rowD s.D 0)) (.loose 1)) := (k2 _ (by omega)).trans g1
  have hsl2 : slS (some 1) (some ⟨h.nx, 0, none⟩) 32 32 (some (.int .i64 3)) (some (.int .i64 4)) none h2.get = ret (.slice (some ⟨h.nx, 3, none⟩) 1 29) := slS_mid_loose (k := .i64) (k' := .i64) (off := 0) (n := 32) (c := 32) (l := 3) (hi := 4) g2 (by rw [hrl]) (by omega) (by omega)
  have w2 : wrapF .i64 ((s.n : Int) + 63) = ((s.n + 63 : Nat) : Int) := by rw [wrapI (by omega) (by omega)]; omega
  have w3 : ((s.n + 63 : Nat) : Int).tdiv 64 = 1 := by rw [Int.tdiv_eq_ediv_of_nonneg (by omega)]; omega
  have w4 : wrapF .i64 1 = 1 := wrapI (by omega) (by omega)
  have w5 : wrapF .i64 (3 + 1) = 4 := wrapI (by omega) (by omega)
  have w6 : wrapF .i64 4 = 4 := wrapI (by omega) (by omega)
  simp (disch := (first | omega | rfl | (simp only [Yn]; omega))) only [↓reduceIte, reduceCtorEq, Za, Zb, Zc, Zd, Ze, Zf, Zg, Zh, Zi, Zj, Zk, Zl, Zm, Zn, Zo, Zp, Zq, Zr, Zs, Zt, Zu, Zv, gval, Zw, rb0, rb1, rb2, rb3, rb4, tf0, tf1, tf2, tf3, tf4, Yk, Yh, overL_one, if_pos, stX_exactN, w2, w3, w4, w5, w6, hsl2]
  refine runC_of (mof_spec pl.p55 pl.p69 (n := s.n) (w := s.b) (by omega) (by omega) f.wf.b g2 r3 (by omega) fun h3 m3 a3 k3 => ?_)
  simp (disch := (first | omega | rfl | (simp only [Yn]; omega))) only [↓reduceIte, reduceCtorEq, Za, Zb, Zc, Zd, Ze, Zf, Zg, Zh, Zi, Zj, Zk, Zl, Zm, Zn, Zo, Zp, Zq, Zr, Zs, Zt, Zu, Zv, gval, Zw, rb0, rb1, rb2, rb3, rb4, tf0, tf1, tf2, tf3, tf4, Yk, Yh, overL_one, if_pos, stX_exactN, show ((0 : Int) == 0) = true from rfl]
  have q1 := f.d.bd_lt
  have q2 := f.d.bl_lt
  exact hR h3 _ _ _ _ (f1.keep (by omega) (by rw [k3 _ (by omega), k2 _ (by omega)]) (by rw [k3 _ (by omega), k2 _ (by omega)])) (a2.keep (k3 _ (by omega)) (k3 _ (by omega))) a3 (by omega) (fun b' h1' h2' => by rw [k3 _ (by omega), k2 _ (by omega)]; exact k1 b' h1' h2')
set_option maxRecDepth 100000 in
theorem keep_spec (pl : Plain sp) (f : Fs h bd bl s) {pa la pb lb a b : Nat} (ma : MapAt h pa la 32 a) (mb : MapAt h pb lb s.n b) (hlt : pa < h.nx ∧ la < h.nx ∧ pb < h.nx ∧ lb < h.nx) (hne : pa ≠ bd ∧ la ≠ bd ∧ pb ≠ bd ∧ lb ≠ bd)
    (hR : ∀ h', Fs h' bd bl (s.maps a b) → h.nx ≤ h'.nx → (∀ b', b' < h.nx → b' ≠ bd → b' ≠ bl → h'.get b' = h.get b') → R (.ret (.int .i64 0)) h') :
    WF Tryd.prog 1 sp 38 [.iface 23 (.pointer (some ⟨bd, 0, none⟩)), .pointer (some ⟨pa, 0, none⟩), .pointer (some ⟨pb, 0, none⟩)] h R := by
  refine wf_fn (fn := Tryd.f38) pl.p38 rfl (by kernel_rfl) rfl ?_
  have n1 := f.wf.n1
  have n2 := f.wf.n2
  have q1 := f.d.bd_lt
  have q2 := f.d.bl_lt
  simp only [↓reduceIte, reduceCtorEq, Za, Zb, Zc, Zd, Ze, Zf, Zg, Zh, Zi, Zj, Zk, Zl, Zm, Zn, Zo, Zp, Zq, Zr, Zs, Zt, Zu, Zv, gval, Zw, rb0, rb1, rb2, rb3, rb4, tf0, tf1, tf2, tf3, tf4, Yk, Tryd.f38]
  refine runC_of (fget_spec pl f (b := 0) (by omega) fun h1 m1 g1 f1 k1 => ?_)
  have hrl : (u64s (rowD s.D 0)).length = 32 := by rw [List.length_map, rowD_len]
  have ma1 : MapAt h1 pa la 32 a := ma.keep (k1 _ (by omega) (by omega)) (k1 _ (by omega) (by omega))
  have mb1 : MapAt h1 pb lb s.n b := mb.keep (k1 _ (by omega) (by omega)) (k1 _ (by omega) (by omega))
  have hsl : slS (some 1) (some ⟨h.nx, 0, none⟩) 32 32 (some (.int .i64 2)) none none h1.get = ret (.slice (some ⟨h.nx, 2, none⟩) 30 30) := slS_loose (k := .i64) (off := 0) (n := 32) (c := 32) (l := 2) g1 (by rw [hrl]) (by omega) (by omega)
  simp (disch := (first | omega | rfl | (simp only [Yn]; omega))) only [↓reduceIte, reduceCtorEq, Za, Zb, Zc, Zd, Ze, Zf, Zg, Zh, Zi, Zj, Zk, Zl, Zm, Zn, Zo, Zp, Zq, Zr, Zs, Zt, Zu, Zv, gval, Zw, rb0, rb1, rb2, rb3, rb4, tf0, tf1, tf2, tf3, tf4, Yk, Yh, overL_one, if_pos, stX_exactN, show ((0 : Int) == 0) = true from rfl]
  refine run_draw (ps := [(1, 3)]) (by kernel_rfl) (by kernel_rfl) ?_
  simp (disch := (first | omega | rfl | (simp only [Yn]; omega))) only [↓reduceIte, reduceCtorEq, Za, Zb, Zc, Zd, Ze, Zf, Zg, Zh, Zi, Zj, Zk, Zl, Zm, Zn, Zo, Zp, Zq, Zr, Zs, Zt, Zu, Zv, gval, Zw, rb0, rb1, rb2, rb3, rb4, tf0, tf1, tf2, tf3, tf4, Yk, Yh, overL_one, if_pos, stX_exactN, hsl]
  refine runCR_of (mwords_spec pl ma1 fun h2 m2 g2 k2 => ?_)
  have gx2 : h2.get h.nx = some (cellsB (u64s (rowD s.D 0)) (.loose 1)) := (k2 _ (by omega)).trans g1
  have hcp := aCopy_at (P := Tryd.prog) (ts := #[81, 81]) (dt := 81) (st := 81) rfl (s := 1) (by kernel_rfl) (b := h.nx) (off := 2) (dn := 30) (c := 30) (n := 1) (x := .slice (some ⟨h1.nx + 1, 0, none⟩) 1 1) (g := h2.get) (L := u64s (rowD s.D 0)) (cells := [.int .u64 a]) (k := .loose 1) rfl
    (firstL_slc _ 1 1 (h1.nx + 1) 0 _ _ _ _ g2 (by simp)) gx2 (by simp) (by rw [hrl]; show 2 + 1 ≤ 32; omega)
  rw [overL_one _ (by rw [hrl]; omega)] at hcp
  have hs12 : sameB (h1.get h.nx) (h2.get h.nx) = true := sameB_of (k2 _ (by omega)).symm
  simp (disch := (first | omega | rfl | (simp only [Yn]; omega))) only [↓reduceIte, reduceCtorEq, Za, Zb, Zc, Zd, Ze, Zf, Zg, Zh, Zi, Zj, Zk, Zl, Zm, Zn, Zo, Zp, Zq, Zr, Zs, Zt, Zu, Zv, gval, Zw, rb0, rb1, rb2, rb3, rb4, tf0, tf1, tf2, tf3, tf4, Yk, Yh, overL_one, if_pos, stX_exactN, hcp, foot_slc, blk_slc, blk_int, List.append_nil, List.all_cons, List.all_nil, hs12, Bool.and_true, true_and]
  obtain ⟨h3, hh3⟩ : ∃ h3, h2.upd h.nx (cellsB ((u64s (rowD s.D 0)).set 2 (.int .u64 a)) (.loose 1)) = h3 := ⟨_, rfl⟩
  have n3 : h3.nx = h2.nx := by rw [← hh3, Heap.nx_upd]
  have g3 : h3.get h.nx = some (cellsB ((u64s (rowD s.D 0)).set 2 (.int .u64 a)) (.loose 1)) := by rw [← hh3, Heap.get_upd_same]
  have k3 : ∀ b', b' ≠ h.nx → h3.get b' = h2.get b' := fun b' hb' => by rw [← hh3, Heap.get_upd_ne _ _ hb']
  have hrl3 : ((u64s (rowD s.D 0)).set 2 (.int .u64 (a : Int))).length = 32 := by rw [List.length_set, hrl]
  have mb3 : MapAt h3 pb lb s.n b := mb1.keep (by rw [k3 _ (by omega), k2 _ (by omega)]) (by rw [k3 _ (by omega), k2 _ (by omega)])
  rw [hh3]
  have hsl2 : slS (some 1) (some ⟨h.nx, 0, none⟩) 32 32 (some (.int .i64 3)) none none h3.get = ret (.slice (some ⟨h.nx, 3, none⟩) 29 29) := slS_loose (k := .i64) (off := 0) (n := 32) (c := 32) (l := 3) g3 (by rw [hrl3]) (by omega) (by omega)
  refine run_draw (ps := [(1, 3)]) (by kernel_rfl) (by kernel_rfl) ?_
  simp (disch := (first | omega | rfl | (simp only [Yn]; omega))) only [↓reduceIte, reduceCtorEq, Za, Zb, Zc, Zd, Ze, Zf, Zg, Zh, Zi, Zj, Zk, Zl, Zm, Zn, Zo, Zp, Zq, Zr, Zs, Zt, Zu, Zv, gval, Zw, rb0, rb1, rb2, rb3, rb4, tf0, tf1, tf2, tf3, tf4, Yk, Yh, overL_one, if_pos, stX_exactN, hsl2]
  refine runCR_of (mwords_spec pl mb3 fun h4 m4 g4 k4 => ?_)
  have gx4 : h4.get h.nx = some (cellsB ((u64s (rowD s.D 0)).set 2 (.int .u64 a)) (.loose 1)) := (k4 _ (by omega)).trans g3
  have hcp2 := aCopy_at (P := Tryd.prog) (ts := #[81, 81]) (dt := 81) (st := 81) rfl (s := 1) (by kernel_rfl) (b := h.nx) (off := 3) (dn := 29) (c := 29) (n := 1) (x := .slice (some ⟨h3.nx + 1, 0, none⟩) 1 1) (g := h4.get) (L := (u64s (rowD s.D 0)).set 2 (.int .u64 a)) (cells := [.int .u64 b]) (k := .loose 1) rfl
    (firstL_slc _ 1 1 (h3.nx + 1) 0 _ _ _ _ g4 (by simp)) gx4 (by simp) (by rw [hrl3]; show 3 + 1 ≤ 32; omega)
  rw [overL_one _ (by rw [hrl3]; omega)] at hcp2
  have hs34 : sameB (h3.get h.nx) (h4.get h.nx) = true := sameB_of (k4 _ (by omega)).symm
  simp (disch := (first | omega | rfl | (simp only [Yn]; omega))) only [↓reduceIte, reduceCtorEq, Za, Zb, Zc, Zd, Ze, Zf, Zg, Zh, Zi, Zj, Zk, Zl, Zm, Zn, Zo, Zp, Zq, Zr, Zs, Zt, Zu, Zv, gval, Zw, rb0, rb1, rb2, rb3, rb4, tf0, tf1, tf2, tf3, tf4, Yk, Yh, overL_one, if_pos, stX_exactN, hcp2, foot_slc, blk_slc, blk_int, List.append_nil, List.all_cons, List.all_nil, hs34, Bool.and_true, true_and, u_invoke, invK_iface, inv_put]
  obtain ⟨h5, hh5⟩ : ∃ h5, h4.upd h.nx (cellsB (((u64s (rowD s.D 0)).set 2 (.int .u64 a)).set 3 (.int .u64 b)) (.loose 1)) = h5 := ⟨_, rfl⟩
  have n5 : h5.nx = h4.nx := by rw [← hh5, Heap.nx_upd]
  have g5 : h5.get h.nx = some (cellsB (((u64s (rowD s.D 0)).set 2 (.int .u64 a)).set 3 (.int .u64 b)) (.loose 1)) := by rw [← hh5, Heap.get_upd_same]
  have k5 : ∀ b', b' ≠ h.nx → h5.get b' = h4.get b' := fun b' hb' => by rw [← hh5, Heap.get_upd_ne _ _ hb']
  rw [hh5]
  have k15 : ∀ b', b' < h.nx → h5.get b' = h1.get b' := fun b' hb' => by rw [k5 _ (by omega), k4 _ (by omega), k3 _ (by omega), k2 _ (by omega)]
  have hrow : ((u64s (rowD s.D 0)).set 2 (.int .u64 (a : Int))).set 3 (.int .u64 (b : Int)) = u64s (rowD (s.maps a b).D 0) := by
    apply List.ext_getElem?
    intro j
    rw [List.getElem?_set, List.getElem?_set, hrl3, hrl]
    by_cases hj : j < 32
    · have e : (u64s (rowD (s.maps a b).D 0))[j]? = some (.int .u64 ((s.maps a b).D 0 j)) := by rw [List.getElem?_map, rowD_get hj]; rfl
      rw [e]
      by_cases e3 : 3 = j
      · subst e3; rfl
      · rw [if_neg e3]
        by_cases e2 : 2 = j
        · subst e2; rfl
        · rw [if_neg e2, List.getElem?_map, rowD_get hj]
          show some (Value.int .u64 (s.D 0 j)) = _
          unfold FS.D
          rw [if_pos rfl, if_pos rfl, if_neg (Ne.symm e2), if_neg (Ne.symm e3), if_neg (Ne.symm e2), if_neg (Ne.symm e3)]; rfl
    · rw [if_neg (by omega), if_neg (by omega), List.getElem?_eq_none (by rw [hrl]; omega), List.getElem?_eq_none (by rw [List.length_map, rowD_len]; omega)]
  rw [hrow] at g5
  have f5 : Fs h5 bd bl s := f1.keep (by omega) (k15 _ q1) (k15 _ q2)
  refine runC_of (fmput_spec pl f5 (a := a) (b := b) ma.w mb.w g5 (off := 0) (by rw [List.drop_zero, List.take_of_length_le (by rw [List.length_map, rowD_len]; omega)]) (fun h6 n6 f6 k6 => ?_) (by omega))
  simp only [↓reduceIte, reduceCtorEq, Za, Zb, Zc, Zd, Ze, Zf, Zg, Zh, Zi, Zj, Zk, Zl, Zm, Zn, Zo, Zp, Zq, Zr, Zs, Zt, Zu, Zv, gval, Zw, rb0, rb1, rb2, rb3, rb4, tf0, tf1, tf2, tf3, tf4, Yk]
  exact hR h6 f6 (by omega) fun b' w1 w2 w3 => by rw [k6 _ w2 w3, k15 _ w1, k1 _ w1 w2]
end Go.Proofs.YtmadjdgipfdnkaaDoor
end
section
/- What Resize does to a file system. No condition. -/
namespace Go.Proofs.YtmadjdgipfdnkaaDoor
open Go.AM
open Nat renaming reduceBEq → Za, reduceEqDiff → Zb, reduceAdd → Zc, reduceSub → Zd, reduceMul → Ze, reduceLT → Zf, reduceLeDiff → Zg, reduceDiv → Zh, reduceMod → Zi, reducePow → Zj
open Int renaming reduceAdd → Zk, reduceSub → Zl, reduceMul → Zm, reduceLT → Zn, reduceLE → Zo, reduceEq → Zp, reduceNe → Zq, reduceNeg → Zr, reduceToNat → Zs, reduceDiv → Zt, reduceMod → Zu, reducePow → Zv, cast_ofNat_Int → Zw
set_option linter.unusedSimpArgs false
theorem popc_mono (p : Nat) : ∀ k, popc k p ≤ popc (k + 1) p := by
  intro k
  induction k generalizing p with
  | zero => exact Nat.zero_le _
  | succ k ih =>
    show p % 2 + popc k (p / 2) ≤ p % 2 + popc (k + 1) (p / 2)
    have := ih (p / 2)
    omega
theorem popc_mono' (p k m : Nat) : popc k p ≤ popc (k + m) p := by
  induction m with
  | zero => exact Nat.le_refl _
  | succ m ih => exact Nat.le_trans ih (popc_mono p (k + m))
theorem popc_full : ∀ (k p : Nat), (∀ j, j < k → p.testBit j = true) → popc k p = k
  | 0, _, _ => rfl
  | k + 1, p, h => by
    show p % 2 + popc k (p / 2) = k + 1
    have h0 := h 0 (by omega)
    rw [Nat.testBit_zero, decide_eq_true_eq] at h0
    rw [popc_full k (p / 2) fun j hj => by rw [Nat.testBit_div_two]; exact h (j + 1) (by omega), h0]
    omega
theorem lowZ_lt {p n : Nat} (hn : n < 64) (hp : p < bitN n) (h : popc 64 p < n) : lowZ p < n := by
  have hw : p < 18446744073709551615 := by have : bitN n ≤ 2 ^ 63 := Nat.pow_le_pow_right (by omega) (by omega); omega
  obtain ⟨_, _, h3⟩ := lowZ_spec hw
  by_cases c : lowZ p < n
  · exact c
  · have h1 := popc_full n p fun j hj => h3 j (by omega)
    have h2 := popc_mono' p n (64 - n)
    rw [show n + (64 - n) = 64 by omega] at h2
    omega
theorem popc_diff : ∀ (k p q j : Nat), (∀ i, q.testBit i = (p.testBit i || decide (i = j))) → p.testBit j = false → j < k → popc k q = popc k p + 1
  | 0, _, _, _, _, _, h => absurd h (by omega)
  | k + 1, p, q, 0, h, h0, _ => by
    show q % 2 + popc k (q / 2) = p % 2 + popc k (p / 2) + 1
    have a := h 0
    rw [Nat.testBit_zero, Nat.testBit_zero] at a
    rw [Nat.testBit_zero, decide_eq_false_iff_not] at h0
    have e : q / 2 = p / 2 := by
      apply Nat.eq_of_testBit_eq
      intro i
      rw [Nat.testBit_div_two, Nat.testBit_div_two, h (i + 1), decide_eq_false (by omega), Bool.or_false]
    rw [e]
    have : q % 2 = 1 := by
      simp at a; exact a
    omega
  | k + 1, p, q, j + 1, h, h0, hj => by
    show q % 2 + popc k (q / 2) = p % 2 + popc k (p / 2) + 1
    have a := h 0
    rw [Nat.testBit_zero, Nat.testBit_zero, decide_eq_false (show ¬ 0 = j + 1 by omega), Bool.or_false, decide_eq_decide] at a
    have ih := popc_diff k (p / 2) (q / 2) j (fun i => by rw [Nat.testBit_div_two, Nat.testBit_div_two, h (i + 1)]; congr 1; rw [decide_eq_decide]; omega) (by rw [Nat.testBit_div_two]; exact h0) (by omega)
    rw [ih]
    have e : q % 2 = p % 2 := by omega
    omega
theorem popc_with {p j : Nat} (hj : j < 64) (h : p.testBit j = false) : popc 64 (p ||| bitN j) = popc 64 p + 1 :=
  popc_diff 64 p _ j (fun i => by rw [testBit_with]; congr 1; rw [decide_eq_decide]; exact ⟨Eq.symm, Eq.symm⟩) h hj
def needN (n : Nat) : Nat := (n + 31) / 32
def updN (x : Nat → Int) (j : Nat) (v : Int) : Nat → Int := fun k => if k = j then v else x k
structure Rz where
  b : Nat
  dat : Nat → Nat → Int
  x : Nat → Int
def Rz.grow1 (k : Nat) (g : Rz) : Rz := ⟨markW g.b (lowZ g.b) true, fun b' => if b' = lowZ g.b then fun _ => 0 else g.dat b', updN g.x (3 + k) (lowZ g.b)⟩
def Rz.grow (k0 : Nat) : Nat → Rz → Rz
  | 0, g => g
  | m + 1, g => (Rz.grow k0 m g).grow1 (k0 + m)
def Rz.shr1 (k : Nat) (g : Rz) : Rz := ⟨markW g.b (g.x (3 + k)).toNat false, g.dat, updN g.x (3 + k) 0⟩
def Rz.shr (k0 : Nat) : Nat → Rz → Rz
  | 0, g => g
  | m + 1, g => (Rz.shr k0 m g).shr1 (k0 + m)
def FS.size (s : FS) (i : Nat) : Nat := (s.ino i 2).toNat
def FS.rz (s : FS) (i size : Nat) : Rz := Rz.shr (needN size) (needN (s.size i) - needN size) (Rz.grow (needN (s.size i)) (needN size - needN (s.size i)) ⟨s.b, s.dat, s.ino i⟩)
def FS.cut (s : FS) (i size : Nat) (g : Rz) : Nat → Nat → Int := if size < s.size i ∧ 0 < size % 32 then fun b' => if b' = (g.x (3 + (needN size - 1))).toNat then fun k => if k < size % 32 then g.dat b' k else 0 else g.dat b' else g.dat
def FS.resize (s : FS) (i size : Nat) : FS := ⟨s.n, s.a, (s.rz i size).b, fun i' => if i' = i then updN (s.rz i size).x 2 size else s.ino i', s.cut i size (s.rz i size)⟩
structure FS.Ino (s : FS) (i : Nat) : Prop where
  sz : s.ino i 2 ≤ 192
  bl : ∀ k, k < needN (s.size i) → 12 ≤ s.ino i (3 + k) ∧ s.ino i (3 + k) < s.n
def FS.Low (s : FS) : Prop := ∀ j, j < 12 → s.b.testBit j = true
structure RzOk (n : Nat) (g : Rz) : Prop where
  b : g.b < bitN n
  low : ∀ j, j < 12 → g.b.testBit j = true
  dat : ∀ i j, 0 ≤ g.dat i j ∧ g.dat i j < 18446744073709551616
  x : ∀ j, 0 ≤ g.x j ∧ g.x j < 9223372036854775808
theorem lowZ_ge {b : Nat} (hb : b < 18446744073709551615) (h : ∀ j, j < 12 → b.testBit j = true) : 12 ≤ lowZ b := by
  obtain ⟨_, h2, _⟩ := lowZ_spec hb
  by_cases c : 12 ≤ lowZ b
  · exact c
  · rw [h _ (by omega)] at h2; cases h2
theorem bitN_small {b n : Nat} (hb : b < bitN n) (hn : n ≤ 60) : b < 18446744073709551615 := by
  have : bitN n ≤ 2 ^ 60 := Nat.pow_le_pow_right (by omega) hn
  omega
theorem RzOk.grow1 {n k : Nat} {g : Rz} (hn : n ≤ 60) (o : RzOk n g) (hl : lowZ g.b < n) : RzOk n (g.grow1 k) := by
  refine ⟨?_, fun j hj => ?_, fun i j => ?_, fun j => ?_⟩
  · show markW g.b (lowZ g.b) true < bitN n
    exact markW_lt (on := true) o.b hl (by omega)
  · show (g.b ||| bitN (lowZ g.b)).testBit j = true
    rw [testBit_with, o.low j hj, Bool.true_or]
  · show 0 ≤ (if i = lowZ g.b then fun _ => (0 : Int) else g.dat i) j ∧ (if i = lowZ g.b then fun _ => (0 : Int) else g.dat i) j < _
    split
    · show (0 : Int) ≤ 0 ∧ (0 : Int) < _
      omega
    · exact o.dat i j
  · show 0 ≤ updN g.x (3 + k) (lowZ g.b) j ∧ updN g.x (3 + k) (lowZ g.b) j < _
    unfold updN
    split
    · omega
    · exact o.x j
theorem RzOk.shr1 {n k : Nat} {g : Rz} (hn : n ≤ 60) (o : RzOk n g) (hl : 12 ≤ g.x (3 + k) ∧ g.x (3 + k) < n) : RzOk n (g.shr1 k) := by
  refine ⟨?_, fun j hj => ?_, o.dat, fun j => ?_⟩
  · show markW g.b (g.x (3 + k)).toNat false < bitN n
    exact markW_lt (on := false) o.b (by omega) (by omega)
  · show (without g.b (bitN (g.x (3 + k)).toNat)).testBit j = true
    rw [testBit_drop (by have := bitN_small o.b hn; omega), o.low j hj, decide_eq_false (by omega)]; rfl
  · show 0 ≤ updN g.x (3 + k) 0 j ∧ updN g.x (3 + k) 0 j < _
    unfold updN
    split
    · omega
    · exact o.x j
theorem popc_grow {n : Nat} {g : Rz} {k0 : Nat} (hn : n ≤ 60) (o : RzOk n g) (m : Nat) (h : popc 64 g.b + m ≤ n) : RzOk n (g.grow k0 m) ∧ popc 64 (g.grow k0 m).b = popc 64 g.b + m := by
  induction m with
  | zero => exact ⟨o, by rw [Nat.add_zero, Rz.grow]⟩
  | succ m ih =>
    obtain ⟨o1, h1⟩ := ih (by omega)
    have hl : lowZ (Rz.grow k0 m g).b < n := lowZ_lt (by omega) o1.b (by omega)
    obtain ⟨s1, s2, _⟩ := lowZ_spec (bitN_small o1.b hn)
    have e := popc_with s1 s2
    have e2 : (Rz.grow k0 (m + 1) g).b = (Rz.grow k0 m g).b ||| bitN (lowZ (Rz.grow k0 m g).b) := rfl
    rw [e2, e, h1]
    exact ⟨o1.grow1 hn hl, by omega⟩
theorem grow_x {g : Rz} {k0 : Nat} : ∀ m j, (j < 3 + k0 ∨ 3 + k0 + m ≤ j) → (g.grow k0 m).x j = g.x j
  | 0, _, _ => rfl
  | m + 1, j, h => by
    show updN (Rz.grow k0 m g).x (3 + (k0 + m)) _ j = _
    unfold updN
    rw [if_neg (by omega)]
    exact grow_x m j (by omega)
theorem shr_x {g : Rz} {k0 : Nat} : ∀ m j, (j < 3 + k0 ∨ 3 + k0 + m ≤ j) → (g.shr k0 m).x j = g.x j
  | 0, _, _ => rfl
  | m + 1, j, h => by
    show updN (Rz.shr k0 m g).x (3 + (k0 + m)) _ j = _
    unfold updN
    rw [if_neg (by omega)]
    exact shr_x m j (by omega)
theorem shr_ok {n : Nat} {g : Rz} {k0 : Nat} (hn : n ≤ 60) (o : RzOk n g) : ∀ m, (∀ k, k0 ≤ k → k < k0 + m → 12 ≤ g.x (3 + k) ∧ g.x (3 + k) < n) → RzOk n (g.shr k0 m)
  | 0, _ => o
  | m + 1, h => by
    have ih := shr_ok (k0 := k0) hn o m fun k h1 h2 => h k h1 (by omega)
    refine ih.shr1 hn ?_
    rw [shr_x m (3 + (k0 + m)) (by omega)]
    exact h _ (by omega) (by omega)
theorem shr_dat {g : Rz} {k0 : Nat} : ∀ m, (g.shr k0 m).dat = g.dat
  | 0 => rfl
  | m + 1 => shr_dat m
end Go.Proofs.YtmadjdgipfdnkaaDoor
end
