/- Lemmas of the claim: the machine of the proof and the walks of the program. Conditions: as each says. -/
import Derived.Test.YtmmjeifdgfolmaaRows
import Derived.Test.YtmmjeifdgfolmaaG4
import GoSem.Step
section
/- What all proofs of this seat share: the program's own facts, the machine. -/
namespace Go.Proofs.Ytmmjeifdgfolmaa
open Go.ChangeShapes Go.WideShapes Go.ChangeAt Go.RowKit Go.AM

theorem Try.own : ownKnob Try.prog.godebug = none := by kernel_rfl
theorem Try.laidOut : laidOutB Try.prog = true := by kernel_rfl
theorem Try.kids : Kids Try.prog (· < Try.prog.types.size) := kids_rows (by kernel_rfl) (by kernel_rfl)
theorem Try.full : ∀ t e, t < Try.prog.types.size → Try.prog.underlying t = some (.slice e) → 0 < Try.prog.cellsOf e := slices_full_of Try.prog (by kernel_rfl)
noncomputable abbrev clA : Caller := acall Try.prog 0 (fun _ => none) 3000 40
theorem clA_ok : CallOk Try.prog 0 clA := acall_ok (by kernel_rfl) noSpec_ok 3000 40
end Go.Proofs.Ytmmjeifdgfolmaa
end
section
/- Facts of the types of the program that Try names, for rewriting. No condition. -/
namespace Go.Proofs.Ytmmjeifdgfolmaa
open Go.AM Go
theorem tyA_1 : tyA Try.prog 1 = some false := by kernel_rfl
theorem siz_1 : sizeOf? Try.prog 1 = some 1 := by kernel_rfl
theorem tag_1 : tyTag Try.prog 1 = 7 := by kernel_rfl
theorem zer_1 : zeroL Try.prog 1 = some ([.nilFunc]) := by kernel_rfl
theorem nob_1 : bldT Try.prog 1 = false := by kernel_rfl
theorem tyA_2 : tyA Try.prog 2 = some false := by kernel_rfl
theorem siz_2 : sizeOf? Try.prog 2 = some 1 := by kernel_rfl
theorem tag_2 : tyTag Try.prog 2 = 9 := by kernel_rfl
theorem intK_2 : intK Try.prog 2 = some .i64 := by kernel_rfl
theorem zer_2 : zeroL Try.prog 2 = some ([.int .i64 0]) := by kernel_rfl
theorem nob_2 : bldT Try.prog 2 = false := by kernel_rfl
theorem tyA_3 : tyA Try.prog 3 = some false := by kernel_rfl
theorem siz_3 : sizeOf? Try.prog 3 = some 1 := by kernel_rfl
theorem tag_3 : tyTag Try.prog 3 = 9 := by kernel_rfl
theorem intK_3 : intK Try.prog 3 = some .i64 := by kernel_rfl
theorem zer_3 : zeroL Try.prog 3 = some ([.int .i64 0]) := by kernel_rfl
theorem nob_3 : bldT Try.prog 3 = false := by kernel_rfl
theorem tyA_4 : tyA Try.prog 4 = some false := by kernel_rfl
theorem siz_4 : sizeOf? Try.prog 4 = some 1 := by kernel_rfl
theorem tag_4 : tyTag Try.prog 4 = 1 := by kernel_rfl
theorem zer_4 : zeroL Try.prog 4 = some ([.bool false]) := by kernel_rfl
theorem nob_4 : bldT Try.prog 4 = false := by kernel_rfl
theorem tyA_22 : tyA Try.prog 22 = some false := by kernel_rfl
theorem siz_22 : sizeOf? Try.prog 22 = some 1 := by kernel_rfl
theorem tag_22 : tyTag Try.prog 22 = 2 := by kernel_rfl
theorem zer_22 : zeroL Try.prog 22 = some ([.pointer none]) := by kernel_rfl
theorem nob_22 : bldT Try.prog 22 = false := by kernel_rfl
theorem tyA_25 : tyA Try.prog 25 = some false := by kernel_rfl
theorem siz_25 : sizeOf? Try.prog 25 = some 1 := by kernel_rfl
theorem tag_25 : tyTag Try.prog 25 = 9 := by kernel_rfl
theorem intK_25 : intK Try.prog 25 = some .i64 := by kernel_rfl
theorem zer_25 : zeroL Try.prog 25 = some ([.int .i64 0]) := by kernel_rfl
theorem nob_25 : bldT Try.prog 25 = false := by kernel_rfl
theorem tyA_34 : tyA Try.prog 34 = some false := by kernel_rfl
theorem siz_34 : sizeOf? Try.prog 34 = some 1 := by kernel_rfl
theorem tag_34 : tyTag Try.prog 34 = 4 := by kernel_rfl
theorem slc_34 : slcOf Try.prog 34 = some 1 := by kernel_rfl
theorem mk_34 : mkOf Try.prog 34 = some ([.int .i64 0], 1, 10) := by kernel_rfl
theorem zer_34 : zeroL Try.prog 34 = some ([.slice none 0 0]) := by kernel_rfl
theorem nob_34 : bldT Try.prog 34 = false := by kernel_rfl
theorem tyA_36 : tyA Try.prog 36 = some false := by kernel_rfl
theorem siz_36 : sizeOf? Try.prog 36 = some 1 := by kernel_rfl
theorem tag_36 : tyTag Try.prog 36 = 7 := by kernel_rfl
theorem zer_36 : zeroL Try.prog 36 = some ([.nilFunc]) := by kernel_rfl
theorem nob_36 : bldT Try.prog 36 = false := by kernel_rfl
theorem tyA_40 : tyA Try.prog 40 = some false := by kernel_rfl
theorem siz_40 : sizeOf? Try.prog 40 = some 1 := by kernel_rfl
theorem tag_40 : tyTag Try.prog 40 = 2 := by kernel_rfl
theorem zer_40 : zeroL Try.prog 40 = some ([.pointer none]) := by kernel_rfl
theorem nob_40 : bldT Try.prog 40 = false := by kernel_rfl
theorem tyA_42 : tyA Try.prog 42 = some true := by kernel_rfl
theorem siz_42 : sizeOf? Try.prog 42 = some 16 := by kernel_rfl
theorem tag_42 : tyTag Try.prog 42 = 9 := by kernel_rfl
theorem arr_42 : arrOf Try.prog 42 = some (16, some false, 1) := by kernel_rfl
theorem sarr_42 : sarrOf Try.prog 42 = some (16, 1) := by kernel_rfl
theorem zer_42 : zeroL Try.prog 42 = some ([.bool false, .bool false, .bool false, .bool false, .bool false, .bool false, .bool false, .bool false, .bool false, .bool false, .bool false, .bool false, .bool false, .bool false, .bool false, .bool false]) := by kernel_rfl
theorem nob_42 : bldT Try.prog 42 = false := by kernel_rfl
theorem tyA_44 : tyA Try.prog 44 = some false := by kernel_rfl
theorem siz_44 : sizeOf? Try.prog 44 = some 1 := by kernel_rfl
theorem tag_44 : tyTag Try.prog 44 = 9 := by kernel_rfl
theorem intK_44 : intK Try.prog 44 = some .u64 := by kernel_rfl
theorem zer_44 : zeroL Try.prog 44 = some ([.int .u64 0]) := by kernel_rfl
theorem nob_44 : bldT Try.prog 44 = false := by kernel_rfl
theorem tyA_47 : tyA Try.prog 47 = some false := by kernel_rfl
theorem siz_47 : sizeOf? Try.prog 47 = some 1 := by kernel_rfl
theorem tag_47 : tyTag Try.prog 47 = 4 := by kernel_rfl
theorem slc_47 : slcOf Try.prog 47 = some 1 := by kernel_rfl
theorem mk_47 : mkOf Try.prog 47 = some ([.int .u64 0], 1, 10) := by kernel_rfl
theorem zer_47 : zeroL Try.prog 47 = some ([.slice none 0 0]) := by kernel_rfl
theorem nob_47 : bldT Try.prog 47 = false := by kernel_rfl
theorem tyA_49 : tyA Try.prog 49 = some true := by kernel_rfl
theorem siz_49 : sizeOf? Try.prog 49 = some 2 := by kernel_rfl
theorem tag_49 : tyTag Try.prog 49 = 9 := by kernel_rfl
theorem zer_49 : zeroL Try.prog 49 = some ([.int .i64 0, .slice none 0 0]) := by kernel_rfl
theorem nob_49 : bldT Try.prog 49 = false := by kernel_rfl
theorem fld_49_0 : fldOf Try.prog 49 0 = some (0, some false, 1) := by kernel_rfl
theorem fld_49_1 : fldOf Try.prog 49 1 = some (1, some false, 1) := by kernel_rfl
theorem tyA_57 : tyA Try.prog 57 = some true := by kernel_rfl
theorem siz_57 : sizeOf? Try.prog 57 = some 3 := by kernel_rfl
theorem tag_57 : tyTag Try.prog 57 = 9 := by kernel_rfl
theorem zer_57 : zeroL Try.prog 57 = some ([.int .i64 0, .int .i64 0, .int .i64 0]) := by kernel_rfl
theorem nob_57 : bldT Try.prog 57 = false := by kernel_rfl
theorem fld_57_0 : fldOf Try.prog 57 0 = some (0, some false, 1) := by kernel_rfl
theorem fld_57_1 : fldOf Try.prog 57 1 = some (1, some false, 1) := by kernel_rfl
theorem fld_57_2 : fldOf Try.prog 57 2 = some (2, some false, 1) := by kernel_rfl
theorem tyA_62 : tyA Try.prog 62 = some false := by kernel_rfl
theorem siz_62 : sizeOf? Try.prog 62 = some 1 := by kernel_rfl
theorem tag_62 : tyTag Try.prog 62 = 2 := by kernel_rfl
theorem zer_62 : zeroL Try.prog 62 = some ([.pointer none]) := by kernel_rfl
theorem nob_62 : bldT Try.prog 62 = false := by kernel_rfl
theorem tyA_67 : tyA Try.prog 67 = some false := by kernel_rfl
theorem siz_67 : sizeOf? Try.prog 67 = some 1 := by kernel_rfl
theorem tag_67 : tyTag Try.prog 67 = 4 := by kernel_rfl
theorem slc_67 : slcOf Try.prog 67 = some 3 := by kernel_rfl
theorem mk_67 : mkOf Try.prog 67 = some ([.int .i64 0, .int .i64 0, .int .i64 0], 3, 28) := by kernel_rfl
theorem zer_67 : zeroL Try.prog 67 = some ([.slice none 0 0]) := by kernel_rfl
theorem nob_67 : bldT Try.prog 67 = false := by kernel_rfl
theorem tyA_69 : tyA Try.prog 69 = some true := by kernel_rfl
theorem siz_69 : sizeOf? Try.prog 69 = some 3 := by kernel_rfl
theorem tag_69 : tyTag Try.prog 69 = 9 := by kernel_rfl
theorem zer_69 : zeroL Try.prog 69 = some ([.int .i64 0, .int .i64 0, .int .i64 0]) := by kernel_rfl
theorem nob_69 : bldT Try.prog 69 = false := by kernel_rfl
theorem fld_69_0 : fldOf Try.prog 69 0 = some (0, some false, 1) := by kernel_rfl
theorem fld_69_1 : fldOf Try.prog 69 1 = some (1, some false, 1) := by kernel_rfl
theorem fld_69_2 : fldOf Try.prog 69 2 = some (2, some false, 1) := by kernel_rfl
theorem tyA_70 : tyA Try.prog 70 = some true := by kernel_rfl
theorem siz_70 : sizeOf? Try.prog 70 = some 24 := by kernel_rfl
theorem tag_70 : tyTag Try.prog 70 = 9 := by kernel_rfl
theorem arr_70 : arrOf Try.prog 70 = some (8, some true, 3) := by kernel_rfl
theorem sarr_70 : sarrOf Try.prog 70 = some (8, 3) := by kernel_rfl
theorem zer_70 : zeroL Try.prog 70 = some (repeatL ([.int .i64 0, .int .i64 0, .int .i64 0]) 8) := by kernel_rfl
theorem nob_70 : bldT Try.prog 70 = false := by kernel_rfl
theorem tyA_72 : tyA Try.prog 72 = some true := by kernel_rfl
theorem siz_72 : sizeOf? Try.prog 72 = some 24 := by kernel_rfl
theorem tag_72 : tyTag Try.prog 72 = 9 := by kernel_rfl
theorem zer_72 : zeroL Try.prog 72 = some ((repeatL ([.int .i64 0, .int .i64 0, .int .i64 0]) 8)) := by kernel_rfl
theorem nob_72 : bldT Try.prog 72 = false := by kernel_rfl
theorem fld_72_0 : fldOf Try.prog 72 0 = some (0, some true, 24) := by kernel_rfl
theorem tyA_80 : tyA Try.prog 80 = some true := by kernel_rfl
theorem siz_80 : sizeOf? Try.prog 80 = some 6 := by kernel_rfl
theorem tag_80 : tyTag Try.prog 80 = 9 := by kernel_rfl
theorem zer_80 : zeroL Try.prog 80 = some ([.int .i64 0, .int .i64 0, .int .i64 0, .int .u64 0, .int .i64 0, .slice none 0 0]) := by kernel_rfl
theorem nob_80 : bldT Try.prog 80 = false := by kernel_rfl
theorem fld_80_0 : fldOf Try.prog 80 0 = some (0, some false, 1) := by kernel_rfl
theorem fld_80_1 : fldOf Try.prog 80 1 = some (1, some false, 1) := by kernel_rfl
theorem fld_80_2 : fldOf Try.prog 80 2 = some (2, some false, 1) := by kernel_rfl
theorem fld_80_3 : fldOf Try.prog 80 3 = some (3, some false, 1) := by kernel_rfl
theorem fld_80_4 : fldOf Try.prog 80 4 = some (4, some true, 2) := by kernel_rfl
theorem tyA_86 : tyA Try.prog 86 = some false := by kernel_rfl
theorem siz_86 : sizeOf? Try.prog 86 = some 1 := by kernel_rfl
theorem tag_86 : tyTag Try.prog 86 = 2 := by kernel_rfl
theorem zer_86 : zeroL Try.prog 86 = some ([.pointer none]) := by kernel_rfl
theorem nob_86 : bldT Try.prog 86 = false := by kernel_rfl
theorem tyA_89 : tyA Try.prog 89 = some false := by kernel_rfl
theorem siz_89 : sizeOf? Try.prog 89 = some 1 := by kernel_rfl
theorem tag_89 : tyTag Try.prog 89 = 6 := by kernel_rfl
theorem zer_89 : zeroL Try.prog 89 = some ([.map none]) := by kernel_rfl
theorem nob_89 : bldT Try.prog 89 = false := by kernel_rfl
theorem tyA_91 : tyA Try.prog 91 = some true := by kernel_rfl
theorem siz_91 : sizeOf? Try.prog 91 = some 1 := by kernel_rfl
theorem tag_91 : tyTag Try.prog 91 = 9 := by kernel_rfl
theorem zer_91 : zeroL Try.prog 91 = some ([.map none]) := by kernel_rfl
theorem nob_91 : bldT Try.prog 91 = false := by kernel_rfl
theorem fld_91_0 : fldOf Try.prog 91 0 = some (0, some false, 1) := by kernel_rfl
theorem tyA_92 : tyA Try.prog 92 = some false := by kernel_rfl
theorem siz_92 : sizeOf? Try.prog 92 = some 1 := by kernel_rfl
theorem tag_92 : tyTag Try.prog 92 = 2 := by kernel_rfl
theorem zer_92 : zeroL Try.prog 92 = some ([.pointer none]) := by kernel_rfl
theorem nob_92 : bldT Try.prog 92 = false := by kernel_rfl
theorem tyA_94 : tyA Try.prog 94 = some true := by kernel_rfl
theorem siz_94 : sizeOf? Try.prog 94 = some 3 := by kernel_rfl
theorem tag_94 : tyTag Try.prog 94 = 9 := by kernel_rfl
theorem zer_94 : zeroL Try.prog 94 = some ([.bool false, .int .i64 0, .int .i64 0]) := by kernel_rfl
theorem nob_94 : bldT Try.prog 94 = false := by kernel_rfl
theorem fld_94_0 : fldOf Try.prog 94 0 = some (0, some false, 1) := by kernel_rfl
theorem fld_94_1 : fldOf Try.prog 94 1 = some (1, some false, 1) := by kernel_rfl
theorem fld_94_2 : fldOf Try.prog 94 2 = some (2, some false, 1) := by kernel_rfl
theorem tyA_96 : tyA Try.prog 96 = some true := by kernel_rfl
theorem siz_96 : sizeOf? Try.prog 96 = some 16 := by kernel_rfl
theorem tag_96 : tyTag Try.prog 96 = 9 := by kernel_rfl
theorem arr_96 : arrOf Try.prog 96 = some (16, some false, 1) := by kernel_rfl
theorem sarr_96 : sarrOf Try.prog 96 = some (16, 1) := by kernel_rfl
theorem zer_96 : zeroL Try.prog 96 = some ([.int .u64 0, .int .u64 0, .int .u64 0, .int .u64 0, .int .u64 0, .int .u64 0, .int .u64 0, .int .u64 0, .int .u64 0, .int .u64 0, .int .u64 0, .int .u64 0, .int .u64 0, .int .u64 0, .int .u64 0, .int .u64 0]) := by kernel_rfl
theorem nob_96 : bldT Try.prog 96 = false := by kernel_rfl
theorem tyA_98 : tyA Try.prog 98 = some true := by kernel_rfl
theorem siz_98 : sizeOf? Try.prog 98 = some 20 := by kernel_rfl
theorem tag_98 : tyTag Try.prog 98 = 9 := by kernel_rfl
theorem zer_98 : zeroL Try.prog 98 = some ([.int .u64 0, .int .u64 0, .int .u64 0, .int .u64 0, .int .u64 0, .int .u64 0, .int .u64 0, .int .u64 0, .int .u64 0, .int .u64 0, .int .u64 0, .int .u64 0, .int .u64 0, .int .u64 0, .int .u64 0, .int .u64 0, .int .u64 0, .bool false, .int .i64 0, .slice none 0 0]) := by kernel_rfl
theorem nob_98 : bldT Try.prog 98 = false := by kernel_rfl
theorem fld_98_0 : fldOf Try.prog 98 0 = some (0, some true, 16) := by kernel_rfl
theorem fld_98_1 : fldOf Try.prog 98 1 = some (16, some false, 1) := by kernel_rfl
theorem fld_98_2 : fldOf Try.prog 98 2 = some (17, some false, 1) := by kernel_rfl
theorem fld_98_3 : fldOf Try.prog 98 3 = some (18, some true, 2) := by kernel_rfl
theorem tyA_99 : tyA Try.prog 99 = some true := by kernel_rfl
theorem siz_99 : sizeOf? Try.prog 99 = some 160 := by kernel_rfl
theorem tag_99 : tyTag Try.prog 99 = 9 := by kernel_rfl
theorem arr_99 : arrOf Try.prog 99 = some (8, some true, 20) := by kernel_rfl
theorem sarr_99 : sarrOf Try.prog 99 = some (8, 20) := by kernel_rfl
theorem zer_99 : zeroL Try.prog 99 = some (repeatL ([.int .u64 0, .int .u64 0, .int .u64 0, .int .u64 0, .int .u64 0, .int .u64 0, .int .u64 0, .int .u64 0, .int .u64 0, .int .u64 0, .int .u64 0, .int .u64 0, .int .u64 0, .int .u64 0, .int .u64 0, .int .u64 0, .int .u64 0, .bool false, .int .i64 0, .slice none 0 0]) 8) := by kernel_rfl
theorem nob_99 : bldT Try.prog 99 = false := by kernel_rfl
theorem tyA_101 : tyA Try.prog 101 = some true := by kernel_rfl
theorem siz_101 : sizeOf? Try.prog 101 = some 160 := by kernel_rfl
theorem tag_101 : tyTag Try.prog 101 = 9 := by kernel_rfl
theorem zer_101 : zeroL Try.prog 101 = some ((repeatL ([.int .u64 0, .int .u64 0, .int .u64 0, .int .u64 0, .int .u64 0, .int .u64 0, .int .u64 0, .int .u64 0, .int .u64 0, .int .u64 0, .int .u64 0, .int .u64 0, .int .u64 0, .int .u64 0, .int .u64 0, .int .u64 0, .int .u64 0, .bool false, .int .i64 0, .slice none 0 0]) 8)) := by kernel_rfl
theorem nob_101 : bldT Try.prog 101 = false := by kernel_rfl
theorem fld_101_0 : fldOf Try.prog 101 0 = some (0, some true, 160) := by kernel_rfl
theorem tyA_103 : tyA Try.prog 103 = some false := by kernel_rfl
theorem siz_103 : sizeOf? Try.prog 103 = some 1 := by kernel_rfl
theorem tag_103 : tyTag Try.prog 103 = 2 := by kernel_rfl
theorem zer_103 : zeroL Try.prog 103 = some ([.pointer none]) := by kernel_rfl
theorem nob_103 : bldT Try.prog 103 = false := by kernel_rfl
theorem tyA_107 : tyA Try.prog 107 = some true := by kernel_rfl
theorem siz_107 : sizeOf? Try.prog 107 = some 3 := by kernel_rfl
theorem tag_107 : tyTag Try.prog 107 = 9 := by kernel_rfl
theorem arr_107 : arrOf Try.prog 107 = some (3, some false, 1) := by kernel_rfl
theorem sarr_107 : sarrOf Try.prog 107 = some (3, 1) := by kernel_rfl
theorem zer_107 : zeroL Try.prog 107 = some ([.int .u64 0, .int .u64 0, .int .u64 0]) := by kernel_rfl
theorem nob_107 : bldT Try.prog 107 = false := by kernel_rfl
theorem tyA_109 : tyA Try.prog 109 = some false := by kernel_rfl
theorem siz_109 : sizeOf? Try.prog 109 = some 1 := by kernel_rfl
theorem tag_109 : tyTag Try.prog 109 = 9 := by kernel_rfl
theorem intK_109 : intK Try.prog 109 = some .u64 := by kernel_rfl
theorem zer_109 : zeroL Try.prog 109 = some ([.int .u64 0]) := by kernel_rfl
theorem nob_109 : bldT Try.prog 109 = false := by kernel_rfl
theorem tyA_111 : tyA Try.prog 111 = some false := by kernel_rfl
theorem siz_111 : sizeOf? Try.prog 111 = some 1 := by kernel_rfl
theorem tag_111 : tyTag Try.prog 111 = 2 := by kernel_rfl
theorem zer_111 : zeroL Try.prog 111 = some ([.pointer none]) := by kernel_rfl
theorem nob_111 : bldT Try.prog 111 = false := by kernel_rfl
theorem tyA_112 : tyA Try.prog 112 = some true := by kernel_rfl
theorem siz_112 : sizeOf? Try.prog 112 = some 15 := by kernel_rfl
theorem tag_112 : tyTag Try.prog 112 = 9 := by kernel_rfl
theorem arr_112 : arrOf Try.prog 112 = some (15, some false, 1) := by kernel_rfl
theorem sarr_112 : sarrOf Try.prog 112 = some (15, 1) := by kernel_rfl
theorem zer_112 : zeroL Try.prog 112 = some ([.int .u64 0, .int .u64 0, .int .u64 0, .int .u64 0, .int .u64 0, .int .u64 0, .int .u64 0, .int .u64 0, .int .u64 0, .int .u64 0, .int .u64 0, .int .u64 0, .int .u64 0, .int .u64 0, .int .u64 0]) := by kernel_rfl
theorem nob_112 : bldT Try.prog 112 = false := by kernel_rfl
theorem tyA_113 : tyA Try.prog 113 = some true := by kernel_rfl
theorem siz_113 : sizeOf? Try.prog 113 = some 15 := by kernel_rfl
theorem tag_113 : tyTag Try.prog 113 = 9 := by kernel_rfl
theorem arr_113 : arrOf Try.prog 113 = some (15, some false, 1) := by kernel_rfl
theorem sarr_113 : sarrOf Try.prog 113 = some (15, 1) := by kernel_rfl
theorem zer_113 : zeroL Try.prog 113 = some ([.bool false, .bool false, .bool false, .bool false, .bool false, .bool false, .bool false, .bool false, .bool false, .bool false, .bool false, .bool false, .bool false, .bool false, .bool false]) := by kernel_rfl
theorem nob_113 : bldT Try.prog 113 = false := by kernel_rfl
theorem tyA_115 : tyA Try.prog 115 = some true := by kernel_rfl
theorem siz_115 : sizeOf? Try.prog 115 = some 33 := by kernel_rfl
theorem tag_115 : tyTag Try.prog 115 = 9 := by kernel_rfl
theorem zer_115 : zeroL Try.prog 115 = some ([.int .u64 0, .int .u64 0, .int .u64 0, .int .u64 0, .int .u64 0, .int .u64 0, .int .u64 0, .int .u64 0, .int .u64 0, .int .u64 0, .int .u64 0, .int .u64 0, .int .u64 0, .int .u64 0, .int .u64 0, .bool false, .bool false, .bool false, .bool false, .bool false, .bool false, .bool false, .bool false, .bool false, .bool false, .bool false, .bool false, .bool false, .bool false, .bool false, .bool false, .int .i64 0, .slice none 0 0]) := by kernel_rfl
theorem nob_115 : bldT Try.prog 115 = false := by kernel_rfl
theorem fld_115_0 : fldOf Try.prog 115 0 = some (0, some true, 15) := by kernel_rfl
theorem fld_115_1 : fldOf Try.prog 115 1 = some (15, some true, 15) := by kernel_rfl
theorem fld_115_2 : fldOf Try.prog 115 2 = some (30, some false, 1) := by kernel_rfl
theorem fld_115_3 : fldOf Try.prog 115 3 = some (31, some true, 2) := by kernel_rfl
theorem tyA_116 : tyA Try.prog 116 = some true := by kernel_rfl
theorem siz_116 : sizeOf? Try.prog 116 = some 264 := by kernel_rfl
theorem tag_116 : tyTag Try.prog 116 = 9 := by kernel_rfl
theorem arr_116 : arrOf Try.prog 116 = some (8, some true, 33) := by kernel_rfl
theorem sarr_116 : sarrOf Try.prog 116 = some (8, 33) := by kernel_rfl
theorem zer_116 : zeroL Try.prog 116 = some (repeatL ([.int .u64 0, .int .u64 0, .int .u64 0, .int .u64 0, .int .u64 0, .int .u64 0, .int .u64 0, .int .u64 0, .int .u64 0, .int .u64 0, .int .u64 0, .int .u64 0, .int .u64 0, .int .u64 0, .int .u64 0, .bool false, .bool false, .bool false, .bool false, .bool false, .bool false, .bool false, .bool false, .bool false, .bool false, .bool false, .bool false, .bool false, .bool false, .bool false, .bool false, .int .i64 0, .slice none 0 0]) 8) := by kernel_rfl
theorem nob_116 : bldT Try.prog 116 = false := by kernel_rfl
theorem tyA_118 : tyA Try.prog 118 = some true := by kernel_rfl
theorem siz_118 : sizeOf? Try.prog 118 = some 264 := by kernel_rfl
theorem tag_118 : tyTag Try.prog 118 = 9 := by kernel_rfl
theorem zer_118 : zeroL Try.prog 118 = some ((repeatL ([.int .u64 0, .int .u64 0, .int .u64 0, .int .u64 0, .int .u64 0, .int .u64 0, .int .u64 0, .int .u64 0, .int .u64 0, .int .u64 0, .int .u64 0, .int .u64 0, .int .u64 0, .int .u64 0, .int .u64 0, .bool false, .bool false, .bool false, .bool false, .bool false, .bool false, .bool false, .bool false, .bool false, .bool false, .bool false, .bool false, .bool false, .bool false, .bool false, .bool false, .int .i64 0, .slice none 0 0]) 8)) := by kernel_rfl
theorem nob_118 : bldT Try.prog 118 = false := by kernel_rfl
theorem fld_118_0 : fldOf Try.prog 118 0 = some (0, some true, 264) := by kernel_rfl
theorem bld_49 : bldOf Try.prog 49 = some ([.int .i64 0, .slice none 0 0], [(0, 1), (1, 1)]) := by kernel_rfl
theorem build_49 (parts : List (Nat × Value)) : aBuild Try.prog 49 parts = if parts.all (fun x => Nat.blt x.1 2) = true then fillL (fun i => [(0, 1), (1, 1)][i]?) ([.int .i64 0, .slice none 0 0]) parts else aBuildO Try.prog 49 parts := u_build' bld_49 parts
theorem bld_69 : bldOf Try.prog 69 = some ([.int .i64 0, .int .i64 0, .int .i64 0], [(0, 1), (1, 1), (2, 1)]) := by kernel_rfl
theorem build_69 (parts : List (Nat × Value)) : aBuild Try.prog 69 parts = if parts.all (fun x => Nat.blt x.1 3) = true then fillL (fun i => [(0, 1), (1, 1), (2, 1)][i]?) ([.int .i64 0, .int .i64 0, .int .i64 0]) parts else aBuildO Try.prog 69 parts := u_build' bld_69 parts
theorem bld_70 : bldOf Try.prog 70 = some (repeatL ([.int .i64 0, .int .i64 0, .int .i64 0]) 8, [(0, 3), (3, 3), (6, 3), (9, 3), (12, 3), (15, 3), (18, 3), (21, 3)]) := by kernel_rfl
theorem build_70 (parts : List (Nat × Value)) : aBuild Try.prog 70 parts = if parts.all (fun x => Nat.blt x.1 8) = true then fillL (fun i => [(0, 3), (3, 3), (6, 3), (9, 3), (12, 3), (15, 3), (18, 3), (21, 3)][i]?) (repeatL ([.int .i64 0, .int .i64 0, .int .i64 0]) 8) parts else aBuildO Try.prog 70 parts := u_build' bld_70 parts
theorem bld_72 : bldOf Try.prog 72 = some ((repeatL ([.int .i64 0, .int .i64 0, .int .i64 0]) 8), [(0, 24)]) := by kernel_rfl
theorem build_72 (parts : List (Nat × Value)) : aBuild Try.prog 72 parts = if parts.all (fun x => Nat.blt x.1 1) = true then fillL (fun i => [(0, 24)][i]?) ((repeatL ([.int .i64 0, .int .i64 0, .int .i64 0]) 8)) parts else aBuildO Try.prog 72 parts := u_build' bld_72 parts
theorem bld_91 : bldOf Try.prog 91 = some ([.map none], [(0, 1)]) := by kernel_rfl
theorem build_91 (parts : List (Nat × Value)) : aBuild Try.prog 91 parts = if parts.all (fun x => Nat.blt x.1 1) = true then fillL (fun i => [(0, 1)][i]?) ([.map none]) parts else aBuildO Try.prog 91 parts := u_build' bld_91 parts
theorem bld_94 : bldOf Try.prog 94 = some ([.bool false, .int .i64 0, .int .i64 0], [(0, 1), (1, 1), (2, 1)]) := by kernel_rfl
theorem build_94 (parts : List (Nat × Value)) : aBuild Try.prog 94 parts = if parts.all (fun x => Nat.blt x.1 3) = true then fillL (fun i => [(0, 1), (1, 1), (2, 1)][i]?) ([.bool false, .int .i64 0, .int .i64 0]) parts else aBuildO Try.prog 94 parts := u_build' bld_94 parts
theorem bld_101 : bldOf Try.prog 101 = some ((repeatL ([.int .u64 0, .int .u64 0, .int .u64 0, .int .u64 0, .int .u64 0, .int .u64 0, .int .u64 0, .int .u64 0, .int .u64 0, .int .u64 0, .int .u64 0, .int .u64 0, .int .u64 0, .int .u64 0, .int .u64 0, .int .u64 0, .int .u64 0, .bool false, .int .i64 0, .slice none 0 0]) 8), [(0, 160)]) := by kernel_rfl
theorem build_101 (parts : List (Nat × Value)) : aBuild Try.prog 101 parts = if parts.all (fun x => Nat.blt x.1 1) = true then fillL (fun i => [(0, 160)][i]?) ((repeatL ([.int .u64 0, .int .u64 0, .int .u64 0, .int .u64 0, .int .u64 0, .int .u64 0, .int .u64 0, .int .u64 0, .int .u64 0, .int .u64 0, .int .u64 0, .int .u64 0, .int .u64 0, .int .u64 0, .int .u64 0, .int .u64 0, .int .u64 0, .bool false, .int .i64 0, .slice none 0 0]) 8)) parts else aBuildO Try.prog 101 parts := u_build' bld_101 parts
theorem bld_107 : bldOf Try.prog 107 = some ([.int .u64 0, .int .u64 0, .int .u64 0], [(0, 1), (1, 1), (2, 1)]) := by kernel_rfl
theorem build_107 (parts : List (Nat × Value)) : aBuild Try.prog 107 parts = if parts.all (fun x => Nat.blt x.1 3) = true then fillL (fun i => [(0, 1), (1, 1), (2, 1)][i]?) ([.int .u64 0, .int .u64 0, .int .u64 0]) parts else aBuildO Try.prog 107 parts := u_build' bld_107 parts
theorem bld_118 : bldOf Try.prog 118 = some ((repeatL ([.int .u64 0, .int .u64 0, .int .u64 0, .int .u64 0, .int .u64 0, .int .u64 0, .int .u64 0, .int .u64 0, .int .u64 0, .int .u64 0, .int .u64 0, .int .u64 0, .int .u64 0, .int .u64 0, .int .u64 0, .bool false, .bool false, .bool false, .bool false, .bool false, .bool false, .bool false, .bool false, .bool false, .bool false, .bool false, .bool false, .bool false, .bool false, .bool false, .bool false, .int .i64 0, .slice none 0 0]) 8), [(0, 264)]) := by kernel_rfl
theorem build_118 (parts : List (Nat × Value)) : aBuild Try.prog 118 parts = if parts.all (fun x => Nat.blt x.1 1) = true then fillL (fun i => [(0, 264)][i]?) ((repeatL ([.int .u64 0, .int .u64 0, .int .u64 0, .int .u64 0, .int .u64 0, .int .u64 0, .int .u64 0, .int .u64 0, .int .u64 0, .int .u64 0, .int .u64 0, .int .u64 0, .int .u64 0, .int .u64 0, .int .u64 0, .bool false, .bool false, .bool false, .bool false, .bool false, .bool false, .bool false, .bool false, .bool false, .bool false, .bool false, .bool false, .bool false, .bool false, .bool false, .bool false, .int .i64 0, .slice none 0 0]) 8)) parts else aBuildO Try.prog 118 parts := u_build' bld_118 parts
theorem bs0_47 (nx : Nat) : effBuildSlice Try.prog 47 0 [] nx = some ⟨.slice (some ⟨nx, 0, none⟩) 0 0, [], [cellsB [] .exact]⟩ := u_buildSlice0 47 nx mk_47
theorem app_34_34 : appT Try.prog #[34, 34] = some ([.int .i64 0], 1, 10) := by kernel_rfl
theorem app_47_47 : appT Try.prog #[47, 47] = some ([.int .u64 0], 1, 10) := by kernel_rfl
theorem tf0 : type_of% (And.intro (And.intro (And.intro (And.intro (And.intro (@tyA_1) (And.intro (@siz_1) (@tag_1))) (And.intro (And.intro (@zer_1) (@nob_1)) (And.intro (@tyA_2) (@siz_2)))) (And.intro (And.intro (And.intro (@tag_2) (@intK_2)) (And.intro (@zer_2) (@nob_2))) (And.intro (And.intro (@tyA_3) (@siz_3)) (And.intro (@tag_3) (@intK_3))))) (And.intro (And.intro (And.intro (@zer_3) (And.intro (@nob_3) (@tyA_4))) (And.intro (And.intro (@siz_4) (@tag_4)) (And.intro (@zer_4) (@nob_4)))) (And.intro (And.intro (And.intro (@tyA_22) (@siz_22)) (And.intro (@tag_22) (@zer_22))) (And.intro (And.intro (@nob_22) (@tyA_25)) (And.intro (@siz_25) (@tag_25)))))) (And.intro (And.intro (And.intro (And.intro (@intK_25) (And.intro (@zer_25) (@nob_25))) (And.intro (And.intro (@tyA_34) (@siz_34)) (And.intro (@tag_34) (@slc_34)))) (And.intro (And.intro (And.intro (@mk_34) (@zer_34)) (And.intro (@nob_34) (@tyA_36))) (And.intro (And.intro (@siz_36) (@tag_36)) (And.intro (@zer_36) (@nob_36))))) (And.intro (And.intro (And.intro (@tyA_40) (And.intro (@siz_40) (@tag_40))) (And.intro (And.intro (@zer_40) (@nob_40)) (And.intro (@tyA_42) (@siz_42)))) (And.intro (And.intro (And.intro (@tag_42) (@arr_42)) (And.intro (@sarr_42) (@zer_42))) (And.intro (And.intro (@nob_42) (@tyA_44)) (And.intro (@siz_44) (@tag_44))))))) := And.intro (And.intro (And.intro (And.intro (And.intro (@tyA_1) (And.intro (@siz_1) (@tag_1))) (And.intro (And.intro (@zer_1) (@nob_1)) (And.intro (@tyA_2) (@siz_2)))) (And.intro (And.intro (And.intro (@tag_2) (@intK_2)) (And.intro (@zer_2) (@nob_2))) (And.intro (And.intro (@tyA_3) (@siz_3)) (And.intro (@tag_3) (@intK_3))))) (And.intro (And.intro (And.intro (@zer_3) (And.intro (@nob_3) (@tyA_4))) (And.intro (And.intro (@siz_4) (@tag_4)) (And.intro (@zer_4) (@nob_4)))) (And.intro (And.intro (And.intro (@tyA_22) (@siz_22)) (And.intro (@tag_22) (@zer_22))) (And.intro (And.intro (@nob_22) (@tyA_25)) (And.intro (@siz_25) (@tag_25)))))) (And.intro (And.intro (And.intro (And.intro (@intK_25) (And.intro (@zer_25) (@nob_25))) (And.intro (And.intro (@tyA_34) (@siz_34)) (And.intro (@tag_34) (@slc_34)))) (And.intro (And.intro (And.intro (@mk_34) (@zer_34)) (And.intro (@nob_34) (@tyA_36))) (And.intro (And.intro (@siz_36) (@tag_36)) (And.intro (@zer_36) (@nob_36))))) (And.intro (And.intro (And.intro (@tyA_40) (And.intro (@siz_40) (@tag_40))) (And.intro (And.intro (@zer_40) (@nob_40)) (And.intro (@tyA_42) (@siz_42)))) (And.intro (And.intro (And.intro (@tag_42) (@arr_42)) (And.intro (@sarr_42) (@zer_42))) (And.intro (And.intro (@nob_42) (@tyA_44)) (And.intro (@siz_44) (@tag_44))))))
theorem tf1 : type_of% (And.intro (And.intro (And.intro (And.intro (And.intro (@intK_44) (And.intro (@zer_44) (@nob_44))) (And.intro (And.intro (@tyA_47) (@siz_47)) (And.intro (@tag_47) (@slc_47)))) (And.intro (And.intro (And.intro (@mk_47) (@zer_47)) (And.intro (@nob_47) (@tyA_49))) (And.intro (And.intro (@siz_49) (@tag_49)) (And.intro (@zer_49) (@nob_49))))) (And.intro (And.intro (And.intro (@fld_49_0) (And.intro (@fld_49_1) (@tyA_57))) (And.intro (And.intro (@siz_57) (@tag_57)) (And.intro (@zer_57) (@nob_57)))) (And.intro (And.intro (And.intro (@fld_57_0) (@fld_57_1)) (And.intro (@fld_57_2) (@tyA_62))) (And.intro (And.intro (@siz_62) (@tag_62)) (And.intro (@zer_62) (@nob_62)))))) (And.intro (And.intro (And.intro (And.intro (@tyA_67) (And.intro (@siz_67) (@tag_67))) (And.intro (And.intro (@slc_67) (@mk_67)) (And.intro (@zer_67) (@nob_67)))) (And.intro (And.intro (And.intro (@tyA_69) (@siz_69)) (And.intro (@tag_69) (@zer_69))) (And.intro (And.intro (@nob_69) (@fld_69_0)) (And.intro (@fld_69_1) (@fld_69_2))))) (And.intro (And.intro (And.intro (@tyA_70) (And.intro (@siz_70) (@tag_70))) (And.intro (And.intro (@arr_70) (@sarr_70)) (And.intro (@zer_70) (@nob_70)))) (And.intro (And.intro (And.intro (@tyA_72) (@siz_72)) (And.intro (@tag_72) (@zer_72))) (And.intro (And.intro (@nob_72) (@fld_72_0)) (And.intro (@tyA_80) (@siz_80))))))) := And.intro (And.intro (And.intro (And.intro (And.intro (@intK_44) (And.intro (@zer_44) (@nob_44))) (And.intro (And.intro (@tyA_47) (@siz_47)) (And.intro (@tag_47) (@slc_47)))) (And.intro (And.intro (And.intro (@mk_47) (@zer_47)) (And.intro (@nob_47) (@tyA_49))) (And.intro (And.intro (@siz_49) (@tag_49)) (And.intro (@zer_49) (@nob_49))))) (And.intro (And.intro (And.intro (@fld_49_0) (And.intro (@fld_49_1) (@tyA_57))) (And.intro (And.intro (@siz_57) (@tag_57)) (And.intro (@zer_57) (@nob_57)))) (And.intro (And.intro (And.intro (@fld_57_0) (@fld_57_1)) (And.intro (@fld_57_2) (@tyA_62))) (And.intro (And.intro (@siz_62) (@tag_62)) (And.intro (@zer_62) (@nob_62)))))) (And.intro (And.intro (And.intro (And.intro (@tyA_67) (And.intro (@siz_67) (@tag_67))) (And.intro (And.intro (@slc_67) (@mk_67)) (And.intro (@zer_67) (@nob_67)))) (And.intro (And.intro (And.intro (@tyA_69) (@siz_69)) (And.intro (@tag_69) (@zer_69))) (And.intro (And.intro (@nob_69) (@fld_69_0)) (And.intro (@fld_69_1) (@fld_69_2))))) (And.intro (And.intro (And.intro (@tyA_70) (And.intro (@siz_70) (@tag_70))) (And.intro (And.intro (@arr_70) (@sarr_70)) (And.intro (@zer_70) (@nob_70)))) (And.intro (And.intro (And.intro (@tyA_72) (@siz_72)) (And.intro (@tag_72) (@zer_72))) (And.intro (And.intro (@nob_72) (@fld_72_0)) (And.intro (@tyA_80) (@siz_80))))))
theorem tf2 : type_of% (And.intro (And.intro (And.intro (And.intro (And.intro (@tag_80) (And.intro (@zer_80) (@nob_80))) (And.intro (And.intro (@fld_80_0) (@fld_80_1)) (And.intro (@fld_80_2) (@fld_80_3)))) (And.intro (And.intro (And.intro (@fld_80_4) (@tyA_86)) (And.intro (@siz_86) (@tag_86))) (And.intro (And.intro (@zer_86) (@nob_86)) (And.intro (@tyA_89) (@siz_89))))) (And.intro (And.intro (And.intro (@tag_89) (And.intro (@zer_89) (@nob_89))) (And.intro (And.intro (@tyA_91) (@siz_91)) (And.intro (@tag_91) (@zer_91)))) (And.intro (And.intro (And.intro (@nob_91) (@fld_91_0)) (And.intro (@tyA_92) (@siz_92))) (And.intro (And.intro (@tag_92) (@zer_92)) (And.intro (@nob_92) (@tyA_94)))))) (And.intro (And.intro (And.intro (And.intro (@siz_94) (And.intro (@tag_94) (@zer_94))) (And.intro (And.intro (@nob_94) (@fld_94_0)) (And.intro (@fld_94_1) (@fld_94_2)))) (And.intro (And.intro (And.intro (@tyA_96) (@siz_96)) (And.intro (@tag_96) (@arr_96))) (And.intro (And.intro (@sarr_96) (@zer_96)) (And.intro (@nob_96) (@tyA_98))))) (And.intro (And.intro (And.intro (@siz_98) (And.intro (@tag_98) (@zer_98))) (And.intro (And.intro (@nob_98) (@fld_98_0)) (And.intro (@fld_98_1) (@fld_98_2)))) (And.intro (And.intro (And.intro (@fld_98_3) (@tyA_99)) (And.intro (@siz_99) (@tag_99))) (And.intro (And.intro (@arr_99) (@sarr_99)) (And.intro (@zer_99) (@nob_99))))))) := And.intro (And.intro (And.intro (And.intro (And.intro (@tag_80) (And.intro (@zer_80) (@nob_80))) (And.intro (And.intro (@fld_80_0) (@fld_80_1)) (And.intro (@fld_80_2) (@fld_80_3)))) (And.intro (And.intro (And.intro (@fld_80_4) (@tyA_86)) (And.intro (@siz_86) (@tag_86))) (And.intro (And.intro (@zer_86) (@nob_86)) (And.intro (@tyA_89) (@siz_89))))) (And.intro (And.intro (And.intro (@tag_89) (And.intro (@zer_89) (@nob_89))) (And.intro (And.intro (@tyA_91) (@siz_91)) (And.intro (@tag_91) (@zer_91)))) (And.intro (And.intro (And.intro (@nob_91) (@fld_91_0)) (And.intro (@tyA_92) (@siz_92))) (And.intro (And.intro (@tag_92) (@zer_92)) (And.intro (@nob_92) (@tyA_94)))))) (And.intro (And.intro (And.intro (And.intro (@siz_94) (And.intro (@tag_94) (@zer_94))) (And.intro (And.intro (@nob_94) (@fld_94_0)) (And.intro (@fld_94_1) (@fld_94_2)))) (And.intro (And.intro (And.intro (@tyA_96) (@siz_96)) (And.intro (@tag_96) (@arr_96))) (And.intro (And.intro (@sarr_96) (@zer_96)) (And.intro (@nob_96) (@tyA_98))))) (And.intro (And.intro (And.intro (@siz_98) (And.intro (@tag_98) (@zer_98))) (And.intro (And.intro (@nob_98) (@fld_98_0)) (And.intro (@fld_98_1) (@fld_98_2)))) (And.intro (And.intro (And.intro (@fld_98_3) (@tyA_99)) (And.intro (@siz_99) (@tag_99))) (And.intro (And.intro (@arr_99) (@sarr_99)) (And.intro (@zer_99) (@nob_99))))))
theorem tf3 : type_of% (And.intro (And.intro (And.intro (And.intro (And.intro (@tyA_101) (And.intro (@siz_101) (@tag_101))) (And.intro (And.intro (@zer_101) (@nob_101)) (And.intro (@fld_101_0) (@tyA_103)))) (And.intro (And.intro (And.intro (@siz_103) (@tag_103)) (And.intro (@zer_103) (@nob_103))) (And.intro (And.intro (@tyA_107) (@siz_107)) (And.intro (@tag_107) (@arr_107))))) (And.intro (And.intro (And.intro (@sarr_107) (And.intro (@zer_107) (@nob_107))) (And.intro (And.intro (@tyA_109) (@siz_109)) (And.intro (@tag_109) (@intK_109)))) (And.intro (And.intro (And.intro (@zer_109) (@nob_109)) (And.intro (@tyA_111) (@siz_111))) (And.intro (And.intro (@tag_111) (@zer_111)) (And.intro (@nob_111) (@tyA_112)))))) (And.intro (And.intro (And.intro (And.intro (@siz_112) (And.intro (@tag_112) (@arr_112))) (And.intro (And.intro (@sarr_112) (@zer_112)) (And.intro (@nob_112) (@tyA_113)))) (And.intro (And.intro (And.intro (@siz_113) (@tag_113)) (And.intro (@arr_113) (@sarr_113))) (And.intro (And.intro (@zer_113) (@nob_113)) (And.intro (@tyA_115) (@siz_115))))) (And.intro (And.intro (And.intro (@tag_115) (And.intro (@zer_115) (@nob_115))) (And.intro (And.intro (@fld_115_0) (@fld_115_1)) (And.intro (@fld_115_2) (@fld_115_3)))) (And.intro (And.intro (And.intro (@tyA_116) (@siz_116)) (And.intro (@tag_116) (@arr_116))) (And.intro (And.intro (@sarr_116) (@zer_116)) (And.intro (@nob_116) (@tyA_118))))))) := And.intro (And.intro (And.intro (And.intro (And.intro (@tyA_101) (And.intro (@siz_101) (@tag_101))) (And.intro (And.intro (@zer_101) (@nob_101)) (And.intro (@fld_101_0) (@tyA_103)))) (And.intro (And.intro (And.intro (@siz_103) (@tag_103)) (And.intro (@zer_103) (@nob_103))) (And.intro (And.intro (@tyA_107) (@siz_107)) (And.intro (@tag_107) (@arr_107))))) (And.intro (And.intro (And.intro (@sarr_107) (And.intro (@zer_107) (@nob_107))) (And.intro (And.intro (@tyA_109) (@siz_109)) (And.intro (@tag_109) (@intK_109)))) (And.intro (And.intro (And.intro (@zer_109) (@nob_109)) (And.intro (@tyA_111) (@siz_111))) (And.intro (And.intro (@tag_111) (@zer_111)) (And.intro (@nob_111) (@tyA_112)))))) (And.intro (And.intro (And.intro (And.intro (@siz_112) (And.intro (@tag_112) (@arr_112))) (And.intro (And.intro (@sarr_112) (@zer_112)) (And.intro (@nob_112) (@tyA_113)))) (And.intro (And.intro (And.intro (@siz_113) (@tag_113)) (And.intro (@arr_113) (@sarr_113))) (And.intro (And.intro (@zer_113) (@nob_113)) (And.intro (@tyA_115) (@siz_115))))) (And.intro (And.intro (And.intro (@tag_115) (And.intro (@zer_115) (@nob_115))) (And.intro (And.intro (@fld_115_0) (@fld_115_1)) (And.intro (@fld_115_2) (@fld_115_3)))) (And.intro (And.intro (And.intro (@tyA_116) (@siz_116)) (And.intro (@tag_116) (@arr_116))) (And.intro (And.intro (@sarr_116) (@zer_116)) (And.intro (@nob_116) (@tyA_118))))))
theorem tf4 : type_of% (And.intro (And.intro (And.intro (And.intro (@siz_118) (@tag_118)) (And.intro (@zer_118) (@nob_118))) (And.intro (And.intro (@fld_118_0) (@build_49)) (And.intro (@build_69) (@build_70)))) (And.intro (And.intro (And.intro (@build_72) (@build_91)) (And.intro (@build_94) (@build_101))) (And.intro (And.intro (@build_107) (@build_118)) (And.intro (@bs0_47) (And.intro (@app_34_34) (@app_47_47)))))) := And.intro (And.intro (And.intro (And.intro (@siz_118) (@tag_118)) (And.intro (@zer_118) (@nob_118))) (And.intro (And.intro (@fld_118_0) (@build_49)) (And.intro (@build_69) (@build_70)))) (And.intro (And.intro (And.intro (@build_72) (@build_91)) (And.intro (@build_94) (@build_101))) (And.intro (And.intro (@build_107) (@build_118)) (And.intro (@bs0_47) (And.intro (@app_34_34) (@app_47_47)))))
end Go.Proofs.Ytmmjeifdgfolmaa
end
section
/- Signals: what the functions of the package do, in any heap. Conditions: the cells that each rule names. -/
namespace Go.Proofs.Ytmmjeifdgfolmaa
open Go.AM
open Nat renaming reduceBEq → Za, reduceEqDiff → Zb, reduceAdd → Zc, reduceSub → Zd, reduceMul → Ze, reduceLT → Zf, reduceLeDiff → Zg, reduceDiv → Zh, reduceMod → Zi, reducePow → Zj, blt_eq → ZF, zero_add → Qc, add_zero → Qd
open Int renaming reduceAdd → Zk, reduceSub → Zl, reduceMul → Zm, reduceLT → Zn, reduceLE → Zo, reduceEq → Zp, reduceNe → Zq, reduceNeg → Zr, reduceToNat → Zs, reduceDiv → Zt, reduceMod → Zu, reducePow → Zv, cast_ofNat_Int → Zw, toNat_natCast → Qb
open List renaming set_cons_zero → Zx, set_cons_succ → Zy, map_toArray → Zz, cons_append → ZA, nil_append → ZB, append_nil → ZC, all_cons → ZD, all_nil → ZE, getElem?_cons_zero → ZJ, getElem?_cons_succ → ZK, length_cons → ZL, length_nil → ZM, map_cons → ZN, map_nil → ZO, isEmpty_nil → Qe, any_cons → Qf, any_nil → Qg, drop_zero → Qk, drop_succ_cons → Ql, take_succ_cons → Qm, take_zero → Qn, take_nil → Qo, drop_nil → Qp
open Bool renaming and_true → ZG, true_and → ZH, and_self → ZI, not_true → ZT, not_false → ZU, true_eq_false → ZZ, false_eq_true → Qa, or_false → Qh, false_or → Qi, and_eq_true → Qj
open Option renaming map_some → ZP, map_none → ZQ, bind_some → ZR, getD_some → ZS, isNone_some → ZV, isNone_none → ZW, isSome_some → ZX, isSome_none → ZY
set_option linter.unusedSimpArgs false
variable {sp : Special} {h : Heap} {R : Out → Heap → Prop}
set_option maxRecDepth 100000 in
theorem at_spec (hs : (sp 52).isNone = true) {b : Nat} {pid : Int} (hp : 1 ≤ pid ∧ pid ≤ 8) (hR : R (.ret (.pointer (some ⟨b, (pid - 1).toNat * 20, none⟩))) h) : WF Try.prog 0 sp 52 [.pointer (some ⟨b, 0, none⟩), .int .i64 pid] h R := by
  refine wf_fn (fn := Try.f52) hs rfl (by kernel_rfl) rfl ?_
  have h1 : ¬ pid < 1 := by omega
  have h2 : ¬ 8 < pid := by omega
  simp (disch := omega) only [↓reduceIte, reduceCtorEq, Za, Zb, Zc, Zd, Ze, Zf, Zg, Zh, Zi, Zj, Zk, Zl, Zm, Zn, Zo, Zp, Zq, Zr, Zs, Zt, Zu, Zv, gval, Zw, Zx, Zy, Zz, ZA, ZB, ZC, ZD, ZE, ZF, decide_eq_true_eq, ZG, ZH, ZI, ZJ, ZK, ZL, ZM, ZN, ZO, ZP, ZQ, ZR, ZS, Option.some.injEq, exists_eq_left', ZT, ZU, ZV, ZW, ZX, ZY, true_and, and_true, true_or, or_true, false_or, or_false, ite_true, ite_false, cond_true, cond_false, ZZ, Qa, if_true, if_false, decide_true, decide_false, Qb, Qc, Qd, Qe, Qf, Qg, Qh, Qi, Qj, Qk, Ql, Qm, Qn, Qo, Qp, rb0, rb1, rb2, rb3, rb4, tf0, tf1, tf2, tf3, tf4, Try.f52, h1, h2, wrapI, if_pos, hR]
set_option maxRecDepth 100000 in
theorem at_none (hs : (sp 52).isNone = true) {b : Nat} {pid : Int} (hp : ¬ (1 ≤ pid ∧ pid ≤ 8)) (hR : R (.ret (.pointer none)) h) : WF Try.prog 0 sp 52 [.pointer (some ⟨b, 0, none⟩), .int .i64 pid] h R := by
  refine wf_fn (fn := Try.f52) hs rfl (by kernel_rfl) rfl ?_
  by_cases h1 : pid < 1
  · simp (disch := omega) only [↓reduceIte, reduceCtorEq, Za, Zb, Zc, Zd, Ze, Zf, Zg, Zh, Zi, Zj, Zk, Zl, Zm, Zn, Zo, Zp, Zq, Zr, Zs, Zt, Zu, Zv, gval, Zw, Zx, Zy, Zz, ZA, ZB, ZC, ZD, ZE, ZF, decide_eq_true_eq, ZG, ZH, ZI, ZJ, ZK, ZL, ZM, ZN, ZO, ZP, ZQ, ZR, ZS, Option.some.injEq, exists_eq_left', ZT, ZU, ZV, ZW, ZX, ZY, true_and, and_true, true_or, or_true, false_or, or_false, ite_true, ite_false, cond_true, cond_false, ZZ, Qa, if_true, if_false, decide_true, decide_false, Qb, Qc, Qd, Qe, Qf, Qg, Qh, Qi, Qj, Qk, Ql, Qm, Qn, Qo, Qp, rb0, rb1, rb2, rb3, rb4, tf0, tf1, tf2, tf3, tf4, Try.f52, h1, hR]
  · have h2 : 8 < pid := by omega
    simp (disch := omega) only [↓reduceIte, reduceCtorEq, Za, Zb, Zc, Zd, Ze, Zf, Zg, Zh, Zi, Zj, Zk, Zl, Zm, Zn, Zo, Zp, Zq, Zr, Zs, Zt, Zu, Zv, gval, Zw, Zx, Zy, Zz, ZA, ZB, ZC, ZD, ZE, ZF, decide_eq_true_eq, ZG, ZH, ZI, ZJ, ZK, ZL, ZM, ZN, ZO, ZP, ZQ, ZR, ZS, Option.some.injEq, exists_eq_left', ZT, ZU, ZV, ZW, ZX, ZY, true_and, and_true, true_or, or_true, false_or, or_false, ite_true, ite_false, cond_true, cond_false, ZZ, Qa, if_true, if_false, decide_true, decide_false, Qb, Qc, Qd, Qe, Qf, Qg, Qh, Qi, Qj, Qk, Ql, Qm, Qn, Qo, Qp, rb0, rb1, rb2, rb3, rb4, tf0, tf1, tf2, tf3, tf4, Try.f52, h1, h2, hR]

/-- a process's cells: from o on in a row. -/
structure OneAt (L : List Value) (o : Nat) (H : Nat → Int) (p : Nat) (inn : Bool) (pc : Int) (stk : Value) : Prop where
  hd : ∀ k, k < 16 → L[o + k]? = some (.int .u64 (H k))
  pend : L[o + 16]? = some (.int .u64 p)
  inn : L[o + 17]? = some (.bool inn)
  pc : L[o + 18]? = some (.int .i64 pc)
  stk : L[o + 19]? = some stk
  lt : p < 18446744073709551616
theorem OneAt.len {L : List Value} {o : Nat} {H : Nat → Int} {p : Nat} {inn : Bool} {pc : Int} {stk : Value} (x : OneAt L o H p inn pc stk) : o + 20 ≤ L.length := by
  have := (List.getElem?_eq_some_iff.1 x.stk).1
  omega
set_option maxRecDepth 100000 in
theorem has_spec (hs : (sp 53).isNone = true) {b o : Nat} {L : List Value} {H : Nat → Int} {p : Nat} {inn : Bool} {pc : Int} {stk : Value} (hb : h.get b = some (cellsB L .exact)) (x : OneAt L o H p inn pc stk) {s : Int} (h1 : 0 ≤ s) (h2 : s < 64) (hR : R (.ret (.bool (p.testBit s.toNat))) h) :
    WF Try.prog 0 sp 53 [.pointer (some ⟨b, o, none⟩), .int .i64 s] h R := by
  refine wf_fn (fn := Try.f53) hs rfl (by kernel_rfl) rfl ?_
  have hp := x.lt
  have hlt := shrN_le p s.toNat
  simp (disch := omega) only [↓reduceIte, reduceCtorEq, Za, Zb, Zc, Zd, Ze, Zf, Zg, Zh, Zi, Zj, Zk, Zl, Zm, Zn, Zo, Zp, Zq, Zr, Zs, Zt, Zu, Zv, gval, Zw, Zx, Zy, Zz, ZA, ZB, ZC, ZD, ZE, ZF, decide_eq_true_eq, ZG, ZH, ZI, ZJ, ZK, ZL, ZM, ZN, ZO, ZP, ZQ, ZR, ZS, Option.some.injEq, exists_eq_left', ZT, ZU, ZV, ZW, ZX, ZY, true_and, and_true, true_or, or_true, false_or, or_false, ite_true, ite_false, cond_true, cond_false, ZZ, Qa, if_true, if_false, decide_true, decide_false, Qb, Qc, Qd, Qe, Qf, Qg, Qh, Qi, Qj, Qk, Ql, Qm, Qn, Qo, Qp, rb0, rb1, rb2, rb3, rb4, tf0, tf1, tf2, tf3, tf4, Try.f53, hb, x.pend, shr_u64, and_u64, if_pos, bit_eq, hR]
set_option maxRecDepth 100000 in
theorem ignores_spec (hs : (sp 54).isNone = true) {b o : Nat} {L : List Value} {H : Nat → Int} {p : Nat} {inn : Bool} {pc : Int} {stk : Value} (hb : h.get b = some (cellsB L .exact)) (x : OneAt L o H p inn pc stk) {s : Int} (h1 : 0 ≤ s) (h2 : s < 16) (hR : R (.ret (.bool (decide (H s.toNat = 18446744073709551614)))) h) :
    WF Try.prog 0 sp 54 [.pointer (some ⟨b, o, none⟩), .int .i64 s] h R := by
  refine wf_fn (fn := Try.f54) hs rfl (by kernel_rfl) rfl ?_
  have hk := x.hd s.toNat (by omega)
  simp (disch := omega) only [↓reduceIte, reduceCtorEq, Za, Zb, Zc, Zd, Ze, Zf, Zg, Zh, Zi, Zj, Zk, Zl, Zm, Zn, Zo, Zp, Zq, Zr, Zs, Zt, Zu, Zv, gval, Zw, Zx, Zy, Zz, ZA, ZB, ZC, ZD, ZE, ZF, decide_eq_true_eq, ZG, ZH, ZI, ZJ, ZK, ZL, ZM, ZN, ZO, ZP, ZQ, ZR, ZS, Option.some.injEq, exists_eq_left', ZT, ZU, ZV, ZW, ZX, ZY, true_and, and_true, true_or, or_true, false_or, or_false, ite_true, ite_false, cond_true, cond_false, ZZ, Qa, if_true, if_false, decide_true, decide_false, Qb, Qc, Qd, Qe, Qf, Qg, Qh, Qi, Qj, Qk, Ql, Qm, Qn, Qo, Qp, rb0, rb1, rb2, rb3, rb4, tf0, tf1, tf2, tf3, tf4, Try.f54, hb, if_pos, hk, Nat.mul_one, hR]
end Go.Proofs.Ytmmjeifdgfolmaa
end
section
/- Signals: the lowest signal that is pending. Conditions: the cells that each rule names. -/
namespace Go.Proofs.Ytmmjeifdgfolmaa
open Go.AM
open Nat renaming reduceBEq → Za, reduceEqDiff → Zb, reduceAdd → Zc, reduceSub → Zd, reduceMul → Ze, reduceLT → Zf, reduceLeDiff → Zg, reduceDiv → Zh, reduceMod → Zi, reducePow → Zj, blt_eq → ZF, zero_add → Qc, add_zero → Qd
open Int renaming reduceAdd → Zk, reduceSub → Zl, reduceMul → Zm, reduceLT → Zn, reduceLE → Zo, reduceEq → Zp, reduceNe → Zq, reduceNeg → Zr, reduceToNat → Zs, reduceDiv → Zt, reduceMod → Zu, reducePow → Zv, cast_ofNat_Int → Zw, toNat_natCast → Qb
open List renaming set_cons_zero → Zx, set_cons_succ → Zy, map_toArray → Zz, cons_append → ZA, nil_append → ZB, append_nil → ZC, all_cons → ZD, all_nil → ZE, getElem?_cons_zero → ZJ, getElem?_cons_succ → ZK, length_cons → ZL, length_nil → ZM, map_cons → ZN, map_nil → ZO, isEmpty_nil → Qe, any_cons → Qf, any_nil → Qg, drop_zero → Qk, drop_succ_cons → Ql, take_succ_cons → Qm, take_zero → Qn, take_nil → Qo, drop_nil → Qp
open Bool renaming and_true → ZG, true_and → ZH, and_self → ZI, not_true → ZT, not_false → ZU, true_eq_false → ZZ, false_eq_true → Qa, or_false → Qh, false_or → Qi, and_eq_true → Qj
open Option renaming map_some → ZP, map_none → ZQ, bind_some → ZR, getD_some → ZS, isNone_some → ZV, isNone_none → ZW, isSome_some → ZX, isSome_none → ZY
set_option linter.unusedSimpArgs false
variable {sp : Special} {h : Heap} {R : Out → Heap → Prop}
def lowest (p : Nat) : Nat := ((List.range' 1 15).find? fun k => p.testBit k).getD 0
theorem lowest_eq {p n : Nat} (h1 : 1 ≤ n) (h2 : n ≤ 15) (hlow : ∀ k, 1 ≤ k → k < n → p.testBit k = false) (hn : p.testBit n = true) : lowest p = n := by
  unfold lowest
  have : (List.range' 1 15).find? (fun k => p.testBit k) = some n := by
    rw [List.find?_range'_eq_some]
    refine ⟨hn, by simp [List.mem_range'_1]; omega, fun j h3 h4 => ?_⟩
    simp [hlow j h3 h4]
  rw [this]; rfl
theorem lowest_none {p : Nat} (hlow : ∀ k, 1 ≤ k → k < 16 → p.testBit k = false) : lowest p = 0 := by
  unfold lowest
  have : (List.range' 1 15).find? (fun k => p.testBit k) = none := by
    rw [List.find?_range'_eq_none]
    intro i h1 h2
    simp [hlow i h1 (by omega)]
  rw [this]; rfl
theorem lowest_spec (p : Nat) : (lowest p = 0 ∧ ∀ k, 1 ≤ k → k < 16 → p.testBit k = false) ∨ (1 ≤ lowest p ∧ lowest p ≤ 15 ∧ p.testBit (lowest p) = true ∧ ∀ k, 1 ≤ k → k < lowest p → p.testBit k = false) := by
  unfold lowest
  cases hf : (List.range' 1 15).find? (fun k => p.testBit k) with
  | none =>
    left
    rw [List.find?_range'_eq_none] at hf
    exact ⟨rfl, fun k h1 h2 => by simpa using hf k h1 (by omega)⟩
  | some n =>
    right
    rw [List.find?_range'_eq_some] at hf
    obtain ⟨h1, h2, h3⟩ := hf
    rw [List.mem_range'_1] at h2
    exact ⟨by simp; omega, by simp; omega, by simpa using h1, fun k h4 h5 => by simpa using h3 k h4 (by simpa using h5)⟩
set_option maxRecDepth 100000 in
theorem first_has (hs : (sp 53).isNone = true) (hs2 : (sp 55).isNone = true) {b o : Nat} {L : List Value} {H : Nat → Int} {p : Nat} {inn : Bool} {pc : Int} {stk : Value} (hb : h.get b = some (cellsB L .exact)) (x : OneAt L o H p inn pc stk) (hR : R (.ret (.int .i64 (lowest p))) h) :
    WF Try.prog 0 sp 55 [.func (.func 53) #[.pointer (some ⟨b, o, none⟩)] #[]] h R := by
  refine wf_fn (fn := Try.f55) hs2 rfl (by kernel_rfl) rfl ?_
  simp (disch := omega) only [↓reduceIte, reduceCtorEq, Za, Zb, Zc, Zd, Ze, Zf, Zg, Zh, Zi, Zj, Zk, Zl, Zm, Zn, Zo, Zp, Zq, Zr, Zs, Zt, Zu, Zv, gval, Zw, Zx, Zy, Zz, ZA, ZB, ZC, ZD, ZE, ZF, decide_eq_true_eq, ZG, ZH, ZI, ZJ, ZK, ZL, ZM, ZN, ZO, ZP, ZQ, ZR, ZS, Option.some.injEq, exists_eq_left', ZT, ZU, ZV, ZW, ZX, ZY, true_and, and_true, true_or, or_true, false_or, or_false, ite_true, ite_false, cond_true, cond_false, ZZ, Qa, if_true, if_false, decide_true, decide_false, Qb, Qc, Qd, Qe, Qf, Qg, Qh, Qi, Qj, Qk, Ql, Qm, Qn, Qo, Qp, rb0, rb1, rb2, rb3, rb4, tf0, tf1, tf2, tf3, tf4, Try.f55]
  refine run_loop rfl (fun m e' h' => h' = h ∧ ∃ i : Nat, m = 16 - i ∧ 1 ≤ i ∧ i ≤ 16 ∧ (∀ k, 1 ≤ k → k < i → p.testBit k = false) ∧ e'.at 0 = .func (.func 53) #[.pointer (some ⟨b, o, none⟩)] #[] ∧ e'.at 3 = .int .i64 i) ?_ 15 _ _ ?_
  · rintro m e h1 ⟨rfl, i, rfl, hi1, hi2, hlow, he0, he3⟩ ih
    simp (disch := omega) only [↓reduceIte, reduceCtorEq, Za, Zb, Zc, Zd, Ze, Zf, Zg, Zh, Zi, Zj, Zk, Zl, Zm, Zn, Zo, Zp, Zq, Zr, Zs, Zt, Zu, Zv, gval, Zw, Zx, Zy, Zz, ZA, ZB, ZC, ZD, ZE, ZF, decide_eq_true_eq, ZG, ZH, ZI, ZJ, ZK, ZL, ZM, ZN, ZO, ZP, ZQ, ZR, ZS, Option.some.injEq, exists_eq_left', ZT, ZU, ZV, ZW, ZX, ZY, true_and, and_true, true_or, or_true, false_or, or_false, ite_true, ite_false, cond_true, cond_false, ZZ, Qa, if_true, if_false, decide_true, decide_false, Qb, Qc, Qd, Qe, Qf, Qg, Qh, Qi, Qj, Qk, Ql, Qm, Qn, Qo, Qp, rb0, rb1, rb2, rb3, rb4, tf0, tf1, tf2, tf3, tf4, he3]
    refine runB_dec (fun hc => ?_) (fun hc => ?_)
    · simp (disch := omega) only [↓reduceIte, reduceCtorEq, Za, Zb, Zc, Zd, Ze, Zf, Zg, Zh, Zi, Zj, Zk, Zl, Zm, Zn, Zo, Zp, Zq, Zr, Zs, Zt, Zu, Zv, gval, Zw, Zx, Zy, Zz, ZA, ZB, ZC, ZD, ZE, ZF, decide_eq_true_eq, ZG, ZH, ZI, ZJ, ZK, ZL, ZM, ZN, ZO, ZP, ZQ, ZR, ZS, Option.some.injEq, exists_eq_left', ZT, ZU, ZV, ZW, ZX, ZY, true_and, and_true, true_or, or_true, false_or, or_false, ite_true, ite_false, cond_true, cond_false, ZZ, Qa, if_true, if_false, decide_true, decide_false, Qb, Qc, Qd, Qe, Qf, Qg, Qh, Qi, Qj, Qk, Ql, Qm, Qn, Qo, Qp, rb0, rb1, rb2, rb3, rb4, tf0, tf1, tf2, tf3, tf4, he0, he3]
      refine runC_of (has_spec hs hb x (s := (i : Int)) (by omega) (by omega) ?_)
      simp (disch := omega) only [↓reduceIte, reduceCtorEq, Za, Zb, Zc, Zd, Ze, Zf, Zg, Zh, Zi, Zj, Zk, Zl, Zm, Zn, Zo, Zp, Zq, Zr, Zs, Zt, Zu, Zv, gval, Zw, Zx, Zy, Zz, ZA, ZB, ZC, ZD, ZE, ZF, decide_eq_true_eq, ZG, ZH, ZI, ZJ, ZK, ZL, ZM, ZN, ZO, ZP, ZQ, ZR, ZS, Option.some.injEq, exists_eq_left', ZT, ZU, ZV, ZW, ZX, ZY, true_and, and_true, true_or, or_true, false_or, or_false, ite_true, ite_false, cond_true, cond_false, ZZ, Qa, if_true, if_false, decide_true, decide_false, Qb, Qc, Qd, Qe, Qf, Qg, Qh, Qi, Qj, Qk, Ql, Qm, Qn, Qo, Qp, rb0, rb1, rb2, rb3, rb4, tf0, tf1, tf2, tf3, tf4]
      refine runB_bool (fun hc2 => ?_) (fun hc2 => ?_)
      · simp (disch := omega) only [↓reduceIte, reduceCtorEq, Za, Zb, Zc, Zd, Ze, Zf, Zg, Zh, Zi, Zj, Zk, Zl, Zm, Zn, Zo, Zp, Zq, Zr, Zs, Zt, Zu, Zv, gval, Zw, Zx, Zy, Zz, ZA, ZB, ZC, ZD, ZE, ZF, decide_eq_true_eq, ZG, ZH, ZI, ZJ, ZK, ZL, ZM, ZN, ZO, ZP, ZQ, ZR, ZS, Option.some.injEq, exists_eq_left', ZT, ZU, ZV, ZW, ZX, ZY, true_and, and_true, true_or, or_true, false_or, or_false, ite_true, ite_false, cond_true, cond_false, ZZ, Qa, if_true, if_false, decide_true, decide_false, Qb, Qc, Qd, Qe, Qf, Qg, Qh, Qi, Qj, Qk, Ql, Qm, Qn, Qo, Qp, rb0, rb1, rb2, rb3, rb4, tf0, tf1, tf2, tf3, tf4, he3]
        rw [← lowest_eq hi1 (by omega) hlow (by simpa using hc2)]
        exact hR
      · simp (disch := omega) only [↓reduceIte, reduceCtorEq, Za, Zb, Zc, Zd, Ze, Zf, Zg, Zh, Zi, Zj, Zk, Zl, Zm, Zn, Zo, Zp, Zq, Zr, Zs, Zt, Zu, Zv, gval, Zw, Zx, Zy, Zz, ZA, ZB, ZC, ZD, ZE, ZF, decide_eq_true_eq, ZG, ZH, ZI, ZJ, ZK, ZL, ZM, ZN, ZO, ZP, ZQ, ZR, ZS, Option.some.injEq, exists_eq_left', ZT, ZU, ZV, ZW, ZX, ZY, true_and, and_true, true_or, or_true, false_or, or_false, ite_true, ite_false, cond_true, cond_false, ZZ, Qa, if_true, if_false, decide_true, decide_false, Qb, Qc, Qd, Qe, Qf, Qg, Qh, Qi, Qj, Qk, Ql, Qm, Qn, Qo, Qp, rb0, rb1, rb2, rb3, rb4, tf0, tf1, tf2, tf3, tf4, he3]
        refine ih _ _ _ ?_ ⟨rfl, i + 1, rfl, by omega, by omega, fun k h1 h2 => ?_, ?_, ?_⟩
        · omega
        · by_cases hk : k = i
          · subst hk; simpa using hc2
          · exact hlow k h1 (by omega)
        · simp only [↓reduceIte, reduceCtorEq, Za, Zb, Zc, Zd, Ze, Zf, Zg, Zh, Zi, Zj, Zk, Zl, Zm, Zn, Zo, Zp, Zq, Zr, Zs, Zt, Zu, Zv, gval, Zw, Zx, Zy, Zz, ZA, ZB, ZC, ZD, ZE, ZF, decide_eq_true_eq, ZG, ZH, ZI, ZJ, ZK, ZL, ZM, ZN, ZO, ZP, ZQ, ZR, ZS, Option.some.injEq, exists_eq_left', ZT, ZU, ZV, ZW, ZX, ZY, true_and, and_true, true_or, or_true, false_or, or_false, ite_true, ite_false, cond_true, cond_false, ZZ, Qa, if_true, if_false, decide_true, decide_false, Qb, Qc, Qd, Qe, Qf, Qg, Qh, Qi, Qj, Qk, Ql, Qm, Qn, Qo, Qp, rb0, rb1, rb2, rb3, rb4, tf0, tf1, tf2, tf3, tf4, he0]
        · simp (disch := omega) only [↓reduceIte, reduceCtorEq, Za, Zb, Zc, Zd, Ze, Zf, Zg, Zh, Zi, Zj, Zk, Zl, Zm, Zn, Zo, Zp, Zq, Zr, Zs, Zt, Zu, Zv, gval, Zw, Zx, Zy, Zz, ZA, ZB, ZC, ZD, ZE, ZF, decide_eq_true_eq, ZG, ZH, ZI, ZJ, ZK, ZL, ZM, ZN, ZO, ZP, ZQ, ZR, ZS, Option.some.injEq, exists_eq_left', ZT, ZU, ZV, ZW, ZX, ZY, true_and, and_true, true_or, or_true, false_or, or_false, ite_true, ite_false, cond_true, cond_false, ZZ, Qa, if_true, if_false, decide_true, decide_false, Qb, Qc, Qd, Qe, Qf, Qg, Qh, Qi, Qj, Qk, Ql, Qm, Qn, Qo, Qp, rb0, rb1, rb2, rb3, rb4, tf0, tf1, tf2, tf3, tf4, he3, wrapI]
          rfl
    · simp (disch := omega) only [↓reduceIte, reduceCtorEq, Za, Zb, Zc, Zd, Ze, Zf, Zg, Zh, Zi, Zj, Zk, Zl, Zm, Zn, Zo, Zp, Zq, Zr, Zs, Zt, Zu, Zv, gval, Zw, Zx, Zy, Zz, ZA, ZB, ZC, ZD, ZE, ZF, decide_eq_true_eq, ZG, ZH, ZI, ZJ, ZK, ZL, ZM, ZN, ZO, ZP, ZQ, ZR, ZS, Option.some.injEq, exists_eq_left', ZT, ZU, ZV, ZW, ZX, ZY, true_and, and_true, true_or, or_true, false_or, or_false, ite_true, ite_false, cond_true, cond_false, ZZ, Qa, if_true, if_false, decide_true, decide_false, Qb, Qc, Qd, Qe, Qf, Qg, Qh, Qi, Qj, Qk, Ql, Qm, Qn, Qo, Qp, rb0, rb1, rb2, rb3, rb4, tf0, tf1, tf2, tf3, tf4, he0, he3]
      have : i = 16 := by omega
      subst this
      rw [lowest_none hlow] at hR
      exact hR
  · refine ⟨rfl, 1, rfl, by omega, by omega, fun k h1 h2 => by omega, ?_, ?_⟩
    · simp only [↓reduceIte, reduceCtorEq, Za, Zb, Zc, Zd, Ze, Zf, Zg, Zh, Zi, Zj, Zk, Zl, Zm, Zn, Zo, Zp, Zq, Zr, Zs, Zt, Zu, Zv, gval, Zw, Zx, Zy, Zz, ZA, ZB, ZC, ZD, ZE, ZF, decide_eq_true_eq, ZG, ZH, ZI, ZJ, ZK, ZL, ZM, ZN, ZO, ZP, ZQ, ZR, ZS, Option.some.injEq, exists_eq_left', ZT, ZU, ZV, ZW, ZX, ZY, true_and, and_true, true_or, or_true, false_or, or_false, ite_true, ite_false, cond_true, cond_false, ZZ, Qa, if_true, if_false, decide_true, decide_false, Qb, Qc, Qd, Qe, Qf, Qg, Qh, Qi, Qj, Qk, Ql, Qm, Qn, Qo, Qp, rb0, rb1, rb2, rb3, rb4, tf0, tf1, tf2, tf3, tf4]
    · simp only [↓reduceIte, reduceCtorEq, Za, Zb, Zc, Zd, Ze, Zf, Zg, Zh, Zi, Zj, Zk, Zl, Zm, Zn, Zo, Zp, Zq, Zr, Zs, Zt, Zu, Zv, gval, Zw, Zx, Zy, Zz, ZA, ZB, ZC, ZD, ZE, ZF, decide_eq_true_eq, ZG, ZH, ZI, ZJ, ZK, ZL, ZM, ZN, ZO, ZP, ZQ, ZR, ZS, Option.some.injEq, exists_eq_left', ZT, ZU, ZV, ZW, ZX, ZY, true_and, and_true, true_or, or_true, false_or, or_false, ite_true, ite_false, cond_true, cond_false, ZZ, Qa, if_true, if_false, decide_true, decide_false, Qb, Qc, Qd, Qe, Qf, Qg, Qh, Qi, Qj, Qk, Ql, Qm, Qn, Qo, Qp, rb0, rb1, rb2, rb3, rb4, tf0, tf1, tf2, tf3, tf4]
end Go.Proofs.Ytmmjeifdgfolmaa
end
section
/- Signals: Set, Send, Next. Conditions: the cells that each rule names. -/
namespace Go.Proofs.Ytmmjeifdgfolmaa
open Go.AM
open Nat renaming reduceBEq → Za, reduceEqDiff → Zb, reduceAdd → Zc, reduceSub → Zd, reduceMul → Ze, reduceLT → Zf, reduceLeDiff → Zg, reduceDiv → Zh, reduceMod → Zi, reducePow → Zj, blt_eq → ZF, zero_add → Qc, add_zero → Qd
open Int renaming reduceAdd → Zk, reduceSub → Zl, reduceMul → Zm, reduceLT → Zn, reduceLE → Zo, reduceEq → Zp, reduceNe → Zq, reduceNeg → Zr, reduceToNat → Zs, reduceDiv → Zt, reduceMod → Zu, reducePow → Zv, cast_ofNat_Int → Zw, toNat_natCast → Qb
open List renaming set_cons_zero → Zx, set_cons_succ → Zy, map_toArray → Zz, cons_append → ZA, nil_append → ZB, append_nil → ZC, all_cons → ZD, all_nil → ZE, getElem?_cons_zero → ZJ, getElem?_cons_succ → ZK, length_cons → ZL, length_nil → ZM, map_cons → ZN, map_nil → ZO, isEmpty_nil → Qe, any_cons → Qf, any_nil → Qg, drop_zero → Qk, drop_succ_cons → Ql, take_succ_cons → Qm, take_zero → Qn, take_nil → Qo, drop_nil → Qp
open Bool renaming and_true → ZG, true_and → ZH, and_self → ZI, not_true → ZT, not_false → ZU, true_eq_false → ZZ, false_eq_true → Qa, or_false → Qh, false_or → Qi, and_eq_true → Qj
open Option renaming map_some → ZP, map_none → ZQ, bind_some → ZR, getD_some → ZS, isNone_some → ZV, isNone_none → ZW, isSome_some → ZX, isSome_none → ZY
set_option linter.unusedSimpArgs false
variable {sp : Special} {h : Heap} {R : Out → Heap → Prop}
theorem set_get {L : List Value} {i j : Nat} {v : Value} (hi : i < L.length) : (L.set i v)[j]? = if j = i then some v else L[j]? := by
  rw [List.getElem?_set]
  by_cases hj : j = i
  · subst hj; rw [if_pos rfl, if_pos rfl, if_pos hi]
  · rw [if_neg (fun e => hj e.symm), if_neg hj]
theorem OneAt.setHd {L : List Value} {o : Nat} {H : Nat → Int} {p : Nat} {inn : Bool} {pc : Int} {stk : Value} (x : OneAt L o H p inn pc stk) {s : Nat} (hs : s < 16) (v : Int) : OneAt (L.set (o + s) (.int .u64 v)) o (fun k => if k = s then v else H k) p inn pc stk := by
  have hl := x.len
  have hi : o + s < L.length := by omega
  refine ⟨fun k hk => ?_, ?_, ?_, ?_, ?_, x.lt⟩
  · rw [set_get hi]
    by_cases e : k = s
    · subst e; simp
    · rw [if_neg (by omega), if_neg e]; exact x.hd k hk
  · rw [set_get hi, if_neg (by omega)]; exact x.pend
  · rw [set_get hi, if_neg (by omega)]; exact x.inn
  · rw [set_get hi, if_neg (by omega)]; exact x.pc
  · rw [set_get hi, if_neg (by omega)]; exact x.stk
theorem OneAt.setPend {L : List Value} {o : Nat} {H : Nat → Int} {p : Nat} {inn : Bool} {pc : Int} {stk : Value} (x : OneAt L o H p inn pc stk) {q : Nat} (hq : q < 18446744073709551616) : OneAt (L.set (o + 16) (.int .u64 q)) o H q inn pc stk := by
  have hl := x.len
  have hi : o + 16 < L.length := by omega
  refine ⟨fun k hk => ?_, ?_, ?_, ?_, ?_, hq⟩
  · rw [set_get hi, if_neg (by omega)]; exact x.hd k hk
  · rw [set_get hi, if_pos rfl]
  · rw [set_get hi, if_neg (by omega)]; exact x.inn
  · rw [set_get hi, if_neg (by omega)]; exact x.pc
  · rw [set_get hi, if_neg (by omega)]; exact x.stk
theorem set_same {L : List Value} {i : Nat} {v : Value} (hi : L[i]? = some v) : L.set i v = L := by
  obtain ⟨h, rfl⟩ := List.getElem?_eq_some_iff.1 hi
  exact List.set_getElem_self h
set_option maxRecDepth 100000 in
theorem set_spec (h1 : (sp 24).isNone = true) (h2 : (sp 52).isNone = true) {b : Nat} {L : List Value} {H : Nat → Int} {p : Nat} {inn : Bool} {pc : Int} {stk : Value} {pid sig : Int} {v : Int} (hp : 1 ≤ pid ∧ pid ≤ 8) (hb : h.get b = some (cellsB L .exact))
    (x : OneAt L ((pid - 1).toNat * 20) H p inn pc stk)
    (hok : 1 ≤ sig → sig ≤ 15 → sig ≠ 9 → R (.ret (.int .i64 0)) (h.upd b (cellsB (L.set ((pid - 1).toNat * 20 + sig.toNat) (.int .u64 v)) .exact)))
    (hno : ¬(1 ≤ sig ∧ sig ≤ 15 ∧ sig ≠ 9) → R (.ret (.int .i64 22)) h) :
    WF Try.prog 0 sp 24 [.pointer (some ⟨b, 0, none⟩), .int .i64 pid, .int .i64 sig, .int .u64 v] h R := by
  refine wf_fn (fn := Try.f24) h1 rfl (by kernel_rfl) rfl ?_
  simp only [↓reduceIte, reduceCtorEq, Za, Zb, Zc, Zd, Ze, Zf, Zg, Zh, Zi, Zj, Zk, Zl, Zm, Zn, Zo, Zp, Zq, Zr, Zs, Zt, Zu, Zv, gval, Zw, Zx, Zy, Zz, ZA, ZB, ZC, ZD, ZE, ZF, decide_eq_true_eq, ZG, ZH, ZI, ZJ, ZK, ZL, ZM, ZN, ZO, ZP, ZQ, ZR, ZS, Option.some.injEq, exists_eq_left', ZT, ZU, ZV, ZW, ZX, ZY, true_and, and_true, true_or, or_true, false_or, or_false, ite_true, ite_false, cond_true, cond_false, ZZ, Qa, if_true, if_false, decide_true, decide_false, Qb, Qc, Qd, Qe, Qf, Qg, Qh, Qi, Qj, Qk, Ql, Qm, Qn, Qo, Qp, rb0, rb1, rb2, rb3, rb4, tf0, tf1, tf2, tf3, tf4, Try.f24]
  refine runC_of (at_spec h2 hp ?_)
  have hl := x.len
  by_cases c1 : sig < 1
  · simp only [↓reduceIte, reduceCtorEq, Za, Zb, Zc, Zd, Ze, Zf, Zg, Zh, Zi, Zj, Zk, Zl, Zm, Zn, Zo, Zp, Zq, Zr, Zs, Zt, Zu, Zv, gval, Zw, Zx, Zy, Zz, ZA, ZB, ZC, ZD, ZE, ZF, decide_eq_true_eq, ZG, ZH, ZI, ZJ, ZK, ZL, ZM, ZN, ZO, ZP, ZQ, ZR, ZS, Option.some.injEq, exists_eq_left', ZT, ZU, ZV, ZW, ZX, ZY, true_and, and_true, true_or, or_true, false_or, or_false, ite_true, ite_false, cond_true, cond_false, ZZ, Qa, if_true, if_false, decide_true, decide_false, Qb, Qc, Qd, Qe, Qf, Qg, Qh, Qi, Qj, Qk, Ql, Qm, Qn, Qo, Qp, rb0, rb1, rb2, rb3, rb4, tf0, tf1, tf2, tf3, tf4, c1, hno (by omega)]
  · by_cases c2 : 15 < sig
    · simp only [↓reduceIte, reduceCtorEq, Za, Zb, Zc, Zd, Ze, Zf, Zg, Zh, Zi, Zj, Zk, Zl, Zm, Zn, Zo, Zp, Zq, Zr, Zs, Zt, Zu, Zv, gval, Zw, Zx, Zy, Zz, ZA, ZB, ZC, ZD, ZE, ZF, decide_eq_true_eq, ZG, ZH, ZI, ZJ, ZK, ZL, ZM, ZN, ZO, ZP, ZQ, ZR, ZS, Option.some.injEq, exists_eq_left', ZT, ZU, ZV, ZW, ZX, ZY, true_and, and_true, true_or, or_true, false_or, or_false, ite_true, ite_false, cond_true, cond_false, ZZ, Qa, if_true, if_false, decide_true, decide_false, Qb, Qc, Qd, Qe, Qf, Qg, Qh, Qi, Qj, Qk, Ql, Qm, Qn, Qo, Qp, rb0, rb1, rb2, rb3, rb4, tf0, tf1, tf2, tf3, tf4, c1, c2, hno (by omega)]
    · by_cases c3 : sig = 9
      · simp only [↓reduceIte, reduceCtorEq, Za, Zb, Zc, Zd, Ze, Zf, Zg, Zh, Zi, Zj, Zk, Zl, Zm, Zn, Zo, Zp, Zq, Zr, Zs, Zt, Zu, Zv, gval, Zw, Zx, Zy, Zz, ZA, ZB, ZC, ZD, ZE, ZF, decide_eq_true_eq, ZG, ZH, ZI, ZJ, ZK, ZL, ZM, ZN, ZO, ZP, ZQ, ZR, ZS, Option.some.injEq, exists_eq_left', ZT, ZU, ZV, ZW, ZX, ZY, true_and, and_true, true_or, or_true, false_or, or_false, ite_true, ite_false, cond_true, cond_false, ZZ, Qa, if_true, if_false, decide_true, decide_false, Qb, Qc, Qd, Qe, Qf, Qg, Qh, Qi, Qj, Qk, Ql, Qm, Qn, Qo, Qp, rb0, rb1, rb2, rb3, rb4, tf0, tf1, tf2, tf3, tf4, c1, c2, c3, hno (by omega)]
      · simp (disch := omega) only [↓reduceIte, reduceCtorEq, Za, Zb, Zc, Zd, Ze, Zf, Zg, Zh, Zi, Zj, Zk, Zl, Zm, Zn, Zo, Zp, Zq, Zr, Zs, Zt, Zu, Zv, gval, Zw, Zx, Zy, Zz, ZA, ZB, ZC, ZD, ZE, ZF, decide_eq_true_eq, ZG, ZH, ZI, ZJ, ZK, ZL, ZM, ZN, ZO, ZP, ZQ, ZR, ZS, Option.some.injEq, exists_eq_left', ZT, ZU, ZV, ZW, ZX, ZY, true_and, and_true, true_or, or_true, false_or, or_false, ite_true, ite_false, cond_true, cond_false, ZZ, Qa, if_true, if_false, decide_true, decide_false, Qb, Qc, Qd, Qe, Qf, Qg, Qh, Qi, Qj, Qk, Ql, Qm, Qn, Qo, Qp, rb0, rb1, rb2, rb3, rb4, tf0, tf1, tf2, tf3, tf4, c1, c2, c3, hb, if_pos, Nat.mul_one, hok (by omega) (by omega) (by omega)]
set_option maxRecDepth 100000 in
theorem send_spec (h1 : (sp 25).isNone = true) (h2 : (sp 52).isNone = true) {b : Nat} {L : List Value} {H : Nat → Int} {p : Nat} {inn : Bool} {pc : Int} {stk : Value} {pid sig : Int} (hp : 1 ≤ pid ∧ pid ≤ 8) (hb : h.get b = some (cellsB L .exact))
    (x : OneAt L ((pid - 1).toNat * 20) H p inn pc stk)
    (hok : 1 ≤ sig → sig ≤ 15 → R (.ret (.int .i64 0)) (h.upd b (cellsB (L.set ((pid - 1).toNat * 20 + 16) (.int .u64 ((p ||| bitN sig.toNat : Nat) : Int))) .exact)))
    (hno : ¬(1 ≤ sig ∧ sig ≤ 15) → R (.ret (.int .i64 22)) h) :
    WF Try.prog 0 sp 25 [.pointer (some ⟨b, 0, none⟩), .int .i64 pid, .int .i64 sig] h R := by
  refine wf_fn (fn := Try.f25) h1 rfl (by kernel_rfl) rfl ?_
  simp only [↓reduceIte, reduceCtorEq, Za, Zb, Zc, Zd, Ze, Zf, Zg, Zh, Zi, Zj, Zk, Zl, Zm, Zn, Zo, Zp, Zq, Zr, Zs, Zt, Zu, Zv, gval, Zw, Zx, Zy, Zz, ZA, ZB, ZC, ZD, ZE, ZF, decide_eq_true_eq, ZG, ZH, ZI, ZJ, ZK, ZL, ZM, ZN, ZO, ZP, ZQ, ZR, ZS, Option.some.injEq, exists_eq_left', ZT, ZU, ZV, ZW, ZX, ZY, true_and, and_true, true_or, or_true, false_or, or_false, ite_true, ite_false, cond_true, cond_false, ZZ, Qa, if_true, if_false, decide_true, decide_false, Qb, Qc, Qd, Qe, Qf, Qg, Qh, Qi, Qj, Qk, Ql, Qm, Qn, Qo, Qp, rb0, rb1, rb2, rb3, rb4, tf0, tf1, tf2, tf3, tf4, Try.f25]
  refine runC_of (at_spec h2 hp ?_)
  have hl := x.len
  have hlt := x.lt
  by_cases c1 : sig < 1
  · simp only [↓reduceIte, reduceCtorEq, Za, Zb, Zc, Zd, Ze, Zf, Zg, Zh, Zi, Zj, Zk, Zl, Zm, Zn, Zo, Zp, Zq, Zr, Zs, Zt, Zu, Zv, gval, Zw, Zx, Zy, Zz, ZA, ZB, ZC, ZD, ZE, ZF, decide_eq_true_eq, ZG, ZH, ZI, ZJ, ZK, ZL, ZM, ZN, ZO, ZP, ZQ, ZR, ZS, Option.some.injEq, exists_eq_left', ZT, ZU, ZV, ZW, ZX, ZY, true_and, and_true, true_or, or_true, false_or, or_false, ite_true, ite_false, cond_true, cond_false, ZZ, Qa, if_true, if_false, decide_true, decide_false, Qb, Qc, Qd, Qe, Qf, Qg, Qh, Qi, Qj, Qk, Ql, Qm, Qn, Qo, Qp, rb0, rb1, rb2, rb3, rb4, tf0, tf1, tf2, tf3, tf4, c1, hno (by omega)]
  · by_cases c2 : 15 < sig
    · simp only [↓reduceIte, reduceCtorEq, Za, Zb, Zc, Zd, Ze, Zf, Zg, Zh, Zi, Zj, Zk, Zl, Zm, Zn, Zo, Zp, Zq, Zr, Zs, Zt, Zu, Zv, gval, Zw, Zx, Zy, Zz, ZA, ZB, ZC, ZD, ZE, ZF, decide_eq_true_eq, ZG, ZH, ZI, ZJ, ZK, ZL, ZM, ZN, ZO, ZP, ZQ, ZR, ZS, Option.some.injEq, exists_eq_left', ZT, ZU, ZV, ZW, ZX, ZY, true_and, and_true, true_or, or_true, false_or, or_false, ite_true, ite_false, cond_true, cond_false, ZZ, Qa, if_true, if_false, decide_true, decide_false, Qb, Qc, Qd, Qe, Qf, Qg, Qh, Qi, Qj, Qk, Ql, Qm, Qn, Qo, Qp, rb0, rb1, rb2, rb3, rb4, tf0, tf1, tf2, tf3, tf4, c1, c2, hno (by omega)]
    · simp only [↓reduceIte, reduceCtorEq, Za, Zb, Zc, Zd, Ze, Zf, Zg, Zh, Zi, Zj, Zk, Zl, Zm, Zn, Zo, Zp, Zq, Zr, Zs, Zt, Zu, Zv, gval, Zw, Zx, Zy, Zz, ZA, ZB, ZC, ZD, ZE, ZF, decide_eq_true_eq, ZG, ZH, ZI, ZJ, ZK, ZL, ZM, ZN, ZO, ZP, ZQ, ZR, ZS, Option.some.injEq, exists_eq_left', ZT, ZU, ZV, ZW, ZX, ZY, true_and, and_true, true_or, or_true, false_or, or_false, ite_true, ite_false, cond_true, cond_false, ZZ, Qa, if_true, if_false, decide_true, decide_false, Qb, Qc, Qd, Qe, Qf, Qg, Qh, Qi, Qj, Qk, Ql, Qm, Qn, Qo, Qp, rb0, rb1, rb2, rb3, rb4, tf0, tf1, tf2, tf3, tf4, c1, c2]
      refine run_draw (ps := []) (by kernel_rfl) (by kernel_rfl) ?_
      have h3 := bitN_lt (s := sig.toNat) (by omega)
      simp (disch := omega) only [↓reduceIte, reduceCtorEq, Za, Zb, Zc, Zd, Ze, Zf, Zg, Zh, Zi, Zj, Zk, Zl, Zm, Zn, Zo, Zp, Zq, Zr, Zs, Zt, Zu, Zv, gval, Zw, Zx, Zy, Zz, ZA, ZB, ZC, ZD, ZE, ZF, decide_eq_true_eq, ZG, ZH, ZI, ZJ, ZK, ZL, ZM, ZN, ZO, ZP, ZQ, ZR, ZS, Option.some.injEq, exists_eq_left', ZT, ZU, ZV, ZW, ZX, ZY, true_and, and_true, true_or, or_true, false_or, or_false, ite_true, ite_false, cond_true, cond_false, ZZ, Qa, if_true, if_false, decide_true, decide_false, Qb, Qc, Qd, Qe, Qf, Qg, Qh, Qi, Qj, Qk, Ql, Qm, Qn, Qo, Qp, rb0, rb1, rb2, rb3, rb4, tf0, tf1, tf2, tf3, tf4, hb, x.pend, if_pos, shl1_u64, or_u64, hok (by omega) (by omega)]
set_option maxRecDepth 100000 in
theorem next_spec (h1 : (sp 26).isNone = true) (h2 : (sp 52).isNone = true) (h3 : (sp 53).isNone = true) (h4 : (sp 54).isNone = true) (h5 : (sp 55).isNone = true) {b : Nat} {L : List Value} {H : Nat → Int} {p : Nat} {inn : Bool} {pc : Int} {stk : Value} {pid : Int} (hp : 1 ≤ pid ∧ pid ≤ 8) (hb : h.get b = some (cellsB L .exact))
    (x : OneAt L ((pid - 1).toNat * 20) H p inn pc stk)
    (h9 : p.testBit 9 = true → R (.ret (.tuple #[.int .i64 9, .int .u64 18446744073709551615, .bool true])) (h.upd b (cellsB (L.set ((pid - 1).toNat * 20 + 16) (.int .u64 (without p (bitN 9) : Nat))) .exact)))
    (hin : p.testBit 9 = false → inn = true → R (.ret (.tuple #[.int .i64 0, .int .u64 0, .bool false])) h)
    (hsome : ∀ s q : Nat, p.testBit 9 = false → inn = false → 1 ≤ s → s ≤ 15 → p.testBit s = true → H s ≠ 18446744073709551614 → (∀ k, 1 ≤ k → k < s → p.testBit k = true → H k = 18446744073709551614) → (∀ k, q.testBit k = (p.testBit k && !(decide (1 ≤ k) && decide (k ≤ s)))) → q < 18446744073709551616 →
      R (.ret (.tuple #[.int .i64 s, .int .u64 (H s), .bool true])) (h.upd b (cellsB (L.set ((pid - 1).toNat * 20 + 16) (.int .u64 q)) .exact)))
    (hnone : p.testBit 9 = false → inn = false → (∀ k, 1 ≤ k → k < 16 → p.testBit k = true → H k = 18446744073709551614) → R (.ret (.tuple #[.int .i64 0, .int .u64 0, .bool false])) (h.upd b (cellsB L .exact))) :
    WF Try.prog 0 sp 26 [.pointer (some ⟨b, 0, none⟩), .int .i64 pid] h R := by
  refine wf_fn (fn := Try.f26) h1 rfl (by kernel_rfl) rfl ?_
  simp only [↓reduceIte, reduceCtorEq, Za, Zb, Zc, Zd, Ze, Zf, Zg, Zh, Zi, Zj, Zk, Zl, Zm, Zn, Zo, Zp, Zq, Zr, Zs, Zt, Zu, Zv, gval, Zw, Zx, Zy, Zz, ZA, ZB, ZC, ZD, ZE, ZF, decide_eq_true_eq, ZG, ZH, ZI, ZJ, ZK, ZL, ZM, ZN, ZO, ZP, ZQ, ZR, ZS, Option.some.injEq, exists_eq_left', ZT, ZU, ZV, ZW, ZX, ZY, true_and, and_true, true_or, or_true, false_or, or_false, ite_true, ite_false, cond_true, cond_false, ZZ, Qa, if_true, if_false, decide_true, decide_false, Qb, Qc, Qd, Qe, Qf, Qg, Qh, Qi, Qj, Qk, Ql, Qm, Qn, Qo, Qp, rb0, rb1, rb2, rb3, rb4, tf0, tf1, tf2, tf3, tf4, Try.f26]
  refine runC_of (at_spec h2 hp ?_)
  have hl := x.len
  have hlt := x.lt
  generalize ho : (pid - 1).toNat * 20 = o at *
  simp only [↓reduceIte, reduceCtorEq, Za, Zb, Zc, Zd, Ze, Zf, Zg, Zh, Zi, Zj, Zk, Zl, Zm, Zn, Zo, Zp, Zq, Zr, Zs, Zt, Zu, Zv, gval, Zw, Zx, Zy, Zz, ZA, ZB, ZC, ZD, ZE, ZF, decide_eq_true_eq, ZG, ZH, ZI, ZJ, ZK, ZL, ZM, ZN, ZO, ZP, ZQ, ZR, ZS, Option.some.injEq, exists_eq_left', ZT, ZU, ZV, ZW, ZX, ZY, true_and, and_true, true_or, or_true, false_or, or_false, ite_true, ite_false, cond_true, cond_false, ZZ, Qa, if_true, if_false, decide_true, decide_false, Qb, Qc, Qd, Qe, Qf, Qg, Qh, Qi, Qj, Qk, Ql, Qm, Qn, Qo, Qp, rb0, rb1, rb2, rb3, rb4, tf0, tf1, tf2, tf3, tf4]
  refine runC_of (has_spec h3 hb x (s := 9) (by omega) (by omega) ?_)
  simp only [↓reduceIte, reduceCtorEq, Za, Zb, Zc, Zd, Ze, Zf, Zg, Zh, Zi, Zj, Zk, Zl, Zm, Zn, Zo, Zp, Zq, Zr, Zs, Zt, Zu, Zv, gval, Zw, Zx, Zy, Zz, ZA, ZB, ZC, ZD, ZE, ZF, decide_eq_true_eq, ZG, ZH, ZI, ZJ, ZK, ZL, ZM, ZN, ZO, ZP, ZQ, ZR, ZS, Option.some.injEq, exists_eq_left', ZT, ZU, ZV, ZW, ZX, ZY, true_and, and_true, true_or, or_true, false_or, or_false, ite_true, ite_false, cond_true, cond_false, ZZ, Qa, if_true, if_false, decide_true, decide_false, Qb, Qc, Qd, Qe, Qf, Qg, Qh, Qi, Qj, Qk, Ql, Qm, Qn, Qo, Qp, rb0, rb1, rb2, rb3, rb4, tf0, tf1, tf2, tf3, tf4]
  refine runB_bool (fun c9 => ?_) (fun c9 => ?_)
  · simp (disch := omega) only [↓reduceIte, reduceCtorEq, Za, Zb, Zc, Zd, Ze, Zf, Zg, Zh, Zi, Zj, Zk, Zl, Zm, Zn, Zo, Zp, Zq, Zr, Zs, Zt, Zu, Zv, gval, Zw, Zx, Zy, Zz, ZA, ZB, ZC, ZD, ZE, ZF, decide_eq_true_eq, ZG, ZH, ZI, ZJ, ZK, ZL, ZM, ZN, ZO, ZP, ZQ, ZR, ZS, Option.some.injEq, exists_eq_left', ZT, ZU, ZV, ZW, ZX, ZY, true_and, and_true, true_or, or_true, false_or, or_false, ite_true, ite_false, cond_true, cond_false, ZZ, Qa, if_true, if_false, decide_true, decide_false, Qb, Qc, Qd, Qe, Qf, Qg, Qh, Qi, Qj, Qk, Ql, Qm, Qn, Qo, Qp, rb0, rb1, rb2, rb3, rb4, tf0, tf1, tf2, tf3, tf4, hb, x.pend, if_pos, andNot_u64]
    exact h9 c9
  · simp (disch := omega) only [↓reduceIte, reduceCtorEq, Za, Zb, Zc, Zd, Ze, Zf, Zg, Zh, Zi, Zj, Zk, Zl, Zm, Zn, Zo, Zp, Zq, Zr, Zs, Zt, Zu, Zv, gval, Zw, Zx, Zy, Zz, ZA, ZB, ZC, ZD, ZE, ZF, decide_eq_true_eq, ZG, ZH, ZI, ZJ, ZK, ZL, ZM, ZN, ZO, ZP, ZQ, ZR, ZS, Option.some.injEq, exists_eq_left', ZT, ZU, ZV, ZW, ZX, ZY, true_and, and_true, true_or, or_true, false_or, or_false, ite_true, ite_false, cond_true, cond_false, ZZ, Qa, if_true, if_false, decide_true, decide_false, Qb, Qc, Qd, Qe, Qf, Qg, Qh, Qi, Qj, Qk, Ql, Qm, Qn, Qo, Qp, rb0, rb1, rb2, rb3, rb4, tf0, tf1, tf2, tf3, tf4, hb, x.inn]
    refine runB_bool (fun ci => ?_) (fun ci => ?_)
    · simp only [↓reduceIte, reduceCtorEq, Za, Zb, Zc, Zd, Ze, Zf, Zg, Zh, Zi, Zj, Zk, Zl, Zm, Zn, Zo, Zp, Zq, Zr, Zs, Zt, Zu, Zv, gval, Zw, Zx, Zy, Zz, ZA, ZB, ZC, ZD, ZE, ZF, decide_eq_true_eq, ZG, ZH, ZI, ZJ, ZK, ZL, ZM, ZN, ZO, ZP, ZQ, ZR, ZS, Option.some.injEq, exists_eq_left', ZT, ZU, ZV, ZW, ZX, ZY, true_and, and_true, true_or, or_true, false_or, or_false, ite_true, ite_false, cond_true, cond_false, ZZ, Qa, if_true, if_false, decide_true, decide_false, Qb, Qc, Qd, Qe, Qf, Qg, Qh, Qi, Qj, Qk, Ql, Qm, Qn, Qo, Qp, rb0, rb1, rb2, rb3, rb4, tf0, tf1, tf2, tf3, tf4, hin c9 ci]
    · simp only [↓reduceIte, reduceCtorEq, Za, Zb, Zc, Zd, Ze, Zf, Zg, Zh, Zi, Zj, Zk, Zl, Zm, Zn, Zo, Zp, Zq, Zr, Zs, Zt, Zu, Zv, gval, Zw, Zx, Zy, Zz, ZA, ZB, ZC, ZD, ZE, ZF, decide_eq_true_eq, ZG, ZH, ZI, ZJ, ZK, ZL, ZM, ZN, ZO, ZP, ZQ, ZR, ZS, Option.some.injEq, exists_eq_left', ZT, ZU, ZV, ZW, ZX, ZY, true_and, and_true, true_or, or_true, false_or, or_false, ite_true, ite_false, cond_true, cond_false, ZZ, Qa, if_true, if_false, decide_true, decide_false, Qb, Qc, Qd, Qe, Qf, Qg, Qh, Qi, Qj, Qk, Ql, Qm, Qn, Qo, Qp, rb0, rb1, rb2, rb3, rb4, tf0, tf1, tf2, tf3, tf4]
      refine run_draw (ps := []) (by kernel_rfl) (by kernel_rfl) ?_
      simp (disch := omega) only [↓reduceIte, reduceCtorEq, Za, Zb, Zc, Zd, Ze, Zf, Zg, Zh, Zi, Zj, Zk, Zl, Zm, Zn, Zo, Zp, Zq, Zr, Zs, Zt, Zu, Zv, gval, Zw, Zx, Zy, Zz, ZA, ZB, ZC, ZD, ZE, ZF, decide_eq_true_eq, ZG, ZH, ZI, ZJ, ZK, ZL, ZM, ZN, ZO, ZP, ZQ, ZR, ZS, Option.some.injEq, exists_eq_left', ZT, ZU, ZV, ZW, ZX, ZY, true_and, and_true, true_or, or_true, false_or, or_false, ite_true, ite_false, cond_true, cond_false, ZZ, Qa, if_true, if_false, decide_true, decide_false, Qb, Qc, Qd, Qe, Qf, Qg, Qh, Qi, Qj, Qk, Ql, Qm, Qn, Qo, Qp, rb0, rb1, rb2, rb3, rb4, tf0, tf1, tf2, tf3, tf4, hb, x.pend]
      refine runC_of (first_has h3 h5 hb x ?_)
      simp only [↓reduceIte, reduceCtorEq, Za, Zb, Zc, Zd, Ze, Zf, Zg, Zh, Zi, Zj, Zk, Zl, Zm, Zn, Zo, Zp, Zq, Zr, Zs, Zt, Zu, Zv, gval, Zw, Zx, Zy, Zz, ZA, ZB, ZC, ZD, ZE, ZF, decide_eq_true_eq, ZG, ZH, ZI, ZJ, ZK, ZL, ZM, ZN, ZO, ZP, ZQ, ZR, ZS, Option.some.injEq, exists_eq_left', ZT, ZU, ZV, ZW, ZX, ZY, true_and, and_true, true_or, or_true, false_or, or_false, ite_true, ite_false, cond_true, cond_false, ZZ, Qa, if_true, if_false, decide_true, decide_false, Qb, Qc, Qd, Qe, Qf, Qg, Qh, Qi, Qj, Qk, Ql, Qm, Qn, Qo, Qp, rb0, rb1, rb2, rb3, rb4, tf0, tf1, tf2, tf3, tf4]
      refine run_loop rfl (fun n e' h' => ∃ m q : Nat, n = 16 - m ∧ 1 ≤ m ∧ m ≤ 16 ∧ q < 18446744073709551616 ∧ h' = h.upd b (cellsB (L.set (o + 16) (.int .u64 q)) .exact) ∧ (∀ k, q.testBit k = (p.testBit k && !(decide (1 ≤ k) && decide (k < m)))) ∧ (∀ k, 1 ≤ k → k < m → p.testBit k = true → H k = 18446744073709551614) ∧
        e'.at 7 = .pointer (some ⟨b, o, none⟩) ∧ e'.at 8 = .func (.func 53) #[.pointer (some ⟨b, o, none⟩)] #[] ∧ e'.at 9 = .func (.func 54) #[.pointer (some ⟨b, o, none⟩)] #[] ∧ e'.at 10 = .int .u64 p ∧ e'.at 11 = .int .i64 (lowest q)) ?_ 15 _ _ ?_
      · rintro n e h' ⟨m, q, rfl, hm1, hm2, hq, rfl, hbits, hign, e7, e8, e9, e10, e11⟩ ih
        have x' := x.setPend hq
        have hb' := Heap.get_upd_same h b (cellsB (L.set (o + 16) (.int .u64 q)) .exact)
        have hlen : (L.set (o + 16) (.int .u64 (q : Int))).length = L.length := List.length_set
        rcases lowest_spec q with ⟨hz, hno⟩ | ⟨hs1, hs2, hst, hsl⟩
        · rw [hz] at e11
          simp (disch := omega) only [↓reduceIte, reduceCtorEq, Za, Zb, Zc, Zd, Ze, Zf, Zg, Zh, Zi, Zj, Zk, Zl, Zm, Zn, Zo, Zp, Zq, Zr, Zs, Zt, Zu, Zv, gval, Zw, Zx, Zy, Zz, ZA, ZB, ZC, ZD, ZE, ZF, decide_eq_true_eq, ZG, ZH, ZI, ZJ, ZK, ZL, ZM, ZN, ZO, ZP, ZQ, ZR, ZS, Option.some.injEq, exists_eq_left', ZT, ZU, ZV, ZW, ZX, ZY, true_and, and_true, true_or, or_true, false_or, or_false, ite_true, ite_false, cond_true, cond_false, ZZ, Qa, if_true, if_false, decide_true, decide_false, Qb, Qc, Qd, Qe, Qf, Qg, Qh, Qi, Qj, Qk, Ql, Qm, Qn, Qo, Qp, rb0, rb1, rb2, rb3, rb4, tf0, tf1, tf2, tf3, tf4, e7, e8, e9, e10, e11, hb', hlen, List.set_set, if_pos]
          rw [set_same x.pend]
          refine hnone c9 ci fun k h1 h2 h3 => ?_
          by_cases hk : k < m
          · exact hign k h1 hk h3
          · have := hno k h1 h2
            rw [hbits k, h3] at this
            simp at this
            omega
        · have hc : (0 : Int) < (lowest q : Nat) := by omega
          have hml : m ≤ lowest q := by
            rcases Nat.lt_or_ge (lowest q) m with h | h
            · have := hbits (lowest q)
              rw [hst] at this
              simp at this
              omega
            · exact h
          generalize hs : lowest q = s at *
          simp (disch := omega) only [↓reduceIte, reduceCtorEq, Za, Zb, Zc, Zd, Ze, Zf, Zg, Zh, Zi, Zj, Zk, Zl, Zm, Zn, Zo, Zp, Zq, Zr, Zs, Zt, Zu, Zv, gval, Zw, Zx, Zy, Zz, ZA, ZB, ZC, ZD, ZE, ZF, decide_eq_true_eq, ZG, ZH, ZI, ZJ, ZK, ZL, ZM, ZN, ZO, ZP, ZQ, ZR, ZS, Option.some.injEq, exists_eq_left', ZT, ZU, ZV, ZW, ZX, ZY, true_and, and_true, true_or, or_true, false_or, or_false, ite_true, ite_false, cond_true, cond_false, ZZ, Qa, if_true, if_false, decide_true, decide_false, Qb, Qc, Qd, Qe, Qf, Qg, Qh, Qi, Qj, Qk, Ql, Qm, Qn, Qo, Qp, rb0, rb1, rb2, rb3, rb4, tf0, tf1, tf2, tf3, tf4, e11, hc]
          refine run_draw (ps := []) (by kernel_rfl) (by kernel_rfl) ?_
          have hbl := bitN_lt (s := s) (by omega)
          simp (disch := omega) only [↓reduceIte, reduceCtorEq, Za, Zb, Zc, Zd, Ze, Zf, Zg, Zh, Zi, Zj, Zk, Zl, Zm, Zn, Zo, Zp, Zq, Zr, Zs, Zt, Zu, Zv, gval, Zw, Zx, Zy, Zz, ZA, ZB, ZC, ZD, ZE, ZF, decide_eq_true_eq, ZG, ZH, ZI, ZJ, ZK, ZL, ZM, ZN, ZO, ZP, ZQ, ZR, ZS, Option.some.injEq, exists_eq_left', ZT, ZU, ZV, ZW, ZX, ZY, true_and, and_true, true_or, or_true, false_or, or_false, ite_true, ite_false, cond_true, cond_false, ZZ, Qa, if_true, if_false, decide_true, decide_false, Qb, Qc, Qd, Qe, Qf, Qg, Qh, Qi, Qj, Qk, Ql, Qm, Qn, Qo, Qp, rb0, rb1, rb2, rb3, rb4, tf0, tf1, tf2, tf3, tf4, e7, e9, e11, hb', hlen, x'.pend, shl1_nat, andNot_u64, List.set_set, if_pos]
          have hd := testBit_drop hq s
          have hqs := without_lt q (bitN s)
          have x2 := x.setPend hqs
          refine runC_of (ignores_spec h4 (Heap.get_upd_same h b _) x2 (s := (s : Int)) (by omega) (by omega) ?_)
          simp only [↓reduceIte, reduceCtorEq, Za, Zb, Zc, Zd, Ze, Zf, Zg, Zh, Zi, Zj, Zk, Zl, Zm, Zn, Zo, Zp, Zq, Zr, Zs, Zt, Zu, Zv, gval, Zw, Zx, Zy, Zz, ZA, ZB, ZC, ZD, ZE, ZF, decide_eq_true_eq, ZG, ZH, ZI, ZJ, ZK, ZL, ZM, ZN, ZO, ZP, ZQ, ZR, ZS, Option.some.injEq, exists_eq_left', ZT, ZU, ZV, ZW, ZX, ZY, true_and, and_true, true_or, or_true, false_or, or_false, ite_true, ite_false, cond_true, cond_false, ZZ, Qa, if_true, if_false, decide_true, decide_false, Qb, Qc, Qd, Qe, Qf, Qg, Qh, Qi, Qj, Qk, Ql, Qm, Qn, Qo, Qp, rb0, rb1, rb2, rb3, rb4, tf0, tf1, tf2, tf3, tf4]
          by_cases hH : H s = 18446744073709551614
          · simp only [↓reduceIte, reduceCtorEq, Za, Zb, Zc, Zd, Ze, Zf, Zg, Zh, Zi, Zj, Zk, Zl, Zm, Zn, Zo, Zp, Zq, Zr, Zs, Zt, Zu, Zv, gval, Zw, Zx, Zy, Zz, ZA, ZB, ZC, ZD, ZE, ZF, decide_eq_true_eq, ZG, ZH, ZI, ZJ, ZK, ZL, ZM, ZN, ZO, ZP, ZQ, ZR, ZS, Option.some.injEq, exists_eq_left', ZT, ZU, ZV, ZW, ZX, ZY, true_and, and_true, true_or, or_true, false_or, or_false, ite_true, ite_false, cond_true, cond_false, ZZ, Qa, if_true, if_false, decide_true, decide_false, Qb, Qc, Qd, Qe, Qf, Qg, Qh, Qi, Qj, Qk, Ql, Qm, Qn, Qo, Qp, rb0, rb1, rb2, rb3, rb4, tf0, tf1, tf2, tf3, tf4, hH, e8]
            refine runC_of (first_has h3 h5 (Heap.get_upd_same h b _) x2 ?_)
            simp only [↓reduceIte, reduceCtorEq, Za, Zb, Zc, Zd, Ze, Zf, Zg, Zh, Zi, Zj, Zk, Zl, Zm, Zn, Zo, Zp, Zq, Zr, Zs, Zt, Zu, Zv, gval, Zw, Zx, Zy, Zz, ZA, ZB, ZC, ZD, ZE, ZF, decide_eq_true_eq, ZG, ZH, ZI, ZJ, ZK, ZL, ZM, ZN, ZO, ZP, ZQ, ZR, ZS, Option.some.injEq, exists_eq_left', ZT, ZU, ZV, ZW, ZX, ZY, true_and, and_true, true_or, or_true, false_or, or_false, ite_true, ite_false, cond_true, cond_false, ZZ, Qa, if_true, if_false, decide_true, decide_false, Qb, Qc, Qd, Qe, Qf, Qg, Qh, Qi, Qj, Qk, Ql, Qm, Qn, Qo, Qp, rb0, rb1, rb2, rb3, rb4, tf0, tf1, tf2, tf3, tf4]
            refine ih _ _ _ ?_ ⟨s + 1, without q (bitN s), rfl, by omega, by omega, hqs, rfl, fun k => ?_, fun k h1 h2 h3 => ?_, ?_, ?_, ?_, ?_, ?_⟩
            · omega
            · rw [hd, hbits]
              by_cases a : k = s
              · subst a; simp; omega
              · have a' : ¬ s = k := fun e => a e.symm
                simp only [a', decide_false, Bool.not_false, Bool.and_true]
                by_cases a2 : k < m
                · simp [a2, show k < s + 1 by omega]
                · simp only [a2, decide_false, Bool.and_false, Bool.not_false, Bool.and_true]
                  by_cases a3 : 1 ≤ k ∧ k < s
                  · have := hsl k a3.1 a3.2
                    rw [hbits] at this
                    simp [a2] at this
                    rw [this]; rfl
                  · simp; omega
            · by_cases a : k = s
              · subst a; exact hH
              · by_cases a2 : k < m
                · exact hign k h1 a2 h3
                · have := hsl k h1 (by omega)
                  rw [hbits, h3] at this
                  simp at this
                  omega
            · simp only [↓reduceIte, reduceCtorEq, Za, Zb, Zc, Zd, Ze, Zf, Zg, Zh, Zi, Zj, Zk, Zl, Zm, Zn, Zo, Zp, Zq, Zr, Zs, Zt, Zu, Zv, gval, Zw, Zx, Zy, Zz, ZA, ZB, ZC, ZD, ZE, ZF, decide_eq_true_eq, ZG, ZH, ZI, ZJ, ZK, ZL, ZM, ZN, ZO, ZP, ZQ, ZR, ZS, Option.some.injEq, exists_eq_left', ZT, ZU, ZV, ZW, ZX, ZY, true_and, and_true, true_or, or_true, false_or, or_false, ite_true, ite_false, cond_true, cond_false, ZZ, Qa, if_true, if_false, decide_true, decide_false, Qb, Qc, Qd, Qe, Qf, Qg, Qh, Qi, Qj, Qk, Ql, Qm, Qn, Qo, Qp, rb0, rb1, rb2, rb3, rb4, tf0, tf1, tf2, tf3, tf4, e7]
            · simp only [↓reduceIte, reduceCtorEq, Za, Zb, Zc, Zd, Ze, Zf, Zg, Zh, Zi, Zj, Zk, Zl, Zm, Zn, Zo, Zp, Zq, Zr, Zs, Zt, Zu, Zv, gval, Zw, Zx, Zy, Zz, ZA, ZB, ZC, ZD, ZE, ZF, decide_eq_true_eq, ZG, ZH, ZI, ZJ, ZK, ZL, ZM, ZN, ZO, ZP, ZQ, ZR, ZS, Option.some.injEq, exists_eq_left', ZT, ZU, ZV, ZW, ZX, ZY, true_and, and_true, true_or, or_true, false_or, or_false, ite_true, ite_false, cond_true, cond_false, ZZ, Qa, if_true, if_false, decide_true, decide_false, Qb, Qc, Qd, Qe, Qf, Qg, Qh, Qi, Qj, Qk, Ql, Qm, Qn, Qo, Qp, rb0, rb1, rb2, rb3, rb4, tf0, tf1, tf2, tf3, tf4, e8]
            · simp only [↓reduceIte, reduceCtorEq, Za, Zb, Zc, Zd, Ze, Zf, Zg, Zh, Zi, Zj, Zk, Zl, Zm, Zn, Zo, Zp, Zq, Zr, Zs, Zt, Zu, Zv, gval, Zw, Zx, Zy, Zz, ZA, ZB, ZC, ZD, ZE, ZF, decide_eq_true_eq, ZG, ZH, ZI, ZJ, ZK, ZL, ZM, ZN, ZO, ZP, ZQ, ZR, ZS, Option.some.injEq, exists_eq_left', ZT, ZU, ZV, ZW, ZX, ZY, true_and, and_true, true_or, or_true, false_or, or_false, ite_true, ite_false, cond_true, cond_false, ZZ, Qa, if_true, if_false, decide_true, decide_false, Qb, Qc, Qd, Qe, Qf, Qg, Qh, Qi, Qj, Qk, Ql, Qm, Qn, Qo, Qp, rb0, rb1, rb2, rb3, rb4, tf0, tf1, tf2, tf3, tf4, e9]
            · simp only [↓reduceIte, reduceCtorEq, Za, Zb, Zc, Zd, Ze, Zf, Zg, Zh, Zi, Zj, Zk, Zl, Zm, Zn, Zo, Zp, Zq, Zr, Zs, Zt, Zu, Zv, gval, Zw, Zx, Zy, Zz, ZA, ZB, ZC, ZD, ZE, ZF, decide_eq_true_eq, ZG, ZH, ZI, ZJ, ZK, ZL, ZM, ZN, ZO, ZP, ZQ, ZR, ZS, Option.some.injEq, exists_eq_left', ZT, ZU, ZV, ZW, ZX, ZY, true_and, and_true, true_or, or_true, false_or, or_false, ite_true, ite_false, cond_true, cond_false, ZZ, Qa, if_true, if_false, decide_true, decide_false, Qb, Qc, Qd, Qe, Qf, Qg, Qh, Qi, Qj, Qk, Ql, Qm, Qn, Qo, Qp, rb0, rb1, rb2, rb3, rb4, tf0, tf1, tf2, tf3, tf4, e10]
            · simp only [↓reduceIte, reduceCtorEq, Za, Zb, Zc, Zd, Ze, Zf, Zg, Zh, Zi, Zj, Zk, Zl, Zm, Zn, Zo, Zp, Zq, Zr, Zs, Zt, Zu, Zv, gval, Zw, Zx, Zy, Zz, ZA, ZB, ZC, ZD, ZE, ZF, decide_eq_true_eq, ZG, ZH, ZI, ZJ, ZK, ZL, ZM, ZN, ZO, ZP, ZQ, ZR, ZS, Option.some.injEq, exists_eq_left', ZT, ZU, ZV, ZW, ZX, ZY, true_and, and_true, true_or, or_true, false_or, or_false, ite_true, ite_false, cond_true, cond_false, ZZ, Qa, if_true, if_false, decide_true, decide_false, Qb, Qc, Qd, Qe, Qf, Qg, Qh, Qi, Qj, Qk, Ql, Qm, Qn, Qo, Qp, rb0, rb1, rb2, rb3, rb4, tf0, tf1, tf2, tf3, tf4]
          · simp only [↓reduceIte, reduceCtorEq, Za, Zb, Zc, Zd, Ze, Zf, Zg, Zh, Zi, Zj, Zk, Zl, Zm, Zn, Zo, Zp, Zq, Zr, Zs, Zt, Zu, Zv, gval, Zw, Zx, Zy, Zz, ZA, ZB, ZC, ZD, ZE, ZF, decide_eq_true_eq, ZG, ZH, ZI, ZJ, ZK, ZL, ZM, ZN, ZO, ZP, ZQ, ZR, ZS, Option.some.injEq, exists_eq_left', ZT, ZU, ZV, ZW, ZX, ZY, true_and, and_true, true_or, or_true, false_or, or_false, ite_true, ite_false, cond_true, cond_false, ZZ, Qa, if_true, if_false, decide_true, decide_false, Qb, Qc, Qd, Qe, Qf, Qg, Qh, Qi, Qj, Qk, Ql, Qm, Qn, Qo, Qp, rb0, rb1, rb2, rb3, rb4, tf0, tf1, tf2, tf3, tf4, hH]
            refine run_draw (ps := []) (by kernel_rfl) (by kernel_rfl) ?_
            have hk := x2.hd s (by omega)
            simp (disch := omega) only [↓reduceIte, reduceCtorEq, Za, Zb, Zc, Zd, Ze, Zf, Zg, Zh, Zi, Zj, Zk, Zl, Zm, Zn, Zo, Zp, Zq, Zr, Zs, Zt, Zu, Zv, gval, Zw, Zx, Zy, Zz, ZA, ZB, ZC, ZD, ZE, ZF, decide_eq_true_eq, ZG, ZH, ZI, ZJ, ZK, ZL, ZM, ZN, ZO, ZP, ZQ, ZR, ZS, Option.some.injEq, exists_eq_left', ZT, ZU, ZV, ZW, ZX, ZY, true_and, and_true, true_or, or_true, false_or, or_false, ite_true, ite_false, cond_true, cond_false, ZZ, Qa, if_true, if_false, decide_true, decide_false, Qb, Qc, Qd, Qe, Qf, Qg, Qh, Qi, Qj, Qk, Ql, Qm, Qn, Qo, Qp, rb0, rb1, rb2, rb3, rb4, tf0, tf1, tf2, tf3, tf4, e7, e11, hb', hlen, hk, Nat.mul_one, if_pos]
            refine hsome s _ c9 ci hs1 hs2 ?_ hH (fun k h1 h2 h3 => ?_) (fun k => ?_) hqs
            · have := hbits s
              rw [hst] at this
              simp at this
              exact this.1
            · by_cases a2 : k < m
              · exact hign k h1 a2 h3
              · have := hsl k h1 h2
                rw [hbits, h3] at this
                simp at this
                omega
            · rw [hd, hbits]
              by_cases a : k = s
              · subst a; simp; omega
              · have a' : ¬ s = k := fun e => a e.symm
                simp only [a', decide_false, Bool.not_false, Bool.and_true]
                by_cases a2 : k < m
                · simp [a2, show k ≤ s by omega]
                · simp only [a2, decide_false, Bool.and_false, Bool.not_false, Bool.and_true]
                  by_cases a3 : 1 ≤ k ∧ k < s
                  · have := hsl k a3.1 a3.2
                    rw [hbits] at this
                    simp [a2] at this
                    rw [this]; rfl
                  · simp; omega
      · refine ⟨1, p, rfl, by omega, by omega, hlt, ?_, fun k => ?_, fun k h1 h2 => by omega, ?_, ?_, ?_, ?_, ?_⟩
        · rw [set_same x.pend]
          exact (upd_same hb).symm
        · simp; omega
        · simp only [↓reduceIte, reduceCtorEq, Za, Zb, Zc, Zd, Ze, Zf, Zg, Zh, Zi, Zj, Zk, Zl, Zm, Zn, Zo, Zp, Zq, Zr, Zs, Zt, Zu, Zv, gval, Zw, Zx, Zy, Zz, ZA, ZB, ZC, ZD, ZE, ZF, decide_eq_true_eq, ZG, ZH, ZI, ZJ, ZK, ZL, ZM, ZN, ZO, ZP, ZQ, ZR, ZS, Option.some.injEq, exists_eq_left', ZT, ZU, ZV, ZW, ZX, ZY, true_and, and_true, true_or, or_true, false_or, or_false, ite_true, ite_false, cond_true, cond_false, ZZ, Qa, if_true, if_false, decide_true, decide_false, Qb, Qc, Qd, Qe, Qf, Qg, Qh, Qi, Qj, Qk, Ql, Qm, Qn, Qo, Qp, rb0, rb1, rb2, rb3, rb4, tf0, tf1, tf2, tf3, tf4]
        · simp only [↓reduceIte, reduceCtorEq, Za, Zb, Zc, Zd, Ze, Zf, Zg, Zh, Zi, Zj, Zk, Zl, Zm, Zn, Zo, Zp, Zq, Zr, Zs, Zt, Zu, Zv, gval, Zw, Zx, Zy, Zz, ZA, ZB, ZC, ZD, ZE, ZF, decide_eq_true_eq, ZG, ZH, ZI, ZJ, ZK, ZL, ZM, ZN, ZO, ZP, ZQ, ZR, ZS, Option.some.injEq, exists_eq_left', ZT, ZU, ZV, ZW, ZX, ZY, true_and, and_true, true_or, or_true, false_or, or_false, ite_true, ite_false, cond_true, cond_false, ZZ, Qa, if_true, if_false, decide_true, decide_false, Qb, Qc, Qd, Qe, Qf, Qg, Qh, Qi, Qj, Qk, Ql, Qm, Qn, Qo, Qp, rb0, rb1, rb2, rb3, rb4, tf0, tf1, tf2, tf3, tf4]
        · simp only [↓reduceIte, reduceCtorEq, Za, Zb, Zc, Zd, Ze, Zf, Zg, Zh, Zi, Zj, Zk, Zl, Zm, Zn, Zo, Zp, Zq, Zr, Zs, Zt, Zu, Zv, gval, Zw, Zx, Zy, Zz, ZA, ZB, ZC, ZD, ZE, ZF, decide_eq_true_eq, ZG, ZH, ZI, ZJ, ZK, ZL, ZM, ZN, ZO, ZP, ZQ, ZR, ZS, Option.some.injEq, exists_eq_left', ZT, ZU, ZV, ZW, ZX, ZY, true_and, and_true, true_or, or_true, false_or, or_false, ite_true, ite_false, cond_true, cond_false, ZZ, Qa, if_true, if_false, decide_true, decide_false, Qb, Qc, Qd, Qe, Qf, Qg, Qh, Qi, Qj, Qk, Ql, Qm, Qn, Qo, Qp, rb0, rb1, rb2, rb3, rb4, tf0, tf1, tf2, tf3, tf4]
        · simp only [↓reduceIte, reduceCtorEq, Za, Zb, Zc, Zd, Ze, Zf, Zg, Zh, Zi, Zj, Zk, Zl, Zm, Zn, Zo, Zp, Zq, Zr, Zs, Zt, Zu, Zv, gval, Zw, Zx, Zy, Zz, ZA, ZB, ZC, ZD, ZE, ZF, decide_eq_true_eq, ZG, ZH, ZI, ZJ, ZK, ZL, ZM, ZN, ZO, ZP, ZQ, ZR, ZS, Option.some.injEq, exists_eq_left', ZT, ZU, ZV, ZW, ZX, ZY, true_and, and_true, true_or, or_true, false_or, or_false, ite_true, ite_false, cond_true, cond_false, ZZ, Qa, if_true, if_false, decide_true, decide_false, Qb, Qc, Qd, Qe, Qf, Qg, Qh, Qi, Qj, Qk, Ql, Qm, Qn, Qo, Qp, rb0, rb1, rb2, rb3, rb4, tf0, tf1, tf2, tf3, tf4]
        · simp only [↓reduceIte, reduceCtorEq, Za, Zb, Zc, Zd, Ze, Zf, Zg, Zh, Zi, Zj, Zk, Zl, Zm, Zn, Zo, Zp, Zq, Zr, Zs, Zt, Zu, Zv, gval, Zw, Zx, Zy, Zz, ZA, ZB, ZC, ZD, ZE, ZF, decide_eq_true_eq, ZG, ZH, ZI, ZJ, ZK, ZL, ZM, ZN, ZO, ZP, ZQ, ZR, ZS, Option.some.injEq, exists_eq_left', ZT, ZU, ZV, ZW, ZX, ZY, true_and, and_true, true_or, or_true, false_or, or_false, ite_true, ite_false, cond_true, cond_false, ZZ, Qa, if_true, if_false, decide_true, decide_false, Qb, Qc, Qd, Qe, Qf, Qg, Qh, Qi, Qj, Qk, Ql, Qm, Qn, Qo, Qp, rb0, rb1, rb2, rb3, rb4, tf0, tf1, tf2, tf3, tf4]
end Go.Proofs.Ytmmjeifdgfolmaa
end
section
/- Signals: New. Conditions: none but the functions' names. -/
namespace Go.Proofs.Ytmmjeifdgfolmaa
open Go.AM
open Nat renaming reduceBEq → Za, reduceEqDiff → Zb, reduceAdd → Zc, reduceSub → Zd, reduceMul → Ze, reduceLT → Zf, reduceLeDiff → Zg, reduceDiv → Zh, reduceMod → Zi, reducePow → Zj, blt_eq → ZF, zero_add → Qc, add_zero → Qd
open Int renaming reduceAdd → Zk, reduceSub → Zl, reduceMul → Zm, reduceLT → Zn, reduceLE → Zo, reduceEq → Zp, reduceNe → Zq, reduceNeg → Zr, reduceToNat → Zs, reduceDiv → Zt, reduceMod → Zu, reducePow → Zv, cast_ofNat_Int → Zw, toNat_natCast → Qb
open List renaming set_cons_zero → Zx, set_cons_succ → Zy, map_toArray → Zz, cons_append → ZA, nil_append → ZB, append_nil → ZC, all_cons → ZD, all_nil → ZE, getElem?_cons_zero → ZJ, getElem?_cons_succ → ZK, length_cons → ZL, length_nil → ZM, map_cons → ZN, map_nil → ZO, isEmpty_nil → Qe, any_cons → Qf, any_nil → Qg, drop_zero → Qk, drop_succ_cons → Ql, take_succ_cons → Qm, take_zero → Qn, take_nil → Qo, drop_nil → Qp
open Bool renaming and_true → ZG, true_and → ZH, and_self → ZI, not_true → ZT, not_false → ZU, true_eq_false → ZZ, false_eq_true → Qa, or_false → Qh, false_or → Qi, and_eq_true → Qj
open Option renaming map_some → ZP, map_none → ZQ, bind_some → ZR, getD_some → ZS, isNone_some → ZV, isNone_none → ZW, isSome_some → ZX, isSome_none → ZY
set_option linter.unusedSimpArgs false
variable {sp : Special} {h : Heap} {R : Out → Heap → Prop}
def freshI (i : Nat) : List Value := List.replicate i (.int .u64 18446744073709551615) ++ List.replicate (16 - i) (.int .u64 0) ++ [.int .u64 0, .bool false, .int .i64 0, .slice none 0 0]
abbrev freshL : List Value := freshI 16
theorem freshI_len {i : Nat} (hi : i ≤ 16) : (freshI i).length = 20 := by
  unfold freshI
  simp only [List.length_append, List.length_replicate, List.length_cons, List.length_nil]
  omega
theorem freshI_set {i : Nat} (hi : i < 16) : (freshI i).set i (.int .u64 18446744073709551615) = freshI (i + 1) := by
  have : i = 0 ∨ i = 1 ∨ i = 2 ∨ i = 3 ∨ i = 4 ∨ i = 5 ∨ i = 6 ∨ i = 7 ∨ i = 8 ∨ i = 9 ∨ i = 10 ∨ i = 11 ∨ i = 12 ∨ i = 13 ∨ i = 14 ∨ i = 15 := by omega
  rcases this with rfl | rfl | rfl | rfl | rfl | rfl | rfl | rfl | rfl | rfl | rfl | rfl | rfl | rfl | rfl | rfl <;> rfl
set_option maxRecDepth 100000 in
theorem fresh_spec (h1 : (sp 51).isNone = true) (hR : ∀ h', h.nx ≤ h'.nx → (∀ b, b < h.nx → h'.get b = h.get b) → R (.ret (.agg freshL.toArray)) h') : WF Try.prog 0 sp 51 [] h R := by
  refine wf_fn (fn := Try.f51) h1 rfl (by kernel_rfl) rfl ?_
  have z0 : [.int .u64 0, .int .u64 0, .int .u64 0, .int .u64 0, .int .u64 0, .int .u64 0, .int .u64 0, .int .u64 0, .int .u64 0, .int .u64 0, .int .u64 0, .int .u64 0, .int .u64 0, .int .u64 0, .int .u64 0, .int .u64 0, .int .u64 0, .bool false, .int .i64 0, .slice none 0 0] = freshI 0 := rfl
  simp only [↓reduceIte, reduceCtorEq, Za, Zb, Zc, Zd, Ze, Zf, Zg, Zh, Zi, Zj, Zk, Zl, Zm, Zn, Zo, Zp, Zq, Zr, Zs, Zt, Zu, Zv, gval, Zw, Zx, Zy, Zz, ZA, ZB, ZC, ZD, ZE, ZF, decide_eq_true_eq, ZG, ZH, ZI, ZJ, ZK, ZL, ZM, ZN, ZO, ZP, ZQ, ZR, ZS, Option.some.injEq, exists_eq_left', ZT, ZU, ZV, ZW, ZX, ZY, true_and, and_true, true_or, or_true, false_or, or_false, ite_true, ite_false, cond_true, cond_false, ZZ, Qa, if_true, if_false, decide_true, decide_false, Qb, Qc, Qd, Qe, Qf, Qg, Qh, Qi, Qj, Qk, Ql, Qm, Qn, Qo, Qp, rb0, rb1, rb2, rb3, rb4, tf0, tf1, tf2, tf3, tf4, Try.f51, z0]
  refine run_loop rfl (fun n e' h' => ∃ i : Nat, n = 16 - i ∧ i ≤ 16 ∧ h' = ((h.new (cellsB (freshI 0) .exact)).new (cellsB (freshI i) .exact)) ∧ e'.at 0 = .pointer (some ⟨h.nx, 0, none⟩) ∧ e'.at 1 = .pointer (some ⟨h.nx + 1, 0, none⟩) ∧ e'.at 3 = .int .i64 i) ?_ 16 _ _ ?_
  · rintro n e h' ⟨i, rfl, hi, rfl, e0, e1, e3⟩ ih
    have hlen := freshI_len hi
    have hg : ((h.new (cellsB (freshI 0) .exact)).new (cellsB (freshI i) .exact)).get (h.nx + 1) = some (cellsB (freshI i) .exact) := Heap.get_new_same _ _
    have hg0 : ((h.new (cellsB (freshI 0) .exact)).new (cellsB (freshI i) .exact)).get h.nx = some (cellsB (freshI 0) .exact) := by
      rw [Heap.get_new_ne _ _ (by rw [Heap.nx_new]; omega), Heap.get_new_same]
    simp only [↓reduceIte, reduceCtorEq, Za, Zb, Zc, Zd, Ze, Zf, Zg, Zh, Zi, Zj, Zk, Zl, Zm, Zn, Zo, Zp, Zq, Zr, Zs, Zt, Zu, Zv, gval, Zw, Zx, Zy, Zz, ZA, ZB, ZC, ZD, ZE, ZF, decide_eq_true_eq, ZG, ZH, ZI, ZJ, ZK, ZL, ZM, ZN, ZO, ZP, ZQ, ZR, ZS, Option.some.injEq, exists_eq_left', ZT, ZU, ZV, ZW, ZX, ZY, true_and, and_true, true_or, or_true, false_or, or_false, ite_true, ite_false, cond_true, cond_false, ZZ, Qa, if_true, if_false, decide_true, decide_false, Qb, Qc, Qd, Qe, Qf, Qg, Qh, Qi, Qj, Qk, Ql, Qm, Qn, Qo, Qp, rb0, rb1, rb2, rb3, rb4, tf0, tf1, tf2, tf3, tf4, e3]
    refine runB_dec (fun hc => ?_) (fun hc => ?_)
    · simp (disch := omega) only [↓reduceIte, reduceCtorEq, Za, Zb, Zc, Zd, Ze, Zf, Zg, Zh, Zi, Zj, Zk, Zl, Zm, Zn, Zo, Zp, Zq, Zr, Zs, Zt, Zu, Zv, gval, Zw, Zx, Zy, Zz, ZA, ZB, ZC, ZD, ZE, ZF, decide_eq_true_eq, ZG, ZH, ZI, ZJ, ZK, ZL, ZM, ZN, ZO, ZP, ZQ, ZR, ZS, Option.some.injEq, exists_eq_left', ZT, ZU, ZV, ZW, ZX, ZY, true_and, and_true, true_or, or_true, false_or, or_false, ite_true, ite_false, cond_true, cond_false, ZZ, Qa, if_true, if_false, decide_true, decide_false, Qb, Qc, Qd, Qe, Qf, Qg, Qh, Qi, Qj, Qk, Ql, Qm, Qn, Qo, Qp, rb0, rb1, rb2, rb3, rb4, tf0, tf1, tf2, tf3, tf4, e1, e3, hg, if_pos, hlen, Nat.mul_one, wrapI]
      refine ih _ _ _ ?_ ⟨i + 1, rfl, by omega, ?_, ?_, ?_, ?_⟩
      · omega
      · rw [freshI_set (by omega)]
        exact Heap.upd_new (h.new (cellsB (freshI 0) .exact)) _ _
      · simp only [↓reduceIte, reduceCtorEq, Za, Zb, Zc, Zd, Ze, Zf, Zg, Zh, Zi, Zj, Zk, Zl, Zm, Zn, Zo, Zp, Zq, Zr, Zs, Zt, Zu, Zv, gval, Zw, Zx, Zy, Zz, ZA, ZB, ZC, ZD, ZE, ZF, decide_eq_true_eq, ZG, ZH, ZI, ZJ, ZK, ZL, ZM, ZN, ZO, ZP, ZQ, ZR, ZS, Option.some.injEq, exists_eq_left', ZT, ZU, ZV, ZW, ZX, ZY, true_and, and_true, true_or, or_true, false_or, or_false, ite_true, ite_false, cond_true, cond_false, ZZ, Qa, if_true, if_false, decide_true, decide_false, Qb, Qc, Qd, Qe, Qf, Qg, Qh, Qi, Qj, Qk, Ql, Qm, Qn, Qo, Qp, rb0, rb1, rb2, rb3, rb4, tf0, tf1, tf2, tf3, tf4, e0]
      · simp only [↓reduceIte, reduceCtorEq, Za, Zb, Zc, Zd, Ze, Zf, Zg, Zh, Zi, Zj, Zk, Zl, Zm, Zn, Zo, Zp, Zq, Zr, Zs, Zt, Zu, Zv, gval, Zw, Zx, Zy, Zz, ZA, ZB, ZC, ZD, ZE, ZF, decide_eq_true_eq, ZG, ZH, ZI, ZJ, ZK, ZL, ZM, ZN, ZO, ZP, ZQ, ZR, ZS, Option.some.injEq, exists_eq_left', ZT, ZU, ZV, ZW, ZX, ZY, true_and, and_true, true_or, or_true, false_or, or_false, ite_true, ite_false, cond_true, cond_false, ZZ, Qa, if_true, if_false, decide_true, decide_false, Qb, Qc, Qd, Qe, Qf, Qg, Qh, Qi, Qj, Qk, Ql, Qm, Qn, Qo, Qp, rb0, rb1, rb2, rb3, rb4, tf0, tf1, tf2, tf3, tf4, e1]
      · simp only [↓reduceIte, reduceCtorEq, Za, Zb, Zc, Zd, Ze, Zf, Zg, Zh, Zi, Zj, Zk, Zl, Zm, Zn, Zo, Zp, Zq, Zr, Zs, Zt, Zu, Zv, gval, Zw, Zx, Zy, Zz, ZA, ZB, ZC, ZD, ZE, ZF, decide_eq_true_eq, ZG, ZH, ZI, ZJ, ZK, ZL, ZM, ZN, ZO, ZP, ZQ, ZR, ZS, Option.some.injEq, exists_eq_left', ZT, ZU, ZV, ZW, ZX, ZY, true_and, and_true, true_or, or_true, false_or, or_false, ite_true, ite_false, cond_true, cond_false, ZZ, Qa, if_true, if_false, decide_true, decide_false, Qb, Qc, Qd, Qe, Qf, Qg, Qh, Qi, Qj, Qk, Ql, Qm, Qn, Qo, Qp, rb0, rb1, rb2, rb3, rb4, tf0, tf1, tf2, tf3, tf4]
        rfl
    · have : i = 16 := by omega
      subst this
      have tk : (freshI 16).take 20 = freshI 16 := rfl
      have ov : overL (freshI 0) 0 (freshI 16) = freshI 16 := rfl
      simp (disch := omega) only [↓reduceIte, reduceCtorEq, Za, Zb, Zc, Zd, Ze, Zf, Zg, Zh, Zi, Zj, Zk, Zl, Zm, Zn, Zo, Zp, Zq, Zr, Zs, Zt, Zu, Zv, gval, Zw, Zx, Zy, Zz, ZA, ZB, ZC, ZD, ZE, ZF, decide_eq_true_eq, ZG, ZH, ZI, ZJ, ZK, ZL, ZM, ZN, ZO, ZP, ZQ, ZR, ZS, Option.some.injEq, exists_eq_left', ZT, ZU, ZV, ZW, ZX, ZY, true_and, and_true, true_or, or_true, false_or, or_false, ite_true, ite_false, cond_true, cond_false, ZZ, Qa, if_true, if_false, decide_true, decide_false, Qb, Qc, Qd, Qe, Qf, Qg, Qh, Qi, Qj, Qk, Ql, Qm, Qn, Qo, Qp, rb0, rb1, rb2, rb3, rb4, tf0, tf1, tf2, tf3, tf4, e0, e1, hg, hg0, if_pos, hlen, List.drop_zero, freshI_len, tk, ov, stX_exactN]
      refine hR _ ?_ fun b hb => ?_
      · simp (disch := (first | omega | rfl | (simp only [Heap.nx_upd, Heap.nx_new]; omega))) only [Heap.get_upd_ne, Heap.get_new_ne, Heap.get_new_at, Heap.get_upd_same, Heap.get_new_same, Heap.nx_upd, Heap.nx_new]
        omega
      · simp (disch := (first | omega | rfl | (simp only [Heap.nx_upd, Heap.nx_new]; omega))) only [Heap.get_upd_ne, Heap.get_new_ne, Heap.get_new_at, Heap.get_upd_same, Heap.get_new_same, Heap.nx_upd, Heap.nx_new]
  · refine ⟨0, rfl, by omega, rfl, ?_, ?_, ?_⟩
    · simp only [↓reduceIte, reduceCtorEq, Za, Zb, Zc, Zd, Ze, Zf, Zg, Zh, Zi, Zj, Zk, Zl, Zm, Zn, Zo, Zp, Zq, Zr, Zs, Zt, Zu, Zv, gval, Zw, Zx, Zy, Zz, ZA, ZB, ZC, ZD, ZE, ZF, decide_eq_true_eq, ZG, ZH, ZI, ZJ, ZK, ZL, ZM, ZN, ZO, ZP, ZQ, ZR, ZS, Option.some.injEq, exists_eq_left', ZT, ZU, ZV, ZW, ZX, ZY, true_and, and_true, true_or, or_true, false_or, or_false, ite_true, ite_false, cond_true, cond_false, ZZ, Qa, if_true, if_false, decide_true, decide_false, Qb, Qc, Qd, Qe, Qf, Qg, Qh, Qi, Qj, Qk, Ql, Qm, Qn, Qo, Qp, rb0, rb1, rb2, rb3, rb4, tf0, tf1, tf2, tf3, tf4]
    · simp only [↓reduceIte, reduceCtorEq, Za, Zb, Zc, Zd, Ze, Zf, Zg, Zh, Zi, Zj, Zk, Zl, Zm, Zn, Zo, Zp, Zq, Zr, Zs, Zt, Zu, Zv, gval, Zw, Zx, Zy, Zz, ZA, ZB, ZC, ZD, ZE, ZF, decide_eq_true_eq, ZG, ZH, ZI, ZJ, ZK, ZL, ZM, ZN, ZO, ZP, ZQ, ZR, ZS, Option.some.injEq, exists_eq_left', ZT, ZU, ZV, ZW, ZX, ZY, true_and, and_true, true_or, or_true, false_or, or_false, ite_true, ite_false, cond_true, cond_false, ZZ, Qa, if_true, if_false, decide_true, decide_false, Qb, Qc, Qd, Qe, Qf, Qg, Qh, Qi, Qj, Qk, Ql, Qm, Qn, Qo, Qp, rb0, rb1, rb2, rb3, rb4, tf0, tf1, tf2, tf3, tf4]
    · simp only [↓reduceIte, reduceCtorEq, Za, Zb, Zc, Zd, Ze, Zf, Zg, Zh, Zi, Zj, Zk, Zl, Zm, Zn, Zo, Zp, Zq, Zr, Zs, Zt, Zu, Zv, gval, Zw, Zx, Zy, Zz, ZA, ZB, ZC, ZD, ZE, ZF, decide_eq_true_eq, ZG, ZH, ZI, ZJ, ZK, ZL, ZM, ZN, ZO, ZP, ZQ, ZR, ZS, Option.some.injEq, exists_eq_left', ZT, ZU, ZV, ZW, ZX, ZY, true_and, and_true, true_or, or_true, false_or, or_false, ite_true, ite_false, cond_true, cond_false, ZZ, Qa, if_true, if_false, decide_true, decide_false, Qb, Qc, Qd, Qe, Qf, Qg, Qh, Qi, Qj, Qk, Ql, Qm, Qn, Qo, Qp, rb0, rb1, rb2, rb3, rb4, tf0, tf1, tf2, tf3, tf4]
theorem freshL_at {l : Nat} {L : List Value} (o : Nat) (hL : ∀ k, k < 20 → L[o + k]? = freshL[k]?) : OneAt L o (fun _ => 18446744073709551615) 0 false 0 (.slice none 0 0) := by
  refine ⟨fun k hk => ?_, hL 16 (by omega), hL 17 (by omega), hL 18 (by omega), hL 19 (by omega), by omega⟩
  rw [hL k (by omega)]
  have : k = 0 ∨ k = 1 ∨ k = 2 ∨ k = 3 ∨ k = 4 ∨ k = 5 ∨ k = 6 ∨ k = 7 ∨ k = 8 ∨ k = 9 ∨ k = 10 ∨ k = 11 ∨ k = 12 ∨ k = 13 ∨ k = 14 ∨ k = 15 := by omega
  rcases this with rfl | rfl | rfl | rfl | rfl | rfl | rfl | rfl | rfl | rfl | rfl | rfl | rfl | rfl | rfl | rfl <;> rfl
noncomputable abbrev newL : List Value := repeatL freshL 8
theorem newL_at {i : Nat} (hi : i < 8) : OneAt newL (i * 20) (fun _ => 18446744073709551615) 0 false 0 (.slice none 0 0) := by
  refine freshL_at (l := 0) (i * 20) fun k hk => ?_
  have : freshL.length = 20 := rfl
  rw [getElem_repeatL _ _ _ (by omega), this]
  congr 1
  omega
set_option maxRecDepth 100000 in
theorem new_spec (h0 : (sp 23).isNone = true) (h1 : (sp 51).isNone = true) (hR : ∀ h' b, h.nx ≤ b → b < h'.nx → h'.get b = some (cellsB newL .exact) → (∀ b, b < h.nx → h'.get b = h.get b) → R (.ret (.pointer (some ⟨b, 0, none⟩))) h') : WF Try.prog 0 sp 23 [] h R := by
  refine wf_fn (fn := Try.f23) h0 rfl (by kernel_rfl) rfl ?_
  have zl : (freshI 0).length = 20 := rfl
  have fl : freshL.length = 20 := rfl
  have z0 : [.int .u64 0, .int .u64 0, .int .u64 0, .int .u64 0, .int .u64 0, .int .u64 0, .int .u64 0, .int .u64 0, .int .u64 0, .int .u64 0, .int .u64 0, .int .u64 0, .int .u64 0, .int .u64 0, .int .u64 0, .int .u64 0, .int .u64 0, .bool false, .int .i64 0, .slice none 0 0] = freshI 0 := rfl
  simp only [↓reduceIte, reduceCtorEq, Za, Zb, Zc, Zd, Ze, Zf, Zg, Zh, Zi, Zj, Zk, Zl, Zm, Zn, Zo, Zp, Zq, Zr, Zs, Zt, Zu, Zv, gval, Zw, Zx, Zy, Zz, ZA, ZB, ZC, ZD, ZE, ZF, decide_eq_true_eq, ZG, ZH, ZI, ZJ, ZK, ZL, ZM, ZN, ZO, ZP, ZQ, ZR, ZS, Option.some.injEq, exists_eq_left', ZT, ZU, ZV, ZW, ZX, ZY, true_and, and_true, true_or, or_true, false_or, or_false, ite_true, ite_false, cond_true, cond_false, ZZ, Qa, if_true, if_false, decide_true, decide_false, Qb, Qc, Qd, Qe, Qf, Qg, Qh, Qi, Qj, Qk, Ql, Qm, Qn, Qo, Qp, rb0, rb1, rb2, rb3, rb4, tf0, tf1, tf2, tf3, tf4, Try.f23, z0]
  refine run_loop rfl (fun n e' h' => ∃ i : Nat, n = 8 - i ∧ i ≤ 8 ∧ h.nx < h'.nx ∧ h'.get h.nx = some (cellsB (repeatL freshL i ++ repeatL (freshI 0) (8 - i)) .exact) ∧ (∀ b, b < h.nx → h'.get b = h.get b) ∧ e'.at 1 = .pointer (some ⟨h.nx, 0, none⟩) ∧ e'.at 5 = .int .i64 i) ?_ 8 _ _ ?_
  · rintro n e h' ⟨i, rfl, hi, hnx, hg, hk, e1, e5⟩ ih
    simp only [↓reduceIte, reduceCtorEq, Za, Zb, Zc, Zd, Ze, Zf, Zg, Zh, Zi, Zj, Zk, Zl, Zm, Zn, Zo, Zp, Zq, Zr, Zs, Zt, Zu, Zv, gval, Zw, Zx, Zy, Zz, ZA, ZB, ZC, ZD, ZE, ZF, decide_eq_true_eq, ZG, ZH, ZI, ZJ, ZK, ZL, ZM, ZN, ZO, ZP, ZQ, ZR, ZS, Option.some.injEq, exists_eq_left', ZT, ZU, ZV, ZW, ZX, ZY, true_and, and_true, true_or, or_true, false_or, or_false, ite_true, ite_false, cond_true, cond_false, ZZ, Qa, if_true, if_false, decide_true, decide_false, Qb, Qc, Qd, Qe, Qf, Qg, Qh, Qi, Qj, Qk, Ql, Qm, Qn, Qo, Qp, rb0, rb1, rb2, rb3, rb4, tf0, tf1, tf2, tf3, tf4, e5]
    refine runB_dec (fun hc => ?_) (fun hc => ?_)
    · simp only [↓reduceIte, reduceCtorEq, Za, Zb, Zc, Zd, Ze, Zf, Zg, Zh, Zi, Zj, Zk, Zl, Zm, Zn, Zo, Zp, Zq, Zr, Zs, Zt, Zu, Zv, gval, Zw, Zx, Zy, Zz, ZA, ZB, ZC, ZD, ZE, ZF, decide_eq_true_eq, ZG, ZH, ZI, ZJ, ZK, ZL, ZM, ZN, ZO, ZP, ZQ, ZR, ZS, Option.some.injEq, exists_eq_left', ZT, ZU, ZV, ZW, ZX, ZY, true_and, and_true, true_or, or_true, false_or, or_false, ite_true, ite_false, cond_true, cond_false, ZZ, Qa, if_true, if_false, decide_true, decide_false, Qb, Qc, Qd, Qe, Qf, Qg, Qh, Qi, Qj, Qk, Ql, Qm, Qn, Qo, Qp, rb0, rb1, rb2, rb3, rb4, tf0, tf1, tf2, tf3, tf4, e5]
      refine run_draw (ps := []) (by kernel_rfl) (by kernel_rfl) ?_
      simp only [↓reduceIte, reduceCtorEq, Za, Zb, Zc, Zd, Ze, Zf, Zg, Zh, Zi, Zj, Zk, Zl, Zm, Zn, Zo, Zp, Zq, Zr, Zs, Zt, Zu, Zv, gval, Zw, Zx, Zy, Zz, ZA, ZB, ZC, ZD, ZE, ZF, decide_eq_true_eq, ZG, ZH, ZI, ZJ, ZK, ZL, ZM, ZN, ZO, ZP, ZQ, ZR, ZS, Option.some.injEq, exists_eq_left', ZT, ZU, ZV, ZW, ZX, ZY, true_and, and_true, true_or, or_true, false_or, or_false, ite_true, ite_false, cond_true, cond_false, ZZ, Qa, if_true, if_false, decide_true, decide_false, Qb, Qc, Qd, Qe, Qf, Qg, Qh, Qi, Qj, Qk, Ql, Qm, Qn, Qo, Qp, rb0, rb1, rb2, rb3, rb4, tf0, tf1, tf2, tf3, tf4, e1]
      refine runCR_of (fresh_spec h1 fun h2 hn2 hk2 => ?_)
      have hg2 : h2.get h.nx = some (cellsB (repeatL freshL i ++ repeatL (freshI 0) (8 - i)) .exact) := by rw [hk2 _ hnx, hg]
      have hlen : (repeatL freshL i ++ repeatL (freshI 0) (8 - i)).length = 160 := by
        rw [List.length_append, length_repeatL, length_repeatL, zl, fl]; omega
      have hov : overL (repeatL freshL i ++ repeatL (freshI 0) (8 - i)) (i * 20) freshL = repeatL freshL (i + 1) ++ repeatL (freshI 0) (8 - (i + 1)) := by
        have := overL_repeat freshL (freshI 0) i (7 - i) rfl
        rw [zl] at this
        rw [show 8 - i = 7 - i + 1 by omega, this, show 8 - (i + 1) = 7 - i by omega]
      simp (disch := omega) only [↓reduceIte, reduceCtorEq, Za, Zb, Zc, Zd, Ze, Zf, Zg, Zh, Zi, Zj, Zk, Zl, Zm, Zn, Zo, Zp, Zq, Zr, Zs, Zt, Zu, Zv, gval, Zw, Zx, Zy, Zz, ZA, ZB, ZC, ZD, ZE, ZF, decide_eq_true_eq, ZG, ZH, ZI, ZJ, ZK, ZL, ZM, ZN, ZO, ZP, ZQ, ZR, ZS, Option.some.injEq, exists_eq_left', ZT, ZU, ZV, ZW, ZX, ZY, true_and, and_true, true_or, or_true, false_or, or_false, ite_true, ite_false, cond_true, cond_false, ZZ, Qa, if_true, if_false, decide_true, decide_false, Qb, Qc, Qd, Qe, Qf, Qg, Qh, Qi, Qj, Qk, Ql, Qm, Qn, Qo, Qp, rb0, rb1, rb2, rb3, rb4, tf0, tf1, tf2, tf3, tf4, e1, e5, if_pos, hg2, hlen, fl, hov, wrapI, stX_exactN]
      refine ih _ _ _ ?_ ⟨i + 1, rfl, by omega, ?_, ?_, ?_, ?_, ?_⟩
      · omega
      · simp (disch := (first | omega | rfl | (simp only [Heap.nx_upd, Heap.nx_new]; omega))) only [Heap.get_upd_ne, Heap.get_new_ne, Heap.get_new_at, Heap.get_upd_same, Heap.get_new_same, Heap.nx_upd, Heap.nx_new]
        omega
      · simp (disch := (first | omega | rfl | (simp only [Heap.nx_upd, Heap.nx_new]; omega))) only [Heap.get_upd_ne, Heap.get_new_ne, Heap.get_new_at, Heap.get_upd_same, Heap.get_new_same, Heap.nx_upd, Heap.nx_new]
      · intro b hb
        simp (disch := (first | omega | rfl | (simp only [Heap.nx_upd, Heap.nx_new]; omega))) only [Heap.get_upd_ne, Heap.get_new_ne, Heap.get_new_at, Heap.get_upd_same, Heap.get_new_same, Heap.nx_upd, Heap.nx_new]
        rw [hk2 b (by omega), hk b hb]
      · simp only [↓reduceIte, reduceCtorEq, Za, Zb, Zc, Zd, Ze, Zf, Zg, Zh, Zi, Zj, Zk, Zl, Zm, Zn, Zo, Zp, Zq, Zr, Zs, Zt, Zu, Zv, gval, Zw, Zx, Zy, Zz, ZA, ZB, ZC, ZD, ZE, ZF, decide_eq_true_eq, ZG, ZH, ZI, ZJ, ZK, ZL, ZM, ZN, ZO, ZP, ZQ, ZR, ZS, Option.some.injEq, exists_eq_left', ZT, ZU, ZV, ZW, ZX, ZY, true_and, and_true, true_or, or_true, false_or, or_false, ite_true, ite_false, cond_true, cond_false, ZZ, Qa, if_true, if_false, decide_true, decide_false, Qb, Qc, Qd, Qe, Qf, Qg, Qh, Qi, Qj, Qk, Ql, Qm, Qn, Qo, Qp, rb0, rb1, rb2, rb3, rb4, tf0, tf1, tf2, tf3, tf4, e1]
      · simp only [↓reduceIte, reduceCtorEq, Za, Zb, Zc, Zd, Ze, Zf, Zg, Zh, Zi, Zj, Zk, Zl, Zm, Zn, Zo, Zp, Zq, Zr, Zs, Zt, Zu, Zv, gval, Zw, Zx, Zy, Zz, ZA, ZB, ZC, ZD, ZE, ZF, decide_eq_true_eq, ZG, ZH, ZI, ZJ, ZK, ZL, ZM, ZN, ZO, ZP, ZQ, ZR, ZS, Option.some.injEq, exists_eq_left', ZT, ZU, ZV, ZW, ZX, ZY, true_and, and_true, true_or, or_true, false_or, or_false, ite_true, ite_false, cond_true, cond_false, ZZ, Qa, if_true, if_false, decide_true, decide_false, Qb, Qc, Qd, Qe, Qf, Qg, Qh, Qi, Qj, Qk, Ql, Qm, Qn, Qo, Qp, rb0, rb1, rb2, rb3, rb4, tf0, tf1, tf2, tf3, tf4]
        rfl
    · have : i = 8 := by omega
      subst this
      simp (disch := omega) only [↓reduceIte, reduceCtorEq, Za, Zb, Zc, Zd, Ze, Zf, Zg, Zh, Zi, Zj, Zk, Zl, Zm, Zn, Zo, Zp, Zq, Zr, Zs, Zt, Zu, Zv, gval, Zw, Zx, Zy, Zz, ZA, ZB, ZC, ZD, ZE, ZF, decide_eq_true_eq, ZG, ZH, ZI, ZJ, ZK, ZL, ZM, ZN, ZO, ZP, ZQ, ZR, ZS, Option.some.injEq, exists_eq_left', ZT, ZU, ZV, ZW, ZX, ZY, true_and, and_true, true_or, or_true, false_or, or_false, ite_true, ite_false, cond_true, cond_false, ZZ, Qa, if_true, if_false, decide_true, decide_false, Qb, Qc, Qd, Qe, Qf, Qg, Qh, Qi, Qj, Qk, Ql, Qm, Qn, Qo, Qp, rb0, rb1, rb2, rb3, rb4, tf0, tf1, tf2, tf3, tf4, e1]
      refine hR _ _ (Nat.le_refl _) hnx ?_ hk
      rw [hg]
      show some (cellsB (repeatL freshL 8 ++ []) .exact) = _
      rw [List.append_nil]
  · refine ⟨0, rfl, by omega, ?_, ?_, ?_, ?_, ?_⟩
    · simp (disch := (first | omega | rfl | (simp only [Heap.nx_upd, Heap.nx_new]; omega))) only [Heap.get_upd_ne, Heap.get_new_ne, Heap.get_new_at, Heap.get_upd_same, Heap.get_new_same, Heap.nx_upd, Heap.nx_new]
      omega
    · simp (disch := (first | omega | rfl | (simp only [Heap.nx_upd, Heap.nx_new]; omega))) only [Heap.get_upd_ne, Heap.get_new_ne, Heap.get_new_at, Heap.get_upd_same, Heap.get_new_same, Heap.nx_upd, Heap.nx_new]
      rfl
    · intro b hb
      simp (disch := (first | omega | rfl | (simp only [Heap.nx_upd, Heap.nx_new]; omega))) only [Heap.get_upd_ne, Heap.get_new_ne, Heap.get_new_at, Heap.get_upd_same, Heap.get_new_same, Heap.nx_upd, Heap.nx_new]
    · simp only [↓reduceIte, reduceCtorEq, Za, Zb, Zc, Zd, Ze, Zf, Zg, Zh, Zi, Zj, Zk, Zl, Zm, Zn, Zo, Zp, Zq, Zr, Zs, Zt, Zu, Zv, gval, Zw, Zx, Zy, Zz, ZA, ZB, ZC, ZD, ZE, ZF, decide_eq_true_eq, ZG, ZH, ZI, ZJ, ZK, ZL, ZM, ZN, ZO, ZP, ZQ, ZR, ZS, Option.some.injEq, exists_eq_left', ZT, ZU, ZV, ZW, ZX, ZY, true_and, and_true, true_or, or_true, false_or, or_false, ite_true, ite_false, cond_true, cond_false, ZZ, Qa, if_true, if_false, decide_true, decide_false, Qb, Qc, Qd, Qe, Qf, Qg, Qh, Qi, Qj, Qk, Ql, Qm, Qn, Qo, Qp, rb0, rb1, rb2, rb3, rb4, tf0, tf1, tf2, tf3, tf4]
    · simp only [↓reduceIte, reduceCtorEq, Za, Zb, Zc, Zd, Ze, Zf, Zg, Zh, Zi, Zj, Zk, Zl, Zm, Zn, Zo, Zp, Zq, Zr, Zs, Zt, Zu, Zv, gval, Zw, Zx, Zy, Zz, ZA, ZB, ZC, ZD, ZE, ZF, decide_eq_true_eq, ZG, ZH, ZI, ZJ, ZK, ZL, ZM, ZN, ZO, ZP, ZQ, ZR, ZS, Option.some.injEq, exists_eq_left', ZT, ZU, ZV, ZW, ZX, ZY, true_and, and_true, true_or, or_true, false_or, or_false, ite_true, ite_false, cond_true, cond_false, ZZ, Qa, if_true, if_false, decide_true, decide_false, Qb, Qc, Qd, Qe, Qf, Qg, Qh, Qi, Qj, Qk, Ql, Qm, Qn, Qo, Qp, rb0, rb1, rb2, rb3, rb4, tf0, tf1, tf2, tf3, tf4]
end Go.Proofs.Ytmmjeifdgfolmaa
end
section
/- Signals: rows of words that are cloned; machines; Enter, Leave. Conditions: the cells that each rule names. -/
namespace Go.Proofs.Ytmmjeifdgfolmaa
open Go.AM
open Nat renaming reduceBEq → Za, reduceEqDiff → Zb, reduceAdd → Zc, reduceSub → Zd, reduceMul → Ze, reduceLT → Zf, reduceLeDiff → Zg, reduceDiv → Zh, reduceMod → Zi, reducePow → Zj, blt_eq → ZF, zero_add → Qc, add_zero → Qd
open Int renaming reduceAdd → Zk, reduceSub → Zl, reduceMul → Zm, reduceLT → Zn, reduceLE → Zo, reduceEq → Zp, reduceNe → Zq, reduceNeg → Zr, reduceToNat → Zs, reduceDiv → Zt, reduceMod → Zu, reducePow → Zv, cast_ofNat_Int → Zw, toNat_natCast → Qb
open List renaming set_cons_zero → Zx, set_cons_succ → Zy, map_toArray → Zz, cons_append → ZA, nil_append → ZB, append_nil → ZC, all_cons → ZD, all_nil → ZE, getElem?_cons_zero → ZJ, getElem?_cons_succ → ZK, length_cons → ZL, length_nil → ZM, map_cons → ZN, map_nil → ZO, isEmpty_nil → Qe, any_cons → Qf, any_nil → Qg, drop_zero → Qk, drop_succ_cons → Ql, take_succ_cons → Qm, take_zero → Qn, take_nil → Qo, drop_nil → Qp
open Bool renaming and_true → ZG, true_and → ZH, and_self → ZI, not_true → ZT, not_false → ZU, true_eq_false → ZZ, false_eq_true → Qa, or_false → Qh, false_or → Qi, and_eq_true → Qj
open Option renaming map_some → ZP, map_none → ZQ, bind_some → ZR, getD_some → ZS, isNone_some → ZV, isNone_none → ZW, isSome_some → ZX, isSome_none → ZY
set_option linter.unusedSimpArgs false
variable {sp : Special} {h : Heap} {R : Out → Heap → Prop}
/-- a row of words. -/
structure Words (h : Heap) (lo : Nat) (v : Value) (l : List Int) : Prop where
  is : ∃ a c, v = .slice a l.length c ∧ (l.length = 0 ∨ ∃ b off X k, (lo ≤ b ∧ b < h.nx) ∧ a = some ⟨b, off, none⟩ ∧ h.get b = some (cellsB X k) ∧ off + l.length ≤ X.length ∧ ∀ i, i < l.length → X[off + i]? = (l[i]?).map (.int .u64 ·))
theorem Words.keep {h' : Heap} {lo lo' : Nat} {v : Value} {l : List Int} (x : Words h lo v l) (hlo : lo' ≤ lo) (hn : h.nx ≤ h'.nx) (hk : ∀ b, lo ≤ b → b < h.nx → h'.get b = h.get b) : Words h' lo' v l := by
  obtain ⟨a, c, rfl, hx⟩ := x.is
  refine ⟨a, c, rfl, ?_⟩
  rcases hx with hx | ⟨b, off, X, k, h1, h2, h3, h4, h5⟩
  · exact .inl hx
  · exact .inr ⟨b, off, X, k, by omega, h2, (hk b h1.1 h1.2).trans h3, h4, h5⟩
set_option maxRecDepth 100000 in
theorem clone_spec (h1 : (sp 56).isNone = true) {v : Value} {l : List Int} {lo : Nat} (hv : Words h lo v l) (hl : l.length ≤ 1000000)
    (hR : ∀ h' v', h.nx ≤ h'.nx → (∀ b, b < h.nx → h'.get b = h.get b) → Words h' h.nx v' l → (∃ a c, v' = .slice a l.length c) → R (.ret v') h') : WF Try.prog 0 sp 56 [v] h R := by
  refine wf_fn (fn := Try.f56) h1 rfl (by kernel_rfl) rfl ?_
  obtain ⟨a, c, rfl, hx⟩ := hv.is
  simp only [↓reduceIte, reduceCtorEq, Za, Zb, Zc, Zd, Ze, Zf, Zg, Zh, Zi, Zj, Zk, Zl, Zm, Zn, Zo, Zp, Zq, Zr, Zs, Zt, Zu, Zv, gval, Zw, Zx, Zy, Zz, ZA, ZB, ZC, ZD, ZE, ZF, decide_eq_true_eq, ZG, ZH, ZI, ZJ, ZK, ZL, ZM, ZN, ZO, ZP, ZQ, ZR, ZS, Option.some.injEq, exists_eq_left', ZT, ZU, ZV, ZW, ZX, ZY, true_and, and_true, true_or, or_true, false_or, or_false, ite_true, ite_false, cond_true, cond_false, ZZ, Qa, if_true, if_false, decide_true, decide_false, Qb, Qc, Qd, Qe, Qf, Qg, Qh, Qi, Qj, Qk, Ql, Qm, Qn, Qo, Qp, rb0, rb1, rb2, rb3, rb4, tf0, tf1, tf2, tf3, tf4, Try.f56]
  cases a with
  | none =>
    have hz : l.length = 0 := by
      rcases hx with hx | ⟨b, off, X, k, h1, h2, h3, h4, h5⟩
      · exact hx
      · cases h2
    simp only [↓reduceIte, reduceCtorEq, Za, Zb, Zc, Zd, Ze, Zf, Zg, Zh, Zi, Zj, Zk, Zl, Zm, Zn, Zo, Zp, Zq, Zr, Zs, Zt, Zu, Zv, gval, Zw, Zx, Zy, Zz, ZA, ZB, ZC, ZD, ZE, ZF, decide_eq_true_eq, ZG, ZH, ZI, ZJ, ZK, ZL, ZM, ZN, ZO, ZP, ZQ, ZR, ZS, Option.some.injEq, exists_eq_left', ZT, ZU, ZV, ZW, ZX, ZY, true_and, and_true, true_or, or_true, false_or, or_false, ite_true, ite_false, cond_true, cond_false, ZZ, Qa, if_true, if_false, decide_true, decide_false, Qb, Qc, Qd, Qe, Qf, Qg, Qh, Qi, Qj, Qk, Ql, Qm, Qn, Qo, Qp, rb0, rb1, rb2, rb3, rb4, tf0, tf1, tf2, tf3, tf4]
    refine hR h _ (Nat.le_refl _) (fun b _ => rfl) ⟨none, 0, by rw [hz], .inl hz⟩ ⟨none, 0, by rw [hz]⟩
  | some a =>
    simp only [↓reduceIte, reduceCtorEq, Za, Zb, Zc, Zd, Ze, Zf, Zg, Zh, Zi, Zj, Zk, Zl, Zm, Zn, Zo, Zp, Zq, Zr, Zs, Zt, Zu, Zv, gval, Zw, Zx, Zy, Zz, ZA, ZB, ZC, ZD, ZE, ZF, decide_eq_true_eq, ZG, ZH, ZI, ZJ, ZK, ZL, ZM, ZN, ZO, ZP, ZQ, ZR, ZS, Option.some.injEq, exists_eq_left', ZT, ZU, ZV, ZW, ZX, ZY, true_and, and_true, true_or, or_true, false_or, or_false, ite_true, ite_false, cond_true, cond_false, ZZ, Qa, if_true, if_false, decide_true, decide_false, Qb, Qc, Qd, Qe, Qf, Qg, Qh, Qi, Qj, Qk, Ql, Qm, Qn, Qo, Qp, rb0, rb1, rb2, rb3, rb4, tf0, tf1, tf2, tf3, tf4]
    by_cases hz : l.length = 0
    · have hn : (h.new (cellsB [] .exact)).get h.nx = some (cellsB [] .exact) := Heap.get_new_same _ _
      rw [hz, aAppend_empty0 app_47_47 _ _ _ hn rfl (firstL_zero _ _ _ _ _) rfl]
      simp only [↓reduceIte, reduceCtorEq, Za, Zb, Zc, Zd, Ze, Zf, Zg, Zh, Zi, Zj, Zk, Zl, Zm, Zn, Zo, Zp, Zq, Zr, Zs, Zt, Zu, Zv, gval, Zw, Zx, Zy, Zz, ZA, ZB, ZC, ZD, ZE, ZF, decide_eq_true_eq, ZG, ZH, ZI, ZJ, ZK, ZL, ZM, ZN, ZO, ZP, ZQ, ZR, ZS, Option.some.injEq, exists_eq_left', ZT, ZU, ZV, ZW, ZX, ZY, true_and, and_true, true_or, or_true, false_or, or_false, ite_true, ite_false, cond_true, cond_false, ZZ, Qa, if_true, if_false, decide_true, decide_false, Qb, Qc, Qd, Qe, Qf, Qg, Qh, Qi, Qj, Qk, Ql, Qm, Qn, Qo, Qp, rb0, rb1, rb2, rb3, rb4, tf0, tf1, tf2, tf3, tf4]
      refine hR _ _ ?_ (fun b hb => ?_) ⟨some ⟨h.nx, 0, none⟩, 0, by rw [hz], .inl hz⟩ ⟨some ⟨h.nx, 0, none⟩, 0, by rw [hz]⟩
      · simp (disch := (first | omega | rfl | (simp only [Heap.nx_upd, Heap.nx_new]; omega))) only [Heap.get_upd_ne, Heap.get_new_ne, Heap.get_new_at, Heap.get_upd_same, Heap.get_new_same, Heap.nx_upd, Heap.nx_new]; omega
      · simp (disch := (first | omega | rfl | (simp only [Heap.nx_upd, Heap.nx_new]; omega))) only [Heap.get_upd_ne, Heap.get_new_ne, Heap.get_new_at, Heap.get_upd_same, Heap.get_new_same, Heap.nx_upd, Heap.nx_new]
    · rcases hx with hx | ⟨b, off, X, k, g1, g2, g3, g4, g5⟩
      · omega
      cases g2
      have hb : (h.new (cellsB [] .exact)).get b = some (cellsB X k) := by simp (disch := (first | omega | rfl | (simp only [Heap.nx_upd, Heap.nx_new]; omega))) only [Heap.get_upd_ne, Heap.get_new_ne, Heap.get_new_at, Heap.get_upd_same, Heap.get_new_same, Heap.nx_upd, Heap.nx_new]; exact g3
      have hn : (h.new (cellsB [] .exact)).get h.nx = some (cellsB [] .exact) := Heap.get_new_same _ _
      rw [aAppend_empty app_47_47 l.length _ _ _ hn rfl hz (by omega) (firstL_slc _ _ _ _ _ _ _ _ _ hb (by omega))]
      simp only [↓reduceIte, reduceCtorEq, Za, Zb, Zc, Zd, Ze, Zf, Zg, Zh, Zi, Zj, Zk, Zl, Zm, Zn, Zo, Zp, Zq, Zr, Zs, Zt, Zu, Zv, gval, Zw, Zx, Zy, Zz, ZA, ZB, ZC, ZD, ZE, ZF, decide_eq_true_eq, ZG, ZH, ZI, ZJ, ZK, ZL, ZM, ZN, ZO, ZP, ZQ, ZR, ZS, Option.some.injEq, exists_eq_left', ZT, ZU, ZV, ZW, ZX, ZY, true_and, and_true, true_or, or_true, false_or, or_false, ite_true, ite_false, cond_true, cond_false, ZZ, Qa, if_true, if_false, decide_true, decide_false, Qb, Qc, Qd, Qe, Qf, Qg, Qh, Qi, Qj, Qk, Ql, Qm, Qn, Qo, Qp, rb0, rb1, rb2, rb3, rb4, tf0, tf1, tf2, tf3, tf4]
      refine hR _ _ ?_ (fun b hb => ?_) ⟨some ⟨h.nx + 1, 0, none⟩, l.length, rfl, .inr ⟨h.nx + 1, 0, (X.drop off).take l.length, .loose 1, ?_, rfl, ?_, ?_, fun i hi => ?_⟩⟩ ⟨_, _, rfl⟩
      · simp (disch := (first | omega | rfl | (simp only [Heap.nx_upd, Heap.nx_new]; omega))) only [Heap.get_upd_ne, Heap.get_new_ne, Heap.get_new_at, Heap.get_upd_same, Heap.get_new_same, Heap.nx_upd, Heap.nx_new]; omega
      · simp (disch := (first | omega | rfl | (simp only [Heap.nx_upd, Heap.nx_new]; omega))) only [Heap.get_upd_ne, Heap.get_new_ne, Heap.get_new_at, Heap.get_upd_same, Heap.get_new_same, Heap.nx_upd, Heap.nx_new]
      · simp (disch := (first | omega | rfl | (simp only [Heap.nx_upd, Heap.nx_new]; omega))) only [Heap.get_upd_ne, Heap.get_new_ne, Heap.get_new_at, Heap.get_upd_same, Heap.get_new_same, Heap.nx_upd, Heap.nx_new]; omega
      · rw [Nat.mul_one]
        exact Heap.get_new_same _ _
      · rw [List.length_take, List.length_drop]; omega
      · rw [List.getElem?_take, if_pos (by omega), List.getElem?_drop, ← g5 i hi]
        congr 1
        omega
theorem OneAt.setSaved {L : List Value} {o : Nat} {H : Nat → Int} {p : Nat} {inn : Bool} {pc : Int} {stk : Value} (x : OneAt L o H p inn pc stk) (i' : Bool) (pc' : Int) (v' : Value) : OneAt (overL (L.set (o + 17) (.bool i')) (o + 18) [.int .i64 pc', v']) o H p i' pc' v' := by
  have hl := x.len
  have hs : (L.set (o + 17) (.bool i')).length = L.length := List.length_set
  have hg : ∀ j, (overL (L.set (o + 17) (.bool i')) (o + 18) [.int .i64 pc', v'])[j]? = if o + 18 ≤ j ∧ j < o + 18 + 2 then [.int .i64 pc', v'][j - (o + 18)]? else if j = o + 17 then some (.bool i') else L[j]? := by
    intro j
    rw [overC_get (by simp only [List.length_cons, List.length_nil]; omega), set_get (by omega)]
    rfl
  refine ⟨fun k hk => ?_, ?_, ?_, ?_, ?_, x.lt⟩
  · rw [hg, if_neg (by omega), if_neg (by omega)]; exact x.hd k hk
  · rw [hg, if_neg (by omega), if_neg (by omega)]; exact x.pend
  · rw [hg, if_neg (by omega), if_pos rfl]
  · rw [hg, if_pos (by omega), Nat.sub_self]; rfl
  · rw [hg, if_pos (by omega), show o + 19 - (o + 18) = 1 by omega]; rfl
set_option maxRecDepth 100000 in
theorem fit_spec (h1 : (sp 28).isNone = true) {pc : Int} {a : Option Addr} {n c : Nat} (hR : ∀ h', h.nx ≤ h'.nx → (∀ b, b < h.nx → h'.get b = h.get b) → R (.ret (.bool (decide (0 ≤ pc ∧ pc ≤ 1048576 ∧ n ≤ 32)))) h') :
    WF Try.prog 0 sp 28 [.agg #[.int .i64 pc, .slice a n c]] h R := by
  refine wf_fn (fn := Try.f28) h1 rfl (by kernel_rfl) rfl ?_
  have hg : (h.new (cellsB [.int .i64 pc, .slice a n c] .exact)).get h.nx = some (cellsB [.int .i64 pc, .slice a n c] .exact) := Heap.get_new_same _ _
  have hk : ∀ b, b < h.nx → (h.new (cellsB [.int .i64 pc, .slice a n c] .exact)).get b = h.get b := fun b hb => by simp (disch := (first | omega | rfl | (simp only [Heap.nx_upd, Heap.nx_new]; omega))) only [Heap.get_upd_ne, Heap.get_new_ne, Heap.get_new_at, Heap.get_upd_same, Heap.get_new_same, Heap.nx_upd, Heap.nx_new]
  have hn : h.nx ≤ (h.new (cellsB [.int .i64 pc, .slice a n c] .exact)).nx := by simp (disch := (first | omega | rfl | (simp only [Heap.nx_upd, Heap.nx_new]; omega))) only [Heap.get_upd_ne, Heap.get_new_ne, Heap.get_new_at, Heap.get_upd_same, Heap.get_new_same, Heap.nx_upd, Heap.nx_new]; omega
  have key : ∀ t : Bool, t = decide (0 ≤ pc ∧ pc ≤ 1048576 ∧ n ≤ 32) → R (.ret (.bool t)) (h.new (cellsB [.int .i64 pc, .slice a n c] .exact)) := fun t ht => ht ▸ hR _ hn hk
  by_cases c1 : 0 ≤ pc
  · by_cases c2 : pc ≤ 1048576
    · simp only [↓reduceIte, reduceCtorEq, Za, Zb, Zc, Zd, Ze, Zf, Zg, Zh, Zi, Zj, Zk, Zl, Zm, Zn, Zo, Zp, Zq, Zr, Zs, Zt, Zu, Zv, gval, Zw, Zx, Zy, Zz, ZA, ZB, ZC, ZD, ZE, ZF, decide_eq_true_eq, ZG, ZH, ZI, ZJ, ZK, ZL, ZM, ZN, ZO, ZP, ZQ, ZR, ZS, Option.some.injEq, exists_eq_left', ZT, ZU, ZV, ZW, ZX, ZY, true_and, and_true, true_or, or_true, false_or, or_false, ite_true, ite_false, cond_true, cond_false, ZZ, Qa, if_true, if_false, decide_true, decide_false, Qb, Qc, Qd, Qe, Qf, Qg, Qh, Qi, Qj, Qk, Ql, Qm, Qn, Qo, Qp, rb0, rb1, rb2, rb3, rb4, tf0, tf1, tf2, tf3, tf4, Try.f28, hg, c1, c2]
      refine key _ ?_
      simp only [c1, c2, true_and, decide_eq_decide]
      omega
    · simp only [↓reduceIte, reduceCtorEq, Za, Zb, Zc, Zd, Ze, Zf, Zg, Zh, Zi, Zj, Zk, Zl, Zm, Zn, Zo, Zp, Zq, Zr, Zs, Zt, Zu, Zv, gval, Zw, Zx, Zy, Zz, ZA, ZB, ZC, ZD, ZE, ZF, decide_eq_true_eq, ZG, ZH, ZI, ZJ, ZK, ZL, ZM, ZN, ZO, ZP, ZQ, ZR, ZS, Option.some.injEq, exists_eq_left', ZT, ZU, ZV, ZW, ZX, ZY, true_and, and_true, true_or, or_true, false_or, or_false, ite_true, ite_false, cond_true, cond_false, ZZ, Qa, if_true, if_false, decide_true, decide_false, Qb, Qc, Qd, Qe, Qf, Qg, Qh, Qi, Qj, Qk, Ql, Qm, Qn, Qo, Qp, rb0, rb1, rb2, rb3, rb4, tf0, tf1, tf2, tf3, tf4, Try.f28, hg, c1, c2]
      exact key _ (by simp [c2])
  · simp only [↓reduceIte, reduceCtorEq, Za, Zb, Zc, Zd, Ze, Zf, Zg, Zh, Zi, Zj, Zk, Zl, Zm, Zn, Zo, Zp, Zq, Zr, Zs, Zt, Zu, Zv, gval, Zw, Zx, Zy, Zz, ZA, ZB, ZC, ZD, ZE, ZF, decide_eq_true_eq, ZG, ZH, ZI, ZJ, ZK, ZL, ZM, ZN, ZO, ZP, ZQ, ZR, ZS, Option.some.injEq, exists_eq_left', ZT, ZU, ZV, ZW, ZX, ZY, true_and, and_true, true_or, or_true, false_or, or_false, ite_true, ite_false, cond_true, cond_false, ZZ, Qa, if_true, if_false, decide_true, decide_false, Qb, Qc, Qd, Qe, Qf, Qg, Qh, Qi, Qj, Qk, Ql, Qm, Qn, Qo, Qp, rb0, rb1, rb2, rb3, rb4, tf0, tf1, tf2, tf3, tf4, Try.f28, hg, c1]
    exact key _ (by simp [c1])
set_option maxRecDepth 100000 in
theorem enter_spec (h1 : (sp 29).isNone = true) (h2 : (sp 52).isNone = true) (h3 : (sp 56).isNone = true) {b : Nat} {L : List Value} {H : Nat → Int} {p : Nat} {inn : Bool} {pc0 pc : Int} {stk v : Value} {l : List Int} {pid : Int} (hp : 1 ≤ pid ∧ pid ≤ 8) (hb : h.get b = some (cellsB L .exact)) (hbn : b < h.nx)
    (x : OneAt L ((pid - 1).toNat * 20) H p inn pc0 stk) {lo : Nat} (hv : Words h lo v l) (hl : l.length ≤ 1000000)
    (hin : inn = true → ∀ h', h.nx ≤ h'.nx → (∀ b, b < h.nx → h'.get b = h.get b) → R (.ret (.int .i64 22)) h')
    (hok : inn = false → ∀ h' L' v', h.nx ≤ h'.nx → (∀ b', b' < h.nx → b' ≠ b → h'.get b' = h.get b') → h'.get b = some (cellsB L' .exact) → L'.length = L.length → OneAt L' ((pid - 1).toNat * 20) H p true pc v' → (∀ j, (j < (pid - 1).toNat * 20 ∨ (pid - 1).toNat * 20 + 20 ≤ j) → L'[j]? = L[j]?) → Words h' h.nx v' l → (∃ a c, v' = .slice a l.length c) → R (.ret (.int .i64 0)) h') :
    WF Try.prog 0 sp 29 [.pointer (some ⟨b, 0, none⟩), .int .i64 pid, .agg #[.int .i64 pc, v]] h R := by
  refine wf_fn (fn := Try.f29) h1 rfl (by kernel_rfl) rfl ?_
  simp only [↓reduceIte, reduceCtorEq, Za, Zb, Zc, Zd, Ze, Zf, Zg, Zh, Zi, Zj, Zk, Zl, Zm, Zn, Zo, Zp, Zq, Zr, Zs, Zt, Zu, Zv, gval, Zw, Zx, Zy, Zz, ZA, ZB, ZC, ZD, ZE, ZF, decide_eq_true_eq, ZG, ZH, ZI, ZJ, ZK, ZL, ZM, ZN, ZO, ZP, ZQ, ZR, ZS, Option.some.injEq, exists_eq_left', ZT, ZU, ZV, ZW, ZX, ZY, true_and, and_true, true_or, or_true, false_or, or_false, ite_true, ite_false, cond_true, cond_false, ZZ, Qa, if_true, if_false, decide_true, decide_false, Qb, Qc, Qd, Qe, Qf, Qg, Qh, Qi, Qj, Qk, Ql, Qm, Qn, Qo, Qp, rb0, rb1, rb2, rb3, rb4, tf0, tf1, tf2, tf3, tf4, Try.f29]
  refine runC_of (at_spec h2 hp ?_)
  have hlen := x.len
  generalize ho : (pid - 1).toNat * 20 = o at *
  obtain ⟨a, c, rfl, hx⟩ := hv.is
  have hbx : (h.new (cellsB [.int .i64 pc, .slice a l.length c] .exact)).get b = some (cellsB L .exact) := by simp (disch := (first | omega | rfl | (simp only [Heap.nx_upd, Heap.nx_new]; omega))) only [Heap.get_upd_ne, Heap.get_new_ne, Heap.get_new_at, Heap.get_upd_same, Heap.get_new_same, Heap.nx_upd, Heap.nx_new]; exact hb
  have hgx : (h.new (cellsB [.int .i64 pc, .slice a l.length c] .exact)).get h.nx = some (cellsB [.int .i64 pc, .slice a l.length c] .exact) := Heap.get_new_same _ _
  simp only [↓reduceIte, reduceCtorEq, Za, Zb, Zc, Zd, Ze, Zf, Zg, Zh, Zi, Zj, Zk, Zl, Zm, Zn, Zo, Zp, Zq, Zr, Zs, Zt, Zu, Zv, gval, Zw, Zx, Zy, Zz, ZA, ZB, ZC, ZD, ZE, ZF, decide_eq_true_eq, ZG, ZH, ZI, ZJ, ZK, ZL, ZM, ZN, ZO, ZP, ZQ, ZR, ZS, Option.some.injEq, exists_eq_left', ZT, ZU, ZV, ZW, ZX, ZY, true_and, and_true, true_or, or_true, false_or, or_false, ite_true, ite_false, cond_true, cond_false, ZZ, Qa, if_true, if_false, decide_true, decide_false, Qb, Qc, Qd, Qe, Qf, Qg, Qh, Qi, Qj, Qk, Ql, Qm, Qn, Qo, Qp, rb0, rb1, rb2, rb3, rb4, tf0, tf1, tf2, tf3, tf4, hbx, x.inn]
  refine runB_bool (fun ci => ?_) (fun ci => ?_)
  · simp only [↓reduceIte, reduceCtorEq, Za, Zb, Zc, Zd, Ze, Zf, Zg, Zh, Zi, Zj, Zk, Zl, Zm, Zn, Zo, Zp, Zq, Zr, Zs, Zt, Zu, Zv, gval, Zw, Zx, Zy, Zz, ZA, ZB, ZC, ZD, ZE, ZF, decide_eq_true_eq, ZG, ZH, ZI, ZJ, ZK, ZL, ZM, ZN, ZO, ZP, ZQ, ZR, ZS, Option.some.injEq, exists_eq_left', ZT, ZU, ZV, ZW, ZX, ZY, true_and, and_true, true_or, or_true, false_or, or_false, ite_true, ite_false, cond_true, cond_false, ZZ, Qa, if_true, if_false, decide_true, decide_false, Qb, Qc, Qd, Qe, Qf, Qg, Qh, Qi, Qj, Qk, Ql, Qm, Qn, Qo, Qp, rb0, rb1, rb2, rb3, rb4, tf0, tf1, tf2, tf3, tf4]
    exact hin ci _ (by simp (disch := (first | omega | rfl | (simp only [Heap.nx_upd, Heap.nx_new]; omega))) only [Heap.get_upd_ne, Heap.get_new_ne, Heap.get_new_at, Heap.get_upd_same, Heap.get_new_same, Heap.nx_upd, Heap.nx_new]; omega) (fun b' hb' => by simp (disch := (first | omega | rfl | (simp only [Heap.nx_upd, Heap.nx_new]; omega))) only [Heap.get_upd_ne, Heap.get_new_ne, Heap.get_new_at, Heap.get_upd_same, Heap.get_new_same, Heap.nx_upd, Heap.nx_new])
  · simp only [↓reduceIte, reduceCtorEq, Za, Zb, Zc, Zd, Ze, Zf, Zg, Zh, Zi, Zj, Zk, Zl, Zm, Zn, Zo, Zp, Zq, Zr, Zs, Zt, Zu, Zv, gval, Zw, Zx, Zy, Zz, ZA, ZB, ZC, ZD, ZE, ZF, decide_eq_true_eq, ZG, ZH, ZI, ZJ, ZK, ZL, ZM, ZN, ZO, ZP, ZQ, ZR, ZS, Option.some.injEq, exists_eq_left', ZT, ZU, ZV, ZW, ZX, ZY, true_and, and_true, true_or, or_true, false_or, or_false, ite_true, ite_false, cond_true, cond_false, ZZ, Qa, if_true, if_false, decide_true, decide_false, Qb, Qc, Qd, Qe, Qf, Qg, Qh, Qi, Qj, Qk, Ql, Qm, Qn, Qo, Qp, rb0, rb1, rb2, rb3, rb4, tf0, tf1, tf2, tf3, tf4]
    refine run_draw (ps := [(3, 6), (3, 10), (7, 10)]) (by kernel_rfl) (by kernel_rfl) ?_
    simp only [↓reduceIte, reduceCtorEq, Za, Zb, Zc, Zd, Ze, Zf, Zg, Zh, Zi, Zj, Zk, Zl, Zm, Zn, Zo, Zp, Zq, Zr, Zs, Zt, Zu, Zv, gval, Zw, Zx, Zy, Zz, ZA, ZB, ZC, ZD, ZE, ZF, decide_eq_true_eq, ZG, ZH, ZI, ZJ, ZK, ZL, ZM, ZN, ZO, ZP, ZQ, ZR, ZS, Option.some.injEq, exists_eq_left', ZT, ZU, ZV, ZW, ZX, ZY, true_and, and_true, true_or, or_true, false_or, or_false, ite_true, ite_false, cond_true, cond_false, ZZ, Qa, if_true, if_false, decide_true, decide_false, Qb, Qc, Qd, Qe, Qf, Qg, Qh, Qi, Qj, Qk, Ql, Qm, Qn, Qo, Qp, rb0, rb1, rb2, rb3, rb4, tf0, tf1, tf2, tf3, tf4, hgx]
    refine runCR_of (clone_spec h3 (hv.keep (Nat.le_refl _) (by simp (disch := (first | omega | rfl | (simp only [Heap.nx_upd, Heap.nx_new]; omega))) only [Heap.get_upd_ne, Heap.get_new_ne, Heap.get_new_at, Heap.get_upd_same, Heap.get_new_same, Heap.nx_upd, Heap.nx_new]; omega) (fun b' _ hb' => by simp (disch := (first | omega | rfl | (simp only [Heap.nx_upd, Heap.nx_new]; omega))) only [Heap.get_upd_ne, Heap.get_new_ne, Heap.get_new_at, Heap.get_upd_same, Heap.get_new_same, Heap.nx_upd, Heap.nx_new])) hl fun h' v' hn hk hw hs => ?_)
    obtain ⟨a', c', rfl⟩ := hs
    have hn' : h.nx + 1 ≤ h'.nx := hn
    have hb' : h'.get b = some (cellsB L .exact) := (hk b (by show b < h.nx + 1; omega)).trans hbx
    have hg' : h'.get h.nx = some (cellsB [.int .i64 pc, .slice a l.length c] .exact) := (hk h.nx (by show h.nx < h.nx + 1; omega)).trans hgx
    have hll : (L.set (o + 17) (.bool true)).length = L.length := List.length_set
    simp (disch := omega) only [↓reduceIte, reduceCtorEq, Za, Zb, Zc, Zd, Ze, Zf, Zg, Zh, Zi, Zj, Zk, Zl, Zm, Zn, Zo, Zp, Zq, Zr, Zs, Zt, Zu, Zv, gval, Zw, Zx, Zy, Zz, ZA, ZB, ZC, ZD, ZE, ZF, decide_eq_true_eq, ZG, ZH, ZI, ZJ, ZK, ZL, ZM, ZN, ZO, ZP, ZQ, ZR, ZS, Option.some.injEq, exists_eq_left', ZT, ZU, ZV, ZW, ZX, ZY, true_and, and_true, true_or, or_true, false_or, or_false, ite_true, ite_false, cond_true, cond_false, ZZ, Qa, if_true, if_false, decide_true, decide_false, Qb, Qc, Qd, Qe, Qf, Qg, Qh, Qi, Qj, Qk, Ql, Qm, Qn, Qo, Qp, rb0, rb1, rb2, rb3, rb4, tf0, tf1, tf2, tf3, tf4, hb', hg', hll, if_pos, stX_exactN, overL_one, nbeq_ne]
    refine hok ci _ _ _ ?_ (fun b' h1 h2 => ?_) (Heap.get_upd_same _ _ _) ?_ (x.setSaved true pc _) (fun j hj => ?_) (hw.keep (by show h.nx ≤ h.nx + 1; omega) (Nat.le_refl _) fun b' h1 h2 => ?_) ⟨_, _, rfl⟩
    · show h.nx ≤ h'.nx; omega
    · rw [Heap.get_upd_ne _ _ h2, hk b' (by show b' < h.nx + 1; omega)]
      simp (disch := (first | omega | rfl | (simp only [Heap.nx_upd, Heap.nx_new]; omega))) only [Heap.get_upd_ne, Heap.get_new_ne, Heap.get_new_at, Heap.get_upd_same, Heap.get_new_same, Heap.nx_upd, Heap.nx_new]
    · rw [length_overC (by simp only [List.length_set, List.length_cons, List.length_nil]; omega), List.length_set]
    · rw [overC_get (by simp only [List.length_set, List.length_cons, List.length_nil]; omega)]
      simp only [List.length_cons, List.length_nil]
      rw [if_neg (by omega), set_get (by omega), if_neg (by omega)]
    · have h1 : h.nx + 1 ≤ b' := h1
      rw [Heap.get_upd_ne _ _ (by omega)]
end Go.Proofs.Ytmmjeifdgfolmaa
end
section
/- Signals: Leave; two machines alike. Conditions: the cells that each rule names. -/
namespace Go.Proofs.Ytmmjeifdgfolmaa
open Go.AM
open Nat renaming reduceBEq → Za, reduceEqDiff → Zb, reduceAdd → Zc, reduceSub → Zd, reduceMul → Ze, reduceLT → Zf, reduceLeDiff → Zg, reduceDiv → Zh, reduceMod → Zi, reducePow → Zj, blt_eq → ZF, zero_add → Qc, add_zero → Qd
open Int renaming reduceAdd → Zk, reduceSub → Zl, reduceMul → Zm, reduceLT → Zn, reduceLE → Zo, reduceEq → Zp, reduceNe → Zq, reduceNeg → Zr, reduceToNat → Zs, reduceDiv → Zt, reduceMod → Zu, reducePow → Zv, cast_ofNat_Int → Zw, toNat_natCast → Qb
open List renaming set_cons_zero → Zx, set_cons_succ → Zy, map_toArray → Zz, cons_append → ZA, nil_append → ZB, append_nil → ZC, all_cons → ZD, all_nil → ZE, getElem?_cons_zero → ZJ, getElem?_cons_succ → ZK, length_cons → ZL, length_nil → ZM, map_cons → ZN, map_nil → ZO, isEmpty_nil → Qe, any_cons → Qf, any_nil → Qg, drop_zero → Qk, drop_succ_cons → Ql, take_succ_cons → Qm, take_zero → Qn, take_nil → Qo, drop_nil → Qp
open Bool renaming and_true → ZG, true_and → ZH, and_self → ZI, not_true → ZT, not_false → ZU, true_eq_false → ZZ, false_eq_true → Qa, or_false → Qh, false_or → Qi, and_eq_true → Qj
open Option renaming map_some → ZP, map_none → ZQ, bind_some → ZR, getD_some → ZS, isNone_some → ZV, isNone_none → ZW, isSome_some → ZX, isSome_none → ZY
set_option linter.unusedSimpArgs false
variable {sp : Special} {h : Heap} {R : Out → Heap → Prop}
theorem take_two {L : List Value} {i : Nat} {u v : Value} (h1 : L[i]? = some u) (h2 : L[i + 1]? = some v) : (L.drop i).take 2 = [u, v] := by
  apply List.ext_getElem?
  intro j
  match j with
  | 0 => rw [List.getElem?_take, if_pos (by omega), List.getElem?_drop]; exact h1
  | 1 => rw [List.getElem?_take, if_pos (by omega), List.getElem?_drop]; exact h2
  | j + 2 => rw [List.getElem?_take, if_neg (by omega)]; rfl
set_option maxRecDepth 100000 in
theorem leave_spec (h1 : (sp 30).isNone = true) (h2 : (sp 52).isNone = true) {b : Nat} {L : List Value} {H : Nat → Int} {p : Nat} {inn : Bool} {pc : Int} {stk : Value} {pid : Int} (hp : 1 ≤ pid ∧ pid ≤ 8) (hb : h.get b = some (cellsB L .exact)) (hbn : b < h.nx)
    (x : OneAt L ((pid - 1).toNat * 20) H p inn pc stk)
    (hno : inn = false → ∀ h', h.nx ≤ h'.nx → (∀ b, b < h.nx → h'.get b = h.get b) → R (.ret (.tuple #[.agg #[.int .i64 0, .slice none 0 0], .int .i64 22])) h')
    (hok : inn = true → ∀ h' L', h.nx ≤ h'.nx → (∀ b', b' < h.nx → b' ≠ b → h'.get b' = h.get b') → h'.get b = some (cellsB L' .exact) → L'.length = L.length → OneAt L' ((pid - 1).toNat * 20) H p false 0 (.slice none 0 0) → (∀ j, (j < (pid - 1).toNat * 20 ∨ (pid - 1).toNat * 20 + 20 ≤ j) → L'[j]? = L[j]?) → R (.ret (.tuple #[.agg #[.int .i64 pc, stk], .int .i64 0])) h') :
    WF Try.prog 0 sp 30 [.pointer (some ⟨b, 0, none⟩), .int .i64 pid] h R := by
  refine wf_fn (fn := Try.f30) h1 rfl (by kernel_rfl) rfl ?_
  simp only [↓reduceIte, reduceCtorEq, Za, Zb, Zc, Zd, Ze, Zf, Zg, Zh, Zi, Zj, Zk, Zl, Zm, Zn, Zo, Zp, Zq, Zr, Zs, Zt, Zu, Zv, gval, Zw, Zx, Zy, Zz, ZA, ZB, ZC, ZD, ZE, ZF, decide_eq_true_eq, ZG, ZH, ZI, ZJ, ZK, ZL, ZM, ZN, ZO, ZP, ZQ, ZR, ZS, Option.some.injEq, exists_eq_left', ZT, ZU, ZV, ZW, ZX, ZY, true_and, and_true, true_or, or_true, false_or, or_false, ite_true, ite_false, cond_true, cond_false, ZZ, Qa, if_true, if_false, decide_true, decide_false, Qb, Qc, Qd, Qe, Qf, Qg, Qh, Qi, Qj, Qk, Ql, Qm, Qn, Qo, Qp, rb0, rb1, rb2, rb3, rb4, tf0, tf1, tf2, tf3, tf4, Try.f30]
  refine runC_of (at_spec h2 hp ?_)
  have hlen := x.len
  generalize ho : (pid - 1).toNat * 20 = o at *
  have hb1 : (h.new (cellsB [.int .i64 0, .slice none 0 0] .exact)).get b = some (cellsB L .exact) := by simp (disch := (first | omega | rfl | (simp only [Heap.nx_upd, Heap.nx_new]; omega))) only [Heap.get_upd_ne, Heap.get_new_ne, Heap.get_new_at, Heap.get_upd_same, Heap.get_new_same, Heap.nx_upd, Heap.nx_new]; exact hb
  have hg1 : (h.new (cellsB [.int .i64 0, .slice none 0 0] .exact)).get h.nx = some (cellsB [.int .i64 0, .slice none 0 0] .exact) := Heap.get_new_same _ _
  simp only [↓reduceIte, reduceCtorEq, Za, Zb, Zc, Zd, Ze, Zf, Zg, Zh, Zi, Zj, Zk, Zl, Zm, Zn, Zo, Zp, Zq, Zr, Zs, Zt, Zu, Zv, gval, Zw, Zx, Zy, Zz, ZA, ZB, ZC, ZD, ZE, ZF, decide_eq_true_eq, ZG, ZH, ZI, ZJ, ZK, ZL, ZM, ZN, ZO, ZP, ZQ, ZR, ZS, Option.some.injEq, exists_eq_left', ZT, ZU, ZV, ZW, ZX, ZY, true_and, and_true, true_or, or_true, false_or, or_false, ite_true, ite_false, cond_true, cond_false, ZZ, Qa, if_true, if_false, decide_true, decide_false, Qb, Qc, Qd, Qe, Qf, Qg, Qh, Qi, Qj, Qk, Ql, Qm, Qn, Qo, Qp, rb0, rb1, rb2, rb3, rb4, tf0, tf1, tf2, tf3, tf4, hb1, x.inn]
  refine runB_bool (fun ci => ?_) (fun ci => ?_)
  · simp only [↓reduceIte, reduceCtorEq, Za, Zb, Zc, Zd, Ze, Zf, Zg, Zh, Zi, Zj, Zk, Zl, Zm, Zn, Zo, Zp, Zq, Zr, Zs, Zt, Zu, Zv, gval, Zw, Zx, Zy, Zz, ZA, ZB, ZC, ZD, ZE, ZF, decide_eq_true_eq, ZG, ZH, ZI, ZJ, ZK, ZL, ZM, ZN, ZO, ZP, ZQ, ZR, ZS, Option.some.injEq, exists_eq_left', ZT, ZU, ZV, ZW, ZX, ZY, true_and, and_true, true_or, or_true, false_or, or_false, ite_true, ite_false, cond_true, cond_false, ZZ, Qa, if_true, if_false, decide_true, decide_false, Qb, Qc, Qd, Qe, Qf, Qg, Qh, Qi, Qj, Qk, Ql, Qm, Qn, Qo, Qp, rb0, rb1, rb2, rb3, rb4, tf0, tf1, tf2, tf3, tf4, hg1, stX_exactN]
    refine hno (by simpa using ci) _ (by simp (disch := (first | omega | rfl | (simp only [Heap.nx_upd, Heap.nx_new]; omega))) only [Heap.get_upd_ne, Heap.get_new_ne, Heap.get_new_at, Heap.get_upd_same, Heap.get_new_same, Heap.nx_upd, Heap.nx_new]; omega) (fun b' hb' => by simp (disch := (first | omega | rfl | (simp only [Heap.nx_upd, Heap.nx_new]; omega))) only [Heap.get_upd_ne, Heap.get_new_ne, Heap.get_new_at, Heap.get_upd_same, Heap.get_new_same, Heap.nx_upd, Heap.nx_new])
  · have ht := take_two x.pc x.stk
    have hll : (L.set (o + 17) (.bool false)).length = L.length := List.length_set
    simp (disch := (first | omega | rfl | (simp only [Heap.nx_upd, Heap.nx_new]; omega))) only [↓reduceIte, reduceCtorEq, Za, Zb, Zc, Zd, Ze, Zf, Zg, Zh, Zi, Zj, Zk, Zl, Zm, Zn, Zo, Zp, Zq, Zr, Zs, Zt, Zu, Zv, gval, Zw, Zx, Zy, Zz, ZA, ZB, ZC, ZD, ZE, ZF, decide_eq_true_eq, ZG, ZH, ZI, ZJ, ZK, ZL, ZM, ZN, ZO, ZP, ZQ, ZR, ZS, Option.some.injEq, exists_eq_left', ZT, ZU, ZV, ZW, ZX, ZY, true_and, and_true, true_or, or_true, false_or, or_false, ite_true, ite_false, cond_true, cond_false, ZZ, Qa, if_true, if_false, decide_true, decide_false, Qb, Qc, Qd, Qe, Qf, Qg, Qh, Qi, Qj, Qk, Ql, Qm, Qn, Qo, Qp, rb0, rb1, rb2, rb3, rb4, tf0, tf1, tf2, tf3, tf4, Heap.get_upd_ne, Heap.get_new_ne, Heap.get_new_at, overL_one, if_pos, stX_exactN, hb1, hb, ht, hll]
    refine hok (by simpa using ci) _ _ ?_ (fun b' h1 h2 => ?_) ?_ ?_ (x.setSaved false 0 (.slice none 0 0)) (fun j hj => ?_)
    · simp (disch := (first | omega | rfl | (simp only [Heap.nx_upd, Heap.nx_new]; omega))) only [Heap.get_upd_ne, Heap.get_new_ne, Heap.get_new_at, Heap.get_upd_same, Heap.get_new_same, Heap.nx_upd, Heap.nx_new]; omega
    · simp (disch := (first | omega | rfl | (simp only [Heap.nx_upd, Heap.nx_new]; omega))) only [Heap.get_upd_ne, Heap.get_new_ne, Heap.get_new_at, Heap.get_upd_same, Heap.get_new_same, Heap.nx_upd, Heap.nx_new]
    · simp (disch := (first | omega | rfl | (simp only [Heap.nx_upd, Heap.nx_new]; omega))) only [Heap.get_upd_ne, Heap.get_new_ne, Heap.get_new_at, Heap.get_upd_same, Heap.get_new_same, Heap.nx_upd, Heap.nx_new]
    · rw [length_overC (by simp only [List.length_set, List.length_cons, List.length_nil]; omega), List.length_set]
    · rw [overC_get (by simp only [List.length_set, List.length_cons, List.length_nil]; omega)]
      simp only [List.length_cons, List.length_nil]
      rw [if_neg (by omega), set_get (by omega), if_neg (by omega)]
theorem Words.at {lo : Nat} {a : Option Addr} {n c : Nat} {l : List Int} (x : Words h lo (.slice a n c) l) {i : Nat} (hi : i < l.length) : ∃ b off X k y, (lo ≤ b ∧ b < h.nx) ∧ a = some ⟨b, off, none⟩ ∧ h.get b = some (cellsB X k) ∧ X[off + i]? = some (.int .u64 y) ∧ l[i]? = some y := by
  obtain ⟨a', c', he, hx⟩ := x.is
  cases he
  rcases hx with hx | ⟨b, off, X, k, g1, g2, g3, g4, g5⟩
  · omega
  · obtain ⟨y, hy⟩ : ∃ y, l[i]? = some y := ⟨_, List.getElem?_eq_getElem hi⟩
    exact ⟨b, off, X, k, y, g1, g2, g3, by rw [g5 i hi, hy]; rfl, hy⟩
set_option maxRecDepth 100000 in
theorem same_spec (h1 : (sp 31).isNone = true) {lo lo' : Nat} {pc : Int} {v w : Value} {l : List Int} (hv : Words h lo v l) (hw : Words h lo' w l) (hl : l.length ≤ 1000000)
    (hR : ∀ h', h.nx ≤ h'.nx → (∀ b, b < h.nx → h'.get b = h.get b) → R (.ret (.bool true)) h') : WF Try.prog 0 sp 31 [.agg #[.int .i64 pc, v], .agg #[.int .i64 pc, w]] h R := by
  refine wf_fn (fn := Try.f31) h1 rfl (by kernel_rfl) rfl ?_
  obtain ⟨a1, c1, rfl, _⟩ := hv.is
  obtain ⟨a2, c2, rfl, _⟩ := hw.is
  simp (disch := (first | omega | rfl | (simp only [Heap.nx_upd, Heap.nx_new]; omega))) only [↓reduceIte, reduceCtorEq, Za, Zb, Zc, Zd, Ze, Zf, Zg, Zh, Zi, Zj, Zk, Zl, Zm, Zn, Zo, Zp, Zq, Zr, Zs, Zt, Zu, Zv, gval, Zw, Zx, Zy, Zz, ZA, ZB, ZC, ZD, ZE, ZF, decide_eq_true_eq, ZG, ZH, ZI, ZJ, ZK, ZL, ZM, ZN, ZO, ZP, ZQ, ZR, ZS, Option.some.injEq, exists_eq_left', ZT, ZU, ZV, ZW, ZX, ZY, true_and, and_true, true_or, or_true, false_or, or_false, ite_true, ite_false, cond_true, cond_false, ZZ, Qa, if_true, if_false, decide_true, decide_false, Qb, Qc, Qd, Qe, Qf, Qg, Qh, Qi, Qj, Qk, Ql, Qm, Qn, Qo, Qp, rb0, rb1, rb2, rb3, rb4, tf0, tf1, tf2, tf3, tf4, Heap.get_upd_ne, Heap.get_new_ne, Heap.get_new_at, overL_one, if_pos, stX_exactN, Try.f31]
  generalize hH : (h.new (cellsB [.int .i64 pc, .slice a1 l.length c1] .exact)).new (cellsB [.int .i64 pc, .slice a2 l.length c2] .exact) = H
  have hn : H.nx = h.nx + 2 := by subst hH; rfl
  have hk : ∀ b, b < h.nx → H.get b = h.get b := fun b hb => by subst hH; simp (disch := (first | omega | rfl | (simp only [Heap.nx_upd, Heap.nx_new]; omega))) only [Heap.get_upd_ne, Heap.get_new_ne, Heap.get_new_at, Heap.get_upd_same, Heap.get_new_same, Heap.nx_upd, Heap.nx_new]
  have hg1 : H.get h.nx = some (cellsB [.int .i64 pc, .slice a1 l.length c1] .exact) := by subst hH; simp (disch := (first | omega | rfl | (simp only [Heap.nx_upd, Heap.nx_new]; omega))) only [Heap.get_upd_ne, Heap.get_new_ne, Heap.get_new_at, Heap.get_upd_same, Heap.get_new_same, Heap.nx_upd, Heap.nx_new]
  have hg2 : H.get (h.nx + 1) = some (cellsB [.int .i64 pc, .slice a2 l.length c2] .exact) := by subst hH; simp (disch := (first | omega | rfl | (simp only [Heap.nx_upd, Heap.nx_new]; omega))) only [Heap.get_upd_ne, Heap.get_new_ne, Heap.get_new_at, Heap.get_upd_same, Heap.get_new_same, Heap.nx_upd, Heap.nx_new]
  have hv' := hv.keep (h' := H) (Nat.le_refl _) (by omega) (fun b _ hb => hk b hb)
  have hw' := hw.keep (h' := H) (Nat.le_refl _) (by omega) (fun b _ hb => hk b hb)
  clear hH
  refine run_loop2 rfl (fun n e h2 => ∃ i : Nat, n = l.length - i ∧ i ≤ l.length ∧ h2 = H ∧ e.at 2 = .pointer (some ⟨h.nx, 0, none⟩) ∧ e.at 3 = .pointer (some ⟨h.nx + 1, 0, none⟩) ∧ e.at 5 = .int .i64 i)
    (fun ex e h2 => ex = .exit 0 ∧ h2 = H) ?_ l.length _ _ ?_ ?_
  · rintro n e h2 ⟨i, rfl, hi, rfl, e2, e3, e5⟩ Q' hQn hQx
    by_cases hc : i < l.length
    · have hc1 : (i : Int) < (l.length : Int) := by omega
      obtain ⟨b1, o1, X1, k1, y, _, rfl, x1, x2, x3⟩ := hv'.at hc
      obtain ⟨b2, o2, X2, k2, y', _, rfl, z1, z2, z3⟩ := hw'.at hc
      have : y' = y := by rw [x3] at z3; exact (Option.some.inj z3).symm
      subst this
      simp (disch := (first | omega | rfl | (simp only [Heap.nx_upd, Heap.nx_new]; omega))) only [↓reduceIte, reduceCtorEq, Za, Zb, Zc, Zd, Ze, Zf, Zg, Zh, Zi, Zj, Zk, Zl, Zm, Zn, Zo, Zp, Zq, Zr, Zs, Zt, Zu, Zv, gval, Zw, Zx, Zy, Zz, ZA, ZB, ZC, ZD, ZE, ZF, decide_eq_true_eq, ZG, ZH, ZI, ZJ, ZK, ZL, ZM, ZN, ZO, ZP, ZQ, ZR, ZS, Option.some.injEq, exists_eq_left', ZT, ZU, ZV, ZW, ZX, ZY, true_and, and_true, true_or, or_true, false_or, or_false, ite_true, ite_false, cond_true, cond_false, ZZ, Qa, if_true, if_false, decide_true, decide_false, Qb, Qc, Qd, Qe, Qf, Qg, Qh, Qi, Qj, Qk, Ql, Qm, Qn, Qo, Qp, rb0, rb1, rb2, rb3, rb4, tf0, tf1, tf2, tf3, tf4, Heap.get_upd_ne, Heap.get_new_ne, Heap.get_new_at, overL_one, if_pos, stX_exactN, e2, e3, e5, hg1, hg2, hc1]
      refine run_draw (ps := []) (by kernel_rfl) (by kernel_rfl) ?_
      simp (disch := (first | omega | rfl | (simp only [Heap.nx_upd, Heap.nx_new]; omega))) only [↓reduceIte, reduceCtorEq, Za, Zb, Zc, Zd, Ze, Zf, Zg, Zh, Zi, Zj, Zk, Zl, Zm, Zn, Zo, Zp, Zq, Zr, Zs, Zt, Zu, Zv, gval, Zw, Zx, Zy, Zz, ZA, ZB, ZC, ZD, ZE, ZF, decide_eq_true_eq, ZG, ZH, ZI, ZJ, ZK, ZL, ZM, ZN, ZO, ZP, ZQ, ZR, ZS, Option.some.injEq, exists_eq_left', ZT, ZU, ZV, ZW, ZX, ZY, true_and, and_true, true_or, or_true, false_or, or_false, ite_true, ite_false, cond_true, cond_false, ZZ, Qa, if_true, if_false, decide_true, decide_false, Qb, Qc, Qd, Qe, Qf, Qg, Qh, Qi, Qj, Qk, Ql, Qm, Qn, Qo, Qp, rb0, rb1, rb2, rb3, rb4, tf0, tf1, tf2, tf3, tf4, Heap.get_upd_ne, Heap.get_new_ne, Heap.get_new_at, overL_one, if_pos, stX_exactN, e2, e3, e5, hg1, hg2, hc1, x1, x2, z1, z2, Nat.mul_one, wrapI]
      refine hQn _ _ _ ?_ ⟨i + 1, rfl, by omega, rfl, ?_, ?_, ?_⟩
      · omega
      · simp only [↓reduceIte, reduceCtorEq, Za, Zb, Zc, Zd, Ze, Zf, Zg, Zh, Zi, Zj, Zk, Zl, Zm, Zn, Zo, Zp, Zq, Zr, Zs, Zt, Zu, Zv, gval, Zw, Zx, Zy, Zz, ZA, ZB, ZC, ZD, ZE, ZF, decide_eq_true_eq, ZG, ZH, ZI, ZJ, ZK, ZL, ZM, ZN, ZO, ZP, ZQ, ZR, ZS, Option.some.injEq, exists_eq_left', ZT, ZU, ZV, ZW, ZX, ZY, true_and, and_true, true_or, or_true, false_or, or_false, ite_true, ite_false, cond_true, cond_false, ZZ, Qa, if_true, if_false, decide_true, decide_false, Qb, Qc, Qd, Qe, Qf, Qg, Qh, Qi, Qj, Qk, Ql, Qm, Qn, Qo, Qp, rb0, rb1, rb2, rb3, rb4, tf0, tf1, tf2, tf3, tf4, e2]
      · simp only [↓reduceIte, reduceCtorEq, Za, Zb, Zc, Zd, Ze, Zf, Zg, Zh, Zi, Zj, Zk, Zl, Zm, Zn, Zo, Zp, Zq, Zr, Zs, Zt, Zu, Zv, gval, Zw, Zx, Zy, Zz, ZA, ZB, ZC, ZD, ZE, ZF, decide_eq_true_eq, ZG, ZH, ZI, ZJ, ZK, ZL, ZM, ZN, ZO, ZP, ZQ, ZR, ZS, Option.some.injEq, exists_eq_left', ZT, ZU, ZV, ZW, ZX, ZY, true_and, and_true, true_or, or_true, false_or, or_false, ite_true, ite_false, cond_true, cond_false, ZZ, Qa, if_true, if_false, decide_true, decide_false, Qb, Qc, Qd, Qe, Qf, Qg, Qh, Qi, Qj, Qk, Ql, Qm, Qn, Qo, Qp, rb0, rb1, rb2, rb3, rb4, tf0, tf1, tf2, tf3, tf4, e3]
      · simp only [↓reduceIte, reduceCtorEq, Za, Zb, Zc, Zd, Ze, Zf, Zg, Zh, Zi, Zj, Zk, Zl, Zm, Zn, Zo, Zp, Zq, Zr, Zs, Zt, Zu, Zv, gval, Zw, Zx, Zy, Zz, ZA, ZB, ZC, ZD, ZE, ZF, decide_eq_true_eq, ZG, ZH, ZI, ZJ, ZK, ZL, ZM, ZN, ZO, ZP, ZQ, ZR, ZS, Option.some.injEq, exists_eq_left', ZT, ZU, ZV, ZW, ZX, ZY, true_and, and_true, true_or, or_true, false_or, or_false, ite_true, ite_false, cond_true, cond_false, ZZ, Qa, if_true, if_false, decide_true, decide_false, Qb, Qc, Qd, Qe, Qf, Qg, Qh, Qi, Qj, Qk, Ql, Qm, Qn, Qo, Qp, rb0, rb1, rb2, rb3, rb4, tf0, tf1, tf2, tf3, tf4]
        rfl
    · have hc1 : ¬ (i : Int) < (l.length : Int) := by omega
      simp (disch := (first | omega | rfl | (simp only [Heap.nx_upd, Heap.nx_new]; omega))) only [↓reduceIte, reduceCtorEq, Za, Zb, Zc, Zd, Ze, Zf, Zg, Zh, Zi, Zj, Zk, Zl, Zm, Zn, Zo, Zp, Zq, Zr, Zs, Zt, Zu, Zv, gval, Zw, Zx, Zy, Zz, ZA, ZB, ZC, ZD, ZE, ZF, decide_eq_true_eq, ZG, ZH, ZI, ZJ, ZK, ZL, ZM, ZN, ZO, ZP, ZQ, ZR, ZS, Option.some.injEq, exists_eq_left', ZT, ZU, ZV, ZW, ZX, ZY, true_and, and_true, true_or, or_true, false_or, or_false, ite_true, ite_false, cond_true, cond_false, ZZ, Qa, if_true, if_false, decide_true, decide_false, Qb, Qc, Qd, Qe, Qf, Qg, Qh, Qi, Qj, Qk, Ql, Qm, Qn, Qo, Qp, rb0, rb1, rb2, rb3, rb4, tf0, tf1, tf2, tf3, tf4, Heap.get_upd_ne, Heap.get_new_ne, Heap.get_new_at, overL_one, if_pos, stX_exactN, e2, e3, e5, hg1, hg2, hc1]
      exact hQx _ _ _ (by simp) ⟨rfl, rfl⟩
  · refine ⟨0, rfl, by omega, rfl, ?_, ?_, ?_⟩
    · simp only [↓reduceIte, reduceCtorEq, Za, Zb, Zc, Zd, Ze, Zf, Zg, Zh, Zi, Zj, Zk, Zl, Zm, Zn, Zo, Zp, Zq, Zr, Zs, Zt, Zu, Zv, gval, Zw, Zx, Zy, Zz, ZA, ZB, ZC, ZD, ZE, ZF, decide_eq_true_eq, ZG, ZH, ZI, ZJ, ZK, ZL, ZM, ZN, ZO, ZP, ZQ, ZR, ZS, Option.some.injEq, exists_eq_left', ZT, ZU, ZV, ZW, ZX, ZY, true_and, and_true, true_or, or_true, false_or, or_false, ite_true, ite_false, cond_true, cond_false, ZZ, Qa, if_true, if_false, decide_true, decide_false, Qb, Qc, Qd, Qe, Qf, Qg, Qh, Qi, Qj, Qk, Ql, Qm, Qn, Qo, Qp, rb0, rb1, rb2, rb3, rb4, tf0, tf1, tf2, tf3, tf4]
    · simp only [↓reduceIte, reduceCtorEq, Za, Zb, Zc, Zd, Ze, Zf, Zg, Zh, Zi, Zj, Zk, Zl, Zm, Zn, Zo, Zp, Zq, Zr, Zs, Zt, Zu, Zv, gval, Zw, Zx, Zy, Zz, ZA, ZB, ZC, ZD, ZE, ZF, decide_eq_true_eq, ZG, ZH, ZI, ZJ, ZK, ZL, ZM, ZN, ZO, ZP, ZQ, ZR, ZS, Option.some.injEq, exists_eq_left', ZT, ZU, ZV, ZW, ZX, ZY, true_and, and_true, true_or, or_true, false_or, or_false, ite_true, ite_false, cond_true, cond_false, ZZ, Qa, if_true, if_false, decide_true, decide_false, Qb, Qc, Qd, Qe, Qf, Qg, Qh, Qi, Qj, Qk, Ql, Qm, Qn, Qo, Qp, rb0, rb1, rb2, rb3, rb4, tf0, tf1, tf2, tf3, tf4]
    · simp only [↓reduceIte, reduceCtorEq, Za, Zb, Zc, Zd, Ze, Zf, Zg, Zh, Zi, Zj, Zk, Zl, Zm, Zn, Zo, Zp, Zq, Zr, Zs, Zt, Zu, Zv, gval, Zw, Zx, Zy, Zz, ZA, ZB, ZC, ZD, ZE, ZF, decide_eq_true_eq, ZG, ZH, ZI, ZJ, ZK, ZL, ZM, ZN, ZO, ZP, ZQ, ZR, ZS, Option.some.injEq, exists_eq_left', ZT, ZU, ZV, ZW, ZX, ZY, true_and, and_true, true_or, or_true, false_or, or_false, ite_true, ite_false, cond_true, cond_false, ZZ, Qa, if_true, if_false, decide_true, decide_false, Qb, Qc, Qd, Qe, Qf, Qg, Qh, Qi, Qj, Qk, Ql, Qm, Qn, Qo, Qp, rb0, rb1, rb2, rb3, rb4, tf0, tf1, tf2, tf3, tf4]
  · rintro ex e h2 - ⟨rfl, rfl⟩
    simp only [↓reduceIte, reduceCtorEq, Za, Zb, Zc, Zd, Ze, Zf, Zg, Zh, Zi, Zj, Zk, Zl, Zm, Zn, Zo, Zp, Zq, Zr, Zs, Zt, Zu, Zv, gval, Zw, Zx, Zy, Zz, ZA, ZB, ZC, ZD, ZE, ZF, decide_eq_true_eq, ZG, ZH, ZI, ZJ, ZK, ZL, ZM, ZN, ZO, ZP, ZQ, ZR, ZS, Option.some.injEq, exists_eq_left', ZT, ZU, ZV, ZW, ZX, ZY, true_and, and_true, true_or, or_true, false_or, or_false, ite_true, ite_false, cond_true, cond_false, ZZ, Qa, if_true, if_false, decide_true, decide_false, Qb, Qc, Qd, Qe, Qf, Qg, Qh, Qi, Qj, Qk, Ql, Qm, Qn, Qo, Qp, rb0, rb1, rb2, rb3, rb4, tf0, tf1, tf2, tf3, tf4]
    exact hR _ (by omega) hk
end Go.Proofs.Ytmmjeifdgfolmaa
end
section
/- Words, one by one: the same? Conditions: both are rows of words. -/
namespace Go.Proofs.Ytmmjeifdgfolmaa
open Go.AM
open Nat renaming reduceBEq → Za, reduceEqDiff → Zb, reduceAdd → Zc, reduceSub → Zd, reduceMul → Ze, reduceLT → Zf, reduceLeDiff → Zg, reduceDiv → Zh, reduceMod → Zi, reducePow → Zj, blt_eq → ZF, zero_add → Qc, add_zero → Qd
open Int renaming reduceAdd → Zk, reduceSub → Zl, reduceMul → Zm, reduceLT → Zn, reduceLE → Zo, reduceEq → Zp, reduceNe → Zq, reduceNeg → Zr, reduceToNat → Zs, reduceDiv → Zt, reduceMod → Zu, reducePow → Zv, cast_ofNat_Int → Zw, toNat_natCast → Qb
open List renaming set_cons_zero → Zx, set_cons_succ → Zy, map_toArray → Zz, cons_append → ZA, nil_append → ZB, append_nil → ZC, all_cons → ZD, all_nil → ZE, getElem?_cons_zero → ZJ, getElem?_cons_succ → ZK, length_cons → ZL, length_nil → ZM, map_cons → ZN, map_nil → ZO, isEmpty_nil → Qe, any_cons → Qf, any_nil → Qg, drop_zero → Qk, drop_succ_cons → Ql, take_succ_cons → Qm, take_zero → Qn, take_nil → Qo, drop_nil → Qp
open Bool renaming and_true → ZG, true_and → ZH, and_self → ZI, not_true → ZT, not_false → ZU, true_eq_false → ZZ, false_eq_true → Qa, or_false → Qh, false_or → Qi, and_eq_true → Qj
open Option renaming map_some → ZP, map_none → ZQ, bind_some → ZR, getD_some → ZS, isNone_some → ZV, isNone_none → ZW, isSome_some → ZX, isSome_none → ZY
set_option linter.unusedSimpArgs false
variable {sp : Special} {h : Heap} {R : Out → Heap → Prop}
theorem lists_same {l l' : List Int} (hl : l.length = l'.length) (h : ∀ j, j < l.length → l[j]? = l'[j]?) : l = l' := by
  apply List.ext_getElem?
  intro j
  by_cases hj : j < l.length
  · exact h j hj
  · rw [List.getElem?_eq_none (by omega), List.getElem?_eq_none (by omega)]
set_option maxRecDepth 100000 in
theorem words_spec (h1 : (sp 35).isNone = true) {lo lo' : Nat} {v w : Value} {l l' : List Int} (hv : Words h lo v l) (hw : Words h lo' w l')
    (hR : ∀ b : Bool, (b = true ↔ l = l') → R (.ret (.bool b)) h) (hl : l.length ≤ 100000000) : WF Try.prog 0 sp 35 [v, w] h R := by
  refine wf_fn (fn := Try.f35) h1 rfl (by kernel_rfl) rfl ?_
  obtain ⟨a1, c1, rfl, _⟩ := hv.is
  obtain ⟨a2, c2, rfl, _⟩ := hw.is
  simp (disch := (first | omega | rfl | (simp only [Heap.nx_upd, Heap.nx_new]; omega))) only [↓reduceIte, reduceCtorEq, Za, Zb, Zc, Zd, Ze, Zf, Zg, Zh, Zi, Zj, Zk, Zl, Zm, Zn, Zo, Zp, Zq, Zr, Zs, Zt, Zu, Zv, gval, Zw, Zx, Zy, Zz, ZA, ZB, ZC, ZD, ZE, ZF, decide_eq_true_eq, ZG, ZH, ZI, ZJ, ZK, ZL, ZM, ZN, ZO, ZP, ZQ, ZR, ZS, Option.some.injEq, exists_eq_left', ZT, ZU, ZV, ZW, ZX, ZY, true_and, and_true, true_or, or_true, false_or, or_false, ite_true, ite_false, cond_true, cond_false, ZZ, Qa, if_true, if_false, decide_true, decide_false, Qb, Qc, Qd, Qe, Qf, Qg, Qh, Qi, Qj, Qk, Ql, Qm, Qn, Qo, Qp, rb0, rb1, rb2, rb3, rb4, tf0, tf1, tf2, tf3, tf4, Heap.get_upd_ne, Heap.get_new_ne, Heap.get_new_at, overL_one, if_pos, stX_exactN, Try.f35]
  refine runB_bool (fun hc => ?_) (fun hc => ?_)
  · simp only [↓reduceIte, reduceCtorEq, Za, Zb, Zc, Zd, Ze, Zf, Zg, Zh, Zi, Zj, Zk, Zl, Zm, Zn, Zo, Zp, Zq, Zr, Zs, Zt, Zu, Zv, gval, Zw, Zx, Zy, Zz, ZA, ZB, ZC, ZD, ZE, ZF, decide_eq_true_eq, ZG, ZH, ZI, ZJ, ZK, ZL, ZM, ZN, ZO, ZP, ZQ, ZR, ZS, Option.some.injEq, exists_eq_left', ZT, ZU, ZV, ZW, ZX, ZY, true_and, and_true, true_or, or_true, false_or, or_false, ite_true, ite_false, cond_true, cond_false, ZZ, Qa, if_true, if_false, decide_true, decide_false, Qb, Qc, Qd, Qe, Qf, Qg, Qh, Qi, Qj, Qk, Ql, Qm, Qn, Qo, Qp, rb0, rb1, rb2, rb3, rb4, tf0, tf1, tf2, tf3, tf4]
    exact hR false ⟨fun e => by simp at e, fun e => by subst e; simp at hc⟩
  · have hc : l.length = l'.length := by have : (l.length : Int) = l'.length := by simpa using hc
                                         omega
    simp only [↓reduceIte, reduceCtorEq, Za, Zb, Zc, Zd, Ze, Zf, Zg, Zh, Zi, Zj, Zk, Zl, Zm, Zn, Zo, Zp, Zq, Zr, Zs, Zt, Zu, Zv, gval, Zw, Zx, Zy, Zz, ZA, ZB, ZC, ZD, ZE, ZF, decide_eq_true_eq, ZG, ZH, ZI, ZJ, ZK, ZL, ZM, ZN, ZO, ZP, ZQ, ZR, ZS, Option.some.injEq, exists_eq_left', ZT, ZU, ZV, ZW, ZX, ZY, true_and, and_true, true_or, or_true, false_or, or_false, ite_true, ite_false, cond_true, cond_false, ZZ, Qa, if_true, if_false, decide_true, decide_false, Qb, Qc, Qd, Qe, Qf, Qg, Qh, Qi, Qj, Qk, Ql, Qm, Qn, Qo, Qp, rb0, rb1, rb2, rb3, rb4, tf0, tf1, tf2, tf3, tf4]
    refine run_loop2 rfl (fun n e h2 => ∃ i : Nat, n = l.length - i ∧ i ≤ l.length ∧ h2 = h ∧ e.at 0 = .slice a1 l.length c1 ∧ e.at 1 = .slice a2 l'.length c2 ∧ e.at 5 = .int .i64 i ∧ ∀ j, j < i → l[j]? = l'[j]?)
      (fun ex e h2 => h2 = h ∧ (((ex = .exit 0) ∧ l = l') ∨ (ex = .ret ∧ e.at 4 = .bool false ∧ l ≠ l'))) ?_ l.length _ _ ?_ ?_
    · rintro n e h2 ⟨i, rfl, hi, rfl, e0, e1, e5, hj⟩ Q' hQn hQx
      by_cases hc : i < l.length
      · have hc1 : (i : Int) < (l.length : Int) := by omega
        obtain ⟨b1, o1, X1, k1, y, _, rfl, x1, x2, x3⟩ := hv.at hc
        obtain ⟨b2, o2, X2, k2, y', _, rfl, z1, z2, z3⟩ := hw.at (i := i) (by omega)
        have hc2 : i < l'.length := by omega
        simp (disch := (first | omega | rfl | (simp only [Heap.nx_upd, Heap.nx_new]; omega))) only [↓reduceIte, reduceCtorEq, Za, Zb, Zc, Zd, Ze, Zf, Zg, Zh, Zi, Zj, Zk, Zl, Zm, Zn, Zo, Zp, Zq, Zr, Zs, Zt, Zu, Zv, gval, Zw, Zx, Zy, Zz, ZA, ZB, ZC, ZD, ZE, ZF, decide_eq_true_eq, ZG, ZH, ZI, ZJ, ZK, ZL, ZM, ZN, ZO, ZP, ZQ, ZR, ZS, Option.some.injEq, exists_eq_left', ZT, ZU, ZV, ZW, ZX, ZY, true_and, and_true, true_or, or_true, false_or, or_false, ite_true, ite_false, cond_true, cond_false, ZZ, Qa, if_true, if_false, decide_true, decide_false, Qb, Qc, Qd, Qe, Qf, Qg, Qh, Qi, Qj, Qk, Ql, Qm, Qn, Qo, Qp, rb0, rb1, rb2, rb3, rb4, tf0, tf1, tf2, tf3, tf4, Heap.get_upd_ne, Heap.get_new_ne, Heap.get_new_at, overL_one, if_pos, stX_exactN, e0, e1, e5, hc1]
        refine run_draw (ps := []) (by kernel_rfl) (by kernel_rfl) ?_
        simp (disch := (first | omega | rfl | (simp only [Heap.nx_upd, Heap.nx_new]; omega))) only [↓reduceIte, reduceCtorEq, Za, Zb, Zc, Zd, Ze, Zf, Zg, Zh, Zi, Zj, Zk, Zl, Zm, Zn, Zo, Zp, Zq, Zr, Zs, Zt, Zu, Zv, gval, Zw, Zx, Zy, Zz, ZA, ZB, ZC, ZD, ZE, ZF, decide_eq_true_eq, ZG, ZH, ZI, ZJ, ZK, ZL, ZM, ZN, ZO, ZP, ZQ, ZR, ZS, Option.some.injEq, exists_eq_left', ZT, ZU, ZV, ZW, ZX, ZY, true_and, and_true, true_or, or_true, false_or, or_false, ite_true, ite_false, cond_true, cond_false, ZZ, Qa, if_true, if_false, decide_true, decide_false, Qb, Qc, Qd, Qe, Qf, Qg, Qh, Qi, Qj, Qk, Ql, Qm, Qn, Qo, Qp, rb0, rb1, rb2, rb3, rb4, tf0, tf1, tf2, tf3, tf4, Heap.get_upd_ne, Heap.get_new_ne, Heap.get_new_at, overL_one, if_pos, stX_exactN, e0, e1, e5, hc1, hc2, x1, x2, z1, z2, Nat.mul_one, wrapI]
        refine runB_bool (fun hd => ?_) (fun hd => ?_)
        · simp only [↓reduceIte, reduceCtorEq, Za, Zb, Zc, Zd, Ze, Zf, Zg, Zh, Zi, Zj, Zk, Zl, Zm, Zn, Zo, Zp, Zq, Zr, Zs, Zt, Zu, Zv, gval, Zw, Zx, Zy, Zz, ZA, ZB, ZC, ZD, ZE, ZF, decide_eq_true_eq, ZG, ZH, ZI, ZJ, ZK, ZL, ZM, ZN, ZO, ZP, ZQ, ZR, ZS, Option.some.injEq, exists_eq_left', ZT, ZU, ZV, ZW, ZX, ZY, true_and, and_true, true_or, or_true, false_or, or_false, ite_true, ite_false, cond_true, cond_false, ZZ, Qa, if_true, if_false, decide_true, decide_false, Qb, Qc, Qd, Qe, Qf, Qg, Qh, Qi, Qj, Qk, Ql, Qm, Qn, Qo, Qp, rb0, rb1, rb2, rb3, rb4, tf0, tf1, tf2, tf3, tf4]
          refine hQx _ _ _ (by simp) ⟨rfl, .inr ⟨rfl, ?_, fun e => ?_⟩⟩
          · simp only [↓reduceIte, reduceCtorEq, Za, Zb, Zc, Zd, Ze, Zf, Zg, Zh, Zi, Zj, Zk, Zl, Zm, Zn, Zo, Zp, Zq, Zr, Zs, Zt, Zu, Zv, gval, Zw, Zx, Zy, Zz, ZA, ZB, ZC, ZD, ZE, ZF, decide_eq_true_eq, ZG, ZH, ZI, ZJ, ZK, ZL, ZM, ZN, ZO, ZP, ZQ, ZR, ZS, Option.some.injEq, exists_eq_left', ZT, ZU, ZV, ZW, ZX, ZY, true_and, and_true, true_or, or_true, false_or, or_false, ite_true, ite_false, cond_true, cond_false, ZZ, Qa, if_true, if_false, decide_true, decide_false, Qb, Qc, Qd, Qe, Qf, Qg, Qh, Qi, Qj, Qk, Ql, Qm, Qn, Qo, Qp, rb0, rb1, rb2, rb3, rb4, tf0, tf1, tf2, tf3, tf4]
          · subst e
            rw [x3] at z3
            cases z3
            simp at hd
        · have hd : y = y' := by simpa using hd
          simp (disch := (first | omega | rfl | (simp only [Heap.nx_upd, Heap.nx_new]; omega))) only [↓reduceIte, reduceCtorEq, Za, Zb, Zc, Zd, Ze, Zf, Zg, Zh, Zi, Zj, Zk, Zl, Zm, Zn, Zo, Zp, Zq, Zr, Zs, Zt, Zu, Zv, gval, Zw, Zx, Zy, Zz, ZA, ZB, ZC, ZD, ZE, ZF, decide_eq_true_eq, ZG, ZH, ZI, ZJ, ZK, ZL, ZM, ZN, ZO, ZP, ZQ, ZR, ZS, Option.some.injEq, exists_eq_left', ZT, ZU, ZV, ZW, ZX, ZY, true_and, and_true, true_or, or_true, false_or, or_false, ite_true, ite_false, cond_true, cond_false, ZZ, Qa, if_true, if_false, decide_true, decide_false, Qb, Qc, Qd, Qe, Qf, Qg, Qh, Qi, Qj, Qk, Ql, Qm, Qn, Qo, Qp, rb0, rb1, rb2, rb3, rb4, tf0, tf1, tf2, tf3, tf4, Heap.get_upd_ne, Heap.get_new_ne, Heap.get_new_at, overL_one, if_pos, stX_exactN, e0, e1, e5, wrapI]
          refine hQn _ _ _ ?_ ⟨i + 1, rfl, by omega, rfl, ?_, ?_, ?_, fun j hj' => ?_⟩
          · omega
          · simp only [↓reduceIte, reduceCtorEq, Za, Zb, Zc, Zd, Ze, Zf, Zg, Zh, Zi, Zj, Zk, Zl, Zm, Zn, Zo, Zp, Zq, Zr, Zs, Zt, Zu, Zv, gval, Zw, Zx, Zy, Zz, ZA, ZB, ZC, ZD, ZE, ZF, decide_eq_true_eq, ZG, ZH, ZI, ZJ, ZK, ZL, ZM, ZN, ZO, ZP, ZQ, ZR, ZS, Option.some.injEq, exists_eq_left', ZT, ZU, ZV, ZW, ZX, ZY, true_and, and_true, true_or, or_true, false_or, or_false, ite_true, ite_false, cond_true, cond_false, ZZ, Qa, if_true, if_false, decide_true, decide_false, Qb, Qc, Qd, Qe, Qf, Qg, Qh, Qi, Qj, Qk, Ql, Qm, Qn, Qo, Qp, rb0, rb1, rb2, rb3, rb4, tf0, tf1, tf2, tf3, tf4, e0]
          · simp only [↓reduceIte, reduceCtorEq, Za, Zb, Zc, Zd, Ze, Zf, Zg, Zh, Zi, Zj, Zk, Zl, Zm, Zn, Zo, Zp, Zq, Zr, Zs, Zt, Zu, Zv, gval, Zw, Zx, Zy, Zz, ZA, ZB, ZC, ZD, ZE, ZF, decide_eq_true_eq, ZG, ZH, ZI, ZJ, ZK, ZL, ZM, ZN, ZO, ZP, ZQ, ZR, ZS, Option.some.injEq, exists_eq_left', ZT, ZU, ZV, ZW, ZX, ZY, true_and, and_true, true_or, or_true, false_or, or_false, ite_true, ite_false, cond_true, cond_false, ZZ, Qa, if_true, if_false, decide_true, decide_false, Qb, Qc, Qd, Qe, Qf, Qg, Qh, Qi, Qj, Qk, Ql, Qm, Qn, Qo, Qp, rb0, rb1, rb2, rb3, rb4, tf0, tf1, tf2, tf3, tf4, e1]
          · simp only [↓reduceIte, reduceCtorEq, Za, Zb, Zc, Zd, Ze, Zf, Zg, Zh, Zi, Zj, Zk, Zl, Zm, Zn, Zo, Zp, Zq, Zr, Zs, Zt, Zu, Zv, gval, Zw, Zx, Zy, Zz, ZA, ZB, ZC, ZD, ZE, ZF, decide_eq_true_eq, ZG, ZH, ZI, ZJ, ZK, ZL, ZM, ZN, ZO, ZP, ZQ, ZR, ZS, Option.some.injEq, exists_eq_left', ZT, ZU, ZV, ZW, ZX, ZY, true_and, and_true, true_or, or_true, false_or, or_false, ite_true, ite_false, cond_true, cond_false, ZZ, Qa, if_true, if_false, decide_true, decide_false, Qb, Qc, Qd, Qe, Qf, Qg, Qh, Qi, Qj, Qk, Ql, Qm, Qn, Qo, Qp, rb0, rb1, rb2, rb3, rb4, tf0, tf1, tf2, tf3, tf4]
            rfl
          · by_cases e : j < i
            · exact hj j e
            · obtain rfl : j = i := by omega
              rw [x3, z3, hd]
      · have hc1 : ¬ (i : Int) < (l.length : Int) := by omega
        simp (disch := (first | omega | rfl | (simp only [Heap.nx_upd, Heap.nx_new]; omega))) only [↓reduceIte, reduceCtorEq, Za, Zb, Zc, Zd, Ze, Zf, Zg, Zh, Zi, Zj, Zk, Zl, Zm, Zn, Zo, Zp, Zq, Zr, Zs, Zt, Zu, Zv, gval, Zw, Zx, Zy, Zz, ZA, ZB, ZC, ZD, ZE, ZF, decide_eq_true_eq, ZG, ZH, ZI, ZJ, ZK, ZL, ZM, ZN, ZO, ZP, ZQ, ZR, ZS, Option.some.injEq, exists_eq_left', ZT, ZU, ZV, ZW, ZX, ZY, true_and, and_true, true_or, or_true, false_or, or_false, ite_true, ite_false, cond_true, cond_false, ZZ, Qa, if_true, if_false, decide_true, decide_false, Qb, Qc, Qd, Qe, Qf, Qg, Qh, Qi, Qj, Qk, Ql, Qm, Qn, Qo, Qp, rb0, rb1, rb2, rb3, rb4, tf0, tf1, tf2, tf3, tf4, Heap.get_upd_ne, Heap.get_new_ne, Heap.get_new_at, overL_one, if_pos, stX_exactN, e0, e1, e5, hc1]
        refine hQx _ _ _ (by simp) ⟨rfl, .inl ⟨rfl, lists_same (by omega) fun j hj' => hj j (by omega)⟩⟩
    · refine ⟨0, rfl, by omega, rfl, ?_, ?_, ?_, fun j hj => by omega⟩
      · simp only [↓reduceIte, reduceCtorEq, Za, Zb, Zc, Zd, Ze, Zf, Zg, Zh, Zi, Zj, Zk, Zl, Zm, Zn, Zo, Zp, Zq, Zr, Zs, Zt, Zu, Zv, gval, Zw, Zx, Zy, Zz, ZA, ZB, ZC, ZD, ZE, ZF, decide_eq_true_eq, ZG, ZH, ZI, ZJ, ZK, ZL, ZM, ZN, ZO, ZP, ZQ, ZR, ZS, Option.some.injEq, exists_eq_left', ZT, ZU, ZV, ZW, ZX, ZY, true_and, and_true, true_or, or_true, false_or, or_false, ite_true, ite_false, cond_true, cond_false, ZZ, Qa, if_true, if_false, decide_true, decide_false, Qb, Qc, Qd, Qe, Qf, Qg, Qh, Qi, Qj, Qk, Ql, Qm, Qn, Qo, Qp, rb0, rb1, rb2, rb3, rb4, tf0, tf1, tf2, tf3, tf4]
      · simp only [↓reduceIte, reduceCtorEq, Za, Zb, Zc, Zd, Ze, Zf, Zg, Zh, Zi, Zj, Zk, Zl, Zm, Zn, Zo, Zp, Zq, Zr, Zs, Zt, Zu, Zv, gval, Zw, Zx, Zy, Zz, ZA, ZB, ZC, ZD, ZE, ZF, decide_eq_true_eq, ZG, ZH, ZI, ZJ, ZK, ZL, ZM, ZN, ZO, ZP, ZQ, ZR, ZS, Option.some.injEq, exists_eq_left', ZT, ZU, ZV, ZW, ZX, ZY, true_and, and_true, true_or, or_true, false_or, or_false, ite_true, ite_false, cond_true, cond_false, ZZ, Qa, if_true, if_false, decide_true, decide_false, Qb, Qc, Qd, Qe, Qf, Qg, Qh, Qi, Qj, Qk, Ql, Qm, Qn, Qo, Qp, rb0, rb1, rb2, rb3, rb4, tf0, tf1, tf2, tf3, tf4]
      · simp only [↓reduceIte, reduceCtorEq, Za, Zb, Zc, Zd, Ze, Zf, Zg, Zh, Zi, Zj, Zk, Zl, Zm, Zn, Zo, Zp, Zq, Zr, Zs, Zt, Zu, Zv, gval, Zw, Zx, Zy, Zz, ZA, ZB, ZC, ZD, ZE, ZF, decide_eq_true_eq, ZG, ZH, ZI, ZJ, ZK, ZL, ZM, ZN, ZO, ZP, ZQ, ZR, ZS, Option.some.injEq, exists_eq_left', ZT, ZU, ZV, ZW, ZX, ZY, true_and, and_true, true_or, or_true, false_or, or_false, ite_true, ite_false, cond_true, cond_false, ZZ, Qa, if_true, if_false, decide_true, decide_false, Qb, Qc, Qd, Qe, Qf, Qg, Qh, Qi, Qj, Qk, Ql, Qm, Qn, Qo, Qp, rb0, rb1, rb2, rb3, rb4, tf0, tf1, tf2, tf3, tf4]
    · rintro ex e h2 - ⟨rfl, ⟨rfl, he⟩ | ⟨rfl, e4, he⟩⟩
      · simp only [↓reduceIte, reduceCtorEq, Za, Zb, Zc, Zd, Ze, Zf, Zg, Zh, Zi, Zj, Zk, Zl, Zm, Zn, Zo, Zp, Zq, Zr, Zs, Zt, Zu, Zv, gval, Zw, Zx, Zy, Zz, ZA, ZB, ZC, ZD, ZE, ZF, decide_eq_true_eq, ZG, ZH, ZI, ZJ, ZK, ZL, ZM, ZN, ZO, ZP, ZQ, ZR, ZS, Option.some.injEq, exists_eq_left', ZT, ZU, ZV, ZW, ZX, ZY, true_and, and_true, true_or, or_true, false_or, or_false, ite_true, ite_false, cond_true, cond_false, ZZ, Qa, if_true, if_false, decide_true, decide_false, Qb, Qc, Qd, Qe, Qf, Qg, Qh, Qi, Qj, Qk, Ql, Qm, Qn, Qo, Qp, rb0, rb1, rb2, rb3, rb4, tf0, tf1, tf2, tf3, tf4]
        exact hR true ⟨fun _ => he, fun _ => rfl⟩
      · simp only [↓reduceIte, reduceCtorEq, Za, Zb, Zc, Zd, Ze, Zf, Zg, Zh, Zi, Zj, Zk, Zl, Zm, Zn, Zo, Zp, Zq, Zr, Zs, Zt, Zu, Zv, gval, Zw, Zx, Zy, Zz, ZA, ZB, ZC, ZD, ZE, ZF, decide_eq_true_eq, ZG, ZH, ZI, ZJ, ZK, ZL, ZM, ZN, ZO, ZP, ZQ, ZR, ZS, Option.some.injEq, exists_eq_left', ZT, ZU, ZV, ZW, ZX, ZY, true_and, and_true, true_or, or_true, false_or, or_false, ite_true, ite_false, cond_true, cond_false, ZZ, Qa, if_true, if_false, decide_true, decide_false, Qb, Qc, Qd, Qe, Qf, Qg, Qh, Qi, Qj, Qk, Ql, Qm, Qn, Qo, Qp, rb0, rb1, rb2, rb3, rb4, tf0, tf1, tf2, tf3, tf4, e4]
        exact hR false ⟨fun e => by simp at e, fun e => absurd e he⟩
end Go.Proofs.Ytmmjeifdgfolmaa
end
section
/- Words as signals: what is read strictly, what loosely; they agree, and what is read is written again. Plain Lean. -/
namespace Go.AM.SigRead

structure SRec where
  H : List Int
  p : Int
  i : Bool
  pc : Int
  st : List Int

/-- what stands behind the first 17 words, of one that is in a handler. -/
def tail (H : List Int) (p : Int) (r : List Int) : Option (SRec × List Int) :=
  if r.length < 2 ∨ 1048576 < r[0]! ∨ 32 < r[1]! ∨ (r.length : Int) - 2 < r[1]! then none else some (⟨H, p, true, r[0]!, (r.drop 2).take r[1]!.toNat⟩, r.drop (2 + r[1]!.toNat))
def one (w : List Int) : Option (SRec × List Int) :=
  if w.length < 17 then none else if w[8]! ≠ 18446744073709551615 ∨ w[15]! % 2 ≠ 0 ∨ w[15]! / 65536 ≠ 0 ∨ 1 < w[16]! then none else
  if w[16]! = 0 then some (⟨w.take 15, w[15]!, false, 0, []⟩, w.drop 17) else tail (w.take 15) w[15]! (w.drop 17)
def mask (p : Int) : Int := p / 2 % 32768 * 2
def loose (w : List Int) : Option (SRec × List Int) :=
  if w.length < 17 then none else if w[8]! ≠ 18446744073709551615 then none else
  if w[16]! ≠ 1 then some (⟨w.take 15, mask w[15]!, false, 0, []⟩, w.drop 17) else tail (w.take 15) (mask w[15]!) (w.drop 17)
def enc (x : SRec) : List Int := x.H ++ (x.p :: if x.i then 1 :: x.pc :: (x.st.length : Int) :: x.st else [0])
def encs (l : List SRec) : List Int := l.flatMap enc
def runK (f : List Int → Option (SRec × List Int)) : Nat → List Int → Option (List SRec × List Int)
  | 0, w => some ([], w)
  | k + 1, w => match runK f k w with
    | some (l, r) => match f r with
      | some (x, r') => some (l ++ [x], r')
      | none => none
    | none => none

theorem split17 {w : List Int} (h : ¬ w.length < 17) : w = w.take 15 ++ (w[15]! :: w[16]! :: w.drop 17) := by
  have h1 : w.drop 15 = w[15]! :: w[16]! :: w.drop 17 := by
    rw [List.drop_eq_getElem_cons (by omega), List.drop_eq_getElem_cons (by omega)]
    rw [getElem!_pos w 15 (by omega), getElem!_pos w 16 (by omega)]
  conv => lhs; rw [← List.take_append_drop 15 w, h1]
theorem tail_enc {H : List Int} {p : Int} {r : List Int} {x : SRec} {r' : List Int} (hr : ∀ v ∈ r, 0 ≤ v) (h : tail H p r = some (x, r')) : enc x ++ r' = H ++ (p :: 1 :: r) := by
  unfold tail at h
  split at h
  · cases h
  · rename_i hc
    simp only [not_or, Int.not_lt, Nat.not_lt] at hc
    simp only [Option.some.injEq, Prod.mk.injEq] at h
    obtain ⟨rfl, rfl⟩ := h
    obtain ⟨h1, h2, h3, h4⟩ := hc
    match r, h1 with
    | a :: b :: t, _ =>
      simp only [List.getElem!_cons_zero, List.getElem!_cons_succ, List.length_cons] at h2 h3 h4
      have hb : 0 ≤ b := hr b (by simp)
      have hlen : (t.take b.toNat).length = b.toNat := by rw [List.length_take]; omega
      unfold enc
      simp only [List.getElem!_cons_zero, List.getElem!_cons_succ, List.drop_succ_cons, List.drop_zero, if_true, hlen, show 2 + b.toNat = b.toNat + 2 by omega, List.append_assoc, List.cons_append, List.take_append_drop, Int.toNat_of_nonneg hb]
theorem one_enc {w : List Int} {x : SRec} {r : List Int} (hw : ∀ v ∈ w, 0 ≤ v) (h : one w = some (x, r)) : enc x ++ r = w := by
  unfold one at h
  split at h <;> try (cases h; done)
  rename_i h17
  split at h <;> try (cases h; done)
  rename_i hc
  simp only [not_or, Decidable.not_not, ne_eq, Int.not_lt] at hc
  have hs := split17 h17
  have h16 : w[16]! ∈ w := by rw [getElem!_pos w 16 (by omega)]; exact List.getElem_mem _
  split at h
  · rename_i h0
    simp only [Option.some.injEq, Prod.mk.injEq] at h
    obtain ⟨rfl, rfl⟩ := h
    unfold enc
    rw [h0] at hs
    simpa using hs.symm
  · rename_i h0
    have h1 : w[16]! = 1 := by have := hw _ h16; have := hc.2.2.2; omega
    rw [tail_enc (fun v hv => hw v (List.mem_of_mem_drop hv)) h]
    rw [h1] at hs
    exact hs.symm
theorem mask_eq {p : Int} (h : 0 ≤ p) : mask p = p ↔ p % 2 = 0 ∧ p / 65536 = 0 := by unfold mask; omega
theorem loose_of_one {w : List Int} {x : SRec} {r : List Int} (hw : ∀ v ∈ w, 0 ≤ v) (h : one w = some (x, r)) : loose w = some (x, r) := by
  unfold one at h
  unfold loose
  split at h <;> try (cases h; done)
  rename_i h17
  split at h <;> try (cases h; done)
  rename_i hc
  simp only [not_or, Decidable.not_not, ne_eq, Int.not_lt] at hc
  have h15 : w[15]! ∈ w := by rw [getElem!_pos w 15 (by omega)]; exact List.getElem_mem _
  have h16 : w[16]! ∈ w := by rw [getElem!_pos w 16 (by omega)]; exact List.getElem_mem _
  rw [if_neg h17, if_neg (by simpa using hc.1), (mask_eq (hw _ h15)).2 ⟨hc.2.1, hc.2.2.1⟩]
  split at h
  · rename_i h0
    rw [if_pos (by omega)]; exact h
  · rename_i h0
    rw [if_neg (by have := hw _ h16; have := hc.2.2.2; omega)]; exact h
theorem loose_len {w : List Int} {x : SRec} {r : List Int} (hw : ∀ v ∈ w, 0 ≤ v) (h : loose w = some (x, r)) : ∃ c, w = c ++ r ∧ c.length = (enc x).length := by
  unfold loose at h
  split at h <;> try (cases h; done)
  rename_i h17
  split at h <;> try (cases h; done)
  have hs := split17 h17
  have hl : (w.take 15).length = 15 := by rw [List.length_take]; omega
  split at h
  · simp only [Option.some.injEq, Prod.mk.injEq] at h
    obtain ⟨rfl, rfl⟩ := h
    refine ⟨w.take 17, (List.take_append_drop 17 w).symm, ?_⟩
    unfold enc
    simp only [List.length_take, List.length_append, List.length_cons, Bool.false_eq_true, if_false, List.length_nil]
    omega
  · have := tail_enc (fun v hv => hw v (List.mem_of_mem_drop hv)) h
    have h2 : enc x ++ r = (w.take 15 ++ [mask w[15]!, 1]) ++ w.drop 17 := by rw [this]; simp
    have hlen : (enc x).length + r.length = w.length := by
      have := congrArg List.length h2
      simp only [List.length_append, List.length_cons, List.length_nil, List.length_drop, hl] at this
      omega
    -- r is an end of w
    have hr : r = w.drop (enc x).length := by
      have e1 : (enc x ++ r).drop (enc x).length = r := by rw [List.drop_left]
      rw [h2] at e1
      have h17' : 17 ≤ (enc x).length := by
        have hx : x.H = w.take 15 ∧ x.i = true := by
          unfold tail at h
          split at h
          · cases h
          · simp only [Option.some.injEq, Prod.mk.injEq] at h
            rw [← h.1]; exact ⟨rfl, rfl⟩
        unfold enc
        rw [hx.1, hx.2]
        simp only [List.length_append, hl, List.length_cons, if_true]
        omega
      have e2 : ((w.take 15 ++ [mask w[15]!, 1]) ++ w.drop 17).drop (enc x).length = w.drop (enc x).length := by
        have hA : (w.take 15 ++ [mask w[15]!, 1]).length = 17 := by simp [hl]
        rw [List.drop_append, List.drop_eq_nil_of_le (by omega), hA, List.drop_drop, List.nil_append]
        congr 1; omega
      rw [← e1, e2]
    exact ⟨w.take (enc x).length, by rw [hr]; exact (List.take_append_drop _ _).symm, by rw [List.length_take]; omega⟩
theorem one_of_loose {w : List Int} {x : SRec} {r : List Int} (hw : ∀ v ∈ w, 0 ≤ v) (h : loose w = some (x, r)) (he : enc x ++ r = w) : one w = some (x, r) := by
  have h0 := h
  unfold loose at h
  split at h <;> try (cases h; done)
  rename_i h17
  split at h <;> try (cases h; done)
  rename_i h8
  have hs := split17 h17
  have h15 : w[15]! ∈ w := by rw [getElem!_pos w 15 (by omega)]; exact List.getElem_mem _
  have h16 : w[16]! ∈ w := by rw [getElem!_pos w 16 (by omega)]; exact List.getElem_mem _
  have hx : ∀ t, x.H = w.take 15 → enc x = w.take 15 ++ t → t ++ r = w[15]! :: w[16]! :: w.drop 17 := by
    intro t _ e2
    rw [e2, List.append_assoc] at he
    exact List.append_cancel_left (he.trans hs)
  unfold one
  rw [if_neg h17]
  split at h
  · rename_i hi
    simp only [Option.some.injEq, Prod.mk.injEq] at h
    obtain ⟨rfl, rfl⟩ := h
    have hq := hx [mask w[15]!, 0] rfl rfl
    simp only [List.cons_append, List.cons.injEq] at hq
    have hp := (mask_eq (hw _ h15)).1 hq.1
    have hz : w[16]! = 0 := hq.2.1.symm
    rw [if_neg (by simp only [not_or, Decidable.not_not, ne_eq]; exact ⟨Decidable.not_not.1 h8, hp.1, hp.2, by omega⟩), if_pos hz, hq.1]
  · rename_i hi
    have hi := Decidable.not_not.1 hi
    have hH : x.H = w.take 15 ∧ x.p = mask w[15]! := by
      unfold tail at h
      split at h
      · cases h
      · simp only [Option.some.injEq, Prod.mk.injEq] at h
        rw [← h.1]; exact ⟨rfl, rfl⟩
    have hq := hx (x.p :: if x.i then 1 :: x.pc :: (x.st.length : Int) :: x.st else [0]) hH.1 (by unfold enc; rw [hH.1])
    simp only [List.cons_append, List.cons.injEq] at hq
    have hm : mask w[15]! = w[15]! := by rw [← hH.2]; exact hq.1
    have hp := (mask_eq (hw _ h15)).1 hm
    rw [if_neg (by simp only [not_or, Decidable.not_not, ne_eq]; exact ⟨Decidable.not_not.1 h8, hp.1, hp.2, by omega⟩), if_neg (by omega)]
    rw [hm] at h
    exact h
theorem encs_append (a b : List SRec) : encs (a ++ b) = encs a ++ encs b := by unfold encs; rw [List.flatMap_append]
theorem encs_one (x : SRec) : encs [x] = enc x := by simp [encs]
theorem suffix_nn {w c r : List Int} (hw : ∀ v ∈ w, 0 ≤ v) (h : w = c ++ r) : ∀ v ∈ r, 0 ≤ v := fun v hv => hw v (by rw [h]; simp [hv])
theorem runK_enc {w : List Int} (hw : ∀ v ∈ w, 0 ≤ v) : ∀ (k : Nat) (l : List SRec) (r : List Int), runK one k w = some (l, r) → encs l ++ r = w := by
  intro k
  induction k with
  | zero =>
    intro l r h
    simp only [runK, Option.some.injEq, Prod.mk.injEq] at h
    obtain ⟨rfl, rfl⟩ := h; rfl
  | succ k ih =>
    intro l r h
    unfold runK at h
    split at h <;> try (cases h; done)
    rename_i l0 r0 h0
    split at h <;> try (cases h; done)
    rename_i x r1 h1
    simp only [Option.some.injEq, Prod.mk.injEq] at h
    obtain ⟨rfl, rfl⟩ := h
    have e0 := ih _ _ h0
    have e1 := one_enc (suffix_nn hw e0.symm) h1
    rw [encs_append, encs_one, List.append_assoc, e1, e0]
theorem runK_loose {w : List Int} (hw : ∀ v ∈ w, 0 ≤ v) : ∀ (k : Nat) (l : List SRec) (r : List Int), runK one k w = some (l, r) → runK loose k w = some (l, r) := by
  intro k
  induction k with
  | zero => intro l r h; exact h
  | succ k ih =>
    intro l r h
    unfold runK at h ⊢
    split at h <;> try (cases h; done)
    rename_i l0 r0 h0
    rw [ih _ _ h0]
    split at h <;> try (cases h; done)
    rename_i x r1 h1
    simp only [loose_of_one (suffix_nn hw (runK_enc hw _ _ _ h0).symm) h1]
    exact h
theorem runK_len {w : List Int} (hw : ∀ v ∈ w, 0 ≤ v) : ∀ (k : Nat) (l : List SRec) (r : List Int), runK loose k w = some (l, r) → ∃ c, w = c ++ r ∧ c.length = (encs l).length := by
  intro k
  induction k with
  | zero =>
    intro l r h
    simp only [runK, Option.some.injEq, Prod.mk.injEq] at h
    obtain ⟨rfl, rfl⟩ := h; exact ⟨[], rfl, rfl⟩
  | succ k ih =>
    intro l r h
    unfold runK at h
    split at h <;> try (cases h; done)
    rename_i l0 r0 h0
    split at h <;> try (cases h; done)
    rename_i x r1 h1
    simp only [Option.some.injEq, Prod.mk.injEq] at h
    obtain ⟨rfl, rfl⟩ := h
    obtain ⟨c, e1, e2⟩ := ih _ _ h0
    obtain ⟨d, e3, e4⟩ := loose_len (suffix_nn hw e1) h1
    exact ⟨c ++ d, by rw [e1, e3, List.append_assoc], by rw [encs_append, encs_one, List.length_append, List.length_append, e2, e4]⟩
theorem runK_strict {w : List Int} (hw : ∀ v ∈ w, 0 ≤ v) : ∀ (k : Nat) (l : List SRec) (r : List Int), runK loose k w = some (l, r) → encs l ++ r = w → runK one k w = some (l, r) := by
  intro k
  induction k with
  | zero => intro l r h _; exact h
  | succ k ih =>
    intro l r h he
    unfold runK at h ⊢
    split at h <;> try (cases h; done)
    rename_i l0 r0 h0
    split at h <;> try (cases h; done)
    rename_i x r1 h1
    simp only [Option.some.injEq, Prod.mk.injEq] at h
    obtain ⟨rfl, rfl⟩ := h
    obtain ⟨c, e1, e2⟩ := runK_len hw _ _ _ h0
    rw [encs_append, encs_one, List.append_assoc] at he
    have e3 : encs l0 = c ∧ enc x ++ r1 = r0 := List.append_inj (he.trans e1) e2.symm
    rw [ih _ _ h0 (by rw [e3.1, ← e1])]
    simp only [one_of_loose (suffix_nn hw e1) h1 e3.2]
/-- the loose reading, compared with the words, is the strict one. -/
theorem reads_iff {w : List Int} (hw : ∀ v ∈ w, 0 ≤ v) : (∃ l, runK one 8 w = some (l, [])) ↔ ∃ l r, runK loose 8 w = some (l, r) ∧ encs l = w := by
  constructor
  · rintro ⟨l, h⟩
    have := runK_enc hw _ _ _ h
    exact ⟨l, [], runK_loose hw _ _ _ h, by simpa using this⟩
  · rintro ⟨l, r, h, he⟩
    obtain ⟨c, e1, e2⟩ := runK_len hw _ _ _ h
    have hr : r = [] := by
      have := congrArg List.length e1
      rw [List.length_append, e2, he] at this
      exact List.eq_nil_of_length_eq_zero (by omega)
    subst hr
    exact ⟨l, runK_strict hw _ _ _ h (by simpa using he)⟩
theorem reads_enc {w : List Int} (hw : ∀ v ∈ w, 0 ≤ v) {l : List SRec} (h : runK one 8 w = some (l, [])) : encs l = w := by
  have := runK_enc hw _ _ _ h
  simpa using this
theorem runK_stop {f : List Int → Option (SRec × List Int)} {w : List Int} {i : Nat} {l : List SRec} {r : List Int} (h : runK f i w = some (l, r)) (hn : f r = none) : ∀ n, i < n → runK f n w = none := by
  intro n
  induction n with
  | zero => intro h; omega
  | succ n ih =>
    intro hi
    by_cases e : i = n
    · subst e
      unfold runK
      rw [h]
      simp only [hn]
    · have := ih (by omega)
      unfold runK
      rw [this]
theorem runK_count {f : List Int → Option (SRec × List Int)} {w : List Int} : ∀ (n : Nat) {l : List SRec} {r : List Int}, runK f n w = some (l, r) → l.length = n := by
  intro n
  induction n with
  | zero => intro l r h; simp only [runK, Option.some.injEq, Prod.mk.injEq] at h; rw [← h.1]; rfl
  | succ n ih =>
    intro l r h
    unfold runK at h
    split at h <;> try (cases h; done)
    rename_i l0 r0 h0
    split at h <;> try (cases h; done)
    simp only [Option.some.injEq, Prod.mk.injEq] at h
    rw [← h.1, List.length_append, ih h0]; rfl
theorem runK_succ {f : List Int → Option (SRec × List Int)} {w : List Int} {i : Nat} {l : List SRec} {r r' : List Int} {x : SRec} (h : runK f i w = some (l, r)) (hn : f r = some (x, r')) : runK f (i + 1) w = some (l ++ [x], r') := by
  unfold runK
  rw [h]
  simp only [hn]
end Go.AM.SigRead
end
