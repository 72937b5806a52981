/- Lemmas of the claim: the machine of the proof and the walks of the program. Conditions: as each says. -/
import Derived.Test.YtmmjeifdgfolmaaRows
import Derived.Test.YtmmjeifdgfolmaaG4
import Derived.Test.YtmmjeifdgfolmaaG5
section
/- What all proofs of this seat share: the program's own facts, the machine. -/
namespace Go.Proofs.Ytmmjeifdgfolmaa
open Go.ChangeShapes Go.WideShapes Go.ChangeAt Go.RowKit Go.AM

theorem Try.own : ownKnob Try.prog.godebug = none := by kernel_rfl
theorem Try.laidOut : laidOutB Try.prog = true := by kernel_rfl
theorem Try.kids : Kids Try.prog (· < Try.prog.types.size) := kids_rows (by kernel_rfl) (by kernel_rfl)
theorem Try.full : ∀ t e, t < Try.prog.types.size → Try.prog.underlying t = some (.slice e) → 0 < Try.prog.cellsOf e := slices_full_of Try.prog (by kernel_rfl)
noncomputable abbrev clA : Caller := acall Try.prog 0 (fun _ => none) 3000 40
theorem clA_ok : CallOk Try.prog 0 clA := acall_ok (by kernel_rfl) noSpec_ok 3000 40
end Go.Proofs.Ytmmjeifdgfolmaa
end
section
/- Facts of the types of the program that Try names, for rewriting. No condition. -/
namespace Go.Proofs.Ytmmjeifdgfolmaa
open Go.AM Go
theorem tyA_1 : tyA Try.prog 1 = some false := by kernel_rfl
theorem siz_1 : sizeOf? Try.prog 1 = some 1 := by kernel_rfl
theorem tag_1 : tyTag Try.prog 1 = 7 := by kernel_rfl
theorem zer_1 : zeroL Try.prog 1 = some ([.nilFunc]) := by kernel_rfl
theorem nob_1 : bldT Try.prog 1 = false := by kernel_rfl
theorem tyA_2 : tyA Try.prog 2 = some false := by kernel_rfl
theorem siz_2 : sizeOf? Try.prog 2 = some 1 := by kernel_rfl
theorem tag_2 : tyTag Try.prog 2 = 9 := by kernel_rfl
theorem intK_2 : intK Try.prog 2 = some .i64 := by kernel_rfl
theorem zer_2 : zeroL Try.prog 2 = some ([.int .i64 0]) := by kernel_rfl
theorem nob_2 : bldT Try.prog 2 = false := by kernel_rfl
theorem tyA_3 : tyA Try.prog 3 = some false := by kernel_rfl
theorem siz_3 : sizeOf? Try.prog 3 = some 1 := by kernel_rfl
theorem tag_3 : tyTag Try.prog 3 = 9 := by kernel_rfl
theorem intK_3 : intK Try.prog 3 = some .i64 := by kernel_rfl
theorem zer_3 : zeroL Try.prog 3 = some ([.int .i64 0]) := by kernel_rfl
theorem nob_3 : bldT Try.prog 3 = false := by kernel_rfl
theorem tyA_4 : tyA Try.prog 4 = some false := by kernel_rfl
theorem siz_4 : sizeOf? Try.prog 4 = some 1 := by kernel_rfl
theorem tag_4 : tyTag Try.prog 4 = 1 := by kernel_rfl
theorem zer_4 : zeroL Try.prog 4 = some ([.bool false]) := by kernel_rfl
theorem nob_4 : bldT Try.prog 4 = false := by kernel_rfl
theorem tyA_22 : tyA Try.prog 22 = some false := by kernel_rfl
theorem siz_22 : sizeOf? Try.prog 22 = some 1 := by kernel_rfl
theorem tag_22 : tyTag Try.prog 22 = 2 := by kernel_rfl
theorem zer_22 : zeroL Try.prog 22 = some ([.pointer none]) := by kernel_rfl
theorem nob_22 : bldT Try.prog 22 = false := by kernel_rfl
theorem tyA_25 : tyA Try.prog 25 = some false := by kernel_rfl
theorem siz_25 : sizeOf? Try.prog 25 = some 1 := by kernel_rfl
theorem tag_25 : tyTag Try.prog 25 = 9 := by kernel_rfl
theorem intK_25 : intK Try.prog 25 = some .i64 := by kernel_rfl
theorem zer_25 : zeroL Try.prog 25 = some ([.int .i64 0]) := by kernel_rfl
theorem nob_25 : bldT Try.prog 25 = false := by kernel_rfl
theorem tyA_34 : tyA Try.prog 34 = some false := by kernel_rfl
theorem siz_34 : sizeOf? Try.prog 34 = some 1 := by kernel_rfl
theorem tag_34 : tyTag Try.prog 34 = 4 := by kernel_rfl
theorem slc_34 : slcOf Try.prog 34 = some 1 := by kernel_rfl
theorem mk_34 : mkOf Try.prog 34 = some ([.int .i64 0], 1, 10) := by kernel_rfl
theorem zer_34 : zeroL Try.prog 34 = some ([.slice none 0 0]) := by kernel_rfl
theorem nob_34 : bldT Try.prog 34 = false := by kernel_rfl
theorem tyA_36 : tyA Try.prog 36 = some false := by kernel_rfl
theorem siz_36 : sizeOf? Try.prog 36 = some 1 := by kernel_rfl
theorem tag_36 : tyTag Try.prog 36 = 7 := by kernel_rfl
theorem zer_36 : zeroL Try.prog 36 = some ([.nilFunc]) := by kernel_rfl
theorem nob_36 : bldT Try.prog 36 = false := by kernel_rfl
theorem tyA_40 : tyA Try.prog 40 = some false := by kernel_rfl
theorem siz_40 : sizeOf? Try.prog 40 = some 1 := by kernel_rfl
theorem tag_40 : tyTag Try.prog 40 = 2 := by kernel_rfl
theorem zer_40 : zeroL Try.prog 40 = some ([.pointer none]) := by kernel_rfl
theorem nob_40 : bldT Try.prog 40 = false := by kernel_rfl
theorem tyA_42 : tyA Try.prog 42 = some true := by kernel_rfl
theorem siz_42 : sizeOf? Try.prog 42 = some 16 := by kernel_rfl
theorem tag_42 : tyTag Try.prog 42 = 9 := by kernel_rfl
theorem arr_42 : arrOf Try.prog 42 = some (16, some false, 1) := by kernel_rfl
theorem sarr_42 : sarrOf Try.prog 42 = some (16, 1) := by kernel_rfl
theorem zer_42 : zeroL Try.prog 42 = some ([.bool false, .bool false, .bool false, .bool false, .bool false, .bool false, .bool false, .bool false, .bool false, .bool false, .bool false, .bool false, .bool false, .bool false, .bool false, .bool false]) := by kernel_rfl
theorem nob_42 : bldT Try.prog 42 = false := by kernel_rfl
theorem tyA_44 : tyA Try.prog 44 = some false := by kernel_rfl
theorem siz_44 : sizeOf? Try.prog 44 = some 1 := by kernel_rfl
theorem tag_44 : tyTag Try.prog 44 = 9 := by kernel_rfl
theorem intK_44 : intK Try.prog 44 = some .u64 := by kernel_rfl
theorem zer_44 : zeroL Try.prog 44 = some ([.int .u64 0]) := by kernel_rfl
theorem nob_44 : bldT Try.prog 44 = false := by kernel_rfl
theorem tyA_47 : tyA Try.prog 47 = some false := by kernel_rfl
theorem siz_47 : sizeOf? Try.prog 47 = some 1 := by kernel_rfl
theorem tag_47 : tyTag Try.prog 47 = 4 := by kernel_rfl
theorem slc_47 : slcOf Try.prog 47 = some 1 := by kernel_rfl
theorem mk_47 : mkOf Try.prog 47 = some ([.int .u64 0], 1, 10) := by kernel_rfl
theorem zer_47 : zeroL Try.prog 47 = some ([.slice none 0 0]) := by kernel_rfl
theorem nob_47 : bldT Try.prog 47 = false := by kernel_rfl
theorem tyA_49 : tyA Try.prog 49 = some true := by kernel_rfl
theorem siz_49 : sizeOf? Try.prog 49 = some 2 := by kernel_rfl
theorem tag_49 : tyTag Try.prog 49 = 9 := by kernel_rfl
theorem zer_49 : zeroL Try.prog 49 = some ([.int .i64 0, .slice none 0 0]) := by kernel_rfl
theorem nob_49 : bldT Try.prog 49 = false := by kernel_rfl
theorem fld_49_0 : fldOf Try.prog 49 0 = some (0, some false, 1) := by kernel_rfl
theorem fld_49_1 : fldOf Try.prog 49 1 = some (1, some false, 1) := by kernel_rfl
theorem tyA_57 : tyA Try.prog 57 = some true := by kernel_rfl
theorem siz_57 : sizeOf? Try.prog 57 = some 3 := by kernel_rfl
theorem tag_57 : tyTag Try.prog 57 = 9 := by kernel_rfl
theorem zer_57 : zeroL Try.prog 57 = some ([.int .i64 0, .int .i64 0, .int .i64 0]) := by kernel_rfl
theorem nob_57 : bldT Try.prog 57 = false := by kernel_rfl
theorem fld_57_0 : fldOf Try.prog 57 0 = some (0, some false, 1) := by kernel_rfl
theorem fld_57_1 : fldOf Try.prog 57 1 = some (1, some false, 1) := by kernel_rfl
theorem fld_57_2 : fldOf Try.prog 57 2 = some (2, some false, 1) := by kernel_rfl
theorem tyA_62 : tyA Try.prog 62 = some false := by kernel_rfl
theorem siz_62 : sizeOf? Try.prog 62 = some 1 := by kernel_rfl
theorem tag_62 : tyTag Try.prog 62 = 2 := by kernel_rfl
theorem zer_62 : zeroL Try.prog 62 = some ([.pointer none]) := by kernel_rfl
theorem nob_62 : bldT Try.prog 62 = false := by kernel_rfl
theorem tyA_67 : tyA Try.prog 67 = some false := by kernel_rfl
theorem siz_67 : sizeOf? Try.prog 67 = some 1 := by kernel_rfl
theorem tag_67 : tyTag Try.prog 67 = 4 := by kernel_rfl
theorem slc_67 : slcOf Try.prog 67 = some 3 := by kernel_rfl
theorem mk_67 : mkOf Try.prog 67 = some ([.int .i64 0, .int .i64 0, .int .i64 0], 3, 28) := by kernel_rfl
theorem zer_67 : zeroL Try.prog 67 = some ([.slice none 0 0]) := by kernel_rfl
theorem nob_67 : bldT Try.prog 67 = false := by kernel_rfl
theorem tyA_69 : tyA Try.prog 69 = some true := by kernel_rfl
theorem siz_69 : sizeOf? Try.prog 69 = some 3 := by kernel_rfl
theorem tag_69 : tyTag Try.prog 69 = 9 := by kernel_rfl
theorem zer_69 : zeroL Try.prog 69 = some ([.int .i64 0, .int .i64 0, .int .i64 0]) := by kernel_rfl
theorem nob_69 : bldT Try.prog 69 = false := by kernel_rfl
theorem fld_69_0 : fldOf Try.prog 69 0 = some (0, some false, 1) := by kernel_rfl
theorem fld_69_1 : fldOf Try.prog 69 1 = some (1, some false, 1) := by kernel_rfl
theorem fld_69_2 : fldOf Try.prog 69 2 = some (2, some false, 1) := by kernel_rfl
theorem tyA_70 : tyA Try.prog 70 = some true := by kernel_rfl
theorem siz_70 : sizeOf? Try.prog 70 = some 24 := by kernel_rfl
theorem tag_70 : tyTag Try.prog 70 = 9 := by kernel_rfl
theorem arr_70 : arrOf Try.prog 70 = some (8, some true, 3) := by kernel_rfl
theorem sarr_70 : sarrOf Try.prog 70 = some (8, 3) := by kernel_rfl
theorem zer_70 : zeroL Try.prog 70 = some (repeatL ([.int .i64 0, .int .i64 0, .int .i64 0]) 8) := by kernel_rfl
theorem nob_70 : bldT Try.prog 70 = false := by kernel_rfl
theorem tyA_72 : tyA Try.prog 72 = some true := by kernel_rfl
theorem siz_72 : sizeOf? Try.prog 72 = some 24 := by kernel_rfl
theorem tag_72 : tyTag Try.prog 72 = 9 := by kernel_rfl
theorem zer_72 : zeroL Try.prog 72 = some ((repeatL ([.int .i64 0, .int .i64 0, .int .i64 0]) 8)) := by kernel_rfl
theorem nob_72 : bldT Try.prog 72 = false := by kernel_rfl
theorem fld_72_0 : fldOf Try.prog 72 0 = some (0, some true, 24) := by kernel_rfl
theorem tyA_80 : tyA Try.prog 80 = some true := by kernel_rfl
theorem siz_80 : sizeOf? Try.prog 80 = some 6 := by kernel_rfl
theorem tag_80 : tyTag Try.prog 80 = 9 := by kernel_rfl
theorem zer_80 : zeroL Try.prog 80 = some ([.int .i64 0, .int .i64 0, .int .i64 0, .int .u64 0, .int .i64 0, .slice none 0 0]) := by kernel_rfl
theorem nob_80 : bldT Try.prog 80 = false := by kernel_rfl
theorem fld_80_0 : fldOf Try.prog 80 0 = some (0, some false, 1) := by kernel_rfl
theorem fld_80_1 : fldOf Try.prog 80 1 = some (1, some false, 1) := by kernel_rfl
theorem fld_80_2 : fldOf Try.prog 80 2 = some (2, some false, 1) := by kernel_rfl
theorem fld_80_3 : fldOf Try.prog 80 3 = some (3, some false, 1) := by kernel_rfl
theorem fld_80_4 : fldOf Try.prog 80 4 = some (4, some true, 2) := by kernel_rfl
theorem tyA_86 : tyA Try.prog 86 = some false := by kernel_rfl
theorem siz_86 : sizeOf? Try.prog 86 = some 1 := by kernel_rfl
theorem tag_86 : tyTag Try.prog 86 = 2 := by kernel_rfl
theorem zer_86 : zeroL Try.prog 86 = some ([.pointer none]) := by kernel_rfl
theorem nob_86 : bldT Try.prog 86 = false := by kernel_rfl
theorem tyA_89 : tyA Try.prog 89 = some false := by kernel_rfl
theorem siz_89 : sizeOf? Try.prog 89 = some 1 := by kernel_rfl
theorem tag_89 : tyTag Try.prog 89 = 6 := by kernel_rfl
theorem zer_89 : zeroL Try.prog 89 = some ([.map none]) := by kernel_rfl
theorem nob_89 : bldT Try.prog 89 = false := by kernel_rfl
theorem tyA_91 : tyA Try.prog 91 = some true := by kernel_rfl
theorem siz_91 : sizeOf? Try.prog 91 = some 1 := by kernel_rfl
theorem tag_91 : tyTag Try.prog 91 = 9 := by kernel_rfl
theorem zer_91 : zeroL Try.prog 91 = some ([.map none]) := by kernel_rfl
theorem nob_91 : bldT Try.prog 91 = false := by kernel_rfl
theorem fld_91_0 : fldOf Try.prog 91 0 = some (0, some false, 1) := by kernel_rfl
theorem tyA_92 : tyA Try.prog 92 = some false := by kernel_rfl
theorem siz_92 : sizeOf? Try.prog 92 = some 1 := by kernel_rfl
theorem tag_92 : tyTag Try.prog 92 = 2 := by kernel_rfl
theorem zer_92 : zeroL Try.prog 92 = some ([.pointer none]) := by kernel_rfl
theorem nob_92 : bldT Try.prog 92 = false := by kernel_rfl
theorem tyA_94 : tyA Try.prog 94 = some true := by kernel_rfl
theorem siz_94 : sizeOf? Try.prog 94 = some 3 := by kernel_rfl
theorem tag_94 : tyTag Try.prog 94 = 9 := by kernel_rfl
theorem zer_94 : zeroL Try.prog 94 = some ([.bool false, .int .i64 0, .int .i64 0]) := by kernel_rfl
theorem nob_94 : bldT Try.prog 94 = false := by kernel_rfl
theorem fld_94_0 : fldOf Try.prog 94 0 = some (0, some false, 1) := by kernel_rfl
theorem fld_94_1 : fldOf Try.prog 94 1 = some (1, some false, 1) := by kernel_rfl
theorem fld_94_2 : fldOf Try.prog 94 2 = some (2, some false, 1) := by kernel_rfl
theorem tyA_96 : tyA Try.prog 96 = some true := by kernel_rfl
theorem siz_96 : sizeOf? Try.prog 96 = some 16 := by kernel_rfl
theorem tag_96 : tyTag Try.prog 96 = 9 := by kernel_rfl
theorem arr_96 : arrOf Try.prog 96 = some (16, some false, 1) := by kernel_rfl
theorem sarr_96 : sarrOf Try.prog 96 = some (16, 1) := by kernel_rfl
theorem zer_96 : zeroL Try.prog 96 = some ([.int .u64 0, .int .u64 0, .int .u64 0, .int .u64 0, .int .u64 0, .int .u64 0, .int .u64 0, .int .u64 0, .int .u64 0, .int .u64 0, .int .u64 0, .int .u64 0, .int .u64 0, .int .u64 0, .int .u64 0, .int .u64 0]) := by kernel_rfl
theorem nob_96 : bldT Try.prog 96 = false := by kernel_rfl
theorem tyA_98 : tyA Try.prog 98 = some true := by kernel_rfl
theorem siz_98 : sizeOf? Try.prog 98 = some 20 := by kernel_rfl
theorem tag_98 : tyTag Try.prog 98 = 9 := by kernel_rfl
theorem zer_98 : zeroL Try.prog 98 = some ([.int .u64 0, .int .u64 0, .int .u64 0, .int .u64 0, .int .u64 0, .int .u64 0, .int .u64 0, .int .u64 0, .int .u64 0, .int .u64 0, .int .u64 0, .int .u64 0, .int .u64 0, .int .u64 0, .int .u64 0, .int .u64 0, .int .u64 0, .bool false, .int .i64 0, .slice none 0 0]) := by kernel_rfl
theorem nob_98 : bldT Try.prog 98 = false := by kernel_rfl
theorem fld_98_0 : fldOf Try.prog 98 0 = some (0, some true, 16) := by kernel_rfl
theorem fld_98_1 : fldOf Try.prog 98 1 = some (16, some false, 1) := by kernel_rfl
theorem fld_98_2 : fldOf Try.prog 98 2 = some (17, some false, 1) := by kernel_rfl
theorem fld_98_3 : fldOf Try.prog 98 3 = some (18, some true, 2) := by kernel_rfl
theorem tyA_99 : tyA Try.prog 99 = some true := by kernel_rfl
theorem siz_99 : sizeOf? Try.prog 99 = some 160 := by kernel_rfl
theorem tag_99 : tyTag Try.prog 99 = 9 := by kernel_rfl
theorem arr_99 : arrOf Try.prog 99 = some (8, some true, 20) := by kernel_rfl
theorem sarr_99 : sarrOf Try.prog 99 = some (8, 20) := by kernel_rfl
theorem zer_99 : zeroL Try.prog 99 = some (repeatL ([.int .u64 0, .int .u64 0, .int .u64 0, .int .u64 0, .int .u64 0, .int .u64 0, .int .u64 0, .int .u64 0, .int .u64 0, .int .u64 0, .int .u64 0, .int .u64 0, .int .u64 0, .int .u64 0, .int .u64 0, .int .u64 0, .int .u64 0, .bool false, .int .i64 0, .slice none 0 0]) 8) := by kernel_rfl
theorem nob_99 : bldT Try.prog 99 = false := by kernel_rfl
theorem tyA_101 : tyA Try.prog 101 = some true := by kernel_rfl
theorem siz_101 : sizeOf? Try.prog 101 = some 160 := by kernel_rfl
theorem tag_101 : tyTag Try.prog 101 = 9 := by kernel_rfl
theorem zer_101 : zeroL Try.prog 101 = some ((repeatL ([.int .u64 0, .int .u64 0, .int .u64 0, .int .u64 0, .int .u64 0, .int .u64 0, .int .u64 0, .int .u64 0, .int .u64 0, .int .u64 0, .int .u64 0, .int .u64 0, .int .u64 0, .int .u64 0, .int .u64 0, .int .u64 0, .int .u64 0, .bool false, .int .i64 0, .slice none 0 0]) 8)) := by kernel_rfl
theorem nob_101 : bldT Try.prog 101 = false := by kernel_rfl
theorem fld_101_0 : fldOf Try.prog 101 0 = some (0, some true, 160) := by kernel_rfl
theorem tyA_103 : tyA Try.prog 103 = some false := by kernel_rfl
theorem siz_103 : sizeOf? Try.prog 103 = some 1 := by kernel_rfl
theorem tag_103 : tyTag Try.prog 103 = 2 := by kernel_rfl
theorem zer_103 : zeroL Try.prog 103 = some ([.pointer none]) := by kernel_rfl
theorem nob_103 : bldT Try.prog 103 = false := by kernel_rfl
theorem tyA_107 : tyA Try.prog 107 = some true := by kernel_rfl
theorem siz_107 : sizeOf? Try.prog 107 = some 3 := by kernel_rfl
theorem tag_107 : tyTag Try.prog 107 = 9 := by kernel_rfl
theorem arr_107 : arrOf Try.prog 107 = some (3, some false, 1) := by kernel_rfl
theorem sarr_107 : sarrOf Try.prog 107 = some (3, 1) := by kernel_rfl
theorem zer_107 : zeroL Try.prog 107 = some ([.int .u64 0, .int .u64 0, .int .u64 0]) := by kernel_rfl
theorem nob_107 : bldT Try.prog 107 = false := by kernel_rfl
theorem tyA_109 : tyA Try.prog 109 = some false := by kernel_rfl
theorem siz_109 : sizeOf? Try.prog 109 = some 1 := by kernel_rfl
theorem tag_109 : tyTag Try.prog 109 = 9 := by kernel_rfl
theorem intK_109 : intK Try.prog 109 = some .u64 := by kernel_rfl
theorem zer_109 : zeroL Try.prog 109 = some ([.int .u64 0]) := by kernel_rfl
theorem nob_109 : bldT Try.prog 109 = false := by kernel_rfl
theorem tyA_111 : tyA Try.prog 111 = some false := by kernel_rfl
theorem siz_111 : sizeOf? Try.prog 111 = some 1 := by kernel_rfl
theorem tag_111 : tyTag Try.prog 111 = 2 := by kernel_rfl
theorem zer_111 : zeroL Try.prog 111 = some ([.pointer none]) := by kernel_rfl
theorem nob_111 : bldT Try.prog 111 = false := by kernel_rfl
theorem tyA_112 : tyA Try.prog 112 = some true := by kernel_rfl
theorem siz_112 : sizeOf? Try.prog 112 = some 15 := by kernel_rfl
theorem tag_112 : tyTag Try.prog 112 = 9 := by kernel_rfl
theorem arr_112 : arrOf Try.prog 112 = some (15, some false, 1) := by kernel_rfl
theorem sarr_112 : sarrOf Try.prog 112 = some (15, 1) := by kernel_rfl
theorem zer_112 : zeroL Try.prog 112 = some ([.int .u64 0, .int .u64 0, .int .u64 0, .int .u64 0, .int .u64 0, .int .u64 0, .int .u64 0, .int .u64 0, .int .u64 0, .int .u64 0, .int .u64 0, .int .u64 0, .int .u64 0, .int .u64 0, .int .u64 0]) := by kernel_rfl
theorem nob_112 : bldT Try.prog 112 = false := by kernel_rfl
theorem tyA_113 : tyA Try.prog 113 = some true := by kernel_rfl
theorem siz_113 : sizeOf? Try.prog 113 = some 15 := by kernel_rfl
theorem tag_113 : tyTag Try.prog 113 = 9 := by kernel_rfl
theorem arr_113 : arrOf Try.prog 113 = some (15, some false, 1) := by kernel_rfl
theorem sarr_113 : sarrOf Try.prog 113 = some (15, 1) := by kernel_rfl
theorem zer_113 : zeroL Try.prog 113 = some ([.bool false, .bool false, .bool false, .bool false, .bool false, .bool false, .bool false, .bool false, .bool false, .bool false, .bool false, .bool false, .bool false, .bool false, .bool false]) := by kernel_rfl
theorem nob_113 : bldT Try.prog 113 = false := by kernel_rfl
theorem tyA_115 : tyA Try.prog 115 = some true := by kernel_rfl
theorem siz_115 : sizeOf? Try.prog 115 = some 33 := by kernel_rfl
theorem tag_115 : tyTag Try.prog 115 = 9 := by kernel_rfl
theorem zer_115 : zeroL Try.prog 115 = some ([.int .u64 0, .int .u64 0, .int .u64 0, .int .u64 0, .int .u64 0, .int .u64 0, .int .u64 0, .int .u64 0, .int .u64 0, .int .u64 0, .int .u64 0, .int .u64 0, .int .u64 0, .int .u64 0, .int .u64 0, .bool false, .bool false, .bool false, .bool false, .bool false, .bool false, .bool false, .bool false, .bool false, .bool false, .bool false, .bool false, .bool false, .bool false, .bool false, .bool false, .int .i64 0, .slice none 0 0]) := by kernel_rfl
theorem nob_115 : bldT Try.prog 115 = false := by kernel_rfl
theorem fld_115_0 : fldOf Try.prog 115 0 = some (0, some true, 15) := by kernel_rfl
theorem fld_115_1 : fldOf Try.prog 115 1 = some (15, some true, 15) := by kernel_rfl
theorem fld_115_2 : fldOf Try.prog 115 2 = some (30, some false, 1) := by kernel_rfl
theorem fld_115_3 : fldOf Try.prog 115 3 = some (31, some true, 2) := by kernel_rfl
theorem tyA_116 : tyA Try.prog 116 = some true := by kernel_rfl
theorem siz_116 : sizeOf? Try.prog 116 = some 264 := by kernel_rfl
theorem tag_116 : tyTag Try.prog 116 = 9 := by kernel_rfl
theorem arr_116 : arrOf Try.prog 116 = some (8, some true, 33) := by kernel_rfl
theorem sarr_116 : sarrOf Try.prog 116 = some (8, 33) := by kernel_rfl
theorem zer_116 : zeroL Try.prog 116 = some (repeatL ([.int .u64 0, .int .u64 0, .int .u64 0, .int .u64 0, .int .u64 0, .int .u64 0, .int .u64 0, .int .u64 0, .int .u64 0, .int .u64 0, .int .u64 0, .int .u64 0, .int .u64 0, .int .u64 0, .int .u64 0, .bool false, .bool false, .bool false, .bool false, .bool false, .bool false, .bool false, .bool false, .bool false, .bool false, .bool false, .bool false, .bool false, .bool false, .bool false, .bool false, .int .i64 0, .slice none 0 0]) 8) := by kernel_rfl
theorem nob_116 : bldT Try.prog 116 = false := by kernel_rfl
theorem tyA_118 : tyA Try.prog 118 = some true := by kernel_rfl
theorem siz_118 : sizeOf? Try.prog 118 = some 264 := by kernel_rfl
theorem tag_118 : tyTag Try.prog 118 = 9 := by kernel_rfl
theorem zer_118 : zeroL Try.prog 118 = some ((repeatL ([.int .u64 0, .int .u64 0, .int .u64 0, .int .u64 0, .int .u64 0, .int .u64 0, .int .u64 0, .int .u64 0, .int .u64 0, .int .u64 0, .int .u64 0, .int .u64 0, .int .u64 0, .int .u64 0, .int .u64 0, .bool false, .bool false, .bool false, .bool false, .bool false, .bool false, .bool false, .bool false, .bool false, .bool false, .bool false, .bool false, .bool false, .bool false, .bool false, .bool false, .int .i64 0, .slice none 0 0]) 8)) := by kernel_rfl
theorem nob_118 : bldT Try.prog 118 = false := by kernel_rfl
theorem fld_118_0 : fldOf Try.prog 118 0 = some (0, some true, 264) := by kernel_rfl
theorem bld_49 : bldOf Try.prog 49 = some ([.int .i64 0, .slice none 0 0], [(0, 1), (1, 1)]) := by kernel_rfl
theorem build_49 (parts : List (Nat × Value)) : aBuild Try.prog 49 parts = if parts.all (fun x => Nat.blt x.1 2) = true then fillL (fun i => [(0, 1), (1, 1)][i]?) ([.int .i64 0, .slice none 0 0]) parts else aBuildO Try.prog 49 parts := u_build' bld_49 parts
theorem bld_69 : bldOf Try.prog 69 = some ([.int .i64 0, .int .i64 0, .int .i64 0], [(0, 1), (1, 1), (2, 1)]) := by kernel_rfl
theorem build_69 (parts : List (Nat × Value)) : aBuild Try.prog 69 parts = if parts.all (fun x => Nat.blt x.1 3) = true then fillL (fun i => [(0, 1), (1, 1), (2, 1)][i]?) ([.int .i64 0, .int .i64 0, .int .i64 0]) parts else aBuildO Try.prog 69 parts := u_build' bld_69 parts
theorem bld_70 : bldOf Try.prog 70 = some (repeatL ([.int .i64 0, .int .i64 0, .int .i64 0]) 8, [(0, 3), (3, 3), (6, 3), (9, 3), (12, 3), (15, 3), (18, 3), (21, 3)]) := by kernel_rfl
theorem build_70 (parts : List (Nat × Value)) : aBuild Try.prog 70 parts = if parts.all (fun x => Nat.blt x.1 8) = true then fillL (fun i => [(0, 3), (3, 3), (6, 3), (9, 3), (12, 3), (15, 3), (18, 3), (21, 3)][i]?) (repeatL ([.int .i64 0, .int .i64 0, .int .i64 0]) 8) parts else aBuildO Try.prog 70 parts := u_build' bld_70 parts
theorem bld_72 : bldOf Try.prog 72 = some ((repeatL ([.int .i64 0, .int .i64 0, .int .i64 0]) 8), [(0, 24)]) := by kernel_rfl
theorem build_72 (parts : List (Nat × Value)) : aBuild Try.prog 72 parts = if parts.all (fun x => Nat.blt x.1 1) = true then fillL (fun i => [(0, 24)][i]?) ((repeatL ([.int .i64 0, .int .i64 0, .int .i64 0]) 8)) parts else aBuildO Try.prog 72 parts := u_build' bld_72 parts
theorem bld_91 : bldOf Try.prog 91 = some ([.map none], [(0, 1)]) := by kernel_rfl
theorem build_91 (parts : List (Nat × Value)) : aBuild Try.prog 91 parts = if parts.all (fun x => Nat.blt x.1 1) = true then fillL (fun i => [(0, 1)][i]?) ([.map none]) parts else aBuildO Try.prog 91 parts := u_build' bld_91 parts
theorem bld_94 : bldOf Try.prog 94 = some ([.bool false, .int .i64 0, .int .i64 0], [(0, 1), (1, 1), (2, 1)]) := by kernel_rfl
theorem build_94 (parts : List (Nat × Value)) : aBuild Try.prog 94 parts = if parts.all (fun x => Nat.blt x.1 3) = true then fillL (fun i => [(0, 1), (1, 1), (2, 1)][i]?) ([.bool false, .int .i64 0, .int .i64 0]) parts else aBuildO Try.prog 94 parts := u_build' bld_94 parts
theorem bld_101 : bldOf Try.prog 101 = some ((repeatL ([.int .u64 0, .int .u64 0, .int .u64 0, .int .u64 0, .int .u64 0, .int .u64 0, .int .u64 0, .int .u64 0, .int .u64 0, .int .u64 0, .int .u64 0, .int .u64 0, .int .u64 0, .int .u64 0, .int .u64 0, .int .u64 0, .int .u64 0, .bool false, .int .i64 0, .slice none 0 0]) 8), [(0, 160)]) := by kernel_rfl
theorem build_101 (parts : List (Nat × Value)) : aBuild Try.prog 101 parts = if parts.all (fun x => Nat.blt x.1 1) = true then fillL (fun i => [(0, 160)][i]?) ((repeatL ([.int .u64 0, .int .u64 0, .int .u64 0, .int .u64 0, .int .u64 0, .int .u64 0, .int .u64 0, .int .u64 0, .int .u64 0, .int .u64 0, .int .u64 0, .int .u64 0, .int .u64 0, .int .u64 0, .int .u64 0, .int .u64 0, .int .u64 0, .bool false, .int .i64 0, .slice none 0 0]) 8)) parts else aBuildO Try.prog 101 parts := u_build' bld_101 parts
theorem bld_107 : bldOf Try.prog 107 = some ([.int .u64 0, .int .u64 0, .int .u64 0], [(0, 1), (1, 1), (2, 1)]) := by kernel_rfl
theorem build_107 (parts : List (Nat × Value)) : aBuild Try.prog 107 parts = if parts.all (fun x => Nat.blt x.1 3) = true then fillL (fun i => [(0, 1), (1, 1), (2, 1)][i]?) ([.int .u64 0, .int .u64 0, .int .u64 0]) parts else aBuildO Try.prog 107 parts := u_build' bld_107 parts
theorem bld_118 : bldOf Try.prog 118 = some ((repeatL ([.int .u64 0, .int .u64 0, .int .u64 0, .int .u64 0, .int .u64 0, .int .u64 0, .int .u64 0, .int .u64 0, .int .u64 0, .int .u64 0, .int .u64 0, .int .u64 0, .int .u64 0, .int .u64 0, .int .u64 0, .bool false, .bool false, .bool false, .bool false, .bool false, .bool false, .bool false, .bool false, .bool false, .bool false, .bool false, .bool false, .bool false, .bool false, .bool false, .bool false, .int .i64 0, .slice none 0 0]) 8), [(0, 264)]) := by kernel_rfl
theorem build_118 (parts : List (Nat × Value)) : aBuild Try.prog 118 parts = if parts.all (fun x => Nat.blt x.1 1) = true then fillL (fun i => [(0, 264)][i]?) ((repeatL ([.int .u64 0, .int .u64 0, .int .u64 0, .int .u64 0, .int .u64 0, .int .u64 0, .int .u64 0, .int .u64 0, .int .u64 0, .int .u64 0, .int .u64 0, .int .u64 0, .int .u64 0, .int .u64 0, .int .u64 0, .bool false, .bool false, .bool false, .bool false, .bool false, .bool false, .bool false, .bool false, .bool false, .bool false, .bool false, .bool false, .bool false, .bool false, .bool false, .bool false, .int .i64 0, .slice none 0 0]) 8)) parts else aBuildO Try.prog 118 parts := u_build' bld_118 parts
theorem bs0_47 (nx : Nat) : effBuildSlice Try.prog 47 0 [] nx = some ⟨.slice (some ⟨nx, 0, none⟩) 0 0, [], [cellsB [] .exact]⟩ := u_buildSlice0 47 nx mk_47
theorem app_34_34 : appT Try.prog #[34, 34] = some ([.int .i64 0], 1, 10) := by kernel_rfl
theorem app_47_47 : appT Try.prog #[47, 47] = some ([.int .u64 0], 1, 10) := by kernel_rfl
theorem tf0 : type_of% (And.intro (And.intro (And.intro (And.intro (And.intro (@tyA_1) (And.intro (@siz_1) (@tag_1))) (And.intro (And.intro (@zer_1) (@nob_1)) (And.intro (@tyA_2) (@siz_2)))) (And.intro (And.intro (And.intro (@tag_2) (@intK_2)) (And.intro (@zer_2) (@nob_2))) (And.intro (And.intro (@tyA_3) (@siz_3)) (And.intro (@tag_3) (@intK_3))))) (And.intro (And.intro (And.intro (@zer_3) (And.intro (@nob_3) (@tyA_4))) (And.intro (And.intro (@siz_4) (@tag_4)) (And.intro (@zer_4) (@nob_4)))) (And.intro (And.intro (And.intro (@tyA_22) (@siz_22)) (And.intro (@tag_22) (@zer_22))) (And.intro (And.intro (@nob_22) (@tyA_25)) (And.intro (@siz_25) (@tag_25)))))) (And.intro (And.intro (And.intro (And.intro (@intK_25) (And.intro (@zer_25) (@nob_25))) (And.intro (And.intro (@tyA_34) (@siz_34)) (And.intro (@tag_34) (@slc_34)))) (And.intro (And.intro (And.intro (@mk_34) (@zer_34)) (And.intro (@nob_34) (@tyA_36))) (And.intro (And.intro (@siz_36) (@tag_36)) (And.intro (@zer_36) (@nob_36))))) (And.intro (And.intro (And.intro (@tyA_40) (And.intro (@siz_40) (@tag_40))) (And.intro (And.intro (@zer_40) (@nob_40)) (And.intro (@tyA_42) (@siz_42)))) (And.intro (And.intro (And.intro (@tag_42) (@arr_42)) (And.intro (@sarr_42) (@zer_42))) (And.intro (And.intro (@nob_42) (@tyA_44)) (And.intro (@siz_44) (@tag_44))))))) := And.intro (And.intro (And.intro (And.intro (And.intro (@tyA_1) (And.intro (@siz_1) (@tag_1))) (And.intro (And.intro (@zer_1) (@nob_1)) (And.intro (@tyA_2) (@siz_2)))) (And.intro (And.intro (And.intro (@tag_2) (@intK_2)) (And.intro (@zer_2) (@nob_2))) (And.intro (And.intro (@tyA_3) (@siz_3)) (And.intro (@tag_3) (@intK_3))))) (And.intro (And.intro (And.intro (@zer_3) (And.intro (@nob_3) (@tyA_4))) (And.intro (And.intro (@siz_4) (@tag_4)) (And.intro (@zer_4) (@nob_4)))) (And.intro (And.intro (And.intro (@tyA_22) (@siz_22)) (And.intro (@tag_22) (@zer_22))) (And.intro (And.intro (@nob_22) (@tyA_25)) (And.intro (@siz_25) (@tag_25)))))) (And.intro (And.intro (And.intro (And.intro (@intK_25) (And.intro (@zer_25) (@nob_25))) (And.intro (And.intro (@tyA_34) (@siz_34)) (And.intro (@tag_34) (@slc_34)))) (And.intro (And.intro (And.intro (@mk_34) (@zer_34)) (And.intro (@nob_34) (@tyA_36))) (And.intro (And.intro (@siz_36) (@tag_36)) (And.intro (@zer_36) (@nob_36))))) (And.intro (And.intro (And.intro (@tyA_40) (And.intro (@siz_40) (@tag_40))) (And.intro (And.intro (@zer_40) (@nob_40)) (And.intro (@tyA_42) (@siz_42)))) (And.intro (And.intro (And.intro (@tag_42) (@arr_42)) (And.intro (@sarr_42) (@zer_42))) (And.intro (And.intro (@nob_42) (@tyA_44)) (And.intro (@siz_44) (@tag_44))))))
theorem tf1 : type_of% (And.intro (And.intro (And.intro (And.intro (And.intro (@intK_44) (And.intro (@zer_44) (@nob_44))) (And.intro (And.intro (@tyA_47) (@siz_47)) (And.intro (@tag_47) (@slc_47)))) (And.intro (And.intro (And.intro (@mk_47) (@zer_47)) (And.intro (@nob_47) (@tyA_49))) (And.intro (And.intro (@siz_49) (@tag_49)) (And.intro (@zer_49) (@nob_49))))) (And.intro (And.intro (And.intro (@fld_49_0) (And.intro (@fld_49_1) (@tyA_57))) (And.intro (And.intro (@siz_57) (@tag_57)) (And.intro (@zer_57) (@nob_57)))) (And.intro (And.intro (And.intro (@fld_57_0) (@fld_57_1)) (And.intro (@fld_57_2) (@tyA_62))) (And.intro (And.intro (@siz_62) (@tag_62)) (And.intro (@zer_62) (@nob_62)))))) (And.intro (And.intro (And.intro (And.intro (@tyA_67) (And.intro (@siz_67) (@tag_67))) (And.intro (And.intro (@slc_67) (@mk_67)) (And.intro (@zer_67) (@nob_67)))) (And.intro (And.intro (And.intro (@tyA_69) (@siz_69)) (And.intro (@tag_69) (@zer_69))) (And.intro (And.intro (@nob_69) (@fld_69_0)) (And.intro (@fld_69_1) (@fld_69_2))))) (And.intro (And.intro (And.intro (@tyA_70) (And.intro (@siz_70) (@tag_70))) (And.intro (And.intro (@arr_70) (@sarr_70)) (And.intro (@zer_70) (@nob_70)))) (And.intro (And.intro (And.intro (@tyA_72) (@siz_72)) (And.intro (@tag_72) (@zer_72))) (And.intro (And.intro (@nob_72) (@fld_72_0)) (And.intro (@tyA_80) (@siz_80))))))) := And.intro (And.intro (And.intro (And.intro (And.intro (@intK_44) (And.intro (@zer_44) (@nob_44))) (And.intro (And.intro (@tyA_47) (@siz_47)) (And.intro (@tag_47) (@slc_47)))) (And.intro (And.intro (And.intro (@mk_47) (@zer_47)) (And.intro (@nob_47) (@tyA_49))) (And.intro (And.intro (@siz_49) (@tag_49)) (And.intro (@zer_49) (@nob_49))))) (And.intro (And.intro (And.intro (@fld_49_0) (And.intro (@fld_49_1) (@tyA_57))) (And.intro (And.intro (@siz_57) (@tag_57)) (And.intro (@zer_57) (@nob_57)))) (And.intro (And.intro (And.intro (@fld_57_0) (@fld_57_1)) (And.intro (@fld_57_2) (@tyA_62))) (And.intro (And.intro (@siz_62) (@tag_62)) (And.intro (@zer_62) (@nob_62)))))) (And.intro (And.intro (And.intro (And.intro (@tyA_67) (And.intro (@siz_67) (@tag_67))) (And.intro (And.intro (@slc_67) (@mk_67)) (And.intro (@zer_67) (@nob_67)))) (And.intro (And.intro (And.intro (@tyA_69) (@siz_69)) (And.intro (@tag_69) (@zer_69))) (And.intro (And.intro (@nob_69) (@fld_69_0)) (And.intro (@fld_69_1) (@fld_69_2))))) (And.intro (And.intro (And.intro (@tyA_70) (And.intro (@siz_70) (@tag_70))) (And.intro (And.intro (@arr_70) (@sarr_70)) (And.intro (@zer_70) (@nob_70)))) (And.intro (And.intro (And.intro (@tyA_72) (@siz_72)) (And.intro (@tag_72) (@zer_72))) (And.intro (And.intro (@nob_72) (@fld_72_0)) (And.intro (@tyA_80) (@siz_80))))))
theorem tf2 : type_of% (And.intro (And.intro (And.intro (And.intro (And.intro (@tag_80) (And.intro (@zer_80) (@nob_80))) (And.intro (And.intro (@fld_80_0) (@fld_80_1)) (And.intro (@fld_80_2) (@fld_80_3)))) (And.intro (And.intro (And.intro (@fld_80_4) (@tyA_86)) (And.intro (@siz_86) (@tag_86))) (And.intro (And.intro (@zer_86) (@nob_86)) (And.intro (@tyA_89) (@siz_89))))) (And.intro (And.intro (And.intro (@tag_89) (And.intro (@zer_89) (@nob_89))) (And.intro (And.intro (@tyA_91) (@siz_91)) (And.intro (@tag_91) (@zer_91)))) (And.intro (And.intro (And.intro (@nob_91) (@fld_91_0)) (And.intro (@tyA_92) (@siz_92))) (And.intro (And.intro (@tag_92) (@zer_92)) (And.intro (@nob_92) (@tyA_94)))))) (And.intro (And.intro (And.intro (And.intro (@siz_94) (And.intro (@tag_94) (@zer_94))) (And.intro (And.intro (@nob_94) (@fld_94_0)) (And.intro (@fld_94_1) (@fld_94_2)))) (And.intro (And.intro (And.intro (@tyA_96) (@siz_96)) (And.intro (@tag_96) (@arr_96))) (And.intro (And.intro (@sarr_96) (@zer_96)) (And.intro (@nob_96) (@tyA_98))))) (And.intro (And.intro (And.intro (@siz_98) (And.intro (@tag_98) (@zer_98))) (And.intro (And.intro (@nob_98) (@fld_98_0)) (And.intro (@fld_98_1) (@fld_98_2)))) (And.intro (And.intro (And.intro (@fld_98_3) (@tyA_99)) (And.intro (@siz_99) (@tag_99))) (And.intro (And.intro (@arr_99) (@sarr_99)) (And.intro (@zer_99) (@nob_99))))))) := And.intro (And.intro (And.intro (And.intro (And.intro (@tag_80) (And.intro (@zer_80) (@nob_80))) (And.intro (And.intro (@fld_80_0) (@fld_80_1)) (And.intro (@fld_80_2) (@fld_80_3)))) (And.intro (And.intro (And.intro (@fld_80_4) (@tyA_86)) (And.intro (@siz_86) (@tag_86))) (And.intro (And.intro (@zer_86) (@nob_86)) (And.intro (@tyA_89) (@siz_89))))) (And.intro (And.intro (And.intro (@tag_89) (And.intro (@zer_89) (@nob_89))) (And.intro (And.intro (@tyA_91) (@siz_91)) (And.intro (@tag_91) (@zer_91)))) (And.intro (And.intro (And.intro (@nob_91) (@fld_91_0)) (And.intro (@tyA_92) (@siz_92))) (And.intro (And.intro (@tag_92) (@zer_92)) (And.intro (@nob_92) (@tyA_94)))))) (And.intro (And.intro (And.intro (And.intro (@siz_94) (And.intro (@tag_94) (@zer_94))) (And.intro (And.intro (@nob_94) (@fld_94_0)) (And.intro (@fld_94_1) (@fld_94_2)))) (And.intro (And.intro (And.intro (@tyA_96) (@siz_96)) (And.intro (@tag_96) (@arr_96))) (And.intro (And.intro (@sarr_96) (@zer_96)) (And.intro (@nob_96) (@tyA_98))))) (And.intro (And.intro (And.intro (@siz_98) (And.intro (@tag_98) (@zer_98))) (And.intro (And.intro (@nob_98) (@fld_98_0)) (And.intro (@fld_98_1) (@fld_98_2)))) (And.intro (And.intro (And.intro (@fld_98_3) (@tyA_99)) (And.intro (@siz_99) (@tag_99))) (And.intro (And.intro (@arr_99) (@sarr_99)) (And.intro (@zer_99) (@nob_99))))))
theorem tf3 : type_of% (And.intro (And.intro (And.intro (And.intro (And.intro (@tyA_101) (And.intro (@siz_101) (@tag_101))) (And.intro (And.intro (@zer_101) (@nob_101)) (And.intro (@fld_101_0) (@tyA_103)))) (And.intro (And.intro (And.intro (@siz_103) (@tag_103)) (And.intro (@zer_103) (@nob_103))) (And.intro (And.intro (@tyA_107) (@siz_107)) (And.intro (@tag_107) (@arr_107))))) (And.intro (And.intro (And.intro (@sarr_107) (And.intro (@zer_107) (@nob_107))) (And.intro (And.intro (@tyA_109) (@siz_109)) (And.intro (@tag_109) (@intK_109)))) (And.intro (And.intro (And.intro (@zer_109) (@nob_109)) (And.intro (@tyA_111) (@siz_111))) (And.intro (And.intro (@tag_111) (@zer_111)) (And.intro (@nob_111) (@tyA_112)))))) (And.intro (And.intro (And.intro (And.intro (@siz_112) (And.intro (@tag_112) (@arr_112))) (And.intro (And.intro (@sarr_112) (@zer_112)) (And.intro (@nob_112) (@tyA_113)))) (And.intro (And.intro (And.intro (@siz_113) (@tag_113)) (And.intro (@arr_113) (@sarr_113))) (And.intro (And.intro (@zer_113) (@nob_113)) (And.intro (@tyA_115) (@siz_115))))) (And.intro (And.intro (And.intro (@tag_115) (And.intro (@zer_115) (@nob_115))) (And.intro (And.intro (@fld_115_0) (@fld_115_1)) (And.intro (@fld_115_2) (@fld_115_3)))) (And.intro (And.intro (And.intro (@tyA_116) (@siz_116)) (And.intro (@tag_116) (@arr_116))) (And.intro (And.intro (@sarr_116) (@zer_116)) (And.intro (@nob_116) (@tyA_118))))))) := And.intro (And.intro (And.intro (And.intro (And.intro (@tyA_101) (And.intro (@siz_101) (@tag_101))) (And.intro (And.intro (@zer_101) (@nob_101)) (And.intro (@fld_101_0) (@tyA_103)))) (And.intro (And.intro (And.intro (@siz_103) (@tag_103)) (And.intro (@zer_103) (@nob_103))) (And.intro (And.intro (@tyA_107) (@siz_107)) (And.intro (@tag_107) (@arr_107))))) (And.intro (And.intro (And.intro (@sarr_107) (And.intro (@zer_107) (@nob_107))) (And.intro (And.intro (@tyA_109) (@siz_109)) (And.intro (@tag_109) (@intK_109)))) (And.intro (And.intro (And.intro (@zer_109) (@nob_109)) (And.intro (@tyA_111) (@siz_111))) (And.intro (And.intro (@tag_111) (@zer_111)) (And.intro (@nob_111) (@tyA_112)))))) (And.intro (And.intro (And.intro (And.intro (@siz_112) (And.intro (@tag_112) (@arr_112))) (And.intro (And.intro (@sarr_112) (@zer_112)) (And.intro (@nob_112) (@tyA_113)))) (And.intro (And.intro (And.intro (@siz_113) (@tag_113)) (And.intro (@arr_113) (@sarr_113))) (And.intro (And.intro (@zer_113) (@nob_113)) (And.intro (@tyA_115) (@siz_115))))) (And.intro (And.intro (And.intro (@tag_115) (And.intro (@zer_115) (@nob_115))) (And.intro (And.intro (@fld_115_0) (@fld_115_1)) (And.intro (@fld_115_2) (@fld_115_3)))) (And.intro (And.intro (And.intro (@tyA_116) (@siz_116)) (And.intro (@tag_116) (@arr_116))) (And.intro (And.intro (@sarr_116) (@zer_116)) (And.intro (@nob_116) (@tyA_118))))))
theorem tf4 : type_of% (And.intro (And.intro (And.intro (And.intro (@siz_118) (@tag_118)) (And.intro (@zer_118) (@nob_118))) (And.intro (And.intro (@fld_118_0) (@build_49)) (And.intro (@build_69) (@build_70)))) (And.intro (And.intro (And.intro (@build_72) (@build_91)) (And.intro (@build_94) (@build_101))) (And.intro (And.intro (@build_107) (@build_118)) (And.intro (@bs0_47) (And.intro (@app_34_34) (@app_47_47)))))) := And.intro (And.intro (And.intro (And.intro (@siz_118) (@tag_118)) (And.intro (@zer_118) (@nob_118))) (And.intro (And.intro (@fld_118_0) (@build_49)) (And.intro (@build_69) (@build_70)))) (And.intro (And.intro (And.intro (@build_72) (@build_91)) (And.intro (@build_94) (@build_101))) (And.intro (And.intro (@build_107) (@build_118)) (And.intro (@bs0_47) (And.intro (@app_34_34) (@app_47_47)))))
end Go.Proofs.Ytmmjeifdgfolmaa
end
section
/- Rows of words: how they lie, how they grow, how they are compared. Conditions: as each says. -/
namespace Go.Proofs.Ytmmjeifdgfolmaa
open Go.AM
open Nat renaming reduceBEq → Za, reduceEqDiff → Zb, reduceAdd → Zc, reduceSub → Zd, reduceMul → Ze, reduceLT → Zf, reduceLeDiff → Zg, reduceDiv → Zh, reduceMod → Zi, reducePow → Zj, blt_eq → ZF, zero_add → Qc, add_zero → Qd
open Int renaming reduceAdd → Zk, reduceSub → Zl, reduceMul → Zm, reduceLT → Zn, reduceLE → Zo, reduceEq → Zp, reduceNe → Zq, reduceNeg → Zr, reduceToNat → Zs, reduceDiv → Zt, reduceMod → Zu, reducePow → Zv, cast_ofNat_Int → Zw, toNat_natCast → Qb
open List renaming set_cons_zero → Zx, set_cons_succ → Zy, map_toArray → Zz, cons_append → ZA, nil_append → ZB, append_nil → ZC, all_cons → ZD, all_nil → ZE, getElem?_cons_zero → ZJ, getElem?_cons_succ → ZK, length_cons → ZL, length_nil → ZM, map_cons → ZN, map_nil → ZO, isEmpty_nil → Qe, any_cons → Qf, any_nil → Qg, drop_zero → Qk, drop_succ_cons → Ql, take_succ_cons → Qm, take_zero → Qn, take_nil → Qo, drop_nil → Qp
open Bool renaming and_true → ZG, true_and → ZH, and_self → ZI, not_true → ZT, not_false → ZU, true_eq_false → ZZ, false_eq_true → Qa, or_false → Qh, false_or → Qi, and_eq_true → Qj
open Option renaming map_some → ZP, map_none → ZQ, bind_some → ZR, getD_some → ZS, isNone_some → ZV, isNone_none → ZW, isSome_some → ZX, isSome_none → ZY
set_option linter.unusedSimpArgs false
variable {sp : Special} {h : Heap} {R : Out → Heap → Prop}
/-- a row of words. -/
structure Words (h : Heap) (lo : Nat) (v : Value) (l : List Int) : Prop where
  is : ∃ a c, v = .slice a l.length c ∧ (l.length = 0 ∨ ∃ b off X k, (lo ≤ b ∧ b < h.nx) ∧ a = some ⟨b, off, none⟩ ∧ h.get b = some (cellsB X k) ∧ off + l.length ≤ X.length ∧ ∀ i, i < l.length → X[off + i]? = (l[i]?).map (.int .u64 ·))
theorem Words.keep {h' : Heap} {lo lo' : Nat} {v : Value} {l : List Int} (x : Words h lo v l) (hlo : lo' ≤ lo) (hn : h.nx ≤ h'.nx) (hk : ∀ b, lo ≤ b → b < h.nx → h'.get b = h.get b) : Words h' lo' v l := by
  obtain ⟨a, c, rfl, hx⟩ := x.is
  refine ⟨a, c, rfl, ?_⟩
  rcases hx with hx | ⟨b, off, X, k, h1, h2, h3, h4, h5⟩
  · exact .inl hx
  · exact .inr ⟨b, off, X, k, by omega, h2, (hk b h1.1 h1.2).trans h3, h4, h5⟩
theorem Words.at {lo : Nat} {a : Option Addr} {n c : Nat} {l : List Int} (x : Words h lo (.slice a n c) l) {i : Nat} (hi : i < l.length) : ∃ b off X k y, (lo ≤ b ∧ b < h.nx) ∧ a = some ⟨b, off, none⟩ ∧ h.get b = some (cellsB X k) ∧ X[off + i]? = some (.int .u64 y) ∧ l[i]? = some y := by
  obtain ⟨a', c', he, hx⟩ := x.is
  cases he
  rcases hx with hx | ⟨b, off, X, k, g1, g2, g3, g4, g5⟩
  · omega
  · obtain ⟨y, hy⟩ : ∃ y, l[i]? = some y := ⟨_, List.getElem?_eq_getElem hi⟩
    exact ⟨b, off, X, k, y, g1, g2, g3, by rw [g5 i hi, hy]; rfl, hy⟩
theorem lists_same {l l' : List Int} (hl : l.length = l'.length) (h : ∀ j, j < l.length → l[j]? = l'[j]?) : l = l' := by
  apply List.ext_getElem?
  intro j
  by_cases hj : j < l.length
  · exact h j hj
  · rw [List.getElem?_eq_none (by omega), List.getElem?_eq_none (by omega)]
set_option maxRecDepth 100000 in
theorem words_spec (h1 : (sp 35).isNone = true) {lo lo' : Nat} {v w : Value} {l l' : List Int} (hv : Words h lo v l) (hw : Words h lo' w l')
    (hR : ∀ b : Bool, (b = true ↔ l = l') → R (.ret (.bool b)) h) (hl : l.length ≤ 100000000) : WF Try.prog 0 sp 35 [v, w] h R := by
  refine wf_fn (fn := Try.f35) h1 rfl (by kernel_rfl) rfl ?_
  obtain ⟨a1, c1, rfl, _⟩ := hv.is
  obtain ⟨a2, c2, rfl, _⟩ := hw.is
  simp (disch := (first | omega | rfl | (simp only [Heap.nx_upd, Heap.nx_new]; omega))) only [↓reduceIte, reduceCtorEq, Za, Zb, Zc, Zd, Ze, Zf, Zg, Zh, Zi, Zj, Zk, Zl, Zm, Zn, Zo, Zp, Zq, Zr, Zs, Zt, Zu, Zv, gval, Zw, Zx, Zy, Zz, ZA, ZB, ZC, ZD, ZE, ZF, decide_eq_true_eq, ZG, ZH, ZI, ZJ, ZK, ZL, ZM, ZN, ZO, ZP, ZQ, ZR, ZS, Option.some.injEq, exists_eq_left', ZT, ZU, ZV, ZW, ZX, ZY, true_and, and_true, true_or, or_true, false_or, or_false, ite_true, ite_false, cond_true, cond_false, ZZ, Qa, if_true, if_false, decide_true, decide_false, Qb, Qc, Qd, Qe, Qf, Qg, Qh, Qi, Qj, Qk, Ql, Qm, Qn, Qo, Qp, rb0, rb1, rb2, rb3, rb4, tf0, tf1, tf2, tf3, tf4, Heap.get_upd_ne, Heap.get_new_ne, Heap.get_new_at, overL_one, if_pos, stX_exactN, Try.f35]
  refine runB_bool (fun hc => ?_) (fun hc => ?_)
  · simp only [↓reduceIte, reduceCtorEq, Za, Zb, Zc, Zd, Ze, Zf, Zg, Zh, Zi, Zj, Zk, Zl, Zm, Zn, Zo, Zp, Zq, Zr, Zs, Zt, Zu, Zv, gval, Zw, Zx, Zy, Zz, ZA, ZB, ZC, ZD, ZE, ZF, decide_eq_true_eq, ZG, ZH, ZI, ZJ, ZK, ZL, ZM, ZN, ZO, ZP, ZQ, ZR, ZS, Option.some.injEq, exists_eq_left', ZT, ZU, ZV, ZW, ZX, ZY, true_and, and_true, true_or, or_true, false_or, or_false, ite_true, ite_false, cond_true, cond_false, ZZ, Qa, if_true, if_false, decide_true, decide_false, Qb, Qc, Qd, Qe, Qf, Qg, Qh, Qi, Qj, Qk, Ql, Qm, Qn, Qo, Qp, rb0, rb1, rb2, rb3, rb4, tf0, tf1, tf2, tf3, tf4]
    exact hR false ⟨fun e => by simp at e, fun e => by subst e; simp at hc⟩
  · have hc : l.length = l'.length := by have : (l.length : Int) = l'.length := by simpa using hc
                                         omega
    simp only [↓reduceIte, reduceCtorEq, Za, Zb, Zc, Zd, Ze, Zf, Zg, Zh, Zi, Zj, Zk, Zl, Zm, Zn, Zo, Zp, Zq, Zr, Zs, Zt, Zu, Zv, gval, Zw, Zx, Zy, Zz, ZA, ZB, ZC, ZD, ZE, ZF, decide_eq_true_eq, ZG, ZH, ZI, ZJ, ZK, ZL, ZM, ZN, ZO, ZP, ZQ, ZR, ZS, Option.some.injEq, exists_eq_left', ZT, ZU, ZV, ZW, ZX, ZY, true_and, and_true, true_or, or_true, false_or, or_false, ite_true, ite_false, cond_true, cond_false, ZZ, Qa, if_true, if_false, decide_true, decide_false, Qb, Qc, Qd, Qe, Qf, Qg, Qh, Qi, Qj, Qk, Ql, Qm, Qn, Qo, Qp, rb0, rb1, rb2, rb3, rb4, tf0, tf1, tf2, tf3, tf4]
    refine run_loop2 rfl (fun n e h2 => ∃ i : Nat, n = l.length - i ∧ i ≤ l.length ∧ h2 = h ∧ e.at 0 = .slice a1 l.length c1 ∧ e.at 1 = .slice a2 l'.length c2 ∧ e.at 5 = .int .i64 i ∧ ∀ j, j < i → l[j]? = l'[j]?)
      (fun ex e h2 => h2 = h ∧ (((ex = .exit 0) ∧ l = l') ∨ (ex = .ret ∧ e.at 4 = .bool false ∧ l ≠ l'))) ?_ l.length _ _ ?_ ?_
    · rintro n e h2 ⟨i, rfl, hi, rfl, e0, e1, e5, hj⟩ Q' hQn hQx
      by_cases hc : i < l.length
      · have hc1 : (i : Int) < (l.length : Int) := by omega
        obtain ⟨b1, o1, X1, k1, y, _, rfl, x1, x2, x3⟩ := hv.at hc
        obtain ⟨b2, o2, X2, k2, y', _, rfl, z1, z2, z3⟩ := hw.at (i := i) (by omega)
        have hc2 : i < l'.length := by omega
        simp (disch := (first | omega | rfl | (simp only [Heap.nx_upd, Heap.nx_new]; omega))) only [↓reduceIte, reduceCtorEq, Za, Zb, Zc, Zd, Ze, Zf, Zg, Zh, Zi, Zj, Zk, Zl, Zm, Zn, Zo, Zp, Zq, Zr, Zs, Zt, Zu, Zv, gval, Zw, Zx, Zy, Zz, ZA, ZB, ZC, ZD, ZE, ZF, decide_eq_true_eq, ZG, ZH, ZI, ZJ, ZK, ZL, ZM, ZN, ZO, ZP, ZQ, ZR, ZS, Option.some.injEq, exists_eq_left', ZT, ZU, ZV, ZW, ZX, ZY, true_and, and_true, true_or, or_true, false_or, or_false, ite_true, ite_false, cond_true, cond_false, ZZ, Qa, if_true, if_false, decide_true, decide_false, Qb, Qc, Qd, Qe, Qf, Qg, Qh, Qi, Qj, Qk, Ql, Qm, Qn, Qo, Qp, rb0, rb1, rb2, rb3, rb4, tf0, tf1, tf2, tf3, tf4, Heap.get_upd_ne, Heap.get_new_ne, Heap.get_new_at, overL_one, if_pos, stX_exactN, e0, e1, e5, hc1]
        refine run_draw (ps := []) (by kernel_rfl) (by kernel_rfl) ?_
        simp (disch := (first | omega | rfl | (simp only [Heap.nx_upd, Heap.nx_new]; omega))) only [↓reduceIte, reduceCtorEq, Za, Zb, Zc, Zd, Ze, Zf, Zg, Zh, Zi, Zj, Zk, Zl, Zm, Zn, Zo, Zp, Zq, Zr, Zs, Zt, Zu, Zv, gval, Zw, Zx, Zy, Zz, ZA, ZB, ZC, ZD, ZE, ZF, decide_eq_true_eq, ZG, ZH, ZI, ZJ, ZK, ZL, ZM, ZN, ZO, ZP, ZQ, ZR, ZS, Option.some.injEq, exists_eq_left', ZT, ZU, ZV, ZW, ZX, ZY, true_and, and_true, true_or, or_true, false_or, or_false, ite_true, ite_false, cond_true, cond_false, ZZ, Qa, if_true, if_false, decide_true, decide_false, Qb, Qc, Qd, Qe, Qf, Qg, Qh, Qi, Qj, Qk, Ql, Qm, Qn, Qo, Qp, rb0, rb1, rb2, rb3, rb4, tf0, tf1, tf2, tf3, tf4, Heap.get_upd_ne, Heap.get_new_ne, Heap.get_new_at, overL_one, if_pos, stX_exactN, e0, e1, e5, hc1, hc2, x1, x2, z1, z2, Nat.mul_one, wrapI]
        refine runB_bool (fun hd => ?_) (fun hd => ?_)
        · simp only [↓reduceIte, reduceCtorEq, Za, Zb, Zc, Zd, Ze, Zf, Zg, Zh, Zi, Zj, Zk, Zl, Zm, Zn, Zo, Zp, Zq, Zr, Zs, Zt, Zu, Zv, gval, Zw, Zx, Zy, Zz, ZA, ZB, ZC, ZD, ZE, ZF, decide_eq_true_eq, ZG, ZH, ZI, ZJ, ZK, ZL, ZM, ZN, ZO, ZP, ZQ, ZR, ZS, Option.some.injEq, exists_eq_left', ZT, ZU, ZV, ZW, ZX, ZY, true_and, and_true, true_or, or_true, false_or, or_false, ite_true, ite_false, cond_true, cond_false, ZZ, Qa, if_true, if_false, decide_true, decide_false, Qb, Qc, Qd, Qe, Qf, Qg, Qh, Qi, Qj, Qk, Ql, Qm, Qn, Qo, Qp, rb0, rb1, rb2, rb3, rb4, tf0, tf1, tf2, tf3, tf4]
          refine hQx _ _ _ (by simp) ⟨rfl, .inr ⟨rfl, ?_, fun e => ?_⟩⟩
          · simp only [↓reduceIte, reduceCtorEq, Za, Zb, Zc, Zd, Ze, Zf, Zg, Zh, Zi, Zj, Zk, Zl, Zm, Zn, Zo, Zp, Zq, Zr, Zs, Zt, Zu, Zv, gval, Zw, Zx, Zy, Zz, ZA, ZB, ZC, ZD, ZE, ZF, decide_eq_true_eq, ZG, ZH, ZI, ZJ, ZK, ZL, ZM, ZN, ZO, ZP, ZQ, ZR, ZS, Option.some.injEq, exists_eq_left', ZT, ZU, ZV, ZW, ZX, ZY, true_and, and_true, true_or, or_true, false_or, or_false, ite_true, ite_false, cond_true, cond_false, ZZ, Qa, if_true, if_false, decide_true, decide_false, Qb, Qc, Qd, Qe, Qf, Qg, Qh, Qi, Qj, Qk, Ql, Qm, Qn, Qo, Qp, rb0, rb1, rb2, rb3, rb4, tf0, tf1, tf2, tf3, tf4]
          · subst e
            rw [x3] at z3
            cases z3
            simp at hd
        · have hd : y = y' := by simpa using hd
          simp (disch := (first | omega | rfl | (simp only [Heap.nx_upd, Heap.nx_new]; omega))) only [↓reduceIte, reduceCtorEq, Za, Zb, Zc, Zd, Ze, Zf, Zg, Zh, Zi, Zj, Zk, Zl, Zm, Zn, Zo, Zp, Zq, Zr, Zs, Zt, Zu, Zv, gval, Zw, Zx, Zy, Zz, ZA, ZB, ZC, ZD, ZE, ZF, decide_eq_true_eq, ZG, ZH, ZI, ZJ, ZK, ZL, ZM, ZN, ZO, ZP, ZQ, ZR, ZS, Option.some.injEq, exists_eq_left', ZT, ZU, ZV, ZW, ZX, ZY, true_and, and_true, true_or, or_true, false_or, or_false, ite_true, ite_false, cond_true, cond_false, ZZ, Qa, if_true, if_false, decide_true, decide_false, Qb, Qc, Qd, Qe, Qf, Qg, Qh, Qi, Qj, Qk, Ql, Qm, Qn, Qo, Qp, rb0, rb1, rb2, rb3, rb4, tf0, tf1, tf2, tf3, tf4, Heap.get_upd_ne, Heap.get_new_ne, Heap.get_new_at, overL_one, if_pos, stX_exactN, e0, e1, e5, wrapI]
          refine hQn _ _ _ ?_ ⟨i + 1, rfl, by omega, rfl, ?_, ?_, ?_, fun j hj' => ?_⟩
          · omega
          · simp only [↓reduceIte, reduceCtorEq, Za, Zb, Zc, Zd, Ze, Zf, Zg, Zh, Zi, Zj, Zk, Zl, Zm, Zn, Zo, Zp, Zq, Zr, Zs, Zt, Zu, Zv, gval, Zw, Zx, Zy, Zz, ZA, ZB, ZC, ZD, ZE, ZF, decide_eq_true_eq, ZG, ZH, ZI, ZJ, ZK, ZL, ZM, ZN, ZO, ZP, ZQ, ZR, ZS, Option.some.injEq, exists_eq_left', ZT, ZU, ZV, ZW, ZX, ZY, true_and, and_true, true_or, or_true, false_or, or_false, ite_true, ite_false, cond_true, cond_false, ZZ, Qa, if_true, if_false, decide_true, decide_false, Qb, Qc, Qd, Qe, Qf, Qg, Qh, Qi, Qj, Qk, Ql, Qm, Qn, Qo, Qp, rb0, rb1, rb2, rb3, rb4, tf0, tf1, tf2, tf3, tf4, e0]
          · simp only [↓reduceIte, reduceCtorEq, Za, Zb, Zc, Zd, Ze, Zf, Zg, Zh, Zi, Zj, Zk, Zl, Zm, Zn, Zo, Zp, Zq, Zr, Zs, Zt, Zu, Zv, gval, Zw, Zx, Zy, Zz, ZA, ZB, ZC, ZD, ZE, ZF, decide_eq_true_eq, ZG, ZH, ZI, ZJ, ZK, ZL, ZM, ZN, ZO, ZP, ZQ, ZR, ZS, Option.some.injEq, exists_eq_left', ZT, ZU, ZV, ZW, ZX, ZY, true_and, and_true, true_or, or_true, false_or, or_false, ite_true, ite_false, cond_true, cond_false, ZZ, Qa, if_true, if_false, decide_true, decide_false, Qb, Qc, Qd, Qe, Qf, Qg, Qh, Qi, Qj, Qk, Ql, Qm, Qn, Qo, Qp, rb0, rb1, rb2, rb3, rb4, tf0, tf1, tf2, tf3, tf4, e1]
          · simp only [↓reduceIte, reduceCtorEq, Za, Zb, Zc, Zd, Ze, Zf, Zg, Zh, Zi, Zj, Zk, Zl, Zm, Zn, Zo, Zp, Zq, Zr, Zs, Zt, Zu, Zv, gval, Zw, Zx, Zy, Zz, ZA, ZB, ZC, ZD, ZE, ZF, decide_eq_true_eq, ZG, ZH, ZI, ZJ, ZK, ZL, ZM, ZN, ZO, ZP, ZQ, ZR, ZS, Option.some.injEq, exists_eq_left', ZT, ZU, ZV, ZW, ZX, ZY, true_and, and_true, true_or, or_true, false_or, or_false, ite_true, ite_false, cond_true, cond_false, ZZ, Qa, if_true, if_false, decide_true, decide_false, Qb, Qc, Qd, Qe, Qf, Qg, Qh, Qi, Qj, Qk, Ql, Qm, Qn, Qo, Qp, rb0, rb1, rb2, rb3, rb4, tf0, tf1, tf2, tf3, tf4]
            rfl
          · by_cases e : j < i
            · exact hj j e
            · obtain rfl : j = i := by omega
              rw [x3, z3, hd]
      · have hc1 : ¬ (i : Int) < (l.length : Int) := by omega
        simp (disch := (first | omega | rfl | (simp only [Heap.nx_upd, Heap.nx_new]; omega))) only [↓reduceIte, reduceCtorEq, Za, Zb, Zc, Zd, Ze, Zf, Zg, Zh, Zi, Zj, Zk, Zl, Zm, Zn, Zo, Zp, Zq, Zr, Zs, Zt, Zu, Zv, gval, Zw, Zx, Zy, Zz, ZA, ZB, ZC, ZD, ZE, ZF, decide_eq_true_eq, ZG, ZH, ZI, ZJ, ZK, ZL, ZM, ZN, ZO, ZP, ZQ, ZR, ZS, Option.some.injEq, exists_eq_left', ZT, ZU, ZV, ZW, ZX, ZY, true_and, and_true, true_or, or_true, false_or, or_false, ite_true, ite_false, cond_true, cond_false, ZZ, Qa, if_true, if_false, decide_true, decide_false, Qb, Qc, Qd, Qe, Qf, Qg, Qh, Qi, Qj, Qk, Ql, Qm, Qn, Qo, Qp, rb0, rb1, rb2, rb3, rb4, tf0, tf1, tf2, tf3, tf4, Heap.get_upd_ne, Heap.get_new_ne, Heap.get_new_at, overL_one, if_pos, stX_exactN, e0, e1, e5, hc1]
        refine hQx _ _ _ (by simp) ⟨rfl, .inl ⟨rfl, lists_same (by omega) fun j hj' => hj j (by omega)⟩⟩
    · refine ⟨0, rfl, by omega, rfl, ?_, ?_, ?_, fun j hj => by omega⟩
      · simp only [↓reduceIte, reduceCtorEq, Za, Zb, Zc, Zd, Ze, Zf, Zg, Zh, Zi, Zj, Zk, Zl, Zm, Zn, Zo, Zp, Zq, Zr, Zs, Zt, Zu, Zv, gval, Zw, Zx, Zy, Zz, ZA, ZB, ZC, ZD, ZE, ZF, decide_eq_true_eq, ZG, ZH, ZI, ZJ, ZK, ZL, ZM, ZN, ZO, ZP, ZQ, ZR, ZS, Option.some.injEq, exists_eq_left', ZT, ZU, ZV, ZW, ZX, ZY, true_and, and_true, true_or, or_true, false_or, or_false, ite_true, ite_false, cond_true, cond_false, ZZ, Qa, if_true, if_false, decide_true, decide_false, Qb, Qc, Qd, Qe, Qf, Qg, Qh, Qi, Qj, Qk, Ql, Qm, Qn, Qo, Qp, rb0, rb1, rb2, rb3, rb4, tf0, tf1, tf2, tf3, tf4]
      · simp only [↓reduceIte, reduceCtorEq, Za, Zb, Zc, Zd, Ze, Zf, Zg, Zh, Zi, Zj, Zk, Zl, Zm, Zn, Zo, Zp, Zq, Zr, Zs, Zt, Zu, Zv, gval, Zw, Zx, Zy, Zz, ZA, ZB, ZC, ZD, ZE, ZF, decide_eq_true_eq, ZG, ZH, ZI, ZJ, ZK, ZL, ZM, ZN, ZO, ZP, ZQ, ZR, ZS, Option.some.injEq, exists_eq_left', ZT, ZU, ZV, ZW, ZX, ZY, true_and, and_true, true_or, or_true, false_or, or_false, ite_true, ite_false, cond_true, cond_false, ZZ, Qa, if_true, if_false, decide_true, decide_false, Qb, Qc, Qd, Qe, Qf, Qg, Qh, Qi, Qj, Qk, Ql, Qm, Qn, Qo, Qp, rb0, rb1, rb2, rb3, rb4, tf0, tf1, tf2, tf3, tf4]
      · simp only [↓reduceIte, reduceCtorEq, Za, Zb, Zc, Zd, Ze, Zf, Zg, Zh, Zi, Zj, Zk, Zl, Zm, Zn, Zo, Zp, Zq, Zr, Zs, Zt, Zu, Zv, gval, Zw, Zx, Zy, Zz, ZA, ZB, ZC, ZD, ZE, ZF, decide_eq_true_eq, ZG, ZH, ZI, ZJ, ZK, ZL, ZM, ZN, ZO, ZP, ZQ, ZR, ZS, Option.some.injEq, exists_eq_left', ZT, ZU, ZV, ZW, ZX, ZY, true_and, and_true, true_or, or_true, false_or, or_false, ite_true, ite_false, cond_true, cond_false, ZZ, Qa, if_true, if_false, decide_true, decide_false, Qb, Qc, Qd, Qe, Qf, Qg, Qh, Qi, Qj, Qk, Ql, Qm, Qn, Qo, Qp, rb0, rb1, rb2, rb3, rb4, tf0, tf1, tf2, tf3, tf4]
    · rintro ex e h2 - ⟨rfl, ⟨rfl, he⟩ | ⟨rfl, e4, he⟩⟩
      · simp only [↓reduceIte, reduceCtorEq, Za, Zb, Zc, Zd, Ze, Zf, Zg, Zh, Zi, Zj, Zk, Zl, Zm, Zn, Zo, Zp, Zq, Zr, Zs, Zt, Zu, Zv, gval, Zw, Zx, Zy, Zz, ZA, ZB, ZC, ZD, ZE, ZF, decide_eq_true_eq, ZG, ZH, ZI, ZJ, ZK, ZL, ZM, ZN, ZO, ZP, ZQ, ZR, ZS, Option.some.injEq, exists_eq_left', ZT, ZU, ZV, ZW, ZX, ZY, true_and, and_true, true_or, or_true, false_or, or_false, ite_true, ite_false, cond_true, cond_false, ZZ, Qa, if_true, if_false, decide_true, decide_false, Qb, Qc, Qd, Qe, Qf, Qg, Qh, Qi, Qj, Qk, Ql, Qm, Qn, Qo, Qp, rb0, rb1, rb2, rb3, rb4, tf0, tf1, tf2, tf3, tf4]
        exact hR true ⟨fun _ => he, fun _ => rfl⟩
      · simp only [↓reduceIte, reduceCtorEq, Za, Zb, Zc, Zd, Ze, Zf, Zg, Zh, Zi, Zj, Zk, Zl, Zm, Zn, Zo, Zp, Zq, Zr, Zs, Zt, Zu, Zv, gval, Zw, Zx, Zy, Zz, ZA, ZB, ZC, ZD, ZE, ZF, decide_eq_true_eq, ZG, ZH, ZI, ZJ, ZK, ZL, ZM, ZN, ZO, ZP, ZQ, ZR, ZS, Option.some.injEq, exists_eq_left', ZT, ZU, ZV, ZW, ZX, ZY, true_and, and_true, true_or, or_true, false_or, or_false, ite_true, ite_false, cond_true, cond_false, ZZ, Qa, if_true, if_false, decide_true, decide_false, Qb, Qc, Qd, Qe, Qf, Qg, Qh, Qi, Qj, Qk, Ql, Qm, Qn, Qo, Qp, rb0, rb1, rb2, rb3, rb4, tf0, tf1, tf2, tf3, tf4, e4]
        exact hR false ⟨fun e => by simp at e, fun e => absurd e he⟩
/-- words that are read alone. -/
structure Ro (h : Heap) (lo : Nat) (v : Value) (l : List Int) : Prop where
  is : ∃ a c, v = .slice a l.length c ∧ l.length ≤ c ∧ (l.length = 0 ∨ ∃ b off X, b < lo ∧ a = some ⟨b, off, none⟩ ∧ h.get b = some (cellsB X .ro) ∧ off + l.length ≤ X.length ∧ ∀ i, i < l.length → X[off + i]? = (l[i]?).map (.int .u64 ·))
/-- words that are read alone, or that lie in a row of their own. -/
structure Rk (h : Heap) (lo : Nat) (v : Value) (l : List Int) : Prop where
  is : ∃ a c, v = .slice a l.length c ∧ l.length ≤ c ∧ (l.length = 0 ∨ ∃ b off X K, b < lo ∧ a = some ⟨b, off, none⟩ ∧ h.get b = some (cellsB X K) ∧ off + l.length ≤ X.length ∧ (∀ i, i < l.length → X[off + i]? = (l[i]?).map (.int .u64 ·)) ∧ (K = .ro ∨ (K = .loose 1 ∧ off + c = X.length)))
theorem Ro.rk {lo : Nat} {v : Value} {l : List Int} (x : Ro h lo v l) : Rk h lo v l := by
  obtain ⟨a, c, e1, e2, e3⟩ := x.is
  refine ⟨a, c, e1, e2, e3.imp id ?_⟩
  rintro ⟨b', off, X, g1, g2, g3, g4, g5⟩
  exact ⟨b', off, X, _, g1, g2, g3, g4, g5, .inl rfl⟩
theorem bs1_47 (v : Int) (nx : Nat) : effBuildSlice Try.prog 47 1 [(0, .int .u64 v)] nx = some ⟨.slice (some ⟨nx, 0, none⟩) 1 1, [], [cellsB [.int .u64 v] .exact]⟩ := by
  rw [u_buildSlice 47 1 nx _ mk_47 (by omega)]; rfl
theorem bs3_47 (u v w : Int) (nx : Nat) : effBuildSlice Try.prog 47 3 [(0, .int .u64 u), (1, .int .u64 v), (2, .int .u64 w)] nx = some ⟨.slice (some ⟨nx, 0, none⟩) 3 3, [], [cellsB [.int .u64 u, .int .u64 v, .int .u64 w] .exact]⟩ := by
  rw [u_buildSlice 47 3 nx _ mk_47 (by omega)]; rfl
abbrev u64s (l : List Int) : List Value := l.map (.int .u64 ·)
/-- a row of words that grows. -/
structure Grown (h : Heap) (lo : Nat) (b : Option Nat) (l : List Int) (v : Value) : Prop where
  is : (b = none ∧ v = .slice none 0 0 ∧ l = []) ∨ ∃ b', b = some b' ∧ lo ≤ b' ∧ b' < h.nx ∧ v = .slice (some ⟨b', 0, none⟩) l.length l.length ∧ h.get b' = some (cellsB (u64s l) (.loose 1))
theorem Grown.of {h' : Heap} {lo : Nat} {b : Option Nat} {l : List Int} {v : Value} (x : Grown h lo b l v) (hn : h.nx ≤ h'.nx) (hk : ∀ b', b = some b' → h'.get b' = h.get b') : Grown h' lo b l v := by
  rcases x.is with ⟨h1, h2, h3⟩ | ⟨b', h1, h2, h3, h4, h5⟩
  · exact ⟨.inl ⟨h1, h2, h3⟩⟩
  · exact ⟨.inr ⟨b', h1, h2, by omega, h4, (hk b' h1).trans h5⟩⟩
theorem Grown.lt {lo : Nat} {b : Option Nat} {l : List Int} {v : Value} (x : Grown h lo b l v) : ∀ b', b = some b' → lo ≤ b' ∧ b' < h.nx := by
  intro b' hb'
  rcases x.is with ⟨h1, _, _⟩ | ⟨b'', h1, h2, h3, _, _⟩
  · rw [h1] at hb'; cases hb'
  · rw [h1] at hb'; cases hb'; exact ⟨h2, h3⟩
theorem Grown.ne {lo : Nat} {b : Option Nat} {l : List Int} {v : Value} (x : Grown h lo b l v) {b' : Nat} (hb : b' < lo) : b ≠ some b' := fun e => by
  have := x.lt b' e; omega
theorem Words.first {lo : Nat} {a : Option Addr} {c : Nat} {l : List Int} (x : Words h lo (.slice a l.length c) l) : firstL h.get 1 l.length (.slice a l.length c) = some (u64s l) := by
  obtain ⟨a', c', he, hx⟩ := x.is
  cases he
  rcases hx with hx | ⟨b, off, X, k, h1, rfl, h3, h4, h5⟩
  · rw [hx, List.eq_nil_of_length_eq_zero hx]; rfl
  · rw [firstL_slc _ _ _ _ _ _ _ _ _ h3 (by omega)]
    congr 1
    apply List.ext_getElem?
    intro j
    rw [List.getElem?_take, List.getElem?_map]
    by_cases hj : j < l.length
    · rw [if_pos (by omega), List.getElem?_drop, h5 j hj]
    · rw [if_neg (by omega), List.getElem?_eq_none (by omega)]; rfl
theorem Grown.new {lo : Nat} {b : Option Nat} {l : List Int} {v : Value} (x : Grown h lo b l v) {c : Blk} : Grown (h.new c) lo b l v :=
  x.of (by rw [Heap.nx_new]; omega) fun b' hb' => by rw [Heap.get_new_ne _ _ (by have := x.lt b' hb'; omega)]
theorem Grown.words {lo : Nat} {b : Option Nat} {l : List Int} {v : Value} (x : Grown h lo b l v) : Words h lo v l := by
  rcases x.is with ⟨h1, rfl, rfl⟩ | ⟨b', h1, h2, h3, rfl, h5⟩
  · exact ⟨none, 0, rfl, .inl rfl⟩
  · refine ⟨_, _, rfl, .inr ⟨b', 0, _, _, ⟨h2, h3⟩, rfl, h5, by simp, fun i hi => ?_⟩⟩
    rw [Nat.zero_add, List.getElem?_map]
theorem Grown.rk {lo : Nat} {b : Option Nat} {l : List Int} {v : Value} (x : Grown h lo b l v) : Rk h h.nx v l := by
  rcases x.is with ⟨h1, rfl, rfl⟩ | ⟨b', h1, h2, h3, rfl, h5⟩
  · exact ⟨none, 0, rfl, Nat.le_refl _, .inl rfl⟩
  · refine ⟨_, _, rfl, Nat.le_refl _, .inr ⟨b', 0, _, _, h3, rfl, h5, by simp, fun i hi => ?_, .inr ⟨rfl, by simp⟩⟩⟩
    rw [Nat.zero_add, List.getElem?_map]
theorem grow {lo : Nat} {b : Option Nat} {l xs : List Int} {v x : Value} (g : Grown h lo b l v) (hlo : lo ≤ h.nx) (hx : lenV x = some xs.length) (hnew : firstL h.get 1 xs.length x = some (u64s xs)) (hsz : l.length + xs.length ≤ 20000000000) :
    ∃ E h1 b1 w, aAppend Try.prog #[47, 47] v x h.get h.nx = some E ∧ E.val = w ∧ h.apply E = h1 ∧ Grown h1 lo b1 (l ++ xs) w ∧ h.nx ≤ h1.nx ∧ (∀ b', b ≠ some b' → b' < h.nx → h1.get b' = h.get b') ∧ (∀ b', b1 = some b' → b = some b' ∨ h.nx ≤ b') := by
  rcases g.is with ⟨rfl, rfl, rfl⟩ | ⟨b', rfl, h2, h3, rfl, h5⟩
  · cases xs with
    | nil =>
      refine ⟨⟨.slice none 0 0, [], []⟩, h, none, .slice none 0 0, ?_, rfl, rfl, ⟨.inl ⟨rfl, rfl, rfl⟩⟩, ?_, fun b' _ _ => ?_, fun b' hb' => by cases hb'⟩
      · rw [aAppend_unf (appT_ok app_47_47) none 0 0 0 x _ _ hx (by omega) hnew]
        rfl
      · exact Nat.le_refl _
      · rfl
    | cons y ys =>
      refine ⟨_, _, some h.nx, _, aAppend_nil app_47_47 (y :: ys).length x _ _ hx (by simp) (by simp only [List.length_nil] at hsz; omega) hnew, rfl, rfl, ⟨.inr ⟨h.nx, rfl, hlo, ?_, rfl, ?_⟩⟩, ?_, fun b' _ hb' => ?_, fun b' hb' => ?_⟩
      · rw [Heap.apply_nw, Heap.nx_new]; omega
      · rw [Heap.apply_nw, Heap.get_new_same]; rfl
      · rw [Heap.apply_nw, Heap.nx_new]; omega
      · rw [Heap.apply_nw, Heap.get_new_ne _ _ (by omega)]
      · cases hb'; exact .inr (Nat.le_refl _)
  · by_cases hz : xs.length = 0
    · have hxs : xs = [] := List.eq_nil_of_length_eq_zero hz
      subst hxs
      have hlen : (u64s l).length = l.length := by simp
      refine ⟨⟨.slice (some ⟨b', 0, none⟩) l.length l.length, [(b', cellsB (u64s l) (.loose 1))], []⟩, h.upd b' (cellsB (u64s l) (.loose 1)), some b', _, ?_, rfl, rfl, ⟨.inr ⟨b', rfl, h2, ?_, ?_, ?_⟩⟩, ?_, fun b'' hb'' _ => ?_, fun b'' hb'' => .inl hb''⟩
      · rw [aAppend_unf (appT_ok app_47_47) _ l.length l.length 0 x _ _ hx (by simp only [List.length_nil] at hsz; omega) hnew, if_pos (by omega)]
        simp only [h5, cellsB]
        rw [if_pos (by simp)]
        rfl
      · rw [Heap.nx_upd]; exact h3
      · simp
      · rw [Heap.get_upd_same, List.append_nil]
      · exact Nat.le_refl _
      · rw [Heap.get_upd_ne _ _ (fun e => hb'' (by rw [e]))]
    · refine ⟨_, _, some h.nx, _, aAppend_loose app_47_47 b' l.length xs.length x _ _ h5 (by simp) hx hz (by omega) hnew, rfl, rfl, ⟨.inr ⟨h.nx, rfl, hlo, ?_, by simp, ?_⟩⟩, ?_, fun b'' hb'' hn => ?_, fun b'' hb'' => ?_⟩
      · rw [Heap.apply_wr_nw, Heap.nx_new, Heap.nx_upd]; omega
      · rw [Heap.apply_wr_nw, Heap.get_new_at _ (by rw [Heap.nx_upd]; omega)]; simp
      · rw [Heap.apply_wr_nw, Heap.nx_new, Heap.nx_upd]; omega
      · rw [Heap.apply_wr_nw, Heap.get_new_ne _ _ (by rw [Heap.nx_upd]; omega), Heap.get_upd_ne _ _ (fun e => hb'' (by rw [e]))]
      · cases hb''; exact .inr (Nat.le_refl _)
theorem Ro.keep {h' : Heap} {lo : Nat} {v : Value} {l : List Int} (x : Ro h lo v l) (hk : ∀ b, b < lo → h'.get b = h.get b) : Ro h' lo v l := by
  obtain ⟨a, c, e1, e2, e3⟩ := x.is
  refine ⟨a, c, e1, e2, e3.imp id ?_⟩
  rintro ⟨b', off, X, g1, g2, g3, g4, g5⟩
  exact ⟨b', off, X, g1, g2, by rw [hk b' g1]; exact g3, g4, g5⟩
theorem Ro.words {lo : Nat} {v : Value} {l : List Int} (x : Ro h lo v l) (hlo : lo ≤ h.nx) : Words h 0 v l := by
  obtain ⟨a, c, e1, e2, e3⟩ := x.is
  refine ⟨a, c, e1, e3.imp id ?_⟩
  rintro ⟨b', off, X, g1, g2, g3, g4, g5⟩
  exact ⟨b', off, X, _, by omega, g2, g3, g4, g5⟩
end Go.Proofs.Ytmmjeifdgfolmaa
end
section
/- Processes: who lives, whether one may be among the others. Conditions: the table lies as the rules name. -/
namespace Go.Proofs.Ytmmjeifdgfolmaa
open Go.AM
open Nat renaming reduceBEq → Za, reduceEqDiff → Zb, reduceAdd → Zc, reduceSub → Zd, reduceMul → Ze, reduceLT → Zf, reduceLeDiff → Zg, reduceDiv → Zh, reduceMod → Zi, reducePow → Zj, blt_eq → ZF, zero_add → Qc, add_zero → Qd
open Int renaming reduceAdd → Zk, reduceSub → Zl, reduceMul → Zm, reduceLT → Zn, reduceLE → Zo, reduceEq → Zp, reduceNe → Zq, reduceNeg → Zr, reduceToNat → Zs, reduceDiv → Zt, reduceMod → Zu, reducePow → Zv, cast_ofNat_Int → Zw, toNat_natCast → Qb
open List renaming set_cons_zero → Zx, set_cons_succ → Zy, map_toArray → Zz, cons_append → ZA, nil_append → ZB, append_nil → ZC, all_cons → ZD, all_nil → ZE, getElem?_cons_zero → ZJ, getElem?_cons_succ → ZK, length_cons → ZL, length_nil → ZM, map_cons → ZN, map_nil → ZO, isEmpty_nil → Qe, any_cons → Qf, any_nil → Qg, drop_zero → Qk, drop_succ_cons → Ql, take_succ_cons → Qm, take_zero → Qn, take_nil → Qo, drop_nil → Qp
open Bool renaming and_true → ZG, true_and → ZH, and_self → ZI, not_true → ZT, not_false → ZU, true_eq_false → ZZ, false_eq_true → Qa, or_false → Qh, false_or → Qi, and_eq_true → Qj
open Option renaming map_some → ZP, map_none → ZQ, bind_some → ZR, getD_some → ZS, isNone_some → ZV, isNone_none → ZW, isSome_some → ZX, isSome_none → ZY
set_option linter.unusedSimpArgs false
variable {sp : Special} {h : Heap} {R : Out → Heap → Prop}
theorem lk89 (r : Nat) (n : Int) (g : Nat → Option Blk) : effLookup Try.prog 89 (.map (some r)) (.int .i64 n) false g = lkX .i64 n (.pointer none) (g r) := u_lookup (kt := 3) (elem := 92) (by kernel_rfl) (by kernel_rfl) (by kernel_rfl) r n g
theorem up89 (r : Nat) (n : Int) (v : Value) (g : Nat → Option Blk) : effUpdate Try.prog 89 (.map (some r)) (.int .i64 n) v g = upX .i64 r n v (g r) := u_update (kt := 3) (elem := 92) (by kernel_rfl) (by kernel_rfl) r n v g
theorem rg89 (r nx : Nat) (g : Nat → Option Blk) : effRange Try.prog 89 (.map (some r)) g nx = rgX r nx (g r) := u_range (kt := 3) (elem := 92) (by kernel_rfl) r nx g
/-- a table of processes: who is there; state, parent, status. -/
structure Tab (h : Heap) (bp r : Nat) (l : List Ent) (c : Nat) (z : Int → Bool) (pa su : Int → Int) (ex : Int → Bool) : Prop where
  p : h.get bp = some (cellsB [.map (some r)] .exact)
  m : h.get r = some (.map (entV .i64 l) c)
  yes : ∀ n, ex n = true → ∃ b, lookI l n = some (.pointer (some ⟨b, 0, none⟩)) ∧ h.get b = some (cellsB [.bool (z n), .int .i64 (pa n), .int .i64 (su n)] .exact)
  no : ∀ n, ex n = false → lookI l n = none
set_option maxRecDepth 100000 in
theorem pat_spec (h0 : (sp 50).isNone = true) {bp r : Nat} {l : List Ent} {c : Nat} {z : Int → Bool} {pa su : Int → Int} {ex : Int → Bool} (t : Tab h bp r l c z pa su ex) {n : Int} (hR : R (.ret ((lookI l n).getD (.pointer none))) h) :
    WF Try.prog 0 sp 50 [.pointer (some ⟨bp, 0, none⟩), .int .i64 n] h R := by
  refine wf_fn (fn := Try.f50) h0 rfl (by kernel_rfl) rfl ?_
  simp (disch := (first | omega | rfl | (simp only [Heap.nx_upd, Heap.nx_new]; omega))) only [↓reduceIte, reduceCtorEq, Za, Zb, Zc, Zd, Ze, Zf, Zg, Zh, Zi, Zj, Zk, Zl, Zm, Zn, Zo, Zp, Zq, Zr, Zs, Zt, Zu, Zv, gval, Zw, Zx, Zy, Zz, ZA, ZB, ZC, ZD, ZE, ZF, decide_eq_true_eq, ZG, ZH, ZI, ZJ, ZK, ZL, ZM, ZN, ZO, ZP, ZQ, ZR, ZS, Option.some.injEq, exists_eq_left', ZT, ZU, ZV, ZW, ZX, ZY, true_and, and_true, true_or, or_true, false_or, or_false, ite_true, ite_false, cond_true, cond_false, ZZ, Qa, if_true, if_false, decide_true, decide_false, Qb, Qc, Qd, Qe, Qf, Qg, Qh, Qi, Qj, Qk, Ql, Qm, Qn, Qo, Qp, rb0, rb1, rb2, rb3, rb4, tf0, tf1, tf2, tf3, tf4, Heap.get_upd_ne, Heap.get_new_ne, Heap.get_new_at, overL_one, if_pos, stX_exactN, Try.f50, t.p, lk89, t.m, lkX_some]
  exact hR
set_option maxRecDepth 100000 in
theorem plive_spec (h0 : (sp 20).isNone = true) (h1 : (sp 50).isNone = true) {bp r : Nat} {l : List Ent} {c : Nat} {z : Int → Bool} {pa su : Int → Int} {ex : Int → Bool} (t : Tab h bp r l c z pa su ex) {n : Int} (hR : R (.ret (.bool (ex n && !z n))) h) :
    WF Try.prog 0 sp 20 [.pointer (some ⟨bp, 0, none⟩), .int .i64 n] h R := by
  refine wf_fn (fn := Try.f20) h0 rfl (by kernel_rfl) rfl ?_
  simp only [↓reduceIte, reduceCtorEq, Za, Zb, Zc, Zd, Ze, Zf, Zg, Zh, Zi, Zj, Zk, Zl, Zm, Zn, Zo, Zp, Zq, Zr, Zs, Zt, Zu, Zv, gval, Zw, Zx, Zy, Zz, ZA, ZB, ZC, ZD, ZE, ZF, decide_eq_true_eq, ZG, ZH, ZI, ZJ, ZK, ZL, ZM, ZN, ZO, ZP, ZQ, ZR, ZS, Option.some.injEq, exists_eq_left', ZT, ZU, ZV, ZW, ZX, ZY, true_and, and_true, true_or, or_true, false_or, or_false, ite_true, ite_false, cond_true, cond_false, ZZ, Qa, if_true, if_false, decide_true, decide_false, Qb, Qc, Qd, Qe, Qf, Qg, Qh, Qi, Qj, Qk, Ql, Qm, Qn, Qo, Qp, rb0, rb1, rb2, rb3, rb4, tf0, tf1, tf2, tf3, tf4, Try.f20]
  refine runC_of (pat_spec h1 t ?_)
  cases he : ex n with
  | false =>
    rw [he] at hR
    rw [t.no n he, Option.getD_none]
    simp only [↓reduceIte, reduceCtorEq, Za, Zb, Zc, Zd, Ze, Zf, Zg, Zh, Zi, Zj, Zk, Zl, Zm, Zn, Zo, Zp, Zq, Zr, Zs, Zt, Zu, Zv, gval, Zw, Zx, Zy, Zz, ZA, ZB, ZC, ZD, ZE, ZF, decide_eq_true_eq, ZG, ZH, ZI, ZJ, ZK, ZL, ZM, ZN, ZO, ZP, ZQ, ZR, ZS, Option.some.injEq, exists_eq_left', ZT, ZU, ZV, ZW, ZX, ZY, true_and, and_true, true_or, or_true, false_or, or_false, ite_true, ite_false, cond_true, cond_false, ZZ, Qa, if_true, if_false, decide_true, decide_false, Qb, Qc, Qd, Qe, Qf, Qg, Qh, Qi, Qj, Qk, Ql, Qm, Qn, Qo, Qp, rb0, rb1, rb2, rb3, rb4, tf0, tf1, tf2, tf3, tf4]
    exact hR
  | true =>
    rw [he] at hR
    obtain ⟨b, e1, e2⟩ := t.yes n he
    rw [e1]
    simp (disch := (first | omega | rfl | (simp only [Heap.nx_upd, Heap.nx_new]; omega))) only [↓reduceIte, reduceCtorEq, Za, Zb, Zc, Zd, Ze, Zf, Zg, Zh, Zi, Zj, Zk, Zl, Zm, Zn, Zo, Zp, Zq, Zr, Zs, Zt, Zu, Zv, gval, Zw, Zx, Zy, Zz, ZA, ZB, ZC, ZD, ZE, ZF, decide_eq_true_eq, ZG, ZH, ZI, ZJ, ZK, ZL, ZM, ZN, ZO, ZP, ZQ, ZR, ZS, Option.some.injEq, exists_eq_left', ZT, ZU, ZV, ZW, ZX, ZY, true_and, and_true, true_or, or_true, false_or, or_false, ite_true, ite_false, cond_true, cond_false, ZZ, Qa, if_true, if_false, decide_true, decide_false, Qb, Qc, Qd, Qe, Qf, Qg, Qh, Qi, Qj, Qk, Ql, Qm, Qn, Qo, Qp, rb0, rb1, rb2, rb3, rb4, tf0, tf1, tf2, tf3, tf4, Heap.get_upd_ne, Heap.get_new_ne, Heap.get_new_at, overL_one, if_pos, stX_exactN, e2]
    exact hR
/-- does the line of parents end? -/
def chainQ (pa : Int → Int) (ex : Int → Bool) : Nat → Int → Bool
  | 0, _ => false
  | f + 1, p => if p = 0 then true else if ex p then chainQ pa ex f (pa p) else false
set_option maxRecDepth 100000 in
theorem right_spec (h57 : (sp 57).isNone = true) (h20 : (sp 20).isNone = true) (h50 : (sp 50).isNone = true) {bp r : Nat} {l : List Ent} {c : Nat} {z : Int → Bool} {pa su : Int → Int} {ex : Int → Bool} (t : Tab h bp r l c z pa su ex) {b : Nat} {zb : Bool} {p s : Int} (hb : h.get b = some (cellsB [.bool zb, .int .i64 p, .int .i64 s] .exact))
    (hR : R (.ret (.bool (if zb then (ex p && !z p) && decide (p ≠ 0) else chainQ pa ex 9 p))) h) : WF Try.prog 0 sp 57 [.pointer (some ⟨bp, 0, none⟩), .pointer (some ⟨b, 0, none⟩)] h R := by
  refine wf_fn (fn := Try.f57) h57 rfl (by kernel_rfl) rfl ?_
  cases zb with
  | true =>
    simp (disch := (first | omega | rfl | (simp only [Heap.nx_upd, Heap.nx_new]; omega))) only [↓reduceIte, reduceCtorEq, Za, Zb, Zc, Zd, Ze, Zf, Zg, Zh, Zi, Zj, Zk, Zl, Zm, Zn, Zo, Zp, Zq, Zr, Zs, Zt, Zu, Zv, gval, Zw, Zx, Zy, Zz, ZA, ZB, ZC, ZD, ZE, ZF, decide_eq_true_eq, ZG, ZH, ZI, ZJ, ZK, ZL, ZM, ZN, ZO, ZP, ZQ, ZR, ZS, Option.some.injEq, exists_eq_left', ZT, ZU, ZV, ZW, ZX, ZY, true_and, and_true, true_or, or_true, false_or, or_false, ite_true, ite_false, cond_true, cond_false, ZZ, Qa, if_true, if_false, decide_true, decide_false, Qb, Qc, Qd, Qe, Qf, Qg, Qh, Qi, Qj, Qk, Ql, Qm, Qn, Qo, Qp, rb0, rb1, rb2, rb3, rb4, tf0, tf1, tf2, tf3, tf4, Heap.get_upd_ne, Heap.get_new_ne, Heap.get_new_at, overL_one, if_pos, stX_exactN, Try.f57, hb]
    refine runC_of (plive_spec h20 h50 t ?_)
    cases hl : (ex p && !z p) with
    | false =>
      simp (disch := (first | omega | rfl | (simp only [Heap.nx_upd, Heap.nx_new]; omega))) only [↓reduceIte, reduceCtorEq, Za, Zb, Zc, Zd, Ze, Zf, Zg, Zh, Zi, Zj, Zk, Zl, Zm, Zn, Zo, Zp, Zq, Zr, Zs, Zt, Zu, Zv, gval, Zw, Zx, Zy, Zz, ZA, ZB, ZC, ZD, ZE, ZF, decide_eq_true_eq, ZG, ZH, ZI, ZJ, ZK, ZL, ZM, ZN, ZO, ZP, ZQ, ZR, ZS, Option.some.injEq, exists_eq_left', ZT, ZU, ZV, ZW, ZX, ZY, true_and, and_true, true_or, or_true, false_or, or_false, ite_true, ite_false, cond_true, cond_false, ZZ, Qa, if_true, if_false, decide_true, decide_false, Qb, Qc, Qd, Qe, Qf, Qg, Qh, Qi, Qj, Qk, Ql, Qm, Qn, Qo, Qp, rb0, rb1, rb2, rb3, rb4, tf0, tf1, tf2, tf3, tf4, Heap.get_upd_ne, Heap.get_new_ne, Heap.get_new_at, overL_one, if_pos, stX_exactN, hb]
      simpa [hl] using hR
    | true =>
      by_cases hp : p = 0
      · simp (disch := (first | omega | rfl | (simp only [Heap.nx_upd, Heap.nx_new]; omega))) only [↓reduceIte, reduceCtorEq, Za, Zb, Zc, Zd, Ze, Zf, Zg, Zh, Zi, Zj, Zk, Zl, Zm, Zn, Zo, Zp, Zq, Zr, Zs, Zt, Zu, Zv, gval, Zw, Zx, Zy, Zz, ZA, ZB, ZC, ZD, ZE, ZF, decide_eq_true_eq, ZG, ZH, ZI, ZJ, ZK, ZL, ZM, ZN, ZO, ZP, ZQ, ZR, ZS, Option.some.injEq, exists_eq_left', ZT, ZU, ZV, ZW, ZX, ZY, true_and, and_true, true_or, or_true, false_or, or_false, ite_true, ite_false, cond_true, cond_false, ZZ, Qa, if_true, if_false, decide_true, decide_false, Qb, Qc, Qd, Qe, Qf, Qg, Qh, Qi, Qj, Qk, Ql, Qm, Qn, Qo, Qp, rb0, rb1, rb2, rb3, rb4, tf0, tf1, tf2, tf3, tf4, Heap.get_upd_ne, Heap.get_new_ne, Heap.get_new_at, overL_one, if_pos, stX_exactN, hb, hp]
        simpa [hl, hp] using hR
      · simp (disch := (first | omega | rfl | (simp only [Heap.nx_upd, Heap.nx_new]; omega))) only [↓reduceIte, reduceCtorEq, Za, Zb, Zc, Zd, Ze, Zf, Zg, Zh, Zi, Zj, Zk, Zl, Zm, Zn, Zo, Zp, Zq, Zr, Zs, Zt, Zu, Zv, gval, Zw, Zx, Zy, Zz, ZA, ZB, ZC, ZD, ZE, ZF, decide_eq_true_eq, ZG, ZH, ZI, ZJ, ZK, ZL, ZM, ZN, ZO, ZP, ZQ, ZR, ZS, Option.some.injEq, exists_eq_left', ZT, ZU, ZV, ZW, ZX, ZY, true_and, and_true, true_or, or_true, false_or, or_false, ite_true, ite_false, cond_true, cond_false, ZZ, Qa, if_true, if_false, decide_true, decide_false, Qb, Qc, Qd, Qe, Qf, Qg, Qh, Qi, Qj, Qk, Ql, Qm, Qn, Qo, Qp, rb0, rb1, rb2, rb3, rb4, tf0, tf1, tf2, tf3, tf4, Heap.get_upd_ne, Heap.get_new_ne, Heap.get_new_at, overL_one, if_pos, stX_exactN, hb, hp]
        simpa [hl, hp] using hR
  | false =>
    simp only [Bool.false_eq_true, if_false] at hR
    simp (disch := (first | omega | rfl | (simp only [Heap.nx_upd, Heap.nx_new]; omega))) only [↓reduceIte, reduceCtorEq, Za, Zb, Zc, Zd, Ze, Zf, Zg, Zh, Zi, Zj, Zk, Zl, Zm, Zn, Zo, Zp, Zq, Zr, Zs, Zt, Zu, Zv, gval, Zw, Zx, Zy, Zz, ZA, ZB, ZC, ZD, ZE, ZF, decide_eq_true_eq, ZG, ZH, ZI, ZJ, ZK, ZL, ZM, ZN, ZO, ZP, ZQ, ZR, ZS, Option.some.injEq, exists_eq_left', ZT, ZU, ZV, ZW, ZX, ZY, true_and, and_true, true_or, or_true, false_or, or_false, ite_true, ite_false, cond_true, cond_false, ZZ, Qa, if_true, if_false, decide_true, decide_false, Qb, Qc, Qd, Qe, Qf, Qg, Qh, Qi, Qj, Qk, Ql, Qm, Qn, Qo, Qp, rb0, rb1, rb2, rb3, rb4, tf0, tf1, tf2, tf3, tf4, Heap.get_upd_ne, Heap.get_new_ne, Heap.get_new_at, overL_one, if_pos, stX_exactN, Try.f57, hb]
    generalize hres : chainQ pa ex 9 p = res at hR
    refine run_loop2 rfl (fun m e h2 => ∃ (k : Nat) (b' : Nat) (z' : Bool) (p' s' : Int), m = 9 - k ∧ k ≤ 9 ∧ h2 = h ∧ e.at 0 = .pointer (some ⟨bp, 0, none⟩) ∧ e.at 5 = .pointer (some ⟨b', 0, none⟩) ∧ e.at 24 = .int .i64 k ∧ h.get b' = some (cellsB [.bool z', .int .i64 p', .int .i64 s'] .exact) ∧ chainQ pa ex (9 - k) p' = res)
      (fun x e h2 => h2 = h ∧ ((x = .exit 0 ∧ res = false) ∨ (x = .ret ∧ e.at 4 = .bool res))) ?_ 9 _ _ ?_ ?_
    · rintro m e h2 ⟨k, b', z', p', s', rfl, hk, rfl, e0, e5, e24, hb', hq⟩ Q' hQn hQx
      by_cases hk9 : k < 9
      · have hk9' : (k : Int) < 9 := by omega
        obtain ⟨f, hf⟩ : ∃ f, 9 - k = f + 1 := ⟨9 - k - 1, by omega⟩
        have hwk : wrapF .i64 ((k : Int) + 1) = (k : Int) + 1 := wrapI (by omega) (by omega)
        rw [hf] at hq
        unfold chainQ at hq
        by_cases hp : p' = 0
        · rw [if_pos hp] at hq
          subst hq
          simp (disch := (first | omega | rfl | (simp only [Heap.nx_upd, Heap.nx_new]; omega))) only [↓reduceIte, reduceCtorEq, Za, Zb, Zc, Zd, Ze, Zf, Zg, Zh, Zi, Zj, Zk, Zl, Zm, Zn, Zo, Zp, Zq, Zr, Zs, Zt, Zu, Zv, gval, Zw, Zx, Zy, Zz, ZA, ZB, ZC, ZD, ZE, ZF, decide_eq_true_eq, ZG, ZH, ZI, ZJ, ZK, ZL, ZM, ZN, ZO, ZP, ZQ, ZR, ZS, Option.some.injEq, exists_eq_left', ZT, ZU, ZV, ZW, ZX, ZY, true_and, and_true, true_or, or_true, false_or, or_false, ite_true, ite_false, cond_true, cond_false, ZZ, Qa, if_true, if_false, decide_true, decide_false, Qb, Qc, Qd, Qe, Qf, Qg, Qh, Qi, Qj, Qk, Ql, Qm, Qn, Qo, Qp, rb0, rb1, rb2, rb3, rb4, tf0, tf1, tf2, tf3, tf4, Heap.get_upd_ne, Heap.get_new_ne, Heap.get_new_at, overL_one, if_pos, stX_exactN, e0, e5, e24, hk9', hb', hp]
          exact hQx _ _ _ (by simp) ⟨rfl, .inr ⟨rfl, by simp only [↓reduceIte, reduceCtorEq, Za, Zb, Zc, Zd, Ze, Zf, Zg, Zh, Zi, Zj, Zk, Zl, Zm, Zn, Zo, Zp, Zq, Zr, Zs, Zt, Zu, Zv, gval, Zw, Zx, Zy, Zz, ZA, ZB, ZC, ZD, ZE, ZF, decide_eq_true_eq, ZG, ZH, ZI, ZJ, ZK, ZL, ZM, ZN, ZO, ZP, ZQ, ZR, ZS, Option.some.injEq, exists_eq_left', ZT, ZU, ZV, ZW, ZX, ZY, true_and, and_true, true_or, or_true, false_or, or_false, ite_true, ite_false, cond_true, cond_false, ZZ, Qa, if_true, if_false, decide_true, decide_false, Qb, Qc, Qd, Qe, Qf, Qg, Qh, Qi, Qj, Qk, Ql, Qm, Qn, Qo, Qp, rb0, rb1, rb2, rb3, rb4, tf0, tf1, tf2, tf3, tf4]⟩⟩
        · rw [if_neg hp] at hq
          simp (disch := (first | omega | rfl | (simp only [Heap.nx_upd, Heap.nx_new]; omega))) only [↓reduceIte, reduceCtorEq, Za, Zb, Zc, Zd, Ze, Zf, Zg, Zh, Zi, Zj, Zk, Zl, Zm, Zn, Zo, Zp, Zq, Zr, Zs, Zt, Zu, Zv, gval, Zw, Zx, Zy, Zz, ZA, ZB, ZC, ZD, ZE, ZF, decide_eq_true_eq, ZG, ZH, ZI, ZJ, ZK, ZL, ZM, ZN, ZO, ZP, ZQ, ZR, ZS, Option.some.injEq, exists_eq_left', ZT, ZU, ZV, ZW, ZX, ZY, true_and, and_true, true_or, or_true, false_or, or_false, ite_true, ite_false, cond_true, cond_false, ZZ, Qa, if_true, if_false, decide_true, decide_false, Qb, Qc, Qd, Qe, Qf, Qg, Qh, Qi, Qj, Qk, Ql, Qm, Qn, Qo, Qp, rb0, rb1, rb2, rb3, rb4, tf0, tf1, tf2, tf3, tf4, Heap.get_upd_ne, Heap.get_new_ne, Heap.get_new_at, overL_one, if_pos, stX_exactN, e0, e5, e24, hk9', hb', hp]
          refine run_draw (ps := []) (by kernel_rfl) (by kernel_rfl) ?_
          cases hex : ex p' with
          | false =>
            rw [hex] at hq
            simp only [Bool.false_eq_true, if_false] at hq
            subst hq
            simp (disch := (first | omega | rfl | (simp only [Heap.nx_upd, Heap.nx_new]; omega))) only [↓reduceIte, reduceCtorEq, Za, Zb, Zc, Zd, Ze, Zf, Zg, Zh, Zi, Zj, Zk, Zl, Zm, Zn, Zo, Zp, Zq, Zr, Zs, Zt, Zu, Zv, gval, Zw, Zx, Zy, Zz, ZA, ZB, ZC, ZD, ZE, ZF, decide_eq_true_eq, ZG, ZH, ZI, ZJ, ZK, ZL, ZM, ZN, ZO, ZP, ZQ, ZR, ZS, Option.some.injEq, exists_eq_left', ZT, ZU, ZV, ZW, ZX, ZY, true_and, and_true, true_or, or_true, false_or, or_false, ite_true, ite_false, cond_true, cond_false, ZZ, Qa, if_true, if_false, decide_true, decide_false, Qb, Qc, Qd, Qe, Qf, Qg, Qh, Qi, Qj, Qk, Ql, Qm, Qn, Qo, Qp, rb0, rb1, rb2, rb3, rb4, tf0, tf1, tf2, tf3, tf4, Heap.get_upd_ne, Heap.get_new_ne, Heap.get_new_at, overL_one, if_pos, stX_exactN, e0, e5, hb', t.p, lk89, t.m, lkX_some, t.no p' hex, Option.getD_none]
            exact hQx _ _ _ (by simp) ⟨rfl, .inr ⟨rfl, by simp only [↓reduceIte, reduceCtorEq, Za, Zb, Zc, Zd, Ze, Zf, Zg, Zh, Zi, Zj, Zk, Zl, Zm, Zn, Zo, Zp, Zq, Zr, Zs, Zt, Zu, Zv, gval, Zw, Zx, Zy, Zz, ZA, ZB, ZC, ZD, ZE, ZF, decide_eq_true_eq, ZG, ZH, ZI, ZJ, ZK, ZL, ZM, ZN, ZO, ZP, ZQ, ZR, ZS, Option.some.injEq, exists_eq_left', ZT, ZU, ZV, ZW, ZX, ZY, true_and, and_true, true_or, or_true, false_or, or_false, ite_true, ite_false, cond_true, cond_false, ZZ, Qa, if_true, if_false, decide_true, decide_false, Qb, Qc, Qd, Qe, Qf, Qg, Qh, Qi, Qj, Qk, Ql, Qm, Qn, Qo, Qp, rb0, rb1, rb2, rb3, rb4, tf0, tf1, tf2, tf3, tf4]⟩⟩
          | true =>
            rw [hex] at hq
            obtain ⟨b2, g1, g2⟩ := t.yes p' hex
            simp (disch := (first | omega | rfl | (simp only [Heap.nx_upd, Heap.nx_new]; omega))) only [↓reduceIte, reduceCtorEq, Za, Zb, Zc, Zd, Ze, Zf, Zg, Zh, Zi, Zj, Zk, Zl, Zm, Zn, Zo, Zp, Zq, Zr, Zs, Zt, Zu, Zv, gval, Zw, Zx, Zy, Zz, ZA, ZB, ZC, ZD, ZE, ZF, decide_eq_true_eq, ZG, ZH, ZI, ZJ, ZK, ZL, ZM, ZN, ZO, ZP, ZQ, ZR, ZS, Option.some.injEq, exists_eq_left', ZT, ZU, ZV, ZW, ZX, ZY, true_and, and_true, true_or, or_true, false_or, or_false, ite_true, ite_false, cond_true, cond_false, ZZ, Qa, if_true, if_false, decide_true, decide_false, Qb, Qc, Qd, Qe, Qf, Qg, Qh, Qi, Qj, Qk, Ql, Qm, Qn, Qo, Qp, rb0, rb1, rb2, rb3, rb4, tf0, tf1, tf2, tf3, tf4, Heap.get_upd_ne, Heap.get_new_ne, Heap.get_new_at, overL_one, if_pos, stX_exactN, e0, e5, hb', t.p, lk89, t.m, lkX_some, g1, e24, hwk]
            refine hQn _ _ _ (by omega) ⟨k + 1, b2, _, _, _, rfl, by omega, rfl, ?_, ?_, ?_, g2, ?_⟩
            · simp only [↓reduceIte, reduceCtorEq, Za, Zb, Zc, Zd, Ze, Zf, Zg, Zh, Zi, Zj, Zk, Zl, Zm, Zn, Zo, Zp, Zq, Zr, Zs, Zt, Zu, Zv, gval, Zw, Zx, Zy, Zz, ZA, ZB, ZC, ZD, ZE, ZF, decide_eq_true_eq, ZG, ZH, ZI, ZJ, ZK, ZL, ZM, ZN, ZO, ZP, ZQ, ZR, ZS, Option.some.injEq, exists_eq_left', ZT, ZU, ZV, ZW, ZX, ZY, true_and, and_true, true_or, or_true, false_or, or_false, ite_true, ite_false, cond_true, cond_false, ZZ, Qa, if_true, if_false, decide_true, decide_false, Qb, Qc, Qd, Qe, Qf, Qg, Qh, Qi, Qj, Qk, Ql, Qm, Qn, Qo, Qp, rb0, rb1, rb2, rb3, rb4, tf0, tf1, tf2, tf3, tf4, e0]
            · simp only [↓reduceIte, reduceCtorEq, Za, Zb, Zc, Zd, Ze, Zf, Zg, Zh, Zi, Zj, Zk, Zl, Zm, Zn, Zo, Zp, Zq, Zr, Zs, Zt, Zu, Zv, gval, Zw, Zx, Zy, Zz, ZA, ZB, ZC, ZD, ZE, ZF, decide_eq_true_eq, ZG, ZH, ZI, ZJ, ZK, ZL, ZM, ZN, ZO, ZP, ZQ, ZR, ZS, Option.some.injEq, exists_eq_left', ZT, ZU, ZV, ZW, ZX, ZY, true_and, and_true, true_or, or_true, false_or, or_false, ite_true, ite_false, cond_true, cond_false, ZZ, Qa, if_true, if_false, decide_true, decide_false, Qb, Qc, Qd, Qe, Qf, Qg, Qh, Qi, Qj, Qk, Ql, Qm, Qn, Qo, Qp, rb0, rb1, rb2, rb3, rb4, tf0, tf1, tf2, tf3, tf4]
            · simp only [↓reduceIte, reduceCtorEq, Za, Zb, Zc, Zd, Ze, Zf, Zg, Zh, Zi, Zj, Zk, Zl, Zm, Zn, Zo, Zp, Zq, Zr, Zs, Zt, Zu, Zv, gval, Zw, Zx, Zy, Zz, ZA, ZB, ZC, ZD, ZE, ZF, decide_eq_true_eq, ZG, ZH, ZI, ZJ, ZK, ZL, ZM, ZN, ZO, ZP, ZQ, ZR, ZS, Option.some.injEq, exists_eq_left', ZT, ZU, ZV, ZW, ZX, ZY, true_and, and_true, true_or, or_true, false_or, or_false, ite_true, ite_false, cond_true, cond_false, ZZ, Qa, if_true, if_false, decide_true, decide_false, Qb, Qc, Qd, Qe, Qf, Qg, Qh, Qi, Qj, Qk, Ql, Qm, Qn, Qo, Qp, rb0, rb1, rb2, rb3, rb4, tf0, tf1, tf2, tf3, tf4]
              rfl
            · rw [show 9 - (k + 1) = f by omega]
              simpa only [if_true] using hq
      · obtain rfl : k = 9 := by omega
        simp (disch := (first | omega | rfl | (simp only [Heap.nx_upd, Heap.nx_new]; omega))) only [↓reduceIte, reduceCtorEq, Za, Zb, Zc, Zd, Ze, Zf, Zg, Zh, Zi, Zj, Zk, Zl, Zm, Zn, Zo, Zp, Zq, Zr, Zs, Zt, Zu, Zv, gval, Zw, Zx, Zy, Zz, ZA, ZB, ZC, ZD, ZE, ZF, decide_eq_true_eq, ZG, ZH, ZI, ZJ, ZK, ZL, ZM, ZN, ZO, ZP, ZQ, ZR, ZS, Option.some.injEq, exists_eq_left', ZT, ZU, ZV, ZW, ZX, ZY, true_and, and_true, true_or, or_true, false_or, or_false, ite_true, ite_false, cond_true, cond_false, ZZ, Qa, if_true, if_false, decide_true, decide_false, Qb, Qc, Qd, Qe, Qf, Qg, Qh, Qi, Qj, Qk, Ql, Qm, Qn, Qo, Qp, rb0, rb1, rb2, rb3, rb4, tf0, tf1, tf2, tf3, tf4, Heap.get_upd_ne, Heap.get_new_ne, Heap.get_new_at, overL_one, if_pos, stX_exactN, e24]
        exact hQx _ _ _ (by simp) ⟨rfl, .inl ⟨rfl, hq.symm⟩⟩
    · refine ⟨0, b, false, p, s, rfl, by omega, rfl, ?_, ?_, ?_, hb, hres⟩
      · simp only [↓reduceIte, reduceCtorEq, Za, Zb, Zc, Zd, Ze, Zf, Zg, Zh, Zi, Zj, Zk, Zl, Zm, Zn, Zo, Zp, Zq, Zr, Zs, Zt, Zu, Zv, gval, Zw, Zx, Zy, Zz, ZA, ZB, ZC, ZD, ZE, ZF, decide_eq_true_eq, ZG, ZH, ZI, ZJ, ZK, ZL, ZM, ZN, ZO, ZP, ZQ, ZR, ZS, Option.some.injEq, exists_eq_left', ZT, ZU, ZV, ZW, ZX, ZY, true_and, and_true, true_or, or_true, false_or, or_false, ite_true, ite_false, cond_true, cond_false, ZZ, Qa, if_true, if_false, decide_true, decide_false, Qb, Qc, Qd, Qe, Qf, Qg, Qh, Qi, Qj, Qk, Ql, Qm, Qn, Qo, Qp, rb0, rb1, rb2, rb3, rb4, tf0, tf1, tf2, tf3, tf4]
      · simp only [↓reduceIte, reduceCtorEq, Za, Zb, Zc, Zd, Ze, Zf, Zg, Zh, Zi, Zj, Zk, Zl, Zm, Zn, Zo, Zp, Zq, Zr, Zs, Zt, Zu, Zv, gval, Zw, Zx, Zy, Zz, ZA, ZB, ZC, ZD, ZE, ZF, decide_eq_true_eq, ZG, ZH, ZI, ZJ, ZK, ZL, ZM, ZN, ZO, ZP, ZQ, ZR, ZS, Option.some.injEq, exists_eq_left', ZT, ZU, ZV, ZW, ZX, ZY, true_and, and_true, true_or, or_true, false_or, or_false, ite_true, ite_false, cond_true, cond_false, ZZ, Qa, if_true, if_false, decide_true, decide_false, Qb, Qc, Qd, Qe, Qf, Qg, Qh, Qi, Qj, Qk, Ql, Qm, Qn, Qo, Qp, rb0, rb1, rb2, rb3, rb4, tf0, tf1, tf2, tf3, tf4]
      · simp only [↓reduceIte, reduceCtorEq, Za, Zb, Zc, Zd, Ze, Zf, Zg, Zh, Zi, Zj, Zk, Zl, Zm, Zn, Zo, Zp, Zq, Zr, Zs, Zt, Zu, Zv, gval, Zw, Zx, Zy, Zz, ZA, ZB, ZC, ZD, ZE, ZF, decide_eq_true_eq, ZG, ZH, ZI, ZJ, ZK, ZL, ZM, ZN, ZO, ZP, ZQ, ZR, ZS, Option.some.injEq, exists_eq_left', ZT, ZU, ZV, ZW, ZX, ZY, true_and, and_true, true_or, or_true, false_or, or_false, ite_true, ite_false, cond_true, cond_false, ZZ, Qa, if_true, if_false, decide_true, decide_false, Qb, Qc, Qd, Qe, Qf, Qg, Qh, Qi, Qj, Qk, Ql, Qm, Qn, Qo, Qp, rb0, rb1, rb2, rb3, rb4, tf0, tf1, tf2, tf3, tf4]
    · rintro x e h2 - ⟨rfl, ⟨rfl, hc⟩ | ⟨rfl, e4⟩⟩
      · simp only [↓reduceIte, reduceCtorEq, Za, Zb, Zc, Zd, Ze, Zf, Zg, Zh, Zi, Zj, Zk, Zl, Zm, Zn, Zo, Zp, Zq, Zr, Zs, Zt, Zu, Zv, gval, Zw, Zx, Zy, Zz, ZA, ZB, ZC, ZD, ZE, ZF, decide_eq_true_eq, ZG, ZH, ZI, ZJ, ZK, ZL, ZM, ZN, ZO, ZP, ZQ, ZR, ZS, Option.some.injEq, exists_eq_left', ZT, ZU, ZV, ZW, ZX, ZY, true_and, and_true, true_or, or_true, false_or, or_false, ite_true, ite_false, cond_true, cond_false, ZZ, Qa, if_true, if_false, decide_true, decide_false, Qb, Qc, Qd, Qe, Qf, Qg, Qh, Qi, Qj, Qk, Ql, Qm, Qn, Qo, Qp, rb0, rb1, rb2, rb3, rb4, tf0, tf1, tf2, tf3, tf4]
        subst hc
        exact hR
      · simp only [↓reduceIte, reduceCtorEq, Za, Zb, Zc, Zd, Ze, Zf, Zg, Zh, Zi, Zj, Zk, Zl, Zm, Zn, Zo, Zp, Zq, Zr, Zs, Zt, Zu, Zv, gval, Zw, Zx, Zy, Zz, ZA, ZB, ZC, ZD, ZE, ZF, decide_eq_true_eq, ZG, ZH, ZI, ZJ, ZK, ZL, ZM, ZN, ZO, ZP, ZQ, ZR, ZS, Option.some.injEq, exists_eq_left', ZT, ZU, ZV, ZW, ZX, ZY, true_and, and_true, true_or, or_true, false_or, or_false, ite_true, ite_false, cond_true, cond_false, ZZ, Qa, if_true, if_false, decide_true, decide_false, Qb, Qc, Qd, Qe, Qf, Qg, Qh, Qi, Qj, Qk, Ql, Qm, Qn, Qo, Qp, rb0, rb1, rb2, rb3, rb4, tf0, tf1, tf2, tf3, tf4, e4]
        exact hR
end Go.Proofs.Ytmmjeifdgfolmaa
end
section
/- Processes: Decode reads the words one by one. Conditions: the words lie as the rule names. -/
namespace Go.Proofs.Ytmmjeifdgfolmaa
open Go.AM
open Nat renaming reduceBEq → Za, reduceEqDiff → Zb, reduceAdd → Zc, reduceSub → Zd, reduceMul → Ze, reduceLT → Zf, reduceLeDiff → Zg, reduceDiv → Zh, reduceMod → Zi, reducePow → Zj, blt_eq → ZF, zero_add → Qc, add_zero → Qd
open Int renaming reduceAdd → Zk, reduceSub → Zl, reduceMul → Zm, reduceLT → Zn, reduceLE → Zo, reduceEq → Zp, reduceNe → Zq, reduceNeg → Zr, reduceToNat → Zs, reduceDiv → Zt, reduceMod → Zu, reducePow → Zv, cast_ofNat_Int → Zw, toNat_natCast → Qb
open List renaming set_cons_zero → Zx, set_cons_succ → Zy, map_toArray → Zz, cons_append → ZA, nil_append → ZB, append_nil → ZC, all_cons → ZD, all_nil → ZE, getElem?_cons_zero → ZJ, getElem?_cons_succ → ZK, length_cons → ZL, length_nil → ZM, map_cons → ZN, map_nil → ZO, isEmpty_nil → Qe, any_cons → Qf, any_nil → Qg, drop_zero → Qk, drop_succ_cons → Ql, take_succ_cons → Qm, take_zero → Qn, take_nil → Qo, drop_nil → Qp
open Bool renaming and_true → ZG, true_and → ZH, and_self → ZI, not_true → ZT, not_false → ZU, true_eq_false → ZZ, false_eq_true → Qa, or_false → Qh, false_or → Qi, and_eq_true → Qj
open Option renaming map_some → ZP, map_none → ZQ, bind_some → ZR, getD_some → ZS, isNone_some → ZV, isNone_none → ZW, isSome_some → ZX, isSome_none → ZY
set_option linter.unusedSimpArgs false
variable {sp : Special} {h : Heap} {R : Out → Heap → Prop}
theorem ap107 (a : Option Addr) (c : Nat) : effArrPtr Try.prog 107 (.slice a 3 c) = ret (.pointer a) := by kernel_rfl
theorem ne107 (x y : Operand) (a b c : Int) (g : Nat → Option Blk) : effBin Try.prog .neq 107 x y (.agg #[.int .u64 a, .int .u64 b, .int .u64 c]) (.agg #[.int .u64 0, .int .u64 0, .int .u64 0]) g = ret (.bool (!((a == 0) && ((b == 0) && (c == 0))))) := by
  have hu : Try.prog.underlying 107 = some (.array 3 44) := by kernel_rfl
  have h44 : Try.prog.underlying 44 = some (.int .u64) := by kernel_rfl
  have t44 : tyA Try.prog 44 = some false := by kernel_rfl
  have s44 : sizeOf? Try.prog 44 = some 1 := by kernel_rfl
  refine (eff_eq2 (r := (a == 0) && ((b == 0) && (c == 0))) ?_ rfl rfl (by kernel_rfl) ?_).2
  · kernel_rfl
  · have := ep_array2 (d := 9999) (xs := #[.int .u64 a, .int .u64 b, .int .u64 c]) (ys := #[.int .u64 0, .int .u64 0, .int .u64 0]) (fun i => match i with | 0 => a == 0 | 1 => b == 0 | _ => c == 0) hu s44 (fun i hi => by
      match i, hi with
      | 0, _ => exact ⟨_, _, ep_part_one t44 rfl, ep_part_one t44 rfl, ep_int2 h44⟩
      | 1, _ => exact ⟨_, _, ep_part_one t44 rfl, ep_part_one t44 rfl, ep_int2 h44⟩
      | 2, _ => exact ⟨_, _, ep_part_one t44 rfl, ep_part_one t44 rfl, ep_int2 h44⟩)
    rw [this]
    simp [List.range']
theorem pnew_spec (h0 : (sp 12).isNone = true) (hR : ∀ h', h'.nx = h.nx + 2 → h'.get (h.nx + 1) = some (cellsB [.map (some h.nx)] .exact) → h'.get h.nx = some (.map (entV .i64 []) 0) → (∀ b, b < h.nx → h'.get b = h.get b) → (HWf h → HWf h') → R (.ret (.pointer (some ⟨h.nx + 1, 0, none⟩))) h') : WF Try.prog 0 sp 12 [] h R := by
  refine wf_fn (fn := Try.f12) h0 rfl (by kernel_rfl) rfl ?_
  simp (disch := (first | omega | rfl | (simp only [Heap.nx_upd, Heap.nx_new]; omega))) only [↓reduceIte, reduceCtorEq, Za, Zb, Zc, Zd, Ze, Zf, Zg, Zh, Zi, Zj, Zk, Zl, Zm, Zn, Zo, Zp, Zq, Zr, Zs, Zt, Zu, Zv, gval, Zw, Zx, Zy, Zz, ZA, ZB, ZC, ZD, ZE, ZF, decide_eq_true_eq, ZG, ZH, ZI, ZJ, ZK, ZL, ZM, ZN, ZO, ZP, ZQ, ZR, ZS, Option.some.injEq, exists_eq_left', ZT, ZU, ZV, ZW, ZX, ZY, true_and, and_true, true_or, or_true, false_or, or_false, ite_true, ite_false, cond_true, cond_false, ZZ, Qa, if_true, if_false, decide_true, decide_false, Qb, Qc, Qd, Qe, Qf, Qg, Qh, Qi, Qj, Qk, Ql, Qm, Qn, Qo, Qp, rb0, rb1, rb2, rb3, rb4, tf0, tf1, tf2, tf3, tf4, Heap.get_upd_ne, Heap.get_new_ne, Heap.get_new_at, overL_one, if_pos, stX_exactN, Try.f12, u_makeMap]
  refine hR _ ?_ ?_ ?_ (fun b hb => ?_) (fun hw => (hw.new _).new _)
  · simp (disch := (first | omega | rfl | (simp only [Heap.nx_upd, Heap.nx_new]; omega))) only [Heap.get_upd_ne, Heap.get_new_ne, Heap.get_new_at, Heap.get_upd_same, Heap.get_new_same, Heap.nx_upd, Heap.nx_new]
  · simp (disch := (first | omega | rfl | (simp only [Heap.nx_upd, Heap.nx_new]; omega))) only [Heap.get_upd_ne, Heap.get_new_ne, Heap.get_new_at, Heap.get_upd_same, Heap.get_new_same, Heap.nx_upd, Heap.nx_new]
  · simp (disch := (first | omega | rfl | (simp only [Heap.nx_upd, Heap.nx_new]; omega))) only [Heap.get_upd_ne, Heap.get_new_ne, Heap.get_new_at, Heap.get_upd_same, Heap.get_new_same, Heap.nx_upd, Heap.nx_new]
    rfl
  · simp (disch := (first | omega | rfl | (simp only [Heap.nx_upd, Heap.nx_new]; omega))) only [Heap.get_upd_ne, Heap.get_new_ne, Heap.get_new_at, Heap.get_upd_same, Heap.get_new_same, Heap.nx_upd, Heap.nx_new]
end Go.Proofs.Ytmmjeifdgfolmaa
end
section
/- Processes: Decode. Conditions: the words lie as the rule names. -/
namespace Go.Proofs.Ytmmjeifdgfolmaa
open Go.AM
open Nat renaming reduceBEq → Za, reduceEqDiff → Zb, reduceAdd → Zc, reduceSub → Zd, reduceMul → Ze, reduceLT → Zf, reduceLeDiff → Zg, reduceDiv → Zh, reduceMod → Zi, reducePow → Zj, blt_eq → ZF, zero_add → Qc, add_zero → Qd
open Int renaming reduceAdd → Zk, reduceSub → Zl, reduceMul → Zm, reduceLT → Zn, reduceLE → Zo, reduceEq → Zp, reduceNe → Zq, reduceNeg → Zr, reduceToNat → Zs, reduceDiv → Zt, reduceMod → Zu, reducePow → Zv, cast_ofNat_Int → Zw, toNat_natCast → Qb
open List renaming set_cons_zero → Zx, set_cons_succ → Zy, map_toArray → Zz, cons_append → ZA, nil_append → ZB, append_nil → ZC, all_cons → ZD, all_nil → ZE, getElem?_cons_zero → ZJ, getElem?_cons_succ → ZK, length_cons → ZL, length_nil → ZM, map_cons → ZN, map_nil → ZO, isEmpty_nil → Qe, any_cons → Qf, any_nil → Qg, drop_zero → Qk, drop_succ_cons → Ql, take_succ_cons → Qm, take_zero → Qn, take_nil → Qo, drop_nil → Qp
open Bool renaming and_true → ZG, true_and → ZH, and_self → ZI, not_true → ZT, not_false → ZU, true_eq_false → ZZ, false_eq_true → Qa, or_false → Qh, false_or → Qi, and_eq_true → Qj
open Option renaming map_some → ZP, map_none → ZQ, bind_some → ZR, getD_some → ZS, isNone_some → ZV, isNone_none → ZW, isSome_some → ZX, isSome_none → ZY
set_option linter.unusedSimpArgs false
variable {sp : Special} {h : Heap} {R : Out → Heap → Prop}
def stW (W : List Int) (m : Int) : Int := W[(3 * m - 3).toNat]!
def paW (W : List Int) (m : Int) : Int := W[(3 * m - 2).toNat]!
def suW (W : List Int) (m : Int) : Int := W[(3 * m - 1).toNat]!
def zW (W : List Int) (m : Int) : Bool := decide (stW W m = 2)
def paI (W : List Int) (m : Int) : Int := wrapF .i64 (paW W m)
def suI (W : List Int) (m : Int) : Int := wrapF .i64 (suW W m)
def exW (W : List Int) (n : Nat) (m : Int) : Bool := decide (1 ≤ m ∧ m < n ∧ stW W m ≠ 0)
/-- words that a process may have. -/
def okW (W : List Int) (m : Int) : Prop := stW W m ≤ 2 ∧ paW W m ≤ 8 ∧ (stW W m = 0 → paW W m = 0 ∧ suW W m = 0) ∧ (stW W m = 1 → suW W m = 0)
def rightW (W : List Int) (m : Int) : Bool := if zW W m then (exW W 9 (paI W m) && !zW W (paI W m)) && decide (paI W m ≠ 0) else chainQ (paI W) (exW W 9) 9 (paI W m)
def accW (W : List Int) : Prop := W.length = 24 ∧ (∀ m : Int, 1 ≤ m → m < 9 → okW W m) ∧ ∀ m : Int, exW W 9 m = true → rightW W m = true
theorem lookI_app {l : List Ent} {x : Ent} {m : Int} : lookI (l ++ [x]) m = match lookI l m with
    | some v => some v
    | none => if m = x.1 then some x.2.1 else none := by
  induction l with
  | nil => rfl
  | cons y l ih =>
    show (if m = y.1 then some y.2.1 else lookI (l ++ [x]) m) = _
    rw [ih]
    show _ = match (if m = y.1 then some y.2.1 else lookI l m) with
      | some v => some v
      | none => if m = x.1 then some x.2.1 else none
    by_cases h : m = y.1
    · rw [if_pos h, if_pos h]
    · rw [if_neg h, if_neg h]
/-- a table as far as it was read. -/
structure Part (h : Heap) (bp r : Nat) (l : List Ent) (W : List Int) (n : Nat) : Prop where
  tab : Tab h bp r l l.length (zW W) (paI W) (suI W) (exW W n)
  ents : ∀ (i : Nat) (x : Ent), l[i]? = some x → x.2.2 = i ∧ exW W n x.1 = true ∧ lookI l x.1 = some x.2.1
  oks : ∀ m : Int, 1 ≤ m → m < n → okW W m
  ap : Apart l
theorem Tab.keep {h' : Heap} {bp r : Nat} {l : List Ent} {c : Nat} {z : Int → Bool} {pa su : Int → Int} {ex : Int → Bool} (t : Tab h bp r l c z pa su ex) (hwf : ∀ b x, h.get b = some x → h'.get b = some x) : Tab h' bp r l c z pa su ex :=
  ⟨hwf _ _ t.p, hwf _ _ t.m, fun n hn => by obtain ⟨b, e1, e2⟩ := t.yes n hn; exact ⟨b, e1, hwf _ _ e2⟩, t.no⟩
theorem Tab.upd {bp r d : Nat} {l : List Ent} {c : Nat} {z : Int → Bool} {pa su : Int → Int} {ex : Int → Bool} {X : Blk} (t : Tab h bp r l c z pa su ex) (hd : ∀ a k, h.get d ≠ some (cellsB a k)) (hd2 : ∀ es c, h.get d ≠ some (.map es c)) : Tab (h.upd d X) bp r l c z pa su ex := by
  have hc : ∀ b a k, h.get b = some (cellsB a k) → (h.upd d X).get b = some (cellsB a k) := fun b a k hb => by
    have hne : b ≠ d := fun e => hd a k (by rw [← e]; exact hb)
    rw [Heap.get_upd_ne _ _ hne]; exact hb
  have hrd : r ≠ d := fun e => hd2 (entV .i64 l) c (by rw [← e]; exact t.m)
  exact ⟨hc _ _ _ t.p, by rw [Heap.get_upd_ne _ _ hrd]; exact t.m, fun n hn => by obtain ⟨b, e1, e2⟩ := t.yes n hn; exact ⟨b, e1, hc _ _ _ e2⟩, t.no⟩
theorem lookI_mem {n : Int} {v : Value} : ∀ {l : List Ent}, lookI l n = some v → ∃ x ∈ l, x.1 = n ∧ x.2.1 = v
  | [], h => by cases h
  | x :: l, h => by
    have h : (if n = x.1 then some x.2.1 else lookI l n) = some v := h
    by_cases e : n = x.1
    · rw [if_pos e] at h
      cases h
      exact ⟨x, by simp, e.symm, rfl⟩
    · rw [if_neg e] at h
      obtain ⟨y, h1, h2⟩ := lookI_mem h
      exact ⟨y, by simp [h1], h2⟩
theorem find_birth {k : IntKind} : ∀ {l : List Ent} {o i : Nat} {x : Ent}, (∀ (j : Nat) (y : Ent), l[j]? = some y → y.2.2 = o + j) → l[i]? = some x → (entV k l).find? (fun y => Nat.beq y.2.2 (o + i)) = some (.int k x.1, x.2.1, x.2.2)
  | [], _, _, _, _, h => by simp at h
  | y :: l, o, 0, x, hb, h => by
    simp only [List.getElem?_cons_zero, Option.some.injEq] at h
    subst h
    have := hb 0 y rfl
    unfold entV
    rw [List.map_cons, List.find?_cons]
    simp only [this, Nat.beq_refl]
  | y :: l, o, i + 1, x, hb, h => by
    have h0 := hb 0 y rfl
    have ih := find_birth (k := k) (l := l) (o := o + 1) (i := i) (x := x) (fun j z hz => by have := hb (j + 1) z (by simpa using hz); omega) (by simpa using h)
    unfold entV at ih ⊢
    rw [List.map_cons, List.find?_cons]
    simp only [show Nat.beq y.2.2 (o + (i + 1)) = false from nbeq_ne (by omega)]
    rw [show o + (i + 1) = o + 1 + i by omega]
    exact ih
theorem exW_succ {W : List Int} {n : Nat} {m : Int} : exW W (n + 1) m = (exW W n m || (decide (m = n) && decide (1 ≤ n ∧ stW W n ≠ 0))) := by
  unfold exW
  by_cases h : m = n
  · subst h
    have e1 : ¬ (1 ≤ (n : Int) ∧ (n : Int) < (n : Int) ∧ stW W n ≠ 0) := by omega
    rw [decide_eq_false e1, decide_eq_true rfl, Bool.false_or, Bool.true_and]
    rw [Bool.eq_iff_iff, decide_eq_true_eq, decide_eq_true_eq]
    omega
  · rw [decide_eq_false h, Bool.false_and, Bool.or_false, Bool.eq_iff_iff, decide_eq_true_eq, decide_eq_true_eq]
    constructor
    · rintro ⟨q1, q2, q3⟩; exact ⟨q1, by omega, q3⟩
    · rintro ⟨q1, q2, q3⟩; exact ⟨q1, by omega, q3⟩
theorem Part.skip {h' : Heap} {bp r : Nat} {l : List Ent} {W : List Int} {n : Nat} (t : Part h bp r l W n) (hs : stW W n = 0) (hok : okW W n) (hk : ∀ b x, h.get b = some x → h'.get b = some x) : Part h' bp r l W (n + 1) := by
  have he : ∀ m, exW W (n + 1) m = exW W n m := fun m => by
    rw [exW_succ, decide_eq_false (show ¬ (1 ≤ n ∧ stW W n ≠ 0) from fun q => q.2 hs), Bool.and_false, Bool.or_false]
  have t2 := t.tab.keep hk
  refine ⟨⟨t2.p, t2.m, fun m hm => t2.yes m (by rw [← he]; exact hm), fun m hm => t2.no m (by rw [← he]; exact hm)⟩, fun i x hx => ?_, fun m q1 q2 => ?_, ?_⟩
  · rw [he]; exact t.ents i x hx
  · by_cases e : m = n
    · rw [e]; exact hok
    · exact t.oks m q1 (by omega)
  · exact t.ap
theorem Part.add {h' : Heap} {bp r b : Nat} {l : List Ent} {W : List Int} {n : Nat} (t : Part h bp r l W n) (hn : 1 ≤ n) (hs : stW W n ≠ 0) (hok : okW W n) (hr : h'.get r = some (.map (entV .i64 (l ++ [((n : Int), .pointer (some ⟨b, 0, none⟩), l.length)])) (l.length + 1)))
    (hb : h'.get b = some (cellsB [.bool (zW W n), .int .i64 (paI W n), .int .i64 (suI W n)] .exact)) (hk : ∀ b' x, b' ≠ r → h.get b' = some x → h'.get b' = some x) (hnr : ∀ b' x y, h.get b' = some (cellsB x y) → b' ≠ r) (hfr : ∀ b' x y, h.get b' = some (cellsB x y) → b' ≠ b) : Part h' bp r (l ++ [((n : Int), .pointer (some ⟨b, 0, none⟩), l.length)]) W (n + 1) := by
  have hnone : lookI l n = none := t.tab.no n (by unfold exW; rw [decide_eq_false]; omega)
  have hx1 : decide (1 ≤ n ∧ stW W n ≠ 0) = true := decide_eq_true ⟨hn, hs⟩
  refine ⟨⟨hk _ _ (hnr _ _ _ t.tab.p) t.tab.p, by rw [hr, List.length_append]; rfl, fun m hm => ?_, fun m hm => ?_⟩, fun i x hx => ?_, fun m q1 q2 => ?_, ?_⟩
  · rw [exW_succ, hx1, Bool.and_true, Bool.or_eq_true] at hm
    rw [lookI_app]
    rcases hm with hm | hm
    · obtain ⟨b', g1, g2⟩ := t.tab.yes m hm
      rw [g1]
      exact ⟨b', rfl, hk _ _ (hnr _ _ _ g2) g2⟩
    · have hm := of_decide_eq_true hm
      subst hm
      rw [hnone, if_pos rfl]
      exact ⟨b, rfl, hb⟩
  · rw [exW_succ, hx1, Bool.and_true, Bool.or_eq_false_iff] at hm
    rw [lookI_app, t.tab.no m hm.1, if_neg (of_decide_eq_false hm.2)]
  · rw [List.getElem?_append] at hx
    split at hx
    · obtain ⟨g1, g2, g3⟩ := t.ents i x hx
      refine ⟨g1, by rw [exW_succ, g2, Bool.true_or], ?_⟩
      rw [lookI_app, g3]
    · rename_i hi
      have hi0 : i - l.length = 0 := by
        have := (List.getElem?_eq_some_iff.1 hx).1
        simp only [List.length_cons, List.length_nil] at this
        omega
      rw [hi0] at hx
      simp only [List.getElem?_cons_zero, Option.some.injEq] at hx
      subst hx
      refine ⟨by show l.length = i; omega, ?_, ?_⟩
      · show exW W (n + 1) n = true
        rw [exW_succ, hx1, Bool.and_true, decide_eq_true rfl, Bool.or_true]
      · rw [lookI_app]
        show (match lookI l n with | some v => some v | none => if (n : Int) = n then _ else none) = _
        rw [hnone, if_pos rfl]
  · by_cases e : m = n
    · rw [e]; exact hok
    · exact t.oks m q1 (by omega)
  · refine List.pairwise_append.2 ⟨t.ap, List.pairwise_singleton _ _, fun x hx y hy => ?_⟩
    obtain rfl := List.mem_singleton.1 hy
    obtain ⟨i, hi⟩ := List.getElem?_of_mem hx
    obtain ⟨g1, g2, g3⟩ := t.ents i x hi
    obtain ⟨b', g4, g5⟩ := t.tab.yes _ g2
    have hil := (List.getElem?_eq_some_iff.1 hi).1
    refine ⟨fun e => ?_, fun e => ?_, fun e => ?_⟩
    · have e : x.1 = n := e
      unfold exW at g2
      have := of_decide_eq_true g2
      omega
    · have e : x.2.1 = .pointer (some ⟨b, 0, none⟩) := e
      rw [g4, e] at g3
      simp only [Option.some.injEq, Value.pointer.injEq, Addr.mk.injEq] at g3
      exact hfr _ _ _ g5 g3.1
    · have e : x.2.2 = l.length := e
      omega
theorem Try.mixed : Try.prog.follows .mixedOrders = true := by kernel_rfl
set_option maxRecDepth 100000 in
theorem pdecode_spec (hsp : SpecOk Try.prog 0 sp) (h12 : (sp 12).isNone = true) (h20 : (sp 20).isNone = true) (h50 : (sp 50).isNone = true) (h57 : (sp 57).isNone = true) {v : Value} {W : List Int} (hv : Rk h h.nx v W) (hw : ∀ y ∈ W, 0 ≤ y ∧ y < 18446744073709551616)
    (hno : ∀ h', ¬ accW W → h.nx ≤ h'.nx → (∀ b, b < h.nx → h'.get b = h.get b) → R (.ret (.tuple #[.pointer none, .int .i64 101])) h')
    (hok : ∀ h' bp r l, accW W → Tab h' bp r l l.length (zW W) (paI W) (suI W) (exW W 9) → Apart l ∧ (∀ x ∈ l, x.2.2 < l.length) ∧ h.nx ≤ r ∧ h.nx ≤ bp → h.nx ≤ h'.nx → (∀ b, b < h.nx → h'.get b = h.get b) → R (.ret (.tuple #[.pointer (some ⟨bp, 0, none⟩), .int .i64 0])) h') :
    WFS Try.prog 0 33 [v] h R := by
  refine WFS.of_hwf fun hwf => ?_
  letI : Ds Try.f33.ntmps := ⟨[]⟩
  refine WFS.fn (fn := Try.f33) rfl (by kernel_rfl) rfl ?_
  obtain ⟨a, c, rfl, hac, hx⟩ := hv.is
  refine Good.seq (Good.detq Try.mixed hsp (by kernel_rfl) fun Q1 hq => ?_)
  simp only [↓reduceIte, reduceCtorEq, Za, Zb, Zc, Zd, Ze, Zf, Zg, Zh, Zi, Zj, Zk, Zl, Zm, Zn, Zo, Zp, Zq, Zr, Zs, Zt, Zu, Zv, gval, Zw, Zx, Zy, Zz, ZA, ZB, ZC, ZD, ZE, ZF, decide_eq_true_eq, ZG, ZH, ZI, ZJ, ZK, ZL, ZM, ZN, ZO, ZP, ZQ, ZR, ZS, Option.some.injEq, exists_eq_left', ZT, ZU, ZV, ZW, ZX, ZY, true_and, and_true, true_or, or_true, false_or, or_false, ite_true, ite_false, cond_true, cond_false, ZZ, Qa, if_true, if_false, decide_true, decide_false, Qb, Qc, Qd, Qe, Qf, Qg, Qh, Qi, Qj, Qk, Ql, Qm, Qn, Qo, Qp, rb0, rb1, rb2, rb3, rb4, tf0, tf1, tf2, tf3, tf4, Try.f33]
  refine hq _ _ _ ⟨fun _ => ?_, fun h => absurd rfl h⟩
  refine Good.seq (Good.detq Try.mixed hsp (by kernel_rfl) fun Q1 hq => ?_)
  by_cases h24 : W.length = 24
  · have h24' : (W.length : Int) = 24 := by omega
    simp only [↓reduceIte, reduceCtorEq, Za, Zb, Zc, Zd, Ze, Zf, Zg, Zh, Zi, Zj, Zk, Zl, Zm, Zn, Zo, Zp, Zq, Zr, Zs, Zt, Zu, Zv, gval, Zw, Zx, Zy, Zz, ZA, ZB, ZC, ZD, ZE, ZF, decide_eq_true_eq, ZG, ZH, ZI, ZJ, ZK, ZL, ZM, ZN, ZO, ZP, ZQ, ZR, ZS, Option.some.injEq, exists_eq_left', ZT, ZU, ZV, ZW, ZX, ZY, true_and, and_true, true_or, or_true, false_or, or_false, ite_true, ite_false, cond_true, cond_false, ZZ, Qa, if_true, if_false, decide_true, decide_false, Qb, Qc, Qd, Qe, Qf, Qg, Qh, Qi, Qj, Qk, Ql, Qm, Qn, Qo, Qp, rb0, rb1, rb2, rb3, rb4, tf0, tf1, tf2, tf3, tf4, h24']
    refine hq _ _ _ ⟨fun _ => ?_, fun h => absurd rfl h⟩
    refine Good.seq (Good.detq Try.mixed hsp (by kernel_rfl) fun Q1 hq => ?_)
    simp only [↓reduceIte, reduceCtorEq, Za, Zb, Zc, Zd, Ze, Zf, Zg, Zh, Zi, Zj, Zk, Zl, Zm, Zn, Zo, Zp, Zq, Zr, Zs, Zt, Zu, Zv, gval, Zw, Zx, Zy, Zz, ZA, ZB, ZC, ZD, ZE, ZF, decide_eq_true_eq, ZG, ZH, ZI, ZJ, ZK, ZL, ZM, ZN, ZO, ZP, ZQ, ZR, ZS, Option.some.injEq, exists_eq_left', ZT, ZU, ZV, ZW, ZX, ZY, true_and, and_true, true_or, or_true, false_or, or_false, ite_true, ite_false, cond_true, cond_false, ZZ, Qa, if_true, if_false, decide_true, decide_false, Qb, Qc, Qd, Qe, Qf, Qg, Qh, Qi, Qj, Qk, Ql, Qm, Qn, Qo, Qp, rb0, rb1, rb2, rb3, rb4, tf0, tf1, tf2, tf3, tf4]
    refine runC_of (pnew_spec h12 fun h1 n1 p1 m1 k1 w1 => ?_)
    simp only [↓reduceIte, reduceCtorEq, Za, Zb, Zc, Zd, Ze, Zf, Zg, Zh, Zi, Zj, Zk, Zl, Zm, Zn, Zo, Zp, Zq, Zr, Zs, Zt, Zu, Zv, gval, Zw, Zx, Zy, Zz, ZA, ZB, ZC, ZD, ZE, ZF, decide_eq_true_eq, ZG, ZH, ZI, ZJ, ZK, ZL, ZM, ZN, ZO, ZP, ZQ, ZR, ZS, Option.some.injEq, exists_eq_left', ZT, ZU, ZV, ZW, ZX, ZY, true_and, and_true, true_or, or_true, false_or, or_false, ite_true, ite_false, cond_true, cond_false, ZZ, Qa, if_true, if_false, decide_true, decide_false, Qb, Qc, Qd, Qe, Qf, Qg, Qh, Qi, Qj, Qk, Ql, Qm, Qn, Qo, Qp, rb0, rb1, rb2, rb3, rb4, tf0, tf1, tf2, tf3, tf4]
    refine hq _ _ _ ⟨fun _ => ?_, fun h => absurd rfl h⟩
    refine Good.seq (Good.detq Try.mixed hsp (by kernel_rfl) fun Q1 hq => ?_)
    rcases hx with hx | ⟨bw, off, X, K, hbw, rfl, hX, hXl, hXi, hK⟩
    · omega
    have hmidc : ∀ (g : Nat → Option Blk) (n : Nat), g bw = some (cellsB X K) → 1 ≤ n → n ≤ 8 → slS (some 1) (some ⟨bw, off, none⟩) W.length c (some (.int .i64 ((3 * n - 3 : Nat) : Int))) (some (.int .i64 ((3 * n : Nat) : Int))) none g = ret (.slice (some ⟨bw, off + (3 * n - 3), none⟩) 3 (c - (3 * n - 3))) := by
      intro g n hg h1 h8
      rcases hK with rfl | ⟨rfl, hoc⟩
      · have := slS_mid (k := .i64) (k' := .i64) (n := W.length) (off := off) (c := c) (l := 3 * n - 3) (hi := 3 * n) hg (by omega) (by omega)
        rwa [if_neg (by omega), show 3 * n - (3 * n - 3) = 3 by omega] at this
      · have := slS_mid_loose (k := .i64) (k' := .i64) (n := W.length) (off := off) (c := c) (l := 3 * n - 3) (hi := 3 * n) hg hoc (by omega) (by omega)
        rwa [show 3 * n - (3 * n - 3) = 3 by omega] at this
    have hXr : ∀ k, k < 24 → X[off + k]? = some (.int .u64 W[k]!) := fun k hk => by
      rw [hXi k (by omega), List.getElem?_eq_getElem (by omega), getElem!_pos W k (by omega)]; rfl
    simp only [↓reduceIte, reduceCtorEq, Za, Zb, Zc, Zd, Ze, Zf, Zg, Zh, Zi, Zj, Zk, Zl, Zm, Zn, Zo, Zp, Zq, Zr, Zs, Zt, Zu, Zv, gval, Zw, Zx, Zy, Zz, ZA, ZB, ZC, ZD, ZE, ZF, decide_eq_true_eq, ZG, ZH, ZI, ZJ, ZK, ZL, ZM, ZN, ZO, ZP, ZQ, ZR, ZS, Option.some.injEq, exists_eq_left', ZT, ZU, ZV, ZW, ZX, ZY, true_and, and_true, true_or, or_true, false_or, or_false, ite_true, ite_false, cond_true, cond_false, ZZ, Qa, if_true, if_false, decide_true, decide_false, Qb, Qc, Qd, Qe, Qf, Qg, Qh, Qi, Qj, Qk, Ql, Qm, Qn, Qo, Qp, rb0, rb1, rb2, rb3, rb4, tf0, tf1, tf2, tf3, tf4]
    refine run_loop2 rfl (fun m e h2 => ∃ (n : Nat) (l : List Ent), m = 9 - n ∧ 1 ≤ n ∧ n ≤ 9 ∧ e.at 0 = .slice (some ⟨bw, off, none⟩) W.length c ∧ e.at 4 = .pointer (some ⟨h.nx + 1, 0, none⟩) ∧ e.at 5 = .int .i64 n ∧ Part h2 (h.nx + 1) h.nx l W n ∧ HWf h2 ∧ h1.nx ≤ h2.nx ∧ (∀ b, b < h.nx → h2.get b = h.get b))
      (fun ex e h2 => HWf h2 ∧ h1.nx ≤ h2.nx ∧ (∀ b, b < h.nx → h2.get b = h.get b) ∧ ((ex = .exit 0 ∧ e.at 4 = .pointer (some ⟨h.nx + 1, 0, none⟩) ∧ ∃ l, Part h2 (h.nx + 1) h.nx l W 9) ∨ (ex = .ret ∧ e.at 2 = .pointer none ∧ e.at 3 = .int .i64 101 ∧ ¬ accW W))) ?_ 8 _ _ ?_ ?_
    · rintro m e h2 ⟨n, l, rfl, hn1, hn9, e0, e4, e5, hp, hwf2, hn2, hk2⟩ Q' hQn hQx
      by_cases hn8 : n ≤ 8
      · have hn8' : (n : Int) ≤ 8 := by omega
        have w1 : wrapF .i64 (3 * (n : Int)) = ((3 * n : Nat) : Int) := by rw [wrapI (by omega) (by omega)]; omega
        have w2 : wrapF .i64 (((3 * n : Nat) : Int) - 3) = ((3 * n - 3 : Nat) : Int) := by rw [wrapI (by omega) (by omega)]; omega
        have hX2 : h2.get bw = some (cellsB X K) := (hk2 bw hbw).trans hX
        have hmid := hmidc h2.get n hX2 (by omega) (by omega)
        obtain ⟨A, hA⟩ : ∃ A, (X.drop (off + (3 * n - 3))).take 3 = A := ⟨_, rfl⟩
        have hAe : A = [.int .u64 (stW W n), .int .u64 (paW W n), .int .u64 (suW W n)] := by
          rw [← hA]
          apply List.ext_getElem?
          intro j
          have s1 : (3 * (n : Int) - 3).toNat = 3 * n - 3 := by omega
          have s2 : (3 * (n : Int) - 2).toNat = 3 * n - 3 + 1 := by omega
          have s3 : (3 * (n : Int) - 1).toNat = 3 * n - 3 + 2 := by omega
          match j with
          | 0 => rw [List.getElem?_take, if_pos (by omega), List.getElem?_drop, Nat.add_zero, hXr _ (by omega)]; unfold stW; rw [s1]; rfl
          | 1 => rw [List.getElem?_take, if_pos (by omega), List.getElem?_drop, Nat.add_assoc, hXr _ (by omega)]; unfold paW; rw [s2]; rfl
          | 2 => rw [List.getElem?_take, if_pos (by omega), List.getElem?_drop, Nat.add_assoc, hXr _ (by omega)]; unfold suW; rw [s3]; rfl
          | j + 3 => rw [List.getElem?_take, if_neg (by omega)]; rfl
        have hAl : off + (3 * n - 3) + 3 ≤ X.length := by omega
        rw [hAe] at hA
        have b1 := hw (stW W n) (by unfold stW; rw [getElem!_pos W _ (by omega)]; exact List.getElem_mem _)
        have b2 := hw (paW W n) (by unfold paW; rw [getElem!_pos W _ (by omega)]; exact List.getElem_mem _)
        have b3 := hw (suW W n) (by unfold suW; rw [getElem!_pos W _ (by omega)]; exact List.getElem_mem _)
        have hbad : ¬ okW W n → ¬ accW W := fun q ha => q (ha.2.1 n (by omega) (by omega))
        obtain ⟨s, hs⟩ : ∃ s, stW W n = s := ⟨_, rfl⟩
        obtain ⟨p, hpp⟩ : ∃ p, paW W n = p := ⟨_, rfl⟩
        obtain ⟨u, hu⟩ : ∃ u, suW W n = u := ⟨_, rfl⟩
        have hbad' : ¬ (s ≤ 2 ∧ p ≤ 8 ∧ (s = 0 → p = 0 ∧ u = 0) ∧ (s = 1 → u = 0)) → ¬ accW W := fun q => hbad (by unfold okW; rw [hs, hpp, hu]; exact q)
        rw [hs] at b1
        rw [hpp] at b2
        rw [hu] at b3
        rw [hs, hpp, hu] at hA
        by_cases c1 : 2 < s
        · simp (disch := (first | omega | rfl | (simp only [Heap.nx_upd, Heap.nx_new]; omega))) only [↓reduceIte, reduceCtorEq, Za, Zb, Zc, Zd, Ze, Zf, Zg, Zh, Zi, Zj, Zk, Zl, Zm, Zn, Zo, Zp, Zq, Zr, Zs, Zt, Zu, Zv, gval, Zw, Zx, Zy, Zz, ZA, ZB, ZC, ZD, ZE, ZF, decide_eq_true_eq, ZG, ZH, ZI, ZJ, ZK, ZL, ZM, ZN, ZO, ZP, ZQ, ZR, ZS, Option.some.injEq, exists_eq_left', ZT, ZU, ZV, ZW, ZX, ZY, true_and, and_true, true_or, or_true, false_or, or_false, ite_true, ite_false, cond_true, cond_false, ZZ, Qa, if_true, if_false, decide_true, decide_false, Qb, Qc, Qd, Qe, Qf, Qg, Qh, Qi, Qj, Qk, Ql, Qm, Qn, Qo, Qp, rb0, rb1, rb2, rb3, rb4, tf0, tf1, tf2, tf3, tf4, Heap.get_upd_ne, Heap.get_new_ne, Heap.get_new_at, overL_one, if_pos, stX_exactN, e0, e4, e5, hn8', w1, w2, hmid, ap107, hX2, hA, hAl, runG_undef, c1]
          refine hQx _ _ _ (by simp) ⟨(hwf2.new _).upd (by rw [Heap.nx_new]; omega) _, ?_, fun b hb => ?_, .inr ⟨rfl, ?_, ?_, hbad' (by omega)⟩⟩
          · simp (disch := (first | omega | rfl | (simp only [Heap.nx_upd, Heap.nx_new]; omega))) only [Heap.get_upd_ne, Heap.get_new_ne, Heap.get_new_at, Heap.get_upd_same, Heap.get_new_same, Heap.nx_upd, Heap.nx_new]; omega
          · simp (disch := (first | omega | rfl | (simp only [Heap.nx_upd, Heap.nx_new]; omega))) only [Heap.get_upd_ne, Heap.get_new_ne, Heap.get_new_at, Heap.get_upd_same, Heap.get_new_same, Heap.nx_upd, Heap.nx_new]; exact hk2 b hb
          · simp only [↓reduceIte, reduceCtorEq, Za, Zb, Zc, Zd, Ze, Zf, Zg, Zh, Zi, Zj, Zk, Zl, Zm, Zn, Zo, Zp, Zq, Zr, Zs, Zt, Zu, Zv, gval, Zw, Zx, Zy, Zz, ZA, ZB, ZC, ZD, ZE, ZF, decide_eq_true_eq, ZG, ZH, ZI, ZJ, ZK, ZL, ZM, ZN, ZO, ZP, ZQ, ZR, ZS, Option.some.injEq, exists_eq_left', ZT, ZU, ZV, ZW, ZX, ZY, true_and, and_true, true_or, or_true, false_or, or_false, ite_true, ite_false, cond_true, cond_false, ZZ, Qa, if_true, if_false, decide_true, decide_false, Qb, Qc, Qd, Qe, Qf, Qg, Qh, Qi, Qj, Qk, Ql, Qm, Qn, Qo, Qp, rb0, rb1, rb2, rb3, rb4, tf0, tf1, tf2, tf3, tf4]
          · simp only [↓reduceIte, reduceCtorEq, Za, Zb, Zc, Zd, Ze, Zf, Zg, Zh, Zi, Zj, Zk, Zl, Zm, Zn, Zo, Zp, Zq, Zr, Zs, Zt, Zu, Zv, gval, Zw, Zx, Zy, Zz, ZA, ZB, ZC, ZD, ZE, ZF, decide_eq_true_eq, ZG, ZH, ZI, ZJ, ZK, ZL, ZM, ZN, ZO, ZP, ZQ, ZR, ZS, Option.some.injEq, exists_eq_left', ZT, ZU, ZV, ZW, ZX, ZY, true_and, and_true, true_or, or_true, false_or, or_false, ite_true, ite_false, cond_true, cond_false, ZZ, Qa, if_true, if_false, decide_true, decide_false, Qb, Qc, Qd, Qe, Qf, Qg, Qh, Qi, Qj, Qk, Ql, Qm, Qn, Qo, Qp, rb0, rb1, rb2, rb3, rb4, tf0, tf1, tf2, tf3, tf4]
        by_cases c2 : 8 < p
        · simp (disch := (first | omega | rfl | (simp only [Heap.nx_upd, Heap.nx_new]; omega))) only [↓reduceIte, reduceCtorEq, Za, Zb, Zc, Zd, Ze, Zf, Zg, Zh, Zi, Zj, Zk, Zl, Zm, Zn, Zo, Zp, Zq, Zr, Zs, Zt, Zu, Zv, gval, Zw, Zx, Zy, Zz, ZA, ZB, ZC, ZD, ZE, ZF, decide_eq_true_eq, ZG, ZH, ZI, ZJ, ZK, ZL, ZM, ZN, ZO, ZP, ZQ, ZR, ZS, Option.some.injEq, exists_eq_left', ZT, ZU, ZV, ZW, ZX, ZY, true_and, and_true, true_or, or_true, false_or, or_false, ite_true, ite_false, cond_true, cond_false, ZZ, Qa, if_true, if_false, decide_true, decide_false, Qb, Qc, Qd, Qe, Qf, Qg, Qh, Qi, Qj, Qk, Ql, Qm, Qn, Qo, Qp, rb0, rb1, rb2, rb3, rb4, tf0, tf1, tf2, tf3, tf4, Heap.get_upd_ne, Heap.get_new_ne, Heap.get_new_at, overL_one, if_pos, stX_exactN, e0, e4, e5, hn8', w1, w2, hmid, ap107, hX2, hA, hAl, runG_undef, c1, c2]
          refine hQx _ _ _ (by simp) ⟨(hwf2.new _).upd (by rw [Heap.nx_new]; omega) _, ?_, fun b hb => ?_, .inr ⟨rfl, ?_, ?_, hbad' (by omega)⟩⟩
          · simp (disch := (first | omega | rfl | (simp only [Heap.nx_upd, Heap.nx_new]; omega))) only [Heap.get_upd_ne, Heap.get_new_ne, Heap.get_new_at, Heap.get_upd_same, Heap.get_new_same, Heap.nx_upd, Heap.nx_new]; omega
          · simp (disch := (first | omega | rfl | (simp only [Heap.nx_upd, Heap.nx_new]; omega))) only [Heap.get_upd_ne, Heap.get_new_ne, Heap.get_new_at, Heap.get_upd_same, Heap.get_new_same, Heap.nx_upd, Heap.nx_new]; exact hk2 b hb
          · simp only [↓reduceIte, reduceCtorEq, Za, Zb, Zc, Zd, Ze, Zf, Zg, Zh, Zi, Zj, Zk, Zl, Zm, Zn, Zo, Zp, Zq, Zr, Zs, Zt, Zu, Zv, gval, Zw, Zx, Zy, Zz, ZA, ZB, ZC, ZD, ZE, ZF, decide_eq_true_eq, ZG, ZH, ZI, ZJ, ZK, ZL, ZM, ZN, ZO, ZP, ZQ, ZR, ZS, Option.some.injEq, exists_eq_left', ZT, ZU, ZV, ZW, ZX, ZY, true_and, and_true, true_or, or_true, false_or, or_false, ite_true, ite_false, cond_true, cond_false, ZZ, Qa, if_true, if_false, decide_true, decide_false, Qb, Qc, Qd, Qe, Qf, Qg, Qh, Qi, Qj, Qk, Ql, Qm, Qn, Qo, Qp, rb0, rb1, rb2, rb3, rb4, tf0, tf1, tf2, tf3, tf4]
          · simp only [↓reduceIte, reduceCtorEq, Za, Zb, Zc, Zd, Ze, Zf, Zg, Zh, Zi, Zj, Zk, Zl, Zm, Zn, Zo, Zp, Zq, Zr, Zs, Zt, Zu, Zv, gval, Zw, Zx, Zy, Zz, ZA, ZB, ZC, ZD, ZE, ZF, decide_eq_true_eq, ZG, ZH, ZI, ZJ, ZK, ZL, ZM, ZN, ZO, ZP, ZQ, ZR, ZS, Option.some.injEq, exists_eq_left', ZT, ZU, ZV, ZW, ZX, ZY, true_and, and_true, true_or, or_true, false_or, or_false, ite_true, ite_false, cond_true, cond_false, ZZ, Qa, if_true, if_false, decide_true, decide_false, Qb, Qc, Qd, Qe, Qf, Qg, Qh, Qi, Qj, Qk, Ql, Qm, Qn, Qo, Qp, rb0, rb1, rb2, rb3, rb4, tf0, tf1, tf2, tf3, tf4]
        by_cases c3 : s = 0
        · subst c3
          by_cases c5 : p = 0 ∧ u = 0
          · obtain ⟨rfl, rfl⟩ := c5
            have wn : wrapF .i64 ((n : Int) + 1) = (n : Int) + 1 := wrapI (by omega) (by omega)
            simp (disch := (first | omega | rfl | (simp only [Heap.nx_upd, Heap.nx_new]; omega))) only [↓reduceIte, reduceCtorEq, Za, Zb, Zc, Zd, Ze, Zf, Zg, Zh, Zi, Zj, Zk, Zl, Zm, Zn, Zo, Zp, Zq, Zr, Zs, Zt, Zu, Zv, gval, Zw, Zx, Zy, Zz, ZA, ZB, ZC, ZD, ZE, ZF, decide_eq_true_eq, ZG, ZH, ZI, ZJ, ZK, ZL, ZM, ZN, ZO, ZP, ZQ, ZR, ZS, Option.some.injEq, exists_eq_left', ZT, ZU, ZV, ZW, ZX, ZY, true_and, and_true, true_or, or_true, false_or, or_false, ite_true, ite_false, cond_true, cond_false, ZZ, Qa, if_true, if_false, decide_true, decide_false, Qb, Qc, Qd, Qe, Qf, Qg, Qh, Qi, Qj, Qk, Ql, Qm, Qn, Qo, Qp, rb0, rb1, rb2, rb3, rb4, tf0, tf1, tf2, tf3, tf4, Heap.get_upd_ne, Heap.get_new_ne, Heap.get_new_at, overL_one, if_pos, stX_exactN, e0, e4, e5, hn8', w1, w2, hmid, ap107, hX2, hA, hAl, runG_undef, ne107, beq_self_eq_true, wn]
            refine hQn _ _ _ (by omega) ⟨n + 1, l, rfl, by omega, by omega, ?_, ?_, ?_, hp.skip hs (by unfold okW; rw [hs, hpp, hu]; omega) (fun b x hb => ?_), (hwf2.new _).upd (by rw [Heap.nx_new]; omega) _, ?_, fun b hb => ?_⟩
            · simp only [↓reduceIte, reduceCtorEq, Za, Zb, Zc, Zd, Ze, Zf, Zg, Zh, Zi, Zj, Zk, Zl, Zm, Zn, Zo, Zp, Zq, Zr, Zs, Zt, Zu, Zv, gval, Zw, Zx, Zy, Zz, ZA, ZB, ZC, ZD, ZE, ZF, decide_eq_true_eq, ZG, ZH, ZI, ZJ, ZK, ZL, ZM, ZN, ZO, ZP, ZQ, ZR, ZS, Option.some.injEq, exists_eq_left', ZT, ZU, ZV, ZW, ZX, ZY, true_and, and_true, true_or, or_true, false_or, or_false, ite_true, ite_false, cond_true, cond_false, ZZ, Qa, if_true, if_false, decide_true, decide_false, Qb, Qc, Qd, Qe, Qf, Qg, Qh, Qi, Qj, Qk, Ql, Qm, Qn, Qo, Qp, rb0, rb1, rb2, rb3, rb4, tf0, tf1, tf2, tf3, tf4, e0]
            · simp only [↓reduceIte, reduceCtorEq, Za, Zb, Zc, Zd, Ze, Zf, Zg, Zh, Zi, Zj, Zk, Zl, Zm, Zn, Zo, Zp, Zq, Zr, Zs, Zt, Zu, Zv, gval, Zw, Zx, Zy, Zz, ZA, ZB, ZC, ZD, ZE, ZF, decide_eq_true_eq, ZG, ZH, ZI, ZJ, ZK, ZL, ZM, ZN, ZO, ZP, ZQ, ZR, ZS, Option.some.injEq, exists_eq_left', ZT, ZU, ZV, ZW, ZX, ZY, true_and, and_true, true_or, or_true, false_or, or_false, ite_true, ite_false, cond_true, cond_false, ZZ, Qa, if_true, if_false, decide_true, decide_false, Qb, Qc, Qd, Qe, Qf, Qg, Qh, Qi, Qj, Qk, Ql, Qm, Qn, Qo, Qp, rb0, rb1, rb2, rb3, rb4, tf0, tf1, tf2, tf3, tf4, e4]
            · simp only [↓reduceIte, reduceCtorEq, Za, Zb, Zc, Zd, Ze, Zf, Zg, Zh, Zi, Zj, Zk, Zl, Zm, Zn, Zo, Zp, Zq, Zr, Zs, Zt, Zu, Zv, gval, Zw, Zx, Zy, Zz, ZA, ZB, ZC, ZD, ZE, ZF, decide_eq_true_eq, ZG, ZH, ZI, ZJ, ZK, ZL, ZM, ZN, ZO, ZP, ZQ, ZR, ZS, Option.some.injEq, exists_eq_left', ZT, ZU, ZV, ZW, ZX, ZY, true_and, and_true, true_or, or_true, false_or, or_false, ite_true, ite_false, cond_true, cond_false, ZZ, Qa, if_true, if_false, decide_true, decide_false, Qb, Qc, Qd, Qe, Qf, Qg, Qh, Qi, Qj, Qk, Ql, Qm, Qn, Qo, Qp, rb0, rb1, rb2, rb3, rb4, tf0, tf1, tf2, tf3, tf4]
              rfl
            · have hlt : b < h2.nx := by
                rcases Nat.lt_or_ge b h2.nx with q | q
                · exact q
                · rw [hwf2 b q] at hb; cases hb
              rw [Heap.get_upd_ne _ _ (by omega), Heap.get_new_ne _ _ (by omega)]; exact hb
            · simp (disch := (first | omega | rfl | (simp only [Heap.nx_upd, Heap.nx_new]; omega))) only [Heap.get_upd_ne, Heap.get_new_ne, Heap.get_new_at, Heap.get_upd_same, Heap.get_new_same, Heap.nx_upd, Heap.nx_new]; omega
            · simp (disch := (first | omega | rfl | (simp only [Heap.nx_upd, Heap.nx_new]; omega))) only [Heap.get_upd_ne, Heap.get_new_ne, Heap.get_new_at, Heap.get_upd_same, Heap.get_new_same, Heap.nx_upd, Heap.nx_new]; exact hk2 b hb
          · have c5' : ((p == 0) && (u == 0)) = false := by
              rw [Bool.and_eq_false_iff]
              by_cases q : p = 0
              · right; simpa using fun q2 => c5 ⟨q, q2⟩
              · left; simpa using q
            simp (disch := (first | omega | rfl | (simp only [Heap.nx_upd, Heap.nx_new]; omega))) only [↓reduceIte, reduceCtorEq, Za, Zb, Zc, Zd, Ze, Zf, Zg, Zh, Zi, Zj, Zk, Zl, Zm, Zn, Zo, Zp, Zq, Zr, Zs, Zt, Zu, Zv, gval, Zw, Zx, Zy, Zz, ZA, ZB, ZC, ZD, ZE, ZF, decide_eq_true_eq, ZG, ZH, ZI, ZJ, ZK, ZL, ZM, ZN, ZO, ZP, ZQ, ZR, ZS, Option.some.injEq, exists_eq_left', ZT, ZU, ZV, ZW, ZX, ZY, true_and, and_true, true_or, or_true, false_or, or_false, ite_true, ite_false, cond_true, cond_false, ZZ, Qa, if_true, if_false, decide_true, decide_false, Qb, Qc, Qd, Qe, Qf, Qg, Qh, Qi, Qj, Qk, Ql, Qm, Qn, Qo, Qp, rb0, rb1, rb2, rb3, rb4, tf0, tf1, tf2, tf3, tf4, Heap.get_upd_ne, Heap.get_new_ne, Heap.get_new_at, overL_one, if_pos, stX_exactN, e0, e4, e5, hn8', w1, w2, hmid, ap107, hX2, hA, hAl, runG_undef, c2, ne107, beq_self_eq_true, c5']
            refine hQx _ _ _ (by simp) ⟨(hwf2.new _).upd (by rw [Heap.nx_new]; omega) _, ?_, fun b hb => ?_, .inr ⟨rfl, ?_, ?_, hbad' (by omega)⟩⟩
            · simp (disch := (first | omega | rfl | (simp only [Heap.nx_upd, Heap.nx_new]; omega))) only [Heap.get_upd_ne, Heap.get_new_ne, Heap.get_new_at, Heap.get_upd_same, Heap.get_new_same, Heap.nx_upd, Heap.nx_new]; omega
            · simp (disch := (first | omega | rfl | (simp only [Heap.nx_upd, Heap.nx_new]; omega))) only [Heap.get_upd_ne, Heap.get_new_ne, Heap.get_new_at, Heap.get_upd_same, Heap.get_new_same, Heap.nx_upd, Heap.nx_new]; exact hk2 b hb
            · simp only [↓reduceIte, reduceCtorEq, Za, Zb, Zc, Zd, Ze, Zf, Zg, Zh, Zi, Zj, Zk, Zl, Zm, Zn, Zo, Zp, Zq, Zr, Zs, Zt, Zu, Zv, gval, Zw, Zx, Zy, Zz, ZA, ZB, ZC, ZD, ZE, ZF, decide_eq_true_eq, ZG, ZH, ZI, ZJ, ZK, ZL, ZM, ZN, ZO, ZP, ZQ, ZR, ZS, Option.some.injEq, exists_eq_left', ZT, ZU, ZV, ZW, ZX, ZY, true_and, and_true, true_or, or_true, false_or, or_false, ite_true, ite_false, cond_true, cond_false, ZZ, Qa, if_true, if_false, decide_true, decide_false, Qb, Qc, Qd, Qe, Qf, Qg, Qh, Qi, Qj, Qk, Ql, Qm, Qn, Qo, Qp, rb0, rb1, rb2, rb3, rb4, tf0, tf1, tf2, tf3, tf4]
            · simp only [↓reduceIte, reduceCtorEq, Za, Zb, Zc, Zd, Ze, Zf, Zg, Zh, Zi, Zj, Zk, Zl, Zm, Zn, Zo, Zp, Zq, Zr, Zs, Zt, Zu, Zv, gval, Zw, Zx, Zy, Zz, ZA, ZB, ZC, ZD, ZE, ZF, decide_eq_true_eq, ZG, ZH, ZI, ZJ, ZK, ZL, ZM, ZN, ZO, ZP, ZQ, ZR, ZS, Option.some.injEq, exists_eq_left', ZT, ZU, ZV, ZW, ZX, ZY, true_and, and_true, true_or, or_true, false_or, or_false, ite_true, ite_false, cond_true, cond_false, ZZ, Qa, if_true, if_false, decide_true, decide_false, Qb, Qc, Qd, Qe, Qf, Qg, Qh, Qi, Qj, Qk, Ql, Qm, Qn, Qo, Qp, rb0, rb1, rb2, rb3, rb4, tf0, tf1, tf2, tf3, tf4]
        · by_cases c4 : s = 1
          · subst c4
            by_cases c5 : u = 0
            · subst c5
              simp (disch := (first | omega | rfl | (simp only [Heap.nx_upd, Heap.nx_new]; omega))) only [↓reduceIte, reduceCtorEq, Za, Zb, Zc, Zd, Ze, Zf, Zg, Zh, Zi, Zj, Zk, Zl, Zm, Zn, Zo, Zp, Zq, Zr, Zs, Zt, Zu, Zv, gval, Zw, Zx, Zy, Zz, ZA, ZB, ZC, ZD, ZE, ZF, decide_eq_true_eq, ZG, ZH, ZI, ZJ, ZK, ZL, ZM, ZN, ZO, ZP, ZQ, ZR, ZS, Option.some.injEq, exists_eq_left', ZT, ZU, ZV, ZW, ZX, ZY, true_and, and_true, true_or, or_true, false_or, or_false, ite_true, ite_false, cond_true, cond_false, ZZ, Qa, if_true, if_false, decide_true, decide_false, Qb, Qc, Qd, Qe, Qf, Qg, Qh, Qi, Qj, Qk, Ql, Qm, Qn, Qo, Qp, rb0, rb1, rb2, rb3, rb4, tf0, tf1, tf2, tf3, tf4, Heap.get_upd_ne, Heap.get_new_ne, Heap.get_new_at, overL_one, if_pos, stX_exactN, e0, e4, e5, hn8', w1, w2, hmid, ap107, hX2, hA, hAl, runG_undef, c2]
              obtain ⟨h3, hh3⟩ : ∃ h3, (h2.new (cellsB [.int .u64 0, .int .u64 0, .int .u64 0] .exact)).upd h2.nx (cellsB [.int .u64 1, .int .u64 p, .int .u64 0] .exact) = h3 := ⟨_, rfl⟩
              have n3 : h3.nx = h2.nx + 1 := by rw [← hh3]; simp (disch := (first | omega | rfl | (simp only [Heap.nx_upd, Heap.nx_new]; omega))) only [Heap.get_upd_ne, Heap.get_new_ne, Heap.get_new_at, Heap.get_upd_same, Heap.get_new_same, Heap.nx_upd, Heap.nx_new]
              have k3 : ∀ b, b < h2.nx → h3.get b = h2.get b := fun b hb => by rw [← hh3]; simp (disch := (first | omega | rfl | (simp only [Heap.nx_upd, Heap.nx_new]; omega))) only [Heap.get_upd_ne, Heap.get_new_ne, Heap.get_new_at, Heap.get_upd_same, Heap.get_new_same, Heap.nx_upd, Heap.nx_new]
              have g3 : h3.get h2.nx = some (cellsB [.int .u64 1, .int .u64 p, .int .u64 0] .exact) := by rw [← hh3, Heap.get_upd_same]
              have wn : wrapF .i64 ((n : Int) + 1) = (n : Int) + 1 := wrapI (by omega) (by omega)
              have hnone : lookI l n = none := hp.tab.no n (by unfold exW; rw [decide_eq_false]; omega)
              have hlt : ∀ b x, h2.get b = some x → b < h2.nx := fun b x hb => hwf2.lt hb
              have hp1 := hlt _ _ hp.tab.p
              have hp2 := hlt _ _ hp.tab.m
              have p3 : h3.get (h.nx + 1) = some (cellsB [.map (some h.nx)] .exact) := (k3 _ hp1).trans hp.tab.p
              have m3 : h3.get h.nx = some (.map (entV .i64 l) l.length) := (k3 _ hp2).trans hp.tab.m
              rw [hh3]
              refine run_draw (ps := [(3, 10), (6, 10), (7, 10), (10, 12), (3, 13), (6, 13), (7, 13), (9, 13), (10, 13), (3, 14), (3, 15)]) (by kernel_rfl) (by kernel_rfl) ?_
              simp (disch := (first | omega | rfl | (simp only [Heap.nx_upd, Heap.nx_new]; omega))) only [↓reduceIte, reduceCtorEq, Za, Zb, Zc, Zd, Ze, Zf, Zg, Zh, Zi, Zj, Zk, Zl, Zm, Zn, Zo, Zp, Zq, Zr, Zs, Zt, Zu, Zv, gval, Zw, Zx, Zy, Zz, ZA, ZB, ZC, ZD, ZE, ZF, decide_eq_true_eq, ZG, ZH, ZI, ZJ, ZK, ZL, ZM, ZN, ZO, ZP, ZQ, ZR, ZS, Option.some.injEq, exists_eq_left', ZT, ZU, ZV, ZW, ZX, ZY, true_and, and_true, true_or, or_true, false_or, or_false, ite_true, ite_false, cond_true, cond_false, ZZ, Qa, if_true, if_false, decide_true, decide_false, Qb, Qc, Qd, Qe, Qf, Qg, Qh, Qi, Qj, Qk, Ql, Qm, Qn, Qo, Qp, rb0, rb1, rb2, rb3, rb4, tf0, tf1, tf2, tf3, tf4, Heap.get_upd_ne, Heap.get_new_ne, Heap.get_new_at, overL_one, if_pos, stX_exactN, e4, e5, p3, m3, g3, up89, upX_new .i64 h.nx (n : Int) (.pointer (some ⟨h3.nx, 0, none⟩)) l l.length hnone rfl, nbeq_ne, wn]
              refine hQn _ _ _ (by omega) ⟨n + 1, _, rfl, by omega, by omega, ?_, ?_, ?_, hp.add (b := h3.nx) hn1 (by rw [hs]; omega) (by unfold okW; rw [hs, hpp, hu]; omega) (Heap.get_upd_same _ _ _) ?_ (fun b' x q1 q2 => ?_) (fun b' x y q => fun q2 => by rw [q2, hp.tab.m] at q; cases q) (fun b' x y q => by have := hlt _ _ q; omega), ?_, ?_, fun b hb => ?_⟩
              · simp only [↓reduceIte, reduceCtorEq, Za, Zb, Zc, Zd, Ze, Zf, Zg, Zh, Zi, Zj, Zk, Zl, Zm, Zn, Zo, Zp, Zq, Zr, Zs, Zt, Zu, Zv, gval, Zw, Zx, Zy, Zz, ZA, ZB, ZC, ZD, ZE, ZF, decide_eq_true_eq, ZG, ZH, ZI, ZJ, ZK, ZL, ZM, ZN, ZO, ZP, ZQ, ZR, ZS, Option.some.injEq, exists_eq_left', ZT, ZU, ZV, ZW, ZX, ZY, true_and, and_true, true_or, or_true, false_or, or_false, ite_true, ite_false, cond_true, cond_false, ZZ, Qa, if_true, if_false, decide_true, decide_false, Qb, Qc, Qd, Qe, Qf, Qg, Qh, Qi, Qj, Qk, Ql, Qm, Qn, Qo, Qp, rb0, rb1, rb2, rb3, rb4, tf0, tf1, tf2, tf3, tf4, e0]
              · simp only [↓reduceIte, reduceCtorEq, Za, Zb, Zc, Zd, Ze, Zf, Zg, Zh, Zi, Zj, Zk, Zl, Zm, Zn, Zo, Zp, Zq, Zr, Zs, Zt, Zu, Zv, gval, Zw, Zx, Zy, Zz, ZA, ZB, ZC, ZD, ZE, ZF, decide_eq_true_eq, ZG, ZH, ZI, ZJ, ZK, ZL, ZM, ZN, ZO, ZP, ZQ, ZR, ZS, Option.some.injEq, exists_eq_left', ZT, ZU, ZV, ZW, ZX, ZY, true_and, and_true, true_or, or_true, false_or, or_false, ite_true, ite_false, cond_true, cond_false, ZZ, Qa, if_true, if_false, decide_true, decide_false, Qb, Qc, Qd, Qe, Qf, Qg, Qh, Qi, Qj, Qk, Ql, Qm, Qn, Qo, Qp, rb0, rb1, rb2, rb3, rb4, tf0, tf1, tf2, tf3, tf4, e4]
              · simp only [↓reduceIte, reduceCtorEq, Za, Zb, Zc, Zd, Ze, Zf, Zg, Zh, Zi, Zj, Zk, Zl, Zm, Zn, Zo, Zp, Zq, Zr, Zs, Zt, Zu, Zv, gval, Zw, Zx, Zy, Zz, ZA, ZB, ZC, ZD, ZE, ZF, decide_eq_true_eq, ZG, ZH, ZI, ZJ, ZK, ZL, ZM, ZN, ZO, ZP, ZQ, ZR, ZS, Option.some.injEq, exists_eq_left', ZT, ZU, ZV, ZW, ZX, ZY, true_and, and_true, true_or, or_true, false_or, or_false, ite_true, ite_false, cond_true, cond_false, ZZ, Qa, if_true, if_false, decide_true, decide_false, Qb, Qc, Qd, Qe, Qf, Qg, Qh, Qi, Qj, Qk, Ql, Qm, Qn, Qo, Qp, rb0, rb1, rb2, rb3, rb4, tf0, tf1, tf2, tf3, tf4]
                rfl
              · rw [Heap.get_upd_ne _ _ (by omega), Heap.get_new_same]
                unfold zW paI suI
                rw [hs, hpp, hu]; rfl
              · have := hlt _ _ q2
                rw [Heap.get_upd_ne _ _ q1, Heap.get_new_ne _ _ (by omega), k3 _ this]; exact q2
              · refine (AM.HWf.new ?_ _).upd (by rw [Heap.nx_new]; omega) _
                rw [← hh3]
                exact (hwf2.new _).upd (by rw [Heap.nx_new]; omega) _
              · rw [Heap.nx_upd, Heap.nx_new]; omega
              · rw [Heap.get_upd_ne _ _ (by omega), Heap.get_new_ne _ _ (by omega), k3 _ (by omega)]; exact hk2 b hb
            · simp (disch := (first | omega | rfl | (simp only [Heap.nx_upd, Heap.nx_new]; omega))) only [↓reduceIte, reduceCtorEq, Za, Zb, Zc, Zd, Ze, Zf, Zg, Zh, Zi, Zj, Zk, Zl, Zm, Zn, Zo, Zp, Zq, Zr, Zs, Zt, Zu, Zv, gval, Zw, Zx, Zy, Zz, ZA, ZB, ZC, ZD, ZE, ZF, decide_eq_true_eq, ZG, ZH, ZI, ZJ, ZK, ZL, ZM, ZN, ZO, ZP, ZQ, ZR, ZS, Option.some.injEq, exists_eq_left', ZT, ZU, ZV, ZW, ZX, ZY, true_and, and_true, true_or, or_true, false_or, or_false, ite_true, ite_false, cond_true, cond_false, ZZ, Qa, if_true, if_false, decide_true, decide_false, Qb, Qc, Qd, Qe, Qf, Qg, Qh, Qi, Qj, Qk, Ql, Qm, Qn, Qo, Qp, rb0, rb1, rb2, rb3, rb4, tf0, tf1, tf2, tf3, tf4, Heap.get_upd_ne, Heap.get_new_ne, Heap.get_new_at, overL_one, if_pos, stX_exactN, e0, e4, e5, hn8', w1, w2, hmid, ap107, hX2, hA, hAl, runG_undef, c2, c5]
              refine hQx _ _ _ (by simp) ⟨(hwf2.new _).upd (by rw [Heap.nx_new]; omega) _, ?_, fun b hb => ?_, .inr ⟨rfl, ?_, ?_, hbad' (by omega)⟩⟩
              · simp (disch := (first | omega | rfl | (simp only [Heap.nx_upd, Heap.nx_new]; omega))) only [Heap.get_upd_ne, Heap.get_new_ne, Heap.get_new_at, Heap.get_upd_same, Heap.get_new_same, Heap.nx_upd, Heap.nx_new]; omega
              · simp (disch := (first | omega | rfl | (simp only [Heap.nx_upd, Heap.nx_new]; omega))) only [Heap.get_upd_ne, Heap.get_new_ne, Heap.get_new_at, Heap.get_upd_same, Heap.get_new_same, Heap.nx_upd, Heap.nx_new]; exact hk2 b hb
              · simp only [↓reduceIte, reduceCtorEq, Za, Zb, Zc, Zd, Ze, Zf, Zg, Zh, Zi, Zj, Zk, Zl, Zm, Zn, Zo, Zp, Zq, Zr, Zs, Zt, Zu, Zv, gval, Zw, Zx, Zy, Zz, ZA, ZB, ZC, ZD, ZE, ZF, decide_eq_true_eq, ZG, ZH, ZI, ZJ, ZK, ZL, ZM, ZN, ZO, ZP, ZQ, ZR, ZS, Option.some.injEq, exists_eq_left', ZT, ZU, ZV, ZW, ZX, ZY, true_and, and_true, true_or, or_true, false_or, or_false, ite_true, ite_false, cond_true, cond_false, ZZ, Qa, if_true, if_false, decide_true, decide_false, Qb, Qc, Qd, Qe, Qf, Qg, Qh, Qi, Qj, Qk, Ql, Qm, Qn, Qo, Qp, rb0, rb1, rb2, rb3, rb4, tf0, tf1, tf2, tf3, tf4]
              · simp only [↓reduceIte, reduceCtorEq, Za, Zb, Zc, Zd, Ze, Zf, Zg, Zh, Zi, Zj, Zk, Zl, Zm, Zn, Zo, Zp, Zq, Zr, Zs, Zt, Zu, Zv, gval, Zw, Zx, Zy, Zz, ZA, ZB, ZC, ZD, ZE, ZF, decide_eq_true_eq, ZG, ZH, ZI, ZJ, ZK, ZL, ZM, ZN, ZO, ZP, ZQ, ZR, ZS, Option.some.injEq, exists_eq_left', ZT, ZU, ZV, ZW, ZX, ZY, true_and, and_true, true_or, or_true, false_or, or_false, ite_true, ite_false, cond_true, cond_false, ZZ, Qa, if_true, if_false, decide_true, decide_false, Qb, Qc, Qd, Qe, Qf, Qg, Qh, Qi, Qj, Qk, Ql, Qm, Qn, Qo, Qp, rb0, rb1, rb2, rb3, rb4, tf0, tf1, tf2, tf3, tf4]
          · have c5 : s = 2 := by omega
            subst c5
            simp (disch := (first | omega | rfl | (simp only [Heap.nx_upd, Heap.nx_new]; omega))) only [↓reduceIte, reduceCtorEq, Za, Zb, Zc, Zd, Ze, Zf, Zg, Zh, Zi, Zj, Zk, Zl, Zm, Zn, Zo, Zp, Zq, Zr, Zs, Zt, Zu, Zv, gval, Zw, Zx, Zy, Zz, ZA, ZB, ZC, ZD, ZE, ZF, decide_eq_true_eq, ZG, ZH, ZI, ZJ, ZK, ZL, ZM, ZN, ZO, ZP, ZQ, ZR, ZS, Option.some.injEq, exists_eq_left', ZT, ZU, ZV, ZW, ZX, ZY, true_and, and_true, true_or, or_true, false_or, or_false, ite_true, ite_false, cond_true, cond_false, ZZ, Qa, if_true, if_false, decide_true, decide_false, Qb, Qc, Qd, Qe, Qf, Qg, Qh, Qi, Qj, Qk, Ql, Qm, Qn, Qo, Qp, rb0, rb1, rb2, rb3, rb4, tf0, tf1, tf2, tf3, tf4, Heap.get_upd_ne, Heap.get_new_ne, Heap.get_new_at, overL_one, if_pos, stX_exactN, e0, e4, e5, hn8', w1, w2, hmid, ap107, hX2, hA, hAl, runG_undef, c1, c2]
            obtain ⟨h3, hh3⟩ : ∃ h3, (h2.new (cellsB [.int .u64 0, .int .u64 0, .int .u64 0] .exact)).upd h2.nx (cellsB [.int .u64 2, .int .u64 p, .int .u64 u] .exact) = h3 := ⟨_, rfl⟩
            have n3 : h3.nx = h2.nx + 1 := by rw [← hh3]; simp (disch := (first | omega | rfl | (simp only [Heap.nx_upd, Heap.nx_new]; omega))) only [Heap.get_upd_ne, Heap.get_new_ne, Heap.get_new_at, Heap.get_upd_same, Heap.get_new_same, Heap.nx_upd, Heap.nx_new]
            have k3 : ∀ b, b < h2.nx → h3.get b = h2.get b := fun b hb => by rw [← hh3]; simp (disch := (first | omega | rfl | (simp only [Heap.nx_upd, Heap.nx_new]; omega))) only [Heap.get_upd_ne, Heap.get_new_ne, Heap.get_new_at, Heap.get_upd_same, Heap.get_new_same, Heap.nx_upd, Heap.nx_new]
            have g3 : h3.get h2.nx = some (cellsB [.int .u64 2, .int .u64 p, .int .u64 u] .exact) := by rw [← hh3, Heap.get_upd_same]
            have wn : wrapF .i64 ((n : Int) + 1) = (n : Int) + 1 := wrapI (by omega) (by omega)
            have hnone : lookI l n = none := hp.tab.no n (by unfold exW; rw [decide_eq_false]; omega)
            have hlt : ∀ b x, h2.get b = some x → b < h2.nx := fun b x hb => hwf2.lt hb
            have hp1 := hlt _ _ hp.tab.p
            have hp2 := hlt _ _ hp.tab.m
            have p3 : h3.get (h.nx + 1) = some (cellsB [.map (some h.nx)] .exact) := (k3 _ hp1).trans hp.tab.p
            have m3 : h3.get h.nx = some (.map (entV .i64 l) l.length) := (k3 _ hp2).trans hp.tab.m
            rw [hh3]
            refine run_draw (ps := [(3, 10), (6, 10), (7, 10), (10, 12), (3, 13), (6, 13), (7, 13), (9, 13), (10, 13), (3, 14), (3, 15)]) (by kernel_rfl) (by kernel_rfl) ?_
            simp (disch := (first | omega | rfl | (simp only [Heap.nx_upd, Heap.nx_new]; omega))) only [↓reduceIte, reduceCtorEq, Za, Zb, Zc, Zd, Ze, Zf, Zg, Zh, Zi, Zj, Zk, Zl, Zm, Zn, Zo, Zp, Zq, Zr, Zs, Zt, Zu, Zv, gval, Zw, Zx, Zy, Zz, ZA, ZB, ZC, ZD, ZE, ZF, decide_eq_true_eq, ZG, ZH, ZI, ZJ, ZK, ZL, ZM, ZN, ZO, ZP, ZQ, ZR, ZS, Option.some.injEq, exists_eq_left', ZT, ZU, ZV, ZW, ZX, ZY, true_and, and_true, true_or, or_true, false_or, or_false, ite_true, ite_false, cond_true, cond_false, ZZ, Qa, if_true, if_false, decide_true, decide_false, Qb, Qc, Qd, Qe, Qf, Qg, Qh, Qi, Qj, Qk, Ql, Qm, Qn, Qo, Qp, rb0, rb1, rb2, rb3, rb4, tf0, tf1, tf2, tf3, tf4, Heap.get_upd_ne, Heap.get_new_ne, Heap.get_new_at, overL_one, if_pos, stX_exactN, e4, e5, p3, m3, g3, up89, upX_new .i64 h.nx (n : Int) (.pointer (some ⟨h3.nx, 0, none⟩)) l l.length hnone rfl, nbeq_ne, wn]
            refine hQn _ _ _ (by omega) ⟨n + 1, _, rfl, by omega, by omega, ?_, ?_, ?_, hp.add (b := h3.nx) hn1 (by rw [hs]; omega) (by unfold okW; rw [hs, hpp, hu]; omega) (Heap.get_upd_same _ _ _) ?_ (fun b' x q1 q2 => ?_) (fun b' x y q => fun q2 => by rw [q2, hp.tab.m] at q; cases q) (fun b' x y q => by have := hlt _ _ q; omega), ?_, ?_, fun b hb => ?_⟩
            · simp only [↓reduceIte, reduceCtorEq, Za, Zb, Zc, Zd, Ze, Zf, Zg, Zh, Zi, Zj, Zk, Zl, Zm, Zn, Zo, Zp, Zq, Zr, Zs, Zt, Zu, Zv, gval, Zw, Zx, Zy, Zz, ZA, ZB, ZC, ZD, ZE, ZF, decide_eq_true_eq, ZG, ZH, ZI, ZJ, ZK, ZL, ZM, ZN, ZO, ZP, ZQ, ZR, ZS, Option.some.injEq, exists_eq_left', ZT, ZU, ZV, ZW, ZX, ZY, true_and, and_true, true_or, or_true, false_or, or_false, ite_true, ite_false, cond_true, cond_false, ZZ, Qa, if_true, if_false, decide_true, decide_false, Qb, Qc, Qd, Qe, Qf, Qg, Qh, Qi, Qj, Qk, Ql, Qm, Qn, Qo, Qp, rb0, rb1, rb2, rb3, rb4, tf0, tf1, tf2, tf3, tf4, e0]
            · simp only [↓reduceIte, reduceCtorEq, Za, Zb, Zc, Zd, Ze, Zf, Zg, Zh, Zi, Zj, Zk, Zl, Zm, Zn, Zo, Zp, Zq, Zr, Zs, Zt, Zu, Zv, gval, Zw, Zx, Zy, Zz, ZA, ZB, ZC, ZD, ZE, ZF, decide_eq_true_eq, ZG, ZH, ZI, ZJ, ZK, ZL, ZM, ZN, ZO, ZP, ZQ, ZR, ZS, Option.some.injEq, exists_eq_left', ZT, ZU, ZV, ZW, ZX, ZY, true_and, and_true, true_or, or_true, false_or, or_false, ite_true, ite_false, cond_true, cond_false, ZZ, Qa, if_true, if_false, decide_true, decide_false, Qb, Qc, Qd, Qe, Qf, Qg, Qh, Qi, Qj, Qk, Ql, Qm, Qn, Qo, Qp, rb0, rb1, rb2, rb3, rb4, tf0, tf1, tf2, tf3, tf4, e4]
            · simp only [↓reduceIte, reduceCtorEq, Za, Zb, Zc, Zd, Ze, Zf, Zg, Zh, Zi, Zj, Zk, Zl, Zm, Zn, Zo, Zp, Zq, Zr, Zs, Zt, Zu, Zv, gval, Zw, Zx, Zy, Zz, ZA, ZB, ZC, ZD, ZE, ZF, decide_eq_true_eq, ZG, ZH, ZI, ZJ, ZK, ZL, ZM, ZN, ZO, ZP, ZQ, ZR, ZS, Option.some.injEq, exists_eq_left', ZT, ZU, ZV, ZW, ZX, ZY, true_and, and_true, true_or, or_true, false_or, or_false, ite_true, ite_false, cond_true, cond_false, ZZ, Qa, if_true, if_false, decide_true, decide_false, Qb, Qc, Qd, Qe, Qf, Qg, Qh, Qi, Qj, Qk, Ql, Qm, Qn, Qo, Qp, rb0, rb1, rb2, rb3, rb4, tf0, tf1, tf2, tf3, tf4]
              rfl
            · rw [Heap.get_upd_ne _ _ (by omega), Heap.get_new_same]
              unfold zW paI suI
              rw [hs, hpp, hu]; rfl
            · have := hlt _ _ q2
              rw [Heap.get_upd_ne _ _ q1, Heap.get_new_ne _ _ (by omega), k3 _ this]; exact q2
            · refine (AM.HWf.new ?_ _).upd (by rw [Heap.nx_new]; omega) _
              rw [← hh3]
              exact (hwf2.new _).upd (by rw [Heap.nx_new]; omega) _
            · rw [Heap.nx_upd, Heap.nx_new]; omega
            · rw [Heap.get_upd_ne _ _ (by omega), Heap.get_new_ne _ _ (by omega), k3 _ (by omega)]; exact hk2 b hb
      · obtain rfl : n = 9 := by omega
        simp (disch := (first | omega | rfl | (simp only [Heap.nx_upd, Heap.nx_new]; omega))) only [↓reduceIte, reduceCtorEq, Za, Zb, Zc, Zd, Ze, Zf, Zg, Zh, Zi, Zj, Zk, Zl, Zm, Zn, Zo, Zp, Zq, Zr, Zs, Zt, Zu, Zv, gval, Zw, Zx, Zy, Zz, ZA, ZB, ZC, ZD, ZE, ZF, decide_eq_true_eq, ZG, ZH, ZI, ZJ, ZK, ZL, ZM, ZN, ZO, ZP, ZQ, ZR, ZS, Option.some.injEq, exists_eq_left', ZT, ZU, ZV, ZW, ZX, ZY, true_and, and_true, true_or, or_true, false_or, or_false, ite_true, ite_false, cond_true, cond_false, ZZ, Qa, if_true, if_false, decide_true, decide_false, Qb, Qc, Qd, Qe, Qf, Qg, Qh, Qi, Qj, Qk, Ql, Qm, Qn, Qo, Qp, rb0, rb1, rb2, rb3, rb4, tf0, tf1, tf2, tf3, tf4, Heap.get_upd_ne, Heap.get_new_ne, Heap.get_new_at, overL_one, if_pos, stX_exactN, e5]
        exact hQx _ _ _ (by simp) ⟨hwf2, hn2, hk2, .inl ⟨rfl, by simp only [↓reduceIte, reduceCtorEq, Za, Zb, Zc, Zd, Ze, Zf, Zg, Zh, Zi, Zj, Zk, Zl, Zm, Zn, Zo, Zp, Zq, Zr, Zs, Zt, Zu, Zv, gval, Zw, Zx, Zy, Zz, ZA, ZB, ZC, ZD, ZE, ZF, decide_eq_true_eq, ZG, ZH, ZI, ZJ, ZK, ZL, ZM, ZN, ZO, ZP, ZQ, ZR, ZS, Option.some.injEq, exists_eq_left', ZT, ZU, ZV, ZW, ZX, ZY, true_and, and_true, true_or, or_true, false_or, or_false, ite_true, ite_false, cond_true, cond_false, ZZ, Qa, if_true, if_false, decide_true, decide_false, Qb, Qc, Qd, Qe, Qf, Qg, Qh, Qi, Qj, Qk, Ql, Qm, Qn, Qo, Qp, rb0, rb1, rb2, rb3, rb4, tf0, tf1, tf2, tf3, tf4, e4], l, hp⟩⟩
    · refine ⟨1, [], rfl, by omega, by omega, ?_, ?_, ?_, ⟨⟨p1, m1, fun n hn => ?_, fun _ _ => rfl⟩, fun i x hi => by simp at hi, fun m q1 q2 => by omega, .nil⟩, w1 hwf, Nat.le_refl _, k1⟩
      · simp only [↓reduceIte, reduceCtorEq, Za, Zb, Zc, Zd, Ze, Zf, Zg, Zh, Zi, Zj, Zk, Zl, Zm, Zn, Zo, Zp, Zq, Zr, Zs, Zt, Zu, Zv, gval, Zw, Zx, Zy, Zz, ZA, ZB, ZC, ZD, ZE, ZF, decide_eq_true_eq, ZG, ZH, ZI, ZJ, ZK, ZL, ZM, ZN, ZO, ZP, ZQ, ZR, ZS, Option.some.injEq, exists_eq_left', ZT, ZU, ZV, ZW, ZX, ZY, true_and, and_true, true_or, or_true, false_or, or_false, ite_true, ite_false, cond_true, cond_false, ZZ, Qa, if_true, if_false, decide_true, decide_false, Qb, Qc, Qd, Qe, Qf, Qg, Qh, Qi, Qj, Qk, Ql, Qm, Qn, Qo, Qp, rb0, rb1, rb2, rb3, rb4, tf0, tf1, tf2, tf3, tf4]
      · simp only [↓reduceIte, reduceCtorEq, Za, Zb, Zc, Zd, Ze, Zf, Zg, Zh, Zi, Zj, Zk, Zl, Zm, Zn, Zo, Zp, Zq, Zr, Zs, Zt, Zu, Zv, gval, Zw, Zx, Zy, Zz, ZA, ZB, ZC, ZD, ZE, ZF, decide_eq_true_eq, ZG, ZH, ZI, ZJ, ZK, ZL, ZM, ZN, ZO, ZP, ZQ, ZR, ZS, Option.some.injEq, exists_eq_left', ZT, ZU, ZV, ZW, ZX, ZY, true_and, and_true, true_or, or_true, false_or, or_false, ite_true, ite_false, cond_true, cond_false, ZZ, Qa, if_true, if_false, decide_true, decide_false, Qb, Qc, Qd, Qe, Qf, Qg, Qh, Qi, Qj, Qk, Ql, Qm, Qn, Qo, Qp, rb0, rb1, rb2, rb3, rb4, tf0, tf1, tf2, tf3, tf4]
      · simp only [↓reduceIte, reduceCtorEq, Za, Zb, Zc, Zd, Ze, Zf, Zg, Zh, Zi, Zj, Zk, Zl, Zm, Zn, Zo, Zp, Zq, Zr, Zs, Zt, Zu, Zv, gval, Zw, Zx, Zy, Zz, ZA, ZB, ZC, ZD, ZE, ZF, decide_eq_true_eq, ZG, ZH, ZI, ZJ, ZK, ZL, ZM, ZN, ZO, ZP, ZQ, ZR, ZS, Option.some.injEq, exists_eq_left', ZT, ZU, ZV, ZW, ZX, ZY, true_and, and_true, true_or, or_true, false_or, or_false, ite_true, ite_false, cond_true, cond_false, ZZ, Qa, if_true, if_false, decide_true, decide_false, Qb, Qc, Qd, Qe, Qf, Qg, Qh, Qi, Qj, Qk, Ql, Qm, Qn, Qo, Qp, rb0, rb1, rb2, rb3, rb4, tf0, tf1, tf2, tf3, tf4]
      · unfold exW at hn
        simp only [decide_eq_true_eq] at hn
        omega
    · rintro ex e h2 - ⟨hwf2, hn2, hk2, ⟨rfl, e4, l, hp⟩ | ⟨rfl, e2, e3, hna⟩⟩
      · simp only [↓reduceIte, reduceCtorEq, Za, Zb, Zc, Zd, Ze, Zf, Zg, Zh, Zi, Zj, Zk, Zl, Zm, Zn, Zo, Zp, Zq, Zr, Zs, Zt, Zu, Zv, gval, Zw, Zx, Zy, Zz, ZA, ZB, ZC, ZD, ZE, ZF, decide_eq_true_eq, ZG, ZH, ZI, ZJ, ZK, ZL, ZM, ZN, ZO, ZP, ZQ, ZR, ZS, Option.some.injEq, exists_eq_left', ZT, ZU, ZV, ZW, ZX, ZY, true_and, and_true, true_or, or_true, false_or, or_false, ite_true, ite_false, cond_true, cond_false, ZZ, Qa, if_true, if_false, decide_true, decide_false, Qb, Qc, Qd, Qe, Qf, Qg, Qh, Qi, Qj, Qk, Ql, Qm, Qn, Qo, Qp, rb0, rb1, rb2, rb3, rb4, tf0, tf1, tf2, tf3, tf4]
        refine hq _ _ _ ⟨fun _ => ?_, fun h => absurd rfl h⟩
        refine Good.seq (Good.seq (Good.detq Try.mixed hsp (by kernel_rfl) fun Q1 hq => ?_))
        simp (disch := (first | omega | rfl | (simp only [Heap.nx_upd, Heap.nx_new]; omega))) only [↓reduceIte, reduceCtorEq, Za, Zb, Zc, Zd, Ze, Zf, Zg, Zh, Zi, Zj, Zk, Zl, Zm, Zn, Zo, Zp, Zq, Zr, Zs, Zt, Zu, Zv, gval, Zw, Zx, Zy, Zz, ZA, ZB, ZC, ZD, ZE, ZF, decide_eq_true_eq, ZG, ZH, ZI, ZJ, ZK, ZL, ZM, ZN, ZO, ZP, ZQ, ZR, ZS, Option.some.injEq, exists_eq_left', ZT, ZU, ZV, ZW, ZX, ZY, true_and, and_true, true_or, or_true, false_or, or_false, ite_true, ite_false, cond_true, cond_false, ZZ, Qa, if_true, if_false, decide_true, decide_false, Qb, Qc, Qd, Qe, Qf, Qg, Qh, Qi, Qj, Qk, Ql, Qm, Qn, Qo, Qp, rb0, rb1, rb2, rb3, rb4, tf0, tf1, tf2, tf3, tf4, Heap.get_upd_ne, Heap.get_new_ne, Heap.get_new_at, overL_one, if_pos, stX_exactN, e4, hp.tab.p, rg89, hp.tab.m, rgX_some]
        refine hq _ _ _ ⟨fun _ => ?_, fun h => absurd rfl h⟩
        refine Good.block ?_
        have hbp := hwf2.lt hp.tab.p
        have hbr := hwf2.lt hp.tab.m
        have hget : ∀ b, b < h2.nx → (h2.new (.iter h.nx l.length [] none l.length)).get b = h2.get b := fun b hb => by rw [Heap.get_new_ne _ _ (by omega)]
        have tab2 : Tab (h2.new (.iter h.nx l.length [] none l.length)) (h.nx + 1) h.nx l l.length (zW W) (paI W) (suI W) (exW W 9) :=
          hp.tab.keep fun b x hb => by rw [hget b (hwf2.lt hb)]; exact hb
        refine Good.mapLoop (by kernel_rfl) (it := 79) (tup := 80) (okT := 81) rfl (d := h2.nx) (r := h.nx) (since := l.length) (last := l.length)
          (fun seen e h' => e.at 79 = .pointer (some ⟨h2.nx, 0, none⟩) ∧ e.at 4 = .pointer (some ⟨h.nx + 1, 0, none⟩) ∧ h2.nx < h'.nx ∧ h'.get h2.nx = some .dead ∧ Tab h' (h.nx + 1) h.nx l l.length (zW W) (paI W) (suI W) (exW W 9) ∧ (∀ b, b < h.nx → h'.get b = h.get b) ∧ ∀ x ∈ l, x.2.2 ∈ seen → rightW W x.1 = true)
          (by rw [Heap.get_new_same]) (Nat.le_refl _) ?_ ?_ ?_ ?_
        · refine ⟨by simp only [↓reduceIte, reduceCtorEq, Za, Zb, Zc, Zd, Ze, Zf, Zg, Zh, Zi, Zj, Zk, Zl, Zm, Zn, Zo, Zp, Zq, Zr, Zs, Zt, Zu, Zv, gval, Zw, Zx, Zy, Zz, ZA, ZB, ZC, ZD, ZE, ZF, decide_eq_true_eq, ZG, ZH, ZI, ZJ, ZK, ZL, ZM, ZN, ZO, ZP, ZQ, ZR, ZS, Option.some.injEq, exists_eq_left', ZT, ZU, ZV, ZW, ZX, ZY, true_and, and_true, true_or, or_true, false_or, or_false, ite_true, ite_false, cond_true, cond_false, ZZ, Qa, if_true, if_false, decide_true, decide_false, Qb, Qc, Qd, Qe, Qf, Qg, Qh, Qi, Qj, Qk, Ql, Qm, Qn, Qo, Qp, rb0, rb1, rb2, rb3, rb4, tf0, tf1, tf2, tf3, tf4], by simp only [↓reduceIte, reduceCtorEq, Za, Zb, Zc, Zd, Ze, Zf, Zg, Zh, Zi, Zj, Zk, Zl, Zm, Zn, Zo, Zp, Zq, Zr, Zs, Zt, Zu, Zv, gval, Zw, Zx, Zy, Zz, ZA, ZB, ZC, ZD, ZE, ZF, decide_eq_true_eq, ZG, ZH, ZI, ZJ, ZK, ZL, ZM, ZN, ZO, ZP, ZQ, ZR, ZS, Option.some.injEq, exists_eq_left', ZT, ZU, ZV, ZW, ZX, ZY, true_and, and_true, true_or, or_true, false_or, or_false, ite_true, ite_false, cond_true, cond_false, ZZ, Qa, if_true, if_false, decide_true, decide_false, Qb, Qc, Qd, Qe, Qf, Qg, Qh, Qi, Qj, Qk, Ql, Qm, Qn, Qo, Qp, rb0, rb1, rb2, rb3, rb4, tf0, tf1, tf2, tf3, tf4, e4], by show h2.nx < h2.nx + 1; omega, Heap.get_upd_same _ _ _, ?_, fun b hb => ?_, fun x _ hx => by simp at hx⟩
          · refine Tab.upd tab2 (fun a k e => ?_) (fun es c e => ?_)
            · rw [Heap.get_new_same] at e; cases e
            · rw [Heap.get_new_same] at e; cases e
          · show ((h2.new _).upd h2.nx _).get b = _
            rw [Heap.get_upd_ne _ _ (by omega), hget b (by omega)]; exact hk2 b hb
        · rintro seen e' h' ⟨f79, f4, fd, fdd, ft, fk, fr⟩
          refine ⟨f79, fd, fdd, _, _, ft.m, Nat.le_refl _, fun x hx => ?_⟩
          obtain ⟨y, hy, rfl⟩ := List.mem_map.1 hx
          obtain ⟨i, hi⟩ := List.getElem?_of_mem hy
          have := (hp.ents i y hi).1
          have hlt := (List.getElem?_eq_some_iff.1 hi).1
          show y.2.2 < l.length
          omega
        · rintro seen e' h' es clk x ⟨f79, f4, fd, fdd, ft, fk, fr⟩ hm hx hns
          have : es = entV .i64 l ∧ clk = l.length := by
            rw [ft.m] at hm; cases hm; exact ⟨rfl, rfl⟩
          obtain ⟨rfl, rfl⟩ := this
          obtain ⟨y, hy, rfl⟩ := List.mem_map.1 hx
          obtain ⟨i, hi⟩ := List.getElem?_of_mem hy
          obtain ⟨g1, g2, g3⟩ := hp.ents i y hi
          obtain ⟨b, g4, g5⟩ := ft.yes y.1 g2
          have hptr : y.2.1 = .pointer (some ⟨b, 0, none⟩) := by rw [g3] at g4; exact Option.some.inj g4
          have hdc : ∀ a k, h'.get h2.nx ≠ some (cellsB a k) := fun a k e => by rw [fdd] at e; cases e
          have hdm : ∀ es c, h'.get h2.nx ≠ some (.map es c) := fun es c e => by rw [fdd] at e; cases e
          have ft' : Tab (h'.upd h2.nx (.look h.nx y.2.2 l.length)) (h.nx + 1) h.nx l l.length (zW W) (paI W) (suI W) (exW W 9) := ft.upd hdc hdm
          have g5' : (h'.upd h2.nx (.look h.nx y.2.2 l.length)).get b = some (cellsB [.bool (zW W y.1), .int .i64 (paI W y.1), .int .i64 (suI W y.1)] .exact) := by
            rw [Heap.get_upd_ne _ _ (fun e => hdc _ _ (by rw [← e]; exact g5))]; exact g5
          show AM.Good Try.prog 0 _ _ _ (h'.upd h2.nx (.look h.nx y.2.2 l.length)) _
          refine Good.seq (Good.detq Try.mixed hsp (by kernel_rfl) fun Q1 hq => ?_)
          simp only [↓reduceIte, reduceCtorEq, Za, Zb, Zc, Zd, Ze, Zf, Zg, Zh, Zi, Zj, Zk, Zl, Zm, Zn, Zo, Zp, Zq, Zr, Zs, Zt, Zu, Zv, gval, Zw, Zx, Zy, Zz, ZA, ZB, ZC, ZD, ZE, ZF, decide_eq_true_eq, ZG, ZH, ZI, ZJ, ZK, ZL, ZM, ZN, ZO, ZP, ZQ, ZR, ZS, Option.some.injEq, exists_eq_left', ZT, ZU, ZV, ZW, ZX, ZY, true_and, and_true, true_or, or_true, false_or, or_false, ite_true, ite_false, cond_true, cond_false, ZZ, Qa, if_true, if_false, decide_true, decide_false, Qb, Qc, Qd, Qe, Qf, Qg, Qh, Qi, Qj, Qk, Ql, Qm, Qn, Qo, Qp, rb0, rb1, rb2, rb3, rb4, tf0, tf1, tf2, tf3, tf4]
          refine hq _ _ _ ⟨fun _ => ?_, fun h => absurd rfl h⟩
          refine Good.block (Good.seq (Good.region (by kernel_rfl) (GoodO.entry rfl rfl (v := .tuple #[.int .i64 y.1, .pointer (some ⟨b, 0, none⟩)]) ?_ (GoodO.takeq 2 Try.mixed hsp fun Q1 hq => ?_))))
          · simp only [↓reduceIte, reduceCtorEq, Za, Zb, Zc, Zd, Ze, Zf, Zg, Zh, Zi, Zj, Zk, Zl, Zm, Zn, Zo, Zp, Zq, Zr, Zs, Zt, Zu, Zv, gval, Zw, Zx, Zy, Zz, ZA, ZB, ZC, ZD, ZE, ZF, decide_eq_true_eq, ZG, ZH, ZI, ZJ, ZK, ZL, ZM, ZN, ZO, ZP, ZQ, ZR, ZS, Option.some.injEq, exists_eq_left', ZT, ZU, ZV, ZW, ZX, ZY, true_and, and_true, true_or, or_true, false_or, or_false, ite_true, ite_false, cond_true, cond_false, ZZ, Qa, if_true, if_false, decide_true, decide_false, Qb, Qc, Qd, Qe, Qf, Qg, Qh, Qi, Qj, Qk, Ql, Qm, Qn, Qo, Qp, rb0, rb1, rb2, rb3, rb4, tf0, tf1, tf2, tf3, tf4, f79]
            have := find_birth (k := .i64) (o := 0) (fun j z hz => by rw [Nat.zero_add]; exact (hp.ents j z hz).1) hi
            rw [Nat.zero_add, ← g1] at this
            have := effEntry_look (h := h'.upd h2.nx (.look h.nx y.2.2 l.length)) (Heap.get_upd_same _ _ _) ft'.m this
            rwa [hptr] at this
          · simp only [↓reduceIte, reduceCtorEq, Za, Zb, Zc, Zd, Ze, Zf, Zg, Zh, Zi, Zj, Zk, Zl, Zm, Zn, Zo, Zp, Zq, Zr, Zs, Zt, Zu, Zv, gval, Zw, Zx, Zy, Zz, ZA, ZB, ZC, ZD, ZE, ZF, decide_eq_true_eq, ZG, ZH, ZI, ZJ, ZK, ZL, ZM, ZN, ZO, ZP, ZQ, ZR, ZS, Option.some.injEq, exists_eq_left', ZT, ZU, ZV, ZW, ZX, ZY, true_and, and_true, true_or, or_true, false_or, or_false, ite_true, ite_false, cond_true, cond_false, ZZ, Qa, if_true, if_false, decide_true, decide_false, Qb, Qc, Qd, Qe, Qf, Qg, Qh, Qi, Qj, Qk, Ql, Qm, Qn, Qo, Qp, rb0, rb1, rb2, rb3, rb4, tf0, tf1, tf2, tf3, tf4]
            refine hq _ _ (GoodO.nil ⟨fun _ => ?_, fun h => absurd rfl h⟩)
            refine Good.detq Try.mixed hsp (by kernel_rfl) fun Q1 hq => ?_
            simp only [↓reduceIte, reduceCtorEq, Za, Zb, Zc, Zd, Ze, Zf, Zg, Zh, Zi, Zj, Zk, Zl, Zm, Zn, Zo, Zp, Zq, Zr, Zs, Zt, Zu, Zv, gval, Zw, Zx, Zy, Zz, ZA, ZB, ZC, ZD, ZE, ZF, decide_eq_true_eq, ZG, ZH, ZI, ZJ, ZK, ZL, ZM, ZN, ZO, ZP, ZQ, ZR, ZS, Option.some.injEq, exists_eq_left', ZT, ZU, ZV, ZW, ZX, ZY, true_and, and_true, true_or, or_true, false_or, or_false, ite_true, ite_false, cond_true, cond_false, ZZ, Qa, if_true, if_false, decide_true, decide_false, Qb, Qc, Qd, Qe, Qf, Qg, Qh, Qi, Qj, Qk, Ql, Qm, Qn, Qo, Qp, rb0, rb1, rb2, rb3, rb4, tf0, tf1, tf2, tf3, tf4, f4]
            refine runC_of (right_spec h57 h20 h50 ft' g5' ?_)
            have hrw : (if zW W y.1 then (exW W 9 (paI W y.1) && !zW W (paI W y.1)) && decide (paI W y.1 ≠ 0) else chainQ (paI W) (exW W 9) 9 (paI W y.1)) = rightW W y.1 := rfl
            rw [hrw]
            have hdd : (h'.upd h2.nx (.look h.nx y.2.2 l.length)).put h2.nx .dead = h'.upd h2.nx .dead := Heap.upd_upd _ _ _ _
            have hkd : ∀ b, b < h.nx → (h'.upd h2.nx .dead).get b = h.get b := fun b hb => by rw [Heap.get_upd_ne _ _ (by omega)]; exact fk b hb
            cases hr : rightW W y.1 with
            | true =>
              simp only [↓reduceIte, reduceCtorEq, Za, Zb, Zc, Zd, Ze, Zf, Zg, Zh, Zi, Zj, Zk, Zl, Zm, Zn, Zo, Zp, Zq, Zr, Zs, Zt, Zu, Zv, gval, Zw, Zx, Zy, Zz, ZA, ZB, ZC, ZD, ZE, ZF, decide_eq_true_eq, ZG, ZH, ZI, ZJ, ZK, ZL, ZM, ZN, ZO, ZP, ZQ, ZR, ZS, Option.some.injEq, exists_eq_left', ZT, ZU, ZV, ZW, ZX, ZY, true_and, and_true, true_or, or_true, false_or, or_false, ite_true, ite_false, cond_true, cond_false, ZZ, Qa, if_true, if_false, decide_true, decide_false, Qb, Qc, Qd, Qe, Qf, Qg, Qh, Qi, Qj, Qk, Ql, Qm, Qn, Qo, Qp, rb0, rb1, rb2, rb3, rb4, tf0, tf1, tf2, tf3, tf4]
              refine hq _ _ _ (.inl ⟨rfl, ?_⟩)
              rw [hdd]
              refine ⟨by simp only [↓reduceIte, reduceCtorEq, Za, Zb, Zc, Zd, Ze, Zf, Zg, Zh, Zi, Zj, Zk, Zl, Zm, Zn, Zo, Zp, Zq, Zr, Zs, Zt, Zu, Zv, gval, Zw, Zx, Zy, Zz, ZA, ZB, ZC, ZD, ZE, ZF, decide_eq_true_eq, ZG, ZH, ZI, ZJ, ZK, ZL, ZM, ZN, ZO, ZP, ZQ, ZR, ZS, Option.some.injEq, exists_eq_left', ZT, ZU, ZV, ZW, ZX, ZY, true_and, and_true, true_or, or_true, false_or, or_false, ite_true, ite_false, cond_true, cond_false, ZZ, Qa, if_true, if_false, decide_true, decide_false, Qb, Qc, Qd, Qe, Qf, Qg, Qh, Qi, Qj, Qk, Ql, Qm, Qn, Qo, Qp, rb0, rb1, rb2, rb3, rb4, tf0, tf1, tf2, tf3, tf4, f79], by simp only [↓reduceIte, reduceCtorEq, Za, Zb, Zc, Zd, Ze, Zf, Zg, Zh, Zi, Zj, Zk, Zl, Zm, Zn, Zo, Zp, Zq, Zr, Zs, Zt, Zu, Zv, gval, Zw, Zx, Zy, Zz, ZA, ZB, ZC, ZD, ZE, ZF, decide_eq_true_eq, ZG, ZH, ZI, ZJ, ZK, ZL, ZM, ZN, ZO, ZP, ZQ, ZR, ZS, Option.some.injEq, exists_eq_left', ZT, ZU, ZV, ZW, ZX, ZY, true_and, and_true, true_or, or_true, false_or, or_false, ite_true, ite_false, cond_true, cond_false, ZZ, Qa, if_true, if_false, decide_true, decide_false, Qb, Qc, Qd, Qe, Qf, Qg, Qh, Qi, Qj, Qk, Ql, Qm, Qn, Qo, Qp, rb0, rb1, rb2, rb3, rb4, tf0, tf1, tf2, tf3, tf4, f4], by show h2.nx < h'.nx; exact fd, Heap.get_upd_same _ _ _, ft.upd hdc hdm, hkd, fun x hx hxs => ?_⟩
              rcases List.mem_append.1 hxs with hxs | hxs
              · exact fr x hx hxs
              · have hxs : x.2.2 = y.2.2 := by simpa using hxs
                obtain ⟨i2, hi2⟩ := List.getElem?_of_mem hx
                have e2 := (hp.ents i2 x hi2).1
                have : i2 = i := by omega
                subst this
                rw [hi] at hi2
                cases hi2
                exact hr
            | false =>
              simp only [↓reduceIte, reduceCtorEq, Za, Zb, Zc, Zd, Ze, Zf, Zg, Zh, Zi, Zj, Zk, Zl, Zm, Zn, Zo, Zp, Zq, Zr, Zs, Zt, Zu, Zv, gval, Zw, Zx, Zy, Zz, ZA, ZB, ZC, ZD, ZE, ZF, decide_eq_true_eq, ZG, ZH, ZI, ZJ, ZK, ZL, ZM, ZN, ZO, ZP, ZQ, ZR, ZS, Option.some.injEq, exists_eq_left', ZT, ZU, ZV, ZW, ZX, ZY, true_and, and_true, true_or, or_true, false_or, or_false, ite_true, ite_false, cond_true, cond_false, ZZ, Qa, if_true, if_false, decide_true, decide_false, Qb, Qc, Qd, Qe, Qf, Qg, Qh, Qi, Qj, Qk, Ql, Qm, Qn, Qo, Qp, rb0, rb1, rb2, rb3, rb4, tf0, tf1, tf2, tf3, tf4]
              refine hq _ _ _ (.inr ⟨by simp [leave], ⟨fun h => (by cases h), fun _ => ?_⟩⟩)
              rw [hdd]
              simp only [leave]
              simp only [↓reduceIte, reduceCtorEq, Za, Zb, Zc, Zd, Ze, Zf, Zg, Zh, Zi, Zj, Zk, Zl, Zm, Zn, Zo, Zp, Zq, Zr, Zs, Zt, Zu, Zv, gval, Zw, Zx, Zy, Zz, ZA, ZB, ZC, ZD, ZE, ZF, decide_eq_true_eq, ZG, ZH, ZI, ZJ, ZK, ZL, ZM, ZN, ZO, ZP, ZQ, ZR, ZS, Option.some.injEq, exists_eq_left', ZT, ZU, ZV, ZW, ZX, ZY, true_and, and_true, true_or, or_true, false_or, or_false, ite_true, ite_false, cond_true, cond_false, ZZ, Qa, if_true, if_false, decide_true, decide_false, Qb, Qc, Qd, Qe, Qf, Qg, Qh, Qi, Qj, Qk, Ql, Qm, Qn, Qo, Qp, rb0, rb1, rb2, rb3, rb4, tf0, tf1, tf2, tf3, tf4, Try.f33]
              refine hno _ (fun ha => ?_) (by show h.nx ≤ h'.nx; omega) hkd
              have := ha.2.2 y.1 g2
              rw [hr] at this; cases this
        · rintro seen e' h' es clk ⟨f79, f4, fd, fdd, ft, fk, fr⟩ hm' hall
          refine Good.seq (Good.detq Try.mixed hsp (by kernel_rfl) fun Q1 hq => ?_)
          simp only [↓reduceIte, reduceCtorEq, Za, Zb, Zc, Zd, Ze, Zf, Zg, Zh, Zi, Zj, Zk, Zl, Zm, Zn, Zo, Zp, Zq, Zr, Zs, Zt, Zu, Zv, gval, Zw, Zx, Zy, Zz, ZA, ZB, ZC, ZD, ZE, ZF, decide_eq_true_eq, ZG, ZH, ZI, ZJ, ZK, ZL, ZM, ZN, ZO, ZP, ZQ, ZR, ZS, Option.some.injEq, exists_eq_left', ZT, ZU, ZV, ZW, ZX, ZY, true_and, and_true, true_or, or_true, false_or, or_false, ite_true, ite_false, cond_true, cond_false, ZZ, Qa, if_true, if_false, decide_true, decide_false, Qb, Qc, Qd, Qe, Qf, Qg, Qh, Qi, Qj, Qk, Ql, Qm, Qn, Qo, Qp, rb0, rb1, rb2, rb3, rb4, tf0, tf1, tf2, tf3, tf4]
          refine hq _ _ _ ⟨fun h => (by cases h), fun _ => ⟨fun h => (by cases h), fun _ => ?_, fun h => absurd rfl h⟩⟩
          refine Good.detq Try.mixed hsp (by kernel_rfl) fun Q1 hq => ?_
          simp only [↓reduceIte, reduceCtorEq, Za, Zb, Zc, Zd, Ze, Zf, Zg, Zh, Zi, Zj, Zk, Zl, Zm, Zn, Zo, Zp, Zq, Zr, Zs, Zt, Zu, Zv, gval, Zw, Zx, Zy, Zz, ZA, ZB, ZC, ZD, ZE, ZF, decide_eq_true_eq, ZG, ZH, ZI, ZJ, ZK, ZL, ZM, ZN, ZO, ZP, ZQ, ZR, ZS, Option.some.injEq, exists_eq_left', ZT, ZU, ZV, ZW, ZX, ZY, true_and, and_true, true_or, or_true, false_or, or_false, ite_true, ite_false, cond_true, cond_false, ZZ, Qa, if_true, if_false, decide_true, decide_false, Qb, Qc, Qd, Qe, Qf, Qg, Qh, Qi, Qj, Qk, Ql, Qm, Qn, Qo, Qp, rb0, rb1, rb2, rb3, rb4, tf0, tf1, tf2, tf3, tf4, f4]
          refine hq _ _ _ ?_
          simp only [↓reduceIte, reduceCtorEq, Za, Zb, Zc, Zd, Ze, Zf, Zg, Zh, Zi, Zj, Zk, Zl, Zm, Zn, Zo, Zp, Zq, Zr, Zs, Zt, Zu, Zv, gval, Zw, Zx, Zy, Zz, ZA, ZB, ZC, ZD, ZE, ZF, decide_eq_true_eq, ZG, ZH, ZI, ZJ, ZK, ZL, ZM, ZN, ZO, ZP, ZQ, ZR, ZS, Option.some.injEq, exists_eq_left', ZT, ZU, ZV, ZW, ZX, ZY, true_and, and_true, true_or, or_true, false_or, or_false, ite_true, ite_false, cond_true, cond_false, ZZ, Qa, if_true, if_false, decide_true, decide_false, Qb, Qc, Qd, Qe, Qf, Qg, Qh, Qi, Qj, Qk, Ql, Qm, Qn, Qo, Qp, rb0, rb1, rb2, rb3, rb4, tf0, tf1, tf2, tf3, tf4, Try.f33]
          refine hok h' _ _ l ⟨h24, hp.oks, fun m hm => ?_⟩ ft ⟨hp.ap, fun x hx => ?_, Nat.le_refl _, Nat.le_succ _⟩ ?_ fk
          · obtain ⟨b, g1, _⟩ := ft.yes m hm
            obtain ⟨y, y1, y2, _⟩ := lookI_mem g1
            have := fr y y1 ?_
            · rwa [y2] at this
            · rw [ft.m] at hm'
              cases hm'
              exact hall _ (List.mem_map.2 ⟨y, y1, rfl⟩)
          · obtain ⟨i, hi⟩ := List.getElem?_of_mem hx
            have := (hp.ents i x hi).1
            have := (List.getElem?_eq_some_iff.1 hi).1
            omega
          · omega
      · simp only [↓reduceIte, reduceCtorEq, Za, Zb, Zc, Zd, Ze, Zf, Zg, Zh, Zi, Zj, Zk, Zl, Zm, Zn, Zo, Zp, Zq, Zr, Zs, Zt, Zu, Zv, gval, Zw, Zx, Zy, Zz, ZA, ZB, ZC, ZD, ZE, ZF, decide_eq_true_eq, ZG, ZH, ZI, ZJ, ZK, ZL, ZM, ZN, ZO, ZP, ZQ, ZR, ZS, Option.some.injEq, exists_eq_left', ZT, ZU, ZV, ZW, ZX, ZY, true_and, and_true, true_or, or_true, false_or, or_false, ite_true, ite_false, cond_true, cond_false, ZZ, Qa, if_true, if_false, decide_true, decide_false, Qb, Qc, Qd, Qe, Qf, Qg, Qh, Qi, Qj, Qk, Ql, Qm, Qn, Qo, Qp, rb0, rb1, rb2, rb3, rb4, tf0, tf1, tf2, tf3, tf4]
        refine hq _ _ _ ⟨fun h => (by cases h), fun _ => ?_⟩
        simp only [↓reduceIte, reduceCtorEq, Za, Zb, Zc, Zd, Ze, Zf, Zg, Zh, Zi, Zj, Zk, Zl, Zm, Zn, Zo, Zp, Zq, Zr, Zs, Zt, Zu, Zv, gval, Zw, Zx, Zy, Zz, ZA, ZB, ZC, ZD, ZE, ZF, decide_eq_true_eq, ZG, ZH, ZI, ZJ, ZK, ZL, ZM, ZN, ZO, ZP, ZQ, ZR, ZS, Option.some.injEq, exists_eq_left', ZT, ZU, ZV, ZW, ZX, ZY, true_and, and_true, true_or, or_true, false_or, or_false, ite_true, ite_false, cond_true, cond_false, ZZ, Qa, if_true, if_false, decide_true, decide_false, Qb, Qc, Qd, Qe, Qf, Qg, Qh, Qi, Qj, Qk, Ql, Qm, Qn, Qo, Qp, rb0, rb1, rb2, rb3, rb4, tf0, tf1, tf2, tf3, tf4, Try.f33, e2, e3]
        exact hno h2 hna (by omega) hk2
  · have h24' : ¬ (W.length : Int) = 24 := by omega
    simp only [↓reduceIte, reduceCtorEq, Za, Zb, Zc, Zd, Ze, Zf, Zg, Zh, Zi, Zj, Zk, Zl, Zm, Zn, Zo, Zp, Zq, Zr, Zs, Zt, Zu, Zv, gval, Zw, Zx, Zy, Zz, ZA, ZB, ZC, ZD, ZE, ZF, decide_eq_true_eq, ZG, ZH, ZI, ZJ, ZK, ZL, ZM, ZN, ZO, ZP, ZQ, ZR, ZS, Option.some.injEq, exists_eq_left', ZT, ZU, ZV, ZW, ZX, ZY, true_and, and_true, true_or, or_true, false_or, or_false, ite_true, ite_false, cond_true, cond_false, ZZ, Qa, if_true, if_false, decide_true, decide_false, Qb, Qc, Qd, Qe, Qf, Qg, Qh, Qi, Qj, Qk, Ql, Qm, Qn, Qo, Qp, rb0, rb1, rb2, rb3, rb4, tf0, tf1, tf2, tf3, tf4, h24']
    refine hq _ _ _ ⟨fun h => (by cases h), fun _ => ?_⟩
    simp only [↓reduceIte, reduceCtorEq, Za, Zb, Zc, Zd, Ze, Zf, Zg, Zh, Zi, Zj, Zk, Zl, Zm, Zn, Zo, Zp, Zq, Zr, Zs, Zt, Zu, Zv, gval, Zw, Zx, Zy, Zz, ZA, ZB, ZC, ZD, ZE, ZF, decide_eq_true_eq, ZG, ZH, ZI, ZJ, ZK, ZL, ZM, ZN, ZO, ZP, ZQ, ZR, ZS, Option.some.injEq, exists_eq_left', ZT, ZU, ZV, ZW, ZX, ZY, true_and, and_true, true_or, or_true, false_or, or_false, ite_true, ite_false, cond_true, cond_false, ZZ, Qa, if_true, if_false, decide_true, decide_false, Qb, Qc, Qd, Qe, Qf, Qg, Qh, Qi, Qj, Qk, Ql, Qm, Qn, Qo, Qp, rb0, rb1, rb2, rb3, rb4, tf0, tf1, tf2, tf3, tf4, Try.f33]
    exact hno h (fun ha => h24 ha.1) (Nat.le_refl _) (fun _ _ => rfl)
end Go.Proofs.Ytmmjeifdgfolmaa
end
section
/- Processes: Encode. Conditions: the table lies as the rules name. -/
namespace Go.Proofs.Ytmmjeifdgfolmaa
open Go.AM
open Nat renaming reduceBEq → Za, reduceEqDiff → Zb, reduceAdd → Zc, reduceSub → Zd, reduceMul → Ze, reduceLT → Zf, reduceLeDiff → Zg, reduceDiv → Zh, reduceMod → Zi, reducePow → Zj, blt_eq → ZF, zero_add → Qc, add_zero → Qd
open Int renaming reduceAdd → Zk, reduceSub → Zl, reduceMul → Zm, reduceLT → Zn, reduceLE → Zo, reduceEq → Zp, reduceNe → Zq, reduceNeg → Zr, reduceToNat → Zs, reduceDiv → Zt, reduceMod → Zu, reducePow → Zv, cast_ofNat_Int → Zw, toNat_natCast → Qb
open List renaming set_cons_zero → Zx, set_cons_succ → Zy, map_toArray → Zz, cons_append → ZA, nil_append → ZB, append_nil → ZC, all_cons → ZD, all_nil → ZE, getElem?_cons_zero → ZJ, getElem?_cons_succ → ZK, length_cons → ZL, length_nil → ZM, map_cons → ZN, map_nil → ZO, isEmpty_nil → Qe, any_cons → Qf, any_nil → Qg, drop_zero → Qk, drop_succ_cons → Ql, take_succ_cons → Qm, take_zero → Qn, take_nil → Qo, drop_nil → Qp
open Bool renaming and_true → ZG, true_and → ZH, and_self → ZI, not_true → ZT, not_false → ZU, true_eq_false → ZZ, false_eq_true → Qa, or_false → Qh, false_or → Qi, and_eq_true → Qj
open Option renaming map_some → ZP, map_none → ZQ, bind_some → ZR, getD_some → ZS, isNone_some → ZV, isNone_none → ZW, isSome_some → ZX, isSome_none → ZY
set_option linter.unusedSimpArgs false
variable {sp : Special} {h : Heap} {R : Out → Heap → Prop}
theorem wrapUI {x : Int} (h1 : 0 ≤ x) (h2 : x < 18446744073709551616) : wrapF .u64 (wrapF .i64 x) = x := by
  rw [wrapU_mod, wrapF_eq]
  unfold IntKind.wrap IntKind.signed IntKind.bits
  simp only [Bool.true_and, decide_eq_true_eq]
  split <;> omega
theorem take3 {W : List Int} (hW : W.length = 24) {n : Nat} (h1 : 1 ≤ n) (h8 : n ≤ 8) : W.take (3 * n) = W.take (3 * n - 3) ++ [stW W n, paW W n, suW W n] := by
  have s1 : (3 * (n : Int) - 3).toNat = 3 * n - 3 := by omega
  have s2 : (3 * (n : Int) - 2).toNat = 3 * n - 3 + 1 := by omega
  have s3 : (3 * (n : Int) - 1).toNat = 3 * n - 3 + 2 := by omega
  unfold stW paW suW
  rw [s1, s2, s3, show 3 * n = 3 * n - 3 + 1 + 1 + 1 by omega, List.take_succ_eq_append_getElem (by omega), List.take_succ_eq_append_getElem (by omega), List.take_succ_eq_append_getElem (by omega)]
  rw [show 3 * n - 3 + 1 + 1 + 1 - 3 = 3 * n - 3 by omega, getElem!_pos W _ (by omega), getElem!_pos W _ (by omega), getElem!_pos W _ (by omega)]
  simp only [List.append_assoc, List.cons_append, List.nil_append]
set_option maxRecDepth 100000 in
theorem pencode_spec (h32 : (sp 32).isNone = true) {bp r : Nat} {l : List Ent} {c : Nat} {W : List Int} (hacc : accW W) (hw : ∀ y ∈ W, 0 ≤ y ∧ y < 18446744073709551616) (hkeep : ∀ h', (∀ b, b < h.nx → h'.get b = h.get b) → Tab h' bp r l c (zW W) (paI W) (suI W) (exW W 9))
    (hR : ∀ h' v, Words h' h.nx v W → Rk h' h'.nx v W → h.nx ≤ h'.nx → (∀ b, b < h.nx → h'.get b = h.get b) → R (.ret v) h') : WF Try.prog 0 sp 32 [.pointer (some ⟨bp, 0, none⟩)] h R := by
  refine wf_fn (fn := Try.f32) h32 rfl (by kernel_rfl) rfl ?_
  have h24 := hacc.1
  simp only [↓reduceIte, reduceCtorEq, Za, Zb, Zc, Zd, Ze, Zf, Zg, Zh, Zi, Zj, Zk, Zl, Zm, Zn, Zo, Zp, Zq, Zr, Zs, Zt, Zu, Zv, gval, Zw, Zx, Zy, Zz, ZA, ZB, ZC, ZD, ZE, ZF, decide_eq_true_eq, ZG, ZH, ZI, ZJ, ZK, ZL, ZM, ZN, ZO, ZP, ZQ, ZR, ZS, Option.some.injEq, exists_eq_left', ZT, ZU, ZV, ZW, ZX, ZY, true_and, and_true, true_or, or_true, false_or, or_false, ite_true, ite_false, cond_true, cond_false, ZZ, Qa, if_true, if_false, decide_true, decide_false, Qb, Qc, Qd, Qe, Qf, Qg, Qh, Qi, Qj, Qk, Ql, Qm, Qn, Qo, Qp, rb0, rb1, rb2, rb3, rb4, tf0, tf1, tf2, tf3, tf4, Try.f32]
  refine run_loop2 rfl (fun m e h2 => ∃ (n : Nat) (o : Option Nat) (v : Value), m = 9 - n ∧ 1 ≤ n ∧ n ≤ 9 ∧ e.at 0 = .pointer (some ⟨bp, 0, none⟩) ∧ e.at 3 = v ∧ e.at 4 = .int .i64 n ∧ Grown h2 h.nx o (W.take (3 * n - 3)) v ∧ h.nx ≤ h2.nx ∧ (∀ b, b < h.nx → h2.get b = h.get b))
    (fun ex e h2 => ex = .exit 0 ∧ ∃ (o : Option Nat) (v : Value), e.at 3 = v ∧ Grown h2 h.nx o W v ∧ h.nx ≤ h2.nx ∧ (∀ b, b < h.nx → h2.get b = h.get b)) ?_ 8 _ _ ?_ ?_
  · rintro m e h2 ⟨n, o, v, rfl, hn1, hn9, e0, e3, e4, hg, hn, hk⟩ Q' hQn hQx
    by_cases hc : n ≤ 8
    · have hc1 : (n : Int) ≤ 8 := by omega
      have wn : wrapF .i64 ((n : Int) + 1) = (n : Int) + 1 := wrapI (by omega) (by omega)
      have t2 : Tab h2 bp r l c (zW W) (paI W) (suI W) (exW W 9) := hkeep h2 hk
      have b2 := hw (paW W n) (by unfold paW; rw [getElem!_pos W _ (by omega)]; exact List.getElem_mem _)
      have b3 := hw (suW W n) (by unfold suW; rw [getElem!_pos W _ (by omega)]; exact List.getElem_mem _)
      have hok := hacc.2.1 n (by omega) (by omega)
      have hb0 := hw (stW W n) (by unfold stW; rw [getElem!_pos W _ (by omega)]; exact List.getElem_mem _)
      have w2 : wrapF .u64 (paI W n) = paW W n := wrapUI b2.1 b2.2
      have w3 : wrapF .u64 (suI W n) = suW W n := wrapUI b3.1 b3.2
      have key : ∀ (xs : List Int), xs = [stW W n, paW W n, suW W n] → ∀ (h3 : Heap) (e' : Env), h3 = h2.new (cellsB (u64s xs) .exact) → ∀ (E : AM.Eff) (h4 : Heap) (o4 : Option Nat) (v4 : Value), E.val = v4 → Grown h4 h.nx o4 (W.take (3 * n - 3) ++ xs) v4 → h3.nx ≤ h4.nx → (∀ b', o ≠ some b' → b' < h3.nx → h4.get b' = h3.get b') → e'.at 0 = .pointer (some ⟨bp, 0, none⟩) → e'.at 3 = v4 → e'.at 4 = .int .i64 ((n : Int) + 1) → Q' .normal e' h4 := by
        rintro xs rfl h3 e' rfl E h4 o4 v4 rfl hg4 hn4 hk4 f0 f3 f4
        rw [Heap.nx_new] at hn4
        refine hQn _ _ _ (by omega) ⟨n + 1, o4, _, rfl, by omega, by omega, f0, f3, f4, ?_, by omega, fun b' hb' => ?_⟩
        · rw [show 3 * (n + 1) - 3 = 3 * n by omega, take3 h24 hn1 hc]; exact hg4
        · rw [hk4 b' (hg.ne hb') (by rw [Heap.nx_new]; omega), Heap.get_new_ne _ _ (by omega), hk b' hb']
      have hlen : (W.take (3 * n - 3)).length + 3 ≤ 20000000000 := by rw [List.length_take]; omega
      cases hex : exW W 9 n with
      | false =>
        have hs0 : stW W n = 0 := by
          unfold exW at hex
          have := of_decide_eq_false hex
          by_cases q : stW W n = 0
          · exact q
          · exact absurd ⟨by omega, by omega, q⟩ this
        have hz := hok.2.2.1 hs0
        simp (disch := (first | omega | rfl | (simp only [Heap.nx_upd, Heap.nx_new]; omega))) only [↓reduceIte, reduceCtorEq, Za, Zb, Zc, Zd, Ze, Zf, Zg, Zh, Zi, Zj, Zk, Zl, Zm, Zn, Zo, Zp, Zq, Zr, Zs, Zt, Zu, Zv, gval, Zw, Zx, Zy, Zz, ZA, ZB, ZC, ZD, ZE, ZF, decide_eq_true_eq, ZG, ZH, ZI, ZJ, ZK, ZL, ZM, ZN, ZO, ZP, ZQ, ZR, ZS, Option.some.injEq, exists_eq_left', ZT, ZU, ZV, ZW, ZX, ZY, true_and, and_true, true_or, or_true, false_or, or_false, ite_true, ite_false, cond_true, cond_false, ZZ, Qa, if_true, if_false, decide_true, decide_false, Qb, Qc, Qd, Qe, Qf, Qg, Qh, Qi, Qj, Qk, Ql, Qm, Qn, Qo, Qp, rb0, rb1, rb2, rb3, rb4, tf0, tf1, tf2, tf3, tf4, Heap.get_upd_ne, Heap.get_new_ne, Heap.get_new_at, overL_one, if_pos, stX_exactN, e0, e3, e4, hc1, t2.p, lk89, t2.m, lkX_some, t2.no _ hex, Option.getD_none, bs3_47]
        obtain ⟨E, h4, o4, v4, a1, a2, a3, hg4, hn4, hk4, _⟩ := grow (h := h2.new (cellsB [.int .u64 0, .int .u64 0, .int .u64 0] .exact)) (xs := [0, 0, 0]) hg.new (by simp (disch := (first | omega | rfl | (simp only [Heap.nx_upd, Heap.nx_new]; omega))) only [Heap.get_upd_ne, Heap.get_new_ne, Heap.get_new_at, Heap.get_upd_same, Heap.get_new_same, Heap.nx_upd, Heap.nx_new]; omega) (x := .slice (some ⟨h2.nx, 0, none⟩) 3 3) rfl (by rw [firstL_slc _ _ _ _ _ _ _ _ _ (Heap.get_new_same _ _) (by simp)]; rfl) hlen
        rw [Heap.nx_new] at a1
        rw [a1]
        simp (disch := (first | omega | rfl | (simp only [Heap.nx_upd, Heap.nx_new]; omega))) only [↓reduceIte, reduceCtorEq, Za, Zb, Zc, Zd, Ze, Zf, Zg, Zh, Zi, Zj, Zk, Zl, Zm, Zn, Zo, Zp, Zq, Zr, Zs, Zt, Zu, Zv, gval, Zw, Zx, Zy, Zz, ZA, ZB, ZC, ZD, ZE, ZF, decide_eq_true_eq, ZG, ZH, ZI, ZJ, ZK, ZL, ZM, ZN, ZO, ZP, ZQ, ZR, ZS, Option.some.injEq, exists_eq_left', ZT, ZU, ZV, ZW, ZX, ZY, true_and, and_true, true_or, or_true, false_or, or_false, ite_true, ite_false, cond_true, cond_false, ZZ, Qa, if_true, if_false, decide_true, decide_false, Qb, Qc, Qd, Qe, Qf, Qg, Qh, Qi, Qj, Qk, Ql, Qm, Qn, Qo, Qp, rb0, rb1, rb2, rb3, rb4, tf0, tf1, tf2, tf3, tf4, Heap.get_upd_ne, Heap.get_new_ne, Heap.get_new_at, overL_one, if_pos, stX_exactN, a2, a3, e0, e4, wn]
        exact key [0, 0, 0] (by rw [hs0, hz.1, hz.2]) _ _ rfl E h4 o4 v4 a2 hg4 hn4 hk4 (by simp only [↓reduceIte, reduceCtorEq, Za, Zb, Zc, Zd, Ze, Zf, Zg, Zh, Zi, Zj, Zk, Zl, Zm, Zn, Zo, Zp, Zq, Zr, Zs, Zt, Zu, Zv, gval, Zw, Zx, Zy, Zz, ZA, ZB, ZC, ZD, ZE, ZF, decide_eq_true_eq, ZG, ZH, ZI, ZJ, ZK, ZL, ZM, ZN, ZO, ZP, ZQ, ZR, ZS, Option.some.injEq, exists_eq_left', ZT, ZU, ZV, ZW, ZX, ZY, true_and, and_true, true_or, or_true, false_or, or_false, ite_true, ite_false, cond_true, cond_false, ZZ, Qa, if_true, if_false, decide_true, decide_false, Qb, Qc, Qd, Qe, Qf, Qg, Qh, Qi, Qj, Qk, Ql, Qm, Qn, Qo, Qp, rb0, rb1, rb2, rb3, rb4, tf0, tf1, tf2, tf3, tf4, e0]) (by simp only [↓reduceIte, reduceCtorEq, Za, Zb, Zc, Zd, Ze, Zf, Zg, Zh, Zi, Zj, Zk, Zl, Zm, Zn, Zo, Zp, Zq, Zr, Zs, Zt, Zu, Zv, gval, Zw, Zx, Zy, Zz, ZA, ZB, ZC, ZD, ZE, ZF, decide_eq_true_eq, ZG, ZH, ZI, ZJ, ZK, ZL, ZM, ZN, ZO, ZP, ZQ, ZR, ZS, Option.some.injEq, exists_eq_left', ZT, ZU, ZV, ZW, ZX, ZY, true_and, and_true, true_or, or_true, false_or, or_false, ite_true, ite_false, cond_true, cond_false, ZZ, Qa, if_true, if_false, decide_true, decide_false, Qb, Qc, Qd, Qe, Qf, Qg, Qh, Qi, Qj, Qk, Ql, Qm, Qn, Qo, Qp, rb0, rb1, rb2, rb3, rb4, tf0, tf1, tf2, tf3, tf4]) (by simp only [↓reduceIte, reduceCtorEq, Za, Zb, Zc, Zd, Ze, Zf, Zg, Zh, Zi, Zj, Zk, Zl, Zm, Zn, Zo, Zp, Zq, Zr, Zs, Zt, Zu, Zv, gval, Zw, Zx, Zy, Zz, ZA, ZB, ZC, ZD, ZE, ZF, decide_eq_true_eq, ZG, ZH, ZI, ZJ, ZK, ZL, ZM, ZN, ZO, ZP, ZQ, ZR, ZS, Option.some.injEq, exists_eq_left', ZT, ZU, ZV, ZW, ZX, ZY, true_and, and_true, true_or, or_true, false_or, or_false, ite_true, ite_false, cond_true, cond_false, ZZ, Qa, if_true, if_false, decide_true, decide_false, Qb, Qc, Qd, Qe, Qf, Qg, Qh, Qi, Qj, Qk, Ql, Qm, Qn, Qo, Qp, rb0, rb1, rb2, rb3, rb4, tf0, tf1, tf2, tf3, tf4])
      | true =>
        obtain ⟨b, g1, g2⟩ := t2.yes _ hex
        cases hz : zW W n with
        | false =>
          have hs1 : stW W n = 1 := by
            have q1 := of_decide_eq_true (show decide (1 ≤ (n : Int) ∧ (n : Int) < (9 : Nat) ∧ stW W n ≠ 0) = true from hex)
            have q2 := of_decide_eq_false (show decide (stW W n = 2) = false from hz)
            have := hok.1
            omega
          rw [hz] at g2
          simp (disch := (first | omega | rfl | (simp only [Heap.nx_upd, Heap.nx_new]; omega))) only [↓reduceIte, reduceCtorEq, Za, Zb, Zc, Zd, Ze, Zf, Zg, Zh, Zi, Zj, Zk, Zl, Zm, Zn, Zo, Zp, Zq, Zr, Zs, Zt, Zu, Zv, gval, Zw, Zx, Zy, Zz, ZA, ZB, ZC, ZD, ZE, ZF, decide_eq_true_eq, ZG, ZH, ZI, ZJ, ZK, ZL, ZM, ZN, ZO, ZP, ZQ, ZR, ZS, Option.some.injEq, exists_eq_left', ZT, ZU, ZV, ZW, ZX, ZY, true_and, and_true, true_or, or_true, false_or, or_false, ite_true, ite_false, cond_true, cond_false, ZZ, Qa, if_true, if_false, decide_true, decide_false, Qb, Qc, Qd, Qe, Qf, Qg, Qh, Qi, Qj, Qk, Ql, Qm, Qn, Qo, Qp, rb0, rb1, rb2, rb3, rb4, tf0, tf1, tf2, tf3, tf4, Heap.get_upd_ne, Heap.get_new_ne, Heap.get_new_at, overL_one, if_pos, stX_exactN, e0, e3, e4, hc1, t2.p, lk89, t2.m, lkX_some, g1, g2, Option.getD_some, bs3_47, w2]
          obtain ⟨E, h4, o4, v4, a1, a2, a3, hg4, hn4, hk4, _⟩ := grow (h := h2.new (cellsB [.int .u64 1, .int .u64 (paW W n), .int .u64 0] .exact)) (xs := [1, paW W n, 0]) hg.new (by simp (disch := (first | omega | rfl | (simp only [Heap.nx_upd, Heap.nx_new]; omega))) only [Heap.get_upd_ne, Heap.get_new_ne, Heap.get_new_at, Heap.get_upd_same, Heap.get_new_same, Heap.nx_upd, Heap.nx_new]; omega) (x := .slice (some ⟨h2.nx, 0, none⟩) 3 3) rfl (by rw [firstL_slc _ _ _ _ _ _ _ _ _ (Heap.get_new_same _ _) (by simp)]; rfl) hlen
          rw [Heap.nx_new] at a1
          rw [a1]
          simp (disch := (first | omega | rfl | (simp only [Heap.nx_upd, Heap.nx_new]; omega))) only [↓reduceIte, reduceCtorEq, Za, Zb, Zc, Zd, Ze, Zf, Zg, Zh, Zi, Zj, Zk, Zl, Zm, Zn, Zo, Zp, Zq, Zr, Zs, Zt, Zu, Zv, gval, Zw, Zx, Zy, Zz, ZA, ZB, ZC, ZD, ZE, ZF, decide_eq_true_eq, ZG, ZH, ZI, ZJ, ZK, ZL, ZM, ZN, ZO, ZP, ZQ, ZR, ZS, Option.some.injEq, exists_eq_left', ZT, ZU, ZV, ZW, ZX, ZY, true_and, and_true, true_or, or_true, false_or, or_false, ite_true, ite_false, cond_true, cond_false, ZZ, Qa, if_true, if_false, decide_true, decide_false, Qb, Qc, Qd, Qe, Qf, Qg, Qh, Qi, Qj, Qk, Ql, Qm, Qn, Qo, Qp, rb0, rb1, rb2, rb3, rb4, tf0, tf1, tf2, tf3, tf4, Heap.get_upd_ne, Heap.get_new_ne, Heap.get_new_at, overL_one, if_pos, stX_exactN, a2, a3, e0, e4, wn]
          exact key [1, paW W n, 0] (by rw [hs1, hok.2.2.2 hs1]) _ _ rfl E h4 o4 v4 a2 hg4 hn4 hk4 (by simp only [↓reduceIte, reduceCtorEq, Za, Zb, Zc, Zd, Ze, Zf, Zg, Zh, Zi, Zj, Zk, Zl, Zm, Zn, Zo, Zp, Zq, Zr, Zs, Zt, Zu, Zv, gval, Zw, Zx, Zy, Zz, ZA, ZB, ZC, ZD, ZE, ZF, decide_eq_true_eq, ZG, ZH, ZI, ZJ, ZK, ZL, ZM, ZN, ZO, ZP, ZQ, ZR, ZS, Option.some.injEq, exists_eq_left', ZT, ZU, ZV, ZW, ZX, ZY, true_and, and_true, true_or, or_true, false_or, or_false, ite_true, ite_false, cond_true, cond_false, ZZ, Qa, if_true, if_false, decide_true, decide_false, Qb, Qc, Qd, Qe, Qf, Qg, Qh, Qi, Qj, Qk, Ql, Qm, Qn, Qo, Qp, rb0, rb1, rb2, rb3, rb4, tf0, tf1, tf2, tf3, tf4, e0]) (by simp only [↓reduceIte, reduceCtorEq, Za, Zb, Zc, Zd, Ze, Zf, Zg, Zh, Zi, Zj, Zk, Zl, Zm, Zn, Zo, Zp, Zq, Zr, Zs, Zt, Zu, Zv, gval, Zw, Zx, Zy, Zz, ZA, ZB, ZC, ZD, ZE, ZF, decide_eq_true_eq, ZG, ZH, ZI, ZJ, ZK, ZL, ZM, ZN, ZO, ZP, ZQ, ZR, ZS, Option.some.injEq, exists_eq_left', ZT, ZU, ZV, ZW, ZX, ZY, true_and, and_true, true_or, or_true, false_or, or_false, ite_true, ite_false, cond_true, cond_false, ZZ, Qa, if_true, if_false, decide_true, decide_false, Qb, Qc, Qd, Qe, Qf, Qg, Qh, Qi, Qj, Qk, Ql, Qm, Qn, Qo, Qp, rb0, rb1, rb2, rb3, rb4, tf0, tf1, tf2, tf3, tf4]) (by simp only [↓reduceIte, reduceCtorEq, Za, Zb, Zc, Zd, Ze, Zf, Zg, Zh, Zi, Zj, Zk, Zl, Zm, Zn, Zo, Zp, Zq, Zr, Zs, Zt, Zu, Zv, gval, Zw, Zx, Zy, Zz, ZA, ZB, ZC, ZD, ZE, ZF, decide_eq_true_eq, ZG, ZH, ZI, ZJ, ZK, ZL, ZM, ZN, ZO, ZP, ZQ, ZR, ZS, Option.some.injEq, exists_eq_left', ZT, ZU, ZV, ZW, ZX, ZY, true_and, and_true, true_or, or_true, false_or, or_false, ite_true, ite_false, cond_true, cond_false, ZZ, Qa, if_true, if_false, decide_true, decide_false, Qb, Qc, Qd, Qe, Qf, Qg, Qh, Qi, Qj, Qk, Ql, Qm, Qn, Qo, Qp, rb0, rb1, rb2, rb3, rb4, tf0, tf1, tf2, tf3, tf4])
        | true =>
          have hs2 : stW W n = 2 := of_decide_eq_true (show decide (stW W n = 2) = true from hz)
          rw [hz] at g2
          simp (disch := (first | omega | rfl | (simp only [Heap.nx_upd, Heap.nx_new]; omega))) only [↓reduceIte, reduceCtorEq, Za, Zb, Zc, Zd, Ze, Zf, Zg, Zh, Zi, Zj, Zk, Zl, Zm, Zn, Zo, Zp, Zq, Zr, Zs, Zt, Zu, Zv, gval, Zw, Zx, Zy, Zz, ZA, ZB, ZC, ZD, ZE, ZF, decide_eq_true_eq, ZG, ZH, ZI, ZJ, ZK, ZL, ZM, ZN, ZO, ZP, ZQ, ZR, ZS, Option.some.injEq, exists_eq_left', ZT, ZU, ZV, ZW, ZX, ZY, true_and, and_true, true_or, or_true, false_or, or_false, ite_true, ite_false, cond_true, cond_false, ZZ, Qa, if_true, if_false, decide_true, decide_false, Qb, Qc, Qd, Qe, Qf, Qg, Qh, Qi, Qj, Qk, Ql, Qm, Qn, Qo, Qp, rb0, rb1, rb2, rb3, rb4, tf0, tf1, tf2, tf3, tf4, Heap.get_upd_ne, Heap.get_new_ne, Heap.get_new_at, overL_one, if_pos, stX_exactN, e0, e3, e4, hc1, t2.p, lk89, t2.m, lkX_some, g1, g2, Option.getD_some]
          refine run_draw (ps := [(5, 9), (4, 10), (5, 10)]) (by kernel_rfl) (by kernel_rfl) ?_
          simp (disch := (first | omega | rfl | (simp only [Heap.nx_upd, Heap.nx_new]; omega))) only [↓reduceIte, reduceCtorEq, Za, Zb, Zc, Zd, Ze, Zf, Zg, Zh, Zi, Zj, Zk, Zl, Zm, Zn, Zo, Zp, Zq, Zr, Zs, Zt, Zu, Zv, gval, Zw, Zx, Zy, Zz, ZA, ZB, ZC, ZD, ZE, ZF, decide_eq_true_eq, ZG, ZH, ZI, ZJ, ZK, ZL, ZM, ZN, ZO, ZP, ZQ, ZR, ZS, Option.some.injEq, exists_eq_left', ZT, ZU, ZV, ZW, ZX, ZY, true_and, and_true, true_or, or_true, false_or, or_false, ite_true, ite_false, cond_true, cond_false, ZZ, Qa, if_true, if_false, decide_true, decide_false, Qb, Qc, Qd, Qe, Qf, Qg, Qh, Qi, Qj, Qk, Ql, Qm, Qn, Qo, Qp, rb0, rb1, rb2, rb3, rb4, tf0, tf1, tf2, tf3, tf4, Heap.get_upd_ne, Heap.get_new_ne, Heap.get_new_at, overL_one, if_pos, stX_exactN, e0, e3, e4, g1, g2, bs3_47, w2, w3]
          obtain ⟨E, h4, o4, v4, a1, a2, a3, hg4, hn4, hk4, _⟩ := grow (h := h2.new (cellsB [.int .u64 2, .int .u64 (paW W n), .int .u64 (suW W n)] .exact)) (xs := [2, paW W n, suW W n]) hg.new (by simp (disch := (first | omega | rfl | (simp only [Heap.nx_upd, Heap.nx_new]; omega))) only [Heap.get_upd_ne, Heap.get_new_ne, Heap.get_new_at, Heap.get_upd_same, Heap.get_new_same, Heap.nx_upd, Heap.nx_new]; omega) (x := .slice (some ⟨h2.nx, 0, none⟩) 3 3) rfl (by rw [firstL_slc _ _ _ _ _ _ _ _ _ (Heap.get_new_same _ _) (by simp)]; rfl) hlen
          rw [Heap.nx_new] at a1
          rw [a1]
          simp (disch := (first | omega | rfl | (simp only [Heap.nx_upd, Heap.nx_new]; omega))) only [↓reduceIte, reduceCtorEq, Za, Zb, Zc, Zd, Ze, Zf, Zg, Zh, Zi, Zj, Zk, Zl, Zm, Zn, Zo, Zp, Zq, Zr, Zs, Zt, Zu, Zv, gval, Zw, Zx, Zy, Zz, ZA, ZB, ZC, ZD, ZE, ZF, decide_eq_true_eq, ZG, ZH, ZI, ZJ, ZK, ZL, ZM, ZN, ZO, ZP, ZQ, ZR, ZS, Option.some.injEq, exists_eq_left', ZT, ZU, ZV, ZW, ZX, ZY, true_and, and_true, true_or, or_true, false_or, or_false, ite_true, ite_false, cond_true, cond_false, ZZ, Qa, if_true, if_false, decide_true, decide_false, Qb, Qc, Qd, Qe, Qf, Qg, Qh, Qi, Qj, Qk, Ql, Qm, Qn, Qo, Qp, rb0, rb1, rb2, rb3, rb4, tf0, tf1, tf2, tf3, tf4, Heap.get_upd_ne, Heap.get_new_ne, Heap.get_new_at, overL_one, if_pos, stX_exactN, a2, a3, e0, e4, wn, nbeq_ne]
          exact key [2, paW W n, suW W n] (by rw [hs2]) _ _ rfl E h4 o4 v4 a2 hg4 hn4 hk4 (by simp only [↓reduceIte, reduceCtorEq, Za, Zb, Zc, Zd, Ze, Zf, Zg, Zh, Zi, Zj, Zk, Zl, Zm, Zn, Zo, Zp, Zq, Zr, Zs, Zt, Zu, Zv, gval, Zw, Zx, Zy, Zz, ZA, ZB, ZC, ZD, ZE, ZF, decide_eq_true_eq, ZG, ZH, ZI, ZJ, ZK, ZL, ZM, ZN, ZO, ZP, ZQ, ZR, ZS, Option.some.injEq, exists_eq_left', ZT, ZU, ZV, ZW, ZX, ZY, true_and, and_true, true_or, or_true, false_or, or_false, ite_true, ite_false, cond_true, cond_false, ZZ, Qa, if_true, if_false, decide_true, decide_false, Qb, Qc, Qd, Qe, Qf, Qg, Qh, Qi, Qj, Qk, Ql, Qm, Qn, Qo, Qp, rb0, rb1, rb2, rb3, rb4, tf0, tf1, tf2, tf3, tf4, e0]) (by simp only [↓reduceIte, reduceCtorEq, Za, Zb, Zc, Zd, Ze, Zf, Zg, Zh, Zi, Zj, Zk, Zl, Zm, Zn, Zo, Zp, Zq, Zr, Zs, Zt, Zu, Zv, gval, Zw, Zx, Zy, Zz, ZA, ZB, ZC, ZD, ZE, ZF, decide_eq_true_eq, ZG, ZH, ZI, ZJ, ZK, ZL, ZM, ZN, ZO, ZP, ZQ, ZR, ZS, Option.some.injEq, exists_eq_left', ZT, ZU, ZV, ZW, ZX, ZY, true_and, and_true, true_or, or_true, false_or, or_false, ite_true, ite_false, cond_true, cond_false, ZZ, Qa, if_true, if_false, decide_true, decide_false, Qb, Qc, Qd, Qe, Qf, Qg, Qh, Qi, Qj, Qk, Ql, Qm, Qn, Qo, Qp, rb0, rb1, rb2, rb3, rb4, tf0, tf1, tf2, tf3, tf4]) (by simp only [↓reduceIte, reduceCtorEq, Za, Zb, Zc, Zd, Ze, Zf, Zg, Zh, Zi, Zj, Zk, Zl, Zm, Zn, Zo, Zp, Zq, Zr, Zs, Zt, Zu, Zv, gval, Zw, Zx, Zy, Zz, ZA, ZB, ZC, ZD, ZE, ZF, decide_eq_true_eq, ZG, ZH, ZI, ZJ, ZK, ZL, ZM, ZN, ZO, ZP, ZQ, ZR, ZS, Option.some.injEq, exists_eq_left', ZT, ZU, ZV, ZW, ZX, ZY, true_and, and_true, true_or, or_true, false_or, or_false, ite_true, ite_false, cond_true, cond_false, ZZ, Qa, if_true, if_false, decide_true, decide_false, Qb, Qc, Qd, Qe, Qf, Qg, Qh, Qi, Qj, Qk, Ql, Qm, Qn, Qo, Qp, rb0, rb1, rb2, rb3, rb4, tf0, tf1, tf2, tf3, tf4])
    · obtain rfl : n = 9 := by omega
      simp (disch := (first | omega | rfl | (simp only [Heap.nx_upd, Heap.nx_new]; omega))) only [↓reduceIte, reduceCtorEq, Za, Zb, Zc, Zd, Ze, Zf, Zg, Zh, Zi, Zj, Zk, Zl, Zm, Zn, Zo, Zp, Zq, Zr, Zs, Zt, Zu, Zv, gval, Zw, Zx, Zy, Zz, ZA, ZB, ZC, ZD, ZE, ZF, decide_eq_true_eq, ZG, ZH, ZI, ZJ, ZK, ZL, ZM, ZN, ZO, ZP, ZQ, ZR, ZS, Option.some.injEq, exists_eq_left', ZT, ZU, ZV, ZW, ZX, ZY, true_and, and_true, true_or, or_true, false_or, or_false, ite_true, ite_false, cond_true, cond_false, ZZ, Qa, if_true, if_false, decide_true, decide_false, Qb, Qc, Qd, Qe, Qf, Qg, Qh, Qi, Qj, Qk, Ql, Qm, Qn, Qo, Qp, rb0, rb1, rb2, rb3, rb4, tf0, tf1, tf2, tf3, tf4, Heap.get_upd_ne, Heap.get_new_ne, Heap.get_new_at, overL_one, if_pos, stX_exactN, e4]
      refine hQx _ _ _ (by simp) ⟨rfl, o, v, by simp only [↓reduceIte, reduceCtorEq, Za, Zb, Zc, Zd, Ze, Zf, Zg, Zh, Zi, Zj, Zk, Zl, Zm, Zn, Zo, Zp, Zq, Zr, Zs, Zt, Zu, Zv, gval, Zw, Zx, Zy, Zz, ZA, ZB, ZC, ZD, ZE, ZF, decide_eq_true_eq, ZG, ZH, ZI, ZJ, ZK, ZL, ZM, ZN, ZO, ZP, ZQ, ZR, ZS, Option.some.injEq, exists_eq_left', ZT, ZU, ZV, ZW, ZX, ZY, true_and, and_true, true_or, or_true, false_or, or_false, ite_true, ite_false, cond_true, cond_false, ZZ, Qa, if_true, if_false, decide_true, decide_false, Qb, Qc, Qd, Qe, Qf, Qg, Qh, Qi, Qj, Qk, Ql, Qm, Qn, Qo, Qp, rb0, rb1, rb2, rb3, rb4, tf0, tf1, tf2, tf3, tf4, e3], ?_, hn, hk⟩
      rwa [List.take_of_length_le (by omega)] at hg
  · refine ⟨1, none, .slice none 0 0, rfl, by omega, by omega, ?_, ?_, ?_, ⟨.inl ⟨rfl, rfl, by simp⟩⟩, Nat.le_refl _, fun _ _ => rfl⟩
    · simp only [↓reduceIte, reduceCtorEq, Za, Zb, Zc, Zd, Ze, Zf, Zg, Zh, Zi, Zj, Zk, Zl, Zm, Zn, Zo, Zp, Zq, Zr, Zs, Zt, Zu, Zv, gval, Zw, Zx, Zy, Zz, ZA, ZB, ZC, ZD, ZE, ZF, decide_eq_true_eq, ZG, ZH, ZI, ZJ, ZK, ZL, ZM, ZN, ZO, ZP, ZQ, ZR, ZS, Option.some.injEq, exists_eq_left', ZT, ZU, ZV, ZW, ZX, ZY, true_and, and_true, true_or, or_true, false_or, or_false, ite_true, ite_false, cond_true, cond_false, ZZ, Qa, if_true, if_false, decide_true, decide_false, Qb, Qc, Qd, Qe, Qf, Qg, Qh, Qi, Qj, Qk, Ql, Qm, Qn, Qo, Qp, rb0, rb1, rb2, rb3, rb4, tf0, tf1, tf2, tf3, tf4]
    · simp only [↓reduceIte, reduceCtorEq, Za, Zb, Zc, Zd, Ze, Zf, Zg, Zh, Zi, Zj, Zk, Zl, Zm, Zn, Zo, Zp, Zq, Zr, Zs, Zt, Zu, Zv, gval, Zw, Zx, Zy, Zz, ZA, ZB, ZC, ZD, ZE, ZF, decide_eq_true_eq, ZG, ZH, ZI, ZJ, ZK, ZL, ZM, ZN, ZO, ZP, ZQ, ZR, ZS, Option.some.injEq, exists_eq_left', ZT, ZU, ZV, ZW, ZX, ZY, true_and, and_true, true_or, or_true, false_or, or_false, ite_true, ite_false, cond_true, cond_false, ZZ, Qa, if_true, if_false, decide_true, decide_false, Qb, Qc, Qd, Qe, Qf, Qg, Qh, Qi, Qj, Qk, Ql, Qm, Qn, Qo, Qp, rb0, rb1, rb2, rb3, rb4, tf0, tf1, tf2, tf3, tf4]
    · simp only [↓reduceIte, reduceCtorEq, Za, Zb, Zc, Zd, Ze, Zf, Zg, Zh, Zi, Zj, Zk, Zl, Zm, Zn, Zo, Zp, Zq, Zr, Zs, Zt, Zu, Zv, gval, Zw, Zx, Zy, Zz, ZA, ZB, ZC, ZD, ZE, ZF, decide_eq_true_eq, ZG, ZH, ZI, ZJ, ZK, ZL, ZM, ZN, ZO, ZP, ZQ, ZR, ZS, Option.some.injEq, exists_eq_left', ZT, ZU, ZV, ZW, ZX, ZY, true_and, and_true, true_or, or_true, false_or, or_false, ite_true, ite_false, cond_true, cond_false, ZZ, Qa, if_true, if_false, decide_true, decide_false, Qb, Qc, Qd, Qe, Qf, Qg, Qh, Qi, Qj, Qk, Ql, Qm, Qn, Qo, Qp, rb0, rb1, rb2, rb3, rb4, tf0, tf1, tf2, tf3, tf4]
  · rintro ex e h2 - ⟨rfl, o, v, e3, hg, hn, hk⟩
    simp only [↓reduceIte, reduceCtorEq, Za, Zb, Zc, Zd, Ze, Zf, Zg, Zh, Zi, Zj, Zk, Zl, Zm, Zn, Zo, Zp, Zq, Zr, Zs, Zt, Zu, Zv, gval, Zw, Zx, Zy, Zz, ZA, ZB, ZC, ZD, ZE, ZF, decide_eq_true_eq, ZG, ZH, ZI, ZJ, ZK, ZL, ZM, ZN, ZO, ZP, ZQ, ZR, ZS, Option.some.injEq, exists_eq_left', ZT, ZU, ZV, ZW, ZX, ZY, true_and, and_true, true_or, or_true, false_or, or_false, ite_true, ite_false, cond_true, cond_false, ZZ, Qa, if_true, if_false, decide_true, decide_false, Qb, Qc, Qd, Qe, Qf, Qg, Qh, Qi, Qj, Qk, Ql, Qm, Qn, Qo, Qp, rb0, rb1, rb2, rb3, rb4, tf0, tf1, tf2, tf3, tf4, e3]
    exact hR _ _ hg.words hg.rk hn hk
end Go.Proofs.Ytmmjeifdgfolmaa
end
section
/- The answer's processes: Pid, Live, root, Encode. Conditions: the cells lie as the rules name. -/
namespace Go.Proofs.Ytmmjeifdgfolmaa
open Go.AM
open Nat renaming reduceBEq → Za, reduceEqDiff → Zb, reduceAdd → Zc, reduceSub → Zd, reduceMul → Ze, reduceLT → Zf, reduceLeDiff → Zg, reduceDiv → Zh, reduceMod → Zi, reducePow → Zj, blt_eq → ZF, zero_add → Qc, add_zero → Qd
open Int renaming reduceAdd → Zk, reduceSub → Zl, reduceMul → Zm, reduceLT → Zn, reduceLE → Zo, reduceEq → Zp, reduceNe → Zq, reduceNeg → Zr, reduceToNat → Zs, reduceDiv → Zt, reduceMod → Zu, reducePow → Zv, cast_ofNat_Int → Zw, toNat_natCast → Qb
open List renaming set_cons_zero → Zx, set_cons_succ → Zy, map_toArray → Zz, cons_append → ZA, nil_append → ZB, append_nil → ZC, all_cons → ZD, all_nil → ZE, getElem?_cons_zero → ZJ, getElem?_cons_succ → ZK, length_cons → ZL, length_nil → ZM, map_cons → ZN, map_nil → ZO, isEmpty_nil → Qe, any_cons → Qf, any_nil → Qg, drop_zero → Qk, drop_succ_cons → Ql, take_succ_cons → Qm, take_zero → Qn, take_nil → Qo, drop_nil → Qp
open Bool renaming and_true → ZG, true_and → ZH, and_self → ZI, not_true → ZT, not_false → ZU, true_eq_false → ZZ, false_eq_true → Qa, or_false → Qh, false_or → Qi, and_eq_true → Qj
open Option renaming map_some → ZP, map_none → ZQ, bind_some → ZR, getD_some → ZS, isNone_some → ZV, isNone_none → ZW, isSome_some → ZX, isSome_none → ZY
set_option linter.unusedSimpArgs false
variable {sp : Special} {h : Heap} {R : Out → Heap → Prop}
set_option maxRecDepth 100000 in
theorem pid_spec (h0 : (sp 59).isNone = true) {p : Int} (hR : R (.ret (.bool (decide (1 ≤ p ∧ p ≤ 8)))) h) : WF Try.prog 0 sp 59 [.int .i64 p] h R := by
  refine wf_fn (fn := Try.f59) h0 rfl (by kernel_rfl) rfl ?_
  by_cases c1 : 1 ≤ p
  · by_cases c2 : p ≤ 8
    · simp only [↓reduceIte, reduceCtorEq, Za, Zb, Zc, Zd, Ze, Zf, Zg, Zh, Zi, Zj, Zk, Zl, Zm, Zn, Zo, Zp, Zq, Zr, Zs, Zt, Zu, Zv, gval, Zw, Zx, Zy, Zz, ZA, ZB, ZC, ZD, ZE, ZF, decide_eq_true_eq, ZG, ZH, ZI, ZJ, ZK, ZL, ZM, ZN, ZO, ZP, ZQ, ZR, ZS, Option.some.injEq, exists_eq_left', ZT, ZU, ZV, ZW, ZX, ZY, true_and, and_true, true_or, or_true, false_or, or_false, ite_true, ite_false, cond_true, cond_false, ZZ, Qa, if_true, if_false, decide_true, decide_false, Qb, Qc, Qd, Qe, Qf, Qg, Qh, Qi, Qj, Qk, Ql, Qm, Qn, Qo, Qp, rb0, rb1, rb2, rb3, rb4, tf0, tf1, tf2, tf3, tf4, Try.f59, c1, c2]
      rw [decide_eq_true ⟨c1, c2⟩] at hR; exact hR
    · simp only [↓reduceIte, reduceCtorEq, Za, Zb, Zc, Zd, Ze, Zf, Zg, Zh, Zi, Zj, Zk, Zl, Zm, Zn, Zo, Zp, Zq, Zr, Zs, Zt, Zu, Zv, gval, Zw, Zx, Zy, Zz, ZA, ZB, ZC, ZD, ZE, ZF, decide_eq_true_eq, ZG, ZH, ZI, ZJ, ZK, ZL, ZM, ZN, ZO, ZP, ZQ, ZR, ZS, Option.some.injEq, exists_eq_left', ZT, ZU, ZV, ZW, ZX, ZY, true_and, and_true, true_or, or_true, false_or, or_false, ite_true, ite_false, cond_true, cond_false, ZZ, Qa, if_true, if_false, decide_true, decide_false, Qb, Qc, Qd, Qe, Qf, Qg, Qh, Qi, Qj, Qk, Ql, Qm, Qn, Qo, Qp, rb0, rb1, rb2, rb3, rb4, tf0, tf1, tf2, tf3, tf4, Try.f59, c1, c2]
      rw [decide_eq_false (fun h => c2 h.2)] at hR; exact hR
  · simp only [↓reduceIte, reduceCtorEq, Za, Zb, Zc, Zd, Ze, Zf, Zg, Zh, Zi, Zj, Zk, Zl, Zm, Zn, Zo, Zp, Zq, Zr, Zs, Zt, Zu, Zv, gval, Zw, Zx, Zy, Zz, ZA, ZB, ZC, ZD, ZE, ZF, decide_eq_true_eq, ZG, ZH, ZI, ZJ, ZK, ZL, ZM, ZN, ZO, ZP, ZQ, ZR, ZS, Option.some.injEq, exists_eq_left', ZT, ZU, ZV, ZW, ZX, ZY, true_and, and_true, true_or, or_true, false_or, or_false, ite_true, ite_false, cond_true, cond_false, ZZ, Qa, if_true, if_false, decide_true, decide_false, Qb, Qc, Qd, Qe, Qf, Qg, Qh, Qi, Qj, Qk, Ql, Qm, Qn, Qo, Qp, rb0, rb1, rb2, rb3, rb4, tf0, tf1, tf2, tf3, tf4, Try.f59, c1]
    rw [decide_eq_false (fun h => c1 h.1)] at hR; exact hR
def wI (W : List Int) : List Value := W.map fun x => .int .i64 (wrapF .i64 x)
def stI (W : List Int) (m : Int) : Int := wrapF .i64 (stW W m)
theorem wI_len {W : List Int} : (wI W).length = W.length := by unfold wI; simp
theorem wI_get {W : List Int} (hW : W.length = 24) {k : Nat} (hk : k < 24) : (wI W)[k]? = some (.int .i64 (wrapF .i64 W[k]!)) := by
  unfold wI
  rw [List.getElem?_map, List.getElem?_eq_getElem (by omega), getElem!_pos W k (by omega)]; rfl
theorem wI_st {W : List Int} (hW : W.length = 24) {i : Nat} (hi : i < 8) : (wI W)[i * 3]? = some (.int .i64 (stI W (i + 1))) := by
  rw [wI_get hW (by omega)]; unfold stI stW; rw [show (3 * ((i : Int) + 1) - 3).toNat = i * 3 by omega]
theorem wI_pa {W : List Int} (hW : W.length = 24) {i : Nat} (hi : i < 8) : (wI W)[i * 3 + 1]? = some (.int .i64 (paI W (i + 1))) := by
  rw [wI_get hW (by omega)]; unfold paI paW; rw [show (3 * ((i : Int) + 1) - 2).toNat = i * 3 + 1 by omega]
theorem wI_su {W : List Int} (hW : W.length = 24) {i : Nat} (hi : i < 8) : (wI W)[i * 3 + 2]? = some (.int .i64 (suI W (i + 1))) := by
  rw [wI_get hW (by omega)]; unfold suI suW; rw [show (3 * ((i : Int) + 1) - 1).toNat = i * 3 + 2 by omega]
set_option maxRecDepth 100000 in
theorem rlive_spec (h40 : (sp 40).isNone = true) (h59 : (sp 59).isNone = true) {b : Nat} {W : List Int} (hW : W.length = 24) (hb : h.get b = some (cellsB (wI W) .exact)) {p : Int} (hR : R (.ret (.bool (decide (1 ≤ p ∧ p ≤ 8) && decide (stI W p = 1)))) h) :
    WF Try.prog 0 sp 40 [.pointer (some ⟨b, 0, none⟩), .int .i64 p] h R := by
  refine wf_fn (fn := Try.f40) h40 rfl (by kernel_rfl) rfl ?_
  simp only [↓reduceIte, reduceCtorEq, Za, Zb, Zc, Zd, Ze, Zf, Zg, Zh, Zi, Zj, Zk, Zl, Zm, Zn, Zo, Zp, Zq, Zr, Zs, Zt, Zu, Zv, gval, Zw, Zx, Zy, Zz, ZA, ZB, ZC, ZD, ZE, ZF, decide_eq_true_eq, ZG, ZH, ZI, ZJ, ZK, ZL, ZM, ZN, ZO, ZP, ZQ, ZR, ZS, Option.some.injEq, exists_eq_left', ZT, ZU, ZV, ZW, ZX, ZY, true_and, and_true, true_or, or_true, false_or, or_false, ite_true, ite_false, cond_true, cond_false, ZZ, Qa, if_true, if_false, decide_true, decide_false, Qb, Qc, Qd, Qe, Qf, Qg, Qh, Qi, Qj, Qk, Ql, Qm, Qn, Qo, Qp, rb0, rb1, rb2, rb3, rb4, tf0, tf1, tf2, tf3, tf4, Try.f40]
  refine runC_of (pid_spec h59 ?_)
  by_cases hp : 1 ≤ p ∧ p ≤ 8
  · rw [decide_eq_true hp] at hR ⊢
    obtain ⟨i, rfl⟩ : ∃ i : Nat, p = (i : Int) + 1 := ⟨(p - 1).toNat, by omega⟩
    have w1 : wrapF .i64 ((i : Int) + 1 - 1) = (i : Int) := by rw [wrapI (by omega) (by omega)]; omega
    have c1 := wI_st hW (i := i) (by omega)
    have hi : (i : Int) < 8 := by omega
    have hi3 : i * 3 < 24 := by omega
    have hl : (wI W).length = 24 := by rw [wI_len, hW]
    simp (disch := (first | omega | rfl | (simp only [Heap.nx_upd, Heap.nx_new]; omega))) only [↓reduceIte, reduceCtorEq, Za, Zb, Zc, Zd, Ze, Zf, Zg, Zh, Zi, Zj, Zk, Zl, Zm, Zn, Zo, Zp, Zq, Zr, Zs, Zt, Zu, Zv, gval, Zw, Zx, Zy, Zz, ZA, ZB, ZC, ZD, ZE, ZF, decide_eq_true_eq, ZG, ZH, ZI, ZJ, ZK, ZL, ZM, ZN, ZO, ZP, ZQ, ZR, ZS, Option.some.injEq, exists_eq_left', ZT, ZU, ZV, ZW, ZX, ZY, true_and, and_true, true_or, or_true, false_or, or_false, ite_true, ite_false, cond_true, cond_false, ZZ, Qa, if_true, if_false, decide_true, decide_false, Qb, Qc, Qd, Qe, Qf, Qg, Qh, Qi, Qj, Qk, Ql, Qm, Qn, Qo, Qp, rb0, rb1, rb2, rb3, rb4, tf0, tf1, tf2, tf3, tf4, Heap.get_upd_ne, Heap.get_new_ne, Heap.get_new_at, overL_one, if_pos, stX_exactN, w1, hb, c1, hi, hl]
    exact hR
  · rw [decide_eq_false hp] at hR ⊢
    simp only [↓reduceIte, reduceCtorEq, Za, Zb, Zc, Zd, Ze, Zf, Zg, Zh, Zi, Zj, Zk, Zl, Zm, Zn, Zo, Zp, Zq, Zr, Zs, Zt, Zu, Zv, gval, Zw, Zx, Zy, Zz, ZA, ZB, ZC, ZD, ZE, ZF, decide_eq_true_eq, ZG, ZH, ZI, ZJ, ZK, ZL, ZM, ZN, ZO, ZP, ZQ, ZR, ZS, Option.some.injEq, exists_eq_left', ZT, ZU, ZV, ZW, ZX, ZY, true_and, and_true, true_or, or_true, false_or, or_false, ite_true, ite_false, cond_true, cond_false, ZZ, Qa, if_true, if_false, decide_true, decide_false, Qb, Qc, Qd, Qe, Qf, Qg, Qh, Qi, Qj, Qk, Ql, Qm, Qn, Qo, Qp, rb0, rb1, rb2, rb3, rb4, tf0, tf1, tf2, tf3, tf4]
    exact hR
/-- does the line of parents end, as the answer has it? -/
def rootQ (pa : Int → Int) : Nat → Int → Bool
  | 0, _ => false
  | f + 1, p => if p = 0 then true else rootQ pa f (pa p)
set_option maxRecDepth 100000 in
theorem root_spec (h58 : (sp 58).isNone = true) {b : Nat} {W : List Int} (hW : W.length = 24) (hpa : ∀ m : Int, 1 ≤ m → m < 9 → 0 ≤ paI W m ∧ paI W m ≤ 8) (hb : h.get b = some (cellsB (wI W) .exact)) {p : Int} (hp : 0 ≤ p ∧ p ≤ 8) (hR : R (.ret (.bool (rootQ (paI W) 9 p))) h) :
    WF Try.prog 0 sp 58 [.pointer (some ⟨b, 0, none⟩), .int .i64 p] h R := by
  refine wf_fn (fn := Try.f58) h58 rfl (by kernel_rfl) rfl ?_
  have hl : (wI W).length = 24 := by rw [wI_len, hW]
  generalize hres : rootQ (paI W) 9 p = res at hR
  simp only [↓reduceIte, reduceCtorEq, Za, Zb, Zc, Zd, Ze, Zf, Zg, Zh, Zi, Zj, Zk, Zl, Zm, Zn, Zo, Zp, Zq, Zr, Zs, Zt, Zu, Zv, gval, Zw, Zx, Zy, Zz, ZA, ZB, ZC, ZD, ZE, ZF, decide_eq_true_eq, ZG, ZH, ZI, ZJ, ZK, ZL, ZM, ZN, ZO, ZP, ZQ, ZR, ZS, Option.some.injEq, exists_eq_left', ZT, ZU, ZV, ZW, ZX, ZY, true_and, and_true, true_or, or_true, false_or, or_false, ite_true, ite_false, cond_true, cond_false, ZZ, Qa, if_true, if_false, decide_true, decide_false, Qb, Qc, Qd, Qe, Qf, Qg, Qh, Qi, Qj, Qk, Ql, Qm, Qn, Qo, Qp, rb0, rb1, rb2, rb3, rb4, tf0, tf1, tf2, tf3, tf4, Try.f58]
  refine run_loop2 rfl (fun m e h2 => ∃ (k : Nat) (q : Int), m = 9 - k ∧ k ≤ 9 ∧ h2 = h ∧ e.at 0 = .pointer (some ⟨b, 0, none⟩) ∧ e.at 1 = .int .i64 q ∧ e.at 5 = .int .i64 k ∧ (0 ≤ q ∧ q ≤ 8) ∧ rootQ (paI W) (9 - k) q = res)
    (fun x e h2 => h2 = h ∧ ((x = .exit 0 ∧ res = false) ∨ (x = .ret ∧ e.at 4 = .bool res))) ?_ 9 _ _ ?_ ?_
  · rintro m e h2 ⟨k, q, rfl, hk, rfl, e0, e1, e5, hq0, hq⟩ Q' hQn hQx
    by_cases hk8 : k ≤ 8
    · have hk8' : (k : Int) ≤ 8 := by omega
      have wk : wrapF .i64 ((k : Int) + 1) = (k : Int) + 1 := wrapI (by omega) (by omega)
      obtain ⟨f, hf⟩ : ∃ f, 9 - k = f + 1 := ⟨9 - k - 1, by omega⟩
      rw [hf] at hq
      unfold rootQ at hq
      by_cases hqz : q = 0
      · rw [if_pos hqz] at hq
        subst hq
        simp (disch := (first | omega | rfl | (simp only [Heap.nx_upd, Heap.nx_new]; omega))) only [↓reduceIte, reduceCtorEq, Za, Zb, Zc, Zd, Ze, Zf, Zg, Zh, Zi, Zj, Zk, Zl, Zm, Zn, Zo, Zp, Zq, Zr, Zs, Zt, Zu, Zv, gval, Zw, Zx, Zy, Zz, ZA, ZB, ZC, ZD, ZE, ZF, decide_eq_true_eq, ZG, ZH, ZI, ZJ, ZK, ZL, ZM, ZN, ZO, ZP, ZQ, ZR, ZS, Option.some.injEq, exists_eq_left', ZT, ZU, ZV, ZW, ZX, ZY, true_and, and_true, true_or, or_true, false_or, or_false, ite_true, ite_false, cond_true, cond_false, ZZ, Qa, if_true, if_false, decide_true, decide_false, Qb, Qc, Qd, Qe, Qf, Qg, Qh, Qi, Qj, Qk, Ql, Qm, Qn, Qo, Qp, rb0, rb1, rb2, rb3, rb4, tf0, tf1, tf2, tf3, tf4, Heap.get_upd_ne, Heap.get_new_ne, Heap.get_new_at, overL_one, if_pos, stX_exactN, e0, e1, e5, hk8', hqz]
        exact hQx _ _ _ (by simp) ⟨rfl, .inr ⟨rfl, by simp only [↓reduceIte, reduceCtorEq, Za, Zb, Zc, Zd, Ze, Zf, Zg, Zh, Zi, Zj, Zk, Zl, Zm, Zn, Zo, Zp, Zq, Zr, Zs, Zt, Zu, Zv, gval, Zw, Zx, Zy, Zz, ZA, ZB, ZC, ZD, ZE, ZF, decide_eq_true_eq, ZG, ZH, ZI, ZJ, ZK, ZL, ZM, ZN, ZO, ZP, ZQ, ZR, ZS, Option.some.injEq, exists_eq_left', ZT, ZU, ZV, ZW, ZX, ZY, true_and, and_true, true_or, or_true, false_or, or_false, ite_true, ite_false, cond_true, cond_false, ZZ, Qa, if_true, if_false, decide_true, decide_false, Qb, Qc, Qd, Qe, Qf, Qg, Qh, Qi, Qj, Qk, Ql, Qm, Qn, Qo, Qp, rb0, rb1, rb2, rb3, rb4, tf0, tf1, tf2, tf3, tf4]⟩⟩
      · rw [if_neg hqz] at hq
        obtain ⟨i, rfl⟩ : ∃ i : Nat, q = (i : Int) + 1 := ⟨(q - 1).toNat, by omega⟩
        have w1 : wrapF .i64 ((i : Int) + 1 - 1) = (i : Int) := by rw [wrapI (by omega) (by omega)]; omega
        have c1 := wI_pa hW (i := i) (by omega)
        have hi : (i : Int) < 8 := by omega
        have hi3 : i * 3 + 1 < 24 := by omega
        simp (disch := (first | omega | rfl | (simp only [Heap.nx_upd, Heap.nx_new]; omega))) only [↓reduceIte, reduceCtorEq, Za, Zb, Zc, Zd, Ze, Zf, Zg, Zh, Zi, Zj, Zk, Zl, Zm, Zn, Zo, Zp, Zq, Zr, Zs, Zt, Zu, Zv, gval, Zw, Zx, Zy, Zz, ZA, ZB, ZC, ZD, ZE, ZF, decide_eq_true_eq, ZG, ZH, ZI, ZJ, ZK, ZL, ZM, ZN, ZO, ZP, ZQ, ZR, ZS, Option.some.injEq, exists_eq_left', ZT, ZU, ZV, ZW, ZX, ZY, true_and, and_true, true_or, or_true, false_or, or_false, ite_true, ite_false, cond_true, cond_false, ZZ, Qa, if_true, if_false, decide_true, decide_false, Qb, Qc, Qd, Qe, Qf, Qg, Qh, Qi, Qj, Qk, Ql, Qm, Qn, Qo, Qp, rb0, rb1, rb2, rb3, rb4, tf0, tf1, tf2, tf3, tf4, Heap.get_upd_ne, Heap.get_new_ne, Heap.get_new_at, overL_one, if_pos, stX_exactN, e0, e1, e5, hk8', hqz, w1, hb, c1, hi, hl, wk]
        refine hQn _ _ _ (by omega) ⟨k + 1, _, rfl, by omega, rfl, ?_, ?_, ?_, hpa ((i : Int) + 1) (by omega) (by omega), ?_⟩
        · simp only [↓reduceIte, reduceCtorEq, Za, Zb, Zc, Zd, Ze, Zf, Zg, Zh, Zi, Zj, Zk, Zl, Zm, Zn, Zo, Zp, Zq, Zr, Zs, Zt, Zu, Zv, gval, Zw, Zx, Zy, Zz, ZA, ZB, ZC, ZD, ZE, ZF, decide_eq_true_eq, ZG, ZH, ZI, ZJ, ZK, ZL, ZM, ZN, ZO, ZP, ZQ, ZR, ZS, Option.some.injEq, exists_eq_left', ZT, ZU, ZV, ZW, ZX, ZY, true_and, and_true, true_or, or_true, false_or, or_false, ite_true, ite_false, cond_true, cond_false, ZZ, Qa, if_true, if_false, decide_true, decide_false, Qb, Qc, Qd, Qe, Qf, Qg, Qh, Qi, Qj, Qk, Ql, Qm, Qn, Qo, Qp, rb0, rb1, rb2, rb3, rb4, tf0, tf1, tf2, tf3, tf4, e0]
        · simp only [↓reduceIte, reduceCtorEq, Za, Zb, Zc, Zd, Ze, Zf, Zg, Zh, Zi, Zj, Zk, Zl, Zm, Zn, Zo, Zp, Zq, Zr, Zs, Zt, Zu, Zv, gval, Zw, Zx, Zy, Zz, ZA, ZB, ZC, ZD, ZE, ZF, decide_eq_true_eq, ZG, ZH, ZI, ZJ, ZK, ZL, ZM, ZN, ZO, ZP, ZQ, ZR, ZS, Option.some.injEq, exists_eq_left', ZT, ZU, ZV, ZW, ZX, ZY, true_and, and_true, true_or, or_true, false_or, or_false, ite_true, ite_false, cond_true, cond_false, ZZ, Qa, if_true, if_false, decide_true, decide_false, Qb, Qc, Qd, Qe, Qf, Qg, Qh, Qi, Qj, Qk, Ql, Qm, Qn, Qo, Qp, rb0, rb1, rb2, rb3, rb4, tf0, tf1, tf2, tf3, tf4]
        · simp only [↓reduceIte, reduceCtorEq, Za, Zb, Zc, Zd, Ze, Zf, Zg, Zh, Zi, Zj, Zk, Zl, Zm, Zn, Zo, Zp, Zq, Zr, Zs, Zt, Zu, Zv, gval, Zw, Zx, Zy, Zz, ZA, ZB, ZC, ZD, ZE, ZF, decide_eq_true_eq, ZG, ZH, ZI, ZJ, ZK, ZL, ZM, ZN, ZO, ZP, ZQ, ZR, ZS, Option.some.injEq, exists_eq_left', ZT, ZU, ZV, ZW, ZX, ZY, true_and, and_true, true_or, or_true, false_or, or_false, ite_true, ite_false, cond_true, cond_false, ZZ, Qa, if_true, if_false, decide_true, decide_false, Qb, Qc, Qd, Qe, Qf, Qg, Qh, Qi, Qj, Qk, Ql, Qm, Qn, Qo, Qp, rb0, rb1, rb2, rb3, rb4, tf0, tf1, tf2, tf3, tf4]
          rfl
        · rw [show 9 - (k + 1) = f by omega]; exact hq
    · obtain rfl : k = 9 := by omega
      simp (disch := (first | omega | rfl | (simp only [Heap.nx_upd, Heap.nx_new]; omega))) only [↓reduceIte, reduceCtorEq, Za, Zb, Zc, Zd, Ze, Zf, Zg, Zh, Zi, Zj, Zk, Zl, Zm, Zn, Zo, Zp, Zq, Zr, Zs, Zt, Zu, Zv, gval, Zw, Zx, Zy, Zz, ZA, ZB, ZC, ZD, ZE, ZF, decide_eq_true_eq, ZG, ZH, ZI, ZJ, ZK, ZL, ZM, ZN, ZO, ZP, ZQ, ZR, ZS, Option.some.injEq, exists_eq_left', ZT, ZU, ZV, ZW, ZX, ZY, true_and, and_true, true_or, or_true, false_or, or_false, ite_true, ite_false, cond_true, cond_false, ZZ, Qa, if_true, if_false, decide_true, decide_false, Qb, Qc, Qd, Qe, Qf, Qg, Qh, Qi, Qj, Qk, Ql, Qm, Qn, Qo, Qp, rb0, rb1, rb2, rb3, rb4, tf0, tf1, tf2, tf3, tf4, Heap.get_upd_ne, Heap.get_new_ne, Heap.get_new_at, overL_one, if_pos, stX_exactN, e5]
      exact hQx _ _ _ (by simp) ⟨rfl, .inl ⟨rfl, hq.symm⟩⟩
  · refine ⟨0, p, rfl, by omega, rfl, ?_, ?_, ?_, hp, hres⟩
    · simp only [↓reduceIte, reduceCtorEq, Za, Zb, Zc, Zd, Ze, Zf, Zg, Zh, Zi, Zj, Zk, Zl, Zm, Zn, Zo, Zp, Zq, Zr, Zs, Zt, Zu, Zv, gval, Zw, Zx, Zy, Zz, ZA, ZB, ZC, ZD, ZE, ZF, decide_eq_true_eq, ZG, ZH, ZI, ZJ, ZK, ZL, ZM, ZN, ZO, ZP, ZQ, ZR, ZS, Option.some.injEq, exists_eq_left', ZT, ZU, ZV, ZW, ZX, ZY, true_and, and_true, true_or, or_true, false_or, or_false, ite_true, ite_false, cond_true, cond_false, ZZ, Qa, if_true, if_false, decide_true, decide_false, Qb, Qc, Qd, Qe, Qf, Qg, Qh, Qi, Qj, Qk, Ql, Qm, Qn, Qo, Qp, rb0, rb1, rb2, rb3, rb4, tf0, tf1, tf2, tf3, tf4]
    · simp only [↓reduceIte, reduceCtorEq, Za, Zb, Zc, Zd, Ze, Zf, Zg, Zh, Zi, Zj, Zk, Zl, Zm, Zn, Zo, Zp, Zq, Zr, Zs, Zt, Zu, Zv, gval, Zw, Zx, Zy, Zz, ZA, ZB, ZC, ZD, ZE, ZF, decide_eq_true_eq, ZG, ZH, ZI, ZJ, ZK, ZL, ZM, ZN, ZO, ZP, ZQ, ZR, ZS, Option.some.injEq, exists_eq_left', ZT, ZU, ZV, ZW, ZX, ZY, true_and, and_true, true_or, or_true, false_or, or_false, ite_true, ite_false, cond_true, cond_false, ZZ, Qa, if_true, if_false, decide_true, decide_false, Qb, Qc, Qd, Qe, Qf, Qg, Qh, Qi, Qj, Qk, Ql, Qm, Qn, Qo, Qp, rb0, rb1, rb2, rb3, rb4, tf0, tf1, tf2, tf3, tf4]
    · simp only [↓reduceIte, reduceCtorEq, Za, Zb, Zc, Zd, Ze, Zf, Zg, Zh, Zi, Zj, Zk, Zl, Zm, Zn, Zo, Zp, Zq, Zr, Zs, Zt, Zu, Zv, gval, Zw, Zx, Zy, Zz, ZA, ZB, ZC, ZD, ZE, ZF, decide_eq_true_eq, ZG, ZH, ZI, ZJ, ZK, ZL, ZM, ZN, ZO, ZP, ZQ, ZR, ZS, Option.some.injEq, exists_eq_left', ZT, ZU, ZV, ZW, ZX, ZY, true_and, and_true, true_or, or_true, false_or, or_false, ite_true, ite_false, cond_true, cond_false, ZZ, Qa, if_true, if_false, decide_true, decide_false, Qb, Qc, Qd, Qe, Qf, Qg, Qh, Qi, Qj, Qk, Ql, Qm, Qn, Qo, Qp, rb0, rb1, rb2, rb3, rb4, tf0, tf1, tf2, tf3, tf4]
  · rintro x e h2 - ⟨rfl, ⟨rfl, hc⟩ | ⟨rfl, e4⟩⟩
    · simp only [↓reduceIte, reduceCtorEq, Za, Zb, Zc, Zd, Ze, Zf, Zg, Zh, Zi, Zj, Zk, Zl, Zm, Zn, Zo, Zp, Zq, Zr, Zs, Zt, Zu, Zv, gval, Zw, Zx, Zy, Zz, ZA, ZB, ZC, ZD, ZE, ZF, decide_eq_true_eq, ZG, ZH, ZI, ZJ, ZK, ZL, ZM, ZN, ZO, ZP, ZQ, ZR, ZS, Option.some.injEq, exists_eq_left', ZT, ZU, ZV, ZW, ZX, ZY, true_and, and_true, true_or, or_true, false_or, or_false, ite_true, ite_false, cond_true, cond_false, ZZ, Qa, if_true, if_false, decide_true, decide_false, Qb, Qc, Qd, Qe, Qf, Qg, Qh, Qi, Qj, Qk, Ql, Qm, Qn, Qo, Qp, rb0, rb1, rb2, rb3, rb4, tf0, tf1, tf2, tf3, tf4]
      subst hc
      exact hR
    · simp only [↓reduceIte, reduceCtorEq, Za, Zb, Zc, Zd, Ze, Zf, Zg, Zh, Zi, Zj, Zk, Zl, Zm, Zn, Zo, Zp, Zq, Zr, Zs, Zt, Zu, Zv, gval, Zw, Zx, Zy, Zz, ZA, ZB, ZC, ZD, ZE, ZF, decide_eq_true_eq, ZG, ZH, ZI, ZJ, ZK, ZL, ZM, ZN, ZO, ZP, ZQ, ZR, ZS, Option.some.injEq, exists_eq_left', ZT, ZU, ZV, ZW, ZX, ZY, true_and, and_true, true_or, or_true, false_or, or_false, ite_true, ite_false, cond_true, cond_false, ZZ, Qa, if_true, if_false, decide_true, decide_false, Qb, Qc, Qd, Qe, Qf, Qg, Qh, Qi, Qj, Qk, Ql, Qm, Qn, Qo, Qp, rb0, rb1, rb2, rb3, rb4, tf0, tf1, tf2, tf3, tf4, e4]
      exact hR
set_option maxRecDepth 100000 in
theorem rpencode_spec (h43 : (sp 43).isNone = true) {b : Nat} {W : List Int} (hW : W.length = 24) (hw : ∀ y ∈ W, 0 ≤ y ∧ y < 18446744073709551616) (hb : h.get b = some (cellsB (wI W) .exact)) (hbn : b < h.nx)
    (hR : ∀ h' v, Words h' h.nx v W → h.nx ≤ h'.nx → (∀ b, b < h.nx → h'.get b = h.get b) → R (.ret v) h') : WF Try.prog 0 sp 43 [.pointer (some ⟨b, 0, none⟩)] h R := by
  refine wf_fn (fn := Try.f43) h43 rfl (by kernel_rfl) rfl ?_
  have hl : (wI W).length = 24 := by rw [wI_len, hW]
  simp only [↓reduceIte, reduceCtorEq, Za, Zb, Zc, Zd, Ze, Zf, Zg, Zh, Zi, Zj, Zk, Zl, Zm, Zn, Zo, Zp, Zq, Zr, Zs, Zt, Zu, Zv, gval, Zw, Zx, Zy, Zz, ZA, ZB, ZC, ZD, ZE, ZF, decide_eq_true_eq, ZG, ZH, ZI, ZJ, ZK, ZL, ZM, ZN, ZO, ZP, ZQ, ZR, ZS, Option.some.injEq, exists_eq_left', ZT, ZU, ZV, ZW, ZX, ZY, true_and, and_true, true_or, or_true, false_or, or_false, ite_true, ite_false, cond_true, cond_false, ZZ, Qa, if_true, if_false, decide_true, decide_false, Qb, Qc, Qd, Qe, Qf, Qg, Qh, Qi, Qj, Qk, Ql, Qm, Qn, Qo, Qp, rb0, rb1, rb2, rb3, rb4, tf0, tf1, tf2, tf3, tf4, Try.f43]
  refine run_loop2 rfl (fun m e h2 => ∃ (n : Nat) (o : Option Nat) (v : Value), m = 8 - n ∧ n ≤ 8 ∧ e.at 0 = .pointer (some ⟨b, 0, none⟩) ∧ e.at 3 = v ∧ e.at 4 = .int .i64 n ∧ Grown h2 h.nx o (W.take (3 * n)) v ∧ h.nx ≤ h2.nx ∧ (∀ b, b < h.nx → h2.get b = h.get b))
    (fun ex e h2 => ex = .exit 0 ∧ ∃ (o : Option Nat) (v : Value), e.at 3 = v ∧ Grown h2 h.nx o W v ∧ h.nx ≤ h2.nx ∧ (∀ b, b < h.nx → h2.get b = h.get b)) ?_ 8 _ _ ?_ ?_
  · rintro m e h2 ⟨n, o, v, rfl, hn9, e0, e3, e4, hg, hn, hk⟩ Q' hQn hQx
    by_cases hc : n < 8
    · have hc1 : (n : Int) < 8 := by omega
      have wn : wrapF .i64 ((n : Int) + 1) = (n : Int) + 1 := wrapI (by omega) (by omega)
      have hb2 : h2.get b = some (cellsB (wI W) .exact) := (hk b hbn).trans hb
      have c0 := wI_st hW hc
      have c1 := wI_pa hW hc
      have c2 := wI_su hW hc
      have hm : ∀ k : Nat, k < 24 → (0 : Int) ≤ W[k]! ∧ W[k]! < 18446744073709551616 := fun k hk => by rw [getElem!_pos W k (by omega)]; exact hw _ (List.getElem_mem _)
      have w1 : wrapF .u64 (stI W ((n : Int) + 1)) = stW W ((n : Int) + 1) := wrapUI (hm (3 * ((n : Int) + 1) - 3).toNat (by omega)).1 (hm (3 * ((n : Int) + 1) - 3).toNat (by omega)).2
      have w2 : wrapF .u64 (paI W ((n : Int) + 1)) = paW W ((n : Int) + 1) := wrapUI (hm (3 * ((n : Int) + 1) - 2).toNat (by omega)).1 (hm (3 * ((n : Int) + 1) - 2).toNat (by omega)).2
      have w3 : wrapF .u64 (suI W ((n : Int) + 1)) = suW W ((n : Int) + 1) := wrapUI (hm (3 * ((n : Int) + 1) - 1).toNat (by omega)).1 (hm (3 * ((n : Int) + 1) - 1).toNat (by omega)).2
      have l0 : n * 3 < 24 := by omega
      have l1 : n * 3 + 1 < 24 := by omega
      have l2 : n * 3 + 2 < 24 := by omega
      simp (disch := (first | omega | rfl | (simp only [Heap.nx_upd, Heap.nx_new]; omega))) only [↓reduceIte, reduceCtorEq, Za, Zb, Zc, Zd, Ze, Zf, Zg, Zh, Zi, Zj, Zk, Zl, Zm, Zn, Zo, Zp, Zq, Zr, Zs, Zt, Zu, Zv, gval, Zw, Zx, Zy, Zz, ZA, ZB, ZC, ZD, ZE, ZF, decide_eq_true_eq, ZG, ZH, ZI, ZJ, ZK, ZL, ZM, ZN, ZO, ZP, ZQ, ZR, ZS, Option.some.injEq, exists_eq_left', ZT, ZU, ZV, ZW, ZX, ZY, true_and, and_true, true_or, or_true, false_or, or_false, ite_true, ite_false, cond_true, cond_false, ZZ, Qa, if_true, if_false, decide_true, decide_false, Qb, Qc, Qd, Qe, Qf, Qg, Qh, Qi, Qj, Qk, Ql, Qm, Qn, Qo, Qp, rb0, rb1, rb2, rb3, rb4, tf0, tf1, tf2, tf3, tf4, Heap.get_upd_ne, Heap.get_new_ne, Heap.get_new_at, overL_one, if_pos, stX_exactN, e0, e3, e4, hc1]
      refine run_draw (ps := [(8, 15), (7, 16), (8, 16), (8, 23), (16, 23), (7, 24), (8, 24), (15, 24), (16, 24)]) (by kernel_rfl) (by kernel_rfl) ?_
      simp (disch := (first | omega | rfl | (simp only [Heap.nx_upd, Heap.nx_new]; omega))) only [↓reduceIte, reduceCtorEq, Za, Zb, Zc, Zd, Ze, Zf, Zg, Zh, Zi, Zj, Zk, Zl, Zm, Zn, Zo, Zp, Zq, Zr, Zs, Zt, Zu, Zv, gval, Zw, Zx, Zy, Zz, ZA, ZB, ZC, ZD, ZE, ZF, decide_eq_true_eq, ZG, ZH, ZI, ZJ, ZK, ZL, ZM, ZN, ZO, ZP, ZQ, ZR, ZS, Option.some.injEq, exists_eq_left', ZT, ZU, ZV, ZW, ZX, ZY, true_and, and_true, true_or, or_true, false_or, or_false, ite_true, ite_false, cond_true, cond_false, ZZ, Qa, if_true, if_false, decide_true, decide_false, Qb, Qc, Qd, Qe, Qf, Qg, Qh, Qi, Qj, Qk, Ql, Qm, Qn, Qo, Qp, rb0, rb1, rb2, rb3, rb4, tf0, tf1, tf2, tf3, tf4, Heap.get_upd_ne, Heap.get_new_ne, Heap.get_new_at, overL_one, if_pos, stX_exactN, e0, e3, e4, hc1, hb2, hl, c0, c1, c2, w1, w2, w3, bs3_47]
      have hlen : (W.take (3 * n)).length + 3 ≤ 20000000000 := by rw [List.length_take]; omega
      obtain ⟨E, h4, o4, v4, a1, a2, a3, hg4, hn4, hk4, _⟩ := grow (h := h2.new (cellsB [.int .u64 (stW W ((n : Int) + 1)), .int .u64 (paW W ((n : Int) + 1)), .int .u64 (suW W ((n : Int) + 1))] .exact)) (xs := [stW W ((n : Int) + 1), paW W ((n : Int) + 1), suW W ((n : Int) + 1)]) hg.new (by simp (disch := (first | omega | rfl | (simp only [Heap.nx_upd, Heap.nx_new]; omega))) only [Heap.get_upd_ne, Heap.get_new_ne, Heap.get_new_at, Heap.get_upd_same, Heap.get_new_same, Heap.nx_upd, Heap.nx_new]; omega) (x := .slice (some ⟨h2.nx, 0, none⟩) 3 3) rfl (by rw [firstL_slc _ _ _ _ _ _ _ _ _ (Heap.get_new_same _ _) (by simp)]; rfl) hlen
      rw [Heap.nx_new] at a1 hn4
      rw [a1]
      simp (disch := (first | omega | rfl | (simp only [Heap.nx_upd, Heap.nx_new]; omega))) only [↓reduceIte, reduceCtorEq, Za, Zb, Zc, Zd, Ze, Zf, Zg, Zh, Zi, Zj, Zk, Zl, Zm, Zn, Zo, Zp, Zq, Zr, Zs, Zt, Zu, Zv, gval, Zw, Zx, Zy, Zz, ZA, ZB, ZC, ZD, ZE, ZF, decide_eq_true_eq, ZG, ZH, ZI, ZJ, ZK, ZL, ZM, ZN, ZO, ZP, ZQ, ZR, ZS, Option.some.injEq, exists_eq_left', ZT, ZU, ZV, ZW, ZX, ZY, true_and, and_true, true_or, or_true, false_or, or_false, ite_true, ite_false, cond_true, cond_false, ZZ, Qa, if_true, if_false, decide_true, decide_false, Qb, Qc, Qd, Qe, Qf, Qg, Qh, Qi, Qj, Qk, Ql, Qm, Qn, Qo, Qp, rb0, rb1, rb2, rb3, rb4, tf0, tf1, tf2, tf3, tf4, Heap.get_upd_ne, Heap.get_new_ne, Heap.get_new_at, overL_one, if_pos, stX_exactN, a2, a3, e0, e4, wn, nbeq_ne]
      refine hQn _ _ _ (by omega) ⟨n + 1, o4, v4, rfl, by omega, ?_, ?_, ?_, ?_, by omega, fun b' hb' => ?_⟩
      · simp only [↓reduceIte, reduceCtorEq, Za, Zb, Zc, Zd, Ze, Zf, Zg, Zh, Zi, Zj, Zk, Zl, Zm, Zn, Zo, Zp, Zq, Zr, Zs, Zt, Zu, Zv, gval, Zw, Zx, Zy, Zz, ZA, ZB, ZC, ZD, ZE, ZF, decide_eq_true_eq, ZG, ZH, ZI, ZJ, ZK, ZL, ZM, ZN, ZO, ZP, ZQ, ZR, ZS, Option.some.injEq, exists_eq_left', ZT, ZU, ZV, ZW, ZX, ZY, true_and, and_true, true_or, or_true, false_or, or_false, ite_true, ite_false, cond_true, cond_false, ZZ, Qa, if_true, if_false, decide_true, decide_false, Qb, Qc, Qd, Qe, Qf, Qg, Qh, Qi, Qj, Qk, Ql, Qm, Qn, Qo, Qp, rb0, rb1, rb2, rb3, rb4, tf0, tf1, tf2, tf3, tf4, e0]
      · simp only [↓reduceIte, reduceCtorEq, Za, Zb, Zc, Zd, Ze, Zf, Zg, Zh, Zi, Zj, Zk, Zl, Zm, Zn, Zo, Zp, Zq, Zr, Zs, Zt, Zu, Zv, gval, Zw, Zx, Zy, Zz, ZA, ZB, ZC, ZD, ZE, ZF, decide_eq_true_eq, ZG, ZH, ZI, ZJ, ZK, ZL, ZM, ZN, ZO, ZP, ZQ, ZR, ZS, Option.some.injEq, exists_eq_left', ZT, ZU, ZV, ZW, ZX, ZY, true_and, and_true, true_or, or_true, false_or, or_false, ite_true, ite_false, cond_true, cond_false, ZZ, Qa, if_true, if_false, decide_true, decide_false, Qb, Qc, Qd, Qe, Qf, Qg, Qh, Qi, Qj, Qk, Ql, Qm, Qn, Qo, Qp, rb0, rb1, rb2, rb3, rb4, tf0, tf1, tf2, tf3, tf4]
      · simp only [↓reduceIte, reduceCtorEq, Za, Zb, Zc, Zd, Ze, Zf, Zg, Zh, Zi, Zj, Zk, Zl, Zm, Zn, Zo, Zp, Zq, Zr, Zs, Zt, Zu, Zv, gval, Zw, Zx, Zy, Zz, ZA, ZB, ZC, ZD, ZE, ZF, decide_eq_true_eq, ZG, ZH, ZI, ZJ, ZK, ZL, ZM, ZN, ZO, ZP, ZQ, ZR, ZS, Option.some.injEq, exists_eq_left', ZT, ZU, ZV, ZW, ZX, ZY, true_and, and_true, true_or, or_true, false_or, or_false, ite_true, ite_false, cond_true, cond_false, ZZ, Qa, if_true, if_false, decide_true, decide_false, Qb, Qc, Qd, Qe, Qf, Qg, Qh, Qi, Qj, Qk, Ql, Qm, Qn, Qo, Qp, rb0, rb1, rb2, rb3, rb4, tf0, tf1, tf2, tf3, tf4]
        rfl
      · have := take3 hW (n := n + 1) (by omega) (by omega)
        rw [show 3 * (n + 1) - 3 = 3 * n by omega] at this
        rw [this]; exact hg4
      · rw [hk4 b' (hg.ne hb') (by rw [Heap.nx_new]; omega), Heap.get_new_ne _ _ (by omega), hk b' hb']
    · obtain rfl : n = 8 := by omega
      simp (disch := (first | omega | rfl | (simp only [Heap.nx_upd, Heap.nx_new]; omega))) only [↓reduceIte, reduceCtorEq, Za, Zb, Zc, Zd, Ze, Zf, Zg, Zh, Zi, Zj, Zk, Zl, Zm, Zn, Zo, Zp, Zq, Zr, Zs, Zt, Zu, Zv, gval, Zw, Zx, Zy, Zz, ZA, ZB, ZC, ZD, ZE, ZF, decide_eq_true_eq, ZG, ZH, ZI, ZJ, ZK, ZL, ZM, ZN, ZO, ZP, ZQ, ZR, ZS, Option.some.injEq, exists_eq_left', ZT, ZU, ZV, ZW, ZX, ZY, true_and, and_true, true_or, or_true, false_or, or_false, ite_true, ite_false, cond_true, cond_false, ZZ, Qa, if_true, if_false, decide_true, decide_false, Qb, Qc, Qd, Qe, Qf, Qg, Qh, Qi, Qj, Qk, Ql, Qm, Qn, Qo, Qp, rb0, rb1, rb2, rb3, rb4, tf0, tf1, tf2, tf3, tf4, Heap.get_upd_ne, Heap.get_new_ne, Heap.get_new_at, overL_one, if_pos, stX_exactN, e4]
      refine hQx _ _ _ (by simp) ⟨rfl, o, v, by simp only [↓reduceIte, reduceCtorEq, Za, Zb, Zc, Zd, Ze, Zf, Zg, Zh, Zi, Zj, Zk, Zl, Zm, Zn, Zo, Zp, Zq, Zr, Zs, Zt, Zu, Zv, gval, Zw, Zx, Zy, Zz, ZA, ZB, ZC, ZD, ZE, ZF, decide_eq_true_eq, ZG, ZH, ZI, ZJ, ZK, ZL, ZM, ZN, ZO, ZP, ZQ, ZR, ZS, Option.some.injEq, exists_eq_left', ZT, ZU, ZV, ZW, ZX, ZY, true_and, and_true, true_or, or_true, false_or, or_false, ite_true, ite_false, cond_true, cond_false, ZZ, Qa, if_true, if_false, decide_true, decide_false, Qb, Qc, Qd, Qe, Qf, Qg, Qh, Qi, Qj, Qk, Ql, Qm, Qn, Qo, Qp, rb0, rb1, rb2, rb3, rb4, tf0, tf1, tf2, tf3, tf4, e3], ?_, hn, hk⟩
      rwa [List.take_of_length_le (by omega)] at hg
  · refine ⟨0, none, .slice none 0 0, rfl, by omega, ?_, ?_, ?_, ⟨.inl ⟨rfl, rfl, by simp⟩⟩, Nat.le_refl _, fun _ _ => rfl⟩
    · simp only [↓reduceIte, reduceCtorEq, Za, Zb, Zc, Zd, Ze, Zf, Zg, Zh, Zi, Zj, Zk, Zl, Zm, Zn, Zo, Zp, Zq, Zr, Zs, Zt, Zu, Zv, gval, Zw, Zx, Zy, Zz, ZA, ZB, ZC, ZD, ZE, ZF, decide_eq_true_eq, ZG, ZH, ZI, ZJ, ZK, ZL, ZM, ZN, ZO, ZP, ZQ, ZR, ZS, Option.some.injEq, exists_eq_left', ZT, ZU, ZV, ZW, ZX, ZY, true_and, and_true, true_or, or_true, false_or, or_false, ite_true, ite_false, cond_true, cond_false, ZZ, Qa, if_true, if_false, decide_true, decide_false, Qb, Qc, Qd, Qe, Qf, Qg, Qh, Qi, Qj, Qk, Ql, Qm, Qn, Qo, Qp, rb0, rb1, rb2, rb3, rb4, tf0, tf1, tf2, tf3, tf4]
    · simp only [↓reduceIte, reduceCtorEq, Za, Zb, Zc, Zd, Ze, Zf, Zg, Zh, Zi, Zj, Zk, Zl, Zm, Zn, Zo, Zp, Zq, Zr, Zs, Zt, Zu, Zv, gval, Zw, Zx, Zy, Zz, ZA, ZB, ZC, ZD, ZE, ZF, decide_eq_true_eq, ZG, ZH, ZI, ZJ, ZK, ZL, ZM, ZN, ZO, ZP, ZQ, ZR, ZS, Option.some.injEq, exists_eq_left', ZT, ZU, ZV, ZW, ZX, ZY, true_and, and_true, true_or, or_true, false_or, or_false, ite_true, ite_false, cond_true, cond_false, ZZ, Qa, if_true, if_false, decide_true, decide_false, Qb, Qc, Qd, Qe, Qf, Qg, Qh, Qi, Qj, Qk, Ql, Qm, Qn, Qo, Qp, rb0, rb1, rb2, rb3, rb4, tf0, tf1, tf2, tf3, tf4]
    · simp only [↓reduceIte, reduceCtorEq, Za, Zb, Zc, Zd, Ze, Zf, Zg, Zh, Zi, Zj, Zk, Zl, Zm, Zn, Zo, Zp, Zq, Zr, Zs, Zt, Zu, Zv, gval, Zw, Zx, Zy, Zz, ZA, ZB, ZC, ZD, ZE, ZF, decide_eq_true_eq, ZG, ZH, ZI, ZJ, ZK, ZL, ZM, ZN, ZO, ZP, ZQ, ZR, ZS, Option.some.injEq, exists_eq_left', ZT, ZU, ZV, ZW, ZX, ZY, true_and, and_true, true_or, or_true, false_or, or_false, ite_true, ite_false, cond_true, cond_false, ZZ, Qa, if_true, if_false, decide_true, decide_false, Qb, Qc, Qd, Qe, Qf, Qg, Qh, Qi, Qj, Qk, Ql, Qm, Qn, Qo, Qp, rb0, rb1, rb2, rb3, rb4, tf0, tf1, tf2, tf3, tf4]
  · rintro ex e h2 - ⟨rfl, o, v, e3, hg, hn, hk⟩
    simp only [↓reduceIte, reduceCtorEq, Za, Zb, Zc, Zd, Ze, Zf, Zg, Zh, Zi, Zj, Zk, Zl, Zm, Zn, Zo, Zp, Zq, Zr, Zs, Zt, Zu, Zv, gval, Zw, Zx, Zy, Zz, ZA, ZB, ZC, ZD, ZE, ZF, decide_eq_true_eq, ZG, ZH, ZI, ZJ, ZK, ZL, ZM, ZN, ZO, ZP, ZQ, ZR, ZS, Option.some.injEq, exists_eq_left', ZT, ZU, ZV, ZW, ZX, ZY, true_and, and_true, true_or, or_true, false_or, or_false, ite_true, ite_false, cond_true, cond_false, ZZ, Qa, if_true, if_false, decide_true, decide_false, Qb, Qc, Qd, Qe, Qf, Qg, Qh, Qi, Qj, Qk, Ql, Qm, Qn, Qo, Qp, rb0, rb1, rb2, rb3, rb4, tf0, tf1, tf2, tf3, tf4, e3]
    exact hR _ _ hg.words hn hk
end Go.Proofs.Ytmmjeifdgfolmaa
end
section
/- The answer's processes: which words are. No condition. -/
namespace Go.Proofs.Ytmmjeifdgfolmaa
open Go.AM
open Nat renaming reduceBEq → Za, reduceEqDiff → Zb, reduceAdd → Zc, reduceSub → Zd, reduceMul → Ze, reduceLT → Zf, reduceLeDiff → Zg, reduceDiv → Zh, reduceMod → Zi, reducePow → Zj, blt_eq → ZF, zero_add → Qc, add_zero → Qd
open Int renaming reduceAdd → Zk, reduceSub → Zl, reduceMul → Zm, reduceLT → Zn, reduceLE → Zo, reduceEq → Zp, reduceNe → Zq, reduceNeg → Zr, reduceToNat → Zs, reduceDiv → Zt, reduceMod → Zu, reducePow → Zv, cast_ofNat_Int → Zw, toNat_natCast → Qb
open List renaming set_cons_zero → Zx, set_cons_succ → Zy, map_toArray → Zz, cons_append → ZA, nil_append → ZB, append_nil → ZC, all_cons → ZD, all_nil → ZE, getElem?_cons_zero → ZJ, getElem?_cons_succ → ZK, length_cons → ZL, length_nil → ZM, map_cons → ZN, map_nil → ZO, isEmpty_nil → Qe, any_cons → Qf, any_nil → Qg, drop_zero → Qk, drop_succ_cons → Ql, take_succ_cons → Qm, take_zero → Qn, take_nil → Qo, drop_nil → Qp
open Bool renaming and_true → ZG, true_and → ZH, and_self → ZI, not_true → ZT, not_false → ZU, true_eq_false → ZZ, false_eq_true → Qa, or_false → Qh, false_or → Qi, and_eq_true → Qj
open Option renaming map_some → ZP, map_none → ZQ, bind_some → ZR, getD_some → ZS, isNone_some → ZV, isNone_none → ZW, isSome_some → ZX, isSome_none → ZY
set_option linter.unusedSimpArgs false
def okb (W : List Int) (m : Int) : Bool :=
  if stI W m = 0 then (paI W m == 0) && (suI W m == 0)
  else if stI W m = 1 then (decide (paI W m = 0) || decide (stI W (paI W m) ≠ 0)) && decide (suI W m = 0)
  else (decide (paI W m = 0) || decide (stI W (paI W m) ≠ 0)) && (decide (1 ≤ paI W m ∧ paI W m ≤ 8) && decide (stI W (paI W m) = 1))
def accR (W : List Int) : Prop := W.length = 24 ∧ (∀ m : Int, 1 ≤ m → m < 9 → stW W m ≤ 2 ∧ paW W m ≤ 8) ∧ ∀ m : Int, 1 ≤ m → m < 9 → okb W m = true ∧ rootQ (paI W) 9 m = true
end Go.Proofs.Ytmmjeifdgfolmaa
end
