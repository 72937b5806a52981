/- Facts of the types of the program that Try names, for rewriting. No condition. -/
import Derived.Test.YtmmjeifdgfolmaaAmBase
import Derived.Test.YtmmjeifdgfolmaaMyTry
namespace Go.Proofs.Ytmmjeifdgfolmaa
open Go.AM Go
theorem tyA_1 : tyA Try.prog 1 = some false := by kernel_rfl
theorem siz_1 : sizeOf? Try.prog 1 = some 1 := by kernel_rfl
theorem tag_1 : tyTag Try.prog 1 = 7 := by kernel_rfl
theorem zer_1 : zeroL Try.prog 1 = some ([.nilFunc]) := by kernel_rfl
theorem tyA_2 : tyA Try.prog 2 = some false := by kernel_rfl
theorem siz_2 : sizeOf? Try.prog 2 = some 1 := by kernel_rfl
theorem tag_2 : tyTag Try.prog 2 = 9 := by kernel_rfl
theorem intK_2 : intK Try.prog 2 = some .i64 := by kernel_rfl
theorem zer_2 : zeroL Try.prog 2 = some ([.int .i64 0]) := by kernel_rfl
theorem tyA_3 : tyA Try.prog 3 = some false := by kernel_rfl
theorem siz_3 : sizeOf? Try.prog 3 = some 1 := by kernel_rfl
theorem tag_3 : tyTag Try.prog 3 = 9 := by kernel_rfl
theorem intK_3 : intK Try.prog 3 = some .i64 := by kernel_rfl
theorem zer_3 : zeroL Try.prog 3 = some ([.int .i64 0]) := by kernel_rfl
theorem tyA_4 : tyA Try.prog 4 = some false := by kernel_rfl
theorem siz_4 : sizeOf? Try.prog 4 = some 1 := by kernel_rfl
theorem tag_4 : tyTag Try.prog 4 = 1 := by kernel_rfl
theorem zer_4 : zeroL Try.prog 4 = some ([.bool false]) := by kernel_rfl
theorem tyA_22 : tyA Try.prog 22 = some false := by kernel_rfl
theorem siz_22 : sizeOf? Try.prog 22 = some 1 := by kernel_rfl
theorem tag_22 : tyTag Try.prog 22 = 2 := by kernel_rfl
theorem zer_22 : zeroL Try.prog 22 = some ([.pointer none]) := by kernel_rfl
theorem tyA_25 : tyA Try.prog 25 = some false := by kernel_rfl
theorem siz_25 : sizeOf? Try.prog 25 = some 1 := by kernel_rfl
theorem tag_25 : tyTag Try.prog 25 = 9 := by kernel_rfl
theorem intK_25 : intK Try.prog 25 = some .i64 := by kernel_rfl
theorem zer_25 : zeroL Try.prog 25 = some ([.int .i64 0]) := by kernel_rfl
theorem tyA_34 : tyA Try.prog 34 = some false := by kernel_rfl
theorem siz_34 : sizeOf? Try.prog 34 = some 1 := by kernel_rfl
theorem tag_34 : tyTag Try.prog 34 = 4 := by kernel_rfl
theorem slc_34 : slcOf Try.prog 34 = some 1 := by kernel_rfl
theorem mk_34 : mkOf Try.prog 34 = some ([.int .i64 0], 1, 10) := by kernel_rfl
theorem zer_34 : zeroL Try.prog 34 = some ([.slice none 0 0]) := by kernel_rfl
theorem tyA_36 : tyA Try.prog 36 = some false := by kernel_rfl
theorem siz_36 : sizeOf? Try.prog 36 = some 1 := by kernel_rfl
theorem tag_36 : tyTag Try.prog 36 = 7 := by kernel_rfl
theorem zer_36 : zeroL Try.prog 36 = some ([.nilFunc]) := by kernel_rfl
theorem tyA_40 : tyA Try.prog 40 = some false := by kernel_rfl
theorem siz_40 : sizeOf? Try.prog 40 = some 1 := by kernel_rfl
theorem tag_40 : tyTag Try.prog 40 = 2 := by kernel_rfl
theorem zer_40 : zeroL Try.prog 40 = some ([.pointer none]) := by kernel_rfl
theorem tyA_42 : tyA Try.prog 42 = some true := by kernel_rfl
theorem siz_42 : sizeOf? Try.prog 42 = some 16 := by kernel_rfl
theorem tag_42 : tyTag Try.prog 42 = 9 := by kernel_rfl
theorem arr_42 : arrOf Try.prog 42 = some (16, some false, 1) := by kernel_rfl
theorem sarr_42 : sarrOf Try.prog 42 = some (16, 1) := by kernel_rfl
theorem zer_42 : zeroL Try.prog 42 = some ([.bool false, .bool false, .bool false, .bool false, .bool false, .bool false, .bool false, .bool false, .bool false, .bool false, .bool false, .bool false, .bool false, .bool false, .bool false, .bool false]) := by kernel_rfl
theorem tyA_44 : tyA Try.prog 44 = some false := by kernel_rfl
theorem siz_44 : sizeOf? Try.prog 44 = some 1 := by kernel_rfl
theorem tag_44 : tyTag Try.prog 44 = 9 := by kernel_rfl
theorem intK_44 : intK Try.prog 44 = some .u64 := by kernel_rfl
theorem zer_44 : zeroL Try.prog 44 = some ([.int .u64 0]) := by kernel_rfl
theorem tyA_47 : tyA Try.prog 47 = some false := by kernel_rfl
theorem siz_47 : sizeOf? Try.prog 47 = some 1 := by kernel_rfl
theorem tag_47 : tyTag Try.prog 47 = 4 := by kernel_rfl
theorem slc_47 : slcOf Try.prog 47 = some 1 := by kernel_rfl
theorem mk_47 : mkOf Try.prog 47 = some ([.int .u64 0], 1, 10) := by kernel_rfl
theorem zer_47 : zeroL Try.prog 47 = some ([.slice none 0 0]) := by kernel_rfl
theorem tyA_49 : tyA Try.prog 49 = some true := by kernel_rfl
theorem siz_49 : sizeOf? Try.prog 49 = some 2 := by kernel_rfl
theorem tag_49 : tyTag Try.prog 49 = 9 := by kernel_rfl
theorem zer_49 : zeroL Try.prog 49 = some ([.int .i64 0, .slice none 0 0]) := by kernel_rfl
theorem fld_49_0 : fldOf Try.prog 49 0 = some (0, some false, 1) := by kernel_rfl
theorem fld_49_1 : fldOf Try.prog 49 1 = some (1, some false, 1) := by kernel_rfl
theorem tyA_57 : tyA Try.prog 57 = some true := by kernel_rfl
theorem siz_57 : sizeOf? Try.prog 57 = some 3 := by kernel_rfl
theorem tag_57 : tyTag Try.prog 57 = 9 := by kernel_rfl
theorem zer_57 : zeroL Try.prog 57 = some ([.int .i64 0, .int .i64 0, .int .i64 0]) := by kernel_rfl
theorem fld_57_0 : fldOf Try.prog 57 0 = some (0, some false, 1) := by kernel_rfl
theorem fld_57_1 : fldOf Try.prog 57 1 = some (1, some false, 1) := by kernel_rfl
theorem fld_57_2 : fldOf Try.prog 57 2 = some (2, some false, 1) := by kernel_rfl
theorem tyA_62 : tyA Try.prog 62 = some false := by kernel_rfl
theorem siz_62 : sizeOf? Try.prog 62 = some 1 := by kernel_rfl
theorem tag_62 : tyTag Try.prog 62 = 2 := by kernel_rfl
theorem zer_62 : zeroL Try.prog 62 = some ([.pointer none]) := by kernel_rfl
theorem tyA_67 : tyA Try.prog 67 = some false := by kernel_rfl
theorem siz_67 : sizeOf? Try.prog 67 = some 1 := by kernel_rfl
theorem tag_67 : tyTag Try.prog 67 = 4 := by kernel_rfl
theorem slc_67 : slcOf Try.prog 67 = some 3 := by kernel_rfl
theorem mk_67 : mkOf Try.prog 67 = some ([.int .i64 0, .int .i64 0, .int .i64 0], 3, 28) := by kernel_rfl
theorem zer_67 : zeroL Try.prog 67 = some ([.slice none 0 0]) := by kernel_rfl
theorem tyA_69 : tyA Try.prog 69 = some true := by kernel_rfl
theorem siz_69 : sizeOf? Try.prog 69 = some 3 := by kernel_rfl
theorem tag_69 : tyTag Try.prog 69 = 9 := by kernel_rfl
theorem zer_69 : zeroL Try.prog 69 = some ([.int .i64 0, .int .i64 0, .int .i64 0]) := by kernel_rfl
theorem fld_69_0 : fldOf Try.prog 69 0 = some (0, some false, 1) := by kernel_rfl
theorem fld_69_1 : fldOf Try.prog 69 1 = some (1, some false, 1) := by kernel_rfl
theorem fld_69_2 : fldOf Try.prog 69 2 = some (2, some false, 1) := by kernel_rfl
theorem tyA_70 : tyA Try.prog 70 = some true := by kernel_rfl
theorem siz_70 : sizeOf? Try.prog 70 = some 24 := by kernel_rfl
theorem tag_70 : tyTag Try.prog 70 = 9 := by kernel_rfl
theorem arr_70 : arrOf Try.prog 70 = some (8, some true, 3) := by kernel_rfl
theorem sarr_70 : sarrOf Try.prog 70 = some (8, 3) := by kernel_rfl
theorem zer_70 : zeroL Try.prog 70 = some (repeatL ([.int .i64 0, .int .i64 0, .int .i64 0]) 8) := by kernel_rfl
theorem tyA_72 : tyA Try.prog 72 = some true := by kernel_rfl
theorem siz_72 : sizeOf? Try.prog 72 = some 24 := by kernel_rfl
theorem tag_72 : tyTag Try.prog 72 = 9 := by kernel_rfl
theorem zer_72 : zeroL Try.prog 72 = some ((repeatL ([.int .i64 0, .int .i64 0, .int .i64 0]) 8)) := by kernel_rfl
theorem fld_72_0 : fldOf Try.prog 72 0 = some (0, some true, 24) := by kernel_rfl
theorem tyA_80 : tyA Try.prog 80 = some true := by kernel_rfl
theorem siz_80 : sizeOf? Try.prog 80 = some 6 := by kernel_rfl
theorem tag_80 : tyTag Try.prog 80 = 9 := by kernel_rfl
theorem zer_80 : zeroL Try.prog 80 = some ([.int .i64 0, .int .i64 0, .int .i64 0, .int .u64 0, .int .i64 0, .slice none 0 0]) := by kernel_rfl
theorem fld_80_0 : fldOf Try.prog 80 0 = some (0, some false, 1) := by kernel_rfl
theorem fld_80_1 : fldOf Try.prog 80 1 = some (1, some false, 1) := by kernel_rfl
theorem fld_80_2 : fldOf Try.prog 80 2 = some (2, some false, 1) := by kernel_rfl
theorem fld_80_3 : fldOf Try.prog 80 3 = some (3, some false, 1) := by kernel_rfl
theorem fld_80_4 : fldOf Try.prog 80 4 = some (4, some true, 2) := by kernel_rfl
theorem tyA_86 : tyA Try.prog 86 = some false := by kernel_rfl
theorem siz_86 : sizeOf? Try.prog 86 = some 1 := by kernel_rfl
theorem tag_86 : tyTag Try.prog 86 = 2 := by kernel_rfl
theorem zer_86 : zeroL Try.prog 86 = some ([.pointer none]) := by kernel_rfl
theorem tyA_89 : tyA Try.prog 89 = some false := by kernel_rfl
theorem siz_89 : sizeOf? Try.prog 89 = some 1 := by kernel_rfl
theorem tag_89 : tyTag Try.prog 89 = 6 := by kernel_rfl
theorem zer_89 : zeroL Try.prog 89 = some ([.map none]) := by kernel_rfl
theorem tyA_91 : tyA Try.prog 91 = some true := by kernel_rfl
theorem siz_91 : sizeOf? Try.prog 91 = some 1 := by kernel_rfl
theorem tag_91 : tyTag Try.prog 91 = 9 := by kernel_rfl
theorem zer_91 : zeroL Try.prog 91 = some ([.map none]) := by kernel_rfl
theorem fld_91_0 : fldOf Try.prog 91 0 = some (0, some false, 1) := by kernel_rfl
theorem tyA_92 : tyA Try.prog 92 = some false := by kernel_rfl
theorem siz_92 : sizeOf? Try.prog 92 = some 1 := by kernel_rfl
theorem tag_92 : tyTag Try.prog 92 = 2 := by kernel_rfl
theorem zer_92 : zeroL Try.prog 92 = some ([.pointer none]) := by kernel_rfl
theorem tyA_94 : tyA Try.prog 94 = some true := by kernel_rfl
theorem siz_94 : sizeOf? Try.prog 94 = some 3 := by kernel_rfl
theorem tag_94 : tyTag Try.prog 94 = 9 := by kernel_rfl
theorem zer_94 : zeroL Try.prog 94 = some ([.bool false, .int .i64 0, .int .i64 0]) := by kernel_rfl
theorem fld_94_0 : fldOf Try.prog 94 0 = some (0, some false, 1) := by kernel_rfl
theorem fld_94_1 : fldOf Try.prog 94 1 = some (1, some false, 1) := by kernel_rfl
theorem fld_94_2 : fldOf Try.prog 94 2 = some (2, some false, 1) := by kernel_rfl
theorem tyA_96 : tyA Try.prog 96 = some true := by kernel_rfl
theorem siz_96 : sizeOf? Try.prog 96 = some 16 := by kernel_rfl
theorem tag_96 : tyTag Try.prog 96 = 9 := by kernel_rfl
theorem arr_96 : arrOf Try.prog 96 = some (16, some false, 1) := by kernel_rfl
theorem sarr_96 : sarrOf Try.prog 96 = some (16, 1) := by kernel_rfl
theorem zer_96 : zeroL Try.prog 96 = some ([.int .u64 0, .int .u64 0, .int .u64 0, .int .u64 0, .int .u64 0, .int .u64 0, .int .u64 0, .int .u64 0, .int .u64 0, .int .u64 0, .int .u64 0, .int .u64 0, .int .u64 0, .int .u64 0, .int .u64 0, .int .u64 0]) := by kernel_rfl
theorem tyA_98 : tyA Try.prog 98 = some true := by kernel_rfl
theorem siz_98 : sizeOf? Try.prog 98 = some 20 := by kernel_rfl
theorem tag_98 : tyTag Try.prog 98 = 9 := by kernel_rfl
theorem zer_98 : zeroL Try.prog 98 = some ([.int .u64 0, .int .u64 0, .int .u64 0, .int .u64 0, .int .u64 0, .int .u64 0, .int .u64 0, .int .u64 0, .int .u64 0, .int .u64 0, .int .u64 0, .int .u64 0, .int .u64 0, .int .u64 0, .int .u64 0, .int .u64 0, .int .u64 0, .bool false, .int .i64 0, .slice none 0 0]) := by kernel_rfl
theorem fld_98_0 : fldOf Try.prog 98 0 = some (0, some true, 16) := by kernel_rfl
theorem fld_98_1 : fldOf Try.prog 98 1 = some (16, some false, 1) := by kernel_rfl
theorem fld_98_2 : fldOf Try.prog 98 2 = some (17, some false, 1) := by kernel_rfl
theorem fld_98_3 : fldOf Try.prog 98 3 = some (18, some true, 2) := by kernel_rfl
theorem tyA_99 : tyA Try.prog 99 = some true := by kernel_rfl
theorem siz_99 : sizeOf? Try.prog 99 = some 160 := by kernel_rfl
theorem tag_99 : tyTag Try.prog 99 = 9 := by kernel_rfl
theorem arr_99 : arrOf Try.prog 99 = some (8, some true, 20) := by kernel_rfl
theorem sarr_99 : sarrOf Try.prog 99 = some (8, 20) := by kernel_rfl
theorem zer_99 : zeroL Try.prog 99 = some (repeatL ([.int .u64 0, .int .u64 0, .int .u64 0, .int .u64 0, .int .u64 0, .int .u64 0, .int .u64 0, .int .u64 0, .int .u64 0, .int .u64 0, .int .u64 0, .int .u64 0, .int .u64 0, .int .u64 0, .int .u64 0, .int .u64 0, .int .u64 0, .bool false, .int .i64 0, .slice none 0 0]) 8) := by kernel_rfl
theorem tyA_101 : tyA Try.prog 101 = some true := by kernel_rfl
theorem siz_101 : sizeOf? Try.prog 101 = some 160 := by kernel_rfl
theorem tag_101 : tyTag Try.prog 101 = 9 := by kernel_rfl
theorem zer_101 : zeroL Try.prog 101 = some ((repeatL ([.int .u64 0, .int .u64 0, .int .u64 0, .int .u64 0, .int .u64 0, .int .u64 0, .int .u64 0, .int .u64 0, .int .u64 0, .int .u64 0, .int .u64 0, .int .u64 0, .int .u64 0, .int .u64 0, .int .u64 0, .int .u64 0, .int .u64 0, .bool false, .int .i64 0, .slice none 0 0]) 8)) := by kernel_rfl
theorem fld_101_0 : fldOf Try.prog 101 0 = some (0, some true, 160) := by kernel_rfl
theorem tyA_103 : tyA Try.prog 103 = some false := by kernel_rfl
theorem siz_103 : sizeOf? Try.prog 103 = some 1 := by kernel_rfl
theorem tag_103 : tyTag Try.prog 103 = 2 := by kernel_rfl
theorem zer_103 : zeroL Try.prog 103 = some ([.pointer none]) := by kernel_rfl
theorem tyA_107 : tyA Try.prog 107 = some true := by kernel_rfl
theorem siz_107 : sizeOf? Try.prog 107 = some 3 := by kernel_rfl
theorem tag_107 : tyTag Try.prog 107 = 9 := by kernel_rfl
theorem arr_107 : arrOf Try.prog 107 = some (3, some false, 1) := by kernel_rfl
theorem sarr_107 : sarrOf Try.prog 107 = some (3, 1) := by kernel_rfl
theorem zer_107 : zeroL Try.prog 107 = some ([.int .u64 0, .int .u64 0, .int .u64 0]) := by kernel_rfl
theorem tyA_109 : tyA Try.prog 109 = some false := by kernel_rfl
theorem siz_109 : sizeOf? Try.prog 109 = some 1 := by kernel_rfl
theorem tag_109 : tyTag Try.prog 109 = 9 := by kernel_rfl
theorem intK_109 : intK Try.prog 109 = some .u64 := by kernel_rfl
theorem zer_109 : zeroL Try.prog 109 = some ([.int .u64 0]) := by kernel_rfl
theorem tyA_111 : tyA Try.prog 111 = some false := by kernel_rfl
theorem siz_111 : sizeOf? Try.prog 111 = some 1 := by kernel_rfl
theorem tag_111 : tyTag Try.prog 111 = 2 := by kernel_rfl
theorem zer_111 : zeroL Try.prog 111 = some ([.pointer none]) := by kernel_rfl
theorem tyA_112 : tyA Try.prog 112 = some true := by kernel_rfl
theorem siz_112 : sizeOf? Try.prog 112 = some 15 := by kernel_rfl
theorem tag_112 : tyTag Try.prog 112 = 9 := by kernel_rfl
theorem arr_112 : arrOf Try.prog 112 = some (15, some false, 1) := by kernel_rfl
theorem sarr_112 : sarrOf Try.prog 112 = some (15, 1) := by kernel_rfl
theorem zer_112 : zeroL Try.prog 112 = some ([.int .u64 0, .int .u64 0, .int .u64 0, .int .u64 0, .int .u64 0, .int .u64 0, .int .u64 0, .int .u64 0, .int .u64 0, .int .u64 0, .int .u64 0, .int .u64 0, .int .u64 0, .int .u64 0, .int .u64 0]) := by kernel_rfl
theorem tyA_113 : tyA Try.prog 113 = some true := by kernel_rfl
theorem siz_113 : sizeOf? Try.prog 113 = some 15 := by kernel_rfl
theorem tag_113 : tyTag Try.prog 113 = 9 := by kernel_rfl
theorem arr_113 : arrOf Try.prog 113 = some (15, some false, 1) := by kernel_rfl
theorem sarr_113 : sarrOf Try.prog 113 = some (15, 1) := by kernel_rfl
theorem zer_113 : zeroL Try.prog 113 = some ([.bool false, .bool false, .bool false, .bool false, .bool false, .bool false, .bool false, .bool false, .bool false, .bool false, .bool false, .bool false, .bool false, .bool false, .bool false]) := by kernel_rfl
theorem tyA_115 : tyA Try.prog 115 = some true := by kernel_rfl
theorem siz_115 : sizeOf? Try.prog 115 = some 33 := by kernel_rfl
theorem tag_115 : tyTag Try.prog 115 = 9 := by kernel_rfl
theorem zer_115 : zeroL Try.prog 115 = some ([.int .u64 0, .int .u64 0, .int .u64 0, .int .u64 0, .int .u64 0, .int .u64 0, .int .u64 0, .int .u64 0, .int .u64 0, .int .u64 0, .int .u64 0, .int .u64 0, .int .u64 0, .int .u64 0, .int .u64 0, .bool false, .bool false, .bool false, .bool false, .bool false, .bool false, .bool false, .bool false, .bool false, .bool false, .bool false, .bool false, .bool false, .bool false, .bool false, .bool false, .int .i64 0, .slice none 0 0]) := by kernel_rfl
theorem fld_115_0 : fldOf Try.prog 115 0 = some (0, some true, 15) := by kernel_rfl
theorem fld_115_1 : fldOf Try.prog 115 1 = some (15, some true, 15) := by kernel_rfl
theorem fld_115_2 : fldOf Try.prog 115 2 = some (30, some false, 1) := by kernel_rfl
theorem fld_115_3 : fldOf Try.prog 115 3 = some (31, some true, 2) := by kernel_rfl
theorem tyA_116 : tyA Try.prog 116 = some true := by kernel_rfl
theorem siz_116 : sizeOf? Try.prog 116 = some 264 := by kernel_rfl
theorem tag_116 : tyTag Try.prog 116 = 9 := by kernel_rfl
theorem arr_116 : arrOf Try.prog 116 = some (8, some true, 33) := by kernel_rfl
theorem sarr_116 : sarrOf Try.prog 116 = some (8, 33) := by kernel_rfl
theorem zer_116 : zeroL Try.prog 116 = some (repeatL ([.int .u64 0, .int .u64 0, .int .u64 0, .int .u64 0, .int .u64 0, .int .u64 0, .int .u64 0, .int .u64 0, .int .u64 0, .int .u64 0, .int .u64 0, .int .u64 0, .int .u64 0, .int .u64 0, .int .u64 0, .bool false, .bool false, .bool false, .bool false, .bool false, .bool false, .bool false, .bool false, .bool false, .bool false, .bool false, .bool false, .bool false, .bool false, .bool false, .bool false, .int .i64 0, .slice none 0 0]) 8) := by kernel_rfl
theorem tyA_118 : tyA Try.prog 118 = some true := by kernel_rfl
theorem siz_118 : sizeOf? Try.prog 118 = some 264 := by kernel_rfl
theorem tag_118 : tyTag Try.prog 118 = 9 := by kernel_rfl
theorem zer_118 : zeroL Try.prog 118 = some ((repeatL ([.int .u64 0, .int .u64 0, .int .u64 0, .int .u64 0, .int .u64 0, .int .u64 0, .int .u64 0, .int .u64 0, .int .u64 0, .int .u64 0, .int .u64 0, .int .u64 0, .int .u64 0, .int .u64 0, .int .u64 0, .bool false, .bool false, .bool false, .bool false, .bool false, .bool false, .bool false, .bool false, .bool false, .bool false, .bool false, .bool false, .bool false, .bool false, .bool false, .bool false, .int .i64 0, .slice none 0 0]) 8)) := by kernel_rfl
theorem fld_118_0 : fldOf Try.prog 118 0 = some (0, some true, 264) := by kernel_rfl
theorem bld_49 : bldOf Try.prog 49 = some ([.int .i64 0, .slice none 0 0], [(0, 1), (1, 1)]) := by kernel_rfl
theorem build_49 (parts : List (Nat × Value)) : aBuild Try.prog 49 parts = if parts.all (fun x => Nat.blt x.1 2) = true then fillL (fun i => [(0, 1), (1, 1)][i]?) ([.int .i64 0, .slice none 0 0]) parts else aBuildO Try.prog 49 parts := u_build' bld_49 parts
theorem bld_69 : bldOf Try.prog 69 = some ([.int .i64 0, .int .i64 0, .int .i64 0], [(0, 1), (1, 1), (2, 1)]) := by kernel_rfl
theorem build_69 (parts : List (Nat × Value)) : aBuild Try.prog 69 parts = if parts.all (fun x => Nat.blt x.1 3) = true then fillL (fun i => [(0, 1), (1, 1), (2, 1)][i]?) ([.int .i64 0, .int .i64 0, .int .i64 0]) parts else aBuildO Try.prog 69 parts := u_build' bld_69 parts
theorem bld_70 : bldOf Try.prog 70 = some (repeatL ([.int .i64 0, .int .i64 0, .int .i64 0]) 8, [(0, 3), (3, 3), (6, 3), (9, 3), (12, 3), (15, 3), (18, 3), (21, 3)]) := by kernel_rfl
theorem build_70 (parts : List (Nat × Value)) : aBuild Try.prog 70 parts = if parts.all (fun x => Nat.blt x.1 8) = true then fillL (fun i => [(0, 3), (3, 3), (6, 3), (9, 3), (12, 3), (15, 3), (18, 3), (21, 3)][i]?) (repeatL ([.int .i64 0, .int .i64 0, .int .i64 0]) 8) parts else aBuildO Try.prog 70 parts := u_build' bld_70 parts
theorem bld_72 : bldOf Try.prog 72 = some ((repeatL ([.int .i64 0, .int .i64 0, .int .i64 0]) 8), [(0, 24)]) := by kernel_rfl
theorem build_72 (parts : List (Nat × Value)) : aBuild Try.prog 72 parts = if parts.all (fun x => Nat.blt x.1 1) = true then fillL (fun i => [(0, 24)][i]?) ((repeatL ([.int .i64 0, .int .i64 0, .int .i64 0]) 8)) parts else aBuildO Try.prog 72 parts := u_build' bld_72 parts
theorem bld_91 : bldOf Try.prog 91 = some ([.map none], [(0, 1)]) := by kernel_rfl
theorem build_91 (parts : List (Nat × Value)) : aBuild Try.prog 91 parts = if parts.all (fun x => Nat.blt x.1 1) = true then fillL (fun i => [(0, 1)][i]?) ([.map none]) parts else aBuildO Try.prog 91 parts := u_build' bld_91 parts
theorem bld_94 : bldOf Try.prog 94 = some ([.bool false, .int .i64 0, .int .i64 0], [(0, 1), (1, 1), (2, 1)]) := by kernel_rfl
theorem build_94 (parts : List (Nat × Value)) : aBuild Try.prog 94 parts = if parts.all (fun x => Nat.blt x.1 3) = true then fillL (fun i => [(0, 1), (1, 1), (2, 1)][i]?) ([.bool false, .int .i64 0, .int .i64 0]) parts else aBuildO Try.prog 94 parts := u_build' bld_94 parts
theorem bld_101 : bldOf Try.prog 101 = some ((repeatL ([.int .u64 0, .int .u64 0, .int .u64 0, .int .u64 0, .int .u64 0, .int .u64 0, .int .u64 0, .int .u64 0, .int .u64 0, .int .u64 0, .int .u64 0, .int .u64 0, .int .u64 0, .int .u64 0, .int .u64 0, .int .u64 0, .int .u64 0, .bool false, .int .i64 0, .slice none 0 0]) 8), [(0, 160)]) := by kernel_rfl
theorem build_101 (parts : List (Nat × Value)) : aBuild Try.prog 101 parts = if parts.all (fun x => Nat.blt x.1 1) = true then fillL (fun i => [(0, 160)][i]?) ((repeatL ([.int .u64 0, .int .u64 0, .int .u64 0, .int .u64 0, .int .u64 0, .int .u64 0, .int .u64 0, .int .u64 0, .int .u64 0, .int .u64 0, .int .u64 0, .int .u64 0, .int .u64 0, .int .u64 0, .int .u64 0, .int .u64 0, .int .u64 0, .bool false, .int .i64 0, .slice none 0 0]) 8)) parts else aBuildO Try.prog 101 parts := u_build' bld_101 parts
theorem bld_107 : bldOf Try.prog 107 = some ([.int .u64 0, .int .u64 0, .int .u64 0], [(0, 1), (1, 1), (2, 1)]) := by kernel_rfl
theorem build_107 (parts : List (Nat × Value)) : aBuild Try.prog 107 parts = if parts.all (fun x => Nat.blt x.1 3) = true then fillL (fun i => [(0, 1), (1, 1), (2, 1)][i]?) ([.int .u64 0, .int .u64 0, .int .u64 0]) parts else aBuildO Try.prog 107 parts := u_build' bld_107 parts
theorem bld_118 : bldOf Try.prog 118 = some ((repeatL ([.int .u64 0, .int .u64 0, .int .u64 0, .int .u64 0, .int .u64 0, .int .u64 0, .int .u64 0, .int .u64 0, .int .u64 0, .int .u64 0, .int .u64 0, .int .u64 0, .int .u64 0, .int .u64 0, .int .u64 0, .bool false, .bool false, .bool false, .bool false, .bool false, .bool false, .bool false, .bool false, .bool false, .bool false, .bool false, .bool false, .bool false, .bool false, .bool false, .bool false, .int .i64 0, .slice none 0 0]) 8), [(0, 264)]) := by kernel_rfl
theorem build_118 (parts : List (Nat × Value)) : aBuild Try.prog 118 parts = if parts.all (fun x => Nat.blt x.1 1) = true then fillL (fun i => [(0, 264)][i]?) ((repeatL ([.int .u64 0, .int .u64 0, .int .u64 0, .int .u64 0, .int .u64 0, .int .u64 0, .int .u64 0, .int .u64 0, .int .u64 0, .int .u64 0, .int .u64 0, .int .u64 0, .int .u64 0, .int .u64 0, .int .u64 0, .bool false, .bool false, .bool false, .bool false, .bool false, .bool false, .bool false, .bool false, .bool false, .bool false, .bool false, .bool false, .bool false, .bool false, .bool false, .bool false, .int .i64 0, .slice none 0 0]) 8)) parts else aBuildO Try.prog 118 parts := u_build' bld_118 parts
theorem bs0_47 (nx : Nat) : effBuildSlice Try.prog 47 0 [] nx = some ⟨.slice (some ⟨nx, 0, none⟩) 0 0, [], [cellsB [] .exact]⟩ := u_buildSlice0 47 nx mk_47
theorem app_34_34 : appT Try.prog #[34, 34] = some ([.int .i64 0], 1, 10) := by kernel_rfl
theorem app_47_47 : appT Try.prog #[47, 47] = some ([.int .u64 0], 1, 10) := by kernel_rfl
theorem tf0 : type_of% (And.intro (And.intro (And.intro (And.intro (And.intro (@tyA_1) (And.intro (@siz_1) (@tag_1))) (And.intro (And.intro (@zer_1) (@tyA_2)) (And.intro (@siz_2) (@tag_2)))) (And.intro (And.intro (And.intro (@intK_2) (@zer_2)) (And.intro (@tyA_3) (@siz_3))) (And.intro (And.intro (@tag_3) (@intK_3)) (And.intro (@zer_3) (@tyA_4))))) (And.intro (And.intro (And.intro (@siz_4) (And.intro (@tag_4) (@zer_4))) (And.intro (And.intro (@tyA_22) (@siz_22)) (And.intro (@tag_22) (@zer_22)))) (And.intro (And.intro (And.intro (@tyA_25) (@siz_25)) (And.intro (@tag_25) (@intK_25))) (And.intro (And.intro (@zer_25) (@tyA_34)) (And.intro (@siz_34) (@tag_34)))))) (And.intro (And.intro (And.intro (And.intro (@slc_34) (And.intro (@mk_34) (@zer_34))) (And.intro (And.intro (@tyA_36) (@siz_36)) (And.intro (@tag_36) (@zer_36)))) (And.intro (And.intro (And.intro (@tyA_40) (@siz_40)) (And.intro (@tag_40) (@zer_40))) (And.intro (And.intro (@tyA_42) (@siz_42)) (And.intro (@tag_42) (@arr_42))))) (And.intro (And.intro (And.intro (@sarr_42) (And.intro (@zer_42) (@tyA_44))) (And.intro (And.intro (@siz_44) (@tag_44)) (And.intro (@intK_44) (@zer_44)))) (And.intro (And.intro (And.intro (@tyA_47) (@siz_47)) (And.intro (@tag_47) (@slc_47))) (And.intro (And.intro (@mk_47) (@zer_47)) (And.intro (@tyA_49) (@siz_49))))))) := And.intro (And.intro (And.intro (And.intro (And.intro (@tyA_1) (And.intro (@siz_1) (@tag_1))) (And.intro (And.intro (@zer_1) (@tyA_2)) (And.intro (@siz_2) (@tag_2)))) (And.intro (And.intro (And.intro (@intK_2) (@zer_2)) (And.intro (@tyA_3) (@siz_3))) (And.intro (And.intro (@tag_3) (@intK_3)) (And.intro (@zer_3) (@tyA_4))))) (And.intro (And.intro (And.intro (@siz_4) (And.intro (@tag_4) (@zer_4))) (And.intro (And.intro (@tyA_22) (@siz_22)) (And.intro (@tag_22) (@zer_22)))) (And.intro (And.intro (And.intro (@tyA_25) (@siz_25)) (And.intro (@tag_25) (@intK_25))) (And.intro (And.intro (@zer_25) (@tyA_34)) (And.intro (@siz_34) (@tag_34)))))) (And.intro (And.intro (And.intro (And.intro (@slc_34) (And.intro (@mk_34) (@zer_34))) (And.intro (And.intro (@tyA_36) (@siz_36)) (And.intro (@tag_36) (@zer_36)))) (And.intro (And.intro (And.intro (@tyA_40) (@siz_40)) (And.intro (@tag_40) (@zer_40))) (And.intro (And.intro (@tyA_42) (@siz_42)) (And.intro (@tag_42) (@arr_42))))) (And.intro (And.intro (And.intro (@sarr_42) (And.intro (@zer_42) (@tyA_44))) (And.intro (And.intro (@siz_44) (@tag_44)) (And.intro (@intK_44) (@zer_44)))) (And.intro (And.intro (And.intro (@tyA_47) (@siz_47)) (And.intro (@tag_47) (@slc_47))) (And.intro (And.intro (@mk_47) (@zer_47)) (And.intro (@tyA_49) (@siz_49))))))
theorem tf1 : type_of% (And.intro (And.intro (And.intro (And.intro (And.intro (@tag_49) (And.intro (@zer_49) (@fld_49_0))) (And.intro (And.intro (@fld_49_1) (@tyA_57)) (And.intro (@siz_57) (@tag_57)))) (And.intro (And.intro (And.intro (@zer_57) (@fld_57_0)) (And.intro (@fld_57_1) (@fld_57_2))) (And.intro (And.intro (@tyA_62) (@siz_62)) (And.intro (@tag_62) (@zer_62))))) (And.intro (And.intro (And.intro (@tyA_67) (And.intro (@siz_67) (@tag_67))) (And.intro (And.intro (@slc_67) (@mk_67)) (And.intro (@zer_67) (@tyA_69)))) (And.intro (And.intro (And.intro (@siz_69) (@tag_69)) (And.intro (@zer_69) (@fld_69_0))) (And.intro (And.intro (@fld_69_1) (@fld_69_2)) (And.intro (@tyA_70) (@siz_70)))))) (And.intro (And.intro (And.intro (And.intro (@tag_70) (And.intro (@arr_70) (@sarr_70))) (And.intro (And.intro (@zer_70) (@tyA_72)) (And.intro (@siz_72) (@tag_72)))) (And.intro (And.intro (And.intro (@zer_72) (@fld_72_0)) (And.intro (@tyA_80) (@siz_80))) (And.intro (And.intro (@tag_80) (@zer_80)) (And.intro (@fld_80_0) (@fld_80_1))))) (And.intro (And.intro (And.intro (@fld_80_2) (And.intro (@fld_80_3) (@fld_80_4))) (And.intro (And.intro (@tyA_86) (@siz_86)) (And.intro (@tag_86) (@zer_86)))) (And.intro (And.intro (And.intro (@tyA_89) (@siz_89)) (And.intro (@tag_89) (@zer_89))) (And.intro (And.intro (@tyA_91) (@siz_91)) (And.intro (@tag_91) (@zer_91))))))) := And.intro (And.intro (And.intro (And.intro (And.intro (@tag_49) (And.intro (@zer_49) (@fld_49_0))) (And.intro (And.intro (@fld_49_1) (@tyA_57)) (And.intro (@siz_57) (@tag_57)))) (And.intro (And.intro (And.intro (@zer_57) (@fld_57_0)) (And.intro (@fld_57_1) (@fld_57_2))) (And.intro (And.intro (@tyA_62) (@siz_62)) (And.intro (@tag_62) (@zer_62))))) (And.intro (And.intro (And.intro (@tyA_67) (And.intro (@siz_67) (@tag_67))) (And.intro (And.intro (@slc_67) (@mk_67)) (And.intro (@zer_67) (@tyA_69)))) (And.intro (And.intro (And.intro (@siz_69) (@tag_69)) (And.intro (@zer_69) (@fld_69_0))) (And.intro (And.intro (@fld_69_1) (@fld_69_2)) (And.intro (@tyA_70) (@siz_70)))))) (And.intro (And.intro (And.intro (And.intro (@tag_70) (And.intro (@arr_70) (@sarr_70))) (And.intro (And.intro (@zer_70) (@tyA_72)) (And.intro (@siz_72) (@tag_72)))) (And.intro (And.intro (And.intro (@zer_72) (@fld_72_0)) (And.intro (@tyA_80) (@siz_80))) (And.intro (And.intro (@tag_80) (@zer_80)) (And.intro (@fld_80_0) (@fld_80_1))))) (And.intro (And.intro (And.intro (@fld_80_2) (And.intro (@fld_80_3) (@fld_80_4))) (And.intro (And.intro (@tyA_86) (@siz_86)) (And.intro (@tag_86) (@zer_86)))) (And.intro (And.intro (And.intro (@tyA_89) (@siz_89)) (And.intro (@tag_89) (@zer_89))) (And.intro (And.intro (@tyA_91) (@siz_91)) (And.intro (@tag_91) (@zer_91))))))
theorem tf2 : type_of% (And.intro (And.intro (And.intro (And.intro (And.intro (@fld_91_0) (And.intro (@tyA_92) (@siz_92))) (And.intro (And.intro (@tag_92) (@zer_92)) (And.intro (@tyA_94) (@siz_94)))) (And.intro (And.intro (And.intro (@tag_94) (@zer_94)) (And.intro (@fld_94_0) (@fld_94_1))) (And.intro (And.intro (@fld_94_2) (@tyA_96)) (And.intro (@siz_96) (@tag_96))))) (And.intro (And.intro (And.intro (@arr_96) (And.intro (@sarr_96) (@zer_96))) (And.intro (And.intro (@tyA_98) (@siz_98)) (And.intro (@tag_98) (@zer_98)))) (And.intro (And.intro (And.intro (@fld_98_0) (@fld_98_1)) (And.intro (@fld_98_2) (@fld_98_3))) (And.intro (And.intro (@tyA_99) (@siz_99)) (And.intro (@tag_99) (@arr_99)))))) (And.intro (And.intro (And.intro (And.intro (@sarr_99) (And.intro (@zer_99) (@tyA_101))) (And.intro (And.intro (@siz_101) (@tag_101)) (And.intro (@zer_101) (@fld_101_0)))) (And.intro (And.intro (And.intro (@tyA_103) (@siz_103)) (And.intro (@tag_103) (@zer_103))) (And.intro (And.intro (@tyA_107) (@siz_107)) (And.intro (@tag_107) (@arr_107))))) (And.intro (And.intro (And.intro (@sarr_107) (And.intro (@zer_107) (@tyA_109))) (And.intro (And.intro (@siz_109) (@tag_109)) (And.intro (@intK_109) (@zer_109)))) (And.intro (And.intro (And.intro (@tyA_111) (@siz_111)) (And.intro (@tag_111) (@zer_111))) (And.intro (And.intro (@tyA_112) (@siz_112)) (And.intro (@tag_112) (@arr_112))))))) := And.intro (And.intro (And.intro (And.intro (And.intro (@fld_91_0) (And.intro (@tyA_92) (@siz_92))) (And.intro (And.intro (@tag_92) (@zer_92)) (And.intro (@tyA_94) (@siz_94)))) (And.intro (And.intro (And.intro (@tag_94) (@zer_94)) (And.intro (@fld_94_0) (@fld_94_1))) (And.intro (And.intro (@fld_94_2) (@tyA_96)) (And.intro (@siz_96) (@tag_96))))) (And.intro (And.intro (And.intro (@arr_96) (And.intro (@sarr_96) (@zer_96))) (And.intro (And.intro (@tyA_98) (@siz_98)) (And.intro (@tag_98) (@zer_98)))) (And.intro (And.intro (And.intro (@fld_98_0) (@fld_98_1)) (And.intro (@fld_98_2) (@fld_98_3))) (And.intro (And.intro (@tyA_99) (@siz_99)) (And.intro (@tag_99) (@arr_99)))))) (And.intro (And.intro (And.intro (And.intro (@sarr_99) (And.intro (@zer_99) (@tyA_101))) (And.intro (And.intro (@siz_101) (@tag_101)) (And.intro (@zer_101) (@fld_101_0)))) (And.intro (And.intro (And.intro (@tyA_103) (@siz_103)) (And.intro (@tag_103) (@zer_103))) (And.intro (And.intro (@tyA_107) (@siz_107)) (And.intro (@tag_107) (@arr_107))))) (And.intro (And.intro (And.intro (@sarr_107) (And.intro (@zer_107) (@tyA_109))) (And.intro (And.intro (@siz_109) (@tag_109)) (And.intro (@intK_109) (@zer_109)))) (And.intro (And.intro (And.intro (@tyA_111) (@siz_111)) (And.intro (@tag_111) (@zer_111))) (And.intro (And.intro (@tyA_112) (@siz_112)) (And.intro (@tag_112) (@arr_112))))))
theorem tf3 : type_of% (And.intro (And.intro (And.intro (And.intro (And.intro (@sarr_112) (@zer_112)) (And.intro (@tyA_113) (@siz_113))) (And.intro (And.intro (@tag_113) (@arr_113)) (And.intro (@sarr_113) (And.intro (@zer_113) (@tyA_115))))) (And.intro (And.intro (And.intro (@siz_115) (@tag_115)) (And.intro (@zer_115) (And.intro (@fld_115_0) (@fld_115_1)))) (And.intro (And.intro (@fld_115_2) (@fld_115_3)) (And.intro (@tyA_116) (And.intro (@siz_116) (@tag_116)))))) (And.intro (And.intro (And.intro (And.intro (@arr_116) (@sarr_116)) (And.intro (@zer_116) (And.intro (@tyA_118) (@siz_118)))) (And.intro (And.intro (@tag_118) (@zer_118)) (And.intro (@fld_118_0) (And.intro (@build_49) (@build_69))))) (And.intro (And.intro (And.intro (@build_70) (@build_72)) (And.intro (@build_91) (And.intro (@build_94) (@build_101)))) (And.intro (And.intro (@build_107) (@build_118)) (And.intro (@bs0_47) (And.intro (@app_34_34) (@app_47_47))))))) := And.intro (And.intro (And.intro (And.intro (And.intro (@sarr_112) (@zer_112)) (And.intro (@tyA_113) (@siz_113))) (And.intro (And.intro (@tag_113) (@arr_113)) (And.intro (@sarr_113) (And.intro (@zer_113) (@tyA_115))))) (And.intro (And.intro (And.intro (@siz_115) (@tag_115)) (And.intro (@zer_115) (And.intro (@fld_115_0) (@fld_115_1)))) (And.intro (And.intro (@fld_115_2) (@fld_115_3)) (And.intro (@tyA_116) (And.intro (@siz_116) (@tag_116)))))) (And.intro (And.intro (And.intro (And.intro (@arr_116) (@sarr_116)) (And.intro (@zer_116) (And.intro (@tyA_118) (@siz_118)))) (And.intro (And.intro (@tag_118) (@zer_118)) (And.intro (@fld_118_0) (And.intro (@build_49) (@build_69))))) (And.intro (And.intro (And.intro (@build_70) (@build_72)) (And.intro (@build_91) (And.intro (@build_94) (@build_101)))) (And.intro (And.intro (@build_107) (@build_118)) (And.intro (@bs0_47) (And.intro (@app_34_34) (@app_47_47))))))
end Go.Proofs.Ytmmjeifdgfolmaa
