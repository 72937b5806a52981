/- Lemmas of the claim: the machine of the proof and the walks of the program. Conditions: as each says. -/
import Derived.Test.YtbgminppkacdlaaGreatDoorRows
import Derived.Test.YtbgminppkacdlaaGreatDoorG4
import Derived.Shelf.Lays
import Derived.Ground.NamesProg
section
/- What all proofs of this seat share: the program's own facts, the machine, fscore.try, the table. -/
namespace Go.Proofs.YtbgminppkacdlaaGreatDoor
open Go.ChangeShapes Go.WideShapes Go.ChangeAt Go.RowKit Go.AM

theorem Tryz.own : ownKnob Tryz.prog.godebug = none := by kernel_rfl
theorem Tryz.kids : Kids Tryz.prog (· < Tryz.prog.types.size) := kids_rows (by kernel_rfl) (by kernel_rfl)
theorem Tryz.full : ∀ t e, t < Tryz.prog.types.size → Tryz.prog.underlying t = some (.slice e) → 0 < Tryz.prog.cellsOf e := slices_full_of Tryz.prog (by kernel_rfl)
noncomputable def tryT : TryCode := ⟨Tryz.f20, Tryz.f47, seqL (bodyOf Tryz.f20), seqL (seqR (bodyOf Tryz.f20)), seqR (bodyOf Tryz.f47), 4, 1, 4, 1, 24, .int .i64 0⟩
noncomputable abbrev trySp : Special := oneSpec 20 (tryF Tryz.prog tryT 1000)
set_option maxRecDepth 100000 in
theorem trySp_ok : SpecOk Tryz.prog (1 + 1) trySp := oneSpec_ok fun cl hcl =>
  tryF_ok (T := tryT) (f := 20) (fd := 47) (i3 := 3) (i4 := 4) (i5 := 5) (i0 := 0) (mk := opOf (seqL (seqR (seqR (bodyOf Tryz.f20)))) 0) (df := opOf (seqL (seqR (seqR (bodyOf Tryz.f20)))) 1) (mv := opOf (seqL (seqR (seqR (seqR (bodyOf Tryz.f20))))) 0) (cal := opOf (seqL (seqR (seqR (seqR (bodyOf Tryz.f20))))) 1)
    (st := opOf (seqL (seqR (seqR (seqR (seqR (bodyOf Tryz.f20)))))) 0) (rc := opOf (seqL (bodyOf Tryz.f47)) 0) (as1 := opOf (seqL (bodyOf Tryz.f47)) 1) (tf := 7) (t8 := 8) (at1 := #[]) (at2 := #[]) (at3 := #[])
    (by kernel_rfl) hcl Tryz.func20 (by kernel_rfl) (by kernel_rfl) (by kernel_rfl) ⟨by kernel_rfl, by kernel_rfl, by kernel_rfl⟩ ⟨by kernel_rfl, by kernel_rfl, by kernel_rfl⟩ ⟨by kernel_rfl, by kernel_rfl, by kernel_rfl⟩
    ⟨by kernel_rfl, (fun h => nomatch (show (some 9 : Option Tmp) = some 4 from h)), by kernel_rfl⟩ ⟨by kernel_rfl, by kernel_rfl, by kernel_rfl, by kernel_rfl⟩ ⟨by decide +kernel, by decide +kernel, by decide +kernel, by decide +kernel, by decide +kernel⟩
    Tryz.func47 (by kernel_rfl) (by kernel_rfl) (by kernel_rfl) ⟨by kernel_rfl, by kernel_rfl, by kernel_rfl⟩ ⟨by kernel_rfl, by kernel_rfl, by kernel_rfl⟩ ⟨by decide +kernel, by decide +kernel⟩ (by kernel_rfl) (by kernel_rfl) (by kernel_rfl)
noncomputable abbrev tryWSp : Special := oneSpec 20 fun cl => tryW Tryz.prog tryT cl
set_option maxRecDepth 100000 in
theorem tryWSp_ok : SpecOk Tryz.prog (1 + 1) tryWSp := oneSpec_ok fun cl hcl => tryW_ok fun _ =>
  tryF_ok (T := tryT) (f := 20) (fd := 47) (i3 := 3) (i4 := 4) (i5 := 5) (i0 := 0) (mk := opOf (seqL (seqR (seqR (bodyOf Tryz.f20)))) 0) (df := opOf (seqL (seqR (seqR (bodyOf Tryz.f20)))) 1) (mv := opOf (seqL (seqR (seqR (seqR (bodyOf Tryz.f20))))) 0) (cal := opOf (seqL (seqR (seqR (seqR (bodyOf Tryz.f20))))) 1)
    (st := opOf (seqL (seqR (seqR (seqR (seqR (bodyOf Tryz.f20)))))) 0) (rc := opOf (seqL (bodyOf Tryz.f47)) 0) (as1 := opOf (seqL (bodyOf Tryz.f47)) 1) (tf := 7) (t8 := 8) (at1 := #[]) (at2 := #[]) (at3 := #[])
    (by kernel_rfl) hcl Tryz.func20 (by kernel_rfl) (by kernel_rfl) (by kernel_rfl) ⟨by kernel_rfl, by kernel_rfl, by kernel_rfl⟩ ⟨by kernel_rfl, by kernel_rfl, by kernel_rfl⟩ ⟨by kernel_rfl, by kernel_rfl, by kernel_rfl⟩
    ⟨by kernel_rfl, (fun h => nomatch (show (some 9 : Option Tmp) = some 4 from h)), by kernel_rfl⟩ ⟨by kernel_rfl, by kernel_rfl, by kernel_rfl, by kernel_rfl⟩ ⟨by decide +kernel, by decide +kernel, by decide +kernel, by decide +kernel, by decide +kernel⟩
    Tryz.func47 (by kernel_rfl) (by kernel_rfl) (by kernel_rfl) ⟨by kernel_rfl, by kernel_rfl, by kernel_rfl⟩ ⟨by kernel_rfl, by kernel_rfl, by kernel_rfl⟩ ⟨by decide +kernel, by decide +kernel⟩ (by kernel_rfl) (by kernel_rfl) (by kernel_rfl)
def tab : List Int := [0, 1, 56, 2, 57, 49, 28, 3, 61, 58, 42, 50, 38, 29, 17, 4, 62, 47, 59, 36, 45, 43, 51, 22, 53, 39, 33, 30, 24, 18, 12, 5, 63, 55, 48, 27, 60, 41, 37, 16, 46, 35, 44, 21, 52, 32, 23, 11, 54, 26, 40, 15, 34, 20, 31, 10, 25, 14, 19, 9, 13, 8, 7, 6]
theorem tab_laid {W : World} (hL : laidMetH Tryz.prog [("math/bits.deBruijn64tab", Rows.laid_math_bits_deBruijn64tab)] W) :
    ∃ cs el fr, W.heap[1]? = some (.cells cs el fr) ∧ cs.size = 64 ∧ ∀ i, i < 64 → cs[i]? = (tab.map (Value.int .u8))[i]? := by
  rw [MakeChecks.laidMetH_plain _ _ _ (by kernel_rfl)] at hL
  exact laid_table (g := 1) (k := .u8) (bs := tab) (t := 170) (e := 5) hL (by kernel_rfl) (by kernel_rfl) (by kernel_rfl) (by kernel_rfl) (by kernel_rfl) (by kernel_rfl) rfl
noncomputable abbrev H0 : Heap := listHeap (doorL 1 .u8 tab ++ [])
end Go.Proofs.YtbgminppkacdlaaGreatDoor
end
section
/- Facts of the types of the program that Tryz names, for rewriting. No condition. -/
namespace Go.Proofs.YtbgminppkacdlaaGreatDoor
open Go.AM Go
theorem tyA_1 : tyA Tryz.prog 1 = some false := by kernel_rfl
theorem siz_1 : sizeOf? Tryz.prog 1 = some 1 := by kernel_rfl
theorem tag_1 : tyTag Tryz.prog 1 = 7 := by kernel_rfl
theorem zer_1 : zeroL Tryz.prog 1 = some ([.nilFunc]) := by kernel_rfl
theorem nob_1 : bldT Tryz.prog 1 = false := by kernel_rfl
theorem tyA_2 : tyA Tryz.prog 2 = some false := by kernel_rfl
theorem siz_2 : sizeOf? Tryz.prog 2 = some 1 := by kernel_rfl
theorem tag_2 : tyTag Tryz.prog 2 = 9 := by kernel_rfl
theorem intK_2 : intK Tryz.prog 2 = some .i64 := by kernel_rfl
theorem zer_2 : zeroL Tryz.prog 2 = some ([.int .i64 0]) := by kernel_rfl
theorem nob_2 : bldT Tryz.prog 2 = false := by kernel_rfl
theorem tyA_3 : tyA Tryz.prog 3 = some false := by kernel_rfl
theorem siz_3 : sizeOf? Tryz.prog 3 = some 1 := by kernel_rfl
theorem tag_3 : tyTag Tryz.prog 3 = 9 := by kernel_rfl
theorem intK_3 : intK Tryz.prog 3 = some .i64 := by kernel_rfl
theorem zer_3 : zeroL Tryz.prog 3 = some ([.int .i64 0]) := by kernel_rfl
theorem nob_3 : bldT Tryz.prog 3 = false := by kernel_rfl
theorem tyA_4 : tyA Tryz.prog 4 = some false := by kernel_rfl
theorem siz_4 : sizeOf? Tryz.prog 4 = some 1 := by kernel_rfl
theorem tag_4 : tyTag Tryz.prog 4 = 1 := by kernel_rfl
theorem zer_4 : zeroL Tryz.prog 4 = some ([.bool false]) := by kernel_rfl
theorem nob_4 : bldT Tryz.prog 4 = false := by kernel_rfl
theorem tyA_5 : tyA Tryz.prog 5 = some false := by kernel_rfl
theorem siz_5 : sizeOf? Tryz.prog 5 = some 1 := by kernel_rfl
theorem tag_5 : tyTag Tryz.prog 5 = 9 := by kernel_rfl
theorem intK_5 : intK Tryz.prog 5 = some .u8 := by kernel_rfl
theorem zer_5 : zeroL Tryz.prog 5 = some ([.int .u8 0]) := by kernel_rfl
theorem nob_5 : bldT Tryz.prog 5 = false := by kernel_rfl
theorem tyA_9 : tyA Tryz.prog 9 = some false := by kernel_rfl
theorem siz_9 : sizeOf? Tryz.prog 9 = some 1 := by kernel_rfl
theorem tag_9 : tyTag Tryz.prog 9 = 3 := by kernel_rfl
theorem zer_9 : zeroL Tryz.prog 9 = some ([.string .empty]) := by kernel_rfl
theorem nob_9 : bldT Tryz.prog 9 = false := by kernel_rfl
theorem tyA_20 : tyA Tryz.prog 20 = some false := by kernel_rfl
theorem siz_20 : sizeOf? Tryz.prog 20 = some 1 := by kernel_rfl
theorem tag_20 : tyTag Tryz.prog 20 = 8 := by kernel_rfl
theorem zer_20 : zeroL Tryz.prog 20 = some ([.nilIface]) := by kernel_rfl
theorem nob_20 : bldT Tryz.prog 20 = false := by kernel_rfl
theorem tyA_21 : tyA Tryz.prog 21 = some false := by kernel_rfl
theorem siz_21 : sizeOf? Tryz.prog 21 = some 1 := by kernel_rfl
theorem tag_21 : tyTag Tryz.prog 21 = 9 := by kernel_rfl
theorem intK_21 : intK Tryz.prog 21 = some .i32 := by kernel_rfl
theorem zer_21 : zeroL Tryz.prog 21 = some ([.int .i32 0]) := by kernel_rfl
theorem nob_21 : bldT Tryz.prog 21 = false := by kernel_rfl
theorem tyA_22 : tyA Tryz.prog 22 = some false := by kernel_rfl
theorem siz_22 : sizeOf? Tryz.prog 22 = some 1 := by kernel_rfl
theorem tag_22 : tyTag Tryz.prog 22 = 2 := by kernel_rfl
theorem zer_22 : zeroL Tryz.prog 22 = some ([.pointer none]) := by kernel_rfl
theorem nob_22 : bldT Tryz.prog 22 = false := by kernel_rfl
theorem tyA_24 : tyA Tryz.prog 24 = some false := by kernel_rfl
theorem siz_24 : sizeOf? Tryz.prog 24 = some 1 := by kernel_rfl
theorem tag_24 : tyTag Tryz.prog 24 = 9 := by kernel_rfl
theorem intK_24 : intK Tryz.prog 24 = some .i64 := by kernel_rfl
theorem zer_24 : zeroL Tryz.prog 24 = some ([.int .i64 0]) := by kernel_rfl
theorem nob_24 : bldT Tryz.prog 24 = false := by kernel_rfl
theorem tyA_30 : tyA Tryz.prog 30 = some false := by kernel_rfl
theorem siz_30 : sizeOf? Tryz.prog 30 = some 1 := by kernel_rfl
theorem tag_30 : tyTag Tryz.prog 30 = 4 := by kernel_rfl
theorem slc_30 : slcOf Tryz.prog 30 = some 3 := by kernel_rfl
theorem mk_30 : mkOf Tryz.prog 30 = some ([.string .empty, .bool false, .string .empty], 3, 44) := by kernel_rfl
theorem zer_30 : zeroL Tryz.prog 30 = some ([.slice none 0 0]) := by kernel_rfl
theorem nob_30 : bldT Tryz.prog 30 = false := by kernel_rfl
theorem tyA_37 : tyA Tryz.prog 37 = some true := by kernel_rfl
theorem siz_37 : sizeOf? Tryz.prog 37 = some 3 := by kernel_rfl
theorem tag_37 : tyTag Tryz.prog 37 = 9 := by kernel_rfl
theorem zer_37 : zeroL Tryz.prog 37 = some ([.string .empty, .bool false, .string .empty]) := by kernel_rfl
theorem nob_37 : bldT Tryz.prog 37 = false := by kernel_rfl
theorem fld_37_0 : fldOf Tryz.prog 37 0 = some (0, some false, 1) := by kernel_rfl
theorem fld_37_1 : fldOf Tryz.prog 37 1 = some (1, some false, 1) := by kernel_rfl
theorem fld_37_2 : fldOf Tryz.prog 37 2 = some (2, some false, 1) := by kernel_rfl
theorem tyA_40 : tyA Tryz.prog 40 = some true := by kernel_rfl
theorem siz_40 : sizeOf? Tryz.prog 40 = some 6 := by kernel_rfl
theorem tag_40 : tyTag Tryz.prog 40 = 9 := by kernel_rfl
theorem arr_40 : arrOf Tryz.prog 40 = some (6, some false, 1) := by kernel_rfl
theorem sarr_40 : sarrOf Tryz.prog 40 = some (6, 1) := by kernel_rfl
theorem zer_40 : zeroL Tryz.prog 40 = some ([.int .i64 0, .int .i64 0, .int .i64 0, .int .i64 0, .int .i64 0, .int .i64 0]) := by kernel_rfl
theorem nob_40 : bldT Tryz.prog 40 = false := by kernel_rfl
theorem tyA_42 : tyA Tryz.prog 42 = some true := by kernel_rfl
theorem siz_42 : sizeOf? Tryz.prog 42 = some 9 := by kernel_rfl
theorem tag_42 : tyTag Tryz.prog 42 = 9 := by kernel_rfl
theorem zer_42 : zeroL Tryz.prog 42 = some ([.int .i64 0, .int .i64 0, .int .i64 0, .int .i64 0, .int .i64 0, .int .i64 0, .int .i64 0, .int .i64 0, .int .i64 0]) := by kernel_rfl
theorem nob_42 : bldT Tryz.prog 42 = false := by kernel_rfl
theorem fld_42_0 : fldOf Tryz.prog 42 0 = some (0, some false, 1) := by kernel_rfl
theorem fld_42_1 : fldOf Tryz.prog 42 1 = some (1, some false, 1) := by kernel_rfl
theorem fld_42_2 : fldOf Tryz.prog 42 2 = some (2, some false, 1) := by kernel_rfl
theorem fld_42_3 : fldOf Tryz.prog 42 3 = some (3, some true, 6) := by kernel_rfl
theorem tyA_45 : tyA Tryz.prog 45 = some false := by kernel_rfl
theorem siz_45 : sizeOf? Tryz.prog 45 = some 1 := by kernel_rfl
theorem tag_45 : tyTag Tryz.prog 45 = 4 := by kernel_rfl
theorem slc_45 : slcOf Tryz.prog 45 = some 1 := by kernel_rfl
theorem mk_45 : mkOf Tryz.prog 45 = some ([.int .i64 0], 1, 10) := by kernel_rfl
theorem zer_45 : zeroL Tryz.prog 45 = some ([.slice none 0 0]) := by kernel_rfl
theorem nob_45 : bldT Tryz.prog 45 = false := by kernel_rfl
theorem tyA_50 : tyA Tryz.prog 50 = some false := by kernel_rfl
theorem siz_50 : sizeOf? Tryz.prog 50 = some 1 := by kernel_rfl
theorem tag_50 : tyTag Tryz.prog 50 = 4 := by kernel_rfl
theorem slc_50 : slcOf Tryz.prog 50 = some 1 := by kernel_rfl
theorem mk_50 : mkOf Tryz.prog 50 = some ([.int .u64 0], 1, 10) := by kernel_rfl
theorem zer_50 : zeroL Tryz.prog 50 = some ([.slice none 0 0]) := by kernel_rfl
theorem nob_50 : bldT Tryz.prog 50 = false := by kernel_rfl
theorem tyA_52 : tyA Tryz.prog 52 = some true := by kernel_rfl
theorem siz_52 : sizeOf? Tryz.prog 52 = some 4 := by kernel_rfl
theorem tag_52 : tyTag Tryz.prog 52 = 9 := by kernel_rfl
theorem zer_52 : zeroL Tryz.prog 52 = some ([.int .i64 0, .slice none 0 0, .int .i64 0, .int .i64 0]) := by kernel_rfl
theorem nob_52 : bldT Tryz.prog 52 = false := by kernel_rfl
theorem fld_52_0 : fldOf Tryz.prog 52 0 = some (0, some false, 1) := by kernel_rfl
theorem fld_52_1 : fldOf Tryz.prog 52 1 = some (1, some false, 1) := by kernel_rfl
theorem fld_52_2 : fldOf Tryz.prog 52 2 = some (2, some false, 1) := by kernel_rfl
theorem fld_52_3 : fldOf Tryz.prog 52 3 = some (3, some false, 1) := by kernel_rfl
theorem tyA_54 : tyA Tryz.prog 54 = some false := by kernel_rfl
theorem siz_54 : sizeOf? Tryz.prog 54 = some 1 := by kernel_rfl
theorem tag_54 : tyTag Tryz.prog 54 = 8 := by kernel_rfl
theorem zer_54 : zeroL Tryz.prog 54 = some ([.nilIface]) := by kernel_rfl
theorem nob_54 : bldT Tryz.prog 54 = false := by kernel_rfl
theorem tyA_55 : tyA Tryz.prog 55 = some false := by kernel_rfl
theorem siz_55 : sizeOf? Tryz.prog 55 = some 1 := by kernel_rfl
theorem tag_55 : tyTag Tryz.prog 55 = 7 := by kernel_rfl
theorem zer_55 : zeroL Tryz.prog 55 = some ([.nilFunc]) := by kernel_rfl
theorem nob_55 : bldT Tryz.prog 55 = false := by kernel_rfl
theorem tyA_56 : tyA Tryz.prog 56 = some false := by kernel_rfl
theorem siz_56 : sizeOf? Tryz.prog 56 = some 1 := by kernel_rfl
theorem tag_56 : tyTag Tryz.prog 56 = 9 := by kernel_rfl
theorem intK_56 : intK Tryz.prog 56 = some .u64 := by kernel_rfl
theorem zer_56 : zeroL Tryz.prog 56 = some ([.int .u64 0]) := by kernel_rfl
theorem nob_56 : bldT Tryz.prog 56 = false := by kernel_rfl
theorem tyA_77 : tyA Tryz.prog 77 = some false := by kernel_rfl
theorem siz_77 : sizeOf? Tryz.prog 77 = some 1 := by kernel_rfl
theorem tag_77 : tyTag Tryz.prog 77 = 2 := by kernel_rfl
theorem zer_77 : zeroL Tryz.prog 77 = some ([.pointer none]) := by kernel_rfl
theorem nob_77 : bldT Tryz.prog 77 = false := by kernel_rfl
theorem tyA_84 : tyA Tryz.prog 84 = some false := by kernel_rfl
theorem siz_84 : sizeOf? Tryz.prog 84 = some 1 := by kernel_rfl
theorem tag_84 : tyTag Tryz.prog 84 = 5 := by kernel_rfl
theorem slc_84 : slcOf Tryz.prog 84 = some 1 := by kernel_rfl
theorem mk_84 : mkOf Tryz.prog 84 = some ([.int .u8 0], 1, 3) := by kernel_rfl
theorem zer_84 : zeroL Tryz.prog 84 = some ([.slice none 0 0]) := by kernel_rfl
theorem nob_84 : bldT Tryz.prog 84 = false := by kernel_rfl
theorem tyA_86 : tyA Tryz.prog 86 = some true := by kernel_rfl
theorem siz_86 : sizeOf? Tryz.prog 86 = some 1 := by kernel_rfl
theorem tag_86 : tyTag Tryz.prog 86 = 9 := by kernel_rfl
theorem zer_86 : zeroL Tryz.prog 86 = some ([.int .i64 0]) := by kernel_rfl
theorem nob_86 : bldT Tryz.prog 86 = false := by kernel_rfl
theorem fld_86_0 : fldOf Tryz.prog 86 0 = some (0, some false, 1) := by kernel_rfl
theorem tyA_90 : tyA Tryz.prog 90 = some false := by kernel_rfl
theorem siz_90 : sizeOf? Tryz.prog 90 = some 1 := by kernel_rfl
theorem tag_90 : tyTag Tryz.prog 90 = 4 := by kernel_rfl
theorem slc_90 : slcOf Tryz.prog 90 = some 2 := by kernel_rfl
theorem mk_90 : mkOf Tryz.prog 90 = some ([.string .empty, .int .i64 0], 2, 27) := by kernel_rfl
theorem zer_90 : zeroL Tryz.prog 90 = some ([.slice none 0 0]) := by kernel_rfl
theorem nob_90 : bldT Tryz.prog 90 = false := by kernel_rfl
theorem tyA_95 : tyA Tryz.prog 95 = some true := by kernel_rfl
theorem siz_95 : sizeOf? Tryz.prog 95 = some 2 := by kernel_rfl
theorem tag_95 : tyTag Tryz.prog 95 = 9 := by kernel_rfl
theorem zer_95 : zeroL Tryz.prog 95 = some ([.string .empty, .int .i64 0]) := by kernel_rfl
theorem nob_95 : bldT Tryz.prog 95 = false := by kernel_rfl
theorem fld_95_0 : fldOf Tryz.prog 95 0 = some (0, some false, 1) := by kernel_rfl
theorem fld_95_1 : fldOf Tryz.prog 95 1 = some (1, some false, 1) := by kernel_rfl
theorem tyA_100 : tyA Tryz.prog 100 = some false := by kernel_rfl
theorem siz_100 : sizeOf? Tryz.prog 100 = some 1 := by kernel_rfl
theorem tag_100 : tyTag Tryz.prog 100 = 4 := by kernel_rfl
theorem slc_100 : slcOf Tryz.prog 100 = some 1 := by kernel_rfl
theorem mk_100 : mkOf Tryz.prog 100 = some ([.string .empty], 1, 18) := by kernel_rfl
theorem zer_100 : zeroL Tryz.prog 100 = some ([.slice none 0 0]) := by kernel_rfl
theorem nob_100 : bldT Tryz.prog 100 = false := by kernel_rfl
theorem tyA_105 : tyA Tryz.prog 105 = some false := by kernel_rfl
theorem siz_105 : sizeOf? Tryz.prog 105 = some 1 := by kernel_rfl
theorem tag_105 : tyTag Tryz.prog 105 = 7 := by kernel_rfl
theorem zer_105 : zeroL Tryz.prog 105 = some ([.nilFunc]) := by kernel_rfl
theorem nob_105 : bldT Tryz.prog 105 = false := by kernel_rfl
theorem tyA_113 : tyA Tryz.prog 113 = some false := by kernel_rfl
theorem siz_113 : sizeOf? Tryz.prog 113 = some 1 := by kernel_rfl
theorem tag_113 : tyTag Tryz.prog 113 = 4 := by kernel_rfl
theorem slc_113 : slcOf Tryz.prog 113 = some 1 := by kernel_rfl
theorem mk_113 : mkOf Tryz.prog 113 = some ([.int .u64 0], 1, 10) := by kernel_rfl
theorem zer_113 : zeroL Tryz.prog 113 = some ([.slice none 0 0]) := by kernel_rfl
theorem nob_113 : bldT Tryz.prog 113 = false := by kernel_rfl
theorem tyA_115 : tyA Tryz.prog 115 = some true := by kernel_rfl
theorem siz_115 : sizeOf? Tryz.prog 115 = some 2 := by kernel_rfl
theorem tag_115 : tyTag Tryz.prog 115 = 9 := by kernel_rfl
theorem zer_115 : zeroL Tryz.prog 115 = some ([.int .i64 0, .slice none 0 0]) := by kernel_rfl
theorem nob_115 : bldT Tryz.prog 115 = false := by kernel_rfl
theorem fld_115_0 : fldOf Tryz.prog 115 0 = some (0, some false, 1) := by kernel_rfl
theorem fld_115_1 : fldOf Tryz.prog 115 1 = some (1, some false, 1) := by kernel_rfl
theorem tyA_116 : tyA Tryz.prog 116 = some false := by kernel_rfl
theorem siz_116 : sizeOf? Tryz.prog 116 = some 1 := by kernel_rfl
theorem tag_116 : tyTag Tryz.prog 116 = 9 := by kernel_rfl
theorem intK_116 : intK Tryz.prog 116 = some .u64 := by kernel_rfl
theorem zer_116 : zeroL Tryz.prog 116 = some ([.int .u64 0]) := by kernel_rfl
theorem nob_116 : bldT Tryz.prog 116 = false := by kernel_rfl
theorem tyA_125 : tyA Tryz.prog 125 = some false := by kernel_rfl
theorem siz_125 : sizeOf? Tryz.prog 125 = some 1 := by kernel_rfl
theorem tag_125 : tyTag Tryz.prog 125 = 2 := by kernel_rfl
theorem zer_125 : zeroL Tryz.prog 125 = some ([.pointer none]) := by kernel_rfl
theorem nob_125 : bldT Tryz.prog 125 = false := by kernel_rfl
theorem tyA_127 : tyA Tryz.prog 127 = some true := by kernel_rfl
theorem siz_127 : sizeOf? Tryz.prog 127 = some 2 := by kernel_rfl
theorem tag_127 : tyTag Tryz.prog 127 = 9 := by kernel_rfl
theorem zer_127 : zeroL Tryz.prog 127 = some ([.pointer none, .slice none 0 0]) := by kernel_rfl
theorem fld_127_0 : fldOf Tryz.prog 127 0 = some (0, some false, 1) := by kernel_rfl
theorem fld_127_1 : fldOf Tryz.prog 127 1 = some (1, some false, 1) := by kernel_rfl
theorem tyA_129 : tyA Tryz.prog 129 = some false := by kernel_rfl
theorem siz_129 : sizeOf? Tryz.prog 129 = some 1 := by kernel_rfl
theorem tag_129 : tyTag Tryz.prog 129 = 8 := by kernel_rfl
theorem zer_129 : zeroL Tryz.prog 129 = some ([.nilIface]) := by kernel_rfl
theorem nob_129 : bldT Tryz.prog 129 = false := by kernel_rfl
theorem tyA_137 : tyA Tryz.prog 137 = some false := by kernel_rfl
theorem siz_137 : sizeOf? Tryz.prog 137 = some 1 := by kernel_rfl
theorem tag_137 : tyTag Tryz.prog 137 = 9 := by kernel_rfl
theorem intK_137 : intK Tryz.prog 137 = some .u64 := by kernel_rfl
theorem zer_137 : zeroL Tryz.prog 137 = some ([.int .u64 0]) := by kernel_rfl
theorem nob_137 : bldT Tryz.prog 137 = false := by kernel_rfl
theorem tyA_138 : tyA Tryz.prog 138 = some false := by kernel_rfl
theorem siz_138 : sizeOf? Tryz.prog 138 = some 1 := by kernel_rfl
theorem tag_138 : tyTag Tryz.prog 138 = 7 := by kernel_rfl
theorem zer_138 : zeroL Tryz.prog 138 = some ([.nilFunc]) := by kernel_rfl
theorem nob_138 : bldT Tryz.prog 138 = false := by kernel_rfl
theorem tyA_144 : tyA Tryz.prog 144 = some false := by kernel_rfl
theorem siz_144 : sizeOf? Tryz.prog 144 = some 1 := by kernel_rfl
theorem tag_144 : tyTag Tryz.prog 144 = 7 := by kernel_rfl
theorem zer_144 : zeroL Tryz.prog 144 = some ([.nilFunc]) := by kernel_rfl
theorem nob_144 : bldT Tryz.prog 144 = false := by kernel_rfl
theorem tyA_170 : tyA Tryz.prog 170 = some true := by kernel_rfl
theorem siz_170 : sizeOf? Tryz.prog 170 = some 64 := by kernel_rfl
theorem tag_170 : tyTag Tryz.prog 170 = 9 := by kernel_rfl
theorem arr_170 : arrOf Tryz.prog 170 = some (64, some false, 1) := by kernel_rfl
theorem sarr_170 : sarrOf Tryz.prog 170 = some (64, 1) := by kernel_rfl
theorem zer_170 : zeroL Tryz.prog 170 = some (repeatL ([.int .u8 0]) 64) := by kernel_rfl
theorem nob_170 : bldT Tryz.prog 170 = false := by kernel_rfl
theorem bld_37 : bldOf Tryz.prog 37 = some ([.string .empty, .bool false, .string .empty], [(0, 1), (1, 1), (2, 1)]) := by kernel_rfl
theorem build_37 (parts : List (Nat × Value)) : aBuild Tryz.prog 37 parts = if parts.all (fun x => Nat.blt x.1 3) = true then fillL (fun i => [(0, 1), (1, 1), (2, 1)][i]?) ([.string .empty, .bool false, .string .empty]) parts else aBuildO Tryz.prog 37 parts := u_build' bld_37 parts
theorem bld_42 : bldOf Tryz.prog 42 = some ([.int .i64 0, .int .i64 0, .int .i64 0, .int .i64 0, .int .i64 0, .int .i64 0, .int .i64 0, .int .i64 0, .int .i64 0], [(0, 1), (1, 1), (2, 1), (3, 6)]) := by kernel_rfl
theorem build_42 (parts : List (Nat × Value)) : aBuild Tryz.prog 42 parts = if parts.all (fun x => Nat.blt x.1 4) = true then fillL (fun i => [(0, 1), (1, 1), (2, 1), (3, 6)][i]?) ([.int .i64 0, .int .i64 0, .int .i64 0, .int .i64 0, .int .i64 0, .int .i64 0, .int .i64 0, .int .i64 0, .int .i64 0]) parts else aBuildO Tryz.prog 42 parts := u_build' bld_42 parts
theorem bld_86 : bldOf Tryz.prog 86 = some ([.int .i64 0], [(0, 1)]) := by kernel_rfl
theorem build_86 (parts : List (Nat × Value)) : aBuild Tryz.prog 86 parts = if parts.all (fun x => Nat.blt x.1 1) = true then fillL (fun i => [(0, 1)][i]?) ([.int .i64 0]) parts else aBuildO Tryz.prog 86 parts := u_build' bld_86 parts
theorem bld_95 : bldOf Tryz.prog 95 = some ([.string .empty, .int .i64 0], [(0, 1), (1, 1)]) := by kernel_rfl
theorem build_95 (parts : List (Nat × Value)) : aBuild Tryz.prog 95 parts = if parts.all (fun x => Nat.blt x.1 2) = true then fillL (fun i => [(0, 1), (1, 1)][i]?) ([.string .empty, .int .i64 0]) parts else aBuildO Tryz.prog 95 parts := u_build' bld_95 parts
theorem bld_115 : bldOf Tryz.prog 115 = some ([.int .i64 0, .slice none 0 0], [(0, 1), (1, 1)]) := by kernel_rfl
theorem build_115 (parts : List (Nat × Value)) : aBuild Tryz.prog 115 parts = if parts.all (fun x => Nat.blt x.1 2) = true then fillL (fun i => [(0, 1), (1, 1)][i]?) ([.int .i64 0, .slice none 0 0]) parts else aBuildO Tryz.prog 115 parts := u_build' bld_115 parts
theorem app_30_30 : appT Tryz.prog #[30, 30] = some ([.string .empty, .bool false, .string .empty], 3, 44) := by kernel_rfl
theorem app_45_45 : appT Tryz.prog #[45, 45] = some ([.int .i64 0], 1, 10) := by kernel_rfl
theorem app_50_50 : appT Tryz.prog #[50, 50] = some ([.int .u64 0], 1, 10) := by kernel_rfl
theorem app_90_90 : appT Tryz.prog #[90, 90] = some ([.string .empty, .int .i64 0], 2, 27) := by kernel_rfl
theorem app_100_100 : appT Tryz.prog #[100, 100] = some ([.string .empty], 1, 18) := by kernel_rfl
theorem tf0 : type_of% (And.intro (And.intro (And.intro (And.intro (And.intro (@tyA_1) (And.intro (@siz_1) (@tag_1))) (And.intro (And.intro (@zer_1) (@nob_1)) (And.intro (@tyA_2) (@siz_2)))) (And.intro (And.intro (And.intro (@tag_2) (@intK_2)) (And.intro (@zer_2) (@nob_2))) (And.intro (And.intro (@tyA_3) (@siz_3)) (And.intro (@tag_3) (@intK_3))))) (And.intro (And.intro (And.intro (@zer_3) (And.intro (@nob_3) (@tyA_4))) (And.intro (And.intro (@siz_4) (@tag_4)) (And.intro (@zer_4) (@nob_4)))) (And.intro (And.intro (And.intro (@tyA_5) (@siz_5)) (And.intro (@tag_5) (@intK_5))) (And.intro (And.intro (@zer_5) (@nob_5)) (And.intro (@tyA_9) (@siz_9)))))) (And.intro (And.intro (And.intro (And.intro (@tag_9) (And.intro (@zer_9) (@nob_9))) (And.intro (And.intro (@tyA_20) (@siz_20)) (And.intro (@tag_20) (@zer_20)))) (And.intro (And.intro (And.intro (@nob_20) (@tyA_21)) (And.intro (@siz_21) (@tag_21))) (And.intro (And.intro (@intK_21) (@zer_21)) (And.intro (@nob_21) (@tyA_22))))) (And.intro (And.intro (And.intro (@siz_22) (And.intro (@tag_22) (@zer_22))) (And.intro (And.intro (@nob_22) (@tyA_24)) (And.intro (@siz_24) (@tag_24)))) (And.intro (And.intro (And.intro (@intK_24) (@zer_24)) (And.intro (@nob_24) (@tyA_30))) (And.intro (And.intro (@siz_30) (@tag_30)) (And.intro (@slc_30) (@mk_30))))))) := And.intro (And.intro (And.intro (And.intro (And.intro (@tyA_1) (And.intro (@siz_1) (@tag_1))) (And.intro (And.intro (@zer_1) (@nob_1)) (And.intro (@tyA_2) (@siz_2)))) (And.intro (And.intro (And.intro (@tag_2) (@intK_2)) (And.intro (@zer_2) (@nob_2))) (And.intro (And.intro (@tyA_3) (@siz_3)) (And.intro (@tag_3) (@intK_3))))) (And.intro (And.intro (And.intro (@zer_3) (And.intro (@nob_3) (@tyA_4))) (And.intro (And.intro (@siz_4) (@tag_4)) (And.intro (@zer_4) (@nob_4)))) (And.intro (And.intro (And.intro (@tyA_5) (@siz_5)) (And.intro (@tag_5) (@intK_5))) (And.intro (And.intro (@zer_5) (@nob_5)) (And.intro (@tyA_9) (@siz_9)))))) (And.intro (And.intro (And.intro (And.intro (@tag_9) (And.intro (@zer_9) (@nob_9))) (And.intro (And.intro (@tyA_20) (@siz_20)) (And.intro (@tag_20) (@zer_20)))) (And.intro (And.intro (And.intro (@nob_20) (@tyA_21)) (And.intro (@siz_21) (@tag_21))) (And.intro (And.intro (@intK_21) (@zer_21)) (And.intro (@nob_21) (@tyA_22))))) (And.intro (And.intro (And.intro (@siz_22) (And.intro (@tag_22) (@zer_22))) (And.intro (And.intro (@nob_22) (@tyA_24)) (And.intro (@siz_24) (@tag_24)))) (And.intro (And.intro (And.intro (@intK_24) (@zer_24)) (And.intro (@nob_24) (@tyA_30))) (And.intro (And.intro (@siz_30) (@tag_30)) (And.intro (@slc_30) (@mk_30))))))
theorem tf1 : type_of% (And.intro (And.intro (And.intro (And.intro (And.intro (@zer_30) (And.intro (@nob_30) (@tyA_37))) (And.intro (And.intro (@siz_37) (@tag_37)) (And.intro (@zer_37) (@nob_37)))) (And.intro (And.intro (And.intro (@fld_37_0) (@fld_37_1)) (And.intro (@fld_37_2) (@tyA_40))) (And.intro (And.intro (@siz_40) (@tag_40)) (And.intro (@arr_40) (@sarr_40))))) (And.intro (And.intro (And.intro (@zer_40) (And.intro (@nob_40) (@tyA_42))) (And.intro (And.intro (@siz_42) (@tag_42)) (And.intro (@zer_42) (@nob_42)))) (And.intro (And.intro (And.intro (@fld_42_0) (@fld_42_1)) (And.intro (@fld_42_2) (@fld_42_3))) (And.intro (And.intro (@tyA_45) (@siz_45)) (And.intro (@tag_45) (@slc_45)))))) (And.intro (And.intro (And.intro (And.intro (@mk_45) (And.intro (@zer_45) (@nob_45))) (And.intro (And.intro (@tyA_50) (@siz_50)) (And.intro (@tag_50) (@slc_50)))) (And.intro (And.intro (And.intro (@mk_50) (@zer_50)) (And.intro (@nob_50) (@tyA_52))) (And.intro (And.intro (@siz_52) (@tag_52)) (And.intro (@zer_52) (@nob_52))))) (And.intro (And.intro (And.intro (@fld_52_0) (And.intro (@fld_52_1) (@fld_52_2))) (And.intro (And.intro (@fld_52_3) (@tyA_54)) (And.intro (@siz_54) (@tag_54)))) (And.intro (And.intro (And.intro (@zer_54) (@nob_54)) (And.intro (@tyA_55) (@siz_55))) (And.intro (And.intro (@tag_55) (@zer_55)) (And.intro (@nob_55) (@tyA_56))))))) := And.intro (And.intro (And.intro (And.intro (And.intro (@zer_30) (And.intro (@nob_30) (@tyA_37))) (And.intro (And.intro (@siz_37) (@tag_37)) (And.intro (@zer_37) (@nob_37)))) (And.intro (And.intro (And.intro (@fld_37_0) (@fld_37_1)) (And.intro (@fld_37_2) (@tyA_40))) (And.intro (And.intro (@siz_40) (@tag_40)) (And.intro (@arr_40) (@sarr_40))))) (And.intro (And.intro (And.intro (@zer_40) (And.intro (@nob_40) (@tyA_42))) (And.intro (And.intro (@siz_42) (@tag_42)) (And.intro (@zer_42) (@nob_42)))) (And.intro (And.intro (And.intro (@fld_42_0) (@fld_42_1)) (And.intro (@fld_42_2) (@fld_42_3))) (And.intro (And.intro (@tyA_45) (@siz_45)) (And.intro (@tag_45) (@slc_45)))))) (And.intro (And.intro (And.intro (And.intro (@mk_45) (And.intro (@zer_45) (@nob_45))) (And.intro (And.intro (@tyA_50) (@siz_50)) (And.intro (@tag_50) (@slc_50)))) (And.intro (And.intro (And.intro (@mk_50) (@zer_50)) (And.intro (@nob_50) (@tyA_52))) (And.intro (And.intro (@siz_52) (@tag_52)) (And.intro (@zer_52) (@nob_52))))) (And.intro (And.intro (And.intro (@fld_52_0) (And.intro (@fld_52_1) (@fld_52_2))) (And.intro (And.intro (@fld_52_3) (@tyA_54)) (And.intro (@siz_54) (@tag_54)))) (And.intro (And.intro (And.intro (@zer_54) (@nob_54)) (And.intro (@tyA_55) (@siz_55))) (And.intro (And.intro (@tag_55) (@zer_55)) (And.intro (@nob_55) (@tyA_56))))))
theorem tf2 : type_of% (And.intro (And.intro (And.intro (And.intro (And.intro (@siz_56) (And.intro (@tag_56) (@intK_56))) (And.intro (And.intro (@zer_56) (@nob_56)) (And.intro (@tyA_77) (@siz_77)))) (And.intro (And.intro (And.intro (@tag_77) (@zer_77)) (And.intro (@nob_77) (@tyA_84))) (And.intro (And.intro (@siz_84) (@tag_84)) (And.intro (@slc_84) (@mk_84))))) (And.intro (And.intro (And.intro (@zer_84) (And.intro (@nob_84) (@tyA_86))) (And.intro (And.intro (@siz_86) (@tag_86)) (And.intro (@zer_86) (@nob_86)))) (And.intro (And.intro (And.intro (@fld_86_0) (@tyA_90)) (And.intro (@siz_90) (@tag_90))) (And.intro (And.intro (@slc_90) (@mk_90)) (And.intro (@zer_90) (@nob_90)))))) (And.intro (And.intro (And.intro (And.intro (@tyA_95) (And.intro (@siz_95) (@tag_95))) (And.intro (And.intro (@zer_95) (@nob_95)) (And.intro (@fld_95_0) (@fld_95_1)))) (And.intro (And.intro (And.intro (@tyA_100) (@siz_100)) (And.intro (@tag_100) (@slc_100))) (And.intro (And.intro (@mk_100) (@zer_100)) (And.intro (@nob_100) (@tyA_105))))) (And.intro (And.intro (And.intro (@siz_105) (And.intro (@tag_105) (@zer_105))) (And.intro (And.intro (@nob_105) (@tyA_113)) (And.intro (@siz_113) (@tag_113)))) (And.intro (And.intro (And.intro (@slc_113) (@mk_113)) (And.intro (@zer_113) (@nob_113))) (And.intro (And.intro (@tyA_115) (@siz_115)) (And.intro (@tag_115) (@zer_115))))))) := And.intro (And.intro (And.intro (And.intro (And.intro (@siz_56) (And.intro (@tag_56) (@intK_56))) (And.intro (And.intro (@zer_56) (@nob_56)) (And.intro (@tyA_77) (@siz_77)))) (And.intro (And.intro (And.intro (@tag_77) (@zer_77)) (And.intro (@nob_77) (@tyA_84))) (And.intro (And.intro (@siz_84) (@tag_84)) (And.intro (@slc_84) (@mk_84))))) (And.intro (And.intro (And.intro (@zer_84) (And.intro (@nob_84) (@tyA_86))) (And.intro (And.intro (@siz_86) (@tag_86)) (And.intro (@zer_86) (@nob_86)))) (And.intro (And.intro (And.intro (@fld_86_0) (@tyA_90)) (And.intro (@siz_90) (@tag_90))) (And.intro (And.intro (@slc_90) (@mk_90)) (And.intro (@zer_90) (@nob_90)))))) (And.intro (And.intro (And.intro (And.intro (@tyA_95) (And.intro (@siz_95) (@tag_95))) (And.intro (And.intro (@zer_95) (@nob_95)) (And.intro (@fld_95_0) (@fld_95_1)))) (And.intro (And.intro (And.intro (@tyA_100) (@siz_100)) (And.intro (@tag_100) (@slc_100))) (And.intro (And.intro (@mk_100) (@zer_100)) (And.intro (@nob_100) (@tyA_105))))) (And.intro (And.intro (And.intro (@siz_105) (And.intro (@tag_105) (@zer_105))) (And.intro (And.intro (@nob_105) (@tyA_113)) (And.intro (@siz_113) (@tag_113)))) (And.intro (And.intro (And.intro (@slc_113) (@mk_113)) (And.intro (@zer_113) (@nob_113))) (And.intro (And.intro (@tyA_115) (@siz_115)) (And.intro (@tag_115) (@zer_115))))))
theorem tf3 : type_of% (And.intro (And.intro (And.intro (And.intro (And.intro (@nob_115) (And.intro (@fld_115_0) (@fld_115_1))) (And.intro (And.intro (@tyA_116) (@siz_116)) (And.intro (@tag_116) (@intK_116)))) (And.intro (And.intro (@zer_116) (And.intro (@nob_116) (@tyA_125))) (And.intro (And.intro (@siz_125) (@tag_125)) (And.intro (@zer_125) (@nob_125))))) (And.intro (And.intro (And.intro (@tyA_127) (And.intro (@siz_127) (@tag_127))) (And.intro (And.intro (@zer_127) (@fld_127_0)) (And.intro (@fld_127_1) (@tyA_129)))) (And.intro (And.intro (And.intro (@siz_129) (@tag_129)) (And.intro (@zer_129) (@nob_129))) (And.intro (And.intro (@tyA_137) (@siz_137)) (And.intro (@tag_137) (@intK_137)))))) (And.intro (And.intro (And.intro (And.intro (@zer_137) (And.intro (@nob_137) (@tyA_138))) (And.intro (And.intro (@siz_138) (@tag_138)) (And.intro (@zer_138) (@nob_138)))) (And.intro (And.intro (@tyA_144) (And.intro (@siz_144) (@tag_144))) (And.intro (And.intro (@zer_144) (@nob_144)) (And.intro (@tyA_170) (@siz_170))))) (And.intro (And.intro (And.intro (@tag_170) (And.intro (@arr_170) (@sarr_170))) (And.intro (And.intro (@zer_170) (@nob_170)) (And.intro (@build_37) (@build_42)))) (And.intro (And.intro (And.intro (@build_86) (@build_95)) (And.intro (@build_115) (@app_30_30))) (And.intro (And.intro (@app_45_45) (@app_50_50)) (And.intro (@app_90_90) (@app_100_100))))))) := And.intro (And.intro (And.intro (And.intro (And.intro (@nob_115) (And.intro (@fld_115_0) (@fld_115_1))) (And.intro (And.intro (@tyA_116) (@siz_116)) (And.intro (@tag_116) (@intK_116)))) (And.intro (And.intro (@zer_116) (And.intro (@nob_116) (@tyA_125))) (And.intro (And.intro (@siz_125) (@tag_125)) (And.intro (@zer_125) (@nob_125))))) (And.intro (And.intro (And.intro (@tyA_127) (And.intro (@siz_127) (@tag_127))) (And.intro (And.intro (@zer_127) (@fld_127_0)) (And.intro (@fld_127_1) (@tyA_129)))) (And.intro (And.intro (And.intro (@siz_129) (@tag_129)) (And.intro (@zer_129) (@nob_129))) (And.intro (And.intro (@tyA_137) (@siz_137)) (And.intro (@tag_137) (@intK_137)))))) (And.intro (And.intro (And.intro (And.intro (@zer_137) (And.intro (@nob_137) (@tyA_138))) (And.intro (And.intro (@siz_138) (@tag_138)) (And.intro (@zer_138) (@nob_138)))) (And.intro (And.intro (@tyA_144) (And.intro (@siz_144) (@tag_144))) (And.intro (And.intro (@zer_144) (@nob_144)) (And.intro (@tyA_170) (@siz_170))))) (And.intro (And.intro (And.intro (@tag_170) (And.intro (@arr_170) (@sarr_170))) (And.intro (And.intro (@zer_170) (@nob_170)) (And.intro (@build_37) (@build_42)))) (And.intro (And.intro (And.intro (@build_86) (@build_95)) (And.intro (@build_115) (@app_30_30))) (And.intro (And.intro (@app_45_45) (@app_50_50)) (And.intro (@app_90_90) (@app_100_100))))))
end Go.Proofs.YtbgminppkacdlaaGreatDoor
end
section
/- Paths: the error of a part, texts one by one. Conditions: as each rule says. -/
namespace Go.Proofs.YtbgminppkacdlaaGreatDoor
open Go.AM
open Nat renaming reduceBEq → Za, reduceEqDiff → Zb, reduceAdd → Zc, reduceSub → Zd, reduceMul → Ze, reduceLT → Zf, reduceLeDiff → Zg, reduceDiv → Zh, reduceMod → Zi, reducePow → Zj
open Int renaming reduceAdd → Zk, reduceSub → Zl, reduceMul → Zm, reduceLT → Zn, reduceLE → Zo, reduceEq → Zp, reduceNe → Zq, reduceNeg → Zr, reduceToNat → Zs, reduceDiv → Zt, reduceMod → Zu, reducePow → Zv, cast_ofNat_Int → Zw
set_option linter.unusedSimpArgs false
variable {sp : Special} {h : Heap} {R : Out → Heap → Prop}
def chk (l : List UInt8) : Int := if 8 < l.length then 36 else if 0 ∈ l then 22 else 0
theorem no0 {l : List UInt8} {p : Nat} (h : ∀ j, j < p → l[j]? ≠ some 0) (hp : l.length ≤ p) : ¬ (0 : UInt8) ∈ l := fun hm => by
  obtain ⟨j, hj⟩ := List.mem_iff_getElem?.1 hm
  have := (List.getElem?_eq_some_iff.1 hj).1
  exact h j (by omega) hj
set_option maxRecDepth 100000 in
theorem check_spec (hsp : (sp 75).isNone = true) {l : List UInt8} (hR : ∀ h', h.nx ≤ h'.nx → (∀ b, b < h.nx → h'.get b = h.get b) → R (.ret (.int .i64 (chk l))) h') : WF Tryz.prog 2 sp 75 [.string (mkS l)] h R := by
  refine wf_fn (fn := Tryz.f75) hsp rfl (by kernel_rfl) rfl ?_
  by_cases c1 : 8 < l.length
  · have c1' : (8 : Int) < (l.length : Int) := by omega
    simp only [↓reduceIte, reduceCtorEq, Za, Zb, Zc, Zd, Ze, Zf, Zg, Zh, Zi, Zj, Zk, Zl, Zm, Zn, Zo, Zp, Zq, Zr, Zs, Zt, Zu, Zv, gval, Zw, rb0, rb1, rb2, rb3, rb4, tf0, tf1, tf2, tf3, Yk, Tryz.f75, mkS_size, c1']
    have := hR h (Nat.le_refl _) fun _ _ => rfl
    unfold chk at this
    rw [if_pos c1] at this
    exact this
  have c1' : ¬ (8 : Int) < (l.length : Int) := by omega
  simp only [↓reduceIte, reduceCtorEq, Za, Zb, Zc, Zd, Ze, Zf, Zg, Zh, Zi, Zj, Zk, Zl, Zm, Zn, Zo, Zp, Zq, Zr, Zs, Zt, Zu, Zv, gval, Zw, rb0, rb1, rb2, rb3, rb4, tf0, tf1, tf2, tf3, Yk, Tryz.f75, mkS_size, c1', u_rangeS (show Tryz.prog.underlying 9 = some .string from by kernel_rfl)]
  refine run_loop2 rfl (fun N e h' => ∃ p, N = l.length - p ∧ (∀ j, j < p → l[j]? ≠ some 0) ∧ e.at 9 = .pointer (some ⟨h.nx, 0, none⟩) ∧ h'.get h.nx = some (.str (mkS l) p) ∧ h'.nx = h.nx + 1 ∧ ∀ b, b < h.nx → h'.get b = h.get b)
    (fun ex e h' => (ex = .ret ∧ e.at 2 = .int .i64 22 ∧ (0 : UInt8) ∈ l ∨ ex = .exit 0 ∧ ¬ (0 : UInt8) ∈ l) ∧ h.nx ≤ h'.nx ∧ ∀ b, b < h.nx → h'.get b = h.get b) ?_ (l.length - 0) _ _ ?_ ?_
  · rintro N e h' ⟨p, rfl, hz, e9, g, hn, hk⟩ Q' hQn hQx
    by_cases hp : p < l.length
    · obtain ⟨b, hb⟩ : ∃ b, l[p]? = some b := ⟨_, List.getElem?_eq_getElem hp⟩
      obtain ⟨c, w, hd, hc, hw, hk1, hk2⟩ := dec_any hb
      have hbz : b.toNat = 0 ↔ b = 0 := by rw [← UInt8.toNat_inj]; rfl
      by_cases c2 : b = 0
      · have c2' : (c : Int) = 0 := by have := (hk1 0 (by omega)).2 (hbz.2 c2); omega
        simp only [↓reduceIte, reduceCtorEq, Za, Zb, Zc, Zd, Ze, Zf, Zg, Zh, Zi, Zj, Zk, Zl, Zm, Zn, Zo, Zp, Zq, Zr, Zs, Zt, Zu, Zv, gval, Zw, rb0, rb1, rb2, rb3, rb4, tf0, tf1, tf2, tf3, Yk, e9, u_nextS g (by rw [mkS_size]; exact hp) hd, c2']
        exact hQx _ _ _ (by simp) ⟨.inl ⟨rfl, by simp only [Za, Zw, Ye], List.mem_of_getElem? (c2 ▸ hb)⟩, by simp (disch := (first | omega | rfl | (simp only [Yn]; omega))) only [Yh, Yc]; omega, fun b hb => by simp (disch := (first | omega | rfl | (simp only [Yn]; omega))) only [Yh, Yc]; exact hk b hb⟩
      · have c2' : ¬ (c : Int) = 0 := fun e => c2 (hbz.1 ((hk1 0 (by omega)).1 (by omega)))
        simp only [↓reduceIte, reduceCtorEq, Za, Zb, Zc, Zd, Ze, Zf, Zg, Zh, Zi, Zj, Zk, Zl, Zm, Zn, Zo, Zp, Zq, Zr, Zs, Zt, Zu, Zv, gval, Zw, rb0, rb1, rb2, rb3, rb4, tf0, tf1, tf2, tf3, Yk, e9, u_nextS g (by rw [mkS_size]; exact hp) hd, c2']
        refine hQn _ _ _ (by omega) ⟨p + w, rfl, fun j hj => ?_, by simp only [Za, Zw, Ye, e9], by simp (disch := (first | omega | rfl | (simp only [Yn]; omega))) only [Yh, Yc], by simp (disch := (first | omega | rfl | (simp only [Yn]; omega))) only [Yh, Yc]; exact hn, fun b hb => by simp (disch := (first | omega | rfl | (simp only [Yn]; omega))) only [Yh, Yc]; exact hk b hb⟩
        rcases Nat.lt_trichotomy j p with q | q | q
        · exact hz j q
        · rw [q, hb]; exact fun e => c2 (Option.some.inj e)
        · obtain ⟨d, q1, q2⟩ := hk2 j q hj
          rw [q1]; intro e; cases Option.some.inj e; exact absurd q2 (by decide)
    · simp only [↓reduceIte, reduceCtorEq, Za, Zb, Zc, Zd, Ze, Zf, Zg, Zh, Zi, Zj, Zk, Zl, Zm, Zn, Zo, Zp, Zq, Zr, Zs, Zt, Zu, Zv, gval, Zw, rb0, rb1, rb2, rb3, rb4, tf0, tf1, tf2, tf3, Yk, e9, u_nextE g (by rw [mkS_size]; exact hp)]
      exact hQx _ _ _ (by simp) ⟨.inr ⟨rfl, no0 hz (by omega)⟩, by omega, hk⟩
  · exact ⟨0, rfl, fun _ h => absurd h (Nat.not_lt_zero _), by simp only [Za, Zw, Ye], by simp (disch := (first | omega | rfl | (simp only [Yn]; omega))) only [Yh, Yc], by rw [Heap.nx_new], fun b hb => by rw [Heap.get_new_ne _ _ (by omega)]⟩
  · rintro ex e h' - ⟨⟨rfl, e2, hm⟩ | ⟨rfl, hm⟩, hn, hk⟩
    · simp only [↓reduceIte, reduceCtorEq, Za, Zb, Zc, Zd, Ze, Zf, Zg, Zh, Zi, Zj, Zk, Zl, Zm, Zn, Zo, Zp, Zq, Zr, Zs, Zt, Zu, Zv, gval, Zw, rb0, rb1, rb2, rb3, rb4, tf0, tf1, tf2, tf3, Yk, e2]
      have := hR h' hn hk
      unfold chk at this
      rw [if_neg c1, if_pos hm] at this
      exact this
    · simp only [↓reduceIte, reduceCtorEq, Za, Zb, Zc, Zd, Ze, Zf, Zg, Zh, Zi, Zj, Zk, Zl, Zm, Zn, Zo, Zp, Zq, Zr, Zs, Zt, Zu, Zv, gval, Zw, rb0, rb1, rb2, rb3, rb4, tf0, tf1, tf2, tf3, Yk]
      have := hR h' hn hk
      unfold chk at this
      rw [if_neg c1, if_neg hm] at this
      exact this
structure TxtAt (h : Heap) (v : Value) (l : List (List UInt8)) : Prop where
  is : (v = .slice none 0 0 ∧ l = []) ∨ ∃ b k, v = .slice (some ⟨b, 0, none⟩) l.length l.length ∧ h.get b = some (cellsB (strs l) k)
theorem TxtAt.of {lo : Nat} {v : Value} {l : List (List UInt8)} (x : RowG h lo 1 v l.length (strs l)) : TxtAt h v l := by
  rcases x.is with ⟨h1, h2, h3⟩ | ⟨b, h1, h2, h3, h4⟩
  · exact ⟨.inl ⟨h1, List.length_eq_zero_iff.1 h3⟩⟩
  · exact ⟨.inr ⟨b, _, h3, h4⟩⟩
theorem TxtAt.keep {h' : Heap} {v : Value} {l : List (List UInt8)} (x : TxtAt h v l) (hk : ∀ b ∈ blkOf v, h'.get b = h.get b) : TxtAt h' v l := by
  rcases x.is with h1 | ⟨b, k, rfl, h4⟩
  · exact ⟨.inl h1⟩
  · exact ⟨.inr ⟨b, k, rfl, (hk b (List.mem_singleton.2 rfl)).trans h4⟩⟩
end Go.Proofs.YtbgminppkacdlaaGreatDoor
end
section
/- The library's texts in this seat: specials. -/
namespace Go.Proofs
open Go.Shelf Go.RowKit
def Tryz.laysRepeat_ren : Go.Shelf.Ren := ⟨fun | 105 => 77 | 212 => 95 | 99 => 96 | 165 => 97 | 166 => 76 | 170 => 80 | 169 => 79 | 263 => 112 | 264 => 113 | 206 => 114 | 240 => 94 | 241 => 115 | 276 => 111 | 277 => 125 | n => n, fun | 9 => 9 | 3 => 3 | 4 => 4 | 20 => 20 | 0 => 0 | 46 => 137 | 109 => 145 | 5 => 5 | 72 => 127 | 76 => 130 | 51 => 157 | 146 => 160 | 53 => 56 | 148 => 162 | 70 => 125 | 37 => 84 | 75 => 129 | 127 => 147 | 164 => 158 | 80 => 134 | n => n, fun | n => n⟩
theorem Tryz.laysRepeat : Go.Proofs.Lays.n105 Tryz.prog Tryz.laysRepeat_ren := {
  mixed := by kernel_rfl
  f99 := Tryz.func96.trans (congrArg some (by kernel_rfl))
  f105 := Tryz.func77.trans (congrArg some (by kernel_rfl))
  f165 := Tryz.func97.trans (congrArg some (by kernel_rfl))
  f166 := Tryz.func76.trans (congrArg some (by kernel_rfl))
  f169 := Tryz.func79.trans (congrArg some (by kernel_rfl))
  f170 := Tryz.func80.trans (congrArg some (by kernel_rfl))
  f206 := Tryz.func114.trans (congrArg some (by kernel_rfl))
  f212 := Tryz.func95.trans (congrArg some (by kernel_rfl))
  f240 := Tryz.func94.trans (congrArg some (by kernel_rfl))
  f241 := Tryz.func115.trans (congrArg some (by kernel_rfl))
  f263 := Tryz.func112.trans (congrArg some (by kernel_rfl))
  f264 := Tryz.func113.trans (congrArg some (by kernel_rfl))
  f276 := Tryz.func111.trans (congrArg some (by kernel_rfl))
  f277 := Tryz.func125.trans (congrArg some (by kernel_rfl))
  t0 := Tryz.underlying0
  a0 := Tryz.isAgg0
  z0 := Tryz.sizeOf0
  v0 := Tryz.zeroValue0
  t3 := Tryz.underlying3
  a3 := Tryz.isAgg3
  z3 := Tryz.sizeOf3
  v3 := Tryz.zeroValue3
  t4 := Tryz.underlying4
  a4 := Tryz.isAgg4
  z4 := Tryz.sizeOf4
  v4 := Tryz.zeroValue4
  t5 := Tryz.underlying5
  a5 := Tryz.isAgg5
  z5 := Tryz.sizeOf5
  v5 := Tryz.zeroValue5
  t9 := Tryz.underlying9
  a9 := Tryz.isAgg9
  z9 := Tryz.sizeOf9
  v9 := Tryz.zeroValue9
  t20 := Tryz.underlying20
  a20 := Tryz.isAgg20
  z20 := Tryz.sizeOf20
  v20 := Tryz.zeroValue20
  t37 := Tryz.underlying84
  a37 := Tryz.isAgg84
  z37 := Tryz.sizeOf84
  v37 := Tryz.zeroValue84
  t46 := Tryz.underlying137
  a46 := Tryz.isAgg137
  z46 := Tryz.sizeOf137
  v46 := Tryz.zeroValue137
  t51 := Tryz.underlying157
  a51 := Tryz.isAgg157
  z51 := Tryz.sizeOf157
  v51 := Tryz.zeroValue157
  t53 := Tryz.underlying56
  a53 := Tryz.isAgg56
  z53 := Tryz.sizeOf56
  v53 := Tryz.zeroValue56
  t70 := Tryz.underlying125
  a70 := Tryz.isAgg125
  z70 := Tryz.sizeOf125
  v70 := Tryz.zeroValue125
  t72 := Tryz.underlying127
  a72 := Tryz.isAgg127
  z72 := Tryz.sizeOf127
  v72 := Tryz.zeroValue127
  t75 := Tryz.underlying129
  a75 := Tryz.isAgg129
  z75 := Tryz.sizeOf129
  v75 := Tryz.zeroValue129
  t76 := Tryz.underlying130
  a76 := Tryz.isAgg130
  z76 := Tryz.sizeOf130
  v76 := Tryz.zeroValue130
  t109 := Tryz.underlying145
  a109 := Tryz.isAgg145
  z109 := Tryz.sizeOf145
  v109 := Tryz.zeroValue145
  t127 := Tryz.underlying147
  a127 := Tryz.isAgg147
  z127 := Tryz.sizeOf147
  v127 := Tryz.zeroValue147
  t146 := Tryz.underlying160
  a146 := Tryz.isAgg160
  z146 := Tryz.sizeOf160
  v146 := Tryz.zeroValue160
  t148 := Tryz.underlying162
  a148 := Tryz.isAgg162
  z148 := Tryz.sizeOf162
  v148 := Tryz.zeroValue162
  t164 := Tryz.underlying158
  a164 := Tryz.isAgg158
  z164 := Tryz.sizeOf158
  v164 := Tryz.zeroValue158 }
def Tryz.laysCompare_ren : Go.Shelf.Ren := ⟨fun | 213 => 83 | 265 => 108 | n => n, fun | 9 => 9 | 3 => 3 | n => n, fun | n => n⟩
theorem Tryz.laysCompare : Go.Proofs.Lays.n213 Tryz.prog Tryz.laysCompare_ren := {
  mixed := by kernel_rfl
  f213 := Tryz.func83.trans (congrArg some (by kernel_rfl))
  f265 := Tryz.func108.trans (congrArg some (by kernel_rfl))
  t3 := Tryz.underlying3
  a3 := Tryz.isAgg3
  z3 := Tryz.sizeOf3
  v3 := Tryz.zeroValue3
  t9 := Tryz.underlying9
  a9 := Tryz.isAgg9
  z9 := Tryz.sizeOf9
  v9 := Tryz.zeroValue9 }
def Tryz.laysIndex_ren : Go.Shelf.Ren := ⟨fun | 219 => 110 | 217 => 121 | 225 => 122 | 224 => 123 | 267 => 124 | 266 => 127 | 314 => 128 | n => n, fun | 9 => 9 | 3 => 3 | 4 => 4 | 5 => 5 | 46 => 137 | 146 => 160 | 51 => 157 | n => n, fun | 1 => 0 | n => n⟩
theorem Tryz.laysIndex : Go.Proofs.Lays.n219 Tryz.prog Tryz.laysIndex_ren := {
  mixed := by kernel_rfl
  f217 := Tryz.func121.trans (congrArg some (by kernel_rfl))
  f219 := Tryz.func110.trans (congrArg some (by kernel_rfl))
  f224 := Tryz.func123.trans (congrArg some (by kernel_rfl))
  f225 := Tryz.func122.trans (congrArg some (by kernel_rfl))
  f266 := Tryz.func127.trans (congrArg some (by kernel_rfl))
  f267 := Tryz.func124.trans (congrArg some (by kernel_rfl))
  f314 := Tryz.func128.trans (congrArg some (by kernel_rfl))
  t3 := Tryz.underlying3
  a3 := Tryz.isAgg3
  z3 := Tryz.sizeOf3
  v3 := Tryz.zeroValue3
  t4 := Tryz.underlying4
  a4 := Tryz.isAgg4
  z4 := Tryz.sizeOf4
  v4 := Tryz.zeroValue4
  t5 := Tryz.underlying5
  a5 := Tryz.isAgg5
  z5 := Tryz.sizeOf5
  v5 := Tryz.zeroValue5
  t9 := Tryz.underlying9
  a9 := Tryz.isAgg9
  z9 := Tryz.sizeOf9
  v9 := Tryz.zeroValue9
  t46 := Tryz.underlying137
  a46 := Tryz.isAgg137
  z46 := Tryz.sizeOf137
  v46 := Tryz.zeroValue137
  t51 := Tryz.underlying157
  a51 := Tryz.isAgg157
  z51 := Tryz.sizeOf157
  v51 := Tryz.zeroValue157
  t146 := Tryz.underlying160
  a146 := Tryz.isAgg160
  z146 := Tryz.sizeOf160
  v146 := Tryz.zeroValue160
  g1 := by kernel_rfl }
theorem Tryz.exRepeat : Builder.Extra Tryz.prog Tryz.laysRepeat_ren := ⟨⟨by kernel_rfl, by kernel_rfl⟩, Tryz.laysRepeat.t5, Tryz.laysRepeat.a5, Tryz.laysRepeat.z5, Tryz.laysRepeat.v5, by kernel_rfl, by kernel_rfl, by kernel_rfl, by decide⟩
theorem Tryz.laysCopy : Lays.n240 Tryz.prog Tryz.laysRepeat_ren := { Tryz.laysRepeat with }
theorem Tryz.laysString : Lays.n169 Tryz.prog Tryz.laysRepeat_ren := { Tryz.laysRepeat with }
namespace YtbgminppkacdlaaGreatDoor
open Go.AM
noncomputable def strSp : Special := orSpec (oneSpec 94 (ccF (Tryz.laysRepeat_ren.t 72))) (orSpec (oneSpec 79 (stF (Tryz.laysRepeat_ren.t 72) (Tryz.laysRepeat_ren.t 5))) (orSpec (oneSpec 77 (pureF repV)) (orSpec (oneSpec 110 (pureF ixoV)) (oneSpec 83 (pureF cmpV)))))
theorem strSp_ok : SpecOk Tryz.prog (1 + 1) strSp := by
  refine orSpec_ok (oneSpec_ok fun cl _ => ?_) (orSpec_ok (oneSpec_ok fun cl _ => ?_) (orSpec_ok (oneSpec_ok fun cl _ => ?_) (orSpec_ok (oneSpec_ok fun cl _ => ?_) (oneSpec_ok fun cl _ => ?_))))
  · exact ccF_ok Tryz.laysCopy Tryz.exRepeat.toX72 (enters_of Tryz.func94 (by kernel_rfl) rfl) cl
  · exact stF_ok Tryz.laysString Tryz.exRepeat (enters_of Tryz.func79 (by kernel_rfl) rfl) cl
  · exact repF_ok Tryz.laysRepeat Tryz.exRepeat (enters_of Tryz.func77 (by kernel_rfl) rfl) cl
  · exact ixoF_ok Tryz.laysIndex (enters_of Tryz.func110 (by kernel_rfl) rfl) cl
  · exact cmpF_ok Tryz.laysCompare (enters_of Tryz.func83 (by kernel_rfl) rfl) cl
noncomputable abbrev spS : Special := orSpec trySp strSp
theorem spS_ok : SpecOk Tryz.prog (1 + 1) spS := orSpec_ok trySp_ok strSp_ok
noncomputable abbrev clS : Caller := acall Tryz.prog (1 + 1) spS 3000 60
theorem clS_ok : CallOk Tryz.prog (1 + 1) clS := acall_ok (by kernel_rfl) spS_ok 3000 60
end YtbgminppkacdlaaGreatDoor
end Go.Proofs
end
