/- Lemmas of the claim: the machine of the proof and the walks of the program. Conditions: as each says. -/
import Derived.Test.YtkkdpbicppdglaaGreatDoorRows
import Derived.Test.YtkkdpbicppdglaaGreatDoorG4
import Derived.Shelf.Lays
import Derived.Ground.NamesProg
section
/- What all proofs of this seat share: the program's own facts, the machine, fscore.try, the table. -/
namespace Go.Proofs.YtkkdpbicppdglaaGreatDoor
open Go.ChangeShapes Go.WideShapes Go.ChangeAt Go.RowKit Go.AM

theorem Tryz.own : ownKnob Tryz.prog.godebug = none := by kernel_rfl
theorem Tryz.kids : Kids Tryz.prog (· < Tryz.prog.types.size) := kids_rows (by kernel_rfl) (by kernel_rfl)
theorem Tryz.full : ∀ t e, t < Tryz.prog.types.size → Tryz.prog.underlying t = some (.slice e) → 0 < Tryz.prog.cellsOf e := slices_full_of Tryz.prog (by kernel_rfl)
noncomputable def tryT : TryCode := ⟨Tryz.f69, Tryz.f133, seqL (bodyOf Tryz.f69), seqL (seqR (bodyOf Tryz.f69)), seqR (bodyOf Tryz.f133), 4, 1, 4, 1, 25, .int .i64 0⟩
noncomputable abbrev trySp : Special := oneSpec 69 (tryF Tryz.prog tryT 1000)
set_option maxRecDepth 100000 in
theorem trySp_ok : SpecOk Tryz.prog (1 + 1) trySp := oneSpec_ok fun cl hcl =>
  tryF_ok (T := tryT) (f := 69) (fd := 133) (i3 := 3) (i4 := 4) (i5 := 5) (i0 := 0) (mk := opOf (seqL (seqR (seqR (bodyOf Tryz.f69)))) 0) (df := opOf (seqL (seqR (seqR (bodyOf Tryz.f69)))) 1) (mv := opOf (seqL (seqR (seqR (seqR (bodyOf Tryz.f69))))) 0) (cal := opOf (seqL (seqR (seqR (seqR (bodyOf Tryz.f69))))) 1)
    (st := opOf (seqL (seqR (seqR (seqR (seqR (bodyOf Tryz.f69)))))) 0) (rc := opOf (seqL (bodyOf Tryz.f133)) 0) (as1 := opOf (seqL (bodyOf Tryz.f133)) 1) (tf := 7) (t8 := 8) (at1 := #[]) (at2 := #[]) (at3 := #[])
    (by kernel_rfl) hcl Tryz.func69 (by kernel_rfl) (by kernel_rfl) (by kernel_rfl) ⟨by kernel_rfl, by kernel_rfl, by kernel_rfl⟩ ⟨by kernel_rfl, by kernel_rfl, by kernel_rfl⟩ ⟨by kernel_rfl, by kernel_rfl, by kernel_rfl⟩
    ⟨by kernel_rfl, (fun h => nomatch (show (some 9 : Option Tmp) = some 4 from h)), by kernel_rfl⟩ ⟨by kernel_rfl, by kernel_rfl, by kernel_rfl, by kernel_rfl⟩ ⟨by decide +kernel, by decide +kernel, by decide +kernel, by decide +kernel, by decide +kernel⟩
    Tryz.func133 (by kernel_rfl) (by kernel_rfl) (by kernel_rfl) ⟨by kernel_rfl, by kernel_rfl, by kernel_rfl⟩ ⟨by kernel_rfl, by kernel_rfl, by kernel_rfl⟩ ⟨by decide +kernel, by decide +kernel⟩ (by kernel_rfl) (by kernel_rfl) (by kernel_rfl)
def tab : List Int := [0, 1, 56, 2, 57, 49, 28, 3, 61, 58, 42, 50, 38, 29, 17, 4, 62, 47, 59, 36, 45, 43, 51, 22, 53, 39, 33, 30, 24, 18, 12, 5, 63, 55, 48, 27, 60, 41, 37, 16, 46, 35, 44, 21, 52, 32, 23, 11, 54, 26, 40, 15, 34, 20, 31, 10, 25, 14, 19, 9, 13, 8, 7, 6]
theorem tab_laid {W : World} (hL : laidMetH Tryz.prog [("math/bits.deBruijn64tab", Rows.laid_math_bits_deBruijn64tab)] W) :
    ∃ cs el fr, W.heap[1]? = some (.cells cs el fr) ∧ cs.size = 64 ∧ ∀ i, i < 64 → cs[i]? = (tab.map (Value.int .u8))[i]? := by
  rw [MakeChecks.laidMetH_plain _ _ _ (by kernel_rfl)] at hL
  exact laid_table (g := 1) (k := .u8) (bs := tab) (t := 489) (e := 5) hL (by kernel_rfl) (by kernel_rfl) (by kernel_rfl) (by kernel_rfl) (by kernel_rfl) (by kernel_rfl) rfl
end Go.Proofs.YtkkdpbicppdglaaGreatDoor
end
section
/- Facts of the types of the program that Tryz names, for rewriting. No condition. -/
namespace Go.Proofs.YtkkdpbicppdglaaGreatDoor
open Go.AM Go
theorem tyA_1 : tyA Tryz.prog 1 = some false := by kernel_rfl
theorem siz_1 : sizeOf? Tryz.prog 1 = some 1 := by kernel_rfl
theorem tag_1 : tyTag Tryz.prog 1 = 7 := by kernel_rfl
theorem zer_1 : zeroL Tryz.prog 1 = some ([.nilFunc]) := by kernel_rfl
theorem nob_1 : bldT Tryz.prog 1 = false := by kernel_rfl
theorem tyA_3 : tyA Tryz.prog 3 = some false := by kernel_rfl
theorem siz_3 : sizeOf? Tryz.prog 3 = some 1 := by kernel_rfl
theorem tag_3 : tyTag Tryz.prog 3 = 9 := by kernel_rfl
theorem intK_3 : intK Tryz.prog 3 = some .i64 := by kernel_rfl
theorem zer_3 : zeroL Tryz.prog 3 = some ([.int .i64 0]) := by kernel_rfl
theorem nob_3 : bldT Tryz.prog 3 = false := by kernel_rfl
theorem tyA_4 : tyA Tryz.prog 4 = some false := by kernel_rfl
theorem siz_4 : sizeOf? Tryz.prog 4 = some 1 := by kernel_rfl
theorem tag_4 : tyTag Tryz.prog 4 = 1 := by kernel_rfl
theorem zer_4 : zeroL Tryz.prog 4 = some ([.bool false]) := by kernel_rfl
theorem nob_4 : bldT Tryz.prog 4 = false := by kernel_rfl
theorem tyA_9 : tyA Tryz.prog 9 = some false := by kernel_rfl
theorem siz_9 : sizeOf? Tryz.prog 9 = some 1 := by kernel_rfl
theorem tag_9 : tyTag Tryz.prog 9 = 3 := by kernel_rfl
theorem zer_9 : zeroL Tryz.prog 9 = some ([.string .empty]) := by kernel_rfl
theorem nob_9 : bldT Tryz.prog 9 = false := by kernel_rfl
theorem tyA_57 : tyA Tryz.prog 57 = some true := by kernel_rfl
theorem siz_57 : sizeOf? Tryz.prog 57 = some 3 := by kernel_rfl
theorem tag_57 : tyTag Tryz.prog 57 = 9 := by kernel_rfl
theorem arr_57 : arrOf Tryz.prog 57 = some (3, some false, 1) := by kernel_rfl
theorem sarr_57 : sarrOf Tryz.prog 57 = some (3, 1) := by kernel_rfl
theorem zer_57 : zeroL Tryz.prog 57 = some ([.int .i64 0, .int .i64 0, .int .i64 0]) := by kernel_rfl
theorem nob_57 : bldT Tryz.prog 57 = false := by kernel_rfl
theorem tyA_58 : tyA Tryz.prog 58 = some false := by kernel_rfl
theorem siz_58 : sizeOf? Tryz.prog 58 = some 1 := by kernel_rfl
theorem tag_58 : tyTag Tryz.prog 58 = 4 := by kernel_rfl
theorem slc_58 : slcOf Tryz.prog 58 = some 3 := by kernel_rfl
theorem mk_58 : mkOf Tryz.prog 58 = some ([.string .empty, .bool false, .string .empty], 3, 44) := by kernel_rfl
theorem zer_58 : zeroL Tryz.prog 58 = some ([.slice none 0 0]) := by kernel_rfl
theorem nob_58 : bldT Tryz.prog 58 = false := by kernel_rfl
theorem tyA_60 : tyA Tryz.prog 60 = some true := by kernel_rfl
theorem siz_60 : sizeOf? Tryz.prog 60 = some 4 := by kernel_rfl
theorem tag_60 : tyTag Tryz.prog 60 = 9 := by kernel_rfl
theorem zer_60 : zeroL Tryz.prog 60 = some ([.int .i64 0, .int .i64 0, .slice none 0 0, .string .empty]) := by kernel_rfl
theorem nob_60 : bldT Tryz.prog 60 = false := by kernel_rfl
theorem fld_60_0 : fldOf Tryz.prog 60 0 = some (0, some false, 1) := by kernel_rfl
theorem fld_60_1 : fldOf Tryz.prog 60 1 = some (1, some false, 1) := by kernel_rfl
theorem fld_60_2 : fldOf Tryz.prog 60 2 = some (2, some false, 1) := by kernel_rfl
theorem fld_60_3 : fldOf Tryz.prog 60 3 = some (3, some false, 1) := by kernel_rfl
theorem tyA_66 : tyA Tryz.prog 66 = some true := by kernel_rfl
theorem siz_66 : sizeOf? Tryz.prog 66 = some 2 := by kernel_rfl
theorem tag_66 : tyTag Tryz.prog 66 = 9 := by kernel_rfl
theorem zer_66 : zeroL Tryz.prog 66 = some ([.int .i64 0, .int .i64 0]) := by kernel_rfl
theorem nob_66 : bldT Tryz.prog 66 = false := by kernel_rfl
theorem fld_66_0 : fldOf Tryz.prog 66 0 = some (0, some false, 1) := by kernel_rfl
theorem fld_66_1 : fldOf Tryz.prog 66 1 = some (1, some false, 1) := by kernel_rfl
theorem tyA_83 : tyA Tryz.prog 83 = some false := by kernel_rfl
theorem siz_83 : sizeOf? Tryz.prog 83 = some 1 := by kernel_rfl
theorem tag_83 : tyTag Tryz.prog 83 = 7 := by kernel_rfl
theorem zer_83 : zeroL Tryz.prog 83 = some ([.nilFunc]) := by kernel_rfl
theorem nob_83 : bldT Tryz.prog 83 = false := by kernel_rfl
theorem tyA_109 : tyA Tryz.prog 109 = some false := by kernel_rfl
theorem siz_109 : sizeOf? Tryz.prog 109 = some 1 := by kernel_rfl
theorem tag_109 : tyTag Tryz.prog 109 = 4 := by kernel_rfl
theorem slc_109 : slcOf Tryz.prog 109 = some 2 := by kernel_rfl
theorem mk_109 : mkOf Tryz.prog 109 = some ([.int .i64 0, .int .i64 0], 2, 19) := by kernel_rfl
theorem zer_109 : zeroL Tryz.prog 109 = some ([.slice none 0 0]) := by kernel_rfl
theorem nob_109 : bldT Tryz.prog 109 = false := by kernel_rfl
theorem tf0 : type_of% (And.intro (And.intro (And.intro (And.intro (And.intro (@tyA_1) (And.intro (@siz_1) (@tag_1))) (And.intro (And.intro (@zer_1) (@nob_1)) (And.intro (@tyA_3) (@siz_3)))) (And.intro (And.intro (And.intro (@tag_3) (@intK_3)) (And.intro (@zer_3) (@nob_3))) (And.intro (And.intro (@tyA_4) (@siz_4)) (And.intro (@tag_4) (@zer_4))))) (And.intro (And.intro (And.intro (@nob_4) (And.intro (@tyA_9) (@siz_9))) (And.intro (And.intro (@tag_9) (@zer_9)) (And.intro (@nob_9) (@tyA_57)))) (And.intro (And.intro (And.intro (@siz_57) (@tag_57)) (And.intro (@arr_57) (@sarr_57))) (And.intro (And.intro (@zer_57) (@nob_57)) (And.intro (@tyA_58) (@siz_58)))))) (And.intro (And.intro (And.intro (And.intro (@tag_58) (And.intro (@slc_58) (@mk_58))) (And.intro (And.intro (@zer_58) (@nob_58)) (And.intro (@tyA_60) (@siz_60)))) (And.intro (And.intro (And.intro (@tag_60) (@zer_60)) (And.intro (@nob_60) (@fld_60_0))) (And.intro (And.intro (@fld_60_1) (@fld_60_2)) (And.intro (@fld_60_3) (@tyA_66))))) (And.intro (And.intro (And.intro (@siz_66) (And.intro (@tag_66) (@zer_66))) (And.intro (And.intro (@nob_66) (@fld_66_0)) (And.intro (@fld_66_1) (@tyA_83)))) (And.intro (And.intro (And.intro (@siz_83) (@tag_83)) (And.intro (@zer_83) (@nob_83))) (And.intro (And.intro (@tyA_109) (@siz_109)) (And.intro (@tag_109) (@slc_109))))))) := And.intro (And.intro (And.intro (And.intro (And.intro (@tyA_1) (And.intro (@siz_1) (@tag_1))) (And.intro (And.intro (@zer_1) (@nob_1)) (And.intro (@tyA_3) (@siz_3)))) (And.intro (And.intro (And.intro (@tag_3) (@intK_3)) (And.intro (@zer_3) (@nob_3))) (And.intro (And.intro (@tyA_4) (@siz_4)) (And.intro (@tag_4) (@zer_4))))) (And.intro (And.intro (And.intro (@nob_4) (And.intro (@tyA_9) (@siz_9))) (And.intro (And.intro (@tag_9) (@zer_9)) (And.intro (@nob_9) (@tyA_57)))) (And.intro (And.intro (And.intro (@siz_57) (@tag_57)) (And.intro (@arr_57) (@sarr_57))) (And.intro (And.intro (@zer_57) (@nob_57)) (And.intro (@tyA_58) (@siz_58)))))) (And.intro (And.intro (And.intro (And.intro (@tag_58) (And.intro (@slc_58) (@mk_58))) (And.intro (And.intro (@zer_58) (@nob_58)) (And.intro (@tyA_60) (@siz_60)))) (And.intro (And.intro (And.intro (@tag_60) (@zer_60)) (And.intro (@nob_60) (@fld_60_0))) (And.intro (And.intro (@fld_60_1) (@fld_60_2)) (And.intro (@fld_60_3) (@tyA_66))))) (And.intro (And.intro (And.intro (@siz_66) (And.intro (@tag_66) (@zer_66))) (And.intro (And.intro (@nob_66) (@fld_66_0)) (And.intro (@fld_66_1) (@tyA_83)))) (And.intro (And.intro (And.intro (@siz_83) (@tag_83)) (And.intro (@zer_83) (@nob_83))) (And.intro (And.intro (@tyA_109) (@siz_109)) (And.intro (@tag_109) (@slc_109))))))
theorem tf1 : type_of% (And.intro (@mk_109) (And.intro (@zer_109) (@nob_109))) := And.intro (@mk_109) (And.intro (@zer_109) (@nob_109))
end Go.Proofs.YtkkdpbicppdglaaGreatDoor
end
section
/- The library's texts in this seat: specials. -/
namespace Go.Proofs
open Go.Shelf Go.RowKit
def Tryz.laysRepeat_ren : Go.Shelf.Ren := ⟨fun | 105 => 306 | 212 => 346 | 99 => 347 | 165 => 348 | 166 => 305 | 170 => 309 | 169 => 308 | 263 => 356 | 264 => 357 | 206 => 358 | 240 => 345 | 241 => 359 | 276 => 355 | 277 => 365 | n => n, fun | 9 => 9 | 3 => 3 | 4 => 4 | 20 => 20 | 0 => 0 | 46 => 408 | 109 => 496 | 5 => 5 | 72 => 469 | 76 => 472 | 51 => 466 | 146 => 505 | 53 => 22 | 148 => 507 | 70 => 467 | 37 => 242 | 75 => 471 | 127 => 498 | 164 => 503 | 80 => 72 | n => n, fun | n => n⟩
theorem Tryz.laysRepeat : Go.Proofs.Lays.n105 Tryz.prog Tryz.laysRepeat_ren := {
  mixed := by kernel_rfl
  f99 := Tryz.func347.trans (congrArg some (by kernel_rfl))
  f105 := Tryz.func306.trans (congrArg some (by kernel_rfl))
  f165 := Tryz.func348.trans (congrArg some (by kernel_rfl))
  f166 := Tryz.func305.trans (congrArg some (by kernel_rfl))
  f169 := Tryz.func308.trans (congrArg some (by kernel_rfl))
  f170 := Tryz.func309.trans (congrArg some (by kernel_rfl))
  f206 := Tryz.func358.trans (congrArg some (by kernel_rfl))
  f212 := Tryz.func346.trans (congrArg some (by kernel_rfl))
  f240 := Tryz.func345.trans (congrArg some (by kernel_rfl))
  f241 := Tryz.func359.trans (congrArg some (by kernel_rfl))
  f263 := Tryz.func356.trans (congrArg some (by kernel_rfl))
  f264 := Tryz.func357.trans (congrArg some (by kernel_rfl))
  f276 := Tryz.func355.trans (congrArg some (by kernel_rfl))
  f277 := Tryz.func365.trans (congrArg some (by kernel_rfl))
  t0 := Tryz.underlying0
  a0 := Tryz.isAgg0
  z0 := Tryz.sizeOf0
  v0 := Tryz.zeroValue0
  t3 := Tryz.underlying3
  a3 := Tryz.isAgg3
  z3 := Tryz.sizeOf3
  v3 := Tryz.zeroValue3
  t4 := Tryz.underlying4
  a4 := Tryz.isAgg4
  z4 := Tryz.sizeOf4
  v4 := Tryz.zeroValue4
  t5 := Tryz.underlying5
  a5 := Tryz.isAgg5
  z5 := Tryz.sizeOf5
  v5 := Tryz.zeroValue5
  t9 := Tryz.underlying9
  a9 := Tryz.isAgg9
  z9 := Tryz.sizeOf9
  v9 := Tryz.zeroValue9
  t20 := Tryz.underlying20
  a20 := Tryz.isAgg20
  z20 := Tryz.sizeOf20
  v20 := Tryz.zeroValue20
  t37 := Tryz.underlying242
  a37 := Tryz.isAgg242
  z37 := Tryz.sizeOf242
  v37 := Tryz.zeroValue242
  t46 := Tryz.underlying408
  a46 := Tryz.isAgg408
  z46 := Tryz.sizeOf408
  v46 := Tryz.zeroValue408
  t51 := Tryz.underlying466
  a51 := Tryz.isAgg466
  z51 := Tryz.sizeOf466
  v51 := Tryz.zeroValue466
  t53 := Tryz.underlying22
  a53 := Tryz.isAgg22
  z53 := Tryz.sizeOf22
  v53 := Tryz.zeroValue22
  t70 := Tryz.underlying467
  a70 := Tryz.isAgg467
  z70 := Tryz.sizeOf467
  v70 := Tryz.zeroValue467
  t72 := Tryz.underlying469
  a72 := Tryz.isAgg469
  z72 := Tryz.sizeOf469
  v72 := Tryz.zeroValue469
  t75 := Tryz.underlying471
  a75 := Tryz.isAgg471
  z75 := Tryz.sizeOf471
  v75 := Tryz.zeroValue471
  t76 := Tryz.underlying472
  a76 := Tryz.isAgg472
  z76 := Tryz.sizeOf472
  v76 := Tryz.zeroValue472
  t109 := Tryz.underlying496
  a109 := Tryz.isAgg496
  z109 := Tryz.sizeOf496
  v109 := Tryz.zeroValue496
  t127 := Tryz.underlying498
  a127 := Tryz.isAgg498
  z127 := Tryz.sizeOf498
  v127 := Tryz.zeroValue498
  t146 := Tryz.underlying505
  a146 := Tryz.isAgg505
  z146 := Tryz.sizeOf505
  v146 := Tryz.zeroValue505
  t148 := Tryz.underlying507
  a148 := Tryz.isAgg507
  z148 := Tryz.sizeOf507
  v148 := Tryz.zeroValue507
  t164 := Tryz.underlying503
  a164 := Tryz.isAgg503
  z164 := Tryz.sizeOf503
  v164 := Tryz.zeroValue503 }
def Tryz.laysCompare_ren : Go.Shelf.Ren := ⟨fun | 213 => 279 | 265 => 335 | n => n, fun | 9 => 9 | 3 => 3 | n => n, fun | n => n⟩
theorem Tryz.laysCompare : Go.Proofs.Lays.n213 Tryz.prog Tryz.laysCompare_ren := {
  mixed := by kernel_rfl
  f213 := Tryz.func279.trans (congrArg some (by kernel_rfl))
  f265 := Tryz.func335.trans (congrArg some (by kernel_rfl))
  t3 := Tryz.underlying3
  a3 := Tryz.isAgg3
  z3 := Tryz.sizeOf3
  v3 := Tryz.zeroValue3
  t9 := Tryz.underlying9
  a9 := Tryz.isAgg9
  z9 := Tryz.sizeOf9
  v9 := Tryz.zeroValue9 }
def Tryz.laysIndex_ren : Go.Shelf.Ren := ⟨fun | 217 => 361 | 266 => 366 | n => n, fun | 9 => 9 | 5 => 5 | 3 => 3 | n => n, fun | n => n⟩
theorem Tryz.laysIndex : Go.Proofs.Lays.n217 Tryz.prog Tryz.laysIndex_ren := {
  mixed := by kernel_rfl
  f217 := Tryz.func361.trans (congrArg some (by kernel_rfl))
  f266 := Tryz.func366.trans (congrArg some (by kernel_rfl))
  t3 := Tryz.underlying3
  a3 := Tryz.isAgg3
  z3 := Tryz.sizeOf3
  v3 := Tryz.zeroValue3
  t5 := Tryz.underlying5
  a5 := Tryz.isAgg5
  z5 := Tryz.sizeOf5
  v5 := Tryz.zeroValue5
  t9 := Tryz.underlying9
  a9 := Tryz.isAgg9
  z9 := Tryz.sizeOf9
  v9 := Tryz.zeroValue9 }
theorem Tryz.exRepeat : Builder.Extra Tryz.prog Tryz.laysRepeat_ren := ⟨⟨by kernel_rfl, by kernel_rfl⟩, Tryz.laysRepeat.t5, Tryz.laysRepeat.a5, Tryz.laysRepeat.z5, Tryz.laysRepeat.v5, by kernel_rfl, by kernel_rfl, by kernel_rfl, by decide⟩
theorem Tryz.laysCopy : Lays.n240 Tryz.prog Tryz.laysRepeat_ren := { Tryz.laysRepeat with }
theorem Tryz.laysString : Lays.n169 Tryz.prog Tryz.laysRepeat_ren := { Tryz.laysRepeat with }
namespace YtkkdpbicppdglaaGreatDoor
open Go.AM
noncomputable def strSp : Special := orSpec (oneSpec 345 (ccF (Tryz.laysRepeat_ren.t 72))) (orSpec (oneSpec 308 (stF (Tryz.laysRepeat_ren.t 72) (Tryz.laysRepeat_ren.t 5))) (orSpec (oneSpec 306 (pureF repV)) (orSpec (oneSpec 361 (pureF idxV)) (oneSpec 279 (pureF cmpV)))))
theorem strSp_ok : SpecOk Tryz.prog (1 + 1) strSp := by
  refine orSpec_ok (oneSpec_ok fun cl _ => ?_) (orSpec_ok (oneSpec_ok fun cl _ => ?_) (orSpec_ok (oneSpec_ok fun cl _ => ?_) (orSpec_ok (oneSpec_ok fun cl _ => ?_) (oneSpec_ok fun cl _ => ?_))))
  · exact ccF_ok Tryz.laysCopy Tryz.exRepeat.toX72 (enters_of Tryz.func345 (by kernel_rfl) rfl) cl
  · exact stF_ok Tryz.laysString Tryz.exRepeat (enters_of Tryz.func308 (by kernel_rfl) rfl) cl
  · exact repF_ok Tryz.laysRepeat Tryz.exRepeat (enters_of Tryz.func306 (by kernel_rfl) rfl) cl
  · exact idxF_ok Tryz.laysIndex (enters_of Tryz.func361 (by kernel_rfl) rfl) cl
  · exact cmpF_ok Tryz.laysCompare (enters_of Tryz.func279 (by kernel_rfl) rfl) cl
end YtkkdpbicppdglaaGreatDoor
end Go.Proofs
end
