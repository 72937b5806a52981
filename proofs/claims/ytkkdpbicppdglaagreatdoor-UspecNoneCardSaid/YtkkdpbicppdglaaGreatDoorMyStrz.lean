/- The library's texts in this seat: specials. -/
import Derived.Test.YtkkdpbicppdglaaGreatDoorMyTryz
import Derived.Test.YtkkdpbicppdglaaGreatDoorAmStr2
import Derived.Shelf.Lays
import Derived.Ground.NamesProg
namespace Go.Proofs
open Go.Shelf Go.RowKit
def Tryz.laysRepeat_ren : Go.Shelf.Ren := ⟨fun | 105 => 306 | 212 => 346 | 99 => 347 | 165 => 348 | 166 => 305 | 170 => 309 | 169 => 308 | 263 => 356 | 264 => 357 | 206 => 358 | 240 => 345 | 241 => 359 | 276 => 355 | 277 => 365 | n => n, fun | 9 => 9 | 3 => 3 | 4 => 4 | 20 => 20 | 0 => 0 | 46 => 408 | 109 => 496 | 5 => 5 | 72 => 469 | 76 => 472 | 51 => 466 | 146 => 505 | 53 => 22 | 148 => 507 | 70 => 467 | 37 => 242 | 75 => 471 | 127 => 498 | 164 => 503 | 80 => 72 | n => n, fun | n => n⟩
theorem Tryz.laysRepeat : Go.Proofs.Lays.n105 Tryz.prog Tryz.laysRepeat_ren := {
  mixed := by kernel_rfl
  f99 := Tryz.func347.trans (congrArg some (by kernel_rfl))
  f105 := Tryz.func306.trans (congrArg some (by kernel_rfl))
  f165 := Tryz.func348.trans (congrArg some (by kernel_rfl))
  f166 := Tryz.func305.trans (congrArg some (by kernel_rfl))
  f169 := Tryz.func308.trans (congrArg some (by kernel_rfl))
  f170 := Tryz.func309.trans (congrArg some (by kernel_rfl))
  f206 := Tryz.func358.trans (congrArg some (by kernel_rfl))
  f212 := Tryz.func346.trans (congrArg some (by kernel_rfl))
  f240 := Tryz.func345.trans (congrArg some (by kernel_rfl))
  f241 := Tryz.func359.trans (congrArg some (by kernel_rfl))
  f263 := Tryz.func356.trans (congrArg some (by kernel_rfl))
  f264 := Tryz.func357.trans (congrArg some (by kernel_rfl))
  f276 := Tryz.func355.trans (congrArg some (by kernel_rfl))
  f277 := Tryz.func365.trans (congrArg some (by kernel_rfl))
  t0 := Tryz.underlying0
  a0 := Tryz.isAgg0
  z0 := Tryz.sizeOf0
  v0 := Tryz.zeroValue0
  t3 := Tryz.underlying3
  a3 := Tryz.isAgg3
  z3 := Tryz.sizeOf3
  v3 := Tryz.zeroValue3
  t4 := Tryz.underlying4
  a4 := Tryz.isAgg4
  z4 := Tryz.sizeOf4
  v4 := Tryz.zeroValue4
  t5 := Tryz.underlying5
  a5 := Tryz.isAgg5
  z5 := Tryz.sizeOf5
  v5 := Tryz.zeroValue5
  t9 := Tryz.underlying9
  a9 := Tryz.isAgg9
  z9 := Tryz.sizeOf9
  v9 := Tryz.zeroValue9
  t20 := Tryz.underlying20
  a20 := Tryz.isAgg20
  z20 := Tryz.sizeOf20
  v20 := Tryz.zeroValue20
  t37 := Tryz.underlying242
  a37 := Tryz.isAgg242
  z37 := Tryz.sizeOf242
  v37 := Tryz.zeroValue242
  t46 := Tryz.underlying408
  a46 := Tryz.isAgg408
  z46 := Tryz.sizeOf408
  v46 := Tryz.zeroValue408
  t51 := Tryz.underlying466
  a51 := Tryz.isAgg466
  z51 := Tryz.sizeOf466
  v51 := Tryz.zeroValue466
  t53 := Tryz.underlying22
  a53 := Tryz.isAgg22
  z53 := Tryz.sizeOf22
  v53 := Tryz.zeroValue22
  t70 := Tryz.underlying467
  a70 := Tryz.isAgg467
  z70 := Tryz.sizeOf467
  v70 := Tryz.zeroValue467
  t72 := Tryz.underlying469
  a72 := Tryz.isAgg469
  z72 := Tryz.sizeOf469
  v72 := Tryz.zeroValue469
  t75 := Tryz.underlying471
  a75 := Tryz.isAgg471
  z75 := Tryz.sizeOf471
  v75 := Tryz.zeroValue471
  t76 := Tryz.underlying472
  a76 := Tryz.isAgg472
  z76 := Tryz.sizeOf472
  v76 := Tryz.zeroValue472
  t109 := Tryz.underlying496
  a109 := Tryz.isAgg496
  z109 := Tryz.sizeOf496
  v109 := Tryz.zeroValue496
  t127 := Tryz.underlying498
  a127 := Tryz.isAgg498
  z127 := Tryz.sizeOf498
  v127 := Tryz.zeroValue498
  t146 := Tryz.underlying505
  a146 := Tryz.isAgg505
  z146 := Tryz.sizeOf505
  v146 := Tryz.zeroValue505
  t148 := Tryz.underlying507
  a148 := Tryz.isAgg507
  z148 := Tryz.sizeOf507
  v148 := Tryz.zeroValue507
  t164 := Tryz.underlying503
  a164 := Tryz.isAgg503
  z164 := Tryz.sizeOf503
  v164 := Tryz.zeroValue503 }
def Tryz.laysCompare_ren : Go.Shelf.Ren := ⟨fun | 213 => 279 | 265 => 335 | n => n, fun | 9 => 9 | 3 => 3 | n => n, fun | n => n⟩
theorem Tryz.laysCompare : Go.Proofs.Lays.n213 Tryz.prog Tryz.laysCompare_ren := {
  mixed := by kernel_rfl
  f213 := Tryz.func279.trans (congrArg some (by kernel_rfl))
  f265 := Tryz.func335.trans (congrArg some (by kernel_rfl))
  t3 := Tryz.underlying3
  a3 := Tryz.isAgg3
  z3 := Tryz.sizeOf3
  v3 := Tryz.zeroValue3
  t9 := Tryz.underlying9
  a9 := Tryz.isAgg9
  z9 := Tryz.sizeOf9
  v9 := Tryz.zeroValue9 }
def Tryz.laysIndex_ren : Go.Shelf.Ren := ⟨fun | 217 => 361 | 266 => 366 | n => n, fun | 9 => 9 | 5 => 5 | 3 => 3 | n => n, fun | n => n⟩
theorem Tryz.laysIndex : Go.Proofs.Lays.n217 Tryz.prog Tryz.laysIndex_ren := {
  mixed := by kernel_rfl
  f217 := Tryz.func361.trans (congrArg some (by kernel_rfl))
  f266 := Tryz.func366.trans (congrArg some (by kernel_rfl))
  t3 := Tryz.underlying3
  a3 := Tryz.isAgg3
  z3 := Tryz.sizeOf3
  v3 := Tryz.zeroValue3
  t5 := Tryz.underlying5
  a5 := Tryz.isAgg5
  z5 := Tryz.sizeOf5
  v5 := Tryz.zeroValue5
  t9 := Tryz.underlying9
  a9 := Tryz.isAgg9
  z9 := Tryz.sizeOf9
  v9 := Tryz.zeroValue9 }
theorem Tryz.exRepeat : Builder.Extra Tryz.prog Tryz.laysRepeat_ren := ⟨⟨by kernel_rfl, by kernel_rfl⟩, Tryz.laysRepeat.t5, Tryz.laysRepeat.a5, Tryz.laysRepeat.z5, Tryz.laysRepeat.v5, by kernel_rfl, by kernel_rfl, by kernel_rfl, by decide⟩
theorem Tryz.laysCopy : Lays.n240 Tryz.prog Tryz.laysRepeat_ren := { Tryz.laysRepeat with }
theorem Tryz.laysString : Lays.n169 Tryz.prog Tryz.laysRepeat_ren := { Tryz.laysRepeat with }
namespace YtkkdpbicppdglaaGreatDoor
open Go.AM
noncomputable def strSp : Special := orSpec (oneSpec 345 (ccF (Tryz.laysRepeat_ren.t 72))) (orSpec (oneSpec 308 (stF (Tryz.laysRepeat_ren.t 72) (Tryz.laysRepeat_ren.t 5))) (orSpec (oneSpec 306 (pureF repV)) (orSpec (oneSpec 361 (pureF idxV)) (oneSpec 279 (pureF cmpV)))))
theorem strSp_ok : SpecOk Tryz.prog (1 + 1) strSp := by
  refine orSpec_ok (oneSpec_ok fun cl _ => ?_) (orSpec_ok (oneSpec_ok fun cl _ => ?_) (orSpec_ok (oneSpec_ok fun cl _ => ?_) (orSpec_ok (oneSpec_ok fun cl _ => ?_) (oneSpec_ok fun cl _ => ?_))))
  · exact ccF_ok Tryz.laysCopy Tryz.exRepeat.toX72 (enters_of Tryz.func345 (by kernel_rfl) rfl) cl
  · exact stF_ok Tryz.laysString Tryz.exRepeat (enters_of Tryz.func308 (by kernel_rfl) rfl) cl
  · exact repF_ok Tryz.laysRepeat Tryz.exRepeat (enters_of Tryz.func306 (by kernel_rfl) rfl) cl
  · exact idxF_ok Tryz.laysIndex (enters_of Tryz.func361 (by kernel_rfl) rfl) cl
  · exact cmpF_ok Tryz.laysCompare (enters_of Tryz.func279 (by kernel_rfl) rfl) cl
end YtkkdpbicppdglaaGreatDoor
end Go.Proofs
