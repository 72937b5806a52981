/- UspecNone: whatever the pick, the law gives true. (Its card: the table of math/bits is as the program's text lays it.) -/
import Derived.Test.YtkkdpbicppdglaaGreatDoorRows
import Derived.Test.YtkkdpbicppdglaaGreatDoorCards
import Derived.Test.YtkkdpbicppdglaaGreatDoorTie
import Derived.Test.YtkkdpbicppdglaaGreatDoorMyAwake23
namespace Go.Proofs.YtkkdpbicppdglaaGreatDoor
open Go.ChangeShapes Go.WideShapes Go.ChangeAt Go.RowKit Go.AM
set_option maxRecDepth 100000 in
theorem uspecNone_run : isTrue (clV 6 [.agg (List.replicate 2 (.chan none)).toArray] (listHeap (doorL 1 .u8 tab ++ []))) = true := by kernel_rfl

set_option maxRecDepth 100000 in
theorem uspecNone_calls {W : World} {base : Nat} {v : Value} (h : Value.okWide Tryz.prog W .any base 66 v) (hL : laidMetH Tryz.prog Rows.uspecNoneRow.laid W) : Calls Tryz.prog 6 #[v] W fun e W' => e = .returned (.bool true) ∧ Still W W' := by
  obtain ⟨cs, el, fr, h1, h2, h3⟩ := tab_laid hL
  obtain ⟨ds, rfl, g1, g2⟩ := struct_cells (by kernel_rfl) h
  have g1 : ds.toList.length = 2 := by rw [Array.length_toList, g1]; kernel_rfl
  refine door_calls (g := 1) (k := .u8) (bs := tab) (args' := [_]) (ex := []) (exs := []) clV_ok rfl rfl (fun i s b hs => by simp at hs) h1 h2 h3 uspecNone_run (.cons _ _ _ _ ?_ .nil)
  refine .agg _ _ (by kernel_rfl) ?_
  have := any_cells (m := statMp (doorS 1 tab ++ [])) ds.toList (fun x hx => g2 x hx)
  rw [g1] at this
  simpa using this


set_option maxRecDepth 100000 in
theorem uspecNone_lifted (os : Os) (started : os.Started) (H : Type) (enc : TypeId × Value → H) :
    ReturnsInHanded {} Tryz.checked os 6 .any (fun w args => (Rows.uspecNoneSpec.pre enc Tryz.prog Tryz.f6 Rows.uspecNoneRow.domain false w args ∧ laidMetH Tryz.prog Rows.uspecNoneRow.laid w) ∧ sizedMet enc Tryz.prog Tryz.f6 (OpenSpec.ofChange Rows.uspecNoneSpec) false w args)
      (Rows.uspecNoneSpec.post enc Tryz.prog Tryz.f6 false true false false) := by
  refine returnsInHanded_of_change_and (C := Tryz.checked) (X := fun w _ => laidMetH Tryz.prog Rows.uspecNoneRow.laid w) (fun _ _ _ hh h => h.of_heap hh) Tryz.own started (by kernel_rfl) Tryz.func6
    (ChangeSpec.witness_shaped (enc := enc) (C := Tryz.checked) (os := os) (X := fun w _ => laidMetH Tryz.prog Rows.uspecNoneRow.laid w) false (World.laidAll Tryz.prog os Rows.uspecNoneRow.laid) #[.agg #[.int .i64 0, .int .i64 0]] 8 (World.laidAll_os _ _ _)
      (World.shaped_of_ZipB (by kernel_rfl) (by kernel_rfl)) (by kernel_rfl) (by kernel_rfl) (by kernel_rfl)
      (by rw [MakeChecks.laidMetH_plain _ _ _ (by kernel_rfl)]; exact laidMet_laidAll _ (by kernel_rfl) (by kernel_rfl))) ?_
  intro W base args ds gs before hval0 hW hcnd _ hL _
  have hval : ∀ (j : Nat) t v, Tryz.f6.params[j]? = some t → args[j]? = some v → Value.okWide Tryz.prog W .any base t v := hval0
  have hW' := hW
  obtain ⟨p, q, hA0, hV, rfl, hfz, hnd⟩ := hW
  have hA1 : DataW.TrodAll enc Tryz.prog W 0 (fun _ => true) true Tryz.f6.params.toList args.toList ds p := hA0
  have hA := hA1
  rw [Tryz.params6] at hA hval
  obtain ⟨v0, d0, rfl, rfl, h0⟩ := trodAll_one hA
  obtain ⟨rfl, rfl⟩ := trodVars_none hV
  refine (uspecNone_calls (hval 0 66 v0 rfl rfl) hL).mono fun e W' ⟨he, hw⟩ => ?_
  subst he
  simp only [List.append_nil] at hW' ⊢
  exact ⟨_, rfl, post_true (bt := 4) Tryz.kids Tryz.full (by rw [Tryz.params6]; decide) (by kernel_rfl) (by kernel_rfl) rfl rfl hW' hA1 rfl rfl rfl hw⟩

end Go.Proofs.YtkkdpbicppdglaaGreatDoor
