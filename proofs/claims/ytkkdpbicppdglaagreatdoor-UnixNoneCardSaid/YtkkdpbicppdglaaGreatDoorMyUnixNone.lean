/- UnixNone: whatever the deed, the law gives true, and leaves its argument as it was. (Its card: the table of math/bits is as the program's text lays it.) -/
import Derived.Test.YtkkdpbicppdglaaGreatDoorRows
import Derived.Test.YtkkdpbicppdglaaGreatDoorCards
import Derived.Test.YtkkdpbicppdglaaGreatDoorTie
import Derived.Test.YtkkdpbicppdglaaGreatDoorMyTryz
namespace Go.Proofs.YtkkdpbicppdglaaGreatDoor
open Go.ChangeShapes Go.WideShapes Go.ChangeAt Go.RowKit Go.AM
set_option maxRecDepth 100000 in
theorem unixNone_run : isTrue (clA 4 [.agg (List.replicate 11 (.chan none)).toArray] (listHeap (doorL 1 .u8 tab ++ []))) = true := by kernel_rfl

set_option maxRecDepth 100000 in
theorem unixNone_calls {W : World} {base : Nat} {v : Value} (h : Value.okWide Tryz.prog W .any base 47 v) (hL : laidMetH Tryz.prog Rows.unixNoneRow.laid W) : Calls Tryz.prog 4 #[v] W fun e W' => e = .returned (.bool true) ∧ Still W W' := by
  obtain ⟨cs, el, fr, h1, h2, h3⟩ := tab_laid hL
  obtain ⟨ds, rfl, g1, g2⟩ := struct_cells (by kernel_rfl) h
  have g1 : ds.toList.length = 11 := by rw [Array.length_toList, g1]; kernel_rfl
  refine door_calls (g := 1) (k := .u8) (bs := tab) (args' := [_]) (ex := []) (exs := []) clA_ok rfl rfl (fun i s b hs => by simp at hs) h1 h2 h3 unixNone_run (.cons _ _ _ _ ?_ .nil)
  refine .agg _ _ (by kernel_rfl) ?_
  have := any_cells (m := statMp (doorS 1 tab ++ [])) ds.toList (fun x hx => g2 x hx)
  rw [g1] at this
  simpa using this

set_option maxRecDepth 100000 in
theorem unixNone_lifted (os : Os) (started : os.Started) (H : Type) (enc : TypeId × Value → H) :
    ReturnsInHanded {} Tryz.checked os 4 .any (fun w args => (Rows.unixNoneSpec.pre enc Tryz.prog Tryz.f4 Rows.unixNoneRow.domain false w args ∧ laidMetH Tryz.prog Rows.unixNoneRow.laid w) ∧ sizedMet enc Tryz.prog Tryz.f4 (OpenSpec.ofChange Rows.unixNoneSpec) false w args)
      (Rows.unixNoneSpec.post enc Tryz.prog Tryz.f4 false true false false) := by
  refine returnsInHanded_of_change_and (C := Tryz.checked) (X := fun w _ => laidMetH Tryz.prog Rows.unixNoneRow.laid w) (fun _ _ _ hh h => h.of_heap hh) Tryz.own started (by kernel_rfl) Tryz.func4
    (ChangeSpec.witness_shaped (enc := enc) (C := Tryz.checked) (os := os) (X := fun w _ => laidMetH Tryz.prog Rows.unixNoneRow.laid w) false (World.laidAll Tryz.prog os Rows.unixNoneRow.laid) #[.agg #[.int .i64 0, .int .i64 0, .int .i64 0, .int .i64 0, .int .u64 0, .int .u64 0, .int .u64 0, .string .empty, .string .empty, .int .i64 0, .slice none 0 0]] 8 (World.laidAll_os _ _ _)
      (World.shaped_of_ZipB (by kernel_rfl) (by kernel_rfl)) (by kernel_rfl) (by kernel_rfl) (by kernel_rfl)
      (by rw [MakeChecks.laidMetH_plain _ _ _ (by kernel_rfl)]; exact laidMet_laidAll _ (by kernel_rfl) (by kernel_rfl))) ?_
  intro W base args ds gs before hval0 hW hcnd _ hL _
  have hval : ∀ (j : Nat) t v, Tryz.f4.params[j]? = some t → args[j]? = some v → Value.okWide Tryz.prog W .any base t v := hval0
  have hW' := hW
  obtain ⟨p, q, hA0, hV, rfl, hfz, hnd⟩ := hW
  have hA1 : DataW.TrodAll enc Tryz.prog W 0 (fun _ => true) true Tryz.f4.params.toList args.toList ds p := hA0
  have hA := hA1
  rw [Tryz.params4] at hA hval
  obtain ⟨v0, d0, rfl, rfl, h0⟩ := trodAll_one hA
  obtain ⟨rfl, rfl⟩ := trodVars_none hV
  refine (unixNone_calls (hval 0 47 v0 rfl rfl) hL).mono fun e W' ⟨he, hw⟩ => ?_
  subst he
  simp only [List.append_nil] at hW' ⊢
  exact ⟨_, rfl, post_true (bt := 4) Tryz.kids Tryz.full (by rw [Tryz.params4]; decide) (by kernel_rfl) (by kernel_rfl) rfl rfl hW' hA1 rfl rfl rfl hw⟩

theorem unixNone_holds : Rows.UnixNoneSaid :=
  OpenClaim.holds_of_wide 4 Tryz.f4 rfl rfl rfl rfl rfl rfl rfl ⟨rfl, rfl, rfl, rfl, rfl⟩ rfl rfl rfl rfl rfl (by kernel_rfl) Tryz.func4 (by kernel_rfl)
    (of_decide_eq_true (by kernel_rfl)) (by unfold Func.isWrapper; first | (rw [if_pos (by decide +kernel)]; kernel_rfl) | (rw [if_neg (by decide +kernel)]; exact ⟨rfl, rfl⟩))
    (fun os started H enc _ => unixNone_lifted os started H enc)
theorem unixNone_card : Rows.UnixNoneCardSaid :=
  Claim7.holds_tied_plain_at .later [] [.data] true (true, "0d56cdc04e4d55dbe69738f15fddf860b6639bdc2aad11bb538e390606457b59") true unixNone_holds (fun _ h => by cases h) (by kernel_rfl) (fun _ h => by cases h) unixNone_row_tie rfl ⟨rfl, rfl⟩ (by kernel_rfl) rfl
    (fun f fn hf hfn => by
      obtain rfl : f = 4 := Option.some.inj ((show Tryz.prog.funcNamed Rows.unixNoneRow.func = some 4 by kernel_rfl).symm.trans hf) |>.symm
      obtain rfl : fn = Tryz.f4 := (Option.some.inj (Tryz.func4.symm.trans hfn)).symm
      exact ⟨by kernel_rfl, fun j t ht => by
        rw [Tryz.params4] at ht
        have hm : t ∈ [47] := by simpa using Array.mem_of_getElem? ht
        have hall : ([47].all fun u => !Tryz.prog.wantsStandIn u) = true := by kernel_rfl
        exact (show Tryz.prog.wantsStandIn t = false by simpa using List.all_eq_true.1 hall t hm)⟩)
    (by kernel_rfl)
end Go.Proofs.YtkkdpbicppdglaaGreatDoor
