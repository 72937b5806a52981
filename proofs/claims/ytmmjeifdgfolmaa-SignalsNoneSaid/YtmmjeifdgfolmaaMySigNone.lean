/- SignalsNone: whatever the deed, the law gives true, and leaves its argument as it was. No condition. -/
import Derived.Test.YtmmjeifdgfolmaaRows
import Derived.Test.YtmmjeifdgfolmaaAmTop
namespace Go.Proofs.Ytmmjeifdgfolmaa
open Go.ChangeShapes Go.WideShapes Go.ChangeAt Go.RowKit Go.AM

theorem Try.own : ownKnob Try.prog.godebug = none := by kernel_rfl
theorem Try.laidOut : laidOutB Try.prog = true := by kernel_rfl
theorem Try.kids : Kids Try.prog (· < Try.prog.types.size) := kids_rows (by kernel_rfl) (by kernel_rfl)
theorem Try.full : ∀ t e, t < Try.prog.types.size → Try.prog.underlying t = some (.slice e) → 0 < Try.prog.cellsOf e := slices_full_of Try.prog (by kernel_rfl)
noncomputable abbrev clA : Caller := acall Try.prog 0 (fun _ => none) 3000 40
theorem clA_ok : CallOk Try.prog 0 clA := acall_ok (by kernel_rfl) noSpec_ok 3000 40

noncomputable def deedOf (a b c h pc : Int) (s : Value) : Value := .agg #[.int .i64 a, .int .i64 b, .int .i64 c, .int .u64 h, .int .i64 pc, s]
set_option maxRecDepth 100000 in
theorem signalsNone_run (a b c h pc : Int) (len cap : Nat) : isTrue (clA 10 [deedOf a b c h pc (.slice (some ⟨0, 0, none⟩) len cap)] deadHeap) = true := by kernel_rfl
set_option maxRecDepth 100000 in
theorem signalsNone_run0 (a b c h pc : Int) : isTrue (clA 10 [deedOf a b c h pc (.slice none 0 0)] deadHeap) = true := by kernel_rfl

set_option maxRecDepth 100000 in
theorem deed_shape {W : World} {base : Nat} {v : Value} (h : Value.okWide Try.prog W .any base 80 v) :
    ∃ a b c g pc s, v = deedOf a b c g pc s ∧ (s = .slice none 0 0 ∨ ∃ ad len cap, s = .slice (some ad) len cap) := by
  obtain ⟨cs, rfl, h1, h2⟩ := row_cells (ts := [3, 3, 3, 44, 3, 47]) (by kernel_rfl) (by kernel_rfl) h
  have h1 : cs.size = 6 := by rw [h1]; kernel_rfl
  obtain ⟨l, rfl⟩ : ∃ l : List Value, cs = l.toArray := ⟨cs.toList, by simp⟩
  match l, h1 with
  | [x0, x1, x2, x3, x4, x5], _ =>
    have g : ∀ i x u, [x0, x1, x2, x3, x4, x5].toArray[i]? = some x → [3, 3, 3, 44, 3, 47][i % 6]? = some u → Cell.okWide Try.prog W .any base u x := by
      intro i x u hx hu
      obtain ⟨u', h3, h4⟩ := h2 i x hx
      have : u' = u := by simpa using h3.symm.trans hu
      subst this
      exact h4
    obtain ⟨a, rfl, _⟩ := cell_int (u := 3) (k := .i64) (by kernel_rfl) (g 0 x0 3 rfl rfl)
    obtain ⟨b, rfl, _⟩ := cell_int (u := 3) (k := .i64) (by kernel_rfl) (g 1 x1 3 rfl rfl)
    obtain ⟨c, rfl, _⟩ := cell_int (u := 3) (k := .i64) (by kernel_rfl) (g 2 x2 3 rfl rfl)
    obtain ⟨d, rfl, _⟩ := cell_int (u := 44) (k := .u64) (by kernel_rfl) (g 3 x3 44 rfl rfl)
    obtain ⟨e, rfl, _⟩ := cell_int (u := 3) (k := .i64) (by kernel_rfl) (g 4 x4 3 rfl rfl)
    exact ⟨a, b, c, d, e, x5, rfl, cell_slice (u := 47) (e := 44) (by kernel_rfl) (g 5 x5 47 rfl rfl)⟩

set_option maxRecDepth 100000 in
theorem signalsNone_calls {W : World} {base : Nat} {v : Value} (h : Value.okWide Try.prog W .any base 80 v) : Calls Try.prog 10 #[v] W fun e W' => e = .returned (.bool true) ∧ Still W W' := by
  obtain ⟨a, b, c, g, pc, s, rfl, hs⟩ := deed_shape h
  rcases hs with rfl | ⟨ad, len, cap, rfl⟩
  · refine true_calls (args' := [_]) clA_ok (signalsNone_run0 a b c g pc) (.cons _ _ _ _ (.agg _ _ rfl ?_) .nil) W
    exact .cons _ _ _ _ (.int _ _) (.cons _ _ _ _ (.int _ _) (.cons _ _ _ _ (.int _ _) (.cons _ _ _ _ (.int _ _) (.cons _ _ _ _ (.int _ _) (.cons _ _ _ _ (.sliceNil 0 0) .nil)))))
  · refine true_calls (args' := [_]) clA_ok (signalsNone_run a b c g pc len cap) (.cons _ _ _ _ (.agg _ _ rfl ?_) .nil) W
    exact .cons _ _ _ _ (.int _ _) (.cons _ _ _ _ (.int _ _) (.cons _ _ _ _ (.int _ _) (.cons _ _ _ _ (.int _ _) (.cons _ _ _ _ (.int _ _) (.cons _ _ _ _ (.sliceDead _ _ _ _ _ rfl) .nil)))))

set_option maxRecDepth 100000 in
theorem signalsNone_lifted (os : Os) (started : os.Started) (H : Type) (enc : TypeId × Value → H) :
    ReturnsInHanded {} Try.checked os 10 .any (Rows.signalsNoneSpec.pre6 enc Try.prog Try.f10 Rows.signalsNoneRow.domain false) (Rows.signalsNoneSpec.post enc Try.prog Try.f10 false true false false) := by
  refine returnsInHanded_of_change (C := Try.checked) Try.own started (by kernel_rfl) Try.func10
    (ChangeSpec.witness6 (enc := enc) (C := Try.checked) false ⟨#[], #[deedOf 0 0 0 0 0 (.slice none 0 0)], []⟩ 8 (by kernel_rfl) (by kernel_rfl) (by kernel_rfl) (by kernel_rfl)) ?_
  intro W base args ds gs before hval0 hW hcnd _
  have hval : ∀ (j : Nat) t v, Try.f10.params[j]? = some t → args[j]? = some v → Value.okWide Try.prog W .any base t v := hval0
  have hW' := hW
  obtain ⟨p, q, hA0, hV, rfl, hfz, hnd⟩ := hW
  have hA1 : DataW.TrodAll enc Try.prog W 0 (fun _ => true) true Try.f10.params.toList args.toList ds p := hA0
  have hA := hA1
  rw [Try.params10] at hA hval
  obtain ⟨v0, d0, rfl, rfl, h0⟩ := trodAll_one hA
  obtain ⟨rfl, rfl⟩ := trodVars_none hV
  refine (signalsNone_calls (hval 0 80 v0 rfl rfl)).mono fun e W' ⟨he, hw⟩ => ?_
  subst he
  simp only [List.append_nil] at hW' ⊢
  exact ⟨_, rfl, post_true (bt := 4) Try.kids Try.full (by rw [Try.params10]; decide) (by kernel_rfl) (by kernel_rfl) rfl rfl hW' hA1 rfl rfl rfl hw⟩

theorem signalsNone_holds : Rows.SignalsNoneSaid :=
  OpenClaim.holds_of_wide 10 Try.f10 rfl rfl rfl rfl rfl rfl rfl ⟨rfl, rfl, rfl, rfl, rfl⟩ rfl rfl rfl rfl rfl (by kernel_rfl) Try.func10 (by kernel_rfl)
    (of_decide_eq_true (by kernel_rfl)) (by unfold Func.isWrapper; rw [if_neg (by decide +kernel)]; exact ⟨rfl, rfl⟩)
    (fun os started H enc _ => signalsNone_lifted os started H enc)
end Go.Proofs.Ytmmjeifdgfolmaa
