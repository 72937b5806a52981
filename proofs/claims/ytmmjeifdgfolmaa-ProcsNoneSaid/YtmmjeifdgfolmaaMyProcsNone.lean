/- ProcsNone: whatever the deed, the law gives true, and leaves its argument as it was. No condition. -/
import Derived.Test.YtmmjeifdgfolmaaRows
import Derived.Test.YtmmjeifdgfolmaaMyTry
namespace Go.Proofs.Ytmmjeifdgfolmaa
open Go.ChangeShapes Go.WideShapes Go.ChangeAt Go.RowKit Go.AM
set_option maxRecDepth 100000 in
theorem procsNone_run : isTrue (clA 7 [.agg #[.chan (some 0), .chan (some 1), .chan (some 2)]] (deads 3)) = true := by kernel_rfl

set_option maxRecDepth 100000 in
theorem deed3_shape {W : World} {base : Nat} {v : Value} (h : Value.okWide Try.prog W .any base 57 v) : ∃ a b c, v = .agg #[.int .i64 a, .int .i64 b, .int .i64 c] := by
  obtain ⟨cs, rfl, h1, h2⟩ := row_cells (ts := [3, 3, 3]) (by kernel_rfl) (by kernel_rfl) h
  have h1 : cs.size = 3 := by rw [h1]; kernel_rfl
  obtain ⟨l, rfl⟩ : ∃ l : List Value, cs = l.toArray := ⟨cs.toList, by simp⟩
  match l, h1 with
  | [x0, x1, x2], _ =>
    have g : ∀ i x u, [x0, x1, x2].toArray[i]? = some x → [3, 3, 3][i % 3]? = some u → Cell.okWide Try.prog W .any base u x := by
      intro i x u hx hu
      obtain ⟨u', h3, h4⟩ := h2 i x hx
      have : u' = u := by simpa using h3.symm.trans hu
      subst this
      exact h4
    obtain ⟨a, rfl, _⟩ := cell_int (u := 3) (k := .i64) (by kernel_rfl) (g 0 x0 3 rfl rfl)
    obtain ⟨b, rfl, _⟩ := cell_int (u := 3) (k := .i64) (by kernel_rfl) (g 1 x1 3 rfl rfl)
    obtain ⟨c, rfl, _⟩ := cell_int (u := 3) (k := .i64) (by kernel_rfl) (g 2 x2 3 rfl rfl)
    exact ⟨a, b, c, rfl⟩

set_option maxRecDepth 100000 in
theorem procsNone_calls {W : World} {base : Nat} {v : Value} (h : Value.okWide Try.prog W .any base 57 v) : Calls Try.prog 7 #[v] W fun e W' => e = .returned (.bool true) ∧ Still W W' := by
  obtain ⟨a, b, c, rfl⟩ := deed3_shape h
  refine true_toks (args' := [_]) (l := [.sym .i64 a, .sym .i64 b, .sym .i64 c]) clA_ok rfl procsNone_run (.cons _ _ _ _ (.agg _ _ rfl ?_) .nil) W
  exact .cons _ _ _ _ (.sym 0 _ _ rfl) (.cons _ _ _ _ (.sym 1 _ _ rfl) (.cons _ _ _ _ (.sym 2 _ _ rfl) .nil))


set_option maxRecDepth 100000 in
theorem procsNone_lifted (os : Os) (started : os.Started) (H : Type) (enc : TypeId × Value → H) :
    ReturnsInHanded {} Try.checked os 7 .any (Rows.procsNoneSpec.pre6 enc Try.prog Try.f7 Rows.procsNoneRow.domain false) (Rows.procsNoneSpec.post enc Try.prog Try.f7 false true false false) := by
  refine returnsInHanded_of_change (C := Try.checked) Try.own started (by kernel_rfl) Try.func7
    (ChangeSpec.witness6 (enc := enc) (C := Try.checked) false ⟨#[], #[.agg #[.int .i64 0, .int .i64 0, .int .i64 0]], []⟩ 8 (by kernel_rfl) (by kernel_rfl) (by kernel_rfl) (by kernel_rfl)) ?_
  intro W base args ds gs before hval0 hW hcnd _
  have hval : ∀ (j : Nat) t v, Try.f7.params[j]? = some t → args[j]? = some v → Value.okWide Try.prog W .any base t v := hval0
  have hW' := hW
  obtain ⟨p, q, hA0, hV, rfl, hfz, hnd⟩ := hW
  have hA1 : DataW.TrodAll enc Try.prog W 0 (fun _ => true) true Try.f7.params.toList args.toList ds p := hA0
  have hA := hA1
  rw [Try.params7] at hA hval
  obtain ⟨v0, d0, rfl, rfl, h0⟩ := trodAll_one hA
  obtain ⟨rfl, rfl⟩ := trodVars_none hV
  refine (procsNone_calls (hval 0 57 v0 rfl rfl)).mono fun e W' ⟨he, hw⟩ => ?_
  subst he
  simp only [List.append_nil] at hW' ⊢
  exact ⟨_, rfl, post_true (bt := 4) Try.kids Try.full (by rw [Try.params7]; decide) (by kernel_rfl) (by kernel_rfl) rfl rfl hW' hA1 rfl rfl rfl hw⟩

theorem procsNone_holds : Rows.ProcsNoneSaid :=
  OpenClaim.holds_of_wide 7 Try.f7 rfl rfl rfl rfl rfl rfl rfl ⟨rfl, rfl, rfl, rfl, rfl⟩ rfl rfl rfl rfl rfl (by kernel_rfl) Try.func7 (by kernel_rfl)
    (of_decide_eq_true (by kernel_rfl)) (by unfold Func.isWrapper; rw [if_neg (by decide +kernel)]; exact ⟨rfl, rfl⟩)
    (fun os started H enc _ => procsNone_lifted os started H enc)
end Go.Proofs.Ytmmjeifdgfolmaa
