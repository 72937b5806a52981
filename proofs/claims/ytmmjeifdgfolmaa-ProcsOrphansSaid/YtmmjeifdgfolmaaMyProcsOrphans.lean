/- ProcsOrphans: whatever the status, and whether the child ends first, the law gives true. No condition. -/
import Derived.Test.YtmmjeifdgfolmaaRows
import Derived.Test.YtmmjeifdgfolmaaMyTry
namespace Go.Proofs.Ytmmjeifdgfolmaa
open Go.ChangeShapes Go.WideShapes Go.ChangeAt Go.RowKit Go.AM
set_option maxRecDepth 100000 in
theorem procsOrphans_run1 : isTrue (clA 3 [.chan (some 0), .bool true] (deads 1)) = true := by kernel_rfl
set_option maxRecDepth 100000 in
theorem procsOrphans_run0 : isTrue (clA 3 [.chan (some 0), .bool false] (deads 1)) = true := by kernel_rfl

set_option maxRecDepth 100000 in
theorem procsOrphans_calls {W : World} {base : Nat} {v0 v1 : Value} (h0 : Value.okWide Try.prog W .any base 3 v0) (h1 : Value.okWide Try.prog W .any base 4 v1) : Calls Try.prog 3 #[v0, v1] W fun e W' => e = .returned (.bool true) ∧ Still W W' := by
  obtain ⟨a, rfl, _⟩ := val_int (u := 3) (k := .i64) (by kernel_rfl) h0
  obtain ⟨b, rfl⟩ := val_bool (u := 4) (by kernel_rfl) h1
  cases b with
  | true => exact true_toks (args' := [_, _]) (l := [.sym .i64 a]) clA_ok rfl procsOrphans_run1 (.cons _ _ _ _ (.sym 0 _ _ rfl) (.cons _ _ _ _ (.bool _) .nil)) W
  | false => exact true_toks (args' := [_, _]) (l := [.sym .i64 a]) clA_ok rfl procsOrphans_run0 (.cons _ _ _ _ (.sym 0 _ _ rfl) (.cons _ _ _ _ (.bool _) .nil)) W


set_option maxRecDepth 100000 in
theorem procsOrphans_lifted (os : Os) (started : os.Started) (H : Type) (enc : TypeId × Value → H) :
    ReturnsInHanded {} Try.checked os 3 .any (Rows.procsOrphansSpec.pre6 enc Try.prog Try.f3 Rows.procsOrphansRow.domain false) (Rows.procsOrphansSpec.post enc Try.prog Try.f3 false true false false) := by
  refine returnsInHanded_of_change (C := Try.checked) Try.own started (by kernel_rfl) Try.func3
    (ChangeSpec.witness6 (enc := enc) (C := Try.checked) false ⟨#[], #[.int .i64 0, .bool true], []⟩ 8 (by kernel_rfl) (by kernel_rfl) (by kernel_rfl) (by kernel_rfl)) ?_
  intro W base args ds gs before hval0 hW hcnd _
  have hval : ∀ (j : Nat) t v, Try.f3.params[j]? = some t → args[j]? = some v → Value.okWide Try.prog W .any base t v := hval0
  have hW' := hW
  obtain ⟨p, q, hA0, hV, rfl, hfz, hnd⟩ := hW
  have hA1 : DataW.TrodAll enc Try.prog W 0 (fun _ => true) true Try.f3.params.toList args.toList ds p := hA0
  have hA := hA1
  rw [Try.params3] at hA hval
  obtain ⟨v0, v1, d0, d1, p0, p1, rfl, rfl, rfl, h0, h1⟩ := trodAll_two hA
  obtain ⟨rfl, rfl⟩ := trodVars_none hV
  refine (procsOrphans_calls (hval 0 3 v0 rfl rfl) (hval 1 4 v1 rfl rfl)).mono fun e W' ⟨he, hw⟩ => ?_
  subst he
  simp only [List.append_nil] at hW' ⊢
  exact ⟨_, rfl, post_true (bt := 4) Try.kids Try.full (by rw [Try.params3]; decide) (by kernel_rfl) (by kernel_rfl) rfl rfl hW' hA1 rfl rfl rfl hw⟩

theorem procsOrphans_holds : Rows.ProcsOrphansSaid :=
  OpenClaim.holds_of_wide 3 Try.f3 rfl rfl rfl rfl rfl rfl rfl ⟨rfl, rfl, rfl, rfl, rfl⟩ rfl rfl rfl rfl rfl (by kernel_rfl) Try.func3 (by kernel_rfl)
    (of_decide_eq_true (by kernel_rfl)) (by unfold Func.isWrapper; rw [if_neg (by decide +kernel)]; exact ⟨rfl, rfl⟩)
    (fun os started H enc _ => procsOrphans_lifted os started H enc)
end Go.Proofs.Ytmmjeifdgfolmaa
