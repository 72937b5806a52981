/- ProcsOnce: whatever the statuses, the law gives true. No condition. (Only the first 7 statuses are read: ten runs.) -/
import Derived.Test.YtmmjeifdgfolmaaRows
import Derived.Test.YtmmjeifdgfolmaaMyTry
namespace Go.Proofs.Ytmmjeifdgfolmaa
open Go.ChangeShapes Go.WideShapes Go.ChangeAt Go.RowKit Go.AM
set_option maxRecDepth 100000 in
theorem procsOnce_run : isTrue (clA 4 [.slice none 0 0] (deads 0)) = true := by kernel_rfl
set_option maxRecDepth 100000 in
theorem procsOnce_run0 (cap : Nat) : isTrue (clA 4 [.slice (some ⟨0, 0, none⟩) 0 cap] (deads 1)) = true := by kernel_rfl
set_option maxRecDepth 100000 in
theorem procsOnce_run1 (cap : Nat) : isTrue (clA 4 [.slice (some ⟨0, 0, none⟩) 1 cap] (tokHeap 1)) = true := by kernel_rfl
set_option maxRecDepth 100000 in
theorem procsOnce_run2 (cap : Nat) : isTrue (clA 4 [.slice (some ⟨0, 0, none⟩) 2 cap] (tokHeap 2)) = true := by kernel_rfl
set_option maxRecDepth 100000 in
theorem procsOnce_run3 (cap : Nat) : isTrue (clA 4 [.slice (some ⟨0, 0, none⟩) 3 cap] (tokHeap 3)) = true := by kernel_rfl
set_option maxRecDepth 100000 in
theorem procsOnce_run4 (cap : Nat) : isTrue (clA 4 [.slice (some ⟨0, 0, none⟩) 4 cap] (tokHeap 4)) = true := by kernel_rfl
set_option maxRecDepth 100000 in
theorem procsOnce_run5 (cap : Nat) : isTrue (clA 4 [.slice (some ⟨0, 0, none⟩) 5 cap] (tokHeap 5)) = true := by kernel_rfl
set_option maxRecDepth 100000 in
theorem procsOnce_run6 (cap : Nat) : isTrue (clA 4 [.slice (some ⟨0, 0, none⟩) 6 cap] (tokHeap 6)) = true := by kernel_rfl
set_option maxRecDepth 100000 in
theorem procsOnce_run7 (cap : Nat) : isTrue (clA 4 [.slice (some ⟨0, 0, none⟩) 7 cap] (tokHeap 7)) = true := by kernel_rfl
set_option maxRecDepth 100000 in
theorem procsOnce_run8 (k cap : Nat) : isTrue (clA 4 [.slice (some ⟨0, 0, none⟩) (k + 8) cap] (tokHeap 7)) = true := by kernel_rfl

set_option maxRecDepth 100000 in
theorem procsOnce_calls {H : Type} {enc : TypeId × Value → H} {W : World} {base : Nat} {v : Value} {d : DataW H} {ps : List MemPlace} (h : Value.okWide Try.prog W .any base 34 v) (hd : DataW.Trod enc Try.prog W 0 (fun _ => true) true 34 v d ps) :
    Calls Try.prog 4 #[v] W fun e W' => e = .returned (.bool true) ∧ Still W W' := by
  rcases open_ints (e := 3) (k := .i64) (by kernel_rfl) (by kernel_rfl) (by kernel_rfl) h hd with rfl | ⟨a, len, cap, rfl, f, hf⟩
  · exact true_toks (args' := [_]) (l := []) clA_ok rfl procsOnce_run (.cons _ _ _ _ (.sliceNil 0 0) .nil) W
  · match len, hf with
    | 0, _ => exact true_toks (args' := [_]) (l := [.dead]) clA_ok rfl (procsOnce_run0 cap) (.cons _ _ _ _ (.sliceDead _ _ _ _ _ rfl) .nil) W
    | 1, hf =>
      obtain ⟨b, off, cs, el, fr, rfl, h1, h2, h3⟩ := hf (by omega)
      exact true_ints clA_ok h1 (Nat.le_refl _) h2 h3 (procsOnce_run1 cap)
    | 2, hf =>
      obtain ⟨b, off, cs, el, fr, rfl, h1, h2, h3⟩ := hf (by omega)
      exact true_ints clA_ok h1 (Nat.le_refl _) h2 h3 (procsOnce_run2 cap)
    | 3, hf =>
      obtain ⟨b, off, cs, el, fr, rfl, h1, h2, h3⟩ := hf (by omega)
      exact true_ints clA_ok h1 (Nat.le_refl _) h2 h3 (procsOnce_run3 cap)
    | 4, hf =>
      obtain ⟨b, off, cs, el, fr, rfl, h1, h2, h3⟩ := hf (by omega)
      exact true_ints clA_ok h1 (Nat.le_refl _) h2 h3 (procsOnce_run4 cap)
    | 5, hf =>
      obtain ⟨b, off, cs, el, fr, rfl, h1, h2, h3⟩ := hf (by omega)
      exact true_ints clA_ok h1 (Nat.le_refl _) h2 h3 (procsOnce_run5 cap)
    | 6, hf =>
      obtain ⟨b, off, cs, el, fr, rfl, h1, h2, h3⟩ := hf (by omega)
      exact true_ints clA_ok h1 (Nat.le_refl _) h2 h3 (procsOnce_run6 cap)
    | 7, hf =>
      obtain ⟨b, off, cs, el, fr, rfl, h1, h2, h3⟩ := hf (by omega)
      exact true_ints clA_ok h1 (Nat.le_refl _) h2 h3 (procsOnce_run7 cap)
    | k + 8, hf =>
      obtain ⟨b, off, cs, el, fr, rfl, h1, h2, h3⟩ := hf (by omega)
      exact true_ints clA_ok h1 (by omega) h2 h3 (procsOnce_run8 k cap)


set_option maxRecDepth 100000 in
theorem procsOnce_lifted (os : Os) (started : os.Started) (H : Type) (enc : TypeId × Value → H) :
    ReturnsInHanded {} Try.checked os 4 .any (Rows.procsOnceSpec.pre6 enc Try.prog Try.f4 Rows.procsOnceRow.domain false) (Rows.procsOnceSpec.post enc Try.prog Try.f4 false true false false) := by
  refine returnsInHanded_of_change (C := Try.checked) Try.own started (by kernel_rfl) Try.func4
    (ChangeSpec.witness6 (enc := enc) (C := Try.checked) false ⟨#[], #[.slice none 0 0], []⟩ 8 (by kernel_rfl) (by kernel_rfl) (by kernel_rfl) (by kernel_rfl)) ?_
  intro W base args ds gs before hval0 hW hcnd _
  have hval : ∀ (j : Nat) t v, Try.f4.params[j]? = some t → args[j]? = some v → Value.okWide Try.prog W .any base t v := hval0
  have hW' := hW
  obtain ⟨p, q, hA0, hV, rfl, hfz, hnd⟩ := hW
  have hA1 : DataW.TrodAll enc Try.prog W 0 (fun _ => true) true Try.f4.params.toList args.toList ds p := hA0
  have hA := hA1
  rw [Try.params4] at hA hval
  obtain ⟨v0, d0, rfl, rfl, h0⟩ := trodAll_one hA
  obtain ⟨rfl, rfl⟩ := trodVars_none hV
  refine (procsOnce_calls (hval 0 34 v0 rfl rfl) h0).mono fun e W' ⟨he, hw⟩ => ?_
  subst he
  simp only [List.append_nil] at hW' ⊢
  exact ⟨_, rfl, post_true (bt := 4) Try.kids Try.full (by rw [Try.params4]; decide) (by kernel_rfl) (by kernel_rfl) rfl rfl hW' hA1 rfl rfl rfl hw⟩

theorem procsOnce_holds : Rows.ProcsOnceSaid :=
  OpenClaim.holds_of_wide 4 Try.f4 rfl rfl rfl rfl rfl rfl rfl ⟨rfl, rfl, rfl, rfl, rfl⟩ rfl rfl rfl rfl rfl (by kernel_rfl) Try.func4 (by kernel_rfl)
    (of_decide_eq_true (by kernel_rfl)) (by unfold Func.isWrapper; rw [if_neg (by decide +kernel)]; exact ⟨rfl, rfl⟩)
    (fun os started H enc _ => procsOnce_lifted os started H enc)
end Go.Proofs.Ytmmjeifdgfolmaa
