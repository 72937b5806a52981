/- SignalsOnce: whatever is sent and ignored, the law gives true. No condition. -/
import Derived.Test.YtmmjeifdgfolmaaRows
import Derived.Test.YtmmjeifdgfolmaaMySigOnce
import Derived.Test.YtmmjeifdgfolmaaMySigAwake
namespace Go.Proofs.Ytmmjeifdgfolmaa
open Go.ChangeShapes Go.WideShapes Go.ChangeAt Go.RowKit Go.AM
set_option maxRecDepth 100000 in
theorem signalsOnce_calls {H : Type} {enc : TypeId × Value → H} {W : World} {base : Nat} {v0 v1 : Value} {d0 d1 : DataW H} {p0 p1 : List MemPlace} (h0 : Value.okWide Try.prog W .any base 34 v0) (t0 : DataW.Trod enc Try.prog W 0 (fun _ => true) true 34 v0 d0 p0)
    (h1 : Value.okWide Try.prog W .any base 34 v1) (t1 : DataW.Trod enc Try.prog W 0 (fun _ => true) true 34 v1 d1 p1) : Calls Try.prog 5 #[v0, v1] W fun e W' => e = .returned (.bool true) ∧ Still W W' := by
  obtain ⟨a0, l0, c0, s0, x0, q1, q2, q3, q4⟩ := ints_arg 0 (t := 34) (e := 3) (k := .i64) (by kernel_rfl) (by kernel_rfl) (by kernel_rfl) h0 t0
  obtain ⟨a1, l1, c1, s1, x1, r1, r2, r3, r4⟩ := ints_arg 1 (t := 34) (e := 3) (k := .i64) (by kernel_rfl) (by kernel_rfl) (by kernel_rfl) h1 t1
  refine wf_list (ng := 0) (sp := sp20) (args := [.slice a0 l0.length c0, .slice a1 l1.length c1]) (args' := [v0, v1]) (l := [x0, x1]) (st := [s0, s1]) (by kernel_rfl) sp20_ok rfl ?_ ?_ (fun g hg => absurd hg (Nat.not_lt_zero _)) ?_ (.cons _ _ _ _ (q2 _ rfl) (.cons _ _ _ _ (r2 _ rfl) .nil))
  · intro i s b hs hb
    match i with
    | 0 => cases hs; cases hb; exact q3 _
    | 1 => cases hs; cases hb; exact r3 _
    | i + 2 => simp at hs
  · intro i l b hs hb
    match i with
    | 0 => cases hb; exact q4 l (by simpa using hs)
    | 1 => cases hb; exact r4 l (by simpa using hs)
    | i + 2 => simp at hs
  · refine once_walk rfl rfl rfl rfl rfl rfl rfl rfl rfl rfl awake20 (l0 := l0) (l1 := l1) ⟨a0, c0, rfl, ?_⟩ ⟨a1, c1, rfl, ?_⟩ (fun _ => rfl)
    · rcases q1 with q1 | ⟨rfl, rfl⟩
      · exact .inl q1
      · exact .inr ⟨0, by show 0 < 2; omega, rfl, rfl⟩
    · rcases r1 with r1 | ⟨rfl, rfl⟩
      · exact .inl r1
      · exact .inr ⟨1, by show 1 < 2; omega, rfl, rfl⟩


set_option maxRecDepth 100000 in
theorem signalsOnce_lifted (os : Os) (started : os.Started) (H : Type) (enc : TypeId × Value → H) :
    ReturnsInHanded {} Try.checked os 5 .any (Rows.signalsOnceSpec.pre6 enc Try.prog Try.f5 Rows.signalsOnceRow.domain false) (Rows.signalsOnceSpec.post enc Try.prog Try.f5 false true false false) := by
  refine returnsInHanded_of_change (C := Try.checked) Try.own started (by kernel_rfl) Try.func5
    (ChangeSpec.witness6 (enc := enc) (C := Try.checked) false ⟨#[], #[.slice none 0 0, .slice none 0 0], []⟩ 8 (by kernel_rfl) (by kernel_rfl) (by kernel_rfl) (by kernel_rfl)) ?_
  intro W base args ds gs before hval0 hW hcnd _
  have hval : ∀ (j : Nat) t v, Try.f5.params[j]? = some t → args[j]? = some v → Value.okWide Try.prog W .any base t v := hval0
  have hW' := hW
  obtain ⟨p, q, hA0, hV, rfl, hfz, hnd⟩ := hW
  have hA1 : DataW.TrodAll enc Try.prog W 0 (fun _ => true) true Try.f5.params.toList args.toList ds p := hA0
  have hA := hA1
  rw [Try.params5] at hA hval
  obtain ⟨v0, v1, d0, d1, p0, p1, rfl, rfl, rfl, h0, h1⟩ := trodAll_two hA
  obtain ⟨rfl, rfl⟩ := trodVars_none hV
  refine (signalsOnce_calls (hval 0 34 v0 rfl rfl) h0 (hval 1 34 v1 rfl rfl) h1).mono fun e W' ⟨he, hw⟩ => ?_
  subst he
  simp only [List.append_nil] at hW' ⊢
  exact ⟨_, rfl, post_true (bt := 4) Try.kids Try.full (by rw [Try.params5]; decide) (by kernel_rfl) (by kernel_rfl) rfl rfl hW' hA1 rfl rfl rfl hw⟩

theorem signalsOnce_holds : Rows.SignalsOnceSaid :=
  OpenClaim.holds_of_wide 5 Try.f5 rfl rfl rfl rfl rfl rfl rfl ⟨rfl, rfl, rfl, rfl, rfl⟩ rfl rfl rfl rfl rfl (by kernel_rfl) Try.func5 (by kernel_rfl)
    (of_decide_eq_true (by kernel_rfl)) (by unfold Func.isWrapper; rw [if_neg (by decide +kernel)]; exact ⟨rfl, rfl⟩)
    (fun os started H enc _ => signalsOnce_lifted os started H enc)
end Go.Proofs.Ytmmjeifdgfolmaa
