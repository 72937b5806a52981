/- ProcsPlays: whatever the deeds, the law gives true. No condition. -/
import Derived.Test.YtmmjeifdgfolmaaRows
import Derived.Test.YtmmjeifdgfolmaaG8
import Derived.Test.YtmmjeifdgfolmaaG5
import Derived.Test.YtmmjeifdgfolmaaG4
namespace Go.Proofs.Ytmmjeifdgfolmaa
open Go.ChangeShapes Go.WideShapes Go.ChangeAt Go.RowKit Go.AM
set_option maxRecDepth 100000 in
theorem procsPlays_calls {H : Type} {enc : TypeId × Value → H} {W : World} {base : Nat} {v0 v1 : Value} {d0 d1 : DataW H} {p0 p1 : List MemPlace} (h0 : Value.okWide Try.prog W .any base 4 v0) (t0 : DataW.Trod enc Try.prog W 0 (fun _ => true) true 4 v0 d0 p0)
    (h1 : Value.okWide Try.prog W .any base 67 v1) (t1 : DataW.Trod enc Try.prog W 0 (fun _ => true) true 67 v1 d1 p1) : Calls Try.prog 9 #[v0, v1] W fun e W' => e = .returned (.bool true) ∧ Still W W' := by
  obtain ⟨b, rfl, _⟩ := open_bool (by kernel_rfl) h0 t0
  have hcells : v1.cells.toList = [v1] := by
    obtain ⟨a, n, c, rfl⟩ := okWide_slice (e := 57) (by kernel_rfl) h1
    rfl
  obtain ⟨fuel, t1⟩ := t1
  rw [hcells] at t1
  obtain ⟨v, a, n, l, c, s, x, z1, zl, ⟨zm, zc⟩, rw, r1, r2, r3, r4⟩ := rows3_block 0 (k := .i64) (e := 57) (f0 := ⟨ "Kind", 3, 0, false, "", "", 0⟩) (f1 := ⟨ "Pid", 3, 1, false, "", "", 8⟩) (f2 := ⟨ "N", 3, 2, false, "", "", 16⟩) (by kernel_rfl) (by kernel_rfl) (by kernel_rfl) ⟨by kernel_rfl, by kernel_rfl, by kernel_rfl⟩ ⟨by kernel_rfl, by kernel_rfl, by kernel_rfl⟩ ⟨by kernel_rfl, by kernel_rfl, by kernel_rfl⟩ t1
  cases z1
  refine wfs_list (ng := 0) (args := [.bool b, .slice a n c]) (args' := [.bool b, _]) (l := [x]) (st := [s]) rfl ?_ ?_ (fun g hg => absurd hg (Nat.not_lt_zero _)) ?_ (.cons _ _ _ _ (.bool b) (.cons _ _ _ _ (r2 _ rfl) .nil))
  · intro i s b hs hb
    match i with
    | 0 => cases hs; cases hb; exact r3 _
    | i + 1 => simp at hs
  · intro i l b hs hb
    match i with
    | 0 => cases hb; exact r4 l (by simpa using hs)
    | i + 1 => simp at hs
  · refine pplays_walk (L := l) zl zc zm ?_ (fun y hy => ?_) (fun _ => rfl)
    · rcases r1 with r1 | ⟨rfl, rfl⟩
      · exact .inl r1
      · exact .inr ⟨0, rfl, by show 0 < 1; omega, rfl⟩
    · have := rw y hy
      unfold Lit.wf at this
      rw [Bool.and_eq_true, decide_eq_true_eq, decide_eq_true_eq] at this
      exact ⟨Int.le_trans (by decide) this.1, Int.lt_of_le_of_lt this.2 (by decide)⟩


set_option maxRecDepth 100000 in
theorem procsPlays_lifted (os : Os) (started : os.Started) (H : Type) (enc : TypeId × Value → H) :
    ReturnsInHanded {} Try.checked os 9 .any (Rows.procsPlaysSpec.pre6 enc Try.prog Try.f9 Rows.procsPlaysRow.domain false) (Rows.procsPlaysSpec.post enc Try.prog Try.f9 false true false false) := by
  refine returnsInHanded_of_change (C := Try.checked) Try.own started (by kernel_rfl) Try.func9
    (ChangeSpec.witness6 (enc := enc) (C := Try.checked) false ⟨#[], #[.bool false, .slice none 0 0], []⟩ 8 (by kernel_rfl) (by kernel_rfl) (by kernel_rfl) (by kernel_rfl)) ?_
  intro W base args ds gs before hval0 hW hcnd _
  have hval : ∀ (j : Nat) t v, Try.f9.params[j]? = some t → args[j]? = some v → Value.okWide Try.prog W .any base t v := hval0
  have hW' := hW
  obtain ⟨p, q, hA0, hV, rfl, hfz, hnd⟩ := hW
  have hA1 : DataW.TrodAll enc Try.prog W 0 (fun _ => true) true Try.f9.params.toList args.toList ds p := hA0
  have hA := hA1
  rw [Try.params9] at hA hval
  obtain ⟨v0, v1, d0, d1, p0, p1, rfl, rfl, rfl, h0, h1⟩ := trodAll_two hA
  obtain ⟨rfl, rfl⟩ := trodVars_none hV
  refine (procsPlays_calls (hval 0 4 v0 rfl rfl) h0 (hval 1 67 v1 rfl rfl) h1).mono fun e W' ⟨he, hw⟩ => ?_
  subst he
  simp only [List.append_nil] at hW' ⊢
  exact ⟨_, rfl, post_true (bt := 4) Try.kids Try.full (by rw [Try.params9]; decide) (by kernel_rfl) (by kernel_rfl) rfl rfl hW' hA1 rfl rfl rfl hw⟩

theorem procsPlays_holds : Rows.ProcsPlaysSaid :=
  OpenClaim.holds_of_wide 9 Try.f9 rfl rfl rfl rfl rfl rfl rfl ⟨rfl, rfl, rfl, rfl, rfl⟩ rfl rfl rfl rfl rfl (by kernel_rfl) Try.func9 (by kernel_rfl)
    (of_decide_eq_true (by kernel_rfl)) (by unfold Func.isWrapper; rw [if_neg (by decide +kernel)]; exact ⟨rfl, rfl⟩)
    (fun os started H enc _ => procsPlays_lifted os started H enc)
end Go.Proofs.Ytmmjeifdgfolmaa
