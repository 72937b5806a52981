/- ProcsReads: whatever the words, the law gives true. No condition. -/
import Derived.Test.YtmmjeifdgfolmaaRows
import Derived.Test.YtmmjeifdgfolmaaG3
import Derived.Test.YtmmjeifdgfolmaaG6
namespace Go.Proofs.Ytmmjeifdgfolmaa
open Go.ChangeShapes Go.WideShapes Go.ChangeAt Go.RowKit Go.AM
set_option maxRecDepth 100000 in
theorem procsReads_calls {H : Type} {enc : TypeId × Value → H} {W : World} {base : Nat} {v0 : Value} {d0 : DataW H} {p0 : List MemPlace} (h0 : Value.okWide Try.prog W .any base 47 v0) (t0 : DataW.Trod enc Try.prog W 0 (fun _ => true) true 47 v0 d0 p0) :
    Calls Try.prog 8 #[v0] W fun e W' => e = .returned (.bool true) ∧ Still W W' := by
  have hcells : v0.cells.toList = [v0] := by
    rcases open_ints (t := 47) (e := 44) (k := .u64) (by kernel_rfl) (by kernel_rfl) (by kernel_rfl) h0 t0 with rfl | ⟨a, len, cap, rfl, _⟩ <;> rfl
  obtain ⟨fuel, t0⟩ := t0
  rw [hcells] at t0
  obtain ⟨v, a, l, c, s, x, z1, ⟨r0, rc⟩, rw, r1, r2, r3, r4⟩ := ints_blockC 0 (e := 44) (k := .u64) (by kernel_rfl) (by kernel_rfl) (by kernel_rfl) t0
  cases z1
  refine wfs_list (ng := 0) (args := [.slice a l.length c]) (args' := [_]) (l := [x]) (st := [s]) rfl ?_ ?_ (fun g hg => absurd hg (Nat.not_lt_zero _)) ?_ (.cons _ _ _ _ (r2 _ rfl) .nil)
  · intro i s b hs hb
    match i with
    | 0 => cases hs; cases hb; exact r3 _
    | i + 1 => simp at hs
  · intro i l b hs hb
    match i with
    | 0 => cases hb; exact r4 l (by simpa using hs)
    | i + 1 => simp at hs
  · refine preads_walk (v := .slice a l.length c) (w := l) ⟨a, c, rfl, rc, ?_⟩ (fun y hy => ?_) (fun _ => rfl)
    · rcases r1 with r1 | ⟨rfl, rfl⟩
      · exact .inl r1
      · refine .inr ⟨0, 0, _, by show 0 < 1; omega, rfl, rfl, by simp, fun i hi => ?_⟩
        rw [Nat.zero_add, List.getElem?_map]
    · have := rw y hy
      unfold Lit.wf at this
      rw [Bool.and_eq_true, decide_eq_true_eq, decide_eq_true_eq] at this
      exact ⟨this.1, Int.lt_of_le_of_lt this.2 (by decide)⟩


set_option maxRecDepth 100000 in
theorem procsReads_lifted (os : Os) (started : os.Started) (H : Type) (enc : TypeId × Value → H) :
    ReturnsInHanded {} Try.checked os 8 .any (Rows.procsReadsSpec.pre6 enc Try.prog Try.f8 Rows.procsReadsRow.domain false) (Rows.procsReadsSpec.post enc Try.prog Try.f8 false true false false) := by
  refine returnsInHanded_of_change (C := Try.checked) Try.own started (by kernel_rfl) Try.func8
    (ChangeSpec.witness6 (enc := enc) (C := Try.checked) false ⟨#[], #[.slice none 0 0], []⟩ 8 (by kernel_rfl) (by kernel_rfl) (by kernel_rfl) (by kernel_rfl)) ?_
  intro W base args ds gs before hval0 hW hcnd _
  have hval : ∀ (j : Nat) t v, Try.f8.params[j]? = some t → args[j]? = some v → Value.okWide Try.prog W .any base t v := hval0
  have hW' := hW
  obtain ⟨p, q, hA0, hV, rfl, hfz, hnd⟩ := hW
  have hA1 : DataW.TrodAll enc Try.prog W 0 (fun _ => true) true Try.f8.params.toList args.toList ds p := hA0
  have hA := hA1
  rw [Try.params8] at hA hval
  obtain ⟨v0, d0, rfl, rfl, h0⟩ := trodAll_one hA
  obtain ⟨rfl, rfl⟩ := trodVars_none hV
  refine (procsReads_calls (hval 0 47 v0 rfl rfl) h0).mono fun e W' ⟨he, hw⟩ => ?_
  subst he
  simp only [List.append_nil] at hW' ⊢
  exact ⟨_, rfl, post_true (bt := 4) Try.kids Try.full (by rw [Try.params8]; decide) (by kernel_rfl) (by kernel_rfl) rfl rfl hW' hA1 rfl rfl rfl hw⟩

theorem procsReads_holds : Rows.ProcsReadsSaid :=
  OpenClaim.holds_of_wide 8 Try.f8 rfl rfl rfl rfl rfl rfl rfl ⟨rfl, rfl, rfl, rfl, rfl⟩ rfl rfl rfl rfl rfl (by kernel_rfl) Try.func8 (by kernel_rfl)
    (of_decide_eq_true (by kernel_rfl)) (by unfold Func.isWrapper; rw [if_neg (by decide +kernel)]; exact ⟨rfl, rfl⟩)
    (fun os started H enc _ => procsReads_lifted os started H enc)
end Go.Proofs.Ytmmjeifdgfolmaa
