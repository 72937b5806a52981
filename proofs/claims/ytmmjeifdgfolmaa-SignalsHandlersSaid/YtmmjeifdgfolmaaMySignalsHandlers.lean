/- SignalsHandlers: whatever the machine, the signal and the handler, the law gives true. No condition. -/
import Derived.Test.YtmmjeifdgfolmaaRows
import Derived.Test.YtmmjeifdgfolmaaMySigHand
import Derived.Test.YtmmjeifdgfolmaaMySigAwake
namespace Go.Proofs.Ytmmjeifdgfolmaa
open Go.ChangeShapes Go.WideShapes Go.ChangeAt Go.RowKit Go.AM
set_option maxRecDepth 100000 in
theorem vm_fields : ∃ f0 f1 : Field, Try.prog.underlying 49 = some (.struct #[f0, f1]) ∧ f0.type = 3 ∧ f0.offset = 0 ∧ f1.type = 47 ∧ f1.offset = 1 ∧ Try.prog.cellsOf 49 = 2 ∧ Try.prog.cellsOf 3 = 1 ∧ Try.prog.cellsOf 47 = 1 := ⟨_, _, rfl, rfl, rfl, rfl, rfl, rfl, rfl, rfl⟩
set_option maxRecDepth 100000 in
theorem signalsHandlers_calls {H : Type} {enc : TypeId × Value → H} {W : World} {base : Nat} {v0 v1 v2 : Value} {d0 d1 d2 : DataW H} {p0 p1 p2 : List MemPlace} (h0 : Value.okWide Try.prog W .any base 49 v0) (t0 : DataW.Trod enc Try.prog W 0 (fun _ => true) true 49 v0 d0 p0)
    (h1 : Value.okWide Try.prog W .any base 3 v1) (t1 : DataW.Trod enc Try.prog W 0 (fun _ => true) true 3 v1 d1 p1) (h2 : Value.okWide Try.prog W .any base 44 v2) (t2 : DataW.Trod enc Try.prog W 0 (fun _ => true) true 44 v2 d2 p2) : Calls Try.prog 6 #[v0, v1, v2] W fun e W' => e = .returned (.bool true) ∧ Still W W' := by
  obtain ⟨sig, rfl, _⟩ := val_int (u := 3) (k := .i64) (by kernel_rfl) h1
  obtain ⟨hd, rfl, _⟩ := val_int (u := 44) (k := .u64) (by kernel_rfl) h2
  obtain ⟨cs, rfl, g1, _⟩ := row_cells (ts := [3, 47]) (by kernel_rfl) (by kernel_rfl) h0
  obtain ⟨fuel, t0⟩ := t0
  obtain ⟨f0, f1, hu, e1, e2, e3, e4, e5, e6, e7⟩ := vm_fields
  obtain ⟨y0, y1, n, _, hl, q0, q1⟩ := trod_struct2 hu t0
  rw [e1, e2, e6] at q0
  rw [e3, e4, e7] at q1
  obtain ⟨pc, z0, _, _⟩ := DataW.trod_int (k := .i64) (by kernel_rfl) q0
  obtain ⟨v, a, l, c, s, x, z1, _, _, r1, r2, r3, r4⟩ := ints_block 0 (e := 44) (k := .u64) (by kernel_rfl) (by kernel_rfl) (by kernel_rfl) q1
  have hcs : (Value.agg cs).cells.toList = [.int .i64 pc, v] := by
    have hl : (Value.agg cs).cells.toList.length = 2 := hl.trans e5
    generalize (Value.agg cs).cells.toList = L at *
    match L, hl with
    | [u1, u2], _ =>
      simp at z0 z1
      rw [z0, z1]
  have hcs' : cs = #[.int .i64 pc, v] := by
    have : cs.toList = [.int .i64 pc, v] := hcs
    rw [← Array.toArray_toList (xs := cs), this]
  subst hcs'
  refine wf_list (ng := 0) (sp := sp20) (args := [.agg #[.int .i64 pc, .slice a l.length c], .int .i64 sig, .int .u64 hd]) (args' := [_, _, _]) (l := [x]) (st := [s]) (by kernel_rfl) sp20_ok rfl ?_ ?_ (fun g hg => absurd hg (Nat.not_lt_zero _)) ?_ (.cons _ _ _ _ (.agg _ _ rfl (.cons _ _ _ _ (.int _ _) (.cons _ _ _ _ (r2 _ rfl) .nil))) (.cons _ _ _ _ (.int _ _) (.cons _ _ _ _ (.int _ _) .nil)))
  · intro i s b hs hb
    match i with
    | 0 => cases hs; cases hb; exact r3 _
    | i + 1 => simp at hs
  · intro i l b hs hb
    match i with
    | 0 => cases hb; exact r4 l (by simpa using hs)
    | i + 1 => simp at hs
  · refine handlers_walk rfl rfl rfl rfl rfl rfl rfl rfl rfl rfl rfl rfl rfl rfl rfl awake20 (v := .slice a l.length c) (l := l) ⟨a, c, rfl, ?_⟩ (fun _ => rfl)
    rcases r1 with r1 | ⟨rfl, rfl⟩
    · exact .inl r1
    · refine .inr ⟨0, 0, _, .ro, ⟨Nat.le_refl _, by show 0 < 1; omega⟩, rfl, rfl, by simp, fun i hi => ?_⟩
      rw [List.getElem?_map, Nat.zero_add]


set_option maxRecDepth 100000 in
theorem signalsHandlers_lifted (os : Os) (started : os.Started) (H : Type) (enc : TypeId × Value → H) :
    ReturnsInHanded {} Try.checked os 6 .any (Rows.signalsHandlersSpec.pre6 enc Try.prog Try.f6 Rows.signalsHandlersRow.domain false) (Rows.signalsHandlersSpec.post enc Try.prog Try.f6 false true false false) := by
  refine returnsInHanded_of_change (C := Try.checked) Try.own started (by kernel_rfl) Try.func6
    (ChangeSpec.witness6 (enc := enc) (C := Try.checked) false ⟨#[], #[.agg #[.int .i64 0, .slice none 0 0], .int .i64 0, .int .u64 0], []⟩ 8 (by kernel_rfl) (by kernel_rfl) (by kernel_rfl) (by kernel_rfl)) ?_
  intro W base args ds gs before hval0 hW hcnd _
  have hval : ∀ (j : Nat) t v, Try.f6.params[j]? = some t → args[j]? = some v → Value.okWide Try.prog W .any base t v := hval0
  have hW' := hW
  obtain ⟨p, q, hA0, hV, rfl, hfz, hnd⟩ := hW
  have hA1 : DataW.TrodAll enc Try.prog W 0 (fun _ => true) true Try.f6.params.toList args.toList ds p := hA0
  have hA := hA1
  rw [Try.params6] at hA hval
  obtain ⟨v0, v1, v2, d0, d1, d2, p0, p1, p2, rfl, rfl, rfl, h0, h1, h2⟩ := trodAll_three hA
  obtain ⟨rfl, rfl⟩ := trodVars_none hV
  refine (signalsHandlers_calls (hval 0 49 v0 rfl rfl) h0 (hval 1 3 v1 rfl rfl) h1 (hval 2 44 v2 rfl rfl) h2).mono fun e W' ⟨he, hw⟩ => ?_
  subst he
  simp only [List.append_nil] at hW' ⊢
  exact ⟨_, rfl, post_true (bt := 4) Try.kids Try.full (by rw [Try.params6]; decide) (by kernel_rfl) (by kernel_rfl) rfl rfl hW' hA1 rfl rfl rfl hw⟩

theorem signalsHandlers_holds : Rows.SignalsHandlersSaid :=
  OpenClaim.holds_of_wide 6 Try.f6 rfl rfl rfl rfl rfl rfl rfl ⟨rfl, rfl, rfl, rfl, rfl⟩ rfl rfl rfl rfl rfl (by kernel_rfl) Try.func6 (by kernel_rfl)
    (of_decide_eq_true (by kernel_rfl)) (by unfold Func.isWrapper; rw [if_neg (by decide +kernel)]; exact ⟨rfl, rfl⟩)
    (fun os started H enc _ => signalsHandlers_lifted os started H enc)
end Go.Proofs.Ytmmjeifdgfolmaa
