/- Regions whose order is open: one operation in any order. -/
import Derived.Test.YtkkdpbicppdglaaGreatDoorAmDraw2
namespace Go.AM
open Classical

variable {P : Program} {ng nt : Nat} {cl : Caller}

/-- all that is known of a region's run in the text's order. -/
structure DrawCtx (P : Program) (ng nt : Nat) (cl : Caller) (ops : Array Oper) where
  es : Nat → Env
  hs : Nat → Heap
  ds : Nat → Did
  N : Nat
  F : Nat → Option Blk
  hcl : CallOk P ng cl
  ok : ∀ (k : Nat) (o : Oper), ops[k]? = some o → opersOk ng nt o = true
  step : ∀ (k : Nat) (o : Oper), ops[k]? = some o → OneStep P cl ops.toList o (ds k) (es k) (hs k) (es (k + 1)) (hs (k + 1))
  gok : ∀ (k : Nat) (o : Oper), ops[k]? = some o → guardOk ops.toList (es k) o = true
  wf0 : HWf (hs 0)
  top : (hs ops.size).nx ≤ N
  apart : ∀ (i j : Nat) (x y : Oper), i < j → ops[i]? = some x → ops[j]? = some y → ((befs ops.toList []).getD j 0).testBit i = false → Oper.apart ops x y = true
  swap : ∀ (i j : Nat) (x y : Oper), i < j → ops[i]? = some x → ops[j]? = some y → ((befs ops.toList []).getD j 0).testBit i = false → swapOk (ds i) (ds j) = true
  back : ∀ (j : Nat) (o : Oper), ops[j]? = some o → ∀ e ∈ o.after, Region.binds .any e = true → e.on < j

namespace DrawCtx
variable {ops : Array Oper} (X : DrawCtx P ng nt cl ops)

theorem get {k : Nat} (hk : k < ops.size) : ops[k]? = some ops[k] := by simp [hk]

theorem wf : ∀ k, k ≤ ops.size → HWf (X.hs k)
  | 0, _ => X.wf0
  | k + 1, h => (step_wf X.hcl (X.step k _ (get (by omega))) (wf k (by omega))).1
theorem mono {i : Nat} : ∀ (k : Nat), i ≤ k → k ≤ ops.size → (X.hs i).nx ≤ (X.hs k).nx := by
  intro k
  induction k with
  | zero => intro h _; rw [show i = 0 by omega]; exact Nat.le_refl _
  | succ k ih =>
    intro h1 h2
    by_cases e : i = k + 1
    · rw [e]; exact Nat.le_refl _
    · exact Nat.le_trans (ih (by omega) (by omega)) (step_wf X.hcl (X.step k _ (get (by omega))) (X.wf k (by omega))).2

def TS (ops : Array Oper) (k t : Nat) : Prop := ∃ o, ops[k]? = some o ∧ o.dst = some t
noncomputable def ED (D : Nat → Bool) (t : Tmp) : Value := ov (TS ops) (fun k t => (X.es (k + 1)).at t) (X.es 0).at D t ops.size
noncomputable def GD (D : Nat → Bool) (b : Nat) : Option Blk := ov (fun k b => touched (X.ds k) b) (fun k b => (X.hs (k + 1)).get b) (mix (X.hs 0) X.N X.F) D b ops.size

theorem stepE {k : Nat} {o : Oper} (ho : ops[k]? = some o) : ∃ v, X.es (k + 1) = (X.es k).put o.dst v := by
  have := X.step k o ho
  generalize X.ds k = d, X.es (k + 1) = e', X.hs (k + 1) = h' at this
  cases this <;> exact ⟨_, rfl⟩
theorem stE (t : Tmp) (k : Nat) (hk : k < ops.size) : (X.es (k + 1)).at t = if TS ops k t then (X.es (k + 1)).at t else (X.es k).at t := by
  by_cases ht : TS ops k t
  · rw [if_pos ht]
  · rw [if_neg ht]
    obtain ⟨v, hv⟩ := X.stepE (get hk)
    rw [hv, Env.put_at]
    unfold putF
    rw [if_neg fun e => ht ⟨_, get hk, e⟩]
theorem stG (b k : Nat) (hk : k < ops.size) : mix (X.hs (k + 1)) X.N X.F b = if touched (X.ds k) b then (X.hs (k + 1)).get b else mix (X.hs k) X.N X.F b := by
  obtain ⟨h1, h2⟩ := step_touch X.hcl (X.step k _ (get hk)) (X.wf k (by omega)) b
  by_cases ht : touched (X.ds k) b
  · rw [if_pos ht]
    unfold mix
    have := h2 ht
    have := X.mono (i := k + 1) ops.size (by omega) (Nat.le_refl _)
    have := X.top
    rw [if_pos (by omega)]
  · rw [if_neg ht]
    unfold mix
    rw [h1 ht]
theorem ED_pre {D : Nat → Bool} {t : Tmp} {i : Nat} (hi : i ≤ ops.size) (h : ∀ k, k < ops.size → TS ops k t → D k = decide (k < i)) : X.ED D t = (X.es i).at t :=
  ov_pre (st := fun i t => (X.es i).at t) rfl hi (fun k hk => X.stE t k hk) h
theorem GD_pre {D : Nat → Bool} {b : Nat} {i : Nat} (hi : i ≤ ops.size) (h : ∀ k, k < ops.size → touched (X.ds k) b → D k = decide (k < i)) : X.GD D b = mix (X.hs i) X.N X.F b :=
  ov_pre (st := fun i b => mix (X.hs i) X.N X.F b) rfl hi (fun k hk => X.stG b k hk) h

/-- an operation that may come now. -/
structure Now (D : Nat → Bool) (i : Nat) (o : Oper) : Prop where
  at_ : ops[i]? = some o
  not : D i = false
  down : Down ops D
  all : ∀ e ∈ o.after, Region.binds .any e = true → D e.on = true

theorem lt_of_get {i : Nat} {o : Oper} (h : ops[i]? = some o) : i < ops.size := (Array.getElem?_eq_some_iff.1 h).1

omit X in
theorem Now.free {D : Nat → Bool} {i : Nat} {o : Oper} (h : Now (ops := ops) D i o) {k : Nat} (hk : k < ops.size) (hd : D k ≠ decide (k < i)) :
    (k < i ∧ ((befs ops.toList []).getD i 0).testBit k = false) ∨ (i < k ∧ D k = true ∧ ((befs ops.toList []).getD k 0).testBit i = false) := by
  have hi := lt_of_get h.at_
  rcases Nat.lt_trichotomy k i with h1 | h1 | h1
  · refine .inl ⟨h1, ?_⟩
    cases hb : ((befs ops.toList []).getD i 0).testBit k with
    | false => rfl
    | true =>
      have := bef_ready h.down (by rw [Array.getElem?_toList]; exact h.at_) hi h.all hb
      exact absurd (by simp [this, h1]) hd
  · subst h1
    exact absurd (by simp [h.not]) hd
  · have hDk : D k = true := by
      cases e : D k with
      | true => rfl
      | false => exact absurd (by simp [e]; omega) hd
    refine .inr ⟨h1, hDk, ?_⟩
    cases hb : ((befs ops.toList []).getD k 0).testBit i with
    | false => rfl
    | true =>
      have := bef_down h.down k i hk hb hDk
      rw [h.not] at this; cases this

/-- slots looked at are as in the text's order. -/
theorem ED_looks {D : Nat → Bool} {i : Nat} {o : Oper} (h : Now (ops := ops) D i o) {t : Tmp} (ht : t ∈ o.looksAt ops) : X.ED D t = (X.es i).at t := by
  refine X.ED_pre (Nat.le_of_lt (lt_of_get h.at_)) fun k hk ⟨y, hy, hd⟩ => ?_
  refine Classical.byContradiction fun hne => ?_
  rcases h.free hk hne with ⟨h1, h2⟩ | ⟨h1, _, h2⟩
  · exact (Oper.apart_spec (X.apart k i y o h1 hy h.at_ h2)).1 t hd ht
  · exact (Oper.apart_spec (X.apart i k o y h1 h.at_ hy h2)).2.2 t hd ht
theorem ED_put {D D' : Nat → Bool} {i : Nat} {o : Oper} (h : Now (ops := ops) D i o) (hD' : ∀ k, D' k = true ↔ k = i ∨ D k = true) {v : Value} (hv : X.es (i + 1) = (X.es i).put o.dst v) : X.ED D' = putF (X.ED D) o.dst v := by
  funext t
  unfold ED
  rw [ov_insert h.not hD' ops.size (lt_of_get h.at_)]
  · unfold putF
    by_cases e : o.dst = some t
    · rw [if_pos ⟨o, h.at_, e⟩, if_pos e, hv, Env.put_at]
      unfold putF
      rw [if_pos e]
    · rw [if_neg e, if_neg]
      rintro ⟨y, hy, hd⟩
      rw [h.at_] at hy
      simp only [Option.some.injEq] at hy
      subst hy
      exact e hd
  · rintro k h1 h2 ⟨y, hy, hd⟩ ⟨x, hx, hd'⟩
    rw [h.at_] at hx
    simp only [Option.some.injEq] at hx
    subst hx
    cases e : D k with
    | false => rfl
    | true =>
      rcases h.free h2 (by simp [e]; omega) with ⟨h3, _⟩ | ⟨_, _, h3⟩
      · omega
      · exact absurd hd ((Oper.apart_spec (X.apart i k o y h1 h.at_ hy h3)).2.1 t hd')
theorem eval_looks {D : Nat → Bool} {i : Nat} {o : Oper} (h : Now (ops := ops) D i o) : ∀ x ∈ o.op.operands.toList, evalF (X.ED D) x = (X.es i).eval x := by
  intro x hx
  rw [Env.eval_eq]
  cases x with
  | tmp t =>
    refine X.ED_looks h ?_
    unfold Oper.looksAt
    exact List.mem_append.2 (.inl (List.mem_filterMap.2 ⟨.tmp t, hx, rfl⟩))
  | _ => rfl
theorem wanted_looks {D : Nat → Bool} {i : Nat} {o : Oper} (h : Now (ops := ops) D i o) {m : Mp} {a : Act} (hr : ARel m (X.ED D) a nt) : Region.wanted o (yielded ops a.tmps) = wantedA ops.toList (X.es i) o := by
  have hlk : ∀ j want d, o.guard = some (j, want) → (ops.toList[j]?).bind (·.dst) = some d → X.ED D d = (X.es i).at d := by
    intro j want d h1 h2
    refine X.ED_looks h ?_
    unfold Oper.looksAt
    refine List.mem_append.2 (.inr ?_)
    rw [Array.getElem?_toList] at h2
    rw [h1]
    simp [h2]
  rw [wanted_eq hr (fun j want d h1 h2 => by rw [hlk j want d h1 h2]; exact guardOk_at (X.gok i o h.at_) j want d h1 h2), wantedA_eq]
  cases hg : o.guard with
  | none => rfl
  | some p =>
    obtain ⟨j, want⟩ := p
    simp only [Array.getElem?_toList]
    cases hd : (ops[j]?).bind (·.dst) with
    | none => rfl
    | some d =>
      simp only
      rw [X.ED_looks h (t := d) ?_]
      unfold Oper.looksAt
      refine List.mem_append.2 (.inr ?_)
      rw [hg]
      simp [hd]

/-- what stands against this operation's mark. -/
theorem swaps {D : Nat → Bool} {i : Nat} {o : Oper} (h : Now (ops := ops) D i o) {k : Nat} (hk : k < ops.size) (hd : D k ≠ decide (k < i)) :
    (k < i ∧ swapOk (X.ds k) (X.ds i) = true) ∨ (i < k ∧ D k = true ∧ swapOk (X.ds i) (X.ds k) = true) := by
  rcases h.free hk hd with ⟨h1, h2⟩ | ⟨h1, h2, h3⟩
  · exact .inl ⟨h1, X.swap k i _ _ h1 (get hk) h.at_ h2⟩
  · exact .inr ⟨h1, h2, X.swap i k _ _ h1 h.at_ (get hk) h3⟩
/-- where an effect that is recorded began. -/
theorem did_eff {k : Nat} (hk : k < ops.size) {rd : List Nat} {f : Eff} {nx : Nat} (he : X.ds k = .eff rd f nx) : nx = (X.hs k).nx := by
  have := X.step k _ (get hk)
  rw [he] at this
  generalize X.es (k + 1) = e', X.hs (k + 1) = h' at this
  cases this; rfl
theorem did_call {k : Nat} (hk : k < ops.size) {g g' : Heap} (he : X.ds k = .call g g') : g = X.hs k ∧ g' = X.hs (k + 1) := by
  have := X.step k _ (get hk)
  rw [he] at this
  generalize X.es (k + 1) = e', hh : X.hs (k + 1) = h' at this
  cases this; exact ⟨rfl, rfl⟩

theorem GD_read {D : Nat → Bool} {i : Nat} {o : Oper} (h : Now (ops := ops) D i o) {rd : List Nat} {f : Eff} {nx : Nat} (he : X.ds i = .eff rd f nx) {b : Nat} (hb : b ∈ rd) : X.GD D b = mix (X.hs i) X.N X.F b := by
  refine X.GD_pre (Nat.le_of_lt (lt_of_get h.at_)) fun k hk ht => Classical.byContradiction fun hne => ?_
  rcases X.swaps h hk hne with ⟨_, h2⟩ | ⟨_, _, h2⟩ <;>
    rcases swap_all h2 with e | e | ⟨r1, f1, n1, r2, f2, n2, e1, e2, e3, e4⟩ | ⟨g, g', r, f', n, e1, e2, e3, e4⟩ | ⟨g, g', r, f', n, e1, e2, e3, e3', e4⟩
  · rw [e] at ht; exact ht
  · rw [he] at e; cases e
  · rw [he] at e2; cases e2
    rw [e1] at ht e3; exact (e3 b ht).1 hb
  · rw [he] at e2; cases e2
    rw [e1] at ht; exact ht (e4 b hb)
  · rw [he] at e2; cases e2
  · rw [he] at e; cases e
  · rw [e] at ht; exact ht
  · rw [he] at e1; cases e1
    rw [e2] at ht e4; exact e4 b hb ht
  · rw [he] at e1; cases e1
  · rw [he] at e1; cases e1
    rw [e2] at ht; exact ht (e4 b hb)
theorem GD_new {D : Nat → Bool} {i : Nat} {o : Oper} (h : Now (ops := ops) D i o) {rd : List Nat} {f : Eff} {nx : Nat} (he : X.ds i = .eff rd f nx) {b : Nat} (hb : b ∈ newIds nx f.nw) : X.GD D b = mix (X.hs i) X.N X.F b := by
  have hi := lt_of_get h.at_
  have hw : b ∈ (Did.eff rd f nx).wrote := List.mem_append.2 (.inr hb)
  have hge := newIds_ge _ _ _ hb
  rw [X.did_eff hi he] at hge
  refine X.GD_pre (Nat.le_of_lt hi) fun k hk ht => Classical.byContradiction fun hne => ?_
  rcases X.swaps h hk hne with ⟨hlt, h2⟩ | ⟨_, _, h2⟩ <;>
    rcases swap_all h2 with e | e | ⟨r1, f1, n1, r2, f2, n2, e1, e2, e3, e4⟩ | ⟨g, g', r, f', n, e1, e2, e3, e4⟩ | ⟨g, g', r, f', n, e1, e2, e3, e3', e4⟩
  · rw [e] at ht; exact ht
  · rw [he] at e; cases e
  · rw [he] at e3
    rw [e1] at ht e3; exact (e3 b ht).2 hw
  · have := (step_touch X.hcl (X.step k _ (get hk)) (X.wf k (by omega)) b).2 ht
    have := X.mono (i := k + 1) i (by omega) (by omega)
    omega
  · rw [he] at e2; cases e2
  · rw [he] at e; cases e
  · rw [e] at ht; exact ht
  · rw [he, e2] at e3
    rw [e2] at ht; exact (e3 b hw).2 ht
  · rw [he] at e1; cases e1
  · rw [he] at e1; cases e1
    rw [e3'] at hb; simp [newIds] at hb
theorem GD_call {D : Nat → Bool} {i : Nat} {o : Oper} (h : Now (ops := ops) D i o) {g g' : Heap} (he : X.ds i = .call g g') {b : Nat} (hb : b < (X.hs (i + 1)).nx) : X.GD D b = mix (X.hs i) X.N X.F b := by
  have hi := lt_of_get h.at_
  refine X.GD_pre (Nat.le_of_lt hi) fun k hk ht => Classical.byContradiction fun hne => ?_
  rcases X.swaps h hk hne with ⟨hlt, h2⟩ | ⟨hlt, _, h2⟩ <;>
    rcases swap_all h2 with e | e | ⟨r1, f1, n1, r2, f2, n2, e1, e2, e3, e4⟩ | ⟨g, g', r, f', n, e1, e2, e3, e4⟩ | ⟨g, g', r, f', n, e1, e2, e3, e3', e4⟩
  · rw [e] at ht; exact ht
  · rw [he] at e; cases e
  · rw [he] at e2; cases e2
  · rw [he] at e2; cases e2
  · rw [e1] at ht
    simp only [touched, Did.wrote, e3, e3', newIds, List.map_nil, List.append_nil, List.not_mem_nil] at ht
  · rw [he] at e; cases e
  · rw [e] at ht; exact ht
  · rw [he] at e1; cases e1
  · rw [e2] at ht
    simp only [touched, Did.wrote, e3, List.map_nil, List.nil_append] at ht
    have := newIds_ge _ _ _ ht
    rw [X.did_eff hk e2] at this
    have := X.mono (i := i + 1) k (by omega) (by omega)
    omega
  · rw [he] at e1; cases e1
theorem GD_put {D D' : Nat → Bool} {i : Nat} {o : Oper} (h : Now (ops := ops) D i o) (hD' : ∀ k, D' k = true ↔ k = i ∨ D k = true) (b : Nat) : X.GD D' b = if touched (X.ds i) b then (X.hs (i + 1)).get b else X.GD D b := by
  have hi := lt_of_get h.at_
  unfold GD
  refine ov_insert h.not hD' ops.size hi ?_
  intro k h1 hk ht hti
  cases hD : D k with
  | false => rfl
  | true =>
    exfalso
    rcases X.swaps h hk (by simp [hD]; omega) with ⟨hlt, _⟩ | ⟨_, _, h2⟩
    · omega
    rcases swap_all h2 with e | e | ⟨r1, f1, n1, r2, f2, n2, e1, e2, e3, e4⟩ | ⟨g, g', r, f', n, e1, e2, e3, e4⟩ | ⟨g, g', r, f', n, e1, e2, e3, e3', e4⟩
    · rw [e] at hti; exact hti
    · rw [e] at ht; exact ht
    · rw [e1] at hti e3
      rw [e2] at ht e3
      exact (e3 b hti).2 ht
    · rw [e2] at ht
      simp only [touched, Did.wrote, e3, List.map_nil, List.nil_append] at ht
      have := newIds_ge _ _ _ ht
      rw [X.did_eff hk e2] at this
      have h5 := (step_touch X.hcl (X.step i o h.at_) (X.wf i (by omega)) b).2 hti
      have := X.mono (i := i + 1) k (by omega) (by omega)
      omega
    · rw [e1] at hti
      simp only [touched, Did.wrote, e3, e3', newIds, List.map_nil, List.append_nil, List.not_mem_nil] at hti

theorem mix_eq {h : Heap} {N : Nat} {G F : Nat → Option Blk} (hG : ∀ b, b < N → h.get b = G b) (hF : ∀ b, N ≤ b → F b = G b) : mix h N F = G := by
  funext b
  unfold mix
  by_cases e : b < N
  · rw [if_pos e]; exact hG b e
  · rw [if_neg e]; exact hF b (by omega)

theorem step_wp {D D' : Nat → Bool} {i : Nat} {o : Oper} (h : Now (ops := ops) D i o) (hD' : ∀ k, D' k = true ↔ k = i ∨ D k = true) {m : Mp} {w : World} {a : Act} {K : Act → World → Prop} {Q : Exit → Act → World → Prop}
    (hh : HRel m (X.GD D) w) (hg : GlobOk ng m) (hr : ARel m (X.ED D) a nt)
    (hK : ∀ m' w' a', HRel m' (X.GD D') w' → Step m w m' w' → ARel m' (X.ED D') a' nt → K a' w') : wpOp P ops Q i K a w := by
  have hi := lt_of_get h.at_
  have hok := X.ok i o h.at_
  have hwf := X.wf i (by omega)
  have hst := X.step i o h.at_
  have hnx := (step_wf X.hcl hst hwf).2
  have hwf1 := (step_wf X.hcl hst hwf).1
  have htop : (X.hs (i + 1)).nx ≤ X.N := Nat.le_trans (X.mono ops.size (by omega) (Nat.le_refl _)) X.top
  have hput := X.GD_put h hD'
  have hED := fun v => X.ED_put h hD' (v := v)
  have hwant := X.wanted_looks h hr
  unfold wpOp
  simp only [h.at_]
  have hmixN : ∀ b, b < (X.hs (i + 1)).nx → mix (X.hs i) X.N X.F b = (X.hs i).get b := fun b hb => by
    unfold mix; rw [if_pos (by omega)]
  generalize he : X.ds i = d at hst
  generalize he1 : X.es (i + 1) = e1 at hst
  generalize hh1 : X.hs (i + 1) = h1 at *
  cases hst with
  | skip _ _ hw =>
    rw [hwant, hw]
    simp only [Bool.false_eq_true, if_false]
    refine hK m w _ ?_ (.refl m w) ?_
    · have : X.GD D' = X.GD D := funext fun b => by rw [hput b, he]; simp [touched]
      rw [this]; exact hh
    · rw [hED _ he1]
      exact hr.put VRel.undef (dst_lt hok)
  | eff _ _ f hw hf =>
    rw [hwant, hw]
    simp only [if_true]
    left
    obtain ⟨t, ht⟩ := heap_of (X.GD D) (X.hs i).nx
    have hget : ∀ b, Heap.get ⟨t, (X.hs i).nx⟩ b = if b < (X.hs i).nx then X.GD D b else none := ht
    have hnxD := (apply_nx f (X.hs i) ⟨t, (X.hs i).nx⟩ rfl)
    have hmix : mix ⟨t, (X.hs i).nx⟩ ((X.hs i).apply f).nx (X.GD D) = X.GD D := by
      refine mix_eq (fun b hb => ?_) fun b _ => rfl
      rw [hget]
      by_cases hlt : b < (X.hs i).nx
      · rw [if_pos hlt]
      · rw [if_neg hlt, X.GD_new h he (hnxD.2 b (by omega) hb), hmixN b hb, hwf b (by omega)]
    have hwfD : HWf ⟨t, (X.hs i).nx⟩ := fun b hb => by
      rw [hget, if_neg (by exact Nat.not_lt.2 hb)]
    have heff : eff P o.op (evalF (X.ED D)) (Heap.get ⟨t, (X.hs i).nx⟩) (X.hs i).nx = some f := by
      rw [eff_congr (X.eval_looks h), ← hf]
      refine eff_local fun b hb => ?_
      rw [hget]
      by_cases hlt : b < (X.hs i).nx
      · rw [if_pos hlt, X.GD_read h he hb, hmixN b (by omega)]
      · rw [if_neg hlt, hwf b (by omega)]
    refine eff_upon (N := ((X.hs i).apply f).nx) (F := X.GD D) (by rw [hmix]; exact hh) hwfD (by rw [hnxD.1]; exact Nat.le_refl _) hnx hr hg hok heff ?_
    intro m' w' a' q1 q2 q3
    refine hK m' w' a' ?_ q2 ?_
    · have : mix (Heap.apply ⟨t, (X.hs i).nx⟩ f) ((X.hs i).apply f).nx (X.GD D) = X.GD D' := by
        refine mix_eq (fun b hb => ?_) fun b hb => ?_
        · rw [hput b, he]
          by_cases ht : touched (.eff (foot o.op (X.es i).eval) f (X.hs i).nx) b
          · rw [if_pos ht]
            exact (apply_same (h := X.hs i) (h2 := ⟨t, (X.hs i).nx⟩) rfl ht).1
          · rw [if_neg ht]
            have e1 : (Heap.apply ⟨t, (X.hs i).nx⟩ f).get b = Heap.get ⟨t, (X.hs i).nx⟩ b := apply_other (rd := foot o.op (X.es i).eval) ht
            rw [e1]
            have := congrFun hmix b
            unfold mix at this
            rwa [if_pos hb] at this
        · rw [hput b, if_neg]
          intro ht
          have := (step_touch X.hcl (X.step i o h.at_) hwf b).2 ht
          rw [hh1] at this
          omega
      rwa [this] at q1
    · rwa [hED _ he1]
  | call _ _ _ c fn args v hw hop hca hq =>
    rw [hwant, hw]
    simp only [if_true]
    left
    have hmix : mix (X.hs i) h1.nx (X.GD D) = X.GD D := by
      refine mix_eq (fun b hb => ?_) fun b _ => rfl
      rw [X.GD_call h he (by rw [hh1]; exact hb), hmixN b hb]
    have hca' : callee P c (evalF (X.ED D)) = some (fn, args) := by
      rw [← hca]
      refine callee_congr fun x hx => X.eval_looks h x ?_
      rw [hop]; exact hx
    refine call_upon (N := h1.nx) (F := X.GD D) X.hcl hop (by rw [hmix]; exact hh) hwf (Nat.le_refl _) hr hg hok hca' hq ?_ ?_
    · intro v' hv' m' w' a' q1 q2 q3
      cases hv'
      refine hK m' w' a' ?_ q2 ?_
      · have : mix h1 h1.nx (X.GD D) = X.GD D' := by
          refine mix_eq (fun b hb => ?_) fun b hb => ?_
          · rw [hput b, he]
            by_cases ht : touched (.call (X.hs i) h1) b
            · rw [if_pos ht]
            · rw [if_neg ht]
              have e1 : (X.hs i).get b = h1.get b := Classical.not_not.1 ht
              rw [← e1]
              have := congrFun hmix b
              unfold mix at this
              rwa [if_pos hb] at this
          · rw [hput b, if_neg]
            intro ht
            have := (step_touch X.hcl (X.step i o h.at_) hwf b).2 ht
            rw [hh1] at this
            omega
        rwa [this] at q1
      · rwa [hED _ he1]
    · intro v' hv'; cases hv'

/-- the operations that are listed. -/
def done (listed : Array Bool) (k : Nat) : Bool := listed.getD k false
theorem now_of_ready {listed : Array Bool} (hs : listed.size = ops.size) (hd : Down ops (done listed)) {i : Nat} (hi : i ∈ Region.ready .any ops listed) : Now (ops := ops) (done listed) i (ops[i]?.getD ⟨none, .move (.tmp 0), 0, default, #[], none⟩) := by
  unfold Region.ready at hi
  rw [List.mem_filter, List.mem_range] at hi
  obtain ⟨hlt, h⟩ := hi
  rw [get hlt] at h ⊢
  simp only [Bool.and_eq_true, Bool.not_eq_true', Option.map_some, Option.getD_some] at h
  refine ⟨get hlt, ?_, hd, fun e he hb => ?_⟩
  · have := h.1
    unfold done
    rw [Array.getD_eq_getD_getElem?] at this ⊢
    rw [Array.getElem?_eq_getElem (by omega)] at this ⊢
    exact this
  · have := Array.all_eq_true_iff_forall_mem.1 h.2 e he
    unfold done; simpa [hb] using this
theorem down_set {listed : Array Bool} (hs : listed.size = ops.size) {i : Nat} {o : Oper} (h : Now (ops := ops) (done listed) i o) : (∀ k, done (listed.setIfInBounds i true) k = true ↔ k = i ∨ done listed k = true) ∧ Down ops (done (listed.setIfInBounds i true)) := by
  have hi := lt_of_get h.at_
  have h1 : ∀ k, done (listed.setIfInBounds i true) k = true ↔ k = i ∨ done listed k = true := by
    intro k
    unfold done
    rw [Array.getD_eq_getD_getElem?, Array.getD_eq_getD_getElem?]
    by_cases e : i = k
    · subst e
      simp [Array.getElem?_setIfInBounds_self_of_lt (show i < listed.size by omega)]
    · rw [Array.getElem?_setIfInBounds_ne e]
      simp [Ne.symm e]
  refine ⟨h1, fun j o' hj hd e he hb => ?_⟩
  rw [h1] at hd ⊢
  right
  rcases hd with rfl | hd
  · rw [Array.getElem?_toList, h.at_] at hj
    simp only [Option.some.injEq] at hj
    subst hj
    exact h.all e he hb
  · exact h.down j o' hj hd e he hb
theorem ready_nil {listed : Array Bool} (hs : listed.size = ops.size) (hback : ∀ (j : Nat) (o : Oper), ops[j]? = some o → ∀ e ∈ o.after, Region.binds .any e = true → e.on < j) (h : Region.ready .any ops listed = []) : ∀ k, k < ops.size → done listed k = true := by
  intro k
  induction k using Nat.strongRecOn with
  | _ k ih =>
    intro hk
    cases hd : done listed k with
    | true => rfl
    | false =>
      exfalso
      have : k ∈ Region.ready .any ops listed := by
        unfold Region.ready
        rw [List.mem_filter, List.mem_range]
        refine ⟨hk, ?_⟩
        rw [get hk]
        simp only [Bool.and_eq_true, Bool.not_eq_true', Option.map_some, Option.getD_some]
        constructor
        · unfold done at hd
          rw [Array.getD_eq_getD_getElem?] at hd ⊢
          rw [Array.getElem?_eq_getElem (by omega)] at hd ⊢
          exact hd
        · rw [Array.all_eq_true_iff_forall_mem]
          intro e he
          cases hb : Region.binds .any e with
          | false => simp
          | true =>
            have hlt := hback k _ (get hk) e he hb
            simpa [done] using ih e.on hlt (by omega)
      rw [h] at this
      simp at this
theorem any_wp {Q : Exit → Act → World → Prop} (m0 : Mp) (w0 : World) (hg0 : GlobOk ng m0)
    (hQ : ∀ m' w' a', HRel m' (mix (X.hs ops.size) X.N X.F) w' → Step m0 w0 m' w' → ARel m' (X.es ops.size).at a' nt → Q .normal a' w') :
    ∀ (fuel : Nat) (listed : Array Bool) (m : Mp) (w : World) (a : Act), listed.size = ops.size → Down ops (done listed) → listed.toList.count false ≤ fuel → HRel m (X.GD (done listed)) w → Step m0 w0 m w → ARel m (X.ED (done listed)) a nt →
      wpAny P .any ops Q fuel listed a w := by
  have hend : ∀ (listed : Array Bool) (m : Mp) (w : World) (a : Act), (∀ k, k < ops.size → done listed k = true) → HRel m (X.GD (done listed)) w → Step m0 w0 m w → ARel m (X.ED (done listed)) a nt → Q .normal a w := by
    intro listed m w a hall hh hst hr
    refine hQ m w a ?_ hst ?_
    · have : X.GD (done listed) = mix (X.hs ops.size) X.N X.F := funext fun b => X.GD_pre (Nat.le_refl _) fun k hk _ => by rw [hall k hk]; simp [hk]
      rwa [this] at hh
    · have : X.ED (done listed) = (X.es ops.size).at := funext fun t => X.ED_pre (Nat.le_refl _) fun k hk _ => by rw [hall k hk]; simp [hk]
      rwa [this] at hr
  intro fuel
  induction fuel with
  | zero =>
    intro listed m w a hsz hd hc hh hst hr
    have hall : ∀ k, k < ops.size → done listed k = true := by
      intro k hk
      cases e : done listed k with
      | true => rfl
      | false =>
        exfalso
        have h0 : false ∉ listed.toList := List.count_eq_zero.1 (Nat.le_zero.1 hc)
        unfold done at e
        rw [Array.getD_eq_getD_getElem?, Array.getElem?_eq_getElem (by omega)] at e
        refine h0 ?_
        rw [Array.mem_toList_iff, ← show listed[k]'(by omega) = false from e]
        exact Array.getElem_mem _
    refine ⟨?_, hend listed m w a hall hh hst hr⟩
    refine List.eq_nil_iff_forall_not_mem.2 fun i hi => ?_
    have h1 := now_of_ready hsz hd hi
    have := h1.not
    rw [hall i (lt_of_get h1.at_)] at this
    cases this
  | succ fuel ih =>
    intro listed m w a hsz hd hc hh hst hr
    refine ⟨fun hn => hend listed m w a (ready_nil hsz X.back hn) hh hst hr, fun i hi => ?_⟩
    have h1 := now_of_ready hsz hd hi
    obtain ⟨h2, h3⟩ := down_set hsz h1
    refine X.step_wp h1 h2 hh (hg0.mono hst.ext) hr ?_
    intro m' w' a' q1 q2 q3
    refine ih _ m' w' a' (by simpa using hsz) h3 ?_ q1 (hst.trans q2) q3
    have hi' := lt_of_get h1.at_
    have hget : listed.toList[i]'(by simpa using (by omega : i < listed.size)) = false := by
      have := h1.not
      unfold done at this
      rw [Array.getD_eq_getD_getElem?, Array.getElem?_eq_getElem (by omega)] at this
      simpa using this
    rw [Array.toList_setIfInBounds, List.count_set (by simpa using (by omega : i < listed.size))]
    rw [hget]
    simp
    have := hc
    rw [← Array.count_toList] 
    omega
end DrawCtx

theorem draw_wp (hm : P.follows .mixedOrders = true) (hcl : CallOk P ng cl) {ops : Array Oper} {id : Nat} {e e' : Env} {h h' : Heap} {ex : AExit} (hok : ops.toList.all (opersOk ng nt) = true) (hrun : runDraw P cl ops e h = some (ex, e', h')) :
    Comes' P ng nt (.region id ops true) ex e e' h h' := by
  intro hwf
  unfold runDraw at hrun
  cases htext : drawText ops with
  | false => rw [htext] at hrun; simp at hrun
  | true =>
  rw [htext] at hrun
  simp only at hrun
  split at hrun <;> try (simp at hrun; done)
  rename_i e1 h1 L hrec
  cases hdid : drawDid2 ops.toList L with
  | false => rw [hdid] at hrun; simp at hrun
  | true =>
  rw [hdid] at hrun
  simp only [Option.some.injEq, Prod.mk.injEq] at hrun
  obtain ⟨rfl, rfl, rfl⟩ := hrun
  obtain ⟨hL, es, hs, s1, s2, s3, s4, s5⟩ := runRec_spec _ _ _ _ _ _ hrec
  have hL2 : L.length = ops.size := by rw [hL, Array.length_toList]
  rw [Array.length_toList] at s3 s4
  unfold drawText at htext
  simp only [Bool.and_eq_true, List.all_eq_true, List.mem_range] at htext
  obtain ⟨⟨t1, t2⟩, _⟩ := htext
  have hstep : ∀ (k : Nat) (o : Oper), ops[k]? = some o → OneStep P cl ops.toList o (L.getD k .skip) (es k) (hs k) (es (k + 1)) (hs (k + 1)) ∧ guardOk ops.toList (es k) o = true := by
    intro k o ho
    have hk := DrawCtx.lt_of_get ho
    refine s5 k o _ (by rw [Array.getElem?_toList]; exact ho) ?_
    rw [List.getD_eq_getElem?_getD, List.getElem?_eq_getElem (by omega)]
    rfl
  have hwf0 : HWf (hs 0) := s2 ▸ hwf
  have hok' : ∀ (k : Nat) (o : Oper), ops[k]? = some o → opersOk ng nt o = true := fun k o ho => List.all_eq_true.1 hok o (Array.mem_toList_iff.2 (Array.mem_of_getElem? ho))
  let X (N : Nat) (F : Nat → Option Blk) (hN : h1.nx ≤ N) : DrawCtx P ng nt cl ops := {
    es := es, hs := hs, ds := fun k => L.getD k .skip, N := N, F := F, hcl := hcl
    ok := hok', step := fun k o ho => (hstep k o ho).1, gok := fun k o ho => (hstep k o ho).2, wf0 := hwf0, top := s4 ▸ hN
    apart := fun i j x y hij hx hy hb => by
      have := t2 j (DrawCtx.lt_of_get hy) i hij
      rw [hb, Array.getElem?_toList, Array.getElem?_toList, hx, hy] at this
      simpa using this
    swap := fun i j x y hij hx hy hb => by
      have hi := DrawCtx.lt_of_get hx
      have hj := DrawCtx.lt_of_get hy
      have e1 : L[i]? = some (L.getD i .skip) := by rw [List.getD_eq_getElem?_getD, List.getElem?_eq_getElem (by omega)]; rfl
      have e2 : L[j]? = some (L.getD j .skip) := by rw [List.getD_eq_getElem?_getD, List.getElem?_eq_getElem (by omega)]; rfl
      cases hsf : safeC (opCls x.op) (opCls y.op) with
      | true => exact safe_swap (hstep i x hx).1 (hstep j y hy).1 hsf
      | false => exact drawDid2_spec hdid hij (by rw [Array.getElem?_toList]; exact hx) (by rw [Array.getElem?_toList]; exact hy) e1 e2 hb hsf
    back := fun j o ho ed he hb => by
      have := t1 j (DrawCtx.lt_of_get ho)
      rw [Array.getElem?_toList, ho] at this
      simp only [List.all_eq_true] at this
      have := this ed (Array.mem_toList_iff.2 he)
      rw [hb] at this
      simpa [Nat.blt_eq] using this }
  refine ⟨?_, ?_, fun N F m w a Q hN hh hg hr hQ => ?_⟩
  · have := (X h1.nx (fun _ => none) (Nat.le_refl _)).wf ops.size (Nat.le_refl _)
    rwa [← s4]
  · have := (X h1.nx (fun _ => none) (Nat.le_refl _)).mono (i := 0) ops.size (Nat.zero_le _) (Nat.le_refl _)
    rwa [← s4, ← s2]
  · refine wp_region_any hm ?_
    have hdone : ∀ k, DrawCtx.done (Array.replicate ops.size false) k = false := by
      intro k
      unfold DrawCtx.done
      rw [Array.getD_eq_getD_getElem?, Array.getElem?_replicate]
      split <;> rfl
    refine (X N F hN).any_wp m w hg ?_ ops.size _ m _ a (by simp) ?_ ?_ ?_ .drew ?_
    · intro m' w' a' q1 q2 q3
      refine hQ m' w' a' .normal ?_ q2 ?_ rfl
      · have : (X N F hN).hs ops.size = h1 := s4
        rwa [this] at q1
      · have : (X N F hN).es ops.size = e1 := s3
        rwa [this] at q3
    · intro j o _ hd
      rw [hdone] at hd; cases hd
    · rw [Array.toList_replicate]
      exact Nat.le_trans List.count_le_length (by simp)
    · have : (X N F hN).GD (DrawCtx.done (Array.replicate ops.size false)) = mix h N F := by
        funext b
        rw [(X N F hN).GD_pre (i := 0) (Nat.zero_le _) fun k _ _ => by rw [hdone]; simp]
        show mix (hs 0) N F b = _
        rw [s2]
      rw [this]
      exact hh.drew _
    · have : (X N F hN).ED (DrawCtx.done (Array.replicate ops.size false)) = e.at := by
        funext t
        rw [(X N F hN).ED_pre (i := 0) (Nat.zero_le _) fun k _ _ => by rw [hdone]; simp]
        show (es 0).at t = _
        rw [s1]
      rw [this]
      exact hr
end Go.AM
