/- From a run of the machine to a row. -/
import Derived.Test.YtkkdpbicppdglaaGreatDoorAmCall
import Derived.ProofKit
namespace Go.AM
open Go.ChangeShapes Go.WideShapes

variable {P : Program} {W : World} {r : Reach} {base : Nat} {u : TypeId} {x : Value}

/- ## what an argument is made of -/
theorem cell_int {k : IntKind} (hu : P.underlying u = some (.int k)) (h : Cell.okWide P W r base u x) : ∃ n, x = .int k n ∧ k.has n := by
  unfold Cell.okWide at h
  cases x <;> simp only [hu] at h <;> simp only [Cell.ok, hu] at h
  obtain ⟨rfl, h⟩ := h
  exact ⟨_, rfl, h⟩
theorem cell_bool (hu : P.underlying u = some .bool) (h : Cell.okWide P W r base u x) : ∃ b, x = .bool b := by
  unfold Cell.okWide at h
  cases x <;> simp only [hu] at h <;> simp only [Cell.ok, hu] at h
  exact ⟨_, rfl⟩
theorem cell_slice {e : TypeId} (hu : P.underlying u = some (.slice e)) (h : Cell.okWide P W r base u x) : x = .slice none 0 0 ∨ ∃ a len cap, x = .slice (some a) len cap := by
  unfold Cell.okWide at h
  cases x <;> simp only [hu] at h <;> simp only [Cell.ok, hu] at h
  split at h
  all_goals first | exact h.elim | (rename_i hx _; simp_all; done) | (simp_all; done) | skip
theorem row_cells {t : TypeId} {ts : List TypeId} {v : Value} (hu : (match P.underlying t with | some (.struct _) => true | _ => false) = true) (hc : P.cellTypes P.depth t = some ts) (h : Value.okWide P W r base t v) :
    ∃ cs, v = .agg cs ∧ cs.size = P.cellsOf t ∧ ∀ i x, cs[i]? = some x → ∃ u, ts[i % ts.length]? = some u ∧ Cell.okWide P W r base u x := by
  unfold Value.okWide at h
  split at hu <;> try (simp at hu; done)
  rename_i fs hfs
  simp only [hfs] at h
  obtain ⟨cs, rfl, h1, ts', h2, _, h4⟩ := h
  rw [hc] at h2
  cases h2
  exact ⟨cs, rfl, h1, h4⟩

theorem val_int {k : IntKind} (hu : P.underlying u = some (.int k)) (h : Value.okWide P W r base u x) : ∃ n, x = .int k n ∧ k.has n := by
  unfold Value.okWide at h
  simp only [hu] at h
  exact cell_int hu h
theorem val_bool (hu : P.underlying u = some .bool) (h : Value.okWide P W r base u x) : ∃ b, x = .bool b := by
  unfold Value.okWide at h
  simp only [hu] at h
  exact cell_bool hu h

/- ## what stays -/
def Still (W W' : World) : Prop := W'.os = W.os ∧ W'.output = W.output ∧ ∀ cb : Nat, cb < W.heap.size → W'.heap[cb]? = W.heap[cb]?
theorem Still.kept {W' : World} (h : Still W W') (may : MemPlace → Prop) : W.keptBut W' may := by
  refine ⟨h.1, h.2.1, fun i hi => ?_⟩
  rw [h.2.2 i hi]
  split
  · rename_i c t fr c' t' fr' h1 h2
    rw [h1] at h2
    simp only [Option.some.injEq, Obj.cells.injEq] at h2
    obtain ⟨rfl, rfl, rfl⟩ := h2
    exact ⟨rfl, rfl, rfl, fun _ _ => rfl⟩
  · rename_i es c es' c' h1 h2
    rw [h1] at h2
    simp only [Option.some.injEq, Obj.map.injEq] at h2
    obtain ⟨rfl, rfl⟩ := h2
    exact .inr ⟨rfl, rfl⟩
  · rfl
theorem Still.same {W' : World} (h : Still W W') {p : MemPlace} (hp : p.block < W.heap.size) : W.sameAt W' p := by
  cases p with
  | cell b off =>
    have := h.2.2 b hp
    simp [World.sameAt, World.cell?, this]
  | map b => exact h.2.2 b hp
section
variable {H : Type} {enc : TypeId × Value → H}
theorem trodAll_still {W' : World} {sp : Nat → Bool} {hd : Bool} (hs : Still W W') : ∀ {ts : List TypeId} {vs : List Value} {ds : List (DataW H)} {ps : List MemPlace}, (∀ p ∈ ps, p.block < W.heap.size) →
    DataW.TrodAll enc P W base sp hd ts vs ds ps → DataW.TrodAll enc P W' base sp hd ts vs ds ps
  | [], [], [], _, _, h => h
  | _ :: _, _ :: _, _ :: _, _, hl, ⟨p, q, ⟨n, h1⟩, h2, e⟩ =>
    ⟨p, q, ⟨n, DataW.trod_carry n _ _ _ h1 (fun x hx => hs.same (hl x (by rw [e]; exact List.mem_append_left _ hx)))⟩, trodAll_still hs (fun x hx => hl x (by rw [e]; exact List.mem_append_right _ hx)) h2, e⟩

/-- The law gave true; what was there is as it was. -/
theorem post_true {T : TypeId → Prop} {f : Func} {s : ChangeSpec} {W' : World} {args : Array Value} {ds gs : List (DataW H)} {before : List MemPlace} {bt : TypeId} (K : Kids P T) (hz : ∀ t e, T t → P.underlying t = some (.slice e) → 0 < P.cellsOf e)
    (hT : ∀ t ∈ f.params.toList, T t) (hb : P.underlying bt = some .bool) (hrt : f.resultTypes = #[bt]) (hvars : s.vars = []) (hg : gs = [])
    (hW : DataW.Whole enc P f.params.toList s.vars false W args.toList ds gs before) (hA : DataW.TrodAll enc P W 0 (fun _ => true) true f.params.toList args.toList ds before)
    (hres : (s.fn H (ds ++ gs)).results = [.lit (.bool true)]) (hargs : (s.fn H (ds ++ gs)).args = ds) (hv : (s.fn H (ds ++ gs)).vars = []) (hs : Still W W') :
    s.post enc P f false true false false W args (.bool true) W' := by
  have hlt := DataW.TrodAll.lt hA
  subst hg
  refine ⟨ds, [], before, [], before, [], hW, ?_, ?_, ?_, hs.kept _, fun h => by cases h⟩
  · rw [hres, hrt]
    exact trodAll_mk1 (Go.RowKit.shut_bool hb true)
  · rw [hargs]
    exact trodAll_still hs hlt (DataW.TrodAll.respare K hz hT hA fun p hp => by simpa using hlt p hp)
  · rw [hv, hvars]
    exact rfl
end

/- ## the call -/
noncomputable def deadHeap : Heap := ⟨Trie.leaf.set 0 .dead, 1⟩
def deadMp : Mp := fun b => if b = 0 then .dead else .fresh
theorem deadHeap_get (b : Nat) : deadHeap.get b = if b = 0 then some .dead else none := by
  show (Trie.leaf.set 0 Blk.dead).get b = _
  rw [Trie.get_set, Trie.get_leaf]
theorem deadHeap_wf : HWf deadHeap := fun b hb => by
  rw [deadHeap_get, if_neg]
  have : 1 ≤ b := hb
  omega
theorem deadHeap_rel (W : World) (N : Nat) (hN : 1 ≤ N) : HRel deadMp (mix deadHeap N fun _ => none) W := by
  refine ⟨fun b => ?_, fun b b' l l' h => ?_⟩
  · unfold mix deadMp
    rw [deadHeap_get]
    by_cases h : b = 0
    · subst h
      rw [if_pos rfl, if_pos (by omega), if_pos rfl]
      trivial
    · rw [if_neg h, if_neg h]
      split <;> trivial
  · unfold deadMp at h
    split at h <;> cases h

/-- A run that gave true: the model's call gives true, and writes on nothing that was there. -/
theorem true_calls' {cl : Caller} (hcl : CallOk P 0 cl) {f : FuncId} {args args' : List Value} {H : Heap} {M : Mp} {W : World} (hwf : HWf H) (hrel : ∀ N, H.nx ≤ N → HRel M (mix H N fun _ => none) W) (hro : ∀ b l, M b = .live l → l.rw = false)
    (hrun : isTrue (cl f args H) = true) (ha : VRels M args args') :
    Calls P f args'.toArray W fun e W' => e = .returned (.bool true) ∧ Still W W' := by
  cases hq : cl f args H with
  | none => rw [hq] at hrun; simp [isTrue] at hrun
  | some q =>
    obtain ⟨o, h'⟩ := q
    rw [hq] at hrun
    have ho : o = .ret (.bool true) := by
      unfold isTrue at hrun
      split at hrun
      · rename_i b _ heq
        simp only [Option.some.injEq, Prod.mk.injEq] at heq
        rw [heq.1, hrun]
      · simp at hrun
    subst ho
    obtain ⟨_, _, hnx, hc⟩ := hcl f args H _ h' hq hwf
    refine (hc h'.nx (fun _ => none) M W args' (Nat.le_refl _) (hrel _ hnx) (fun g hg => absurd hg (Nat.not_lt_zero g)) ha).mono ?_
    rintro e W' ⟨m', ⟨v', rfl, hv⟩, _, hst⟩
    cases hv
    refine ⟨rfl, hst.os, hst.out, fun cb hcb => hst.keep cb hcb ?_⟩
    intro b l hl hrw
    rw [hro b l hl] at hrw
    cases hrw
theorem true_calls {cl : Caller} (hcl : CallOk P 0 cl) {f : FuncId} {args args' : List Value} (hrun : isTrue (cl f args deadHeap) = true) (ha : VRels deadMp args args') (W : World) :
    Calls P f args'.toArray W fun e W' => e = .returned (.bool true) ∧ Still W W' :=
  true_calls' hcl deadHeap_wf (fun N hN => deadHeap_rel W N hN) (fun b l hl => by unfold deadMp at hl; split at hl <;> cases hl) hrun ha

/- ## tokens: ints that are not known -/
noncomputable def deadsT (n : Nat) : Trie Blk := Nat.rec (motive := fun _ => Trie Blk) .leaf (fun i ih => ih.set i .dead) n
noncomputable def deads (n : Nat) : Heap := ⟨deadsT n, n⟩
theorem deads_get (n b : Nat) : (deads n).get b = if b < n then some .dead else none := by
  show (deadsT n).get b = _
  induction n with
  | zero => rw [if_neg (by omega)]; exact Trie.get_leaf b
  | succ n ih =>
    show ((deadsT n).set n .dead).get b = _
    rw [Trie.get_set, ih]
    by_cases e : b = n
    · rw [if_pos e, if_pos (by omega)]
    · rw [if_neg e]
      by_cases g : b < n
      · rw [if_pos g, if_pos (by omega)]
      · rw [if_neg g, if_neg (by omega)]
theorem deads_wf (n : Nat) : HWf (deads n) := fun b hb => by
  have hb : n ≤ b := hb
  rw [deads_get, if_neg (by omega)]
def statMp (l : List Stat) : Mp := fun b => (l[b]?).getD .fresh
def Stat.quiet : Stat → Bool
  | .dead => true
  | .sym _ _ => true
  | _ => false
theorem deads_rel {l : List Stat} (hl : l.all Stat.quiet = true) (W : World) (N : Nat) (hN : l.length ≤ N) : HRel (statMp l) (mix (deads l.length) N fun _ => none) W := by
  have hq : ∀ (b : Nat) (s : Stat), l[b]? = some s → s.quiet = true := fun b s h => List.all_eq_true.1 hl s (List.mem_of_getElem? h)
  refine ⟨fun b => ?_, fun b b' x x' h => ?_⟩
  · unfold mix statMp
    rw [deads_get]
    cases h : l[b]? with
    | none =>
      rw [List.getElem?_eq_none_iff] at h
      rw [if_neg (show ¬ b < l.length by omega)]
      split <;> trivial
    | some s =>
      have hlt := (List.getElem?_eq_some_iff.1 h).1
      rw [if_pos (by omega), if_pos hlt]
      have := hq b s h
      cases s <;> first | trivial | (simp [Stat.quiet] at this)
  · unfold statMp at h
    cases h1 : l[b]? with
    | none => rw [h1] at h; cases h
    | some s =>
      rw [h1] at h
      have := hq b s h1
      simp only [Option.getD_some] at h
      subst h
      simp [Stat.quiet] at this
theorem true_toks {cl : Caller} (hcl : CallOk P 0 cl) {f : FuncId} {args args' : List Value} {l : List Stat} (hl : l.all Stat.quiet = true) (hrun : isTrue (cl f args (deads l.length)) = true) (ha : VRels (statMp l) args args') (W : World) :
    Calls P f args'.toArray W fun e W' => e = .returned (.bool true) ∧ Still W W' :=
  true_calls' hcl (deads_wf _) (fun N hN => deads_rel hl W N hN) (fun b x h => by
    unfold statMp at h
    cases h1 : l[b]? with
    | none => rw [h1] at h; cases h
    | some s =>
      rw [h1] at h
      have := List.all_eq_true.1 hl s (List.mem_of_getElem? h1)
      simp only [Option.getD_some] at h
      subst h
      simp [Stat.quiet] at this) hrun ha
end Go.AM
