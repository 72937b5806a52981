/- Regions whose order is the text's. -/
import Derived.Test.YtmmjeifdgfolmaaAmRun1
namespace Go.AM
variable {P : Program} {m : Mp} {h : Heap} {N ng nt : Nat} {F : Nat → Option Blk} {w : World}

/-- how the abstract machine's ways out are the model's. -/
def XRel (m : Mp) : AExit → Exit → Prop
  | .normal, x => x = .normal
  | .ret, x => x = .ret
  | .exit id, x => x = .exit id
  | .goto l, x => x = .goto l
  | .pan v, x => ∃ v', x = .panic [{ v := v', recovered := false }] ∧ VRel m v v'

theorem wanted_eq {ops : Array Oper} {E : Tmp → Value} {a : Act} {o : Oper} (hr : ARel m E a nt) :
    Region.wanted o (yielded ops a.tmps) = (match o.guard with
      | none => true
      | some (j, want) => match (ops.toList[j]?).bind (·.dst) with
        | some d => match E d with
          | .bool b => Bool.rec (Bool.not want) want b
          | _ => false
        | none => false) := by
  unfold Region.wanted
  cases hg : o.guard with
  | none => rfl
  | some x =>
    obtain ⟨j, want⟩ := x
    simp only [yielded, Array.getElem?_toList]
    cases hd : (ops[j]?).bind (·.dst) with
    | none => rfl
    | some d =>
      simp only [Option.bind_some]
      have := hr.tm d
      rw [Array.getD_eq_getD_getElem?] at this
      cases ht : a.tmps[d]? with
      | none =>
        rw [ht, Option.getD_none] at this
        cases hE : E d <;> rw [hE] at this <;> first | rfl | (cases this)
      | some v =>
        rw [ht, Option.getD_some] at this
        cases hE : E d <;> rw [hE] at this <;> cases this <;> first | rfl | (rename_i b; cases b <;> cases want <;> rfl)
theorem wantedA_eq {ops : List Oper} {e : Env} {o : Oper} : wantedA ops e o = (match o.guard with
      | none => true
      | some (j, want) => match (ops[j]?).bind (·.dst) with
        | some d => match e.at d with
          | .bool b => Bool.rec (Bool.not want) want b
          | _ => false
        | none => false) := rfl

theorem HWf.apply {f : Eff} (hwf : HWf h) (he : EffOk h.get f) : HWf (h.apply f) ∧ h.nx ≤ (h.apply f).nx := by
  have hnw : ∀ (l : List Blk) (t : Trie Blk) (nx : Nat), (∀ b, nx ≤ b → t.get b = none) → HWf (applyNw t nx l) ∧ nx ≤ (applyNw t nx l).nx := by
    intro l
    induction l with
    | nil => intro t nx ht; exact ⟨ht, Nat.le_refl _⟩
    | cons x r ih =>
      intro t nx ht
      have := ih (t.set nx x) (nx + 1) (fun b hb => by rw [Trie.get_set_ne _ _ (by omega)]; exact ht b (by omega))
      exact ⟨this.1, Nat.le_trans (Nat.le_succ _) this.2⟩
  have hwr : ∀ b, h.nx ≤ b → (applyWr h.t f.wr).get b = none := by
    intro b hb
    rcases he with e | ⟨b0, x, e, hne⟩
    · rw [e]; exact hwf b hb
    · rw [e]
      show (h.t.set b0 x).get b = none
      have : b ≠ b0 := by intro q; subst q; exact hne (hwf b hb)
      rw [Trie.get_set_ne _ _ this]
      exact hwf b hb
  obtain ⟨v, wr, nw⟩ := f
  cases nw with
  | nil =>
    cases wr with
    | nil => exact ⟨hwf, Nat.le_refl _⟩
    | cons x r => exact ⟨hwr, Nat.le_refl _⟩
  | cons x r => exact hnw (x :: r) _ _ hwr

/-- What running code comes to. -/
def Comes' (P : Program) (ng nt : Nat) (c : Code) (ex : AExit) (e e' : Env) (h h' : Heap) : Prop :=
  HWf h → HWf h' ∧ h.nx ≤ h'.nx ∧ ∀ (N : Nat) (F : Nat → Option Blk) (m : Mp) (w : World) (a : Act) (Q : Exit → Act → World → Prop), h'.nx ≤ N → HRel m (mix h N F) w → GlobOk ng m → ARel m e.at a nt →
    (∀ m' w' a' x, HRel m' (mix h' N F) w' → Step m w m' w' → ARel m' e'.at a' nt → XRel m' ex x → Q x a' w') → c.wp P Q a w

theorem runOps_nil {cl : Caller} {all : List Oper} {e : Env} {h : Heap} : runOps P cl all [] e h = some (.normal, e, h) := rfl
theorem runOps_cons {cl : Caller} {all : List Oper} {o : Oper} {r : List Oper} : runOps P cl all (o :: r) = runOp P cl all o (runOps P cl all r) := rfl
theorem runOp_false {cl : Caller} {all : List Oper} {o : Oper} {k : Env → Heap → Res} {e : Env} {h : Heap} (hw : wantedA all e o = false) : runOp P cl all o k e h = k (e.put o.dst undef) h := by
  unfold runOp; rw [hw]
/-- the ways of one operation that is wanted. -/
theorem runOp_true {cl : Caller} {all : List Oper} {o : Oper} {k : Env → Heap → Res} {e : Env} {h : Heap} {r : AExit × Env × Heap} (hw : wantedA all e o = true) (hr : runOp P cl all o k e h = some r) :
    (∃ f, eff P o.op e.eval h.get h.nx = some f ∧ k (e.put o.dst f.val) (h.apply f) = some r) ∨
    (∃ c f args out h', o.op = .call c ∧ callee P c e.eval = some (f, args) ∧ cl f args h = some (out, h') ∧
      ((∃ v, out = .ret v ∧ k (e.put o.dst v) h' = some r) ∨ (∃ v, out = .pan v ∧ r = (.pan v, e, h')))) ∨
    (∃ x t v, o.op = .panic x ∧ e.eval x = .iface t v ∧ r = (.pan (.iface t v), e, h)) := by
  unfold runOp at hr
  rw [hw] at hr
  simp only at hr
  split at hr
  · rename_i c hop
    cases hcl : c.callee with
    | builtin b =>
      simp only [hcl] at hr
      split at hr <;> try (simp at hr; done)
      rename_i f hf
      refine .inl ⟨f, ?_, hr⟩
      rw [hop]
      simp only [eff, effCall, hcl]
      exact hf
    | value x =>
      simp only [hcl] at hr
      split at hr <;> try (simp at hr; done)
      rename_i fa hfa
      obtain ⟨f, args⟩ := fa
      split at hr <;> try (simp at hr; done)
      · rename_i v h' hq
        exact .inr (.inl ⟨c, f, args, .ret v, h', hop, hfa, hq, .inl ⟨v, rfl, hr⟩⟩)
      · rename_i v h' hq
        simp only [Option.some.injEq] at hr
        exact .inr (.inl ⟨c, f, args, .pan v, h', hop, hfa, hq, .inr ⟨v, rfl, hr.symm⟩⟩)
    | invoke x n =>
      simp only [hcl] at hr
      split at hr <;> try (simp at hr; done)
      rename_i fa hfa
      obtain ⟨f, args⟩ := fa
      split at hr <;> try (simp at hr; done)
      · rename_i v h' hq
        exact .inr (.inl ⟨c, f, args, .ret v, h', hop, hfa, hq, .inl ⟨v, rfl, hr⟩⟩)
      · rename_i v h' hq
        simp only [Option.some.injEq] at hr
        exact .inr (.inl ⟨c, f, args, .pan v, h', hop, hfa, hq, .inr ⟨v, rfl, hr.symm⟩⟩)
  · rename_i x hop
    split at hr <;> try (simp at hr; done)
    rename_i t v hx
    simp only [Option.some.injEq] at hr
    exact .inr (.inr ⟨x, t, v, hop, hx, hr.symm⟩)
  · split at hr <;> try (simp at hr; done)
    rename_i f hf
    exact .inl ⟨f, hf, hr⟩

theorem panic_wp {x : Operand} {t : TypeId} {v : Value} {o : Oper} {E : Tmp → Value} {a : Act} {K : Act → World → Prop} {Q : Exit → Act → World → Prop} (hop : o.op = .panic x) (hr : ARel m E a nt) (hg : GlobOk ng m) (ho : opersOk ng nt o = true)
    (hx : evalF E x = .iface t v) (hQ : ∀ v', VRel m (.iface t v) v' → Q (.panic [{ v := v', recovered := false }]) a w) : o.wp P a w K Q := by
  have hv := opers_rel hr hg ho x (by rw [hop]; simp [Op.operands])
  rw [hx] at hv
  generalize hv' : a.eval x = u at hv
  have hq := hQ u hv
  cases hv with
  | iface _ _ v' hvv =>
    unfold Oper.wp
    simp only [execOp, hop, hv', Instr.panic, Sem.run_bind, run_goPanic, Result.andThen_halt]
    exact hq

theorem ops_wp {cl : Caller} (hcl : CallOk P ng cl) (ops : Array Oper) : ∀ (l : List Oper) (k : Nat) (e e' : Env) (h h' : Heap) (ex : AExit), (∀ j, l[j]? = ops.toList[k + j]?) → l.all (opersOk ng nt) = true → HWf h → runOps P cl ops.toList l e h = some (ex, e', h') →
    HWf h' ∧ h.nx ≤ h'.nx ∧ ∀ (N : Nat) (F : Nat → Option Blk) (m : Mp) (w : World) (a : Act) (Q : Exit → Act → World → Prop), h'.nx ≤ N → HRel m (mix h N F) w → GlobOk ng m → ARel m e.at a nt →
      (∀ m' w' a' x, HRel m' (mix h' N F) w' → Step m w m' w' → ARel m' e'.at a' nt → XRel m' ex x → Q x a' w') → wpOps P ops Q (List.range' k l.length) a w := by
  intro l
  induction l with
  | nil =>
    intro k e e' h h' ex _ _ hwf hrun
    rw [runOps_nil] at hrun
    simp only [Option.some.injEq, Prod.mk.injEq] at hrun
    obtain ⟨rfl, rfl, rfl⟩ := hrun
    exact ⟨hwf, Nat.le_refl _, fun N F m w a Q _ hh _ hr hQ => hQ m w a .normal hh (.refl m w) hr rfl⟩
  | cons o r ih =>
    intro k e e' h h' ex hl hok hwf hrun
    rw [runOps_cons] at hrun
    simp only [List.all_cons, Bool.and_eq_true] at hok
    have h0 : ops[k]? = some o := by have := hl 0; simpa using this.symm
    have hl' : ∀ j, r[j]? = ops.toList[k + 1 + j]? := fun j => by have := hl (j + 1); simpa [Nat.add_assoc, Nat.add_comm 1 j] using this
    cases hw : wantedA ops.toList e o with
    | false =>
      rw [runOp_false hw] at hrun
      obtain ⟨g1, g2, g3⟩ := ih (k + 1) _ _ _ _ _ hl' hok.2 hwf hrun
      refine ⟨g1, g2, fun N F m w a Q hN hh hg hr hQ => ?_⟩
      simp only [List.length_cons, List.range'_succ, wpOps, h0]
      rw [if_neg (by rw [wanted_eq hr, ← wantedA_eq, hw]; simp)]
      refine g3 N F m w _ Q hN hh hg ?_ hQ
      rw [Env.put_at]
      exact hr.put VRel.undef (dst_lt hok.1)
    | true =>
      rcases runOp_true hw hrun with ⟨f, hf, hk⟩ | ⟨c, f, args, out, h1, hop, hca, hq, hor⟩ | ⟨x, t, v, hop, hx, hre⟩
      · obtain ⟨a1, a2⟩ := HWf.apply hwf (eff_ok hf)
        obtain ⟨g1, g2, g3⟩ := ih (k + 1) _ _ _ _ _ hl' hok.2 a1 hk
        refine ⟨g1, Nat.le_trans a2 g2, fun N F m w a Q hN hh hg hr hQ => ?_⟩
        simp only [List.length_cons, List.range'_succ, wpOps, h0]
        rw [if_pos (by rw [wanted_eq hr, ← wantedA_eq, hw])]
        left
        rw [Env.eval_eq] at hf
        refine eff_upon hh hwf (Nat.le_trans g2 hN) (Nat.le_trans a2 (Nat.le_trans g2 hN)) hr hg hok.1 hf ?_
        intro m' w' a' q1 q2 q3
        refine g3 N F m' w' a' Q hN q1 (hg.mono q2.ext) (by rw [Env.put_at]; exact q3) ?_
        intro m'' w'' a'' x p1 p2 p3 p4
        exact hQ m'' w'' a'' x p1 (q2.trans p2) p3 p4
      · obtain ⟨_, c1, c2, _⟩ := hcl f args h out h1 hq hwf
        rcases hor with ⟨v, rfl, hk⟩ | ⟨v, rfl, hre⟩
        · obtain ⟨g1, g2, g3⟩ := ih (k + 1) _ _ _ _ _ hl' hok.2 c1 hk
          refine ⟨g1, Nat.le_trans c2 g2, fun N F m w a Q hN hh hg hr hQ => ?_⟩
          simp only [List.length_cons, List.range'_succ, wpOps, h0]
          rw [if_pos (by rw [wanted_eq hr, ← wantedA_eq, hw])]
          left
          rw [Env.eval_eq] at hca
          refine call_upon hcl hop hh hwf (Nat.le_trans g2 hN) hr hg hok.1 hca hq ?_ ?_
          · intro v' hv' m' w' a' q1 q2 q3
            cases hv'
            refine g3 N F m' w' a' Q hN q1 (hg.mono q2.ext) (by rw [Env.put_at]; exact q3) ?_
            intro m'' w'' a'' x p1 p2 p3 p4
            exact hQ m'' w'' a'' x p1 (q2.trans p2) p3 p4
          · intro v' hv'; cases hv'
        · simp only [Prod.mk.injEq] at hre
          obtain ⟨rfl, rfl, rfl⟩ := hre
          refine ⟨c1, c2, fun N F m w a Q hN hh hg hr hQ => ?_⟩
          simp only [List.length_cons, List.range'_succ, wpOps, h0]
          rw [if_pos (by rw [wanted_eq hr, ← wantedA_eq, hw])]
          left
          rw [Env.eval_eq] at hca
          refine call_upon hcl hop hh hwf hN hr hg hok.1 hca hq ?_ ?_
          · intro v' hv'; cases hv'
          · intro v' hv' m' w' u q1 q2 q3
            cases hv'
            exact hQ m' w' a _ q1 q2 (hr.mono q2.ext) ⟨u, rfl, q3⟩
      · simp only [Prod.mk.injEq] at hre
        obtain ⟨rfl, rfl, rfl⟩ := hre
        refine ⟨hwf, Nat.le_refl _, fun N F m w a Q hN hh hg hr hQ => ?_⟩
        simp only [List.length_cons, List.range'_succ, wpOps, h0]
        rw [if_pos (by rw [wanted_eq hr, ← wantedA_eq, hw])]
        left
        rw [Env.eval_eq] at hx
        exact panic_wp hop hr hg hok.1 hx fun v' hv' => hQ m w a _ hh (.refl m w) hr ⟨v', rfl, hv'⟩

theorem region_wp {cl : Caller} (hcl : CallOk P ng cl) {ops : Array Oper} {id : Nat} {e e' : Env} {h h' : Heap} {ex : AExit} (hok : ops.toList.all (opersOk ng nt) = true) (hrun : runOps P cl ops.toList ops.toList e h = some (ex, e', h')) :
    Comes' P ng nt (.region id ops false) ex e e' h h' := by
  intro hwf
  obtain ⟨g1, g2, g3⟩ := ops_wp hcl ops ops.toList 0 e e' h h' ex (fun j => by simp) hok hwf hrun
  refine ⟨g1, g2, fun N F m w a Q hN hh hg hr hQ => wp_region ?_⟩
  have := g3 N F m w a Q hN hh hg hr hQ
  rwa [Array.length_toList, ← List.range_eq_range'] at this
end Go.AM
