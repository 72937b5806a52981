/- Regions whose order is the text's. -/
import Derived.Test.YtkkdpbicppdglaaGreatDoorAmRun1
namespace Go.AM
variable {P : Program} {m : Mp} {h : Heap} {N ng nt : Nat} {F : Nat → Option Blk} {w : World}

/-- how the abstract machine's ways out are the model's. -/
def XRel (m : Mp) : AExit → Exit → Prop
  | .normal, x => x = .normal
  | .ret, x => x = .ret
  | .exit id, x => x = .exit id
  | .goto l, x => x = .goto l
  | .pan v, x => ∃ v', x = .panic [{ v := v', recovered := false }] ∧ VRel m v v'

def Known (v : Value) : Prop := (∀ r, v ≠ .chan r) ∧ v ≠ topV
theorem wanted_eq {ops : Array Oper} {E : Tmp → Value} {a : Act} {o : Oper} (hr : ARel m E a nt) (hgk : ∀ j want d, o.guard = some (j, want) → (ops.toList[j]?).bind (·.dst) = some d → Known (E d)) :
    Region.wanted o (yielded ops a.tmps) = (match o.guard with
      | none => true
      | some (j, want) => match (ops.toList[j]?).bind (·.dst) with
        | some d => match E d with
          | .bool b => Bool.rec (Bool.not want) want b
          | _ => false
        | none => false) := by
  unfold Region.wanted
  cases hg : o.guard with
  | none => rfl
  | some x =>
    obtain ⟨j, want⟩ := x
    simp only [yielded, Array.getElem?_toList]
    cases hd : (ops[j]?).bind (·.dst) with
    | none => rfl
    | some d =>
      simp only [Option.bind_some]
      have := hr.tm d
      have hnc := hgk j want d hg (by rw [Array.getElem?_toList]; exact hd)
      rw [Array.getD_eq_getD_getElem?] at this
      cases ht : a.tmps[d]? with
      | none =>
        rw [ht, Option.getD_none] at this
        cases hE : E d <;> rw [hE] at this <;> first | rfl | exact absurd hE (hnc.1 _) | (cases this)
      | some v =>
        rw [ht, Option.getD_some] at this
        cases hE : E d <;> rw [hE] at this <;> cases this <;> first | exact absurd hE (hnc.1 _) | exact absurd hE hnc.2 | rfl | (rename_i b; cases b <;> cases want <;> rfl)
theorem wantedA_eq {ops : List Oper} {e : Env} {o : Oper} : wantedA ops e o = (match o.guard with
      | none => true
      | some (j, want) => match (ops[j]?).bind (·.dst) with
        | some d => match e.at d with
          | .bool b => Bool.rec (Bool.not want) want b
          | _ => false
        | none => false) := rfl

theorem HWf.apply {f : Eff} (hwf : HWf h) (he : EffOk h.get f) : HWf (h.apply f) ∧ h.nx ≤ (h.apply f).nx := by
  have hnw : ∀ (l : List Blk) (t : Trie Blk) (nx : Nat), (∀ b, nx ≤ b → t.get b = none) → HWf (applyNw t nx l) ∧ nx ≤ (applyNw t nx l).nx := by
    intro l
    induction l with
    | nil => intro t nx ht; exact ⟨ht, Nat.le_refl _⟩
    | cons x r ih =>
      intro t nx ht
      have := ih (t.set nx x) (nx + 1) (fun b hb => by rw [Trie.get_set_ne _ _ (by omega)]; exact ht b (by omega))
      exact ⟨this.1, Nat.le_trans (Nat.le_succ _) this.2⟩
  have hwr : ∀ b, h.nx ≤ b → (applyWr h.t f.wr).get b = none := by
    intro b hb
    rcases he with e | ⟨b0, x, e, hne⟩
    · rw [e]; exact hwf b hb
    · rw [e]
      show (h.t.set b0 x).get b = none
      have : b ≠ b0 := by intro q; subst q; exact hne (hwf b hb)
      rw [Trie.get_set_ne _ _ this]
      exact hwf b hb
  obtain ⟨v, wr, nw⟩ := f
  cases nw with
  | nil =>
    cases wr with
    | nil => exact ⟨hwf, Nat.le_refl _⟩
    | cons x r => exact ⟨hwr, Nat.le_refl _⟩
  | cons x r => exact hnw (x :: r) _ _ hwr

/-- What running code comes to. -/
def Comes' (P : Program) (ng nt : Nat) (c : Code) (ex : AExit) (e e' : Env) (h h' : Heap) : Prop :=
  HWf h → HWf h' ∧ h.nx ≤ h'.nx ∧ ∀ (N : Nat) (F : Nat → Option Blk) (m : Mp) (w : World) (a : Act) (Q : Exit → Act → World → Prop), h'.nx ≤ N → HRel m (mix h N F) w → GlobOk ng m → ARel m e.at a nt →
    (∀ m' w' a' x, HRel m' (mix h' N F) w' → Step m w m' w' → ARel m' e'.at a' nt → XRel m' ex x → Q x a' w') → c.wp P Q a w

theorem runOps_nil {cl : Caller} {all : List Oper} {e : Env} {h : Heap} : runOps P cl all [] e h = some (.normal, e, h) := rfl
theorem runOps_cons {cl : Caller} {all : List Oper} {o : Oper} {r : List Oper} : runOps P cl all (o :: r) = runOp P cl all o (runOps P cl all r) := rfl
theorem heapK_eq {α : Type} (f : Eff) (h : Heap) (k : Heap → α) : heapK α f h k = k (h.apply f) := by
  obtain ⟨v, wr, nw⟩ := f
  cases nw with
  | nil => cases wr with
    | nil => rfl
    | cons _ _ => rfl
  | cons _ _ => rfl
theorem forceN_eq (α : Type) (n : Nat) (k : Nat → α) : forceN α n k = k n := by cases n <;> rfl
theorem forceB_eq (α : Type) (n : Bool) (k : Bool → α) : forceB α n k = k n := by cases n <;> rfl
theorem forceI_eq (α : Type) (n : Int) (k : Int → α) : forceI α n k = k n := by cases n <;> exact forceN_eq α _ _
theorem forceO_eq (α : Type) (n : Option Nat) (k : Option Nat → α) : forceO α n k = k n := by
  cases n with
  | none => rfl
  | some n => exact forceN_eq α _ _
theorem forceA_eq (α : Type) (n : Option Addr) (k : Option Addr → α) : forceA α n k = k n := by
  cases n with
  | none => rfl
  | some n =>
    obtain ⟨b, o, s⟩ := n
    show forceN α b (fun b => forceN α o fun o => forceO α s fun s => k (some ⟨b, o, s⟩)) = _
    rw [forceN_eq, forceN_eq, forceO_eq]
theorem forceK_eq (α : Type) (n : IntKind) (k : IntKind → α) : forceK α n k = k n := by cases n <;> rfl
theorem forceL_eq (α : Type) (fv : Value → (Value → α) → α) (hf : ∀ v k, fv v k = k v) (l : List Value) : ∀ k, forceL α fv l k = k l := by
  induction l with
  | nil => exact fun _ => rfl
  | cons x r ih =>
    intro k
    show fv x (fun x => forceL α fv r fun r => k (x :: r)) = _
    rw [hf, ih]
theorem forceV_eq (α : Type) (n : Nat) : ∀ (v : Value) (k : Value → α), forceV α n v k = k v := by
  induction n with
  | zero => exact fun _ _ => rfl
  | succ n ih =>
    intro v k
    show forceV1 α (forceV α n) v k = _
    cases v <;> simp only [forceV1, forceB_eq, forceK_eq, forceI_eq, forceA_eq, forceN_eq, forceO_eq, ih, forceL_eq α _ ih]
theorem callK_eq (cl : Caller) (x : FuncId × List Value) (h : Heap) : callK cl x h = cl x.1 x.2 h := by
  obtain ⟨f, as⟩ := x
  show forceN _ f (fun f => forceL _ (forceV _ 4) as fun as => cl f as h) = _
  rw [forceN_eq, forceL_eq _ _ (forceV_eq _ 4)]
theorem runOp_eq {cl : Caller} {all : List Oper} {o : Oper} {k : Env → Heap → Res} {e : Env} {h : Heap} : runOp P cl all o k e h = runOpS P cl all o k e h := by
  obtain ⟨dst, op, type, pos, after, guard⟩ := o
  have key : ∀ o : Oper, rGo o.op P cl o k e h = (match o.op with
      | .call c => match c.callee with
        | .builtin b => match builtinEff P b c.argTypes (c.args.toList.map e.eval) h.get h.nx with
          | some f => k (e.put o.dst f.val) (h.apply f)
          | none => none
        | _ => match callee P c e.eval with
          | some x => match cl x.1 x.2 h with
            | some (.ret v, h') => k (e.put o.dst v) h'
            | some (.pan v, h') => some (.pan v, e, h')
            | none => none
          | none => none
      | .panic x => match e.eval x with
        | .iface t v => some (.pan (.iface t v), e, h)
        | _ => none
      | .entry x => match effEntry (e.eval x) h.get with
        | some v => k (e.put o.dst v) h
        | none => none
      | op => match eff P op e.eval h.get h.nx with
        | some f => k (e.put o.dst f.val) (h.apply f)
        | none => none) := by
    intro o
    have fin : ∀ f : Option Eff, rFin f o k e h = (match f with
        | some f => k (e.put o.dst f.val) (h.apply f)
        | none => none) := fun f => by
      cases f with
      | none => rfl
      | some f => exact heapK_eq f h _
    obtain ⟨dst, op, type, pos, after, guard⟩ := o
    cases op with
    | call c =>
      show r_call c P cl _ k e h = _
      unfold r_call
      simp only
      cases hc : c.callee with
      | builtin b => simp only; exact fin _
      | value f => simp only [callK_eq]; rfl
      | invoke r n => simp only [callK_eq]; rfl
    | _ => first | rfl | exact fin _
  cases guard with
  | none =>
    show rGo op P cl _ k e h = _
    rw [show rGo op P cl ⟨dst, op, type, pos, after, none⟩ k e h = _ from key ⟨dst, op, type, pos, after, none⟩]
    rfl
  | some g =>
    show (Bool.rec none (Bool.rec (k (e.put dst undef) h) (rGo op P cl ⟨dst, op, type, pos, after, some g⟩ k e h) (wantedA all e ⟨dst, op, type, pos, after, some g⟩)) (guardOk all e ⟨dst, op, type, pos, after, some g⟩) : Res) = _
    rw [show rGo op P cl ⟨dst, op, type, pos, after, some g⟩ k e h = _ from key ⟨dst, op, type, pos, after, some g⟩]
    rfl
theorem runOp_ok {cl : Caller} {all : List Oper} {o : Oper} {k : Env → Heap → Res} {e : Env} {h : Heap} {r : AExit × Env × Heap} (hr : runOp P cl all o k e h = some r) : guardOk all e o = true := by
  rw [runOp_eq] at hr
  unfold runOpS at hr
  cases hg : guardOk all e o with
  | true => rfl
  | false => rw [hg] at hr; simp at hr
theorem guardOk_at {ops : Array Oper} {e : Env} {o : Oper} (hg : guardOk ops.toList e o = true) : ∀ j want d, o.guard = some (j, want) → (ops.toList[j]?).bind (·.dst) = some d → Known (e.at d) := by
  intro j want d h1 h2
  unfold guardOk at hg
  rw [h1] at hg
  refine ⟨fun r h3 => ?_, fun h3 => ?_⟩
  · simp only [h2, h3] at hg
    cases hg
  · simp only [h2, h3, topV] at hg
    cases hg
theorem runOp_false {cl : Caller} {all : List Oper} {o : Oper} {k : Env → Heap → Res} {e : Env} {h : Heap} (hg : guardOk all e o = true) (hw : wantedA all e o = false) : runOp P cl all o k e h = k (e.put o.dst undef) h := by
  rw [runOp_eq]; unfold runOpS; rw [hg, hw]
/-- the ways of one operation that is wanted. -/
theorem runOp_true {cl : Caller} {all : List Oper} {o : Oper} {k : Env → Heap → Res} {e : Env} {h : Heap} {r : AExit × Env × Heap} (hw : wantedA all e o = true) (hr : runOp P cl all o k e h = some r) :
    (∃ f, eff P o.op e.eval h.get h.nx = some f ∧ k (e.put o.dst f.val) (h.apply f) = some r) ∨
    (∃ c f args out h', o.op = .call c ∧ callee P c e.eval = some (f, args) ∧ cl f args h = some (out, h') ∧
      ((∃ v, out = .ret v ∧ k (e.put o.dst v) h' = some r) ∨ (∃ v, out = .pan v ∧ r = (.pan v, e, h')))) ∨
    (∃ x t v, o.op = .panic x ∧ e.eval x = .iface t v ∧ r = (.pan (.iface t v), e, h)) ∨
    (∃ x v, o.op = .entry x ∧ effEntry (e.eval x) h.get = some v ∧ k (e.put o.dst v) h = some r) := by
  have hg := runOp_ok hr
  rw [runOp_eq] at hr
  unfold runOpS at hr
  rw [hg, hw] at hr
  simp only at hr
  split at hr
  · rename_i c hop
    cases hcl : c.callee with
    | builtin b =>
      simp only [hcl] at hr
      split at hr <;> try (simp at hr; done)
      rename_i f hf
      refine .inl ⟨f, ?_, hr⟩
      rw [hop]
      simp only [eff, effCall, hcl]
      exact hf
    | value x =>
      simp only [hcl] at hr
      split at hr <;> try (simp at hr; done)
      rename_i fa hfa
      obtain ⟨f, args⟩ := fa
      split at hr <;> try (simp at hr; done)
      · rename_i v h' hq
        exact .inr (.inl ⟨c, f, args, .ret v, h', hop, hfa, hq, .inl ⟨v, rfl, hr⟩⟩)
      · rename_i v h' hq
        simp only [Option.some.injEq] at hr
        exact .inr (.inl ⟨c, f, args, .pan v, h', hop, hfa, hq, .inr ⟨v, rfl, hr.symm⟩⟩)
    | invoke x n =>
      simp only [hcl] at hr
      split at hr <;> try (simp at hr; done)
      rename_i fa hfa
      obtain ⟨f, args⟩ := fa
      split at hr <;> try (simp at hr; done)
      · rename_i v h' hq
        exact .inr (.inl ⟨c, f, args, .ret v, h', hop, hfa, hq, .inl ⟨v, rfl, hr⟩⟩)
      · rename_i v h' hq
        simp only [Option.some.injEq] at hr
        exact .inr (.inl ⟨c, f, args, .pan v, h', hop, hfa, hq, .inr ⟨v, rfl, hr.symm⟩⟩)
  · rename_i x hop
    split at hr <;> try (simp at hr; done)
    rename_i t v hx
    simp only [Option.some.injEq] at hr
    exact .inr (.inr (.inl ⟨x, t, v, hop, hx, hr.symm⟩))
  · rename_i x hop
    split at hr <;> try (simp at hr; done)
    rename_i v hv
    exact .inr (.inr (.inr ⟨x, v, hop, hv, hr⟩))
  · split at hr <;> try (simp at hr; done)
    rename_i f hf
    exact .inl ⟨f, hf, hr⟩

theorem panic_wp {x : Operand} {t : TypeId} {v : Value} {o : Oper} {E : Tmp → Value} {a : Act} {K : Act → World → Prop} {Q : Exit → Act → World → Prop} (hop : o.op = .panic x) (hr : ARel m E a nt) (hg : GlobOk ng m) (ho : opersOk ng nt o = true)
    (hx : evalF E x = .iface t v) (hQ : ∀ v', VRel m (.iface t v) v' → Q (.panic [{ v := v', recovered := false }]) a w) : o.wp P a w K Q := by
  have hv := opers_rel hr hg ho x (by rw [hop]; simp [Op.operands])
  rw [hx] at hv
  generalize hv' : a.eval x = u at hv
  have hq := hQ u hv
  cases hv with
  | iface _ _ v' hvv =>
    unfold Oper.wp
    simp only [execOp, hop, hv', Instr.panic, Sem.run_bind, run_goPanic, Result.andThen_halt]
    exact hq

theorem entry_wp {x : Operand} {v : Value} {o : Oper} {E : Tmp → Value} {a : Act} {K : Act → World → Prop} {Q : Exit → Act → World → Prop} (hop : o.op = .entry x) (hh : HRel m (mix h N F) w) (hwf : HWf h) (hN : h.nx ≤ N) (hr : ARel m E a nt) (hg : GlobOk ng m) (ho : opersOk ng nt o = true)
    (hx : effEntry (evalF E x) h.get = some v) (hK : ∀ v', VRel m v v' → K (a.put o.dst v') w) : o.wp P a w K Q := by
  have hv := opers_rel hr hg ho x (by rw [hop]; simp [Op.operands])
  unfold effEntry at hx
  split at hx <;> try (simp at hx; done)
  rename_i d hd
  rw [hd] at hv
  split at hx <;> try (simp at hx; done)
  rename_i r b last hgd
  split at hx <;> try (simp at hx; done)
  rename_i es c hgr
  cases hc : Nat.beq c last with
  | false => rw [hc] at hx; simp at hx
  | true =>
  rw [hc] at hx
  simp only [cond_true] at hx
  split at hx <;> try (simp at hx; done)
  rename_i q hq
  simp only [Option.some.injEq] at hx
  subst hx
  have hc : c = last := Nat.eq_of_beq_eq_true hc
  subst hc
  have hb := hr.1
  have h1 := hh.at hwf hN hgd
  obtain ⟨l2, hm2, _, ces, q1, q2⟩ := hh.map hwf hN hgr
  cases hm : m d with
  | fresh => rw [hm] at h1; exact h1.elim
  | dead => rw [hm] at h1; exact h1.elim
  | sym k n => rw [hm] at h1; exact h1.elim
  | live l =>
    rw [hm] at h1
    obtain ⟨⟨_, hsh⟩, cbm, since, sa, p1, p2, p4⟩ := h1
    have hcb : l2.cb = cbm := by
      rcases p2 with p2 | ⟨lr, p2, p3⟩
      · rw [hm2] at p2; cases p2
      · rw [hm2] at p2; cases p2; exact p3
    subst hcb
    generalize hv' : a.eval x = u at hv
    have := ptr_live hv hm
    subst this
    have hfind : ∃ ce, ces.toList.find? (·.born == b) = some ce ∧ q.1 = ce.key ∧ simpleKey q.1 = true ∧ VRel m q.2.1 ce.val := by
      clear q1 hgr hb
      generalize ces.toList = l at q2
      induction es generalizing l with
      | nil => simp at hq
      | cons y r ih =>
        cases l with
        | nil => exact q2.elim
        | cons z s =>
          obtain ⟨⟨e1, e2, e3, e4⟩, e5⟩ := q2
          rw [List.find?_cons] at hq
          rw [List.find?_cons]
          cases hz : Nat.beq y.2.2 b with
          | true =>
            rw [hz] at hq
            simp only [Option.some.injEq] at hq
            subst hq
            have : (z.born == b) = true := by rw [← e4]; simpa using Nat.eq_of_beq_eq_true hz
            rw [this]
            exact ⟨z, rfl, e1, e2, e3⟩
          | false =>
            rw [hz] at hq
            have : (z.born == b) = false := by
              rw [← e4, ← Bool.not_eq_true]
              intro h
              have h := beq_iff_eq.1 h
              rw [h, Nat.beq_refl] at hz
              cases hz
            rw [this]
            exact ih hq _ e5
    obtain ⟨ce, f1, f2, f3, f4⟩ := hfind
    have hback : sa.back? = some b := p4
    have hrun : (Instr.entry (.pointer (some ⟨l.cb, l.sh + 0, none⟩))).run P w = .ok (.tuple #[ce.key, ce.val]) w := by
      rw [hsh]
      have hf : ces.find? (·.born == b) = some ce := by rw [← Array.find?_toList]; exact f1
      simp only [Instr.entry, getObj, Sem.run_bind, Sem.run, p1, q1, Result.andThen, hback, bne_self_eq_false, Bool.false_eq_true, if_false, hf]
      rfl
    unfold Oper.wp
    simp only [execOp, hop, hv', Sem.run_bind, hrun, Result.andThen_ok, Sem.run_pure]
    refine hK _ (.tuple _ _ (.cons _ _ _ _ ?_ (.cons _ _ _ _ f4 .nil)))
    rw [← f2]
    cases hk : q.1 <;> rw [hk] at f3 <;> first | exact .bool _ | exact .int _ _ | exact .string _ | (simp [simpleKey] at f3)

theorem ops_wp {cl : Caller} (hcl : CallOk P ng cl) (ops : Array Oper) : ∀ (l : List Oper) (k : Nat) (e e' : Env) (h h' : Heap) (ex : AExit), (∀ j, l[j]? = ops.toList[k + j]?) → l.all (opersOk ng nt) = true → HWf h → runOps P cl ops.toList l e h = some (ex, e', h') →
    HWf h' ∧ h.nx ≤ h'.nx ∧ ∀ (N : Nat) (F : Nat → Option Blk) (m : Mp) (w : World) (a : Act) (Q : Exit → Act → World → Prop), h'.nx ≤ N → HRel m (mix h N F) w → GlobOk ng m → ARel m e.at a nt →
      (∀ m' w' a' x, HRel m' (mix h' N F) w' → Step m w m' w' → ARel m' e'.at a' nt → XRel m' ex x → Q x a' w') → wpOps P ops Q (List.range' k l.length) a w := by
  intro l
  induction l with
  | nil =>
    intro k e e' h h' ex _ _ hwf hrun
    rw [runOps_nil] at hrun
    simp only [Option.some.injEq, Prod.mk.injEq] at hrun
    obtain ⟨rfl, rfl, rfl⟩ := hrun
    exact ⟨hwf, Nat.le_refl _, fun N F m w a Q _ hh _ hr hQ => hQ m w a .normal hh (.refl m w) hr rfl⟩
  | cons o r ih =>
    intro k e e' h h' ex hl hok hwf hrun
    rw [runOps_cons] at hrun
    simp only [List.all_cons, Bool.and_eq_true] at hok
    have h0 : ops[k]? = some o := by have := hl 0; simpa using this.symm
    have hl' : ∀ j, r[j]? = ops.toList[k + 1 + j]? := fun j => by have := hl (j + 1); simpa [Nat.add_assoc, Nat.add_comm 1 j] using this
    have hgo := runOp_ok hrun
    have hgk := guardOk_at hgo
    cases hw : wantedA ops.toList e o with
    | false =>
      rw [runOp_false hgo hw] at hrun
      obtain ⟨g1, g2, g3⟩ := ih (k + 1) _ _ _ _ _ hl' hok.2 hwf hrun
      refine ⟨g1, g2, fun N F m w a Q hN hh hg hr hQ => ?_⟩
      simp only [List.length_cons, List.range'_succ, wpOps, h0]
      rw [if_neg (by rw [wanted_eq hr hgk, ← wantedA_eq, hw]; simp)]
      refine g3 N F m w _ Q hN hh hg ?_ hQ
      rw [Env.put_at]
      exact hr.put VRel.undef (dst_lt hok.1)
    | true =>
      rcases runOp_true hw hrun with ⟨f, hf, hk⟩ | ⟨c, f, args, out, h1, hop, hca, hq, hor⟩ | ⟨x, t, v, hop, hx, hre⟩ | ⟨x, v, hop, hv, hk⟩
      · obtain ⟨a1, a2⟩ := HWf.apply hwf (eff_ok hf)
        obtain ⟨g1, g2, g3⟩ := ih (k + 1) _ _ _ _ _ hl' hok.2 a1 hk
        refine ⟨g1, Nat.le_trans a2 g2, fun N F m w a Q hN hh hg hr hQ => ?_⟩
        simp only [List.length_cons, List.range'_succ, wpOps, h0]
        rw [if_pos (by rw [wanted_eq hr hgk, ← wantedA_eq, hw])]
        left
        rw [Env.eval_eq] at hf
        refine eff_upon hh hwf (Nat.le_trans g2 hN) (Nat.le_trans a2 (Nat.le_trans g2 hN)) hr hg hok.1 hf ?_
        intro m' w' a' q1 q2 q3
        refine g3 N F m' w' a' Q hN q1 (hg.mono q2.ext) (by rw [Env.put_at]; exact q3) ?_
        intro m'' w'' a'' x p1 p2 p3 p4
        exact hQ m'' w'' a'' x p1 (q2.trans p2) p3 p4
      · obtain ⟨_, c1, c2, _⟩ := hcl f args h out h1 hq hwf
        rcases hor with ⟨v, rfl, hk⟩ | ⟨v, rfl, hre⟩
        · obtain ⟨g1, g2, g3⟩ := ih (k + 1) _ _ _ _ _ hl' hok.2 c1 hk
          refine ⟨g1, Nat.le_trans c2 g2, fun N F m w a Q hN hh hg hr hQ => ?_⟩
          simp only [List.length_cons, List.range'_succ, wpOps, h0]
          rw [if_pos (by rw [wanted_eq hr hgk, ← wantedA_eq, hw])]
          left
          rw [Env.eval_eq] at hca
          refine call_upon hcl hop hh hwf (Nat.le_trans g2 hN) hr hg hok.1 hca hq ?_ ?_
          · intro v' hv' m' w' a' q1 q2 q3
            cases hv'
            refine g3 N F m' w' a' Q hN q1 (hg.mono q2.ext) (by rw [Env.put_at]; exact q3) ?_
            intro m'' w'' a'' x p1 p2 p3 p4
            exact hQ m'' w'' a'' x p1 (q2.trans p2) p3 p4
          · intro v' hv'; cases hv'
        · simp only [Prod.mk.injEq] at hre
          obtain ⟨rfl, rfl, rfl⟩ := hre
          refine ⟨c1, c2, fun N F m w a Q hN hh hg hr hQ => ?_⟩
          simp only [List.length_cons, List.range'_succ, wpOps, h0]
          rw [if_pos (by rw [wanted_eq hr hgk, ← wantedA_eq, hw])]
          left
          rw [Env.eval_eq] at hca
          refine call_upon hcl hop hh hwf hN hr hg hok.1 hca hq ?_ ?_
          · intro v' hv'; cases hv'
          · intro v' hv' m' w' u q1 q2 q3
            cases hv'
            exact hQ m' w' a _ q1 q2 (hr.mono q2.ext) ⟨u, rfl, q3⟩
      · simp only [Prod.mk.injEq] at hre
        obtain ⟨rfl, rfl, rfl⟩ := hre
        refine ⟨hwf, Nat.le_refl _, fun N F m w a Q hN hh hg hr hQ => ?_⟩
        simp only [List.length_cons, List.range'_succ, wpOps, h0]
        rw [if_pos (by rw [wanted_eq hr hgk, ← wantedA_eq, hw])]
        left
        rw [Env.eval_eq] at hx
        exact panic_wp hop hr hg hok.1 hx fun v' hv' => hQ m w a _ hh (.refl m w) hr ⟨v', rfl, hv'⟩
      · obtain ⟨g1, g2, g3⟩ := ih (k + 1) _ _ _ _ _ hl' hok.2 hwf hk
        refine ⟨g1, g2, fun N F m w a Q hN hh hg hr hQ => ?_⟩
        simp only [List.length_cons, List.range'_succ, wpOps, h0]
        rw [if_pos (by rw [wanted_eq hr hgk, ← wantedA_eq, hw])]
        left
        rw [Env.eval_eq] at hv
        refine entry_wp hop hh hwf (Nat.le_trans g2 hN) hr hg hok.1 hv ?_
        intro v' hv'
        refine g3 N F m w _ Q hN hh hg ?_ hQ
        rw [Env.put_at]
        exact hr.put hv' (dst_lt hok.1)

theorem region_wp {cl : Caller} (hcl : CallOk P ng cl) {ops : Array Oper} {id : Nat} {e e' : Env} {h h' : Heap} {ex : AExit} (hok : ops.toList.all (opersOk ng nt) = true) (hrun : runOps P cl ops.toList ops.toList e h = some (ex, e', h')) :
    Comes' P ng nt (.region id ops false) ex e e' h h' := by
  intro hwf
  obtain ⟨g1, g2, g3⟩ := ops_wp hcl ops ops.toList 0 e e' h h' ex (fun j => by simp) hok hwf hrun
  refine ⟨g1, g2, fun N F m w a Q hN hh hg hr hQ => wp_region ?_⟩
  have := g3 N F m w a Q hN hh hg hr hQ
  rwa [Array.length_toList, ← List.range_eq_range'] at this
end Go.AM
