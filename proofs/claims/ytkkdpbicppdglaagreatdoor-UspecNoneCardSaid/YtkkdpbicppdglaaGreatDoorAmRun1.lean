/- Steps of the machine: one operation. -/
import Derived.Test.YtkkdpbicppdglaaGreatDoorAmLocal2
import Derived.Orders
namespace Go.AM

def evalF (E : Tmp → Value) : Operand → Value
  | .tmp t => E t
  | .const v => v
  | .global g => .pointer (some ⟨g, 0, none⟩)
  | .func f => .func (.func f) #[] #[]
def putF (E : Tmp → Value) (d : Option Tmp) (v : Value) : Tmp → Value := fun t => if d = some t then v else E t

theorem Env.at_eq (e : Env) (t : Tmp) : e.at t = (e.get t).getD topV := by
  unfold Env.at
  cases e.get t <;> rfl
theorem Env.eval_eq (e : Env) : e.eval = evalF e.at := by
  funext x; cases x <;> rfl
theorem Env.put_at (e : Env) (d : Option Tmp) (v : Value) : (e.put d v).at = putF e.at d v := by
  funext t
  cases d with
  | none => simp [Env.put, putF]
  | some d =>
    simp only [Env.put, Env.at_eq, Trie.get_set, putF, Option.some.injEq]
    by_cases h : t = d
    · subst h; simp
    · rw [if_neg h, if_neg (Ne.symm h)]

def GlobOk (ng : Nat) (m : Mp) : Prop := ∀ g, g < ng → (∃ l, m g = .live l ∧ l.cb = g ∧ l.sh = 0 ∧ l.rw = false) ∨ m g = .dead
theorem GlobOk.mono {ng : Nat} {m m' : Mp} (h : GlobOk ng m) (e : Ext m m') : GlobOk ng m' := fun g hg => by
  rcases h g hg with ⟨l, h1, h2, h3, h4⟩ | h1
  · exact .inl ⟨l, e.ro h1 h4, h2, h3, h4⟩
  · exact .inr (e.dead h1)

structure ARel (m : Mp) (E : Tmp → Value) (a : Act) (nt : Nat) : Prop where
  tm : ∀ t, VRel m (E t) (a.tmps.getD t undef)
  size : nt ≤ a.tmps.size
  def_ : a.defers = []

variable {P : Program} {m : Mp} {h : Heap} {N ng nt : Nat} {F : Nat → Option Blk} {w : World} {E : Tmp → Value} {a : Act}

theorem ARel.mono {m' : Mp} (hr : ARel m E a nt) (e : Ext m m') : ARel m' E a nt := ⟨fun t => (hr.tm t).mono e, hr.size, hr.def_⟩
theorem ARel.eval (hr : ARel m E a nt) (hg : GlobOk ng m) {x : Operand} (hx : operOk ng x = true) : VRel m (evalF E x) (a.eval x) := by
  cases x with
  | tmp t => exact hr.tm t
  | const v => exact plainV_rel hx
  | global g =>
    have hlt : g < ng := by simpa [operOk, Nat.blt_eq] using hx
    rcases hg g hlt with ⟨l, h1, h2, h3, _⟩ | h1
    · have := VRel.ptr g 0 l h1
      rw [h2, h3] at this
      exact this
    · exact .ptrDead _ _ h1
  | func f => exact .func (.func f) #[] #[] #[] #[] .nil .nil
theorem ARel.put (hr : ARel m E a nt) {d : Option Tmp} {v v' : Value} (hv : VRel m v v') (hd : ∀ t, d = some t → t < nt) : ARel m (putF E d v) (a.put d v') nt := by
  cases d with
  | none =>
    refine ⟨fun t => ?_, hr.size, hr.def_⟩
    have := hr.tm t
    simp only [putF, reduceCtorEq, if_false]
    exact this
  | some d =>
    refine ⟨fun t => ?_, by simpa [Act.put] using hr.size, hr.def_⟩
    simp only [putF, Act.put, Option.some.injEq]
    by_cases e : d = t
    · subst e
      have hlt : d < a.tmps.size := Nat.lt_of_lt_of_le (hd d rfl) hr.size
      simp [hlt]; exact hv
    · rw [if_neg e]
      have := hr.tm t
      simpa [Array.getElem?_setIfInBounds_ne e] using this

/-- What a call comes to. -/
def ORel (m : Mp) : Out → Ending → Prop
  | .ret v, e => ∃ v', e = .returned v' ∧ VRel m v v'
  | .pan v, e => ∃ v', e = .panicked [{ v := v', recovered := false }] ∧ VRel m v v'
def Enter (P : Program) (f : FuncId) : Prop := ∀ args w, (callFunc f args).run P w = .ok (.enter f args) w
/-- A way to do calls that the model bears out. -/
def CallOk (P : Program) (ng : Nat) (cl : Caller) : Prop := ∀ f args h o h', cl f args h = some (o, h') → HWf h →
  Enter P f ∧ HWf h' ∧ h.nx ≤ h'.nx ∧ ∀ (N : Nat) (F : Nat → Option Blk) (m : Mp) (w : World) (args' : List Value), h'.nx ≤ N → HRel m (mix h N F) w → GlobOk ng m → VRels m args args' →
    Calls P f args'.toArray w fun e w' => ∃ m', ORel m' o e ∧ HRel m' (mix h' N F) w' ∧ Step m w m' w'

/- ## one operation -/
theorem opers_rel (hr : ARel m E a nt) (hg : GlobOk ng m) {o : Oper} (ho : opersOk ng nt o = true) : ∀ x ∈ o.op.operands.toList, VRel m (evalF E x) (a.eval x) := by
  intro x hx
  simp only [opersOk, Bool.and_eq_true] at ho
  exact hr.eval hg ((List.all_eq_true.1 ho.1) x hx)
theorem dst_lt {o : Oper} (ho : opersOk ng nt o = true) : ∀ t, o.dst = some t → t < nt := by
  intro t ht
  simp only [opersOk, Bool.and_eq_true, ht] at ho
  simpa [Nat.blt_eq] using ho.2

theorem eff_upon {o : Oper} {f : Eff} {K : Act → World → Prop} {Q : Exit → Act → World → Prop} (hh : HRel m (mix h N F) w) (hwf : HWf h) (hN : (h.apply f).nx ≤ N) (hN0 : h.nx ≤ N) (hr : ARel m E a nt) (hg : GlobOk ng m) (ho : opersOk ng nt o = true)
    (he : eff P o.op (evalF E) h.get h.nx = some f) (hK : ∀ m' w' a', HRel m' (mix (h.apply f) N F) w' → Step m w m' w' → ARel m' (putF E o.dst f.val) a' nt → K a' w') : o.wp P a w K Q := by
  obtain ⟨r, w', m', v', h1, h2, h3, h4, h5⟩ := eff_does (ρ' := a.eval) hh hwf hN hN0 (opers_rel hr hg ho) he
  unfold Oper.wp
  rw [h1]
  have hp := (hr.mono h5.ext).put h3 (dst_lt ho)
  rcases h2 with rfl | ⟨rfl, rfl⟩
  · exact hK m' w' _ h4 h5 hp
  · exact hK m' w' _ h4 h5 hp

theorem call_run {c : Call} {o : Oper} {f : FuncId} {args : List Value} {ρ ρ' : Operand → Value} (hoc : o.op = .call c) (hρ : ∀ x ∈ c.operands.toList, VRel m (ρ x) (ρ' x)) (hc : callee P c ρ = some (f, args)) (hen : Enter P f) :
    ∃ args' : List Value, VRels m args args' ∧ (execOp ρ' o).run P w = .ok (.enter f args'.toArray) w := by
  have ha : VRels m (c.args.toList.map ρ) (c.args.toList.map ρ') := VRels.map fun x hx => hρ x (by simp [Call.operands, hx])
  unfold callee at hc
  cases hcl : c.callee with
  | builtin b => simp [hcl] at hc
  | value x =>
    simp only [hcl] at hc
    split at hc <;> try (simp at hc; done)
    rename_i fid first captured hx
    simp only [Option.some.injEq, Prod.mk.injEq] at hc
    obtain ⟨rfl, rfl⟩ := hc
    have hv : VRel m (ρ x) (ρ' x) := hρ x (by simp [Call.operands, hcl])
    rw [hx] at hv
    generalize hv' : ρ' x = v' at hv
    cases hv with
    | func _ _ _ first' captured' h1 h2 =>
      refine ⟨first'.toList ++ c.args.toList.map ρ' ++ captured'.toList, (h1.append ha).append h2, ?_⟩
      simp only [execOp, hoc, resolve, hcl, hv', Deferred.ofValue, Sem.run_bind, Sem.run_pure, Result.andThen_ok, invoke]
      rw [hen]
      congr 2
      apply Array.ext'
      simp
  | invoke x name =>
    simp only [hcl] at hc
    split at hc <;> try (simp at hc; done)
    rename_i t v hx
    have hv : VRel m (ρ x) (ρ' x) := hρ x (by simp [Call.operands, hcl])
    rw [hx] at hv
    generalize hv' : ρ' x = v' at hv
    cases hv with
    | iface _ _ u hu =>
      split at hc <;> try (simp at hc; done)
      rename_i ti hti
      split at hc <;> try (simp at hc; done)
      rename_i mt el pa hmt hel
      split at hc <;> try (simp at hc; done)
      rename_i hpath
      split at hc <;> try (simp at hc; done)
      rename_i fid hf
      simp only [Option.some.injEq, Prod.mk.injEq] at hc
      obtain ⟨rfl, rfl⟩ := hc
      refine ⟨u :: c.args.toList.map ρ', .cons _ _ _ _ hu ha, ?_⟩
      have hp0 : mt.path.toList = [] := by simpa using hpath
      have hmt' : ti.methods.find? (·.name == name) = some mt := by rw [← Array.find?_toList]; exact hmt
      have hmeth : ∀ n, (method (n + 1) t u name).run P w = .ok (fid, u) w := by
        intro n
        simp only [method, Sem.run_bind, ri hti, Result.andThen_ok, hmt', hp0, follow, Sem.run_pure, hf, receiverAt, ru hel, Place.get]
      simp only [execOp, hoc, resolve, hcl, hv', Sem.run_bind, Sem.run_pure, Result.andThen_ok, invoke]
      simp only [callMethod]
      have e0 : (#[Value.iface t u] ++ Array.map ρ' c.args)[0]? = some (.iface t u) := by rw [Array.getElem?_append]; simp
      have e1 : (#[Value.iface t u] ++ Array.map ρ' c.args).extract 1 = Array.map ρ' c.args := by
        apply Array.ext'
        simp
        exact List.take_of_length_le (by simp)
      rw [e0]
      simp only [Sem.run_bind, run_program, Result.andThen_ok]
      rw [show P.types.size + Made.depth = (P.types.size + 99) + 1 from rfl, hmeth]
      simp only [Result.andThen_ok]
      rw [e1, hen]
      congr 2
      apply Array.ext'
      simp

theorem call_upon {c : Call} {o : Oper} {f : FuncId} {args : List Value} {cl : Caller} {out : Out} {h' : Heap} {K : Act → World → Prop} {Q : Exit → Act → World → Prop} (hcl : CallOk P ng cl) (hoc : o.op = .call c)
    (hh : HRel m (mix h N F) w) (hwf : HWf h) (hN : h'.nx ≤ N) (hr : ARel m E a nt) (hg : GlobOk ng m) (ho : opersOk ng nt o = true) (hc : callee P c (evalF E) = some (f, args)) (hq : cl f args h = some (out, h'))
    (hK : ∀ v, out = .ret v → ∀ m' w' a', HRel m' (mix h' N F) w' → Step m w m' w' → ARel m' (putF E o.dst v) a' nt → K a' w')
    (hP : ∀ v, out = .pan v → ∀ m' w' v', HRel m' (mix h' N F) w' → Step m w m' w' → VRel m' v v' → Q (.panic [{ v := v', recovered := false }]) a w') : o.wp P a w K Q := by
  obtain ⟨hen, _, _, hcalls⟩ := hcl f args h out h' hq hwf
  have hops : ∀ x ∈ c.operands.toList, VRel m (evalF E x) (a.eval x) := by
    have := opers_rel hr hg ho
    rw [hoc] at this
    exact this
  obtain ⟨args', h1, h2⟩ := call_run (P := P) (w := w) hoc hops hc hen
  unfold Oper.wp
  rw [h2]
  refine (hcalls N F m w args' hN hh hg h1).mono ?_
  rintro e w' ⟨m', q1, q2, q3⟩
  cases out with
  | ret v =>
    obtain ⟨v', rfl, q4⟩ := q1
    exact hK v rfl m' w' _ q2 q3 ((hr.mono q3.ext).put q4 (dst_lt ho))
  | pan v =>
    obtain ⟨v', rfl, q4⟩ := q1
    exact hP v rfl m' w' v' q2 q3 q4
end Go.AM
