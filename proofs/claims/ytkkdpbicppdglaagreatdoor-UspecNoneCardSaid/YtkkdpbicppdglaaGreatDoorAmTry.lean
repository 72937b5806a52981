/- A function that defers one closure of its own, which recovers: what the two come to, by the machine. -/
import Derived.Test.YtkkdpbicppdglaaGreatDoorAmCall
import Derived.Recover
namespace Go.AM
variable {P : Program} {ng : Nat}

/-- The pieces: what stands ahead of 'defer', the guard with its early end; the cell of the result; whom it calls; what the closure does with what it recovered. -/
structure TryCode where
  (fn fnd : Func)
  (r0 g rest : Code)
  (tp td tr t1 : Tmp)
  (et : TypeId)
  (z : Value)

noncomputable def tryEnd (P : Program) (T : TryCode) (cl : Caller) (fuel : Nat) (p v : Value) (h : Heap) : Option (Out × Heap) :=
  match engine P cl fuel T.rest (Env.put (Env.put (storeL .leaf 0 [p]) (some T.tr) v) (some T.t1) v) h with
  | some (.normal, _, h4) => match effLoad P T.et p h4.get with
    | some f => some (.ret f.val, h4)
    | none => none
  | _ => none
noncomputable def tryF (P : Program) (T : TryCode) (fuel : Nat) (cl : Caller) (args : List Value) (h : Heap) : Option (Out × Heap) :=
  match engine P cl fuel T.r0 (storeL .leaf 0 args) h with
  | some (.normal, e0, h0) => match engine P cl fuel T.g e0 h0 with
    | some (.ret, e1, h1) => match resultV P e1 h1 T.fn.results.toList with
      | some v => some (.ret v, h1)
      | none => none
    | some (.normal, e1, h1) => match e1.at T.td with
      | .func (.func f) first captured => match cl f (first.toList ++ captured.toList) h1 with
        | some (.ret _, h2) => match effStore P T.et (e1.at T.tp) T.z h2.get with
          | some f => tryEnd P T cl fuel (e1.at T.tp) .nilIface (h2.apply f)
          | none => none
        | some (.pan v, h2) => tryEnd P T cl fuel (e1.at T.tp) v h2
        | none => none
      | _ => none
    | _ => none
  | _ => none

theorem put_ne {a : Act} {d : Option Tmp} {v : Value} {t : Tmp} (h : d ≠ some t) : (a.put d v).tmps.getD t undef = a.tmps.getD t undef := by
  cases d with
  | none => rfl
  | some d =>
    have : d ≠ t := fun e => h (by rw [e])
    simp [Act.put, Array.getElem?_setIfInBounds_ne this]
theorem put_eq {a : Act} {d : Tmp} {v : Value} (h : d < a.tmps.size) : (a.put (some d) v).tmps.getD d undef = v := by
  simp [Act.put, h]
theorem put_size {a : Act} {d : Option Tmp} {v : Value} : (a.put d v).tmps.size = a.tmps.size := by
  cases d <;> simp [Act.put]
theorem put_def {a : Act} {d : Option Tmp} {v : Value} : (a.put d v).defers = a.defers := by
  cases d <;> rfl
theorem wanted_none {o : Oper} (h : o.guard = none) (f : Nat → Option Bool) : Region.wanted o f = true := by simp [Region.wanted, h]

section
variable {T : TryCode} {f fd : FuncId} {i3 i4 i5 i0 : Nat} {mk df mv cal st rc as1 : Oper} {tf t8 : Tmp} {at1 at2 at3 : Array TypeId} {cl : Caller} {fuel : Nat}

theorem tryF_ok (hm : P.follows .mixedOrders = true) (hcl : CallOk P ng cl) (hf : P.funcs[f]? = some T.fn) (hok : T.fn.name != "runtime.NumGoroutine")
    (hb : T.fn.body = some (.seq T.r0 (.seq T.g (.seq (.region i3 #[mk, df] false) (.seq (.region i4 #[mv, cal] false) (.seq (.region i5 #[st] false) .ret))))))
    (hres : T.fn.results = #[.cell T.tp T.et])
    (hmk : mk.op = .makeFunc (.func fd) #[] #[.tmp T.tp] ∧ mk.dst = some tf ∧ mk.guard = none) (hdf : df.op = .defer ⟨.value (.tmp tf), #[], at1⟩ ∧ df.dst = none ∧ df.guard = none)
    (hmv : mv.op = .move (.tmp T.td) ∧ mv.dst = some t8 ∧ mv.guard = none) (hcal : cal.op = .call ⟨.value (.tmp t8), #[], at2⟩ ∧ cal.dst ≠ some T.tp ∧ cal.guard = none)
    (hst : st.op = .store T.et (.tmp T.tp) (.const T.z) ∧ plainV T.z = true ∧ st.dst = none ∧ st.guard = none)
    (hlt : tf < T.fn.ntmps ∧ t8 < T.fn.ntmps ∧ tf ≠ T.tp ∧ t8 ≠ T.tp ∧ tf ≠ T.td)
    (hfd : P.funcs[fd]? = some T.fnd) (hokd : T.fnd.name != "runtime.NumGoroutine") (hbd : T.fnd.body = some (.seq (.region i0 #[rc, as1] false) T.rest)) (hresd : T.fnd.results = #[])
    (hrc : rc.op = .call ⟨.builtin .recover, #[], at3⟩ ∧ rc.dst = some T.tr ∧ rc.guard = none) (has : as1.op = .assign (.tmp T.tr) ∧ as1.dst = some T.t1 ∧ as1.guard = none)
    (hltd : T.tr < T.fnd.ntmps ∧ T.t1 < T.fnd.ntmps) (ok0 : codeOk ng T.fn.ntmps T.r0 = true) (okg : codeOk ng T.fn.ntmps T.g = true) (okr : codeOk ng T.fnd.ntmps T.rest = true) :
    CallOkAt P ng f (tryF P T fuel cl) := by
  have enter : ∀ {f : FuncId} {fn : Func}, P.funcs[f]? = some fn → (fn.name != "runtime.NumGoroutine") = true → (∃ c, fn.body = some c) → Enter P f := by
    intro f fn h1 h2 ⟨c, h3⟩ args w
    simp only [bne_iff_ne, ne_eq] at h2
    simp [callFunc, h1, h2, h3]
  intro args h o h' hr hwf
  refine ⟨enter hf hok ⟨_, hb⟩, ?_⟩
  -- the way the closure ends it
  have fin : ∀ (p v : Value) (h3 : Heap), tryEnd P T cl fuel p v h3 = some (o, h') → HWf h3 → HWf h' ∧ h3.nx ≤ h'.nx ∧
      ∀ (N : Nat) (F : Nat → Option Blk) (m : Mp) (w : World) (p' v' : Value) (tmps : Array Value) (R : Ending → World → Prop) (u : FrameMode), h'.nx ≤ N → HRel m (mix h3 N F) w → GlobOk ng m → VRel m p p' → VRel m v v' →
        tmps.getD T.tp undef = p' → ((v' = .nilIface ∧ u = .returning) ∨ u = .panicking [{ v := v', recovered := false }]) →
        (∀ m' w' e, ORel m' o e → HRel m' (mix h' N F) w' → Step m w m' w' → R e w') →
        Leaves P T.fn tmps R [{ target := .fn (.func fd) #[p'], args := #[] }] u w := by
    intro p v h3 hr hwf3
    unfold tryEnd at hr
    split at hr <;> try (simp at hr; done)
    rename_i e4 h4 hrun
    split at hr <;> try (simp at hr; done)
    rename_i fl hl
    simp only [Option.some.injEq, Prod.mk.injEq] at hr
    obtain ⟨rfl, rfl⟩ := hr
    obtain ⟨a1, a2, a3⟩ := (engine_ok hm hcl fuel).1 _ _ _ _ _ _ okr hrun hwf3
    refine ⟨a1, a2, fun N F m w p' v' tmps R u hN hh hg hp hv htp hu hR => ?_⟩
    refine ⟨by rcases hu with ⟨_, rfl⟩ | rfl <;> simp, .func fd, #[p'], fd, #[p'], rfl, ?_, ?_⟩
    · show (callFunc fd (#[] ++ #[p'])).run P w = _
      rw [enter hfd hokd ⟨_, hbd⟩]
      rfl
    · refine callsD_of_wpS hfd hbd fun c₀ cs hc => ?_
      apply wpS_seq
      apply wpS_region
      have hsz : ∀ t, t < T.fnd.ntmps → t < (#[p'] ++ Array.replicate (T.fnd.ntmps - (#[p'] : Array Value).size) undef).size := by
        intro t ht
        simp
        omega
      generalize hA : ({ tmps := #[p'] ++ Array.replicate (T.fnd.ntmps - (#[p'] : Array Value).size) undef, defers := [] } : Act) = A
      have hAr : ARel m (Env.at (storeL .leaf 0 [p])) A T.fnd.ntmps := by
        rw [← hA]
        exact args_rel (args := [p]) (args' := [p']) (.cons _ _ _ _ hp .nil) T.fnd.ntmps
      have hAsz : ∀ t, t < T.fnd.ntmps → t < A.tmps.size := by rw [← hA]; exact hsz
      -- what comes behind 'recover'
      have key : ∀ cs' u', cs' = { c₀ with mode := u' } :: cs → settle u' = .returning →
          wpOpsS P #[rc, as1] (Exit.thenS (T.rest.wpS P (bodyPostS P T.fnd c₀ cs fun
            | .returned _, u', w' => Leaves P T.fn tmps R [] (settle u') w'
            | .panicked chain, u', w' => Leaves P T.fn tmps R [] (raised u' chain) w'
            | .outgrown, _, w' => R .outgrown w')) (bodyPostS P T.fnd c₀ cs fun
            | .returned _, u', w' => Leaves P T.fn tmps R [] (settle u') w'
            | .panicked chain, u', w' => Leaves P T.fn tmps R [] (raised u' chain) w'
            | .outgrown, _, w' => R .outgrown w')) [1] (A.put rc.dst v') cs' w := by
        intro cs' u' hcs hset
        have hev : (A.put rc.dst v').eval (.tmp T.tr) = v' := by
          rw [hrc.2.1]
          exact put_eq (hAsz _ hltd.1)
        have hex : (execOp (A.put rc.dst v').eval as1).run P w = .ok (.value v') w := by
          simp only [execOp, has.1, hev, Sem.run_pure]
        unfold wpOpsS
        simp only [List.getElem?_toArray, List.getElem?_cons_succ, List.getElem?_cons_zero]
        rw [if_pos (wanted_none has.2.2 _)]
        rw [hex]
        show T.rest.wpS P _ ((A.put rc.dst v').put as1.dst v') cs' w
        apply wpS_of_wp
        have hAr2 : ARel m (Env.at (Env.put (Env.put (storeL .leaf 0 [p]) (some T.tr) v) (some T.t1) v)) ((A.put rc.dst v').put as1.dst v') T.fnd.ntmps := by
          rw [Env.put_at, Env.put_at, hrc.2.1, has.2.1]
          refine (hAr.put hv ?_).put hv ?_
          · intro t ht; cases ht; exact hltd.1
          · intro t ht; cases ht; exact hltd.2
        refine a3 N F m w _ _ hN hh hg hAr2 ?_
        intro m' w' a' x q1 q2 q3 q4
        have : x = .normal := q4
        subst this
        refine ⟨q3.def_, u', hcs, .tuple #[], ?_, ?_⟩
        · rw [results_eq, hresd]; simp
        · show Leaves P T.fn tmps R [] (settle u') w'
          rw [hset]
          obtain ⟨v2, b1, b2⟩ := load_pure q1 a1 hN (hp.mono q2.ext) hl
          refine ⟨v2, ?_, hR m' w' _ ⟨v2, rfl, b2⟩ q1 q2⟩
          rw [results_eq, hres]
          have e1 : (#[ResultVar.cell T.tp T.et].mapM (resSem tmps)).run P w' = .ok #[v2] w' := by
            simp only [Array.mapM_eq_mapM_toList, List.mapM_cons, List.mapM_nil, resSem, htp, Sem.run_map, Sem.run_bind, b1, Result.andThen_ok, Sem.run_pure]
          simp only [Sem.run_bind, e1, Result.andThen_ok, Sem.run_pure]
          rfl
      have hex : (execOp A.eval rc).run P w = .ok .recover w := by
        simp only [execOp, hrc.1, resolve, Sem.run_bind, Sem.run_pure, Result.andThen_ok, invoke]
        rfl
      show wpOpsS P #[rc, as1] _ [0, 1] A (c₀ :: cs) w
      unfold wpOpsS
      simp only [List.getElem?_toArray, List.getElem?_cons_zero]
      rw [if_pos (wanted_none hrc.2.2 _)]
      rw [hex]
      rcases hu with ⟨rfl, rfl⟩ | rfl
      · have hrd : recoverD (c₀ :: cs) = none := by simp [recoverD, hc]
        simp only [hrd]
        exact key (c₀ :: cs) .returning (by cases c₀; simp_all) rfl
      · have hrd : recoverD (c₀ :: cs) = some (v', { c₀ with mode := .panicking [{ v := v', recovered := true }] } :: cs) := by simp [recoverD, hc]
        simp only [hrd]
        exact key _ (.panicking [{ v := v', recovered := true }]) rfl rfl
  -- the function itself
  unfold tryF at hr
  split at hr <;> try (simp at hr; done)
  rename_i e0 h0 hr0
  have c0 := (engine_ok hm hcl fuel).1 _ _ _ _ _ _ ok0 hr0 hwf
  obtain ⟨w0, n0, k0⟩ := c0
  split at hr <;> try (simp at hr; done)
  · -- the early end
    rename_i e1 h1 hrg
    obtain ⟨w1, n1, k1⟩ := (engine_ok hm hcl fuel).1 _ _ _ _ _ _ okg hrg w0
    split at hr <;> try (simp at hr; done)
    rename_i v hv
    simp only [Option.some.injEq, Prod.mk.injEq] at hr
    obtain ⟨rfl, rfl⟩ := hr
    refine ⟨w1, Nat.le_trans n0 n1, fun N F m w args' hN hh hg ha => calls_of_wp_defers hf hb (wp_seq ?_)⟩
    refine k0 N F m w _ _ (Nat.le_trans n1 hN) hh hg (args_rel ha _) ?_
    intro m1 x1 a1 x q1 q2 q3 q4
    have : x = .normal := q4
    subst this
    refine wp_seq ?_
    refine k1 N F m1 x1 a1 _ hN q1 (hg.mono q2.ext) q3 ?_
    intro m2 x2 a2 x p1 p2 p3 p4
    have : x = .ret := p4
    subst this
    show Leaves P T.fn a2.tmps _ a2.defers .returning x2
    rw [p3.def_]
    obtain ⟨v', r1, r2⟩ := resultV_ok p1 w1 hN p3 hv
    exact ⟨v', r1, m2, ⟨v', rfl, r2⟩, p1, q2.trans p2⟩
  · rename_i e1 h1 hrg
    obtain ⟨w1, n1, k1⟩ := (engine_ok hm hcl fuel).1 _ _ _ _ _ _ okg hrg w0
    split at hr <;> try (simp at hr; done)
    rename_i fc first captured hdo
    -- what is done up to the call, then what is known of the call
    have front : ∀ (h2 : Heap) (oc : Out), cl fc (first.toList ++ captured.toList) h1 = some (oc, h2) → HWf h2 ∧ h1.nx ≤ h2.nx ∧
        ∀ (N : Nat) (F : Nat → Option Blk) (m : Mp) (w : World) (args' : List Value) (R : Ending → World → Prop), h2.nx ≤ N → HRel m (mix h N F) w → GlobOk ng m → VRels m args args' →
          (∀ m' w' (a : Act) p', HRel m' (mix h2 N F) w' → Step m w m' w' → VRel m' (e1.at T.tp) p' → a.tmps.getD T.tp undef = p' → a.defers = [{ target := .fn (.func fd) #[p'], args := #[] }] → a.tmps.size ≥ T.fn.ntmps →
            (match oc with
              | .ret _ => (Code.seq (.region i5 #[st] false) .ret).wp P (bodyPostD P T.fn R) a w'
              | .pan v => ∀ v', VRel m' v v' → Leaves P T.fn a.tmps R a.defers (.panicking [{ v := v', recovered := false }]) w')) →
          Calls P f args'.toArray w R := by
      intro h2 oc hq
      obtain ⟨hen, w2, n2, hcall⟩ := hcl _ _ _ _ _ hq w1
      refine ⟨w2, n2, fun N F m w args' R hN hh hg ha hK => calls_of_wp_defers hf hb (wp_seq ?_)⟩
      refine k0 N F m w _ _ (by omega) hh hg (args_rel ha _) ?_
      intro m1 x1 a1 x q1 q2 q3 q4
      have : x = .normal := q4
      subst this
      refine wp_seq ?_
      refine k1 N F m1 x1 a1 _ (by omega) q1 (hg.mono q2.ext) q3 ?_
      intro m2 x2 a2 x p1 p2 p3 p4
      have : x = .normal := p4
      subst this
      have hst2 := q2.trans p2
      -- the closure is made and deferred
      refine wp_seq (wp_region ?_)
      show wpOps P #[mk, df] _ [0, 1] a2 x2
      generalize hp' : a2.tmps.getD T.tp undef = p'
      have hvp : VRel m2 (e1.at T.tp) p' := by rw [← hp']; exact p3.tm T.tp
      refine wpOps_step (o := mk) rfl (wanted_none hmk.2.2 _) ?_
      have e1mk : a2.eval (.tmp T.tp) = p' := hp'
      refine op_value (w' := x2) (v := .func (.func fd) #[] #[p']) ?_ ?_
      · simp [execOp, hmk.1, Instr.makeFunc, e1mk]
      refine wpOps_step (o := df) rfl (wanted_none hdf.2.2 _) ?_
      have hev : (a2.put mk.dst (.func (.func fd) #[] #[p'])).eval (.tmp tf) = .func (.func fd) #[] #[p'] := by
        rw [hmk.2.1]
        exact put_eq (Nat.lt_of_lt_of_le hlt.1 p3.size)
      unfold Oper.wp
      have hexd : (execOp (a2.put mk.dst (.func (.func fd) #[] #[p'])).eval df).run P x2 = .ok (.defer { target := .fn (.func fd) #[p'], args := #[] }) x2 := by
        simp [execOp, hdf.1, resolve, hev, Deferred.ofValue]
      rw [hexd]
      rw [Oper.upon_defer]
      rw [hdf.2.1, put_def, p3.def_]
      generalize hA3 : (Act.put { (a2.put mk.dst (.func (.func fd) #[] #[p'])) with defers := [{ target := .fn (.func fd) #[p'], args := #[] }] } none undef) = a3
      have t3 : ∀ t, t ≠ tf → a3.tmps.getD t undef = a2.tmps.getD t undef := by
        intro t ht
        rw [← hA3]
        show (a2.put mk.dst (.func (.func fd) #[] #[p'])).tmps.getD t undef = _
        rw [hmk.2.1]
        exact put_ne (by simpa using Ne.symm ht)
      have s3 : a3.tmps.size = a2.tmps.size := by
        rw [← hA3]
        show (a2.put mk.dst (.func (.func fd) #[] #[p'])).tmps.size = _
        exact put_size
      have d3 : a3.defers = [{ target := .fn (.func fd) #[p'], args := #[] }] := by rw [← hA3]; rfl
      -- the call
      refine wp_seq (wp_region ?_)
      show wpOps P #[mv, cal] _ [0, 1] a3 x2
      refine wpOps_step (o := mv) rfl (wanted_none hmv.2.2 _) ?_
      have hvd : VRel m2 (.func (.func fc) first captured) (a3.eval (.tmp T.td)) := by
        show VRel m2 _ (a3.tmps.getD T.td undef)
        rw [t3 _ (Ne.symm hlt.2.2.2.2), ← hdo]
        exact p3.tm T.td
      generalize hdv : a3.eval (.tmp T.td) = dv at hvd
      refine op_value (w' := x2) (v := dv) (by simp only [execOp, hmv.1, hdv, Sem.run_pure]) ?_
      refine wpOps_step (o := cal) rfl (wanted_none hcal.2.2 _) ?_
      have hev8 : (a3.put mv.dst dv).eval (.tmp t8) = dv := by
        rw [hmv.2.1]
        exact put_eq (Nat.lt_of_lt_of_le hlt.2.1 (by rw [s3]; exact p3.size))
      cases hvd with
      | func _ _ _ first' captured' g1 g2 =>
      unfold Oper.wp
      have hexc : (execOp (a3.put mv.dst (.func (.func fc) first' captured')).eval cal).run P x2 = .ok (.enter fc (first'.toList ++ captured'.toList).toArray) x2 := by
        simp only [execOp, hcal.1, resolve, hev8, Deferred.ofValue, Sem.run_bind, Sem.run_pure, Result.andThen_ok, invoke]
        rw [hen]
        congr 2
        apply Array.ext'
        simp
      rw [hexc]
      show Calls P fc _ x2 _
      refine (hcall N F m2 x2 _ hN p1 (hg.mono hst2.ext) (g1.append g2)).mono ?_
      rintro e x3 ⟨m3, ho, r1, r2⟩
      have base : ∀ a4 : Act, a4.tmps.getD T.tp undef = a3.tmps.getD T.tp undef → a4.defers = a3.defers → a4.tmps.size = a3.tmps.size → (match (generalizing := false) oc with
              | .ret _ => (Code.seq (.region i5 #[st] false) .ret).wp P (bodyPostD P T.fn R) a4 x3
              | .pan v => ∀ v', VRel m3 v v' → Leaves P T.fn a4.tmps R a4.defers (.panicking [{ v := v', recovered := false }]) x3) := by
        intro a4 z1 z2 z3
        refine hK m3 x3 a4 p' r1 (hst2.trans r2) (hvp.mono r2.ext) ?_ (by rw [z2, d3]) (by rw [z3, s3]; exact p3.size)
        rw [z1, t3 _ (Ne.symm hlt.2.2.1), hp']
      cases oc with
      | ret v =>
        obtain ⟨v', rfl, hv'⟩ := ho
        show (Code.seq (.region i5 #[st] false) .ret).wp P (bodyPostD P T.fn R) ((a3.put mv.dst _).put cal.dst v') x3
        refine base _ ?_ ?_ ?_
        · rw [put_ne hcal.2.1, put_ne (by rw [hmv.2.1]; simpa using hlt.2.2.2.1)]
        · rw [put_def, put_def]
        · rw [put_size, put_size]
      | pan v =>
        obtain ⟨v', rfl, hv'⟩ := ho
        show Leaves P T.fn (a3.put mv.dst _).tmps R (a3.put mv.dst _).defers (.panicking [{ v := v', recovered := false }]) x3
        exact base (a3.put mv.dst _) (put_ne (by rw [hmv.2.1]; simpa using hlt.2.2.2.1)) put_def put_size v' hv'
    split at hr <;> try (simp at hr; done)
    · -- it returned
      rename_i vr h2 hq
      obtain ⟨w2, n2, hfront⟩ := front _ _ hq
      split at hr <;> try (simp at hr; done)
      rename_i fs hfs
      have hap := HWf.apply w2 (f := fs) (eff_ok (op := .store T.et (.tmp T.tp) (.const T.z)) (ρ := fun y => match y with | .tmp t => e1.at t | .const v => v | .global g => .pointer (some ⟨g, 0, none⟩) | .func f => .func (.func f) #[] #[]) (nx := h2.nx) hfs)
      obtain ⟨w3, n3, hfin⟩ := fin _ _ _ hr hap.1
      refine ⟨w3, by omega, fun N F m w args' hN hh hg ha => hfront N F m w args' _ (by omega) hh hg ha ?_⟩
      intro m2 x2 a p' b1 b2 b3 b4 b5 b6
      show (Code.seq (.region i5 #[st] false) .ret).wp P _ a x2
      refine wp_seq (wp_region ?_)
      show wpOps P #[st] _ [0] a x2
      refine wpOps_step (o := st) rfl (wanted_none hst.2.2.2 _) ?_
      have heff : eff P st.op (fun y => match y with | .tmp t => e1.at t | .const v => v | .global g => .pointer (some ⟨g, 0, none⟩) | .func f => .func (.func f) #[] #[]) h2.get h2.nx = some fs := by
        rw [hst.1]; exact hfs
      obtain ⟨r, x3, m3, v3, g1, g2, g3, g4, g5⟩ := eff_does (ρ' := a.eval) b1 w2 (by omega) (by omega) (by
        rw [hst.1]
        intro y hy
        simp only [Op.operands] at hy
        rcases List.mem_cons.1 hy with rfl | hy
        · show VRel m2 (e1.at T.tp) (a.tmps.getD T.tp undef)
          rw [b4]; exact b3
        · rcases List.mem_cons.1 hy with rfl | hy
          · exact plainV_rel hst.2.1
          · simp at hy) heff
      have fin2 : ∀ v3', wpOps P #[st] (Exit.then (Code.ret.wp P (bodyPostD P T.fn fun e w' => ∃ m', ORel m' o e ∧ HRel m' (mix h' N F) w' ∧ Step m w m' w')) (bodyPostD P T.fn fun e w' => ∃ m', ORel m' o e ∧ HRel m' (mix h' N F) w' ∧ Step m w m' w')) [] (a.put st.dst v3') x3 := by
        intro v3'
        show Code.ret.wp P _ (a.put st.dst v3') x3
        refine wp_ret ?_
        show Leaves P T.fn (a.put st.dst v3').tmps _ (a.put st.dst v3').defers .returning x3
        rw [put_def, b5]
        refine hfin N F m3 x3 p' .nilIface _ _ .returning hN g4 (hg.mono (b2.trans g5).ext) (b3.mono g5.ext) .nilIface (by rw [put_ne (by rw [hst.2.2.1]; simp)]; exact b4) (.inl ⟨rfl, rfl⟩) ?_
        intro m4 x4 e u1 u2 u3
        exact ⟨m4, u1, u2, (b2.trans g5).trans u3⟩
      unfold Oper.wp
      rw [g1]
      rcases g2 with rfl | ⟨rfl, rfl⟩
      · exact fin2 _
      · exact fin2 _
    · -- it panicked
      rename_i vp h2 hq
      obtain ⟨w2, n2, hfront⟩ := front _ _ hq
      obtain ⟨w3, n3, hfin⟩ := fin _ _ _ hr w2
      refine ⟨w3, by omega, fun N F m w args' hN hh hg ha => hfront N F m w args' _ (by omega) hh hg ha ?_⟩
      intro m2 x2 a p' b1 b2 b3 b4 b5 b6
      show ∀ v', VRel m2 vp v' → Leaves P T.fn a.tmps _ a.defers (.panicking [{ v := v', recovered := false }]) x2
      intro v' hv'
      rw [b5]
      refine hfin N F m2 x2 p' v' _ _ _ hN b1 (hg.mono b2.ext) b3 hv' b4 (.inr rfl) ?_
      intro m4 x4 e u1 u2 u3
      exact ⟨m4, u1, u2, b2.trans u3⟩
end
/- ## taken from the functions' texts -/
def seqL : Code → Code
  | .seq a _ => a
  | c => c
def seqR : Code → Code
  | .seq _ b => b
  | c => c
def opOf : Code → Nat → Oper
  | .region _ ops _, i => (ops.toList[i]?).getD { dst := none, op := .ready 0, type := 0, pos := "", after := #[], guard := none }
  | _, _ => { dst := none, op := .ready 0, type := 0, pos := "", after := #[], guard := none }
def bodyOf (f : Func) : Code := match f.body with
  | some c => c
  | none => .skip
def oneSpec (f0 : FuncId) (F : Caller → List Value → Heap → Option (Out × Heap)) : Special := fun f => cond (Nat.beq f f0) (some F) none
theorem oneSpec_ok {f0 : FuncId} {F : Caller → List Value → Heap → Option (Out × Heap)} (h : ∀ cl, CallOk P ng cl → CallOkAt P ng f0 (F cl)) : SpecOk P ng (oneSpec f0 F) := by
  intro f G hG cl hcl
  unfold oneSpec at hG
  cases hb : Nat.beq f f0 with
  | false => rw [hb] at hG; simp at hG
  | true =>
    rw [hb] at hG
    simp only [cond_true, Option.some.injEq] at hG
    subst hG
    have := Nat.eq_of_beq_eq_true hb
    subst this
    exact h cl hcl
end Go.AM
