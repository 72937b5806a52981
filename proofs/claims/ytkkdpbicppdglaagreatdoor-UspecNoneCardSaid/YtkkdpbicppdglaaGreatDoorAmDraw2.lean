/- Regions whose order is open: every order comes to the same. -/
import Derived.Test.YtkkdpbicppdglaaGreatDoorAmDraw1
namespace Go.AM
open Classical

/- ## overlays -/
noncomputable def ov {α : Type} (T : Nat → Nat → Prop) (V : Nat → Nat → α) (B : Nat → α) (D : Nat → Bool) (x : Nat) : Nat → α
  | 0 => B x
  | n + 1 => if D n = true ∧ T n x then V n x else ov T V B D x n
section
variable {α : Type} {T : Nat → Nat → Prop} {V : Nat → Nat → α} {B : Nat → α} {D D' : Nat → Bool} {x : Nat}
theorem ov_congr : ∀ n, (∀ k, k < n → T k x → D k = D' k) → ov T V B D x n = ov T V B D' x n := by
  intro n
  induction n with
  | zero => intro _; rfl
  | succ n ih =>
    intro h
    simp only [ov]
    rw [ih fun k hk => h k (by omega)]
    by_cases ht : T n x
    · rw [h n (by omega) ht]
    · simp [ht]
theorem ov_all {st : Nat → Nat → α} (h0 : st 0 x = B x) : ∀ n, (∀ k, k < n → st (k + 1) x = if T k x then V k x else st k x) → (∀ k, k < n → D k = true) → ov T V B D x n = st n x := by
  intro n
  induction n with
  | zero => intro _ _; exact h0.symm
  | succ n ih =>
    intro h hD
    simp only [ov]
    rw [ih (fun k hk => h k (by omega)) (fun k hk => hD k (by omega)), h n (by omega), hD n (by omega)]
    simp
theorem ov_none : ∀ (i n : Nat), i ≤ n → (∀ k, i ≤ k → k < n → D k = false) → ov T V B D x n = ov T V B D x i := by
  intro i n
  induction n with
  | zero => intro h _; rw [show i = 0 by omega]
  | succ n ih =>
    intro h hD
    by_cases e : i = n + 1
    · rw [e]
    · simp only [ov]
      rw [hD n (by omega) (by omega), ← ih (by omega) fun k h1 h2 => hD k h1 (by omega)]
      simp
theorem ov_pre {st : Nat → Nat → α} (h0 : st 0 x = B x) {i n : Nat} (hin : i ≤ n) (h : ∀ k, k < n → st (k + 1) x = if T k x then V k x else st k x) (hD : ∀ k, k < n → T k x → D k = decide (k < i)) : ov T V B D x n = st i x := by
  rw [ov_congr (D' := fun k => decide (k < i)) n hD, ov_none i n hin (fun k h1 h2 => by simp; omega)]
  exact ov_all h0 i (fun k hk => h k (by omega)) (fun k hk => by simpa using hk)
theorem ov_insert {i : Nat} (hi : D i = false) (hD' : ∀ k, D' k = true ↔ k = i ∨ D k = true) : ∀ n, i < n → (∀ k, i < k → k < n → T k x → T i x → D k = false) → ov T V B D' x n = if T i x then V i x else ov T V B D x n := by
  intro n
  induction n with
  | zero => intro h; omega
  | succ n ih =>
    intro hin h
    by_cases e : n = i
    · subst e
      simp only [ov]
      have e1 : ov T V B D' x n = ov T V B D x n := ov_congr n fun k hk _ => by
        have := hD' k
        cases h1 : D' k <;> cases h2 : D k <;> simp_all <;> omega
      rw [e1, (hD' n).2 (.inl rfl), hi]
      simp
    · simp only [ov]
      rw [ih (by omega) fun k h1 h2 => h k h1 (by omega)]
      have e2 : D' n = D n := by
        have := hD' n
        cases h1 : D' n <;> cases h2 : D n <;> simp_all
      rw [e2]
      by_cases ht : T n x
      · by_cases hti : T i x
        · have := h n (by omega) (by omega) ht hti
          simp [this, hti]
        · simp [hti]
      · simp [ht]
end

/- ## what was done -/
variable {P : Program} {ng nt : Nat} {cl : Caller}
inductive OneStep (P : Program) (cl : Caller) (all : List Oper) (o : Oper) : Did → Env → Heap → Env → Heap → Prop
  | skip (e : Env) (h : Heap) : wantedA all e o = false → OneStep P cl all o .skip e h (e.put o.dst undef) h
  | eff (e : Env) (h : Heap) (f : Eff) : wantedA all e o = true → eff P o.op e.eval h.get h.nx = some f → OneStep P cl all o (.eff (foot o.op e.eval) f h.nx) e h (e.put o.dst f.val) (h.apply f)
  | call (e : Env) (h h' : Heap) (c : Call) (f : FuncId) (args : List Value) (v : Value) : wantedA all e o = true → o.op = .call c → callee P c e.eval = some (f, args) → cl f args h = some (.ret v, h') → OneStep P cl all o (.call h h') e h (e.put o.dst v) h'

theorem callOf_some {op : Op} {c : Call} (h : runRecS.callOf op = some c) : op = .call c := by
  unfold runRecS.callOf at h
  split at h
  · split at h
    · simp at h
    · simp only [Option.some.injEq] at h; rw [h]
  · simp at h

theorem runRec_eq {all : List Oper} : ∀ (l : List Oper) (e : Env) (h : Heap), runRec P cl all l e h = runRecS P cl all l e h := by
  intro l
  induction l with
  | nil => intro e h; rfl
  | cons o r ih =>
    intro e h
    rw [runRecS]
    have cons : ∀ (d : Did) (x : DidRes), qCons d x = (match x with
        | some (e', h', l) => some (e', h', d :: l)
        | none => none) := fun d x => by cases x <;> rfl
    have fin : ∀ (f : Option Eff), qFin f o (runRec P cl all r) e h = (match f with
        | some f => match runRecS P cl all r (e.put o.dst f.val) (h.apply f) with
          | some (e', h'', l) => some (e', h'', .eff (foot o.op e.eval) f h.nx :: l)
          | none => none
        | none => none) := fun f => by
      cases f with
      | none => rfl
      | some f =>
        show qCons _ (heapK DidRes f h (runRec P cl all r (e.put o.dst f.val))) = _
        rw [heapK_eq, ih, cons]
        show _ = (match runRecS P cl all r (e.put o.dst f.val) (h.apply f) with
          | some (e', h'', l) => some (e', h'', Did.eff (foot o.op e.eval) f h.nx :: l)
          | none => none : DidRes)
        generalize runRecS P cl all r (e.put o.dst f.val) (h.apply f) = x
        cases x <;> rfl
    have go : qGo o.op P cl o (runRec P cl all r) e h = (match runRecS.callOf o.op with
        | some c => match callee P c e.eval with
          | some x => match cl x.1 x.2 h with
            | some (.ret v, h') => match runRecS P cl all r (e.put o.dst v) h' with
              | some (e', h'', l) => some (e', h'', .call h h' :: l)
              | none => none
            | _ => none
          | none => none
        | none => match eff P o.op e.eval h.get h.nx with
          | some f => match runRecS P cl all r (e.put o.dst f.val) (h.apply f) with
            | some (e', h'', l) => some (e', h'', .eff (foot o.op e.eval) f h.nx :: l)
            | none => none
          | none => none) := by
      have qgo : ∀ op, (∀ c, op ≠ .call c) → qGo op P cl o (runRec P cl all r) e h = qFin (eff P op e.eval h.get h.nx) o (runRec P cl all r) e h := by
        intro op hop
        cases op <;> first | exact absurd rfl (hop _) | rfl
      have qcall : ∀ c, qGo (.call c) P cl o (runRec P cl all r) e h = q_call c P cl o (runRec P cl all r) e h := fun _ => rfl
      generalize hco : runRecS.callOf o.op = co
      cases co with
      | none =>
        simp only
        have h1 : qGo o.op P cl o (runRec P cl all r) e h = qFin (eff P o.op e.eval h.get h.nx) o (runRec P cl all r) e h := by
          by_cases hc : ∃ c, o.op = .call c
          · obtain ⟨c, hc⟩ := hc
            rw [hc, qcall]
            rw [hc] at hco
            unfold q_call
            rw [hco]
          · exact qgo _ fun c he => hc ⟨c, he⟩
        rw [h1, fin]
      | some c' =>
        have hc : o.op = .call c' := callOf_some hco
        rw [hc, qcall]
        rw [hc] at hco
        unfold q_call
        rw [hco]
        simp only [callK_eq]
        show (match callee P c' e.eval with
          | some x => match cl x.1 x.2 h with
            | some (.ret v, h') => qCons (.call h h') (runRec P cl all r (e.put o.dst v) h')
            | _ => none
          | none => none : DidRes) = (match callee P c' e.eval with
          | some x => match cl x.1 x.2 h with
            | some (.ret v, h') => match runRecS P cl all r (e.put o.dst v) h' with
              | some (e', h'', l) => some (e', h'', Did.call h h' :: l)
              | none => none
            | _ => none
          | none => none : DidRes)
        cases hx : callee P c' e.eval with
        | none => rfl
        | some x =>
          simp only
          cases hq : cl x.1 x.2 h with
          | none => rfl
          | some q =>
            obtain ⟨o', h'⟩ := q
            cases o' with
            | pan v => rfl
            | ret v =>
              show qCons (Did.call h h') (runRec P cl all r (e.put o.dst v) h') = (match runRecS P cl all r (e.put o.dst v) h' with
                | some (e', h'', l) => some (e', h'', Did.call h h' :: l)
                | none => none : DidRes)
              rw [cons, ih]
              generalize runRecS P cl all r (e.put o.dst v) h' = y
              cases y <;> rfl
    show (Option.rec (motive := fun _ => Program → Caller → List Oper → Oper → (Env → Heap → DidRes) → Env → Heap → DidRes) qOpen qGuard o.guard P cl all o (runRec P cl all r) e h : DidRes) = _
    cases hg : o.guard with
    | none =>
      have h1 : guardOk all e o = true := by unfold guardOk; rw [hg]
      have h2 : wantedA all e o = true := by unfold wantedA; rw [hg]
      rw [h1, h2, if_neg (by simp), if_pos rfl]
      exact go
    | some g =>
      show (Bool.rec none (Bool.rec (qCons .skip (runRec P cl all r (e.put o.dst undef) h)) (qGo o.op P cl o (runRec P cl all r) e h) (wantedA all e o)) (guardOk all e o) : DidRes) = _
      cases h1 : guardOk all e o with
      | false => rfl
      | true =>
        rw [if_neg (by simp)]
        cases h2 : wantedA all e o with
        | false =>
          simp only [Bool.false_eq_true, if_false]
          rw [cons, ih]
          generalize runRecS P cl all r (e.put o.dst undef) h = y
          cases y <;> rfl
        | true =>
          rw [if_pos rfl]
          exact go

theorem runRec_spec {all : List Oper} : ∀ (l : List Oper) (e e' : Env) (h h' : Heap) (L : List Did), runRec P cl all l e h = some (e', h', L) →
    L.length = l.length ∧ ∃ (es : Nat → Env) (hs : Nat → Heap), es 0 = e ∧ hs 0 = h ∧ es l.length = e' ∧ hs l.length = h' ∧
      ∀ k o d, l[k]? = some o → L[k]? = some d → OneStep P cl all o d (es k) (hs k) (es (k + 1)) (hs (k + 1)) ∧ guardOk all (es k) o = true := by
  intro l
  simp only [runRec_eq]
  induction l with
  | nil =>
    intro e e' h h' L hr
    simp only [runRecS, Option.some.injEq, Prod.mk.injEq] at hr
    obtain ⟨rfl, rfl, rfl⟩ := hr
    exact ⟨rfl, fun _ => e, fun _ => h, rfl, rfl, rfl, rfl, fun k o d h1 => by simp at h1⟩
  | cons o r ih =>
    intro e e' h h' L hr
    have key : ∀ (d : Did) (e1 : Env) (h1 : Heap) (e' : Env) (h' : Heap) (L : List Did), runRecS P cl all r e1 h1 = some (e', h', L) → OneStep P cl all o d e h e1 h1 ∧ guardOk all e o = true →
        (d :: L).length = (o :: r).length ∧ ∃ (es : Nat → Env) (hs : Nat → Heap), es 0 = e ∧ hs 0 = h ∧ es (o :: r).length = e' ∧ hs (o :: r).length = h' ∧
          ∀ k o' d', (o :: r)[k]? = some o' → (d :: L)[k]? = some d' → OneStep P cl all o' d' (es k) (hs k) (es (k + 1)) (hs (k + 1)) ∧ guardOk all (es k) o' = true := by
      intro d e1 h1 e' h' L hrun hone
      obtain ⟨i1, es, hs, i2, i3, i4, i5, i6⟩ := ih _ _ _ _ _ hrun
      refine ⟨by simp [i1], fun k => match k with | 0 => e | k + 1 => es k, fun k => match k with | 0 => h | k + 1 => hs k, rfl, rfl, i4, i5, fun k o' d' g1 g2 => ?_⟩
      cases k with
      | zero =>
        simp only [List.getElem?_cons_zero, Option.some.injEq] at g1 g2
        subst g1 g2
        simp only [i2, i3]
        exact hone
      | succ k => exact i6 k o' d' (by simpa using g1) (by simpa using g2)
    rw [runRecS] at hr
    cases hgo : guardOk all e o with
    | false => rw [if_pos hgo] at hr; simp at hr
    | true =>
    rw [if_neg (by rw [hgo]; simp)] at hr
    split at hr
    · rename_i hw
      split at hr
      · rename_i c hc
        split at hr <;> try (simp at hr; done)
        rename_i x hx
        split at hr <;> try (simp at hr; done)
        rename_i v h1 hq
        split at hr <;> try (simp at hr; done)
        rename_i e2 h2 l2 hrun
        simp only [Option.some.injEq, Prod.mk.injEq] at hr
        obtain ⟨rfl, rfl, rfl⟩ := hr
        exact key _ _ _ _ _ _ hrun ⟨.call e h h1 c x.1 x.2 v hw (callOf_some hc) hx hq, hgo⟩
      · split at hr <;> try (simp at hr; done)
        rename_i f hf
        split at hr <;> try (simp at hr; done)
        rename_i e2 h2 l2 hrun
        simp only [Option.some.injEq, Prod.mk.injEq] at hr
        obtain ⟨rfl, rfl, rfl⟩ := hr
        exact key _ _ _ _ _ _ hrun ⟨.eff e h f hw hf, hgo⟩
    · rename_i hw
      split at hr <;> try (simp at hr; done)
      rename_i e2 h2 l2 hrun
      simp only [Option.some.injEq, Prod.mk.injEq] at hr
      obtain ⟨rfl, rfl, rfl⟩ := hr
      exact key _ _ _ _ _ _ hrun ⟨.skip e h (by simpa using hw), hgo⟩

theorem drawOne_spec {b : List Nat} {x : Did} {i : Nat} : ∀ (l : List Did) (j : Nat), drawOne b x i l j = true → ∀ k y, l[k]? = some y → (b.getD (j + k) 0).testBit i = true ∨ swapOk x y = true := by
  intro l
  induction l with
  | nil => intro j _ k y h; simp at h
  | cons d r ih =>
    intro j h k y hk
    simp only [drawOne, Bool.and_eq_true, Bool.or_eq_true] at h
    cases k with
    | zero =>
      simp only [List.getElem?_cons_zero, Option.some.injEq] at hk
      subst hk; exact h.1
    | succ k =>
      have := ih (j + 1) h.2 k y (by simpa using hk)
      rwa [show j + 1 + k = j + (k + 1) by omega] at this
theorem drawDid_spec {b : List Nat} : ∀ (l : List Did) (i : Nat), drawDid b l i = true → ∀ p q x y, p < q → l[p]? = some x → l[q]? = some y → (b.getD (i + q) 0).testBit (i + p) = true ∨ swapOk x y = true := by
  intro l
  induction l with
  | nil => intro i _ p q x y _ h; simp at h
  | cons d r ih =>
    intro i h p q x y hpq hp hq
    simp only [drawDid, Bool.and_eq_true] at h
    cases p with
    | zero =>
      cases q with
      | zero => omega
      | succ q =>
        simp only [List.getElem?_cons_zero, Option.some.injEq] at hp
        subst hp
        have := drawOne_spec r (i + 1) h.1 q y (by simpa using hq)
        rwa [show i + 1 + q = i + (q + 1) by omega] at this
    | succ p =>
      cases q with
      | zero => omega
      | succ q =>
        have := ih (i + 1) h.2 p q x y (by omega) (by simpa using hp) (by simpa using hq)
        rwa [show i + 1 + q = i + (q + 1) by omega, show i + 1 + p = i + (p + 1) by omega] at this

theorem newIds_ge : ∀ (l : List Blk) (nx b : Nat), b ∈ newIds nx l → nx ≤ b := by
  intro l
  induction l with
  | nil => intro nx b h; simp [newIds] at h
  | cons x r ih =>
    intro nx b h
    simp only [newIds, List.mem_cons] at h
    rcases h with rfl | h
    · exact Nat.le_refl _
    · have := ih _ _ h; omega

/-- where an operation left its mark. -/
def touched (d : Did) (b : Nat) : Prop := match d with
  | .skip => False
  | .eff rd f nx => b ∈ (Did.eff rd f nx).wrote
  | .call h h' => h.get b ≠ h'.get b

theorem step_wf (hcl : CallOk P ng cl) {all : List Oper} {o : Oper} {d : Did} {e e' : Env} {h h' : Heap} (hs : OneStep P cl all o d e h e' h') (hwf : HWf h) : HWf h' ∧ h.nx ≤ h'.nx := by
  cases hs with
  | skip => exact ⟨hwf, Nat.le_refl _⟩
  | eff _ _ f _ hf => exact HWf.apply hwf (eff_ok hf)
  | call _ _ _ c f args v _ _ _ hq => obtain ⟨_, h1, h2, _⟩ := hcl f args h _ h' hq hwf; exact ⟨h1, h2⟩
theorem step_touch (hcl : CallOk P ng cl) {all : List Oper} {o : Oper} {d : Did} {e e' : Env} {h h' : Heap} (hs : OneStep P cl all o d e h e' h') (hwf : HWf h) (b : Nat) : (¬ touched d b → h'.get b = h.get b) ∧ (touched d b → b < h'.nx) := by
  cases hs with
  | skip => exact ⟨fun _ => rfl, fun h => h.elim⟩
  | eff _ _ f _ hf =>
    refine ⟨fun hn => apply_other hn, fun hy => ?_⟩
    have := (apply_same (h2 := h) rfl hy).2
    refine Nat.lt_of_not_le fun hle => this ?_
    exact (HWf.apply hwf (eff_ok hf)).1 b hle
  | call _ _ _ c f args v _ _ _ hq =>
    obtain ⟨_, h1, h2, _⟩ := hcl f args h _ h' hq hwf
    refine ⟨fun hn => (Classical.not_not.1 hn).symm, fun hy => Nat.lt_of_not_le fun hle => hy ?_⟩
    rw [h1 b hle, hwf b (Nat.le_trans h2 hle)]

/-- two that may be swapped: what the one wrote the other didn't read. -/
theorem swap_all {x y : Did} (h : swapOk x y = true) : x = .skip ∨ y = .skip ∨
    (∃ rd f nx rd' f' nx', x = .eff rd f nx ∧ y = .eff rd' f' nx' ∧ (∀ b, b ∈ x.wrote → b ∉ rd' ∧ b ∉ y.wrote) ∧ ∀ b, b ∈ rd → b ∉ y.wrote) ∨
    (∃ h h' rd f nx, x = .call h h' ∧ y = .eff rd f nx ∧ f.wr = [] ∧ ∀ b, b ∈ rd → h.get b = h'.get b) ∨
    (∃ h h' rd f nx, x = .eff rd f nx ∧ y = .call h h' ∧ f.wr = [] ∧ f.nw = [] ∧ ∀ b, b ∈ rd → h.get b = h'.get b) := by
  cases x with
  | skip => exact .inl rfl
  | eff rd f nx =>
    cases y with
    | skip => exact .inr (.inl rfl)
    | eff rd' f' nx' =>
      have h' : (disj (Did.eff rd f nx).wrote (rd' ++ (Did.eff rd' f' nx').wrote) && disj rd (Did.eff rd' f' nx').wrote) = true := h
      simp only [Bool.and_eq_true] at h'
      refine .inr (.inr (.inl ⟨rd, f, nx, rd', f', nx', rfl, rfl, fun b hb => ?_, fun b hb => disj_spec h'.2 hb⟩))
      have := disj_spec h'.1 hb
      simp only [List.mem_append, not_or] at this
      exact this
    | call g g' =>
      have h' : (f.wr.isEmpty && f.nw.isEmpty && rd.all fun b => sameB (g.get b) (g'.get b)) = true := h
      simp only [Bool.and_eq_true, List.isEmpty_iff, List.all_eq_true] at h'
      exact .inr (.inr (.inr (.inr ⟨g, g', rd, f, nx, rfl, rfl, h'.1.1, h'.1.2, fun b hb => sameB_eq (h'.2 b hb)⟩)))
  | call g g' =>
    cases y with
    | skip => exact .inr (.inl rfl)
    | eff rd f nx =>
      have h' : (f.wr.isEmpty && rd.all fun b => sameB (g.get b) (g'.get b)) = true := h
      simp only [Bool.and_eq_true, List.isEmpty_iff, List.all_eq_true] at h'
      exact .inr (.inr (.inr (.inl ⟨g, g', rd, f, nx, rfl, rfl, h'.1, fun b hb => sameB_eq (h'.2 b hb)⟩)))
    | call k k' => exact absurd h (by simp [swapOk])
/-- the pairs that need no look. -/
theorem safe_swap {all : List Oper} {oi oj : Oper} {di dj : Did} {ei ei' ej ej' : Env} {hi hi' hj hj' : Heap} (h1 : OneStep P cl all oi di ei hi ei' hi') (h2 : OneStep P cl all oj dj ej hj ej' hj') (hs : safeC (opCls oi.op) (opCls oj.op) = true) : swapOk di dj = true := by
  simp only [safeC, Bool.or_eq_true, Bool.and_eq_true, Nat.beq_eq] at hs
  have nil0 : ∀ b : List Nat, disj [] b = true := fun b => rfl
  have nil1 : ∀ a : List Nat, disj a [] = true := fun a => by simp [disj]
  cases h1 with
  | skip _ _ _ => rfl
  | call _ _ h' c f args v _ hop _ _ =>
    have hc : opCls oi.op = 2 := by rw [hop]; rfl
    rw [hc] at hs
    cases h2 with
    | skip _ _ _ => rfl
    | call _ _ h'' c' f' args' v' _ hop' _ _ =>
      have hc' : opCls oj.op = 2 := by rw [hop']; rfl
      rw [hc'] at hs
      omega
    | eff _ _ g _ he =>
      have hj0 : opCls oj.op = 0 := by omega
      obtain ⟨q1, _⟩ := eff_quiet (by omega) he
      show (g.wr.isEmpty && (foot oj.op _).all _) = true
      rw [q1, foot_nil hj0]; rfl
  | eff _ _ g _ he =>
    cases h2 with
    | skip _ _ _ => rfl
    | call _ _ h'' c' f' args' v' _ hop' _ _ =>
      have hc' : opCls oj.op = 2 := by rw [hop']; rfl
      rw [hc'] at hs
      have hi0 : opCls oi.op = 0 := by omega
      obtain ⟨q1, q2⟩ := eff_quiet (by omega) he
      show (g.wr.isEmpty && g.nw.isEmpty && (foot oi.op _).all _) = true
      rw [q1, q2, foot_nil hi0]; rfl
    | eff _ _ g' _ he' =>
      show (disj (Did.eff _ g _).wrote ((Did.eff _ g' _).read ++ (Did.eff _ g' _).wrote) && disj (Did.eff _ g _).read (Did.eff _ g' _).wrote) = true
      rcases hs with (hi0 | hj0) | ⟨hi1, hj1⟩
      · obtain ⟨q1, q2⟩ := eff_quiet (by omega) he
        simp only [Did.wrote, Did.read, q1, q2, foot_nil hi0, List.map_nil, newIds, List.append_nil, nil0, Bool.and_self]
      · obtain ⟨q1, q2⟩ := eff_quiet (by omega) he'
        simp only [Did.wrote, Did.read, q1, q2, foot_nil hj0, List.map_nil, newIds, List.append_nil, nil1, Bool.and_self]
      · obtain ⟨q1, q2⟩ := eff_quiet (by omega) he
        obtain ⟨q3, q4⟩ := eff_quiet (by omega) he'
        simp only [Did.wrote, Did.read, q1, q2, q3, q4, List.map_nil, newIds, List.append_nil, nil0, nil1, Bool.and_self]
theorem drawDid2_spec {ops : List Oper} {l : List Did} (h : drawDid2 ops l = true) {i j : Nat} {oi oj : Oper} {x y : Did} (hij : i < j) (hi : ops[i]? = some oi) (hj : ops[j]? = some oj) (hx : l[i]? = some x) (hy : l[j]? = some y)
    (hb : ((befs ops []).getD j 0).testBit i = false) (hs : safeC (opCls oi.op) (opCls oj.op) = false) : swapOk x y = true := by
  unfold drawDid2 at h
  have hm : (i, j) ∈ dynPairs ops := by
    unfold dynPairs
    rw [List.mem_flatMap]
    refine ⟨j, List.mem_range.2 (List.getElem?_eq_some_iff.1 hj).1, ?_⟩
    rw [List.mem_map]
    refine ⟨i, List.mem_filter.2 ⟨List.mem_range.2 hij, ?_⟩, rfl⟩
    simp only [clsAt, hi, hj, hb, hs]
    rfl
  have := List.all_eq_true.1 h _ hm
  simpa only [hx, hy] using this
end Go.AM
