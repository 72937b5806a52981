/- Functions, calls. -/
import Derived.Test.YtkkdpbicppdglaaGreatDoorAmEng
namespace Go.AM
variable {P : Program} {ng nt : Nat} {m : Mp} {h h' : Heap} {N : Nat} {F : Nat → Option Blk} {w : World}

theorem load_pure {t : TypeId} {a a' : Value} {f : Eff} (hr : HRel m (mix h N F) w) (hwf : HWf h) (hN : h.nx ≤ N) (ha : VRel m a a') (he : effLoad P t a h.get = some f) :
    ∃ v', (do loadVar t (← asAddr a') : Sem Value).run P w = .ok v' w ∧ VRel m f.val v' := by
  unfold effLoad at he
  split at he <;> try (simp at he; done)
  rename_i b off
  split at he <;> try (simp at he; done)
  rename_i xs n k hb
  obtain ⟨l, hm, c, el, fr, hc⟩ := hr.cells hwf hN hb
  have hp := ptr_live ha hm
  subst hp
  split at he <;> try (simp at he; done)
  rename_i d hd
  have hfit := hc.fit
  have hcsz := hc.csz
  cases hg : aggB (some d) with
  | true =>
    rw [hg] at he
    simp only [cond_true] at he
    split at he <;> try (simp at he; done)
    rename_i i hi
    cases hle : Nat.ble (off + i.size) n with
    | false => simp [hle] at he
    | true =>
      rw [hle] at he
      simp only [cond_true, AM.ret, Option.some.injEq] at he
      subst he
      have hle := Nat.le_of_ble_eq_true hle
      have hrel := cells_rel hc.cell (k := i.size) hle (by omega)
      refine ⟨.agg ((c.toList.drop (l.sh + off)).take i.size).toArray, ?_, (.agg _ _ hrel.2 hrel.1)⟩
      simp only [asAddr, loadVar, Sem.run_bind, Sem.run_pure, Result.andThen_ok, ra hd, hg]
      rw [if_pos trivial]
      simp only [Sem.run_bind, rs hi, Result.andThen_ok, run_cells hc.heap (show l.sh + off + i.size ≤ c.size by omega), Sem.run_pure]
  | false =>
    rw [hg] at he
    simp only [cond_false] at he
    cases hlt : Nat.blt off n with
    | false => simp [hlt] at he
    | true =>
      rw [hlt] at he
      simp only [cond_true] at he
      have hlt : off < n := by simpa [Nat.blt_eq] using hlt
      obtain ⟨v, v', g1, g2, g3, g4⟩ := hc.cell off hlt
      rw [g1] at he
      simp only [AM.ret, Option.some.injEq] at he
      subst he
      refine ⟨v', ?_, g4⟩
      simp only [asAddr, loadVar, Sem.run_bind, Sem.run_pure, Result.andThen_ok, ra hd, hg]
      simp [cell_at hc.heap, g2]

def resSem (tmps : Array Value) (r : ResultVar) : Sem Value := match r with
  | .tmp t => pure (tmps.getD t undef)
  | .cell a t => do loadVar t (← asAddr (tmps.getD a undef))
theorem results_eq (fn : Func) (tmps : Array Value) : results fn tmps = (do
    let vs ← fn.results.mapM (resSem tmps)
    pure (if h : vs.size = 1 then vs[0] else .tuple vs)) := rfl

theorem res_one {e : Env} {a : Act} {r : ResultVar} {v : Value} (hh : HRel m (mix h N F) w) (hwf : HWf h) (hN : h.nx ≤ N) (hr : ARel m e.at a nt) (hv : resOne P e h r = some v) : ∃ v', (resSem a.tmps r).run P w = .ok v' w ∧ VRel m v v' := by
  cases r with
  | tmp t =>
    have hv' : some (e.at t) = some v := hv
    simp only [Option.some.injEq] at hv'
    subst hv'
    exact ⟨_, by simp [resSem], hr.tm t⟩
  | cell x t =>
    unfold resOne at hv
    simp only at hv
    split at hv <;> try (simp at hv; done)
    rename_i f hf
    simp only [Option.some.injEq] at hv
    subst hv
    exact load_pure hh hwf hN (hr.tm x) hf
theorem res_all {e : Env} {a : Act} (hh : HRel m (mix h N F) w) (hwf : HWf h) (hN : h.nx ≤ N) (hr : ARel m e.at a nt) : ∀ (rs : List ResultVar) (vs : List Value), resAll P e h rs = some vs → ∃ vs', (rs.mapM (resSem a.tmps)).run P w = .ok vs' w ∧ VRels m vs vs' := by
  intro rs
  induction rs with
  | nil =>
    intro vs hv
    simp only [resAll, Option.some.injEq] at hv
    subst hv
    exact ⟨[], by simp, .nil⟩
  | cons r l ih =>
    intro vs hv
    rw [resAll] at hv
    split at hv <;> try (simp at hv; done)
    rename_i v vs1 h1 h2
    simp only [Option.some.injEq] at hv
    subst hv
    obtain ⟨v', a1, a2⟩ := res_one hh hwf hN hr h1
    obtain ⟨vs', b1, b2⟩ := ih vs1 h2
    exact ⟨v' :: vs', by simp [List.mapM_cons, a1, b1], .cons _ _ _ _ a2 b2⟩
theorem resultV_ok {e : Env} {a : Act} {fn : Func} {v : Value} (hh : HRel m (mix h N F) w) (hwf : HWf h) (hN : h.nx ≤ N) (hr : ARel m e.at a nt) (hv : resultV P e h fn.results.toList = some v) :
    ∃ v', (results fn a.tmps).run P w = .ok v' w ∧ VRel m v v' := by
  rw [results_eq, Array.mapM_eq_mapM_toList]
  unfold resultV at hv
  split at hv
  · rename_i r hrs
    obtain ⟨v', a1, a2⟩ := res_one hh hwf hN hr hv
    exact ⟨v', by simp [hrs, List.mapM_cons, a1], a2⟩
  · rename_i hne
    split at hv <;> try (simp at hv; done)
    rename_i vs hvs
    simp only [Option.some.injEq] at hv
    subst hv
    obtain ⟨vs', b1, b2⟩ := res_all hh hwf hN hr _ vs hvs
    refine ⟨.tuple vs'.toArray, ?_, .tuple _ _ b2⟩
    have hlen : vs'.length ≠ 1 := by
      rw [b2.length]
      intro hl
      have : fn.results.toList.length = vs.length := by
        clear hne b1 b2 vs'
        generalize fn.results.toList = rs at hvs
        clear hl
        induction rs generalizing vs with
        | nil => simp only [resAll, Option.some.injEq] at hvs; subst hvs; rfl
        | cons r l ih =>
          rw [resAll] at hvs
          split at hvs <;> try (simp at hvs; done)
          rename_i v1 vs1 h1 h2
          simp only [Option.some.injEq] at hvs
          subst hvs
          simp [ih vs1 h2]
      rw [hl] at this
      obtain ⟨r, hr1⟩ := List.length_eq_one_iff.1 this
      exact hne r hr1
    simp [b1, hlen]

theorem enter_of_ok {f : FuncId} {fn : Func} (hf : P.funcs[f]? = some fn) (hok : fnOk ng fn = true) : Enter P f ∧ ∃ c, fn.body = some c ∧ codeOk ng fn.ntmps c = true := by
  simp only [fnOk, Bool.and_eq_true, bne_iff_ne, ne_eq] at hok
  obtain ⟨h1, h2⟩ := hok
  split at h2 <;> try (simp at h2; done)
  rename_i c hc
  refine ⟨fun args w => ?_, c, hc, h2⟩
  simp [callFunc, hf, h1, hc]

theorem args_rel {args args' : List Value} (ha : VRels m args args') (n : Nat) : ARel m (Env.at (storeL .leaf 0 args)) { tmps := args'.toArray ++ Array.replicate (n - args'.toArray.size) undef, defers := [] } n := by
  have hl := ha.length
  refine ⟨fun t => ?_, by simp; omega, rfl⟩
  rw [Env.at_eq, get_storeL, Array.getD_eq_getD_getElem?]
  simp only [Array.getElem?_append, List.size_toArray, List.getElem?_toArray, Array.getElem?_replicate, Nat.zero_le, true_and, Nat.zero_add, Nat.sub_zero]
  by_cases ht : t < args.length
  · rw [if_pos ht, if_pos (show t < args'.length by rw [hl]; exact ht)]
    obtain ⟨v', h1, h2⟩ := ha.get (List.getElem?_eq_getElem ht)
    rw [h1, List.getElem?_eq_getElem ht]
    exact h2
  · rw [if_neg ht, if_neg (show ¬ t < args'.length by rw [hl]; exact ht)]
    rw [Trie.get_leaf]; exact .top _

/-- what is asked of one function's way. -/
def CallOkAt (P : Program) (ng : Nat) (f : FuncId) (cl : List Value → Heap → Option (Out × Heap)) : Prop := ∀ args h o h', cl args h = some (o, h') → HWf h →
  Enter P f ∧ HWf h' ∧ h.nx ≤ h'.nx ∧ ∀ (N : Nat) (F : Nat → Option Blk) (m : Mp) (w : World) (args' : List Value), h'.nx ≤ N → HRel m (mix h N F) w → GlobOk ng m → VRels m args args' →
    Calls P f args'.toArray w fun e w' => ∃ m', ORel m' o e ∧ HRel m' (mix h' N F) w' ∧ Step m w m' w'
theorem callOk_iff {cl : Caller} : CallOk P ng cl ↔ ∀ f, CallOkAt P ng f (cl f) := Iff.rfl
def SpecOk (P : Program) (ng : Nat) (sp : Special) : Prop := ∀ f G, sp f = some G → ∀ cl, CallOk P ng cl → CallOkAt P ng f (G cl)

theorem body_ok (hm : P.follows .mixedOrders = true) {cl : Caller} (hcl : CallOk P ng cl) {f : FuncId} {fn : Func} (hf : P.funcs[f]? = some fn) (hok : fnOk ng fn = true) {c : Code} (hc : fn.body = some c) {fuel : Nat} {ex : AExit} {args : List Value} {e : Env} {o : Out}
    (hrun : engine P cl fuel c (storeL .leaf 0 args) h = some (ex, e, h')) (ho : (∃ v, o = .ret v ∧ (ex = .normal ∨ ex = .ret) ∧ resultV P e h' fn.results.toList = some v) ∨ ∃ v, o = .pan v ∧ ex = .pan v) (hwf : HWf h) :
    Enter P f ∧ HWf h' ∧ h.nx ≤ h'.nx ∧ ∀ (N : Nat) (F : Nat → Option Blk) (m : Mp) (w : World) (args' : List Value), h'.nx ≤ N → HRel m (mix h N F) w → GlobOk ng m → VRels m args args' →
      Calls P f args'.toArray w fun e w' => ∃ m', ORel m' o e ∧ HRel m' (mix h' N F) w' ∧ Step m w m' w' := by
  obtain ⟨hen, c', hc', hcok⟩ := enter_of_ok hf hok
  rw [hc] at hc'
  simp only [Option.some.injEq] at hc'
  subst hc'
  obtain ⟨a1, a2, a3⟩ := (engine_ok hm hcl fuel).1 c _ _ _ _ _ hcok hrun hwf
  refine ⟨hen, a1, a2, fun N F m w args' hN hh hg ha => calls_of_wp hf hc ?_⟩
  refine a3 N F m w _ _ hN hh hg (args_rel ha _) ?_
  intro m' w' a' x q1 q2 q3 q4
  rcases ho with ⟨v, rfl, hex, hv⟩ | ⟨v, rfl, rfl⟩
  · obtain ⟨v', r1, r2⟩ := resultV_ok q1 a1 hN q3 hv
    have hx : x = .normal ∨ x = .ret := by
      rcases hex with rfl | rfl
      · exact .inl q4
      · exact .inr q4
    rcases hx with rfl | rfl
    · exact ⟨q3.def_, v', r1, m', ⟨v', rfl, r2⟩, q1, q2⟩
    · exact ⟨q3.def_, v', r1, m', ⟨v', rfl, r2⟩, q1, q2⟩
  · obtain ⟨v', hx, hv⟩ := (q4 : ∃ v', x = .panic [{ v := v', recovered := false }] ∧ VRel m' v v')
    subst hx
    exact ⟨q3.def_, m', ⟨v', rfl, hv⟩, q1, q2⟩

theorem callF_ok (hm : P.follows .mixedOrders = true) {sp : Special} (hsp : SpecOk P ng sp) {fuel : Nat} {cl : Caller} (hcl : CallOk P ng cl) : CallOk P ng (callF P ng sp fuel cl) := by
  intro f args h o h' hr hwf
  unfold callF at hr
  split at hr
  · rename_i G hG
    exact hsp f G hG cl hcl args h o h' hr hwf
  · split at hr <;> try (simp at hr; done)
    rename_i fn hf
    cases hok : fnOk ng fn with
    | false => rw [hok] at hr; simp at hr
    | true =>
      rw [hok] at hr
      simp only at hr
      split at hr <;> try (simp at hr; done)
      rename_i c hc
      split at hr <;> try (simp at hr; done)
      · rename_i e h1 hrun
        split at hr <;> try (simp at hr; done)
        rename_i v hv
        simp only [Option.some.injEq, Prod.mk.injEq] at hr
        obtain ⟨rfl, rfl⟩ := hr
        exact body_ok hm hcl hf hok hc hrun (.inl ⟨v, rfl, .inl rfl, hv⟩) hwf
      · rename_i e h1 hrun
        split at hr <;> try (simp at hr; done)
        rename_i v hv
        simp only [Option.some.injEq, Prod.mk.injEq] at hr
        obtain ⟨rfl, rfl⟩ := hr
        exact body_ok hm hcl hf hok hc hrun (.inl ⟨v, rfl, .inr rfl, hv⟩) hwf
      · rename_i v e h1 hrun
        simp only [Option.some.injEq, Prod.mk.injEq] at hr
        obtain ⟨rfl, rfl⟩ := hr
        exact body_ok hm hcl hf hok hc hrun (.inr ⟨v, rfl, rfl⟩) hwf
theorem acall_ok (hm : P.follows .mixedOrders = true) {sp : Special} (hsp : SpecOk P ng sp) (fuel : Nat) : ∀ n, CallOk P ng (acall P ng sp fuel n)
  | 0 => fun f args h o h' hr => by simp [acall] at hr
  | n + 1 => callF_ok hm hsp (acall_ok hm hsp fuel n)
theorem noSpec_ok : SpecOk P ng (fun _ => none) := fun f G h => by cases h
end Go.AM
