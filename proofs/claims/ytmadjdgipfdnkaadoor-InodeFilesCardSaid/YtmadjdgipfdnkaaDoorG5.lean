/- Lemmas of the claim: the machine of the proof and the walks of the program. Conditions: as each says. -/
import Derived.Test.YtmadjdgipfdnkaaDoorG4
import Derived.Deep.Strs
section
/- Code whose outcome is open: what it may come to; loops over maps in any order. Conditions: as each rule says. -/
set_option linter.unusedSectionVars false
namespace Go.AM
variable {P : Program} {ng nt : Nat} [Ds nt] {sp : Special} {c : Code} {e : Env} {h : Heap} {Q Q1 : AExit → Env → Heap → Prop}

theorem mix_none {h : Heap} (hwf : HWf h) {N : Nat} (hN : h.nx ≤ N) : mix h N (fun _ => none) = h.get := by
  funext b
  unfold mix
  by_cases hb : b < N
  · rw [if_pos hb]
  · rw [if_neg hb, hwf b (by omega)]

/-- where code may come to. -/
def Land (nt : Nat) [Ds nt] (m : Mp) (w : World) (Q : AExit → Env → Heap → Prop) : Exit → Act → World → Prop := fun x a' w' =>
  ∃ ex e' h' m', Q ex e' h' ∧ HWf h' ∧ HRel m' h'.get w' ∧ Step m w m' w' ∧ ARel m' e'.at a' nt ∧ XRel m' ex x
theorem Land.trans {m m' : Mp} {w w' w'' : World} {x : Exit} {a : Act} (hs : Step m w m' w') (hl : Land nt m' w' Q x a w'') : Land nt m w Q x a w'' := by
  obtain ⟨ex, e', h', m2, q, hw, hh, hs2, hr, hx⟩ := hl
  exact ⟨ex, e', h', m2, q, hw, hh, hs.trans hs2, hr, hx⟩
def Good (P : Program) (ng nt : Nat) [Ds nt] (c : Code) (e : Env) (h : Heap) (Q : AExit → Env → Heap → Prop) : Prop :=
  HWf h → ∀ m w a, HRel m h.get w → GlobOk ng m → ARel m e.at a nt → c.wp P (Land nt m w Q) a w
theorem Good.of_comes {ex : AExit} {e' : Env} {h' : Heap} (hc : Comes' P ng nt c ex e e' h h') (hq : Q ex e' h') : Good P ng nt c e h Q := by
  intro hwf m w a hh hg hr
  obtain ⟨a1, a2, a3⟩ := hc hwf
  refine a3 h'.nx (fun _ => none) m w a _ (Nat.le_refl _) (by rw [mix_none hwf a2]; exact hh) hg hr ?_
  intro m' w' a' x q1 q2 q3 q4
  rw [mix_none a1 (Nat.le_refl _)] at q1
  exact ⟨ex, e', h', m', hq, a1, q1, q2, q3, q4⟩
/-- a piece that is run as before. -/
theorem Good.det (hm : P.follows .mixedOrders = true) (hsp : SpecOk P ng sp) (hok : codeOk ng nt c = true) (hr : Run P ng sp Q [] (.code c) e h) : Good P ng nt c e h Q := by
  obtain ⟨ex, e', h', ⟨N, hN⟩, hx⟩ := hr.sem
  exact .of_comes ((engine_ok hm (acall_ok hm hsp N N) N).1 c _ _ _ _ _ hok (hN N N N (Nat.le_refl _) (Nat.le_refl _) (Nat.le_refl _))) hx
theorem Good.mono (hg : Good P ng nt c e h Q1) (hq : ∀ ex e' h', Q1 ex e' h' → Q ex e' h') : Good P ng nt c e h Q := fun hwf m w a hh hgl hr =>
  wp_mono (hg hwf m w a hh hgl hr) fun _ _ _ ⟨ex, e', h', m', q, r⟩ => ⟨ex, e', h', m', hq _ _ _ q, r⟩
theorem Good.seq {c1 c2 : Code} (h1 : Good P ng nt c1 e h fun ex e' h' => (ex = .normal → Good P ng nt c2 e' h' Q) ∧ (ex ≠ .normal → Q ex e' h')) : Good P ng nt (.seq c1 c2) e h Q := by
  intro hwf m w a hh hg hr
  refine wp_seq (wp_mono (h1 hwf m w a hh hg hr) ?_)
  rintro x a' w' ⟨ex, e', h', m', ⟨qn, qx⟩, hwf', hh', hs, hr', hx⟩
  by_cases hn : ex = .normal
  · subst hn
    have : x = .normal := hx
    subst this
    exact wp_mono (qn rfl hwf' m' w' a' hh' (hg.mono hs.ext) hr') fun _ _ _ hl => hl.trans hs
  · exact then_of_not (hx.not_normal hn) ⟨ex, e', h', m', qx hn, hwf', hh', hs, hr', hx⟩
def leave (id : Nat) : AExit → AExit
  | .exit i => if i = id then .normal else .exit i
  | x => x
theorem Good.block {id : Nat} (hc : Good P ng nt c e h fun ex e' h' => Q (leave id ex) e' h') : Good P ng nt (.block id c) e h Q := by
  intro hwf m w a hh hg hr
  refine wp_block (wp_mono (hc hwf m w a hh hg hr) ?_)
  rintro x a' w' ⟨ex, e', h', m', q, hwf', hh', hs, hr', hx⟩
  cases ex with
  | exit i =>
    have : x = .exit i := hx
    subst this
    unfold Exit.inBlock
    by_cases e : i = id
    · simp only [if_pos e]
      simp only [leave, if_pos e] at q
      exact ⟨.normal, e', h', m', q, hwf', hh', hs, hr', rfl⟩
    · simp only [if_neg e]
      simp only [leave, if_neg e] at q
      exact ⟨.exit i, e', h', m', q, hwf', hh', hs, hr', rfl⟩
  | normal => have : x = .normal := hx; subst this; exact ⟨.normal, e', h', m', q, hwf', hh', hs, hr', rfl⟩
  | ret => have : x = .ret := hx; subst this; exact ⟨.ret, e', h', m', q, hwf', hh', hs, hr', rfl⟩
  | goto l => have : x = .goto l := hx; subst this; exact ⟨.goto l, e', h', m', q, hwf', hh', hs, hr', rfl⟩
  | pan v =>
    obtain ⟨v', e, hv⟩ := (hx : ∃ v', x = .panic [{ v := v', recovered := false }] ∧ VRel m' v v')
    subst e
    exact ⟨.pan v, e', h', m', q, hwf', hh', hs, hr', v', rfl, hv⟩
theorem Good.cond {x : Operand} {c1 c2 : Code} {t : Bool} (hx : operOk ng x = true) (ht : e.eval x = .bool t) (hc : Good P ng nt (bif t then c1 else c2) e h Q) : Good P ng nt (.cond x c1 c2) e h Q := by
  intro hwf m w a hh hg hr
  have hev := hr.eval hg hx
  rw [← Env.eval_eq, ht] at hev
  generalize hv : a.eval x = v at hev
  cases hev
  refine wp_cond hv ?_
  have := hc hwf m w a hh hg hr
  cases t <;> exact this
theorem Good.loop {n : Nat} (I : Nat → Env → Heap → Prop) (step : ∀ n e h, I n e h → Good P ng nt c e h fun ex e' h' => (ex = .normal ∧ ∃ k, k < n ∧ I k e' h') ∨ (ex ≠ .normal ∧ Q ex e' h')) (h0 : I n e h) : Good P ng nt (.loop c) e h Q := by
  intro hwf m w a hh hg hr
  have key : ∀ N n, n < N → ∀ e h, I n e h → HWf h → ∀ m1 w1 a1, Step m w m1 w1 → HRel m1 h.get w1 → ARel m1 e.at a1 nt → Code.rounds P c (Land nt m w Q) N a1 w1 := by
    intro N
    induction N with
    | zero => intro n hn; omega
    | succ N ih =>
      intro n hn e h hI hwf m1 w1 a1 hs hh hr
      rw [rounds_succ]
      refine wp_mono (step n e h hI hwf m1 w1 a1 hh (hg.mono hs.ext) hr) ?_
      rintro x a' w' ⟨ex, e', h', m', q, hwf', hh', hs', hr', hx⟩
      rcases q with ⟨rfl, k, hk, hI'⟩ | ⟨hne, hq⟩
      · have : x = .normal := hx
        subst this
        exact ih k (by omega) e' h' hI' hwf' m' w' a' (hs.trans hs') hh' hr'
      · exact then_of_not (hx.not_normal hne) ⟨ex, e', h', m', hq, hwf', hh', hs.trans hs', hr', hx⟩
  exact wp_loop_rounds (n + 1) (key (n + 1) n (Nat.lt_succ_self n) e h h0 hwf m w a (.refl m w) hh hr)

/- ## Functions -/
/-- what a call may come to. -/
def WFS (P : Program) (ng : Nat) (f : FuncId) (args : List Value) (h : Heap) (R : Out → Heap → Prop) : Prop :=
  HWf h → Enter P f ∧ ∀ m w args', HRel m h.get w → GlobOk ng m → VRels m args args' → Calls P f args'.toArray w fun e w' => ∃ o h' m', R o h' ∧ HWf h' ∧ ORel m' o e ∧ HRel m' h'.get w' ∧ Step m w m' w'
theorem WFS.of_wf (hm : P.follows .mixedOrders = true) (hsp : SpecOk P ng sp) {f : FuncId} {args : List Value} {R : Out → Heap → Prop} (hw : WF P ng sp f args h R) : WFS P ng f args h R := by
  obtain ⟨o, h', ⟨N, hN⟩, hR⟩ := hw
  intro hwf
  obtain ⟨a0, a1, a2, a3⟩ := acall_ok hm hsp N N f args h o h' (hN N N (Nat.le_refl _) (Nat.le_refl _)) hwf
  refine ⟨a0, fun m w args' hh hg ha => (a3 h'.nx (fun _ => none) m w args' (Nat.le_refl _) (by rw [mix_none hwf a2]; exact hh) hg ha).mono ?_⟩
  rintro e w' ⟨m', q1, q2, q3⟩
  rw [mix_none a1 (Nat.le_refl _)] at q2
  exact ⟨o, h', m', hR, a1, q1, q2, q3⟩
theorem WFS.fn {f : FuncId} {fn : Func} {c : Code} {args : List Value} {R : Out → Heap → Prop} (hf : P.funcs[f]? = some fn) (hok : fnOk ng fn = true) (hc : fn.body = some c) (hr : @Good P ng fn.ntmps ⟨[]⟩ c (storeL .leaf 0 args) h (FnQ P fn.results.toList R)) : WFS P ng f args h R := by
  intro hwf
  obtain ⟨hen, c', hc', hcok⟩ := enter_of_ok hf hok
  letI : Ds fn.ntmps := ⟨[]⟩
  refine ⟨hen, fun m w args' hh hg ha => calls_of_wp hf hc (wp_mono (hr hwf m w _ hh hg (args_rel ha _)) ?_)⟩
  rintro x a' w' ⟨ex, e', h', m', q, hwf', hh', hs, hr', hx⟩
  have hh2 : HRel m' (mix h' h'.nx fun _ => none) w' := by rw [mix_none hwf' (Nat.le_refl _)]; exact hh'
  cases ex with
  | normal =>
    have : x = .normal := hx
    subst this
    obtain ⟨v, hv, hR⟩ := (q : ∃ v, resultV P e' h' fn.results.toList = some v ∧ R (.ret v) h')
    obtain ⟨v', r1, r2⟩ := resultV_ok hh2 hwf' (Nat.le_refl _) hr' hv
    exact ⟨hr'.def_, v', r1, .ret v, h', m', hR, hwf', ⟨v', rfl, r2⟩, hh', hs⟩
  | ret =>
    have : x = .ret := hx
    subst this
    obtain ⟨v, hv, hR⟩ := (q : ∃ v, resultV P e' h' fn.results.toList = some v ∧ R (.ret v) h')
    obtain ⟨v', r1, r2⟩ := resultV_ok hh2 hwf' (Nat.le_refl _) hr' hv
    exact ⟨hr'.def_, v', r1, .ret v, h', m', hR, hwf', ⟨v', rfl, r2⟩, hh', hs⟩
  | pan v =>
    obtain ⟨v', e, hv⟩ := (hx : ∃ v', x = .panic [{ v := v', recovered := false }] ∧ VRel m' v v')
    subst e
    exact ⟨hr'.def_, .pan v, h', m', q, hwf', ⟨v', rfl, hv⟩, hh', hs⟩
  | exit i => exact q.elim
  | goto l => exact q.elim

/- ## Regions with such calls -/
def GoodO (P : Program) (ng nt : Nat) [Ds nt] (all l : List Oper) (e : Env) (h : Heap) (Q : AExit → Env → Heap → Prop) : Prop :=
  HWf h → ∀ k, (∀ j, j < l.length → l[j]? = all[k + j]?) → l.all (opersOk ng nt) = true → ∀ m w a, HRel m h.get w → GlobOk ng m → ARel m e.at a nt → wpOps P all.toArray (Land nt m w Q) (List.range' k l.length) a w
theorem Good.region {id : Nat} {ops : Array Oper} (hok : codeOk ng nt (.region id ops false) = true) (hg : GoodO P ng nt ops.toList ops.toList e h Q) : Good P ng nt (.region id ops false) e h Q := by
  intro hwf m w a hh hgl hr
  have := hg hwf 0 (fun j _ => by simp) hok m w a hh hgl hr
  refine wp_region ?_
  rwa [Array.toArray_toList, Array.length_toList, ← List.range_eq_range'] at this
theorem upon_then {o : Oper} {a : Act} {next K : Act → World → Prop} {Q : Exit → Act → World → Prop} (r : Result Next) : o.upon P a next (Exit.then K Q) r = o.upon P a next Q r := by
  cases r with
  | ok n w' => cases n <;> rfl
  | halt x w' => cases x <;> rfl
theorem wpOps_app {ops : Array Oper} {Q : Exit → Act → World → Prop} {r2 : List Nat} : ∀ (r1 : List Nat) (a : Act) (w : World), wpOps P ops (Exit.then (fun a w => wpOps P ops Q r2 a w) Q) r1 a w → wpOps P ops Q (r1 ++ r2) a w := by
  intro r1
  induction r1 with
  | nil => intro a w h; exact h
  | cons i r1 ih =>
    intro a w h
    simp only [List.cons_append, wpOps] at h ⊢
    cases ho : ops[i]? with
    | none => rw [ho] at h; exact ih a w h
    | some o =>
      rw [ho] at h
      simp only at h ⊢
      split
      · rename_i hw
        rw [if_pos hw] at h
        refine h.imp (fun h => ?_) (fun h => h)
        unfold Oper.wp at h
        rw [upon_then] at h
        exact Oper.wp_mono (fun a w => ih a w) h
      · rename_i hw
        rw [if_neg hw] at h
        exact ih _ _ h
theorem upon_mono {o : Oper} {a : Act} {K K' : Act → World → Prop} {Q Q' : Exit → Act → World → Prop} (hk : ∀ a w, K a w → K' a w) (hq : ∀ x a w, Q x a w → Q' x a w) (r : Result Next) (h : o.upon P a K Q r) : o.upon P a K' Q' r := by
  cases r with
  | ok n w' =>
    cases n <;> simp only [Oper.upon] at h ⊢ <;>
      first
        | exact hk _ _ h
        | exact Calls.mono h (fun e w'' he => by cases e <;> first | exact hk _ _ he | exact hq _ _ _ he | exact he.imp fun _ he => he.imp fun _ he => hq _ _ _ he)
        | exact Rows.mono h (fun _ _ he => hk _ _ he)
  | halt x w' => cases x <;> simp only [Oper.upon] at h ⊢ <;> first | exact hq _ _ _ h | exact h
theorem wpOps_mono {ops : Array Oper} {Q Q' : Exit → Act → World → Prop} (hq : ∀ x a w, Q x a w → Q' x a w) : ∀ (l : List Nat) (a : Act) (w : World), wpOps P ops Q l a w → wpOps P ops Q' l a w := by
  intro l
  induction l with
  | nil => intro a w2 h; exact hq _ _ _ h
  | cons i r ih =>
    intro a w2 h
    simp only [wpOps] at h ⊢
    cases ho : ops[i]? with
    | none => rw [ho] at h; exact ih a w2 h
    | some o =>
      rw [ho] at h
      simp only at h ⊢
      split
      · rename_i hw
        rw [if_pos hw] at h
        exact h.imp (fun h => upon_mono (fun a w => ih a w) hq _ h) (fun h => ⟨h.1, h.2.imp fun _ he => he.imp fun _ he => hq _ _ _ he⟩)
      · rename_i hw
        rw [if_neg hw] at h
        exact ih _ _ h
theorem wpOps_land {m m' : Mp} {w w' : World} {ops : Array Oper} (hs : Step m w m' w') (l : List Nat) (a : Act) (w2 : World) (h : wpOps P ops (Land nt m' w' Q) l a w2) : wpOps P ops (Land nt m w Q) l a w2 :=
  wpOps_mono (fun _ _ _ hl => hl.trans hs) l a w2 h
/-- the next n operations are run as before. -/
theorem GoodO.take (n : Nat) {all l : List Oper} (hm : P.follows .mixedOrders = true) (hsp : SpecOk P ng sp)
    (hr : Run P ng sp (fun ex e' h' => (ex = .normal → GoodO P ng nt all (l.drop n) e' h' Q) ∧ (ex ≠ .normal → Q ex e' h')) [] (.ops all (l.take n)) e h) : GoodO P ng nt all l e h Q := by
  obtain ⟨ex, e', h', ⟨N, hN⟩, hx⟩ := hr.sem
  obtain ⟨hxn, hxx⟩ : (ex = .normal → GoodO P ng nt all (l.drop n) e' h' Q) ∧ (ex ≠ .normal → Q ex e' h') := hx
  have hrun := hN N N (Nat.le_refl _) (Nat.le_refl _)
  intro hwf k hl hok m w a hh hg hr
  have hsplit : List.range' k l.length = List.range' k (l.take n).length ++ List.range' (k + (l.take n).length) (l.drop n).length := by
    rw [List.range'_append_1, ← List.length_append, List.take_append_drop]
  rw [hsplit]
  refine wpOps_app _ _ _ ?_
  have hok1 : (l.take n).all (opersOk ng nt) = true := by
    rw [List.all_eq_true] at hok ⊢
    exact fun x hx => hok x (List.mem_of_mem_take hx)
  have hok2 : (l.drop n).all (opersOk ng nt) = true := by
    rw [List.all_eq_true] at hok ⊢
    exact fun x hx => hok x (List.mem_of_mem_drop hx)
  obtain ⟨g1, g2, g3⟩ := ops_wp (acall_ok hm hsp N N) all.toArray (l.take n) k e e' h h' ex (fun j hj => by
    have hj : j < n ∧ j < l.length := by rw [List.length_take] at hj; omega
    rw [List.getElem?_take, if_pos hj.1]
    exact hl j hj.2) hok1 hwf hrun
  refine g3 h'.nx (fun _ => none) m w a _ (Nat.le_refl _) (by rw [mix_none hwf g2]; exact hh) hg hr ?_
  intro m' w' a' x q1 q2 q3 q4
  rw [mix_none g1 (Nat.le_refl _)] at q1
  by_cases hn : ex = .normal
  · subst hn
    have : x = .normal := q4
    subst this
    have := hxn rfl g1 (k + (l.take n).length) (fun j hj => by
      have hj : j < l.length - n := by simpa using hj
      rw [List.getElem?_drop, List.length_take, show min n l.length = n by omega, Nat.add_assoc]
      exact hl (n + j) (by omega)) hok2 m' w' a' q1 (hg.mono q2.ext) q3
    exact wpOps_land q2 _ _ _ this
  · exact then_of_not (q4.not_normal hn) ⟨ex, e', h', m', hxx hn, g1, q1, q2, q3, q4⟩
/-- a call that may come to many things. -/
theorem GoodO.call {all r : List Oper} {o : Oper} {c : Call} {f : FuncId} {args : List Value} {R : Out → Heap → Prop} (hgd : o.guard = none) (hop : o.op = .call c) (hc : callee P c e.eval = some (f, args)) (hw : WFS P ng f args h R)
    (hp : ∀ v h', ¬ R (.pan v) h') (hk : ∀ v h', R (.ret v) h' → GoodO P ng nt all r (e.put o.dst v) h' Q) : GoodO P ng nt all (o :: r) e h Q := by
  intro hwf k hl hok m w a hh hg hr
  simp only [List.all_cons, Bool.and_eq_true] at hok
  have h0 : all.toArray[k]? = some o := by have := hl 0 (by simp); simpa using this.symm
  obtain ⟨hen, hcalls⟩ := hw hwf
  simp only [List.length_cons, List.range'_succ]
  refine wpOps_step h0 (by simp [Region.wanted, hgd]) ?_
  have hops : ∀ x ∈ c.operands.toList, VRel m (evalF e.at x) (a.eval x) := by
    have := opers_rel hr hg hok.1
    rw [hop] at this
    exact this
  rw [Env.eval_eq] at hc
  obtain ⟨args', h1, h2⟩ := call_run (P := P) (w := w) hop hops hc hen
  unfold Oper.wp
  rw [h2]
  refine (hcalls m w args' hh hg h1).mono ?_
  rintro en w' ⟨out, h', m', hR, hwf', ho, hh', hs⟩
  cases out with
  | pan v => exact absurd hR (hp v h')
  | ret v =>
    obtain ⟨v', rfl, hv⟩ := ho
    have := hk v h' hR hwf' (k + 1) (fun j hj => by have := hl (j + 1) (by simpa using hj); simpa [Nat.add_assoc, Nat.add_comm 1 j] using this) hok.2 m' w' (a.put o.dst v') hh' (hg.mono hs.ext) (by rw [Env.put_at]; exact (hr.mono hs.ext).put hv (dst_lt hok.1))
    exact wpOps_land hs _ _ _ this
/- ## Loops over maps -/
theorem XRel.same {m m' : Mp} (e : Alike m m') {ex : AExit} {x : Exit} (h : XRel m ex x) : XRel m' ex x := by
  cases ex with
  | pan v => obtain ⟨v', h1, h2⟩ := (h : ∃ v', x = .panic [{ v := v', recovered := false }] ∧ VRel m v v'); exact ⟨v', h1, h2.same e⟩
  | _ => exact h
theorem XRel.mono {m m' : Mp} (e : Ext m m') {ex : AExit} {x : Exit} (h : XRel m ex x) : XRel m' ex x := by
  cases ex with
  | pan v => obtain ⟨v', h1, h2⟩ := (h : ∃ v', x = .panic [{ v := v', recovered := false }] ∧ VRel m v v'); exact ⟨v', h1, h2.mono e⟩
  | _ => exact h
theorem get_put (h : Heap) (d : Nat) (x : Blk) : (h.put d x).get = fun b => if b = d then some x else h.get b := by
  funext b
  show (h.t.set d x).get b = _
  rw [Trie.get_set]; rfl
theorem look_wp {c2 : Code} {e0 : Env} {h : Heap} {d r since b clk : Nat} {seen : List Nat} (hd : d < h.nx) (hwf : HWf h) (hc : Good P ng nt c2 e0 (h.put d (.look r b clk)) Q1)
    {m : Mp} {w : World} {a : Act} {K : Exit → Act → World → Prop} (hh : HRel m (h.put d (.iter r since (seen ++ [b]) (some b) clk)).get w) (hg : GlobOk ng m) (hr : ARel m e0.at a nt)
    (hK : ∀ ex e1 h1 m' w' a' x, Q1 ex e1 h1 → HWf h1 → d < h1.nx → HRel m' (h1.put d (.iter r since (seen ++ [b]) none clk)).get w' → Step m w m' w' → ARel m' e1.at a' nt → XRel m' ex x → K x a' w') : c2.wp P K a w := by
  rw [get_put] at hh
  have hb := hh.blk d
  simp only [if_pos] at hb
  cases hm : m d with
  | fresh => rw [hm] at hb; exact hb.elim
  | dead => rw [hm] at hb; exact hb.elim
  | sym k n => rw [hm] at hb; exact hb.elim
  | live l =>
  rw [hm] at hb
  obtain ⟨⟨hrw, hsh⟩, cbm, sa, p1, p2, p3, p4⟩ := hb
  have hs1 := setLoc_same hm false
  have hh1 : HRel (setLoc m d { l with rw := false }) (h.put d (.look r b clk)).get w := by
    rw [get_put]
    have := hh.setLoc (rw := false) (x := .look r b clk) hm (by simp [roB]) ⟨⟨rfl, hsh⟩, cbm, since, sa, p1, p2.same hs1, p4 b rfl⟩
    have e : (fun b' => if b' = d then some (Blk.look r b clk) else if b' = d then some (Blk.iter r since (seen ++ [b]) (some b) clk) else h.get b') = fun b' => if b' = d then some (Blk.look r b clk) else h.get b' := by
      funext b'
      by_cases e : b' = d
      · rw [if_pos e, if_pos e]
      · rw [if_neg e, if_neg e, if_neg e]
    rw [e] at this
    exact this
  have hg1 : GlobOk ng (setLoc m d { l with rw := false }) := fun g hgl => by
    rcases hg g hgl with ⟨lg, q1, q2, q3, q4⟩ | q1
    · have hne : g ≠ d := fun e => by subst e; rw [hm] at q1; cases q1; rw [hrw] at q4; cases q4
      exact .inl ⟨lg, by rw [setLoc_ne hne]; exact q1, q2, q3, q4⟩
    · have hne : g ≠ d := fun e => by subst e; rw [hm] at q1; cases q1
      exact .inr (by rw [setLoc_ne hne]; exact q1)
  refine wp_mono (hc (put_wf hwf hd) _ w a hh1 hg1 (hr.same hs1)) ?_
  rintro x a' w' ⟨ex, e1, h1, m', hq1, a1, q1, q2, q3, q4⟩
  have hm' : m' d = .live { l with rw := false } := q2.ext.ro setLoc_at rfl
  have hs2 : Alike m' (setLoc m' d l) := setLoc_same hm' l.rw
  have hd1 : d < h1.nx := by
    rcases Nat.lt_or_ge d h1.nx with h' | h'
    · exact h'
    · have := q1.blk d
      rw [a1 d h', hm'] at this
      exact this.elim
  have hkeep : w'.heap[l.cb]? = w.heap[l.cb]? := by
    refine q2.keep l.cb (hh.lt hm) ?_
    intro b' l' hb' hr' e
    by_cases e2 : b' = d
    · subst e2; rw [setLoc_at] at hb'; cases hb'; cases hr'
    · rw [setLoc_ne e2] at hb'
      exact e2 (hh.inj d b' l l' hm hb' e.symm (by simp [roB])).symm
  refine hK ex e1 h1 (setLoc m' d l) w' a' x hq1 a1 hd1 ?_ ?_ (q3.same hs2) (q4.same hs2)
  · rw [get_put]
    have := q1.setLoc (rw := l.rw) (x := .iter r since (seen ++ [b]) none clk) hm' (roB_obj (hm' ▸ q1.blk d) fun c el fr hc => by have := hkeep.symm.trans hc; rw [p1] at this; cases this) ⟨⟨hrw, hsh⟩, cbm, sa, hkeep.trans p1, ((p2.same hs1).mono q2.ext).same hs2, p3, fun b hb => by cases hb⟩
    exact this
  · refine ⟨fun b' => ?_, q2.size, q2.os, q2.out, fun cb hc hn => q2.keep cb hc fun b' l' hb' hr' => ?_, fun b' l' hb' hr' => ?_, fun b' l' hb' hr' => ?_⟩
    · by_cases e : b' = d
      · subst e; exact .inr (.inl (by rw [setLoc_at, hm]))
      · have := q2.ext b'
        rw [setLoc_ne e] at this ⊢
        exact this
    · by_cases e : b' = d
      · subst e; rw [setLoc_at] at hb'; cases hb'; cases hr'
      · rw [setLoc_ne e] at hb'; exact hn b' l' hb' hr'
    · by_cases e : b' = d
      · subst e; rw [setLoc_at] at hb'; cases hb'; exact .inr ⟨b', l, hm, hrw, rfl⟩
      · rw [setLoc_ne e] at hb'
        rcases q2.new b' l' hb' hr' with g1 | ⟨b0, l0, g1, g2, g3⟩
        · exact .inl g1
        · by_cases e0 : b0 = d
          · subst e0; rw [setLoc_at] at g1; cases g1; cases g2
          · rw [setLoc_ne e0] at g1; exact .inr ⟨b0, l0, g1, g2, g3⟩
    · by_cases e : b' = d
      · subst e; rw [setLoc_at] at hb'; cases hb'; rw [hrw] at hr'; cases hr'
      · rw [setLoc_ne e] at hb'
        have := q2.old b' l' hb' hr'
        rw [setLoc_ne e] at this
        exact this
/-- the iterator is done with. -/
theorem HRel.drop {m : Mp} {h : Heap} {w : World} {d r since last : Nat} {seen : List Nat} (hh : HRel m (h.put d (.iter r since seen none last)).get w) :
    ∃ m', HRel m' (h.put d .dead).get w ∧ Step m w m' w := by
  rw [get_put] at hh
  have hb := hh.blk d
  simp only [if_pos] at hb
  cases hm : m d with
  | fresh => rw [hm] at hb; exact hb.elim
  | dead => rw [hm] at hb; exact hb.elim
  | sym k n => rw [hm] at hb; exact hb.elim
  | live l =>
    rw [hm] at hb
    obtain ⟨k1, k2⟩ := hh.kill hm hb.1.1
    refine ⟨_, ?_, k2⟩
    rw [get_put]
    have e : (fun b' => if b' = d then some Blk.dead else if b' = d then some (Blk.iter r since seen none last) else h.get b') = fun b' => if b' = d then some .dead else h.get b' := by
      funext b'
      by_cases e : b' = d
      · rw [if_pos e, if_pos e]
      · rw [if_neg e, if_neg e, if_neg e]
    rw [e] at k1
    exact k1
theorem filter_le {p q : Nat → Bool} (hpq : ∀ y, q y = true → p y = true) : ∀ L : List Nat, (L.filter q).length ≤ (L.filter p).length := by
  intro L
  induction L with
  | nil => exact Nat.le_refl _
  | cons y l ih =>
    simp only [List.filter_cons]
    cases hq : q y with
    | true => rw [hpq y hq]; simpa using ih
    | false => cases hp : p y <;> simp <;> omega
theorem filter_lt {p q : Nat → Bool} (hpq : ∀ y, q y = true → p y = true) {x : Nat} (hp : p x = true) (hq : q x = false) : ∀ L : List Nat, x ∈ L → (L.filter q).length < (L.filter p).length := by
  intro L
  induction L with
  | nil => intro h; cases h
  | cons y l ih =>
    intro h
    simp only [List.filter_cons]
    rcases List.mem_cons.1 h with rfl | h
    · rw [hp, hq]
      have := filter_le hpq l
      simpa using Nat.lt_succ_of_le this
    · have := ih h
      cases hq : q y with
      | true => rw [hpq y hq]; simpa using this
      | false => cases hp : p y <;> simp <;> omega
/-- a loop over a map's entries, in any order. -/
theorem Good.mapLoop (hcok : codeOk ng nt (.loop c) = true) {it tup okT : Tmp} {c2 : Code} (hml : mapLoopOf c = some (it, tup, okT, c2)) {d r since last : Nat} (I : List Nat → Env → Heap → Prop)
    (hd : h.get d = some (.iter r since [] none last)) (hlast : since ≤ last) (h0 : I [] e (h.put d .dead))
    (hI : ∀ seen e h, I seen e h → e.at it = .pointer (some ⟨d, 0, none⟩) ∧ d < h.nx ∧ h.get d = some .dead ∧ ∃ es clk, h.get r = some (.map es clk) ∧ since ≤ clk ∧ ∀ x ∈ es, x.2.2 < since)
    (step : ∀ seen e h es clk x, I seen e h → h.get r = some (.map es clk) → x ∈ es → x.2.2 ∉ seen → Good P ng nt c2 ((e.put (some tup) (.tuple #[.bool true, x.1, x.2.1])).put (some okT) (.bool true)) (h.put d (.look r x.2.2 clk))
      fun ex e1 h1 => (ex = .normal ∧ I (seen ++ [x.2.2]) e1 (h1.put d .dead)) ∨ (ex ≠ .normal ∧ Q ex e1 (h1.put d .dead)))
    (fin : ∀ seen e h es clk, I seen e h → h.get r = some (.map es clk) → (∀ x ∈ es, x.2.2 ∈ seen) → Good P ng nt c2 ((e.put (some tup) (.tuple #[.bool false])).put (some okT) (.bool false)) h fun ex e1 h1 => ex ≠ .normal ∧ Q ex e1 h1) :
    Good P ng nt (.loop c) e h Q := by
  obtain ⟨id, nx, exo, hbody, hnx, hnd, hng, hex, hed, heg⟩ := mapLoopOf_ok hml
  subst hbody
  simp only [codeOk, Bool.and_eq_true, List.all_cons, List.all_nil, Bool.and_true] at hcok
  obtain ⟨⟨ok1, ok2⟩, ok3⟩ := hcok
  intro hwf m0 w0 a0 hh0 hg0 hr0
  let M : List Nat → Nat := fun seen => ((List.range since).filter fun b => !seen.contains b).length
  have key : ∀ N seen e h last m w a, M seen < N → I seen e h → since ≤ last → HWf h → Step m0 w0 m w → HRel m (h.put d (.iter r since seen none last)).get w → ARel m e.at a nt → Code.rounds P (.seq (.region id #[nx, exo] false) c2) (Land nt m0 w0 Q) N a w := by
    intro N
    induction N with
    | zero => intro seen e h last m w a hn; omega
    | succ N ih =>
      intro seen e h last m w a hn hIs hsl hwf hs hh hr
      obtain ⟨hit, hdn, hdd, es, clk, hmap, hclk, hold⟩ := hI seen e h hIs
      have hrd : r ≠ d := fun e => by rw [e, hdd] at hmap; cases hmap
      have hwfS : HWf (h.put d (.iter r since seen none last)) := put_wf hwf hdn
      have hgd : (h.put d (.iter r since seen none last)).get d = some (.iter r since seen none last) := Trie.get_set_same _ _ _
      have hgr : (h.put d (.iter r since seen none last)).get r = some (.map es clk) := by
        show (h.t.set d _).get r = _
        rw [Trie.get_set_ne _ _ hrd]; exact hmap
      rw [rounds_succ]
      refine mapStep_wp (N := h.nx) (F := fun _ => none) hnx hnd hng hex hed heg ok1 ok2 hwfS hit hsl hgd hgr hold (Nat.le_refl _) (by rw [mix_none hwfS (show (h.put d _).nx ≤ h.nx from Nat.le_refl _)]; exact hh) (hg0.mono hs.ext) hr ?_ ?_
      · intro x hx hns m' w' a' q1 q2 q3
        have q1 : HRel m' (mix ((h.put d (.iter r since seen none last)).put d (.iter r since (seen ++ [x.2.2]) (some x.2.2) clk)) h.nx fun _ => none) w' := q1
        rw [mix_none (put_wf hwfS hdn) (show ((h.put d _).put d _).nx ≤ h.nx from Nat.le_refl _)] at q1
        have q1 : HRel m' (h.put d (.iter r since (seen ++ [x.2.2]) (some x.2.2) clk)).get w' := by
          rw [get_put] at q1 ⊢
          have e : (fun b => if b = d then some (Blk.iter r since (seen ++ [x.2.2]) (some x.2.2) clk) else (h.put d (.iter r since seen none last)).get b) = fun b => if b = d then some (Blk.iter r since (seen ++ [x.2.2]) (some x.2.2) clk) else h.get b := by
            funext b
            by_cases e : b = d
            · rw [if_pos e, if_pos e]
            · rw [if_neg e, if_neg e, get_put]; simp only [if_neg e]
          rw [e] at q1
          exact q1
        refine look_wp hdn hwf (step seen e h es clk x hIs hmap hx hns) q1 (hg0.mono (hs.trans q2).ext) q3 ?_
        rintro ex e1 h1 m2 w2 a2 y hq hwf1 hd1 g1 g2 g3 g4
        rcases hq with ⟨rfl, hI1⟩ | ⟨hne, hQ⟩
        · have : y = .normal := g4
          subst this
          refine ih (seen ++ [x.2.2]) e1 (h1.put d .dead) clk m2 w2 a2 ?_ hI1 hclk (put_wf hwf1 hd1) ((hs.trans q2).trans g2) ?_ g3
          · have : M (seen ++ [x.2.2]) < M seen := by
              refine filter_lt (x := x.2.2) (fun y hy => ?_) ?_ ?_ _ (List.mem_range.2 (hold x hx))
              · simp only [Bool.not_eq_true', List.contains_eq_mem, List.mem_append, decide_eq_false_iff_not] at hy ⊢
                exact fun h => hy (.inl h)
              · simp [hns]
              · simp
            omega
          · rw [get_put] at g1 ⊢
            have e : (fun b => if b = d then some (Blk.iter r since (seen ++ [x.2.2]) none clk) else (h1.put d .dead).get b) = fun b => if b = d then some (Blk.iter r since (seen ++ [x.2.2]) none clk) else h1.get b := by
              funext b
              by_cases e : b = d
              · rw [if_pos e, if_pos e]
              · rw [if_neg e, if_neg e, get_put]; simp only [if_neg e]
            rw [e]
            exact g1
        · obtain ⟨m3, k1, k2⟩ := g1.drop
          exact then_of_not (g4.not_normal hne) ⟨ex, e1, h1.put d .dead, m3, hQ, put_wf hwf1 hd1, k1, ((hs.trans q2).trans g2).trans k2, g3.mono k2.ext, g4.mono k2.ext⟩
      · intro hend m' w' a' q1 q2 q3
        rw [mix_none hwfS (show (h.put d _).nx ≤ h.nx from Nat.le_refl _)] at q1
        obtain ⟨m3, k1, k2⟩ := q1.drop
        have hdead : (h.put d .dead).get = h.get := by
          rw [get_put]
          funext b
          by_cases e : b = d
          · rw [if_pos e, e, hdd]
          · rw [if_neg e]
        rw [hdead] at k1
        refine wp_mono (fin seen e h es clk hIs hmap hend hwf m3 w' a' k1 (hg0.mono ((hs.trans q2).trans k2).ext) (q3.mono k2.ext)) ?_
        rintro y a2 w2 ⟨ex, e1, h1, m4, ⟨hne, hQ⟩, hwf1, g1, g2, g3, g4⟩
        exact then_of_not (g4.not_normal hne) ⟨ex, e1, h1, m4, hQ, hwf1, g1, ((hs.trans q2).trans k2).trans g2, g3, g4⟩
  have hdn : d < h.nx := by
    rcases Nat.lt_or_ge d h.nx with h' | h'
    · exact h'
    · rw [hwf d h'] at hd; cases hd
  refine wp_loop_rounds (M [] + 1) (key _ [] e (h.put d .dead) last m0 w0 a0 (Nat.lt_succ_self _) h0 hlast (put_wf hwf hdn) (.refl _ _) ?_ hr0)
  have e : ((h.put d .dead).put d (.iter r since [] none last)).get = h.get := by
    rw [get_put]
    funext b
    by_cases e : b = d
    · rw [if_pos e, e, hd]
    · rw [if_neg e, get_put]; simp only [if_neg e]
  rw [e]
  exact hh0

end Go.AM
end
section
/- Maps with int keys, for rewriting; the entry that a loop is at. Conditions: as each rule says. -/
set_option linter.unusedSectionVars false
namespace Go.AM
variable {P : Program}
abbrev Ent := Int × Value × Nat
def entV (k : IntKind) (l : List Ent) : List (Value × Value × Nat) := l.map fun x => (.int k x.1, x.2.1, x.2.2)
def lookI : List Ent → Int → Option Value
  | [], _ => none
  | x :: r, n => if n = x.1 then some x.2.1 else lookI r n
theorem keyEq_int (k k' : IntKind) (a b : Int) : keyEq (.int k a) (.int k' b) = decide (a = b) := by
  show (a == b) = _
  rw [Bool.eq_iff_iff]; simp
theorem findE_ent (k : IntKind) (n : Int) : ∀ l : List Ent, findE (.int k n) (entV k l) = lookI l n
  | [] => rfl
  | x :: l => by
    have ih := findE_ent k n l
    show (if keyEq (.int k n) (.int k x.1) then some x.2.1 else findE (.int k n) (entV k l)) = if n = x.1 then some x.2.1 else lookI l n
    rw [keyEq_int, ih]
    by_cases h : n = x.1
    · rw [decide_eq_true h, if_pos h]; rfl
    · rw [decide_eq_false h, if_neg h]; rfl
theorem keysOk_ent (k : IntKind) (n : Int) (l : List Ent) : keysOk (.int k n) (entV k l) = true := by
  unfold keysOk entV
  rw [List.all_map, List.all_eq_true]
  intro x _
  show Nat.beq (kindN k) (kindN k) = true
  exact Nat.beq_refl _
theorem putE_ent (k : IntKind) (n : Int) (v : Value) (c : Nat) : ∀ l : List Ent, lookI l n = none → putE (.int k n) v c (entV k l) = entV k (l ++ [(n, v, c)])
  | [], _ => rfl
  | x :: l, h => by
    unfold lookI at h
    by_cases hn : n = x.1
    · rw [if_pos hn] at h; cases h
    · rw [if_neg hn] at h
      have ih := putE_ent k n v c l h
      show (if keyEq (.int k n) (.int k x.1) then _ else _) = _
      rw [keyEq_int, decide_eq_false hn]
      show (Value.int k x.1, x.2.1, x.2.2) :: putE (.int k n) v c (entV k l) = _
      rw [ih]; rfl
/-- a map with int keys. -/
abbrev mapB (k : IntKind) (l : List Ent) (c : Nat) : Blk := .map (entV k l) c
def lkX (k : IntKind) (n : Int) (z : Value) (x : Option Blk) : Option Eff := match x with
  | some (.map es _) => if keysOk (.int k n) es then (match findE (.int k n) es with | some v => ret v | none => ret z) else none
  | _ => none
theorem lkX_some (k : IntKind) (n : Int) (z : Value) (l : List Ent) (c : Nat) : lkX k n z (some (.map (entV k l) c)) = ret ((lookI l n).getD z) := by
  unfold lkX
  simp only [keysOk_ent, if_true, findE_ent]
  cases lookI l n <;> rfl
theorem u_lookup {t kt elem : TypeId} {k : IntKind} {z : Value} (hu : P.underlying t = some (.map kt elem)) (hk : P.underlying kt = some (.int k)) (hz : zeroV P elem = some z) (r : Nat) (n : Int) (g : Nat → Option Blk) : effLookup P t (.map (some r)) (.int k n) false g = lkX k n z (g r) := by
  unfold effLookup lkX
  rw [hu]
  simp only [simpleKey, Bool.not_true, Bool.false_eq_true, if_false, hk]
  cases g r with
  | none => rfl
  | some b =>
    cases b <;> try rfl
    rename_i es c
    simp only [effLookup.keyDesc, Bool.true_and]
    cases hko : keysOk (.int k n) es with
    | false => rfl
    | true =>
      simp only [Bool.not_true, Bool.false_eq_true, if_false, if_true]
      cases findE (.int k n) es with
      | none => simp only [hz]
      | some v => rfl
def upX (k : IntKind) (r : Nat) (n : Int) (v : Value) (x : Option Blk) : Option Eff := match x with
  | some (.map es c) => if keysOk (.int k n) es && storable v then some ⟨undef, [(r, .map (putE (.int k n) v c es) (tick (.int k n) es c))], []⟩ else none
  | _ => none
theorem upX_new (k : IntKind) (r : Nat) (n : Int) (v : Value) (l : List Ent) (c : Nat) (h1 : lookI l n = none) (h2 : storable v = true) : upX k r n v (some (.map (entV k l) c)) = some ⟨undef, [(r, .map (entV k (l ++ [(n, v, c)])) (c + 1))], []⟩ := by
  unfold upX tick
  simp only [keysOk_ent, h2, Bool.and_self, if_true, findE_ent, h1, putE_ent k n v c l h1]
theorem u_update {t kt elem : TypeId} {k : IntKind} (hu : P.underlying t = some (.map kt elem)) (hk : P.underlying kt = some (.int k)) (r : Nat) (n : Int) (v : Value) (g : Nat → Option Blk) : effUpdate P t (.map (some r)) (.int k n) v g = upX k r n v (g r) := by
  unfold effUpdate upX
  rw [hu]
  simp only [hk]
  cases g r with
  | none => rfl
  | some b => cases b <;> rfl
def rgX (r nx : Nat) (x : Option Blk) : Option Eff := match x with
  | some (.map _ c) => some ⟨ptr nx 0, [], [.iter r c [] none c]⟩
  | _ => none
theorem rgX_some (r nx : Nat) (es : List (Value × Value × Nat)) (c : Nat) : rgX r nx (some (.map es c)) = some ⟨.pointer (some ⟨nx, 0, none⟩), [], [.iter r c [] none c]⟩ := rfl
theorem u_range {t kt elem : TypeId} (hu : P.underlying t = some (.map kt elem)) (r nx : Nat) (g : Nat → Option Blk) : effRange P t (.map (some r)) g nx = rgX r nx (g r) := by
  unfold effRange rgX
  rw [hu]
  simp only
  cases g r with
  | none => rfl
  | some b => cases b <;> rfl
theorem u_makeMap (t : TypeId) (nx : Nat) : effMakeMap P t none nx = some ⟨.map (some nx), [], [.map (entV .i64 []) 0]⟩ := rfl

variable {ng nt : Nat} [Ds nt] {e : Env} {h : Heap} {Q : AExit → Env → Heap → Prop}
theorem guard_undef {all : List Oper} {e : Env} {o : Oper} {j : Nat} {want : Bool} (hg : o.guard = some (j, want)) (hv : gval all e j = undef) : guardOk all e o = true ∧ wantedA all e o = false := by
  unfold gval at hv
  unfold guardOk wantedA
  rw [hg]
  simp only
  split at hv
  · rename_i d hd
    rw [hd]
    simp only
    rw [hv]
    exact ⟨rfl, rfl⟩
  · cases hv
theorem runG_undef {sp : Special} {K : List Frm} {all r : List Oper} {d : Option Tmp} {op : Op} {t : TypeId} {p : String} {af : Array Edge} {j : Nat} {want : Bool} {e : Env} {h : Heap} :
    RunG P ng sp Q K all r ⟨d, op, t, p, af, some (j, want)⟩ j undef e h ↔ undef = gval all e j ∧ Run P ng sp Q K (.ops all r) (e.put d undef) h := by
  refine and_congr_right fun hv => ?_
  obtain ⟨h1, h2⟩ := @guard_undef all e ⟨d, op, t, p, af, some (j, want)⟩ j want rfl hv.symm
  constructor
  · intro hr
    cases hr with
    | oskip _ _ h3 => exact h3
    | oeff _ h3 _ _ _ => rw [h2] at h3; cases h3
    | ocall _ h3 _ _ _ _ _ => rw [h2] at h3; cases h3
    | ocallp _ h3 _ _ _ _ _ => rw [h2] at h3; cases h3
    | opanic _ h3 _ _ _ => rw [h2] at h3; cases h3
  · exact fun hr => .oskip h1 h2 hr
/-- a piece that is run as before; what comes behind it stays out of sight. -/
theorem Good.detq {sp : Special} {c : Code} (hm : P.follows .mixedOrders = true) (hsp : SpecOk P ng sp) (hok : codeOk ng nt c = true) (hr : ∀ Q1 : AExit → Env → Heap → Prop, (∀ ex e' h', Q ex e' h' → Q1 ex e' h') → Run P ng sp Q1 [] (.code c) e h) : Good P ng nt c e h Q :=
  Good.det hm hsp hok (hr Q fun _ _ _ q => q)
theorem GoodO.takeq {sp : Special} (n : Nat) {all l : List Oper} (hm : P.follows .mixedOrders = true) (hsp : SpecOk P ng sp)
    (hr : ∀ Q1 : AExit → Env → Heap → Prop, (∀ e' h', GoodO P ng nt all (l.drop n) e' h' Q → Q1 .normal e' h') → Run P ng sp Q1 [] (.ops all (l.take n)) e h) : GoodO P ng nt all l e h Q :=
  GoodO.take n hm hsp (hr _ fun _ _ g => ⟨fun _ => g, fun h => absurd rfl h⟩)
theorem Good.of_hwf {c : Code} (H : HWf h → Good P ng nt c e h Q) : Good P ng nt c e h Q := fun hwf => H hwf hwf
theorem GoodO.nil {all : List Oper} (hq : Q .normal e h) : GoodO P ng nt all [] e h Q := fun hwf _ _ _ m w _ hh _ hr => ⟨.normal, e, h, m, hq, hwf, hh, .refl m w, hr, rfl⟩
theorem HWf.new {h : Heap} (hw : HWf h) (x : Blk) : HWf (h.new x) := fun b hb => by
  rw [Heap.nx_new] at hb
  rw [Heap.get_new_ne _ _ (by omega)]; exact hw b (by omega)
theorem HWf.upd {h : Heap} (hw : HWf h) {d : Nat} (hd : d < h.nx) (x : Blk) : HWf (h.upd d x) := fun b hb => by
  rw [Heap.nx_upd] at hb
  rw [Heap.get_upd_ne _ _ (by omega)]; exact hw b hb
theorem HWf.lt {h : Heap} (hw : HWf h) {b : Nat} {x : Blk} (hb : h.get b = some x) : b < h.nx := by
  rcases Nat.lt_or_ge b h.nx with q | q
  · exact q
  · rw [hw b q] at hb; cases hb
theorem WFS.of_hwf {f : FuncId} {args : List Value} {R : Out → Heap → Prop} (H : HWf h → WFS P ng f args h R) : WFS P ng f args h R := fun hwf => H hwf hwf
theorem GoodO.entry {all r : List Oper} {o : Oper} {x : Operand} {v : Value} (hgd : o.guard = none) (hop : o.op = .entry x) (hv : effEntry (e.eval x) h.get = some v) (hk : GoodO P ng nt all r (e.put o.dst v) h Q) : GoodO P ng nt all (o :: r) e h Q := by
  intro hwf k hl hok m w a hh hg hr
  simp only [List.all_cons, Bool.and_eq_true] at hok
  have h0 : all.toArray[k]? = some o := by have := hl 0 (by simp); simpa using this.symm
  simp only [List.length_cons, List.range'_succ]
  refine wpOps_step h0 (by simp [Region.wanted, hgd]) ?_
  rw [Env.eval_eq] at hv
  refine entry_wp (N := h.nx) (F := fun _ => none) hop (by rw [mix_none hwf (Nat.le_refl _)]; exact hh) hwf (Nat.le_refl _) hr hg hok.1 hv ?_
  intro v' hv'
  exact hk hwf (k + 1) (fun j hj => by have := hl (j + 1) (by simpa using hj); simpa [Nat.add_assoc, Nat.add_comm 1 j] using this) hok.2 m w (a.put o.dst v') hh hg (by rw [Env.put_at]; exact hr.put hv' (dst_lt hok.1))
theorem effEntry_look {d r b last : Nat} {k : IntKind} {l : List Ent} {x : Ent} (h1 : h.get d = some (.look r b last)) (h2 : h.get r = some (.map (entV k l) last)) (hf : (entV k l).find? (fun x => Nat.beq x.2.2 b) = some (.int k x.1, x.2.1, x.2.2)) :
    effEntry (.pointer (some ⟨d, 0, none⟩)) h.get = some (.tuple #[.int k x.1, x.2.1]) := by
  unfold effEntry
  simp only [h1, h2, Nat.beq_refl, cond_true, hf]
theorem wfs_list {W : World} {ng : Nat} {f : FuncId} {args args' : List Value} {l : List Blk} {st : List AM.Stat} (hlen : st.length = l.length) (hb : ∀ (i : Nat) (s : AM.Stat) (b : Blk), st[i]? = some s → l[i]? = some b → BRel (statMp st) W s (some b))
    (hro : ∀ (i : Nat) (l1 : Loc) (b : Blk), st[i]? = some (.live l1) → l[i]? = some b → roB (some b) = true ∧ l1.rw = false) (hg : GlobOk ng (statMp st))
    (hw : WFS P ng f args (listHeap l) fun o _ => o = .ret (.bool true)) (ha : VRels (statMp st) args args') : Calls P f args'.toArray W fun e W' => e = .returned (.bool true) ∧ Still W W' := by
  obtain ⟨_, hc⟩ := hw (listHeap_wf l)
  have hrel := list_rel2 hlen hb (fun i l1 b h1 h2 => (hro i l1 b h1 h2).1) (listHeap l).nx (Nat.le_refl _)
  rw [mix_none (listHeap_wf l) (Nat.le_refl _)] at hrel
  refine (hc _ W args' hrel hg ha).mono ?_
  rintro e W' ⟨o, h', m', rfl, _, ho, _, hst⟩
  obtain ⟨v', rfl, hv⟩ := ho
  cases hv
  refine ⟨rfl, hst.os, hst.out, fun cb hcb => hst.keep cb hcb ?_⟩
  intro b l1 h1 hrw
  have h1' := statMp_get h1 (by simp)
  have hb' : b < st.length := (List.getElem?_eq_some_iff.1 h1').1
  rw [hlen] at hb'
  rw [(hro b l1 _ h1' (List.getElem?_eq_getElem hb')).2] at hrw
  cases hrw
end Go.AM
end
section
/- Regions whose order is open, by an invariant on what was done: also where a call may come to many things. Conditions: as each rule says. -/
set_option linter.unusedSectionVars false
namespace Go.AM
variable {P : Program} {ng nt : Nat} [Ds nt] {c : Code} {e : Env} {h : Heap} {Q Q1 : AExit → Env → Heap → Prop}
theorem wpOp_of_ops {ops : Array Oper} {K : Act → World → Prop} {Q : Exit → Act → World → Prop} {i : Nat} {a : Act} {w : World} (h : wpOps P ops (Exit.then K Q) [i] a w) : wpOp P ops Q i K a w := by
  rw [wpOps_cons] at h
  unfold wpOp at h ⊢
  cases ho : ops[i]? with
  | none => rw [ho] at h; exact h
  | some o =>
    rw [ho] at h
    simp only at h ⊢
    split
    · rename_i hw
      rw [if_pos hw] at h
      refine h.imp (fun h => ?_) (fun h => h)
      unfold Oper.wp at h ⊢
      rw [upon_then] at h
      exact upon_mono (fun _ _ h => h) (fun _ _ _ h => h) _ h
    · rename_i hw
      rw [if_neg hw] at h
      exact h
/-- the edges of a region lead back. -/
def backOk (ops : Array Oper) : Bool := (List.range ops.size).all fun j => match ops.toList[j]? with
  | some o => o.after.toList.all fun e => !Region.binds .any e || Nat.blt e.on j
  | none => true
theorem Good.draw {id : Nat} {ops : Array Oper} (hm : P.follows .mixedOrders = true) (hok : codeOk ng nt (.region id ops true) = true) (hb : backOk ops = true) (I : (Nat → Bool) → Env → Heap → Prop) (h0 : I (fun _ => false) e h)
    (step : ∀ D e h i o, ops[i]? = some o → D i = false → (∀ ed ∈ o.after.toList, Region.binds .any ed = true → D ed.on = true) → I D e h → GoodO P ng nt ops.toList [o] e h fun ex e' h' => (ex = .normal ∧ ∀ D', (∀ k, D' k = true ↔ k = i ∨ D k = true) → I D' e' h') ∨ (ex ≠ .normal ∧ Q ex e' h'))
    (fin : ∀ D e h, (∀ j, j < ops.size → D j = true) → I D e h → Q .normal e h) : Good P ng nt (.region id ops true) e h Q := by
  intro hwf m0 w0 a0 hh0 hg0 hr0
  have hback : ∀ (j : Nat) (o : Oper), ops[j]? = some o → ∀ e ∈ o.after, Region.binds .any e = true → e.on < j := fun j o ho ed he hbd => by
    unfold backOk at hb
    rw [List.all_eq_true] at hb
    have := hb j (List.mem_range.2 (DrawCtx.lt_of_get ho))
    rw [Array.getElem?_toList, ho] at this
    simp only [List.all_eq_true] at this
    have := this ed (Array.mem_toList_iff.2 he)
    rw [hbd] at this
    simpa [Nat.blt_eq] using this
  have hok' : ∀ (k : Nat) (o : Oper), ops[k]? = some o → opersOk ng nt o = true := fun k o ho => List.all_eq_true.1 hok o (Array.mem_toList_iff.2 (Array.mem_of_getElem? ho))
  refine wp_region_any hm ?_
  have key : ∀ (fuel : Nat) (listed : Array Bool) (e : Env) (h : Heap) (m : Mp) (w : World) (a : Act), listed.size = ops.size → Down ops (DrawCtx.done listed) → listed.toList.count false ≤ fuel → I (DrawCtx.done listed) e h → HWf h → HRel m h.get w → Step m0 w0 m w → ARel m e.at a nt →
      wpAny P .any ops (Land nt m0 w0 Q) fuel listed a w := by
    intro fuel
    induction fuel with
    | zero =>
      intro listed e h m w a hsz hd hc hI hwf hh hst hr
      have hall : ∀ k, k < ops.size → DrawCtx.done listed k = true := by
        intro k hk
        cases e : DrawCtx.done listed k with
        | true => rfl
        | false =>
          exfalso
          have h0 : false ∉ listed.toList := List.count_eq_zero.1 (Nat.le_zero.1 hc)
          unfold DrawCtx.done at e
          rw [Array.getD_eq_getD_getElem?, Array.getElem?_eq_getElem (by omega)] at e
          refine h0 ?_
          rw [Array.mem_toList_iff, ← show listed[k]'(by omega) = false from e]
          exact Array.getElem_mem _
      refine ⟨?_, .normal, e, h, m, fin _ _ _ hall hI, hwf, hh, hst, hr, rfl⟩
      refine List.eq_nil_iff_forall_not_mem.2 fun i hi => ?_
      have h1 := DrawCtx.now_of_ready hsz hd hi
      have := h1.not
      rw [hall i (DrawCtx.lt_of_get h1.at_)] at this
      cases this
    | succ fuel ih =>
      intro listed e h m w a hsz hd hc hI hwf hh hst hr
      refine ⟨fun hn => ⟨.normal, e, h, m, fin _ _ _ (DrawCtx.ready_nil hsz hback hn) hI, hwf, hh, hst, hr, rfl⟩, fun i hi => ?_⟩
      have h1 := DrawCtx.now_of_ready hsz hd hi
      obtain ⟨h2, h3⟩ := DrawCtx.down_set hsz h1
      obtain ⟨o, ho⟩ : ∃ o, o = (ops[i]?.getD ⟨none, .move (.tmp 0), 0, default, #[], none⟩) := ⟨_, rfl⟩
      rw [← ho] at h1
      have hg := step (DrawCtx.done listed) e h i o h1.at_ h1.not (fun ed he hbd => h1.all ed (Array.mem_toList_iff.1 he) hbd) hI
      have := hg hwf i (fun j hj => by
        have hj : j < 1 := hj
        obtain rfl : j = 0 := by omega
        have := h1.at_
        rw [← Array.getElem?_toList] at this
        rw [Nat.add_zero, this]; rfl) (by simp only [List.all_cons, List.all_nil, Bool.and_true]; exact hok' i o h1.at_) m w a hh (hg0.mono hst.ext) hr
      rw [Array.toArray_toList] at this
      refine wpOp_of_ops (wpOps_mono ?_ _ _ _ this)
      rintro x a' w' ⟨ex, e', h', m', q, hwf', hh', hs, hr', hx⟩
      rcases q with ⟨rfl, hI'⟩ | ⟨hne, hq⟩
      · have : x = .normal := hx
        subst this
        refine ih _ e' h' m' w' a' (by simpa using hsz) h3 ?_ (hI' _ h2) hwf' hh' (hst.trans hs) hr'
        have hi' := DrawCtx.lt_of_get h1.at_
        have hget : listed.toList[i]'(by simpa using (by omega : i < listed.size)) = false := by
          have := h1.not
          unfold DrawCtx.done at this
          rw [Array.getD_eq_getD_getElem?, Array.getElem?_eq_getElem (by omega)] at this
          simpa using this
        rw [Array.toList_setIfInBounds, List.count_set (by simpa using (by omega : i < listed.size))]
        rw [hget]
        simp
        have := hc
        rw [← Array.count_toList]
        omega
      · exact then_of_not (hx.not_normal hne) ⟨ex, e', h', m', hq, hwf', hh', hst.trans hs, hr', hx⟩
  have hdone : ∀ k, DrawCtx.done (Array.replicate ops.size false) k = false := by
    intro k
    unfold DrawCtx.done
    rw [Array.getD_eq_getD_getElem?, Array.getElem?_replicate]
    split <;> rfl
  refine key ops.size _ e h m0 _ a0 (by simp) (fun j o _ hd => by rw [hdone] at hd; cases hd) ?_ ?_ hwf (hh0.drew _) .drew hr0
  · rw [Array.toList_replicate]
    exact Nat.le_trans List.count_le_length (by simp)
  · rw [show DrawCtx.done (Array.replicate ops.size false) = fun _ => false from funext hdone]; exact h0
end Go.AM
end
section
/- Maps with int keys: what is taken out; entries that are apart. Conditions: as each rule says. -/
set_option linter.unusedSectionVars false
namespace Go.AM
variable {P : Program}
/-- no two entries have a key, a value or a birth in common. -/
abbrev Apart (l : List Ent) : Prop := l.Pairwise fun x y => x.1 ≠ y.1 ∧ x.2.1 ≠ y.2.1 ∧ x.2.2 ≠ y.2.2
theorem Apart.filter {l : List Ent} (h : Apart l) (p : Ent → Bool) : Apart (l.filter p) := List.Pairwise.filter p h
theorem Apart.two {l : List Ent} (h : Apart l) {x y : Ent} (hx : x ∈ l) (hy : y ∈ l) : x = y ∨ (x.1 ≠ y.1 ∧ x.2.1 ≠ y.2.1 ∧ x.2.2 ≠ y.2.2) := by
  induction l with
  | nil => cases hx
  | cons z l ih =>
    have h' := List.pairwise_cons.1 h
    rcases List.mem_cons.1 hx with ex | hx1
    · rcases List.mem_cons.1 hy with ey | hy1
      · exact .inl (ex.trans ey.symm)
      · rw [ex]; exact .inr (h'.1 y hy1)
    · rcases List.mem_cons.1 hy with ey | hy1
      · have := h'.1 x hx1
        rw [ey]
        exact .inr ⟨Ne.symm this.1, Ne.symm this.2.1, Ne.symm this.2.2⟩
      · exact ih h'.2 hx1 hy1
theorem Apart.key {l : List Ent} (h : Apart l) {x y : Ent} (hx : x ∈ l) (hy : y ∈ l) (he : x.1 = y.1) : x = y := (h.two hx hy).resolve_right fun q => q.1 he
theorem Apart.val {l : List Ent} (h : Apart l) {x y : Ent} (hx : x ∈ l) (hy : y ∈ l) (he : x.2.1 = y.2.1) : x = y := (h.two hx hy).resolve_right fun q => q.2.1 he
theorem Apart.born {l : List Ent} (h : Apart l) {x y : Ent} (hx : x ∈ l) (hy : y ∈ l) (he : x.2.2 = y.2.2) : x = y := (h.two hx hy).resolve_right fun q => q.2.2 he
theorem lookI_none {n : Int} : ∀ {l : List Ent}, lookI l n = none ↔ ∀ x ∈ l, x.1 ≠ n
  | [] => ⟨fun _ x hx => (by cases hx), fun _ => rfl⟩
  | y :: l => by
    have ih := lookI_none (n := n) (l := l)
    show (if n = y.1 then some y.2.1 else lookI l n) = none ↔ _
    by_cases e : n = y.1
    · rw [if_pos e]
      exact ⟨fun q => (by cases q), fun q => absurd e.symm (q y (by simp))⟩
    · rw [if_neg e, ih]
      refine ⟨fun q x hx => ?_, fun q x hx => q x (by simp [hx])⟩
      rcases List.mem_cons.1 hx with rfl | hx
      · exact Ne.symm e
      · exact q x hx
theorem lookI_some {n : Int} {v : Value} : ∀ {l : List Ent}, lookI l n = some v → ∃ x ∈ l, x.1 = n ∧ x.2.1 = v
  | [], h => by cases h
  | x :: l, h => by
    have h : (if n = x.1 then some x.2.1 else lookI l n) = some v := h
    by_cases e : n = x.1
    · rw [if_pos e] at h
      cases h
      exact ⟨x, by simp, e.symm, rfl⟩
    · rw [if_neg e] at h
      obtain ⟨y, h1, h2⟩ := lookI_some h
      exact ⟨y, by simp [h1], h2⟩
theorem Apart.look {l : List Ent} (h : Apart l) {x : Ent} (hx : x ∈ l) : lookI l x.1 = some x.2.1 := by
  cases hl : lookI l x.1 with
  | none => exact absurd rfl (lookI_none.1 hl x hx)
  | some v =>
    obtain ⟨y, hy, e1, e2⟩ := lookI_some hl
    rw [← h.key hy hx e1, e2]
theorem delE_ent (k : IntKind) (n : Int) : ∀ {l : List Ent}, Apart l → delE (.int k n) (entV k l) = entV k (l.filter fun x => decide (x.1 ≠ n))
  | [], _ => rfl
  | x :: l, h => by
    have h' := List.pairwise_cons.1 h
    have ih := delE_ent k n h'.2
    show (if keyEq (.int k n) (.int k x.1) then entV k l else (Value.int k x.1, x.2.1, x.2.2) :: delE (.int k n) (entV k l)) = _
    rw [keyEq_int, List.filter_cons]
    by_cases e : n = x.1
    · rw [if_pos (decide_eq_true e), if_neg (by simp [e]), List.filter_eq_self.2 (fun y hy => by
        have := (h'.1 y hy).1
        rw [decide_eq_true_eq, e]; exact Ne.symm this)]
    · rw [if_neg (by simp [e]), ih, if_pos (by simpa using Ne.symm e)]; rfl
theorem find_ent (k : IntKind) {x : Ent} : ∀ {l : List Ent}, Apart l → x ∈ l → (entV k l).find? (fun y => Nat.beq y.2.2 x.2.2) = some (.int k x.1, x.2.1, x.2.2)
  | [], _, h => by cases h
  | y :: l, ha, h => by
    have h' := List.pairwise_cons.1 ha
    show List.find? _ ((Value.int k y.1, y.2.1, y.2.2) :: entV k l) = _
    rw [List.find?_cons]
    rcases List.mem_cons.1 h with rfl | h
    · simp only [Nat.beq_refl]
    · have ih := find_ent k h'.2 h
      have hb : Nat.beq y.2.2 x.2.2 = false := by
        cases q : Nat.beq y.2.2 x.2.2 with
        | false => rfl
        | true => exact absurd (Nat.eq_of_beq_eq_true q) (h'.1 x h).2.2
      simp only [hb]
      exact ih
def dlX (k : IntKind) (r : Nat) (n : Int) (x : Option Blk) : Option Eff := match x with
  | some (.map es c) => if keysOk (.int k n) es then some ⟨undef, [(r, .map (delE (.int k n) es) c)], []⟩ else none
  | _ => none
theorem dlX_some (k : IntKind) (r : Nat) (n : Int) (l : List Ent) (c : Nat) (h : Apart l) : dlX k r n (some (.map (entV k l) c)) = some ⟨undef, [(r, .map (entV k (l.filter fun x => decide (x.1 ≠ n))) c)], []⟩ := by
  unfold dlX
  simp only [keysOk_ent, if_true, delE_ent k n h]
theorem a_delete {t t2 kt elem : TypeId} {k : IntKind} (hu : P.underlying t = some (.map kt elem)) (hk : P.underlying kt = some (.int k)) (r : Nat) (n : Int) (g : Nat → Option Blk) : aDelete P #[t, t2] (.map (some r)) (.int k n) g = dlX k r n (g r) := by
  unfold aDelete dlX
  simp only [hu, hk]
  cases g r with
  | none => rfl
  | some b => cases b <;> rfl
theorem slS_mid_loose {b off n c l hi : Nat} {k k' : IntKind} {g : Nat → Option Blk} {X : List Value} (hb : g b = some (cellsB X (.loose 1))) (hx : off + c = X.length) (h1 : l ≤ hi) (h2 : hi ≤ c) :
    slS (some 1) (some ⟨b, off, none⟩) n c (some (.int k (l : Nat))) (some (.int k' (hi : Nat))) none g = ret (.slice (some ⟨b, off + l, none⟩) (hi - l) (c - l)) := by
  unfold slS
  rw [u_bounds, bnd_int, if_pos ⟨by omega, by omega⟩]
  simp only [Int.toNat_natCast]
  rw [bnd_int, if_pos ⟨by omega, by omega⟩]
  simp only [Int.toNat_natCast]
  rw [if_pos h2]
  simp only [u_sliceAddr, hb, sadX_loose]
  simp [hx]
end Go.AM
end
section
/- Loops by goto; texts as rows of bytes. Conditions: as each rule says. -/
namespace Go.AM
variable {P : Program} {ng : Nat} {sp : Special} {Q : AExit → Env → Heap → Prop}
/-- a label that is come back to: its invariant, and what is left behind. -/
theorem run_scope2 {K : List Frm} {body rest : Code} {l : Nat} (hl : findLabel body l = some rest) (I : Nat → Env → Heap → Prop) (J : AExit → Env → Heap → Prop)
    (step : ∀ n e h, I n e h → ∀ Q' : AExit → Env → Heap → Prop, (∀ n' e' h', n' < n → I n' e' h' → Q' (.goto l) e' h') → (∀ ex e' h', (∀ l, ex ≠ .goto l) → J ex e' h' → Q' ex e' h') → Run P ng sp Q' [] (.code rest) e h)
    (n : Nat) (e : Env) (h : Heap) (hi : I n e h) (after : ∀ ex e' h', (∀ l, ex ≠ .goto l) → J ex e' h' → Run P ng sp Q K (.exit ex) e' h') : Run P ng sp Q (.scope body :: K) (.code rest) e h := by
  have key : ∀ N n, n < N → ∀ e h, I n e h → Run P ng sp Q (.scope body :: K) (.code rest) e h := by
    intro N
    induction N with
    | zero => intro n hn; omega
    | succ N ih =>
      intro n hn e h hi
      refine (step n e h hi (fun ex e' h' => (ex = .goto l ∧ ∃ n', n' < n ∧ I n' e' h') ∨ ((∀ l, ex ≠ .goto l) ∧ J ex e' h')) (fun n' e' h' h1 h2 => .inl ⟨rfl, n', h1, h2⟩) (fun ex e' h' h1 h2 => .inr ⟨h1, h2⟩)).over ?_
      rintro ex e' h' (⟨rfl, n', h1, h2⟩ | ⟨h1, h2⟩)
      · exact .xscope hl (ih n' (by omega) e' h' h2)
      · exact .xscope' h1 (after _ _ _ h1 h2)
  exact key (n + 1) n (Nat.lt_succ_self n) e h hi
/-- a text of bytes. -/
abbrev mkS (l : List UInt8) : ByteArray := ⟨l.toArray⟩
theorem mkS_data (s : ByteArray) : mkS s.data.toList = s := by cases s; rfl
theorem mkS_size (l : List UInt8) : (mkS l).size = l.length := rfl
theorem mkS_drop (l : List UInt8) (k : Nat) : (mkS l).extract k (mkS l).size = mkS (l.drop k) := by
  have : ((mkS l).extract k (mkS l).size).data = (mkS (l.drop k)).data := by
    rw [ByteArray.data_extract]
    show (l.toArray).extract k l.length = (l.drop k).toArray
    rw [List.extract_toArray]
    congr 1
    show (l.drop k).take (l.length - k) = l.drop k
    exact List.take_of_length_le (by rw [List.length_drop]; omega)
  cases h1 : (mkS l).extract k (mkS l).size with
  | mk d => rw [h1] at this; exact congrArg ByteArray.mk this
theorem str_index {t : TypeId} (ht : tyTag P t = 3) {l : List UInt8} {i : Nat} {b : UInt8} (hb : l[i]? = some b) : effIndex P t (.string (mkS l)) (.int .i64 (i : Int)) = ret (.int .u8 b.toNat) := by
  have hi := (List.getElem?_eq_some_iff.1 hb).1
  rw [effIndex_str t _ _ ht]
  have : idx (.int .i64 (i : Int)) (mkS l).size = some i := by
    unfold idx
    have : Nat.blt i l.length = true := by unfold Nat.blt; exact Nat.ble_eq_true_of_le hi
    simp only [mkS_size, this, cond_true]
  rw [this]
  show opR ((l[i]?).map _) = _
  rw [hb]; rfl
theorem str_tail {t : TypeId} (ht : tyTag P t = 3) {l : List UInt8} (hl : 1 ≤ l.length) (g : Nat → Option Blk) : effSlice P t (.string (mkS l)) (some (.int .i64 1)) none none g = ret (.string (mkS (l.drop 1))) := by
  rw [effSlice_str t _ _ _ g ht]
  have : bounds (mkS l).size (mkS l).size (some (.int .i64 1)) none none = some (1, (mkS l).size, (mkS l).size) := by
    rw [u_bounds, bnd_none]
    simp only
    rw [show (some (Value.int IntKind.i64 1)) = some (Value.int IntKind.i64 ((1 : Nat) : Int)) from rfl, bnd_int, if_pos ⟨by omega, by rw [mkS_size]; omega⟩]
    simp [mkS_size]
  rw [this]
  simp only
  rw [mkS_drop]
/-- bytes as cells. -/
def u8s (l : List UInt8) : List Value := l.map fun b => .int .u8 b.toNat
theorem u8s_len (l : List UInt8) : (u8s l).length = l.length := List.length_map ..
theorem bytes_go : ∀ (l acc : List UInt8), bytesAt.go (u8s l) acc = some ⟨(acc.reverse ++ l).toArray⟩
  | [], acc => by rw [List.append_nil]; rfl
  | b :: l, acc => by
    show bytesAt.go (u8s l) (UInt8.ofNat ((b.toNat : Int)).toNat :: acc) = _
    rw [bytes_go l, Int.toNat_natCast, UInt8.ofNat_toNat, List.reverse_cons, List.append_assoc]; rfl
theorem bytes_at {g : Option Blk} {l : List UInt8} {k : Kind} (hg : g = some (cellsB (u8s l) k)) : bytesAt g 0 l.length = some (mkS l) := by
  subst hg
  unfold bytesAt cellsB
  simp only
  rw [if_pos (by rw [u8s_len]; omega), loadL_ofList _ _ _ (by rw [u8s_len]; omega), List.drop_zero, List.take_of_length_le (by rw [u8s_len]; omega), bytes_go]
  simp
end Go.AM
end
section
/- Rows of structs of four numbers and a text as arguments. Conditions: as the rule says. -/
namespace Go.AM
open Go.ChangeShapes Go.WideShapes
variable {P : Program} {W : World}
/-- what the i-th cell of such a row is. -/
def cell5 (i : Nat) (v : Value) : Prop := if i % 5 = 4 then ∃ s : ByteArray, v = .string s ∧ s.size ≤ maxLen else ∃ n : Int, v = .int .i64 n ∧ (Lit.int .i64 n).wf = true
theorem cell5_one {i : Nat} {v : Value} (h : cell5 i v) : v.oneCell' = true ∧ ∀ m, VRel m v v := by
  unfold cell5 at h
  split at h
  · obtain ⟨s, rfl, _⟩ := h
    exact ⟨rfl, fun m => .string s⟩
  · obtain ⟨n, rfl, _⟩ := h
    exact ⟨rfl, fun m => .int .i64 n⟩
theorem rows5_read {H : Type} {enc : TypeId × Value → H} {base fuel : Nat} {spare : Nat → Bool} {held : Bool} {t e : TypeId} {fs : Array Field} {cs : List Value} {d : DataW H × List MemPlace} (ht : P.underlying t = some (.slice e)) (he : P.underlying e = some (.struct fs)) (hc : P.cellsOf e = 5)
    (hf : ∀ i, i < 5 → ∃ f, fs[i]? = some f ∧ f.offset = i ∧ P.cellsOf f.type = 1 ∧ (if i = 4 then P.underlying f.type = some .string else P.underlying f.type = some (.int .i64)))
    (hd : DataW.trod enc P W base spare held fuel t cs = some d) :
    cs = [.slice none 0 0] ∨ ∃ a len cap, cs = [.slice (some a) len cap] ∧ (len ≤ maxLen ∧ len ≤ cap) ∧ ∃ f : Nat → Value, (∀ i, i < 5 * len → cell5 i (f i)) ∧ (0 < len → ∃ b off cs el fr, a = ⟨b, off, none⟩ ∧ W.heap[b]? = some (.cells cs el fr) ∧ off + 5 * len ≤ cs.size ∧ ∀ i, i < 5 * len → cs[off + i]? = some (f i)) := by
  rcases DataW.trod_slice ht hd with ⟨h, _⟩ | ⟨a, len0, cap0, elems, rest, n, _, h, _, _, hlc, hcm, hlen, hel, _⟩
  · exact .inl h
  · right
    have key : ∀ i, i < 5 * len0 → ∃ v, W.cell? (a.add i) = some v ∧ cell5 i v := by
      intro i hi
      have h1 := hel (i / 5) (by omega)
      rw [hc] at h1
      obtain ⟨x, hx⟩ : ∃ x, elems[i / 5]? = some x := ⟨elems[i / 5]'(by omega), List.getElem?_eq_getElem _⟩
      rw [hx] at h1
      obtain ⟨cs, g1, g2⟩ := Option.bind_eq_some_iff.1 h1
      obtain ⟨xs, n', _, _, g3, g4, g5⟩ := DataW.trod_struct he g2
      rw [hc] at g3
      obtain ⟨_, _, g7⟩ := World.cells?_some g1
      obtain ⟨f, f1, f2, f3, f4⟩ := hf (i % 5) (by omega)
      have g6 := g5 (i % 5) f f1
      rw [f2, f3] at g6
      have hfs : i % 5 < xs.length := by
        rw [g4]
        have := (Array.getElem?_eq_some_iff.1 f1).1
        exact this
      rw [List.getElem?_eq_getElem hfs] at g6
      have hget : ∀ v, (cs.drop (i % 5)).take 1 = [v] → cs[i % 5]? = some v := fun v hv => by
        have := congrArg (fun l => l[0]?) hv
        simpa using this
      have hadd : (a.add (i / 5 * 5)).add (i % 5) = a.add i := by
        rw [Go.Deep.add_add]
        congr 1; omega
      have h7 := g7 (i % 5) (by omega)
      rw [hadd] at h7
      unfold cell5
      by_cases c : i % 5 = 4
      · rw [if_pos c] at f4
        obtain ⟨s, e1, _, e3⟩ := DataW.trod_string f4 g6
        rw [hget _ e1] at h7
        exact ⟨_, h7, by rw [if_pos c]; exact ⟨s, rfl, e3⟩⟩
      · rw [if_neg c] at f4
        obtain ⟨m, e1, _, e3⟩ := DataW.trod_int f4 g6
        rw [hget _ e1] at h7
        exact ⟨_, h7, by rw [if_neg c]; exact ⟨m, rfl, e3⟩⟩
    obtain ⟨f, hfn⟩ : ∃ f : Nat → Value, ∀ i, i < 5 * len0 → W.cell? (a.add i) = some (f i) ∧ cell5 i (f i) := by
      refine ⟨fun i => if h : i < 5 * len0 then (key i h).choose else .nilFunc, fun i hi => ?_⟩
      simp only [hi, dif_pos]
      exact (key i hi).choose_spec
    refine ⟨a, len0, cap0, h, ⟨Nat.le_trans hlc hcm, hlc⟩, f, fun i hi => (hfn i hi).2, fun hpos => ?_⟩
    obtain ⟨b, off, spot⟩ := a
    have hspot : spot = none := by simpa [Addr.add] using World.cell?_spot (hfn 0 (by omega)).1
    subst hspot
    have key2 : ∀ i, i < 5 * len0 → W.cell? ⟨b, off + i, none⟩ = some (f i) := by
      intro i h
      have := (hfn i h).1
      rwa [add_plain] at this
    have hcell : ∃ cs el fr, W.heap[b]? = some (.cells cs el fr) := by
      have := key2 0 (by omega)
      unfold World.cell? at this
      split at this <;> try (simp at this; done)
      · rename_i cs el fr hh
        exact ⟨cs, el, fr, hh⟩
    obtain ⟨cs, el, fr, hcs⟩ := hcell
    have key3 : ∀ i, i < 5 * len0 → cs[off + i]? = some (f i) := by
      intro i h
      have := key2 i h
      simpa [World.cell?, hcs] using this
    refine ⟨b, off, cs, el, fr, rfl, hcs, ?_, key3⟩
    have := key3 (5 * len0 - 1) (by omega)
    have := (Array.getElem?_eq_some_iff.1 this).1
    omega
/-- .. as a block of its own, the i-th one. -/
theorem rows5_block {H : Type} {enc : TypeId × Value → H} {base fuel : Nat} {spare : Nat → Bool} {held : Bool} {t e : TypeId} {fs : Array Field} {cs : List Value} {d : DataW H × List MemPlace} (i : Nat) (ht : P.underlying t = some (.slice e)) (he : P.underlying e = some (.struct fs)) (hc : P.cellsOf e = 5)
    (hf : ∀ i, i < 5 → ∃ f, fs[i]? = some f ∧ f.offset = i ∧ P.cellsOf f.type = 1 ∧ (if i = 4 then P.underlying f.type = some .string else P.underlying f.type = some (.int .i64)))
    (hd : DataW.trod enc P W base spare held fuel t cs = some d) :
    ∃ (v : Value) (a : Option Addr) (n : Nat) (l : List Value) (cp : Nat) (s : AM.Stat) (x : Blk), cs = [v] ∧ l.length = 5 * n ∧ (n ≤ maxLen ∧ n ≤ cp) ∧ (∀ i y, l[i]? = some y → cell5 i y) ∧ (n = 0 ∨ (a = some ⟨i, 0, none⟩ ∧ x = cellsB l .ro)) ∧ (∀ m : Mp, m i = s → VRel m (.slice a n cp) v) ∧ (∀ m, BRel m W s (some x)) ∧ (∀ l1, s = .live l1 → roB (some x) = true ∧ l1.rw = false) := by
  rcases rows5_read ht he hc hf hd with rfl | ⟨a, len, cap, rfl, hm, f, hw, hf⟩
  · exact ⟨_, none, 0, [], 0, .dead, .dead, rfl, rfl, ⟨Nat.zero_le _, Nat.zero_le _⟩, fun _ _ h => by simp at h, .inl rfl, fun m _ => .sliceNil 0 0, fun _ => trivial, fun _ h => by cases h⟩
  · by_cases hl : 0 < len
    · obtain ⟨b, off, cs, el, fr, rfl, h1, h2, h3⟩ := hf hl
      have hlen : ((List.range (5 * len)).map f).length = 5 * len := by simp
      have hget : ∀ j, j < 5 * len → ((List.range (5 * len)).map f)[j]? = some (f j) := fun j hj => by rw [List.getElem?_map, List.getElem?_range hj]; rfl
      refine ⟨_, some ⟨i, 0, none⟩, len, (List.range (5 * len)).map f, cap, .live ⟨b, off, 0, 5 * len, cs.size, false⟩, _, rfl, hlen, hm, fun j y hy => ?_, .inr ⟨rfl, rfl⟩, fun m hm => ?_, fun m => ?_, fun l1 hl1 => ⟨rfl, by cases hl1; rfl⟩⟩
      · have hj : j < 5 * len := by have := (List.getElem?_eq_some_iff.1 hy).1; rw [hlen] at this; exact this
        rw [hget j hj] at hy
        cases hy
        exact hw j hj
      · exact .slice i 0 len cap cap _ hm (.inl rfl)
      · refine ⟨by simp, cs, el, fr, h1, rfl, by simpa using h2, ⟨rfl, rfl⟩, fun j hj => ?_⟩
        have hj : j < 5 * len := by simpa using hj
        obtain ⟨o1, o2⟩ := cell5_one (hw j hj)
        refine ⟨f j, f j, ?_, h3 j hj, o1, o2 m⟩
        rw [get_ofList]
        exact hget j hj
    · have : len = 0 := by omega
      subst this
      exact ⟨_, some ⟨i, 0, none⟩, 0, [], cap, .dead, .dead, rfl, rfl, ⟨Nat.zero_le _, Nat.zero_le _⟩, fun _ _ h => by simp at h, .inl rfl, fun m hm => .sliceDead _ _ _ _ _ hm, fun _ => trivial, fun _ h => by cases h⟩
end Go.AM
end
