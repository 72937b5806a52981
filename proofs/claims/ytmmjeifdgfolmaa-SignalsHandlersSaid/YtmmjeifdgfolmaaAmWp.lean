/- Running with values that are not known in full: a small machine whose states are data (frames, control, temporaries, heap), each step a rule; what it reaches the functions reach. Condition: the end satisfies what is asked. -/
import Derived.Test.YtmmjeifdgfolmaaAmCall
import Derived.Test.YtmmjeifdgfolmaaAmCan
namespace Go.AM

/-- what is to be done behind. -/
inductive Frm where
  | seq (b : Code) | blk (id : Nat) | again (body : Code) | scope (body : Code)
inductive Ctl where
  | code (c : Code)
  | ops (all l : List Oper)
  | rcd (ps : List (Nat × Nat)) (all l : List Oper) (acc : List Did)
  | exit (ex : AExit)

def plainOp : Op → Bool
  | .call c => match c.callee with
    | .builtin _ => true
    | _ => false
  | .panic _ => false
  | .entry _ => false
  | _ => true
noncomputable def didsOk (ps : List (Nat × Nat)) (l : List Did) : Bool := ps.all fun p => match l[p.1]?, l[p.2]? with
  | some x, some y => swapOk x y
  | _, _ => true
def isCallee : Call → Bool
  | c => match c.callee with
    | .builtin _ => false
    | _ => true

section
variable (P : Program) (ng : Nat) (sp : Special)
def EvF (f : FuncId) (args : List Value) (h : Heap) (r : Out × Heap) : Prop := ∃ N, ∀ fu d, N ≤ fu → N ≤ d → acall P ng sp fu d f args h = some r
def EvC (c : Code) (e : Env) (h : Heap) (x : AExit × Env × Heap) : Prop := ∃ N, ∀ fu d n, N ≤ fu → N ≤ d → N ≤ n → engine P (acall P ng sp fu d) n c e h = some x
def EvS (body c : Code) (e : Env) (h : Heap) (x : AExit × Env × Heap) : Prop := ∃ N, ∀ fu d n m, N ≤ fu → N ≤ d → N ≤ n → N ≤ m → scopeRun (engine P (acall P ng sp fu d) n) body m c e h = some x
def EvO (all l : List Oper) (e : Env) (h : Heap) (x : AExit × Env × Heap) : Prop := ∃ N, ∀ fu d, N ≤ fu → N ≤ d → runOps P (acall P ng sp fu d) all l e h = some x
def EvR (all l : List Oper) (e : Env) (h : Heap) (x : Env × Heap × List Did) : Prop := ∃ N, ∀ fu d, N ≤ fu → N ≤ d → runRec P (acall P ng sp fu d) all l e h = some x

variable (Q : AExit → Env → Heap → Prop)
inductive Run : List Frm → Ctl → Env → Heap → Prop
  | done {ex e h} : Q ex e h → Run [] (.exit ex) e h
  | skip {K e h} : Run K (.exit .normal) e h → Run K (.code .skip) e h
  | label {K l e h} : Run K (.exit .normal) e h → Run K (.code (.label l)) e h
  | ret {K e h} : Run K (.exit .ret) e h → Run K (.code .ret) e h
  | goto {K l e h} : Run K (.exit (.goto l)) e h → Run K (.code (.goto l)) e h
  | leave {K i e h} : Run K (.exit (.exit i)) e h → Run K (.code (.exit i)) e h
  | seq {K a b e h} : Run (.seq b :: K) (.code a) e h → Run K (.code (.seq a b)) e h
  | cond {K x a b t e h} : e.eval x = .bool t → Run K (.code (bif t then a else b)) e h → Run K (.code (.cond x a b)) e h
  | block {K id b e h} : Run (.blk id :: K) (.code b) e h → Run K (.code (.block id b)) e h
  | loop {K body e h} : (mapLoopOf body).isNone = true → Run (.again body :: K) (.code body) e h → Run K (.code (.loop body)) e h
  | scope {K body e h} : Run (.scope body :: K) (.code body) e h → Run K (.code (.scope body)) e h
  | region {K id ops e h} : Run K (.ops ops.toList ops.toList) e h → Run K (.code (.region id ops false)) e h
  | draw {K id ops ps e h} : drawText ops = true → dynPairs ops.toList = ps → Run K (.rcd ps ops.toList ops.toList []) e h → Run K (.code (.region id ops true)) e h
  | xseq {K b e h} : Run K (.code b) e h → Run (.seq b :: K) (.exit .normal) e h
  | xseq' {K b ex e h} : ex ≠ .normal → Run K (.exit ex) e h → Run (.seq b :: K) (.exit ex) e h
  | xblk {K id e h} : Run K (.exit .normal) e h → Run (.blk id :: K) (.exit (.exit id)) e h
  | xblk' {K id ex e h} : ex ≠ .exit id → Run K (.exit ex) e h → Run (.blk id :: K) (.exit ex) e h
  | xagain {K b e h} : Run K (.code (.loop b)) e h → Run (.again b :: K) (.exit .normal) e h
  | xagain' {K b ex e h} : ex ≠ .normal → Run K (.exit ex) e h → Run (.again b :: K) (.exit ex) e h
  | xscope {K body l rest e h} : findLabel body l = some rest → Run (.scope body :: K) (.code rest) e h → Run (.scope body :: K) (.exit (.goto l)) e h
  | xscope' {K body ex e h} : (∀ l, ex ≠ .goto l) → Run K (.exit ex) e h → Run (.scope body :: K) (.exit ex) e h
  | onil {K all e h} : Run K (.exit .normal) e h → Run K (.ops all []) e h
  | oskip {K all o r e h} : guardOk all e o = true → wantedA all e o = false → Run K (.ops all r) (e.put o.dst undef) h → Run K (.ops all (o :: r)) e h
  | oeff {K all o r f e h} : guardOk all e o = true → wantedA all e o = true → plainOp o.op = true → eff P o.op e.eval h.get h.nx = some f → Run K (.ops all r) (e.put o.dst f.val) (h.apply f) → Run K (.ops all (o :: r)) e h
  | ocall {K all o r c x v e h h'} : guardOk all e o = true → wantedA all e o = true → o.op = .call c → isCallee c = true → callee P c e.eval = some x → EvF P ng sp x.1 x.2 h (.ret v, h') → Run K (.ops all r) (e.put o.dst v) h' → Run K (.ops all (o :: r)) e h
  | ocallp {K all o r c x v e h h'} : guardOk all e o = true → wantedA all e o = true → o.op = .call c → isCallee c = true → callee P c e.eval = some x → EvF P ng sp x.1 x.2 h (.pan v, h') → Run K (.exit (.pan v)) e h' → Run K (.ops all (o :: r)) e h
  | opanic {K all o r x t v e h} : guardOk all e o = true → wantedA all e o = true → o.op = .panic x → e.eval x = .iface t v → Run K (.exit (.pan (.iface t v))) e h → Run K (.ops all (o :: r)) e h
  | rnil {K ps all acc e h} : didsOk ps acc = true → Run K (.exit .normal) e h → Run K (.rcd ps all [] acc) e h
  | rskip {K ps all o r acc e h} : guardOk all e o = true → wantedA all e o = false → Run K (.rcd ps all r (acc ++ [.skip])) (e.put o.dst undef) h → Run K (.rcd ps all (o :: r) acc) e h
  | reff {K ps all o r acc f e h} : guardOk all e o = true → wantedA all e o = true → plainOp o.op = true → eff P o.op e.eval h.get h.nx = some f → Run K (.rcd ps all r (acc ++ [.eff (foot o.op e.eval) f h.nx])) (e.put o.dst f.val) (h.apply f) → Run K (.rcd ps all (o :: r) acc) e h
  | rcall {K ps all o r acc c x v e h h'} : guardOk all e o = true → wantedA all e o = true → o.op = .call c → isCallee c = true → callee P c e.eval = some x → EvF P ng sp x.1 x.2 h (.ret v, h') → Run K (.rcd ps all r (acc ++ [.call h h'])) (e.put o.dst v) h' → Run K (.rcd ps all (o :: r) acc) e h

def SemX : List Frm → AExit → Env → Heap → Prop
  | [], ex, e, h => Q ex e h
  | .seq b :: K, ex, e, h => match ex with
    | .normal => ∃ ex' e' h', EvC P ng sp b e h (ex', e', h') ∧ SemX K ex' e' h'
    | ex => SemX K ex e h
  | .blk id :: K, ex, e, h => match ex with
    | .exit i => if i = id then SemX K .normal e h else SemX K (.exit i) e h
    | ex => SemX K ex e h
  | .again b :: K, ex, e, h => match ex with
    | .normal => ∃ ex' e' h', EvC P ng sp (.loop b) e h (ex', e', h') ∧ SemX K ex' e' h'
    | ex => SemX K ex e h
  | .scope body :: K, ex, e, h => match ex with
    | .goto l => ∃ rest, findLabel body l = some rest ∧ ∃ ex' e' h', EvS P ng sp body rest e h (ex', e', h') ∧ SemX K ex' e' h'
    | ex => SemX K ex e h
def Sem (K : List Frm) (x : Ctl) (e : Env) (h : Heap) : Prop := match x with
  | .code c => ∃ ex' e' h', EvC P ng sp c e h (ex', e', h') ∧ SemX P ng sp Q K ex' e' h'
  | .ops all l => ∃ ex' e' h', EvO P ng sp all l e h (ex', e', h') ∧ SemX P ng sp Q K ex' e' h'
  | .rcd ps all l acc => ∃ e' h' ds, EvR P ng sp all l e h (e', h', ds) ∧ didsOk ps (acc ++ ds) = true ∧ SemX P ng sp Q K .normal e' h'
  | .exit ex => SemX P ng sp Q K ex e h
end

section
variable {P : Program} {ng : Nat} {sp : Special} {Q : AExit → Env → Heap → Prop}
theorem engine_succ (cl : Caller) (n : Nat) (c : Code) (e : Env) (h : Heap) : engine P cl (n + 1) c e h = engC c P cl n (engine P cl n) e h := rfl
theorem acall_succ (fu d : Nat) (f : FuncId) (args : List Value) (h : Heap) : acall P ng sp fu (d + 1) f args h = callF P ng sp fu (acall P ng sp fu d) f args h := rfl
theorem EvC.step {c : Code} {e : Env} {h : Heap} {x : AExit × Env × Heap} (hs : ∃ N, ∀ fu d n, N ≤ fu → N ≤ d → N ≤ n → engC c P (acall P ng sp fu d) n (engine P (acall P ng sp fu d) n) e h = some x) : EvC P ng sp c e h x := by
  obtain ⟨N, hN⟩ := hs
  refine ⟨N + 1, fun fu d n h1 h2 h3 => ?_⟩
  obtain ⟨n, rfl⟩ : ∃ k, n = k + 1 := ⟨n - 1, by omega⟩
  rw [engine_succ]
  exact hN fu d n (by omega) (by omega) (by omega)
theorem EvC.seqN {a b : Code} {e e1 : Env} {h h1 : Heap} {x : AExit × Env × Heap} (ha : EvC P ng sp a e h (.normal, e1, h1)) (hb : EvC P ng sp b e1 h1 x) : EvC P ng sp (.seq a b) e h x := by
  obtain ⟨N, hN⟩ := ha
  obtain ⟨M, hM⟩ := hb
  refine EvC.step ⟨max N M, fun fu d n h1 h2 h3 => ?_⟩
  show onNormal (engine P (acall P ng sp fu d) n a e h) (engine P (acall P ng sp fu d) n b) = some x
  rw [hN fu d n (by omega) (by omega) (by omega), onNormal_eq]
  exact hM fu d n (by omega) (by omega) (by omega)
theorem EvC.seqX {a b : Code} {e e1 : Env} {h h1 : Heap} {ex : AExit} (ha : EvC P ng sp a e h (ex, e1, h1)) (hx : ex ≠ .normal) : EvC P ng sp (.seq a b) e h (ex, e1, h1) := by
  obtain ⟨N, hN⟩ := ha
  refine EvC.step ⟨N, fun fu d n h1 h2 h3 => ?_⟩
  show onNormal (engine P (acall P ng sp fu d) n a e h) (engine P (acall P ng sp fu d) n b) = some _
  rw [hN fu d n (by omega) (by omega) (by omega), onNormal_eq]
  cases ex <;> first | exact absurd rfl hx | rfl
theorem EvC.loopN {a : Code} (hm : (mapLoopOf a).isNone = true) {e e1 : Env} {h h1 : Heap} {x : AExit × Env × Heap} (ha : EvC P ng sp a e h (.normal, e1, h1)) (hb : EvC P ng sp (.loop a) e1 h1 x) : EvC P ng sp (.loop a) e h x := by
  obtain ⟨N, hN⟩ := ha
  obtain ⟨M, hM⟩ := hb
  have hm : mapLoopOf a = none := by simpa using hm
  refine EvC.step ⟨max N M, fun fu d n h1 h2 h3 => ?_⟩
  show (match mapLoopOf a with
    | some (it, tup, okT, c2) => explore (engine P (acall P ng sp fu d) n) it tup okT c2 n e h
    | none => onNormal (engine P (acall P ng sp fu d) n a e h) (engine P (acall P ng sp fu d) n (.loop a))) = some x
  rw [hm]
  simp only
  rw [hN fu d n (by omega) (by omega) (by omega), onNormal_eq]
  exact hM fu d n (by omega) (by omega) (by omega)
theorem EvC.loopX {a : Code} (hm : (mapLoopOf a).isNone = true) {e e1 : Env} {h h1 : Heap} {ex : AExit} (ha : EvC P ng sp a e h (ex, e1, h1)) (hx : ex ≠ .normal) : EvC P ng sp (.loop a) e h (ex, e1, h1) := by
  obtain ⟨N, hN⟩ := ha
  have hm : mapLoopOf a = none := by simpa using hm
  refine EvC.step ⟨N, fun fu d n h1 h2 h3 => ?_⟩
  show (match mapLoopOf a with
    | some (it, tup, okT, c2) => explore (engine P (acall P ng sp fu d) n) it tup okT c2 n e h
    | none => onNormal (engine P (acall P ng sp fu d) n a e h) (engine P (acall P ng sp fu d) n (.loop a))) = some _
  rw [hm]
  simp only
  rw [hN fu d n (by omega) (by omega) (by omega), onNormal_eq]
  cases ex <;> first | exact absurd rfl hx | rfl
theorem EvC.blk {a : Code} {id : Nat} {e e1 : Env} {h h1 : Heap} {ex : AExit} (ha : EvC P ng sp a e h (ex, e1, h1)) : EvC P ng sp (.block id a) e h ((match ex with | .exit i => if i = id then .normal else .exit i | x => x), e1, h1) := by
  obtain ⟨N, hN⟩ := ha
  refine EvC.step ⟨N, fun fu d n h1 h2 h3 => ?_⟩
  show onExit (engine P (acall P ng sp fu d) n a e h) id = some _
  rw [hN fu d n (by omega) (by omega) (by omega), onExit_eq]
  cases ex with
  | exit i =>
    simp only
    by_cases e : i = id
    · subst e
      rw [if_pos rfl, show Nat.beq i i = true from Nat.beq_refl i]
    · rw [if_neg e, show Nat.beq i id = false from by rw [← Bool.not_eq_true, Nat.beq_eq]; exact e]
  | _ => rfl
theorem EvC.reg {ops : Array Oper} {id : Nat} {e : Env} {h : Heap} {x : AExit × Env × Heap} (ha : EvO P ng sp ops.toList ops.toList e h x) : EvC P ng sp (.region id ops false) e h x := by
  obtain ⟨N, hN⟩ := ha
  exact EvC.step ⟨N, fun fu d n h1 h2 h3 => hN fu d h1 h2⟩
theorem EvC.drw {ops : Array Oper} {id : Nat} {ps : List (Nat × Nat)} {e e' : Env} {h h' : Heap} {ds : List Did} (ht : drawText ops = true) (hp : dynPairs ops.toList = ps) (ha : EvR P ng sp ops.toList ops.toList e h (e', h', ds)) (hd : didsOk ps ds = true) : EvC P ng sp (.region id ops true) e h (.normal, e', h') := by
  obtain ⟨N, hN⟩ := ha
  refine EvC.step ⟨N, fun fu d n h1 h2 h3 => ?_⟩
  show runDraw P (acall P ng sp fu d) ops e h = some _
  unfold runDraw
  rw [ht, hN fu d h1 h2]
  simp only
  subst hp
  have hd : drawDid2 ops.toList ds = true := hd
  rw [hd]
theorem EvS.here {body c : Code} {e e1 : Env} {h h1 : Heap} {ex : AExit} (ha : EvC P ng sp c e h (ex, e1, h1)) (hx : ∀ l, ex ≠ .goto l) : EvS P ng sp body c e h (ex, e1, h1) := by
  obtain ⟨N, hN⟩ := ha
  refine ⟨N + 1, fun fu d n m h1 h2 h3 h4 => ?_⟩
  obtain ⟨m, rfl⟩ : ∃ k, m = k + 1 := ⟨m - 1, by omega⟩
  rw [scopeRun, hN fu d n (by omega) (by omega) (by omega)]
  cases ex <;> first | rfl | exact absurd rfl (hx _)
theorem EvS.more {body c rest : Code} {e e1 : Env} {h h1 : Heap} {l : Nat} {x : AExit × Env × Heap} (ha : EvC P ng sp c e h (.goto l, e1, h1)) (hl : findLabel body l = some rest) (hb : EvS P ng sp body rest e1 h1 x) : EvS P ng sp body c e h x := by
  obtain ⟨N, hN⟩ := ha
  obtain ⟨M, hM⟩ := hb
  refine ⟨max N M + 1, fun fu d n m h1 h2 h3 h4 => ?_⟩
  obtain ⟨m, rfl⟩ : ∃ k, m = k + 1 := ⟨m - 1, by omega⟩
  rw [scopeRun, hN fu d n (by omega) (by omega) (by omega)]
  simp only
  rw [hl]
  exact hM fu d n m (by omega) (by omega) (by omega) (by omega)
theorem EvC.scp {body : Code} {e : Env} {h : Heap} {x : AExit × Env × Heap} (ha : EvS P ng sp body body e h x) : EvC P ng sp (.scope body) e h x := by
  obtain ⟨N, hN⟩ := ha
  exact EvC.step ⟨N, fun fu d n h1 h2 h3 => hN fu d n n h1 h2 h3 h3⟩
theorem plain_do {cl : Caller} {all : List Oper} {o : Oper} {k : Env → Heap → Res} {e : Env} {h : Heap} {f : Eff} (hg : guardOk all e o = true) (hw : wantedA all e o = true) (hp : plainOp o.op = true) (hf : eff P o.op e.eval h.get h.nx = some f) :
    runOp P cl all o k e h = k (e.put o.dst f.val) (h.apply f) := by
  rw [runOp_eq, runOpS, hg, hw]
  simp only
  obtain ⟨dst, op, type, pos, after, guard⟩ := o
  simp only at hp hf ⊢
  cases op <;> first | (exact absurd hp Bool.false_ne_true) | (simp only; rw [hf]; done) | skip
  rename_i c
  obtain ⟨ce, as, ts⟩ := c
  cases ce with
  | builtin b =>
    have hf : builtinEff P b ts (as.toList.map e.eval) h.get h.nx = some f := hf
    simp only
    rw [hf]
  | value _ => exact absurd hp Bool.false_ne_true
  | invoke _ _ => exact absurd hp Bool.false_ne_true
theorem call_do {cl : Caller} {all : List Oper} {o : Oper} {k : Env → Heap → Res} {e : Env} {h : Heap} {c : Call} {x : FuncId × List Value} (hg : guardOk all e o = true) (hw : wantedA all e o = true) (ho : o.op = .call c) (hc : isCallee c = true) (hx : callee P c e.eval = some x) :
    runOp P cl all o k e h = (match cl x.1 x.2 h with
      | some (.ret v, h') => k (e.put o.dst v) h'
      | some (.pan v, h') => some (.pan v, e, h')
      | none => none) := by
  rw [runOp_eq, runOpS, hg, hw]
  simp only
  rw [ho]
  obtain ⟨ce, as, ts⟩ := c
  cases ce with
  | builtin b => exact absurd hc Bool.false_ne_true
  | value _ => simp only; rw [hx]; rfl
  | invoke _ _ => simp only; rw [hx]; rfl
theorem runRec_skip {cl : Caller} {all : List Oper} {o : Oper} {r : List Oper} {e : Env} {h : Heap} (hg : guardOk all e o = true) (hw : wantedA all e o = false) :
    runRec P cl all (o :: r) e h = (match runRec P cl all r (e.put o.dst undef) h with
      | some (e', h'', l) => some (e', h'', .skip :: l)
      | none => none) := by
  rw [runRec_eq, runRec_eq, runRecS, hg, hw]
  simp
  rfl
theorem runRec_eff {cl : Caller} {all : List Oper} {o : Oper} {r : List Oper} {e : Env} {h : Heap} {f : Eff} (hg : guardOk all e o = true) (hw : wantedA all e o = true) (hp : plainOp o.op = true) (hf : eff P o.op e.eval h.get h.nx = some f) :
    runRec P cl all (o :: r) e h = (match runRec P cl all r (e.put o.dst f.val) (h.apply f) with
      | some (e', h'', l) => some (e', h'', .eff (foot o.op e.eval) f h.nx :: l)
      | none => none) := by
  rw [runRec_eq, runRec_eq, runRecS, hg, hw]
  have hc : runRecS.callOf o.op = none := by
    unfold runRecS.callOf
    cases ho : o.op <;> first | rfl | skip
    rename_i c
    rw [ho] at hp
    obtain ⟨ce, as, ts⟩ := c
    cases ce <;> first | rfl | exact absurd hp Bool.false_ne_true
  simp only [hc, hf]
  simp
  rfl
theorem runRec_call {cl : Caller} {all : List Oper} {o : Oper} {r : List Oper} {e : Env} {h : Heap} {c : Call} {x : FuncId × List Value} (hg : guardOk all e o = true) (hw : wantedA all e o = true) (ho : o.op = .call c) (hc : isCallee c = true) (hx : callee P c e.eval = some x) :
    runRec P cl all (o :: r) e h = (match cl x.1 x.2 h with
      | some (.ret v, h') => (match runRec P cl all r (e.put o.dst v) h' with
        | some (e', h'', l) => some (e', h'', .call h h' :: l)
        | none => none)
      | _ => none) := by
  rw [runRec_eq, runRecS, hg, hw]
  have hc : runRecS.callOf o.op = some c := by
    rw [ho]
    obtain ⟨ce, as, ts⟩ := c
    cases ce <;> first | rfl | exact absurd hc Bool.false_ne_true
  simp only [hc, hx]
  cases cl x.1 x.2 h with
  | none => simp
  | some y =>
    obtain ⟨o', h'⟩ := y
    cases o' with
    | ret v => simp only [runRec_eq]; simp; rfl
    | pan v => simp

theorem Run.sem {K : List Frm} {x : Ctl} {e : Env} {h : Heap} (hr : Run P ng sp Q K x e h) : Sem P ng sp Q K x e h := by
  induction hr with
  | done hq => exact hq
  | skip _ ih => exact ⟨_, _, _, EvC.step ⟨0, fun _ _ _ _ _ _ => rfl⟩, ih⟩
  | label _ ih => exact ⟨_, _, _, EvC.step ⟨0, fun _ _ _ _ _ _ => rfl⟩, ih⟩
  | ret _ ih => exact ⟨_, _, _, EvC.step ⟨0, fun _ _ _ _ _ _ => rfl⟩, ih⟩
  | goto _ ih => exact ⟨_, _, _, EvC.step ⟨0, fun _ _ _ _ _ _ => rfl⟩, ih⟩
  | leave _ ih => exact ⟨_, _, _, EvC.step ⟨0, fun _ _ _ _ _ _ => rfl⟩, ih⟩
  | seq _ ih =>
    obtain ⟨ex, e1, h1, he, hx⟩ := ih
    cases ex with
    | normal =>
      obtain ⟨ex', e', h', hb, hx⟩ := hx
      exact ⟨_, _, _, he.seqN hb, hx⟩
    | _ => exact ⟨_, _, _, he.seqX (by simp), hx⟩
  | @cond K x a b t e h ht _ ih =>
    obtain ⟨ex, e1, h1, ⟨N, hN⟩, hx⟩ := ih
    refine ⟨_, _, _, EvC.step ⟨N, fun fu d n h1 h2 h3 => ?_⟩, hx⟩
    show (match e.eval x with
      | .bool t => engine P (acall P ng sp fu d) n (Bool.rec b a t) e h
      | _ => none) = _
    rw [ht]
    simp only
    rw [← hN fu d n h1 h2 h3]
    cases t <;> rfl
  | block _ ih =>
    obtain ⟨ex, e1, h1, he, hx⟩ := ih
    refine ⟨_, _, _, he.blk, ?_⟩
    cases ex with
    | exit i =>
      have hx : (if i = _ then _ else _) := hx
      simp only
      split
      · rename_i hi; rw [if_pos hi] at hx; exact hx
      · rename_i hi; rw [if_neg hi] at hx; exact hx
    | _ => exact hx
  | loop hm _ ih =>
    obtain ⟨ex, e1, h1, he, hx⟩ := ih
    cases ex with
    | normal =>
      obtain ⟨ex', e', h', hb, hx⟩ := hx
      exact ⟨_, _, _, he.loopN hm hb, hx⟩
    | _ => exact ⟨_, _, _, he.loopX hm (by simp), hx⟩
  | scope _ ih =>
    obtain ⟨ex, e1, h1, he, hx⟩ := ih
    cases ex with
    | goto l =>
      obtain ⟨rest, hl, ex', e', h', hb, hx⟩ := hx
      exact ⟨_, _, _, .scp (EvS.more he hl hb), hx⟩
    | _ => exact ⟨_, _, _, .scp (EvS.here he (by simp)), hx⟩
  | region _ ih =>
    obtain ⟨ex, e1, h1, he, hx⟩ := ih
    exact ⟨_, _, _, EvC.reg he, hx⟩
  | draw ht hp _ ih =>
    obtain ⟨e1, h1, ds, he, hd, hx⟩ := ih
    exact ⟨_, _, _, EvC.drw ht hp he hd, hx⟩
  | xseq _ ih => exact ih
  | @xseq' K b ex e h hn _ ih =>
    cases ex <;> first | exact absurd rfl hn | exact ih
  | xblk _ ih =>
    show if _ then _ else _
    rw [if_pos rfl]
    exact ih
  | @xblk' K id ex e h hn _ ih =>
    cases ex with
    | exit i =>
      show if _ then _ else _
      rw [if_neg (fun e => hn (by rw [e]))]
      exact ih
    | _ => exact ih
  | xagain _ ih => exact ih
  | @xagain' K b ex e h hn _ ih =>
    cases ex <;> first | exact absurd rfl hn | exact ih
  | xscope hl _ ih =>
    obtain ⟨ex, e1, h1, he, hx⟩ := ih
    refine ⟨_, hl, ?_⟩
    cases ex with
    | goto l =>
      obtain ⟨rest, hl, ex', e', h', hb, hx⟩ := hx
      exact ⟨_, _, _, EvS.more he hl hb, hx⟩
    | _ => exact ⟨_, _, _, EvS.here he (by simp), hx⟩
  | @xscope' K body ex e h hn _ ih =>
    cases ex <;> first | exact absurd rfl (hn _) | exact ih
  | onil _ ih => exact ⟨_, _, _, ⟨0, fun _ _ _ _ => rfl⟩, ih⟩
  | oskip hg hw _ ih =>
    obtain ⟨ex, e1, h1, ⟨N, hN⟩, hx⟩ := ih
    refine ⟨_, _, _, ⟨N, fun fu d h1 h2 => ?_⟩, hx⟩
    rw [runOps_cons, runOp_false hg hw]
    exact hN fu d h1 h2
  | oeff hg hw hp hf _ ih =>
    obtain ⟨ex, e1, h1, ⟨N, hN⟩, hx⟩ := ih
    refine ⟨_, _, _, ⟨N, fun fu d h1 h2 => ?_⟩, hx⟩
    rw [runOps_cons, plain_do hg hw hp hf]
    exact hN fu d h1 h2
  | ocall hg hw ho hc hx hf _ ih =>
    obtain ⟨ex, e1, h1, ⟨N, hN⟩, hx'⟩ := ih
    obtain ⟨M, hM⟩ := hf
    refine ⟨_, _, _, ⟨max N M, fun fu d h1 h2 => ?_⟩, hx'⟩
    rw [runOps_cons, call_do hg hw ho hc hx, hM fu d (by omega) (by omega)]
    exact hN fu d (by omega) (by omega)
  | ocallp hg hw ho hc hx hf _ ih =>
    obtain ⟨M, hM⟩ := hf
    refine ⟨_, _, _, ⟨M, fun fu d h1 h2 => ?_⟩, ih⟩
    rw [runOps_cons, call_do hg hw ho hc hx, hM fu d (by omega) (by omega)]
  | opanic hg hw ho hx _ ih =>
    refine ⟨_, _, _, ⟨0, fun fu d h1 h2 => ?_⟩, ih⟩
    rw [runOps_cons, runOp_eq, runOpS, hg, hw]
    simp only
    rw [ho]
    simp only
    rw [hx]
  | rnil hd _ ih => exact ⟨_, _, [], ⟨0, fun _ _ _ _ => rfl⟩, by simpa using hd, ih⟩
  | rskip hg hw _ ih =>
    obtain ⟨e1, h1, ds, ⟨N, hN⟩, hd, hx⟩ := ih
    refine ⟨_, _, _ :: ds, ⟨N, fun fu d h1 h2 => ?_⟩, by simpa using hd, hx⟩
    rw [runRec_skip hg hw, hN fu d h1 h2]
  | reff hg hw hp hf _ ih =>
    obtain ⟨e1, h1, ds, ⟨N, hN⟩, hd, hx⟩ := ih
    refine ⟨_, _, _ :: ds, ⟨N, fun fu d h1 h2 => ?_⟩, by simpa using hd, hx⟩
    rw [runRec_eff hg hw hp hf, hN fu d h1 h2]
  | rcall hg hw ho hc hx hf _ ih =>
    obtain ⟨e1, h1, ds, ⟨N, hN⟩, hd, hx'⟩ := ih
    obtain ⟨M, hM⟩ := hf
    refine ⟨_, _, _ :: ds, ⟨max N M, fun fu d h1 h2 => ?_⟩, by simpa using hd, hx'⟩
    rw [runRec_call hg hw ho hc hx, hM fu d (by omega) (by omega)]
    simp only
    rw [hN fu d (by omega) (by omega)]
end
end Go.AM
