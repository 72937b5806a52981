/- The steps of the small machine as equivalences, for rewriting. Condition: none but those named. -/
import Derived.Test.YtmmjeifdgfolmaaAmSim2
namespace Go.AM
variable {P : Program} {ng : Nat} {sp : Special} {Q : AExit → Env → Heap → Prop}

/- ## Control -/
theorem run_skip {K : List Frm} {e : Env} {h : Heap} : Run P ng sp Q K (.code .skip) e h ↔ Run P ng sp Q K (.exit .normal) e h := ⟨fun h => by cases h; assumption, .skip⟩
theorem run_label {K : List Frm} {l : Nat} {e : Env} {h : Heap} : Run P ng sp Q K (.code (.label l)) e h ↔ Run P ng sp Q K (.exit .normal) e h := ⟨fun h => by cases h; assumption, .label⟩
theorem run_ret {K : List Frm} {e : Env} {h : Heap} : Run P ng sp Q K (.code .ret) e h ↔ Run P ng sp Q K (.exit .ret) e h := ⟨fun h => by cases h; assumption, .ret⟩
theorem run_goto {K : List Frm} {l : Nat} {e : Env} {h : Heap} : Run P ng sp Q K (.code (.goto l)) e h ↔ Run P ng sp Q K (.exit (.goto l)) e h := ⟨fun h => by cases h; assumption, .goto⟩
theorem run_leave {K : List Frm} {i : Nat} {e : Env} {h : Heap} : Run P ng sp Q K (.code (.exit i)) e h ↔ Run P ng sp Q K (.exit (.exit i)) e h := ⟨fun h => by cases h; assumption, .leave⟩
theorem run_seq {K : List Frm} {a b : Code} {e : Env} {h : Heap} : Run P ng sp Q K (.code (.seq a b)) e h ↔ Run P ng sp Q (.seq b :: K) (.code a) e h := ⟨fun h => by cases h; assumption, .seq⟩
theorem run_block {K : List Frm} {id : Nat} {b : Code} {e : Env} {h : Heap} : Run P ng sp Q K (.code (.block id b)) e h ↔ Run P ng sp Q (.blk id :: K) (.code b) e h := ⟨fun h => by cases h; assumption, .block⟩
theorem run_scope {K : List Frm} {b : Code} {e : Env} {h : Heap} : Run P ng sp Q K (.code (.scope b)) e h ↔ Run P ng sp Q (.scope b :: K) (.code b) e h := ⟨fun h => by cases h; assumption, .scope⟩
theorem run_region {K : List Frm} {id : Nat} {ops : Array Oper} {e : Env} {h : Heap} : Run P ng sp Q K (.code (.region id ops false)) e h ↔ Run P ng sp Q K (.ops ops.toList ops.toList) e h := ⟨fun h => by cases h; assumption, .region⟩
/-- a branch. -/
def RunB (P : Program) (ng : Nat) (sp : Special) (Q : AExit → Env → Heap → Prop) (K : List Frm) (a b : Code) (v : Value) (e : Env) (h : Heap) : Prop := ∃ t, v = .bool t ∧ Run P ng sp Q K (.code (bif t then a else b)) e h
theorem run_cond {K : List Frm} {x : Operand} {a b : Code} {e : Env} {h : Heap} : Run P ng sp Q K (.code (.cond x a b)) e h ↔ RunB P ng sp Q K a b (e.eval x) e h :=
  ⟨fun h => by cases h with | cond h1 h2 => exact ⟨_, h1, h2⟩, fun ⟨_, h1, h2⟩ => .cond h1 h2⟩
theorem runB_true {K : List Frm} {a b : Code} {e : Env} {h : Heap} : RunB P ng sp Q K a b (.bool true) e h ↔ Run P ng sp Q K (.code a) e h :=
  ⟨fun ⟨t, h1, h2⟩ => by cases h1; exact h2, fun h => ⟨true, rfl, h⟩⟩
theorem runB_false {K : List Frm} {a b : Code} {e : Env} {h : Heap} : RunB P ng sp Q K a b (.bool false) e h ↔ Run P ng sp Q K (.code b) e h :=
  ⟨fun ⟨t, h1, h2⟩ => by cases h1; exact h2, fun h => ⟨false, rfl, h⟩⟩
theorem runB_dec {K : List Frm} {a b : Code} {e : Env} {h : Heap} {p : Prop} [Decidable p] (h1 : p → Run P ng sp Q K (.code a) e h) (h2 : ¬p → Run P ng sp Q K (.code b) e h) : RunB P ng sp Q K a b (.bool (decide p)) e h := by
  by_cases hp : p
  · rw [decide_eq_true hp]; exact runB_true.2 (h1 hp)
  · rw [decide_eq_false hp]; exact runB_false.2 (h2 hp)
theorem runB_bool {K : List Frm} {a b : Code} {e : Env} {h : Heap} {p : Bool} (h1 : p = true → Run P ng sp Q K (.code a) e h) (h2 : p = false → Run P ng sp Q K (.code b) e h) : RunB P ng sp Q K a b (.bool p) e h := by
  cases p
  · exact runB_false.2 (h2 rfl)
  · exact runB_true.2 (h1 rfl)
theorem exit_done {ex : AExit} {e : Env} {h : Heap} : Run P ng sp Q [] (.exit ex) e h ↔ Q ex e h := ⟨fun h => by cases h; assumption, .done⟩
theorem exit_seq_normal {K : List Frm} {b : Code} {e : Env} {h : Heap} : Run P ng sp Q (.seq b :: K) (.exit .normal) e h ↔ Run P ng sp Q K (.code b) e h :=
  ⟨fun h => by cases h with | xseq h => exact h | xseq' h1 _ => exact absurd rfl h1, .xseq⟩
theorem exit_seq_ret {K : List Frm} {b : Code} {e : Env} {h : Heap} : Run P ng sp Q (.seq b :: K) (.exit .ret) e h ↔ Run P ng sp Q K (.exit .ret) e h := ⟨fun h => by cases h; assumption, .xseq' (by simp)⟩
theorem exit_seq_exit {K : List Frm} {b : Code} {i : Nat} {e : Env} {h : Heap} : Run P ng sp Q (.seq b :: K) (.exit (.exit i)) e h ↔ Run P ng sp Q K (.exit (.exit i)) e h := ⟨fun h => by cases h; assumption, .xseq' (by simp)⟩
theorem exit_seq_goto {K : List Frm} {b : Code} {i : Nat} {e : Env} {h : Heap} : Run P ng sp Q (.seq b :: K) (.exit (.goto i)) e h ↔ Run P ng sp Q K (.exit (.goto i)) e h := ⟨fun h => by cases h; assumption, .xseq' (by simp)⟩
theorem exit_seq_pan {K : List Frm} {b : Code} {v : Value} {e : Env} {h : Heap} : Run P ng sp Q (.seq b :: K) (.exit (.pan v)) e h ↔ Run P ng sp Q K (.exit (.pan v)) e h := ⟨fun h => by cases h; assumption, .xseq' (by simp)⟩
theorem exit_blk_normal {K : List Frm} {i : Nat} {e : Env} {h : Heap} : Run P ng sp Q (.blk i :: K) (.exit .normal) e h ↔ Run P ng sp Q K (.exit .normal) e h := ⟨fun h => by cases h; assumption, .xblk' (by simp)⟩
theorem exit_blk_ret {K : List Frm} {i : Nat} {e : Env} {h : Heap} : Run P ng sp Q (.blk i :: K) (.exit .ret) e h ↔ Run P ng sp Q K (.exit .ret) e h := ⟨fun h => by cases h; assumption, .xblk' (by simp)⟩
theorem exit_blk_goto {K : List Frm} {i l : Nat} {e : Env} {h : Heap} : Run P ng sp Q (.blk i :: K) (.exit (.goto l)) e h ↔ Run P ng sp Q K (.exit (.goto l)) e h := ⟨fun h => by cases h; assumption, .xblk' (by simp)⟩
theorem exit_blk_pan {K : List Frm} {i : Nat} {v : Value} {e : Env} {h : Heap} : Run P ng sp Q (.blk i :: K) (.exit (.pan v)) e h ↔ Run P ng sp Q K (.exit (.pan v)) e h := ⟨fun h => by cases h; assumption, .xblk' (by simp)⟩
theorem exit_blk_exit {K : List Frm} {i j : Nat} {e : Env} {h : Heap} : Run P ng sp Q (.blk i :: K) (.exit (.exit j)) e h ↔ if j = i then Run P ng sp Q K (.exit .normal) e h else Run P ng sp Q K (.exit (.exit j)) e h := by
  by_cases hj : j = i
  · subst hj
    rw [if_pos rfl]
    exact ⟨fun h => by cases h with | xblk h => exact h | xblk' h1 _ => exact absurd rfl h1, .xblk⟩
  · rw [if_neg hj]
    exact ⟨fun h => by cases h with | xblk h => exact absurd rfl hj | xblk' _ h => exact h, .xblk' (by simpa using hj)⟩
theorem exit_again_normal {K : List Frm} {b : Code} {e : Env} {h : Heap} : Run P ng sp Q (.again b :: K) (.exit .normal) e h ↔ Run P ng sp Q K (.code (.loop b)) e h :=
  ⟨fun h => by cases h with | xagain h => exact h | xagain' h1 _ => exact absurd rfl h1, .xagain⟩
theorem exit_again_ret {K : List Frm} {b : Code} {e : Env} {h : Heap} : Run P ng sp Q (.again b :: K) (.exit .ret) e h ↔ Run P ng sp Q K (.exit .ret) e h := ⟨fun h => by cases h; assumption, .xagain' (by simp)⟩
theorem exit_again_exit {K : List Frm} {b : Code} {i : Nat} {e : Env} {h : Heap} : Run P ng sp Q (.again b :: K) (.exit (.exit i)) e h ↔ Run P ng sp Q K (.exit (.exit i)) e h := ⟨fun h => by cases h; assumption, .xagain' (by simp)⟩
theorem exit_again_goto {K : List Frm} {b : Code} {i : Nat} {e : Env} {h : Heap} : Run P ng sp Q (.again b :: K) (.exit (.goto i)) e h ↔ Run P ng sp Q K (.exit (.goto i)) e h := ⟨fun h => by cases h; assumption, .xagain' (by simp)⟩
theorem exit_again_pan {K : List Frm} {b : Code} {v : Value} {e : Env} {h : Heap} : Run P ng sp Q (.again b :: K) (.exit (.pan v)) e h ↔ Run P ng sp Q K (.exit (.pan v)) e h := ⟨fun h => by cases h; assumption, .xagain' (by simp)⟩
theorem exit_scope_normal {K : List Frm} {b : Code} {e : Env} {h : Heap} : Run P ng sp Q (.scope b :: K) (.exit .normal) e h ↔ Run P ng sp Q K (.exit .normal) e h := ⟨fun h => by cases h; assumption, .xscope' (by simp)⟩
theorem exit_scope_ret {K : List Frm} {b : Code} {e : Env} {h : Heap} : Run P ng sp Q (.scope b :: K) (.exit .ret) e h ↔ Run P ng sp Q K (.exit .ret) e h := ⟨fun h => by cases h; assumption, .xscope' (by simp)⟩
theorem exit_scope_exit {K : List Frm} {b : Code} {i : Nat} {e : Env} {h : Heap} : Run P ng sp Q (.scope b :: K) (.exit (.exit i)) e h ↔ Run P ng sp Q K (.exit (.exit i)) e h := ⟨fun h => by cases h; assumption, .xscope' (by simp)⟩
theorem exit_scope_pan {K : List Frm} {b : Code} {v : Value} {e : Env} {h : Heap} : Run P ng sp Q (.scope b :: K) (.exit (.pan v)) e h ↔ Run P ng sp Q K (.exit (.pan v)) e h := ⟨fun h => by cases h; assumption, .xscope' (by simp)⟩

/-- a loop, by a measure. -/
theorem run_loop {K : List Frm} {body : Code} (hm : (mapLoopOf body).isNone = true) (I : Nat → Env → Heap → Prop)
    (step : ∀ n e h, I n e h → (∀ n' e' h', n' < n → I n' e' h' → Run P ng sp Q K (.code (.loop body)) e' h') → Run P ng sp Q (.again body :: K) (.code body) e h) :
    ∀ (n : Nat) (e : Env) (h : Heap), I n e h → Run P ng sp Q K (.code (.loop body)) e h := by
  intro n
  induction n using Nat.strongRecOn with
  | _ n ih => exact fun e h hi => .loop hm (step n e h hi fun n' e' h' hn hi' => ih n' hn e' h' hi')
theorem run_unroll {K : List Frm} {body : Code} (hm : (mapLoopOf body).isNone = true) {e : Env} {h : Heap} (hr : Run P ng sp Q (.again body :: K) (.code body) e h) : Run P ng sp Q K (.code (.loop body)) e h := .loop hm hr

/- ## Operations -/
def RunV (P : Program) (ng : Nat) (sp : Special) (Q : AExit → Env → Heap → Prop) (K : List Frm) (c : Ctl) (d : Option Tmp) (x : Option Eff) (e : Env) (h : Heap) : Prop := ∃ f, x = some f ∧ Run P ng sp Q K c (e.put d f.val) (h.apply f)
theorem runV_ret {K : List Frm} {c : Ctl} {d : Option Tmp} {v : Value} {e : Env} {h : Heap} : RunV P ng sp Q K c d (ret v) e h ↔ Run P ng sp Q K c (e.put d v) h :=
  ⟨fun ⟨f, h1, h2⟩ => by cases h1; exact h2, fun h => ⟨_, rfl, h⟩⟩
theorem runV_some {K : List Frm} {c : Ctl} {d : Option Tmp} {f : Eff} {e : Env} {h : Heap} : RunV P ng sp Q K c d (some f) e h ↔ Run P ng sp Q K c (e.put d f.val) (h.apply f) :=
  ⟨fun ⟨f, h1, h2⟩ => by cases h1; exact h2, fun h => ⟨_, rfl, h⟩⟩
theorem runV_none {K : List Frm} {c : Ctl} {d : Option Tmp} {e : Env} {h : Heap} : RunV P ng sp Q K c d none e h ↔ False := ⟨fun ⟨_, h1, _⟩ => (by cases h1), False.elim⟩
theorem runV_if {K : List Frm} {c : Ctl} {d : Option Tmp} {x : Option Eff} {e : Env} {h : Heap} {p : Prop} [Decidable p] (hp : p) (hr : RunV P ng sp Q K c d x e h) : RunV P ng sp Q K c d (if p then x else none) e h := by rw [if_pos hp]; exact hr
/-- a call: c: control behind it; pa: may it panic? -/
def RunC (P : Program) (ng : Nat) (sp : Special) (Q : AExit → Env → Heap → Prop) (K : List Frm) (c : Ctl) (d : Option Tmp) (pa : Bool) (x : Option (FuncId × List Value)) (e : Env) (h : Heap) : Prop :=
  ∃ y, x = some y ∧ ∃ o h', EvF P ng sp y.1 y.2 h (o, h') ∧ (match o with
    | .ret v => Run P ng sp Q K c (e.put d v) h'
    | .pan v => pa = true ∧ Run P ng sp Q K (.exit (.pan v)) e h')
def AfterC (P : Program) (ng : Nat) (sp : Special) (Q : AExit → Env → Heap → Prop) (K : List Frm) (c : Ctl) (d : Option Tmp) (pa : Bool) (e : Env) (o : Out) (h' : Heap) : Prop := match o with
    | .ret v => Run P ng sp Q K c (e.put d v) h'
    | .pan v => pa = true ∧ Run P ng sp Q K (.exit (.pan v)) e h'
def WF (P : Program) (ng : Nat) (sp : Special) (f : FuncId) (args : List Value) (h : Heap) (R : Out → Heap → Prop) : Prop := ∃ o h', EvF P ng sp f args h (o, h') ∧ R o h'
theorem afterC_ret {K : List Frm} {c : Ctl} {d : Option Tmp} {pa : Bool} {e : Env} {v : Value} {h : Heap} : AfterC P ng sp Q K c d pa e (.ret v) h ↔ Run P ng sp Q K c (e.put d v) h := Iff.rfl
theorem afterC_pan {K : List Frm} {c : Ctl} {d : Option Tmp} {e : Env} {v : Value} {h : Heap} : AfterC P ng sp Q K c d true e (.pan v) h ↔ Run P ng sp Q K (.exit (.pan v)) e h := ⟨fun h => h.2, fun h => ⟨rfl, h⟩⟩
theorem runC_of {K : List Frm} {c : Ctl} {d : Option Tmp} {pa : Bool} {f : FuncId} {args : List Value} {e : Env} {h : Heap} (hf : WF P ng sp f args h (AfterC P ng sp Q K c d pa e)) : RunC P ng sp Q K c d pa (some (f, args)) e h := by
  obtain ⟨o, h', h1, h2⟩ := hf
  exact ⟨_, rfl, o, h', h1, h2⟩
theorem guardOk_none {all : List Oper} {e : Env} {o : Oper} (hg : o.guard = none) : guardOk all e o = true := by unfold guardOk; rw [hg]
theorem wanted_none {all : List Oper} {e : Env} {o : Oper} (hg : o.guard = none) : wantedA all e o = true := by unfold wantedA; rw [hg]
theorem plain_not_call {c : Call} (h1 : plainOp (.call c) = true) (h2 : isCallee c = true) : False := by
  obtain ⟨ce, as, ts⟩ := c
  cases ce <;> simp [plainOp, isCallee] at h1 h2
theorem run_plain {K : List Frm} {all r : List Oper} {o : Oper} {e : Env} {h : Heap} (hg : o.guard = none) (hp : plainOp o.op = true) :
    Run P ng sp Q K (.ops all (o :: r)) e h ↔ RunV P ng sp Q K (.ops all r) o.dst (eff P o.op e.eval h.get h.nx) e h := by
  constructor
  · intro hr
    cases hr with
    | oskip _ h2 _ => rw [wanted_none hg] at h2; cases h2
    | oeff _ _ _ h4 h5 => exact ⟨_, h4, h5⟩
    | ocall _ _ h3 h4 _ _ _ =>
      rw [h3] at hp
      exact (plain_not_call hp h4).elim
    | ocallp _ _ h3 h4 _ _ _ =>
      rw [h3] at hp
      exact (plain_not_call hp h4).elim
    | opanic _ _ h3 _ _ => rw [h3] at hp; simp [plainOp] at hp
  · rintro ⟨f, h1, h2⟩
    exact .oeff (guardOk_none hg) (wanted_none hg) hp h1 h2
theorem run_call {K : List Frm} {all r : List Oper} {o : Oper} {c : Call} {e : Env} {h : Heap} (hg : o.guard = none) (ho : o.op = .call c) (hc : isCallee c = true) :
    Run P ng sp Q K (.ops all (o :: r)) e h ↔ RunC P ng sp Q K (.ops all r) o.dst true (callee P c e.eval) e h := by
  constructor
  · intro hr
    cases hr with
    | oskip _ h2 _ => rw [wanted_none hg] at h2; cases h2
    | oeff _ _ h3 h4 h5 =>
      rw [ho] at h3
      exact (plain_not_call h3 hc).elim
    | ocall _ _ h3 h4 h5 h6 h7 =>
      have h3 := Op.call.inj (ho.symm.trans h3)
      subst h3
      exact ⟨_, h5, _, _, h6, h7⟩
    | ocallp _ _ h3 h4 h5 h6 h7 =>
      have h3 := Op.call.inj (ho.symm.trans h3)
      subst h3
      exact ⟨_, h5, _, _, h6, rfl, h7⟩
    | opanic _ _ h3 _ _ => rw [ho] at h3; cases h3
  · rintro ⟨y, h1, o', h', h2, h3⟩
    cases o' with
    | ret v => exact .ocall (guardOk_none hg) (wanted_none hg) ho hc h1 h2 h3
    | pan v => exact .ocallp (guardOk_none hg) (wanted_none hg) ho hc h1 h2 h3.2
theorem run_nil {K : List Frm} {all : List Oper} {e : Env} {h : Heap} : Run P ng sp Q K (.ops all []) e h ↔ Run P ng sp Q K (.exit .normal) e h := ⟨fun h => by cases h; assumption, .onil⟩
/-- a guard's value. -/
noncomputable def gval (all : List Oper) (e : Env) (j : Nat) : Value := match (all[j]?).bind (·.dst) with
  | some d => e.at d
  | none => topV
/-- an operation under a guard: its value is at hand. -/
def RunG (P : Program) (ng : Nat) (sp : Special) (Q : AExit → Env → Heap → Prop) (K : List Frm) (all r : List Oper) (o : Oper) (j : Nat) (v : Value) (e : Env) (h : Heap) : Prop := v = gval all e j ∧ Run P ng sp Q K (.ops all (o :: r)) e h
theorem guard_val {all : List Oper} {e : Env} {o : Oper} {j : Nat} {want b : Bool} (hg : o.guard = some (j, want)) (hv : gval all e j = .bool b) : guardOk all e o = true ∧ wantedA all e o = decide (b = want) := by
  unfold gval at hv
  unfold guardOk wantedA
  rw [hg]
  simp only
  split at hv
  · rename_i d hd
    rw [hd]
    simp only
    rw [hv]
    simp only
    refine ⟨trivial, ?_⟩
    cases b <;> cases want <;> rfl
  · cases hv
theorem run_guard {K : List Frm} {all r : List Oper} {d : Option Tmp} {op : Op} {t : TypeId} {p : String} {af : Array Edge} {j : Nat} {want : Bool} {e : Env} {h : Heap} :
    Run P ng sp Q K (.ops all (⟨d, op, t, p, af, some (j, want)⟩ :: r)) e h ↔ RunG P ng sp Q K all r ⟨d, op, t, p, af, some (j, want)⟩ j (gval all e j) e h := ⟨fun h => ⟨rfl, h⟩, fun h => h.2⟩
theorem runG_bool {K : List Frm} {all r : List Oper} {d : Option Tmp} {op : Op} {t : TypeId} {p : String} {af : Array Edge} {j : Nat} {want b : Bool} {e : Env} {h : Heap} :
    RunG P ng sp Q K all r ⟨d, op, t, p, af, some (j, want)⟩ j (.bool b) e h ↔ .bool b = gval all e j ∧ (if b = want then Run P ng sp Q K (.ops all (⟨d, op, t, p, af, none⟩ :: r)) e h else Run P ng sp Q K (.ops all r) (e.put d undef) h) := by
  refine and_congr_right fun hv => ?_
  obtain ⟨h1, h2⟩ := @guard_val all e ⟨d, op, t, p, af, some (j, want)⟩ j want b rfl hv.symm
  have hw := @wanted_none all e ⟨d, op, t, p, af, none⟩ rfl
  have hk := @guardOk_none all e ⟨d, op, t, p, af, none⟩ rfl
  by_cases hb : b = want
  · rw [if_pos hb]
    rw [decide_eq_true hb] at h2
    constructor
    · intro hr
      cases hr with
      | oskip _ h3 _ => rw [h2] at h3; cases h3
      | oeff _ _ h3 h4 h5 => exact .oeff hk hw h3 h4 h5
      | ocall _ _ h3 h4 h5 h6 h7 => exact .ocall hk hw h3 h4 h5 h6 h7
      | ocallp _ _ h3 h4 h5 h6 h7 => exact .ocallp hk hw h3 h4 h5 h6 h7
      | opanic _ _ h3 h4 h5 => exact .opanic hk hw h3 h4 h5
    · intro hr
      cases hr with
      | oskip _ h3 _ => rw [hw] at h3; cases h3
      | oeff _ _ h3 h4 h5 => exact .oeff h1 h2 h3 h4 h5
      | ocall _ _ h3 h4 h5 h6 h7 => exact .ocall h1 h2 h3 h4 h5 h6 h7
      | ocallp _ _ h3 h4 h5 h6 h7 => exact .ocallp h1 h2 h3 h4 h5 h6 h7
      | opanic _ _ h3 h4 h5 => exact .opanic h1 h2 h3 h4 h5
  · rw [if_neg hb]
    rw [decide_eq_false hb] at h2
    constructor
    · intro hr
      cases hr with
      | oskip _ _ h3 => exact h3
      | oeff _ h3 _ _ _ => rw [h2] at h3; cases h3
      | ocall _ h3 _ _ _ _ _ => rw [h2] at h3; cases h3
      | ocallp _ h3 _ _ _ _ _ => rw [h2] at h3; cases h3
      | opanic _ h3 _ _ _ => rw [h2] at h3; cases h3
    · exact fun hr => .oskip h1 h2 hr
theorem runG_true {K : List Frm} {all r : List Oper} {d : Option Tmp} {op : Op} {t : TypeId} {p : String} {af : Array Edge} {j : Nat} {want : Bool} {e : Env} {h : Heap} :
    RunG P ng sp Q K all r ⟨d, op, t, p, af, some (j, want)⟩ j (.bool true) e h ↔ .bool true = gval all e j ∧ (if true = want then Run P ng sp Q K (.ops all (⟨d, op, t, p, af, none⟩ :: r)) e h else Run P ng sp Q K (.ops all r) (e.put d undef) h) := runG_bool
theorem runG_false {K : List Frm} {all r : List Oper} {d : Option Tmp} {op : Op} {t : TypeId} {p : String} {af : Array Edge} {j : Nat} {want : Bool} {e : Env} {h : Heap} :
    RunG P ng sp Q K all r ⟨d, op, t, p, af, some (j, want)⟩ j (.bool false) e h ↔ .bool false = gval all e j ∧ (if false = want then Run P ng sp Q K (.ops all (⟨d, op, t, p, af, none⟩ :: r)) e h else Run P ng sp Q K (.ops all r) (e.put d undef) h) := runG_bool
theorem runG_dec {K : List Frm} {all r : List Oper} {o : Oper} {j : Nat} {e : Env} {h : Heap} {p : Prop} [Decidable p] (h1 : p → RunG P ng sp Q K all r o j (.bool true) e h) (h2 : ¬p → RunG P ng sp Q K all r o j (.bool false) e h) : RunG P ng sp Q K all r o j (.bool (decide p)) e h := by
  by_cases hp : p
  · rw [decide_eq_true hp]; exact h1 hp
  · rw [decide_eq_false hp]; exact h2 hp

/- ## Regions whose order is open -/
theorem run_draw {K : List Frm} {id : Nat} {ops : Array Oper} {ps : List (Nat × Nat)} {e : Env} {h : Heap} (ht : drawText ops = true) (hp : dynPairs ops.toList = ps) (hr : Run P ng sp Q K (.rcd ps ops.toList ops.toList []) e h) : Run P ng sp Q K (.code (.region id ops true)) e h := .draw ht hp hr
def RunVR (P : Program) (ng : Nat) (sp : Special) (Q : AExit → Env → Heap → Prop) (K : List Frm) (ps : List (Nat × Nat)) (all r : List Oper) (acc : List Did) (rd : List Nat) (d : Option Tmp) (x : Option Eff) (e : Env) (h : Heap) : Prop :=
  ∃ f, x = some f ∧ Run P ng sp Q K (.rcd ps all r (acc ++ [.eff rd f h.nx])) (e.put d f.val) (h.apply f)
theorem runVR_ret {K : List Frm} {ps : List (Nat × Nat)} {all r : List Oper} {acc : List Did} {rd : List Nat} {d : Option Tmp} {v : Value} {e : Env} {h : Heap} : RunVR P ng sp Q K ps all r acc rd d (ret v) e h ↔ Run P ng sp Q K (.rcd ps all r (acc ++ [.eff rd ⟨v, [], []⟩ h.nx])) (e.put d v) h :=
  ⟨fun ⟨f, h1, h2⟩ => by cases h1; exact h2, fun h => ⟨_, rfl, h⟩⟩
theorem runVR_some {K : List Frm} {ps : List (Nat × Nat)} {all r : List Oper} {acc : List Did} {rd : List Nat} {d : Option Tmp} {f : Eff} {e : Env} {h : Heap} : RunVR P ng sp Q K ps all r acc rd d (some f) e h ↔ Run P ng sp Q K (.rcd ps all r (acc ++ [.eff rd f h.nx])) (e.put d f.val) (h.apply f) :=
  ⟨fun ⟨f, h1, h2⟩ => by cases h1; exact h2, fun h => ⟨_, rfl, h⟩⟩
theorem rcd_plain {K : List Frm} {ps : List (Nat × Nat)} {all r : List Oper} {acc : List Did} {o : Oper} {e : Env} {h : Heap} (hg : o.guard = none) (hp : plainOp o.op = true) :
    Run P ng sp Q K (.rcd ps all (o :: r) acc) e h ↔ RunVR P ng sp Q K ps all r acc (foot o.op e.eval) o.dst (eff P o.op e.eval h.get h.nx) e h := by
  constructor
  · intro hr
    cases hr with
    | rskip _ h2 _ => rw [wanted_none hg] at h2; cases h2
    | reff _ _ _ h4 h5 => exact ⟨_, h4, h5⟩
    | rcall _ _ h3 h4 _ _ _ =>
      rw [h3] at hp
      exact (plain_not_call hp h4).elim
  · rintro ⟨f, h1, h2⟩
    exact .reff (guardOk_none hg) (wanted_none hg) hp h1 h2
def AfterR (P : Program) (ng : Nat) (sp : Special) (Q : AExit → Env → Heap → Prop) (K : List Frm) (ps : List (Nat × Nat)) (all r : List Oper) (acc : List Did) (d : Option Tmp) (e : Env) (h : Heap) (o : Out) (h' : Heap) : Prop := match o with
    | .ret v => Run P ng sp Q K (.rcd ps all r (acc ++ [.call h h'])) (e.put d v) h'
    | .pan _ => False
theorem afterR_ret {K : List Frm} {ps : List (Nat × Nat)} {all r : List Oper} {acc : List Did} {d : Option Tmp} {e : Env} {v : Value} {h h' : Heap} : AfterR P ng sp Q K ps all r acc d e h (.ret v) h' ↔ Run P ng sp Q K (.rcd ps all r (acc ++ [.call h h'])) (e.put d v) h' := Iff.rfl
def RunCR (P : Program) (ng : Nat) (sp : Special) (Q : AExit → Env → Heap → Prop) (K : List Frm) (ps : List (Nat × Nat)) (all r : List Oper) (acc : List Did) (d : Option Tmp) (x : Option (FuncId × List Value)) (e : Env) (h : Heap) : Prop :=
  ∃ y, x = some y ∧ WF P ng sp y.1 y.2 h (AfterR P ng sp Q K ps all r acc d e h)
theorem runCR_of {K : List Frm} {ps : List (Nat × Nat)} {all r : List Oper} {acc : List Did} {d : Option Tmp} {f : FuncId} {args : List Value} {e : Env} {h : Heap} (hf : WF P ng sp f args h (AfterR P ng sp Q K ps all r acc d e h)) : RunCR P ng sp Q K ps all r acc d (some (f, args)) e h := ⟨_, rfl, hf⟩
theorem rcd_call {K : List Frm} {ps : List (Nat × Nat)} {all r : List Oper} {acc : List Did} {o : Oper} {c : Call} {e : Env} {h : Heap} (hg : o.guard = none) (ho : o.op = .call c) (hc : isCallee c = true) :
    Run P ng sp Q K (.rcd ps all (o :: r) acc) e h ↔ RunCR P ng sp Q K ps all r acc o.dst (callee P c e.eval) e h := by
  constructor
  · intro hr
    cases hr with
    | rskip _ h2 _ => rw [wanted_none hg] at h2; cases h2
    | reff _ _ h3 h4 h5 =>
      rw [ho] at h3
      exact (plain_not_call h3 hc).elim
    | rcall _ _ h3 h4 h5 h6 h7 =>
      have h3 := Op.call.inj (ho.symm.trans h3)
      subst h3
      exact ⟨_, h5, _, _, h6, h7⟩
  · rintro ⟨y, h1, o', h', h2, h3⟩
    cases o' with
    | ret v => exact .rcall (guardOk_none hg) (wanted_none hg) ho hc h1 h2 h3
    | pan v => exact h3.elim
theorem rcd_nil {K : List Frm} {ps : List (Nat × Nat)} {all : List Oper} {acc : List Did} {e : Env} {h : Heap} : Run P ng sp Q K (.rcd ps all [] acc) e h ↔ didsOk ps acc = true ∧ Run P ng sp Q K (.exit .normal) e h := ⟨fun h => by cases h with | rnil h1 h2 => exact ⟨h1, h2⟩, fun h => .rnil h.1 h.2⟩
def RunGR (P : Program) (ng : Nat) (sp : Special) (Q : AExit → Env → Heap → Prop) (K : List Frm) (ps : List (Nat × Nat)) (all r : List Oper) (acc : List Did) (o : Oper) (j : Nat) (v : Value) (e : Env) (h : Heap) : Prop := v = gval all e j ∧ Run P ng sp Q K (.rcd ps all (o :: r) acc) e h
theorem rcd_guard {K : List Frm} {ps : List (Nat × Nat)} {all r : List Oper} {acc : List Did} {d : Option Tmp} {op : Op} {t : TypeId} {p : String} {af : Array Edge} {j : Nat} {want : Bool} {e : Env} {h : Heap} :
    Run P ng sp Q K (.rcd ps all (⟨d, op, t, p, af, some (j, want)⟩ :: r) acc) e h ↔ RunGR P ng sp Q K ps all r acc ⟨d, op, t, p, af, some (j, want)⟩ j (gval all e j) e h := ⟨fun h => ⟨rfl, h⟩, fun h => h.2⟩
theorem runGR_bool {K : List Frm} {ps : List (Nat × Nat)} {all r : List Oper} {acc : List Did} {d : Option Tmp} {op : Op} {t : TypeId} {p : String} {af : Array Edge} {j : Nat} {want b : Bool} {e : Env} {h : Heap} :
    RunGR P ng sp Q K ps all r acc ⟨d, op, t, p, af, some (j, want)⟩ j (.bool b) e h ↔ .bool b = gval all e j ∧ (if b = want then Run P ng sp Q K (.rcd ps all (⟨d, op, t, p, af, none⟩ :: r) acc) e h else Run P ng sp Q K (.rcd ps all r (acc ++ [.skip])) (e.put d undef) h) := by
  refine and_congr_right fun hv => ?_
  obtain ⟨h1, h2⟩ := @guard_val all e ⟨d, op, t, p, af, some (j, want)⟩ j want b rfl hv.symm
  have hw := @wanted_none all e ⟨d, op, t, p, af, none⟩ rfl
  have hk := @guardOk_none all e ⟨d, op, t, p, af, none⟩ rfl
  by_cases hb : b = want
  · rw [if_pos hb]
    rw [decide_eq_true hb] at h2
    constructor
    · intro hr
      cases hr with
      | rskip _ h3 _ => rw [h2] at h3; cases h3
      | reff _ _ h3 h4 h5 => exact .reff hk hw h3 h4 h5
      | rcall _ _ h3 h4 h5 h6 h7 => exact .rcall hk hw h3 h4 h5 h6 h7
    · intro hr
      cases hr with
      | rskip _ h3 _ => rw [hw] at h3; cases h3
      | reff _ _ h3 h4 h5 => exact .reff h1 h2 h3 h4 h5
      | rcall _ _ h3 h4 h5 h6 h7 => exact .rcall h1 h2 h3 h4 h5 h6 h7
  · rw [if_neg hb]
    rw [decide_eq_false hb] at h2
    constructor
    · intro hr
      cases hr with
      | rskip _ _ h3 => exact h3
      | reff _ h3 _ _ _ => rw [h2] at h3; cases h3
      | rcall _ h3 _ _ _ _ _ => rw [h2] at h3; cases h3
    · exact fun hr => .rskip h1 h2 hr
theorem runGR_true {K : List Frm} {ps : List (Nat × Nat)} {all r : List Oper} {acc : List Did} {d : Option Tmp} {op : Op} {t : TypeId} {p : String} {af : Array Edge} {j : Nat} {want : Bool} {e : Env} {h : Heap} :
    RunGR P ng sp Q K ps all r acc ⟨d, op, t, p, af, some (j, want)⟩ j (.bool true) e h ↔ .bool true = gval all e j ∧ (if true = want then Run P ng sp Q K (.rcd ps all (⟨d, op, t, p, af, none⟩ :: r) acc) e h else Run P ng sp Q K (.rcd ps all r (acc ++ [.skip])) (e.put d undef) h) := runGR_bool
theorem runGR_false {K : List Frm} {ps : List (Nat × Nat)} {all r : List Oper} {acc : List Did} {d : Option Tmp} {op : Op} {t : TypeId} {p : String} {af : Array Edge} {j : Nat} {want : Bool} {e : Env} {h : Heap} :
    RunGR P ng sp Q K ps all r acc ⟨d, op, t, p, af, some (j, want)⟩ j (.bool false) e h ↔ .bool false = gval all e j ∧ (if false = want then Run P ng sp Q K (.rcd ps all (⟨d, op, t, p, af, none⟩ :: r) acc) e h else Run P ng sp Q K (.rcd ps all r (acc ++ [.skip])) (e.put d undef) h) := runGR_bool

/- ## Functions -/
/-- what a function's end must be. -/
def FnQ (P : Program) (rs : List ResultVar) (R : Out → Heap → Prop) : AExit → Env → Heap → Prop := fun ex e h => match ex with
  | .normal => ∃ v, resultV P e h rs = some v ∧ R (.ret v) h
  | .ret => ∃ v, resultV P e h rs = some v ∧ R (.ret v) h
  | .pan v => R (.pan v) h
  | _ => False
theorem fnQ_normal {rs : List ResultVar} {R : Out → Heap → Prop} {e : Env} {h : Heap} : FnQ P rs R .normal e h ↔ ∃ v, resultV P e h rs = some v ∧ R (.ret v) h := Iff.rfl
theorem fnQ_ret {rs : List ResultVar} {R : Out → Heap → Prop} {e : Env} {h : Heap} : FnQ P rs R .ret e h ↔ ∃ v, resultV P e h rs = some v ∧ R (.ret v) h := Iff.rfl
theorem fnQ_pan {rs : List ResultVar} {R : Out → Heap → Prop} {v : Value} {e : Env} {h : Heap} : FnQ P rs R (.pan v) e h ↔ R (.pan v) h := Iff.rfl
theorem wf_fn {f : FuncId} {fn : Func} {c : Code} {args : List Value} {h : Heap} {R : Out → Heap → Prop} (hs : (sp f).isNone = true) (hf : P.funcs[f]? = some fn) (hok : fnOk ng fn = true) (hb : fn.body = some c)
    (hr : Run P ng sp (FnQ P fn.results.toList R) [] (.code c) (storeL .leaf 0 args) h) : WF P ng sp f args h R := by
  obtain ⟨ex, e', h', ⟨N, hN⟩, hx⟩ := hr.sem
  have hx : FnQ P fn.results.toList R ex e' h' := hx
  have hs : sp f = none := by simpa using hs
  have key : ∀ o, (match some (ex, e', h') with
          | some (AExit.normal, e, h') => match resultV P e h' fn.results.toList with
            | some v => some (Out.ret v, h')
            | none => none
          | some (AExit.ret, e, h') => match resultV P e h' fn.results.toList with
            | some v => some (Out.ret v, h')
            | none => none
          | some (AExit.pan v, _, h') => some (Out.pan v, h')
          | _ => none) = some (o, h') → R o h' → WF P ng sp f args h R := by
    intro o ho hro
    refine ⟨o, h', ⟨N + 1, fun fu d h1 h2 => ?_⟩, hro⟩
    obtain ⟨d, rfl⟩ : ∃ k, d = k + 1 := ⟨d - 1, by omega⟩
    rw [acall_succ]
    unfold callF
    rw [hs, hf]
    simp only
    rw [hok, hb]
    simp only
    rw [hN fu d fu (by omega) (by omega) (by omega)]
    exact ho
  cases ex with
  | normal =>
    obtain ⟨v, h1, h2⟩ := hx
    exact key (.ret v) (by simp only [h1]) h2
  | ret =>
    obtain ⟨v, h1, h2⟩ := hx
    exact key (.ret v) (by simp only [h1]) h2
  | pan v => exact key (.pan v) rfl hx
  | exit i => exact hx.elim
  | goto l => exact hx.elim
theorem resultV_one (e : Env) (h : Heap) (t : Tmp) : resultV P e h [.tmp t] = some (e.at t) := rfl
theorem resultV_nil (e : Env) (h : Heap) : resultV P e h [] = some (.tuple #[]) := rfl
theorem resultV_two (e : Env) (h : Heap) (a b : ResultVar) (l : List ResultVar) : resultV P e h (a :: b :: l) = (resAll P e h (a :: b :: l)).map fun vs => .tuple vs.toArray := by
  unfold resultV
  simp only
  cases resAll P e h (a :: b :: l) <;> rfl
theorem resAll_nil (e : Env) (h : Heap) : resAll P e h [] = some [] := rfl
theorem resAll_tmp (e : Env) (h : Heap) (t : Tmp) (l : List ResultVar) : resAll P e h (.tmp t :: l) = (resAll P e h l).map fun vs => e.at t :: vs := by
  rw [resAll]
  show (match some (e.at t), resAll P e h l with | some v, some vs => some (v :: vs) | _, _ => none) = _
  cases resAll P e h l <;> rfl
theorem callee_func (f : FuncId) (as : Array Operand) (ts : Array TypeId) (e : Env) : callee P ⟨.value (.func f), as, ts⟩ e.eval = some (f, as.toList.map e.eval) := by
  unfold callee
  show some (f, [] ++ as.toList.map e.eval ++ []) = _
  simp
theorem callee_tmp (t : Tmp) (as : Array Operand) (ts : Array TypeId) (e : Env) : callee P ⟨.value (.tmp t), as, ts⟩ e.eval = (match e.at t with
    | .func (.func f) first captured => some (f, first.toList ++ as.toList.map e.eval ++ captured.toList)
    | _ => none) := rfl

/- ## Operations, one by one -/
section
variable (ρ : Operand → Value) (g : Nat → Option Blk) (nx : Nat)
theorem eff_move (x : Operand) : eff P (.move x) ρ g nx = ret (ρ x) := rfl
theorem eff_assign (x : Operand) : eff P (.assign x) ρ g nx = ret (ρ x) := rfl
theorem eff_pick (c a b : Operand) : eff P (.pick c a b) ρ g nx = effPick (ρ c) (ρ a) (ρ b) := rfl
theorem effPick_bool (t : Bool) (a b : Value) : effPick (.bool t) a b = ret (cond t a b) := rfl
theorem effPick_true (a b : Value) : effPick (.bool true) a b = ret a := rfl
theorem effPick_false (a b : Value) : effPick (.bool false) a b = ret b := rfl
theorem eff_alloc (t : TypeId) : eff P (.alloc t) ρ g nx = alX (zeroL P t) nx := effAlloc_eq t nx
theorem eff_box (t : TypeId) (x : Operand) : eff P (.box t x) ρ g nx = alX (cellsOf (ρ x)) nx := effBox_eq _ nx
theorem eff_load (t : TypeId) (a : Operand) : eff P (.load t a) ρ g nx = effLoad P t (ρ a) g := rfl
theorem eff_store (t : TypeId) (a x : Operand) : eff P (.store t a x) ρ g nx = effStore P t (ρ a) (ρ x) g := rfl
theorem eff_nil (x : Operand) : eff P (.nilCheck x) ρ g nx = effNil P (ρ x) := rfl
theorem effNil_ptr (a : Addr) : effNil P (.pointer (some a)) = ret (.pointer (some a)) := rfl
theorem effNil_ifc (t : TypeId) (v : Value) : effNil P (.iface t v) = ret (.iface t v) := rfl
theorem effNil_func (f : FuncId) (a b : Array Value) : effNil P (.func (.func f) a b) = ret (.func (.func f) a b) := rfl
theorem eff_bin (op : BinOp) (t : TypeId) (x y : Operand) (u : TypeId) : eff P (.binOp op t x y u) ρ g nx = effBin P op t x y (ρ x) (ρ y) g := rfl
theorem eff_un (op : UnOp) (t : TypeId) (x : Operand) : eff P (.unOp op t x) ρ g nx = effUn op (ρ x) := rfl
theorem eff_conv (s d : TypeId) (x : Operand) : eff P (.convert s d x) ρ g nx = effConv P s d (ρ x) g nx := rfl
theorem eff_ifc (t : TypeId) (x : Operand) : eff P (.makeInterface t x) ρ g nx = effIface P t (ρ x) := rfl
theorem eff_fun (fn : Fn) (a b : Array Operand) : eff P (.makeFunc fn a b) ρ g nx = ret (.func fn (a.map ρ) (b.map ρ)) := rfl
theorem eff_mks (t : TypeId) (l c : Operand) : eff P (.makeSlice t l c) ρ g nx = effMakeSlice P t (ρ l) (ρ c) nx := rfl
theorem eff_mkm (t : TypeId) : eff P (.makeMap t none) ρ g nx = some ⟨.map (some nx), [], [.map [] 0]⟩ := rfl
theorem eff_slice (t : TypeId) (x : Operand) (lo hi mx : Option Operand) : eff P (.slice t x lo hi mx) ρ g nx = effSlice P t (ρ x) (lo.map ρ) (hi.map ρ) (mx.map ρ) g := rfl
theorem eff_fieldAddr (t : TypeId) (x : Operand) (f : Nat) : eff P (.fieldAddr t x f) ρ g nx = effField P t (ρ x) f := rfl
theorem eff_field (t : TypeId) (x : Operand) (f : Nat) : eff P (.field t x f) ρ g nx = effFieldV P t (ρ x) f := rfl
theorem eff_indexAddr (t : TypeId) (x i : Operand) : eff P (.indexAddr t x i) ρ g nx = effIdx P t (ρ x) (ρ i) := rfl
theorem eff_index (t : TypeId) (x i : Operand) : eff P (.index t x i) ρ g nx = effIndex P t (ρ x) (ρ i) := rfl
theorem eff_lookup (t : TypeId) (m k : Operand) (ok : Bool) : eff P (.lookup t m k ok) ρ g nx = effLookup P t (ρ m) (ρ k) ok g := rfl
theorem eff_mapUpdate (t : TypeId) (m k x : Operand) : eff P (.mapUpdate t m k x) ρ g nx = effUpdate P t (ρ m) (ρ k) (ρ x) g := rfl
theorem eff_extract (t : Operand) (i : Nat) : eff P (.extract t i) ρ g nx = effExtract (ρ t) i := rfl
theorem effExtract_tuple (vs : Array Value) (i : Nat) : effExtract (.tuple vs) i = match vs.toList[i]? with
    | some v => if storable v then ret v else none
    | none => none := rfl
theorem eff_len (as : Array Operand) (ts : Array TypeId) (x : Operand) (h : as.toList = [x]) : eff P (.call ⟨.builtin .len, as, ts⟩) ρ g nx = aLen P ts (ρ x) g := by
  show builtinEff P .len ts (as.toList.map ρ) g nx = _
  rw [h]; rfl
theorem eff_append (as : Array Operand) (ts : Array TypeId) (x y : Operand) (h : as.toList = [x, y]) : eff P (.call ⟨.builtin .append, as, ts⟩) ρ g nx = aAppend P ts (ρ x) (ρ y) g nx := by
  show builtinEff P .append ts (as.toList.map ρ) g nx = _
  rw [h]; rfl
theorem eff_copy (as : Array Operand) (ts : Array TypeId) (x y : Operand) (h : as.toList = [x, y]) : eff P (.call ⟨.builtin .copy, as, ts⟩) ρ g nx = aCopy P ts (ρ x) (ρ y) g := by
  show builtinEff P .copy ts (as.toList.map ρ) g nx = _
  rw [h]; rfl
theorem eff_clear (as : Array Operand) (ts : Array TypeId) (x : Operand) (h : as.toList = [x]) : eff P (.call ⟨.builtin .clear, as, ts⟩) ρ g nx = aClear P ts (ρ x) g := by
  show builtinEff P .clear ts (as.toList.map ρ) g nx = _
  rw [h]; rfl
end
theorem storable_bool (b : Bool) : storable (.bool b) = true := rfl
theorem storable_int (k : IntKind) (n : Int) : storable (.int k n) = true := rfl
theorem storable_string (s : ByteArray) : storable (.string s) = true := rfl
theorem storable_pointer (a : Option Addr) : storable (.pointer a) = true := rfl
theorem storable_slice (a : Option Addr) (l c : Nat) : storable (.slice a l c) = true := rfl
theorem storable_agg (c : Array Value) : storable (.agg c) = true := rfl
theorem storable_iface (t : TypeId) (v : Value) : storable (.iface t v) = true := rfl
theorem storable_nilIface : storable .nilIface = true := rfl
end Go.AM
