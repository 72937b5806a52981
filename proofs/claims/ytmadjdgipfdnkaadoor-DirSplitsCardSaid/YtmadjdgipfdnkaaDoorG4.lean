/- Lemmas of the claim: the machine of the proof and the walks of the program. Conditions: as each says. -/
import Derived.Test.YtmadjdgipfdnkaaDoorG3
import Derived.ProofKit
import Derived.OpenShut
import Derived.LaidMore
import Derived.Lay
import Derived.SevenTiedAt
import Derived.Stop.Joined
import Derived.Recover
section
/- The steps of the small machine as equivalences, for rewriting. Condition: none but those named. -/
namespace Go.AM
variable {P : Program} {ng : Nat} {sp : Special} {Q : AExit → Env → Heap → Prop}

/- ## Control -/
theorem run_skip {K : List Frm} {e : Env} {h : Heap} : Run P ng sp Q K (.code .skip) e h ↔ Run P ng sp Q K (.exit .normal) e h := ⟨fun h => by cases h; assumption, .skip⟩
theorem run_label {K : List Frm} {l : Nat} {e : Env} {h : Heap} : Run P ng sp Q K (.code (.label l)) e h ↔ Run P ng sp Q K (.exit .normal) e h := ⟨fun h => by cases h; assumption, .label⟩
theorem run_ret {K : List Frm} {e : Env} {h : Heap} : Run P ng sp Q K (.code .ret) e h ↔ Run P ng sp Q K (.exit .ret) e h := ⟨fun h => by cases h; assumption, .ret⟩
theorem run_goto {K : List Frm} {l : Nat} {e : Env} {h : Heap} : Run P ng sp Q K (.code (.goto l)) e h ↔ Run P ng sp Q K (.exit (.goto l)) e h := ⟨fun h => by cases h; assumption, .goto⟩
theorem run_leave {K : List Frm} {i : Nat} {e : Env} {h : Heap} : Run P ng sp Q K (.code (.exit i)) e h ↔ Run P ng sp Q K (.exit (.exit i)) e h := ⟨fun h => by cases h; assumption, .leave⟩
theorem run_seq {K : List Frm} {a b : Code} {e : Env} {h : Heap} : Run P ng sp Q K (.code (.seq a b)) e h ↔ Run P ng sp Q (.seq b :: K) (.code a) e h := ⟨fun h => by cases h; assumption, .seq⟩
theorem run_block {K : List Frm} {id : Nat} {b : Code} {e : Env} {h : Heap} : Run P ng sp Q K (.code (.block id b)) e h ↔ Run P ng sp Q (.blk id :: K) (.code b) e h := ⟨fun h => by cases h; assumption, .block⟩
theorem run_scope {K : List Frm} {b : Code} {e : Env} {h : Heap} : Run P ng sp Q K (.code (.scope b)) e h ↔ Run P ng sp Q (.scope b :: K) (.code b) e h := ⟨fun h => by cases h; assumption, .scope⟩
theorem run_region {K : List Frm} {id : Nat} {ops : Array Oper} {e : Env} {h : Heap} : Run P ng sp Q K (.code (.region id ops false)) e h ↔ Run P ng sp Q K (.ops ops.toList ops.toList) e h := ⟨fun h => by cases h; assumption, .region⟩
/-- a branch. -/
def RunB (P : Program) (ng : Nat) (sp : Special) (Q : AExit → Env → Heap → Prop) (K : List Frm) (a b : Code) (v : Value) (e : Env) (h : Heap) : Prop := ∃ t, v = .bool t ∧ Run P ng sp Q K (.code (bif t then a else b)) e h
theorem run_cond {K : List Frm} {x : Operand} {a b : Code} {e : Env} {h : Heap} : Run P ng sp Q K (.code (.cond x a b)) e h ↔ RunB P ng sp Q K a b (e.eval x) e h :=
  ⟨fun h => by cases h with | cond h1 h2 => exact ⟨_, h1, h2⟩, fun ⟨_, h1, h2⟩ => .cond h1 h2⟩
theorem runB_true {K : List Frm} {a b : Code} {e : Env} {h : Heap} : RunB P ng sp Q K a b (.bool true) e h ↔ Run P ng sp Q K (.code a) e h :=
  ⟨fun ⟨t, h1, h2⟩ => by cases h1; exact h2, fun h => ⟨true, rfl, h⟩⟩
theorem runB_false {K : List Frm} {a b : Code} {e : Env} {h : Heap} : RunB P ng sp Q K a b (.bool false) e h ↔ Run P ng sp Q K (.code b) e h :=
  ⟨fun ⟨t, h1, h2⟩ => by cases h1; exact h2, fun h => ⟨false, rfl, h⟩⟩
theorem runB_dec {K : List Frm} {a b : Code} {e : Env} {h : Heap} {p : Prop} [Decidable p] (h1 : p → Run P ng sp Q K (.code a) e h) (h2 : ¬p → Run P ng sp Q K (.code b) e h) : RunB P ng sp Q K a b (.bool (decide p)) e h := by
  by_cases hp : p
  · rw [decide_eq_true hp]; exact runB_true.2 (h1 hp)
  · rw [decide_eq_false hp]; exact runB_false.2 (h2 hp)
theorem runB_bool {K : List Frm} {a b : Code} {e : Env} {h : Heap} {p : Bool} (h1 : p = true → Run P ng sp Q K (.code a) e h) (h2 : p = false → Run P ng sp Q K (.code b) e h) : RunB P ng sp Q K a b (.bool p) e h := by
  cases p
  · exact runB_false.2 (h2 rfl)
  · exact runB_true.2 (h1 rfl)
theorem exit_done {ex : AExit} {e : Env} {h : Heap} : Run P ng sp Q [] (.exit ex) e h ↔ Q ex e h := ⟨fun h => by cases h; assumption, .done⟩
theorem exit_seq_normal {K : List Frm} {b : Code} {e : Env} {h : Heap} : Run P ng sp Q (.seq b :: K) (.exit .normal) e h ↔ Run P ng sp Q K (.code b) e h :=
  ⟨fun h => by cases h with | xseq h => exact h | xseq' h1 _ => exact absurd rfl h1, .xseq⟩
theorem exit_seq_ret {K : List Frm} {b : Code} {e : Env} {h : Heap} : Run P ng sp Q (.seq b :: K) (.exit .ret) e h ↔ Run P ng sp Q K (.exit .ret) e h := ⟨fun h => by cases h; assumption, .xseq' (by simp)⟩
theorem exit_seq_exit {K : List Frm} {b : Code} {i : Nat} {e : Env} {h : Heap} : Run P ng sp Q (.seq b :: K) (.exit (.exit i)) e h ↔ Run P ng sp Q K (.exit (.exit i)) e h := ⟨fun h => by cases h; assumption, .xseq' (by simp)⟩
theorem exit_seq_goto {K : List Frm} {b : Code} {i : Nat} {e : Env} {h : Heap} : Run P ng sp Q (.seq b :: K) (.exit (.goto i)) e h ↔ Run P ng sp Q K (.exit (.goto i)) e h := ⟨fun h => by cases h; assumption, .xseq' (by simp)⟩
theorem exit_seq_pan {K : List Frm} {b : Code} {v : Value} {e : Env} {h : Heap} : Run P ng sp Q (.seq b :: K) (.exit (.pan v)) e h ↔ Run P ng sp Q K (.exit (.pan v)) e h := ⟨fun h => by cases h; assumption, .xseq' (by simp)⟩
theorem exit_blk_normal {K : List Frm} {i : Nat} {e : Env} {h : Heap} : Run P ng sp Q (.blk i :: K) (.exit .normal) e h ↔ Run P ng sp Q K (.exit .normal) e h := ⟨fun h => by cases h; assumption, .xblk' (by simp)⟩
theorem exit_blk_ret {K : List Frm} {i : Nat} {e : Env} {h : Heap} : Run P ng sp Q (.blk i :: K) (.exit .ret) e h ↔ Run P ng sp Q K (.exit .ret) e h := ⟨fun h => by cases h; assumption, .xblk' (by simp)⟩
theorem exit_blk_goto {K : List Frm} {i l : Nat} {e : Env} {h : Heap} : Run P ng sp Q (.blk i :: K) (.exit (.goto l)) e h ↔ Run P ng sp Q K (.exit (.goto l)) e h := ⟨fun h => by cases h; assumption, .xblk' (by simp)⟩
theorem exit_blk_pan {K : List Frm} {i : Nat} {v : Value} {e : Env} {h : Heap} : Run P ng sp Q (.blk i :: K) (.exit (.pan v)) e h ↔ Run P ng sp Q K (.exit (.pan v)) e h := ⟨fun h => by cases h; assumption, .xblk' (by simp)⟩
theorem exit_blk_exit {K : List Frm} {i j : Nat} {e : Env} {h : Heap} : Run P ng sp Q (.blk i :: K) (.exit (.exit j)) e h ↔ if j = i then Run P ng sp Q K (.exit .normal) e h else Run P ng sp Q K (.exit (.exit j)) e h := by
  by_cases hj : j = i
  · subst hj
    rw [if_pos rfl]
    exact ⟨fun h => by cases h with | xblk h => exact h | xblk' h1 _ => exact absurd rfl h1, .xblk⟩
  · rw [if_neg hj]
    exact ⟨fun h => by cases h with | xblk h => exact absurd rfl hj | xblk' _ h => exact h, .xblk' (by simpa using hj)⟩
theorem exit_again_normal {K : List Frm} {b : Code} {e : Env} {h : Heap} : Run P ng sp Q (.again b :: K) (.exit .normal) e h ↔ Run P ng sp Q K (.code (.loop b)) e h :=
  ⟨fun h => by cases h with | xagain h => exact h | xagain' h1 _ => exact absurd rfl h1, .xagain⟩
theorem exit_again_ret {K : List Frm} {b : Code} {e : Env} {h : Heap} : Run P ng sp Q (.again b :: K) (.exit .ret) e h ↔ Run P ng sp Q K (.exit .ret) e h := ⟨fun h => by cases h; assumption, .xagain' (by simp)⟩
theorem exit_again_exit {K : List Frm} {b : Code} {i : Nat} {e : Env} {h : Heap} : Run P ng sp Q (.again b :: K) (.exit (.exit i)) e h ↔ Run P ng sp Q K (.exit (.exit i)) e h := ⟨fun h => by cases h; assumption, .xagain' (by simp)⟩
theorem exit_again_goto {K : List Frm} {b : Code} {i : Nat} {e : Env} {h : Heap} : Run P ng sp Q (.again b :: K) (.exit (.goto i)) e h ↔ Run P ng sp Q K (.exit (.goto i)) e h := ⟨fun h => by cases h; assumption, .xagain' (by simp)⟩
theorem exit_again_pan {K : List Frm} {b : Code} {v : Value} {e : Env} {h : Heap} : Run P ng sp Q (.again b :: K) (.exit (.pan v)) e h ↔ Run P ng sp Q K (.exit (.pan v)) e h := ⟨fun h => by cases h; assumption, .xagain' (by simp)⟩
theorem exit_scope_normal {K : List Frm} {b : Code} {e : Env} {h : Heap} : Run P ng sp Q (.scope b :: K) (.exit .normal) e h ↔ Run P ng sp Q K (.exit .normal) e h := ⟨fun h => by cases h; assumption, .xscope' (by simp)⟩
theorem exit_scope_ret {K : List Frm} {b : Code} {e : Env} {h : Heap} : Run P ng sp Q (.scope b :: K) (.exit .ret) e h ↔ Run P ng sp Q K (.exit .ret) e h := ⟨fun h => by cases h; assumption, .xscope' (by simp)⟩
theorem exit_scope_exit {K : List Frm} {b : Code} {i : Nat} {e : Env} {h : Heap} : Run P ng sp Q (.scope b :: K) (.exit (.exit i)) e h ↔ Run P ng sp Q K (.exit (.exit i)) e h := ⟨fun h => by cases h; assumption, .xscope' (by simp)⟩
theorem exit_scope_pan {K : List Frm} {b : Code} {v : Value} {e : Env} {h : Heap} : Run P ng sp Q (.scope b :: K) (.exit (.pan v)) e h ↔ Run P ng sp Q K (.exit (.pan v)) e h := ⟨fun h => by cases h; assumption, .xscope' (by simp)⟩

/-- a loop, by a measure. -/
theorem run_loop {K : List Frm} {body : Code} (hm : (mapLoopOf body).isNone = true) (I : Nat → Env → Heap → Prop)
    (step : ∀ n e h, I n e h → (∀ n' e' h', n' < n → I n' e' h' → Run P ng sp Q K (.code (.loop body)) e' h') → Run P ng sp Q (.again body :: K) (.code body) e h) :
    ∀ (n : Nat) (e : Env) (h : Heap), I n e h → Run P ng sp Q K (.code (.loop body)) e h := by
  intro n
  induction n using Nat.strongRecOn with
  | _ n ih => exact fun e h hi => .loop hm (step n e h hi fun n' e' h' hn hi' => ih n' hn e' h' hi')
theorem run_unroll {K : List Frm} {body : Code} (hm : (mapLoopOf body).isNone = true) {e : Env} {h : Heap} (hr : Run P ng sp Q (.again body :: K) (.code body) e h) : Run P ng sp Q K (.code (.loop body)) e h := .loop hm hr

/- ## Operations -/
def RunV (P : Program) (ng : Nat) (sp : Special) (Q : AExit → Env → Heap → Prop) (K : List Frm) (c : Ctl) (d : Option Tmp) (x : Option Eff) (e : Env) (h : Heap) : Prop := ∃ f, x = some f ∧ Run P ng sp Q K c (e.put d f.val) (h.apply f)
theorem runV_ret {K : List Frm} {c : Ctl} {d : Option Tmp} {v : Value} {e : Env} {h : Heap} : RunV P ng sp Q K c d (ret v) e h ↔ Run P ng sp Q K c (e.put d v) h :=
  ⟨fun ⟨f, h1, h2⟩ => by cases h1; exact h2, fun h => ⟨_, rfl, h⟩⟩
theorem runV_some {K : List Frm} {c : Ctl} {d : Option Tmp} {f : Eff} {e : Env} {h : Heap} : RunV P ng sp Q K c d (some f) e h ↔ Run P ng sp Q K c (e.put d f.val) (h.apply f) :=
  ⟨fun ⟨f, h1, h2⟩ => by cases h1; exact h2, fun h => ⟨_, rfl, h⟩⟩
theorem runV_none {K : List Frm} {c : Ctl} {d : Option Tmp} {e : Env} {h : Heap} : RunV P ng sp Q K c d none e h ↔ False := ⟨fun ⟨_, h1, _⟩ => (by cases h1), False.elim⟩
theorem runV_if {K : List Frm} {c : Ctl} {d : Option Tmp} {x : Option Eff} {e : Env} {h : Heap} {p : Prop} [Decidable p] (hp : p) (hr : RunV P ng sp Q K c d x e h) : RunV P ng sp Q K c d (if p then x else none) e h := by rw [if_pos hp]; exact hr
/-- a call: c: control behind it; pa: may it panic? -/
def RunC (P : Program) (ng : Nat) (sp : Special) (Q : AExit → Env → Heap → Prop) (K : List Frm) (c : Ctl) (d : Option Tmp) (pa : Bool) (x : Option (FuncId × List Value)) (e : Env) (h : Heap) : Prop :=
  ∃ y, x = some y ∧ ∃ o h', EvF P ng sp y.1 y.2 h (o, h') ∧ (match o with
    | .ret v => Run P ng sp Q K c (e.put d v) h'
    | .pan v => pa = true ∧ Run P ng sp Q K (.exit (.pan v)) e h')
def AfterC (P : Program) (ng : Nat) (sp : Special) (Q : AExit → Env → Heap → Prop) (K : List Frm) (c : Ctl) (d : Option Tmp) (pa : Bool) (e : Env) (o : Out) (h' : Heap) : Prop := match o with
    | .ret v => Run P ng sp Q K c (e.put d v) h'
    | .pan v => pa = true ∧ Run P ng sp Q K (.exit (.pan v)) e h'
def WF (P : Program) (ng : Nat) (sp : Special) (f : FuncId) (args : List Value) (h : Heap) (R : Out → Heap → Prop) : Prop := ∃ o h', EvF P ng sp f args h (o, h') ∧ R o h'
theorem afterC_ret {K : List Frm} {c : Ctl} {d : Option Tmp} {pa : Bool} {e : Env} {v : Value} {h : Heap} : AfterC P ng sp Q K c d pa e (.ret v) h ↔ Run P ng sp Q K c (e.put d v) h := Iff.rfl
theorem afterC_pan {K : List Frm} {c : Ctl} {d : Option Tmp} {e : Env} {v : Value} {h : Heap} : AfterC P ng sp Q K c d true e (.pan v) h ↔ Run P ng sp Q K (.exit (.pan v)) e h := ⟨fun h => h.2, fun h => ⟨rfl, h⟩⟩
theorem runC_of {K : List Frm} {c : Ctl} {d : Option Tmp} {pa : Bool} {f : FuncId} {args : List Value} {e : Env} {h : Heap} (hf : WF P ng sp f args h (AfterC P ng sp Q K c d pa e)) : RunC P ng sp Q K c d pa (some (f, args)) e h := by
  obtain ⟨o, h', h1, h2⟩ := hf
  exact ⟨_, rfl, o, h', h1, h2⟩
theorem guardOk_none {all : List Oper} {e : Env} {o : Oper} (hg : o.guard = none) : guardOk all e o = true := by unfold guardOk; rw [hg]
theorem wanted_none {all : List Oper} {e : Env} {o : Oper} (hg : o.guard = none) : wantedA all e o = true := by unfold wantedA; rw [hg]
theorem plain_not_call {c : Call} (h1 : plainOp (.call c) = true) (h2 : isCallee c = true) : False := by
  obtain ⟨ce, as, ts⟩ := c
  cases ce <;> simp [plainOp, isCallee] at h1 h2
theorem run_plain {K : List Frm} {all r : List Oper} {o : Oper} {e : Env} {h : Heap} (hg : o.guard = none) (hp : plainOp o.op = true) :
    Run P ng sp Q K (.ops all (o :: r)) e h ↔ RunV P ng sp Q K (.ops all r) o.dst (eff P o.op e.eval h.get h.nx) e h := by
  constructor
  · intro hr
    cases hr with
    | oskip _ h2 _ => rw [wanted_none hg] at h2; cases h2
    | oeff _ _ _ h4 h5 => exact ⟨_, h4, h5⟩
    | ocall _ _ h3 h4 _ _ _ =>
      rw [h3] at hp
      exact (plain_not_call hp h4).elim
    | ocallp _ _ h3 h4 _ _ _ =>
      rw [h3] at hp
      exact (plain_not_call hp h4).elim
    | opanic _ _ h3 _ _ => rw [h3] at hp; simp [plainOp] at hp
  · rintro ⟨f, h1, h2⟩
    exact .oeff (guardOk_none hg) (wanted_none hg) hp h1 h2
theorem run_call {K : List Frm} {all r : List Oper} {o : Oper} {c : Call} {e : Env} {h : Heap} (hg : o.guard = none) (ho : o.op = .call c) (hc : isCallee c = true) :
    Run P ng sp Q K (.ops all (o :: r)) e h ↔ RunC P ng sp Q K (.ops all r) o.dst true (callee P c e.eval) e h := by
  constructor
  · intro hr
    cases hr with
    | oskip _ h2 _ => rw [wanted_none hg] at h2; cases h2
    | oeff _ _ h3 h4 h5 =>
      rw [ho] at h3
      exact (plain_not_call h3 hc).elim
    | ocall _ _ h3 h4 h5 h6 h7 =>
      have h3 := Op.call.inj (ho.symm.trans h3)
      subst h3
      exact ⟨_, h5, _, _, h6, h7⟩
    | ocallp _ _ h3 h4 h5 h6 h7 =>
      have h3 := Op.call.inj (ho.symm.trans h3)
      subst h3
      exact ⟨_, h5, _, _, h6, rfl, h7⟩
    | opanic _ _ h3 _ _ => rw [ho] at h3; cases h3
  · rintro ⟨y, h1, o', h', h2, h3⟩
    cases o' with
    | ret v => exact .ocall (guardOk_none hg) (wanted_none hg) ho hc h1 h2 h3
    | pan v => exact .ocallp (guardOk_none hg) (wanted_none hg) ho hc h1 h2 h3.2
theorem run_nil {K : List Frm} {all : List Oper} {e : Env} {h : Heap} : Run P ng sp Q K (.ops all []) e h ↔ Run P ng sp Q K (.exit .normal) e h := ⟨fun h => by cases h; assumption, .onil⟩
/-- a guard's value. -/
noncomputable def gval (all : List Oper) (e : Env) (j : Nat) : Value := match (all[j]?).bind (·.dst) with
  | some d => e.at d
  | none => topV
/-- an operation under a guard: its value is at hand. -/
def RunG (P : Program) (ng : Nat) (sp : Special) (Q : AExit → Env → Heap → Prop) (K : List Frm) (all r : List Oper) (o : Oper) (j : Nat) (v : Value) (e : Env) (h : Heap) : Prop := v = gval all e j ∧ Run P ng sp Q K (.ops all (o :: r)) e h
theorem guard_val {all : List Oper} {e : Env} {o : Oper} {j : Nat} {want b : Bool} (hg : o.guard = some (j, want)) (hv : gval all e j = .bool b) : guardOk all e o = true ∧ wantedA all e o = decide (b = want) := by
  unfold gval at hv
  unfold guardOk wantedA
  rw [hg]
  simp only
  split at hv
  · rename_i d hd
    rw [hd]
    simp only
    rw [hv]
    simp only
    refine ⟨trivial, ?_⟩
    cases b <;> cases want <;> rfl
  · cases hv
theorem run_guard {K : List Frm} {all r : List Oper} {d : Option Tmp} {op : Op} {t : TypeId} {p : String} {af : Array Edge} {j : Nat} {want : Bool} {e : Env} {h : Heap} :
    Run P ng sp Q K (.ops all (⟨d, op, t, p, af, some (j, want)⟩ :: r)) e h ↔ RunG P ng sp Q K all r ⟨d, op, t, p, af, some (j, want)⟩ j (gval all e j) e h := ⟨fun h => ⟨rfl, h⟩, fun h => h.2⟩
theorem runG_bool {K : List Frm} {all r : List Oper} {d : Option Tmp} {op : Op} {t : TypeId} {p : String} {af : Array Edge} {j : Nat} {want b : Bool} {e : Env} {h : Heap} :
    RunG P ng sp Q K all r ⟨d, op, t, p, af, some (j, want)⟩ j (.bool b) e h ↔ .bool b = gval all e j ∧ (if b = want then Run P ng sp Q K (.ops all (⟨d, op, t, p, af, none⟩ :: r)) e h else Run P ng sp Q K (.ops all r) (e.put d undef) h) := by
  refine and_congr_right fun hv => ?_
  obtain ⟨h1, h2⟩ := @guard_val all e ⟨d, op, t, p, af, some (j, want)⟩ j want b rfl hv.symm
  have hw := @wanted_none all e ⟨d, op, t, p, af, none⟩ rfl
  have hk := @guardOk_none all e ⟨d, op, t, p, af, none⟩ rfl
  by_cases hb : b = want
  · rw [if_pos hb]
    rw [decide_eq_true hb] at h2
    constructor
    · intro hr
      cases hr with
      | oskip _ h3 _ => rw [h2] at h3; cases h3
      | oeff _ _ h3 h4 h5 => exact .oeff hk hw h3 h4 h5
      | ocall _ _ h3 h4 h5 h6 h7 => exact .ocall hk hw h3 h4 h5 h6 h7
      | ocallp _ _ h3 h4 h5 h6 h7 => exact .ocallp hk hw h3 h4 h5 h6 h7
      | opanic _ _ h3 h4 h5 => exact .opanic hk hw h3 h4 h5
    · intro hr
      cases hr with
      | oskip _ h3 _ => rw [hw] at h3; cases h3
      | oeff _ _ h3 h4 h5 => exact .oeff h1 h2 h3 h4 h5
      | ocall _ _ h3 h4 h5 h6 h7 => exact .ocall h1 h2 h3 h4 h5 h6 h7
      | ocallp _ _ h3 h4 h5 h6 h7 => exact .ocallp h1 h2 h3 h4 h5 h6 h7
      | opanic _ _ h3 h4 h5 => exact .opanic h1 h2 h3 h4 h5
  · rw [if_neg hb]
    rw [decide_eq_false hb] at h2
    constructor
    · intro hr
      cases hr with
      | oskip _ _ h3 => exact h3
      | oeff _ h3 _ _ _ => rw [h2] at h3; cases h3
      | ocall _ h3 _ _ _ _ _ => rw [h2] at h3; cases h3
      | ocallp _ h3 _ _ _ _ _ => rw [h2] at h3; cases h3
      | opanic _ h3 _ _ _ => rw [h2] at h3; cases h3
    · exact fun hr => .oskip h1 h2 hr
theorem runG_true {K : List Frm} {all r : List Oper} {d : Option Tmp} {op : Op} {t : TypeId} {p : String} {af : Array Edge} {j : Nat} {want : Bool} {e : Env} {h : Heap} :
    RunG P ng sp Q K all r ⟨d, op, t, p, af, some (j, want)⟩ j (.bool true) e h ↔ .bool true = gval all e j ∧ (if true = want then Run P ng sp Q K (.ops all (⟨d, op, t, p, af, none⟩ :: r)) e h else Run P ng sp Q K (.ops all r) (e.put d undef) h) := runG_bool
theorem runG_false {K : List Frm} {all r : List Oper} {d : Option Tmp} {op : Op} {t : TypeId} {p : String} {af : Array Edge} {j : Nat} {want : Bool} {e : Env} {h : Heap} :
    RunG P ng sp Q K all r ⟨d, op, t, p, af, some (j, want)⟩ j (.bool false) e h ↔ .bool false = gval all e j ∧ (if false = want then Run P ng sp Q K (.ops all (⟨d, op, t, p, af, none⟩ :: r)) e h else Run P ng sp Q K (.ops all r) (e.put d undef) h) := runG_bool
theorem runG_dec {K : List Frm} {all r : List Oper} {o : Oper} {j : Nat} {e : Env} {h : Heap} {p : Prop} [Decidable p] (h1 : p → RunG P ng sp Q K all r o j (.bool true) e h) (h2 : ¬p → RunG P ng sp Q K all r o j (.bool false) e h) : RunG P ng sp Q K all r o j (.bool (decide p)) e h := by
  by_cases hp : p
  · rw [decide_eq_true hp]; exact h1 hp
  · rw [decide_eq_false hp]; exact h2 hp

/- ## Regions whose order is open -/
theorem run_draw {K : List Frm} {id : Nat} {ops : Array Oper} {ps : List (Nat × Nat)} {e : Env} {h : Heap} (ht : drawText ops = true) (hp : dynPairs ops.toList = ps) (hr : Run P ng sp Q K (.rcd ps ops.toList ops.toList []) e h) : Run P ng sp Q K (.code (.region id ops true)) e h := .draw ht hp hr
def RunVR (P : Program) (ng : Nat) (sp : Special) (Q : AExit → Env → Heap → Prop) (K : List Frm) (ps : List (Nat × Nat)) (all r : List Oper) (acc : List Did) (rd : List Nat) (d : Option Tmp) (x : Option Eff) (e : Env) (h : Heap) : Prop :=
  ∃ f, x = some f ∧ Run P ng sp Q K (.rcd ps all r (acc ++ [.eff rd f h.nx])) (e.put d f.val) (h.apply f)
theorem runVR_ret {K : List Frm} {ps : List (Nat × Nat)} {all r : List Oper} {acc : List Did} {rd : List Nat} {d : Option Tmp} {v : Value} {e : Env} {h : Heap} : RunVR P ng sp Q K ps all r acc rd d (ret v) e h ↔ Run P ng sp Q K (.rcd ps all r (acc ++ [.eff rd ⟨v, [], []⟩ h.nx])) (e.put d v) h :=
  ⟨fun ⟨f, h1, h2⟩ => by cases h1; exact h2, fun h => ⟨_, rfl, h⟩⟩
theorem runVR_some {K : List Frm} {ps : List (Nat × Nat)} {all r : List Oper} {acc : List Did} {rd : List Nat} {d : Option Tmp} {f : Eff} {e : Env} {h : Heap} : RunVR P ng sp Q K ps all r acc rd d (some f) e h ↔ Run P ng sp Q K (.rcd ps all r (acc ++ [.eff rd f h.nx])) (e.put d f.val) (h.apply f) :=
  ⟨fun ⟨f, h1, h2⟩ => by cases h1; exact h2, fun h => ⟨_, rfl, h⟩⟩
theorem rcd_plain {K : List Frm} {ps : List (Nat × Nat)} {all r : List Oper} {acc : List Did} {o : Oper} {e : Env} {h : Heap} (hg : o.guard = none) (hp : plainOp o.op = true) :
    Run P ng sp Q K (.rcd ps all (o :: r) acc) e h ↔ RunVR P ng sp Q K ps all r acc (foot o.op e.eval) o.dst (eff P o.op e.eval h.get h.nx) e h := by
  constructor
  · intro hr
    cases hr with
    | rskip _ h2 _ => rw [wanted_none hg] at h2; cases h2
    | reff _ _ _ h4 h5 => exact ⟨_, h4, h5⟩
    | rcall _ _ h3 h4 _ _ _ =>
      rw [h3] at hp
      exact (plain_not_call hp h4).elim
  · rintro ⟨f, h1, h2⟩
    exact .reff (guardOk_none hg) (wanted_none hg) hp h1 h2
def AfterR (P : Program) (ng : Nat) (sp : Special) (Q : AExit → Env → Heap → Prop) (K : List Frm) (ps : List (Nat × Nat)) (all r : List Oper) (acc : List Did) (d : Option Tmp) (e : Env) (h : Heap) (o : Out) (h' : Heap) : Prop := match o with
    | .ret v => Run P ng sp Q K (.rcd ps all r (acc ++ [.call h h'])) (e.put d v) h'
    | .pan _ => False
theorem afterR_ret {K : List Frm} {ps : List (Nat × Nat)} {all r : List Oper} {acc : List Did} {d : Option Tmp} {e : Env} {v : Value} {h h' : Heap} : AfterR P ng sp Q K ps all r acc d e h (.ret v) h' ↔ Run P ng sp Q K (.rcd ps all r (acc ++ [.call h h'])) (e.put d v) h' := Iff.rfl
def RunCR (P : Program) (ng : Nat) (sp : Special) (Q : AExit → Env → Heap → Prop) (K : List Frm) (ps : List (Nat × Nat)) (all r : List Oper) (acc : List Did) (d : Option Tmp) (x : Option (FuncId × List Value)) (e : Env) (h : Heap) : Prop :=
  ∃ y, x = some y ∧ WF P ng sp y.1 y.2 h (AfterR P ng sp Q K ps all r acc d e h)
theorem runCR_of {K : List Frm} {ps : List (Nat × Nat)} {all r : List Oper} {acc : List Did} {d : Option Tmp} {f : FuncId} {args : List Value} {e : Env} {h : Heap} (hf : WF P ng sp f args h (AfterR P ng sp Q K ps all r acc d e h)) : RunCR P ng sp Q K ps all r acc d (some (f, args)) e h := ⟨_, rfl, hf⟩
theorem rcd_call {K : List Frm} {ps : List (Nat × Nat)} {all r : List Oper} {acc : List Did} {o : Oper} {c : Call} {e : Env} {h : Heap} (hg : o.guard = none) (ho : o.op = .call c) (hc : isCallee c = true) :
    Run P ng sp Q K (.rcd ps all (o :: r) acc) e h ↔ RunCR P ng sp Q K ps all r acc o.dst (callee P c e.eval) e h := by
  constructor
  · intro hr
    cases hr with
    | rskip _ h2 _ => rw [wanted_none hg] at h2; cases h2
    | reff _ _ h3 h4 h5 =>
      rw [ho] at h3
      exact (plain_not_call h3 hc).elim
    | rcall _ _ h3 h4 h5 h6 h7 =>
      have h3 := Op.call.inj (ho.symm.trans h3)
      subst h3
      exact ⟨_, h5, _, _, h6, h7⟩
  · rintro ⟨y, h1, o', h', h2, h3⟩
    cases o' with
    | ret v => exact .rcall (guardOk_none hg) (wanted_none hg) ho hc h1 h2 h3
    | pan v => exact h3.elim
theorem rcd_nil {K : List Frm} {ps : List (Nat × Nat)} {all : List Oper} {acc : List Did} {e : Env} {h : Heap} : Run P ng sp Q K (.rcd ps all [] acc) e h ↔ didsOk ps acc = true ∧ Run P ng sp Q K (.exit .normal) e h := ⟨fun h => by cases h with | rnil h1 h2 => exact ⟨h1, h2⟩, fun h => .rnil h.1 h.2⟩
def RunGR (P : Program) (ng : Nat) (sp : Special) (Q : AExit → Env → Heap → Prop) (K : List Frm) (ps : List (Nat × Nat)) (all r : List Oper) (acc : List Did) (o : Oper) (j : Nat) (v : Value) (e : Env) (h : Heap) : Prop := v = gval all e j ∧ Run P ng sp Q K (.rcd ps all (o :: r) acc) e h
theorem rcd_guard {K : List Frm} {ps : List (Nat × Nat)} {all r : List Oper} {acc : List Did} {d : Option Tmp} {op : Op} {t : TypeId} {p : String} {af : Array Edge} {j : Nat} {want : Bool} {e : Env} {h : Heap} :
    Run P ng sp Q K (.rcd ps all (⟨d, op, t, p, af, some (j, want)⟩ :: r) acc) e h ↔ RunGR P ng sp Q K ps all r acc ⟨d, op, t, p, af, some (j, want)⟩ j (gval all e j) e h := ⟨fun h => ⟨rfl, h⟩, fun h => h.2⟩
theorem runGR_bool {K : List Frm} {ps : List (Nat × Nat)} {all r : List Oper} {acc : List Did} {d : Option Tmp} {op : Op} {t : TypeId} {p : String} {af : Array Edge} {j : Nat} {want b : Bool} {e : Env} {h : Heap} :
    RunGR P ng sp Q K ps all r acc ⟨d, op, t, p, af, some (j, want)⟩ j (.bool b) e h ↔ .bool b = gval all e j ∧ (if b = want then Run P ng sp Q K (.rcd ps all (⟨d, op, t, p, af, none⟩ :: r) acc) e h else Run P ng sp Q K (.rcd ps all r (acc ++ [.skip])) (e.put d undef) h) := by
  refine and_congr_right fun hv => ?_
  obtain ⟨h1, h2⟩ := @guard_val all e ⟨d, op, t, p, af, some (j, want)⟩ j want b rfl hv.symm
  have hw := @wanted_none all e ⟨d, op, t, p, af, none⟩ rfl
  have hk := @guardOk_none all e ⟨d, op, t, p, af, none⟩ rfl
  by_cases hb : b = want
  · rw [if_pos hb]
    rw [decide_eq_true hb] at h2
    constructor
    · intro hr
      cases hr with
      | rskip _ h3 _ => rw [h2] at h3; cases h3
      | reff _ _ h3 h4 h5 => exact .reff hk hw h3 h4 h5
      | rcall _ _ h3 h4 h5 h6 h7 => exact .rcall hk hw h3 h4 h5 h6 h7
    · intro hr
      cases hr with
      | rskip _ h3 _ => rw [hw] at h3; cases h3
      | reff _ _ h3 h4 h5 => exact .reff h1 h2 h3 h4 h5
      | rcall _ _ h3 h4 h5 h6 h7 => exact .rcall h1 h2 h3 h4 h5 h6 h7
  · rw [if_neg hb]
    rw [decide_eq_false hb] at h2
    constructor
    · intro hr
      cases hr with
      | rskip _ _ h3 => exact h3
      | reff _ h3 _ _ _ => rw [h2] at h3; cases h3
      | rcall _ h3 _ _ _ _ _ => rw [h2] at h3; cases h3
    · exact fun hr => .rskip h1 h2 hr
theorem runGR_true {K : List Frm} {ps : List (Nat × Nat)} {all r : List Oper} {acc : List Did} {d : Option Tmp} {op : Op} {t : TypeId} {p : String} {af : Array Edge} {j : Nat} {want : Bool} {e : Env} {h : Heap} :
    RunGR P ng sp Q K ps all r acc ⟨d, op, t, p, af, some (j, want)⟩ j (.bool true) e h ↔ .bool true = gval all e j ∧ (if true = want then Run P ng sp Q K (.rcd ps all (⟨d, op, t, p, af, none⟩ :: r) acc) e h else Run P ng sp Q K (.rcd ps all r (acc ++ [.skip])) (e.put d undef) h) := runGR_bool
theorem runGR_false {K : List Frm} {ps : List (Nat × Nat)} {all r : List Oper} {acc : List Did} {d : Option Tmp} {op : Op} {t : TypeId} {p : String} {af : Array Edge} {j : Nat} {want : Bool} {e : Env} {h : Heap} :
    RunGR P ng sp Q K ps all r acc ⟨d, op, t, p, af, some (j, want)⟩ j (.bool false) e h ↔ .bool false = gval all e j ∧ (if false = want then Run P ng sp Q K (.rcd ps all (⟨d, op, t, p, af, none⟩ :: r) acc) e h else Run P ng sp Q K (.rcd ps all r (acc ++ [.skip])) (e.put d undef) h) := runGR_bool

/- ## Functions -/
/-- what a function's end must be. -/
def FnQ (P : Program) (rs : List ResultVar) (R : Out → Heap → Prop) : AExit → Env → Heap → Prop := fun ex e h => match ex with
  | .normal => ∃ v, resultV P e h rs = some v ∧ R (.ret v) h
  | .ret => ∃ v, resultV P e h rs = some v ∧ R (.ret v) h
  | .pan v => R (.pan v) h
  | _ => False
theorem fnQ_normal {rs : List ResultVar} {R : Out → Heap → Prop} {e : Env} {h : Heap} : FnQ P rs R .normal e h ↔ ∃ v, resultV P e h rs = some v ∧ R (.ret v) h := Iff.rfl
theorem fnQ_ret {rs : List ResultVar} {R : Out → Heap → Prop} {e : Env} {h : Heap} : FnQ P rs R .ret e h ↔ ∃ v, resultV P e h rs = some v ∧ R (.ret v) h := Iff.rfl
theorem fnQ_pan {rs : List ResultVar} {R : Out → Heap → Prop} {v : Value} {e : Env} {h : Heap} : FnQ P rs R (.pan v) e h ↔ R (.pan v) h := Iff.rfl
theorem wf_fn {f : FuncId} {fn : Func} {c : Code} {args : List Value} {h : Heap} {R : Out → Heap → Prop} (hs : (sp f).isNone = true) (hf : P.funcs[f]? = some fn) (hok : fnOk ng fn = true) (hb : fn.body = some c)
    (hr : Run P ng sp (FnQ P fn.results.toList R) [] (.code c) (storeL .leaf 0 args) h) : WF P ng sp f args h R := by
  obtain ⟨ex, e', h', ⟨N, hN⟩, hx⟩ := hr.sem
  have hx : FnQ P fn.results.toList R ex e' h' := hx
  have hs : sp f = none := by simpa using hs
  have key : ∀ o, (match some (ex, e', h') with
          | some (AExit.normal, e, h') => match resultV P e h' fn.results.toList with
            | some v => some (Out.ret v, h')
            | none => none
          | some (AExit.ret, e, h') => match resultV P e h' fn.results.toList with
            | some v => some (Out.ret v, h')
            | none => none
          | some (AExit.pan v, _, h') => some (Out.pan v, h')
          | _ => none) = some (o, h') → R o h' → WF P ng sp f args h R := by
    intro o ho hro
    refine ⟨o, h', ⟨N + 1, fun fu d h1 h2 => ?_⟩, hro⟩
    obtain ⟨d, rfl⟩ : ∃ k, d = k + 1 := ⟨d - 1, by omega⟩
    rw [acall_succ]
    unfold callF
    rw [hs, hf]
    simp only
    rw [hok, hb]
    simp only
    rw [hN fu d fu (by omega) (by omega) (by omega)]
    exact ho
  cases ex with
  | normal =>
    obtain ⟨v, h1, h2⟩ := hx
    exact key (.ret v) (by simp only [h1]) h2
  | ret =>
    obtain ⟨v, h1, h2⟩ := hx
    exact key (.ret v) (by simp only [h1]) h2
  | pan v => exact key (.pan v) rfl hx
  | exit i => exact hx.elim
  | goto l => exact hx.elim
theorem resultV_one (e : Env) (h : Heap) (t : Tmp) : resultV P e h [.tmp t] = some (e.at t) := rfl
theorem resultV_nil (e : Env) (h : Heap) : resultV P e h [] = some (.tuple #[]) := rfl
theorem resultV_two (e : Env) (h : Heap) (a b : ResultVar) (l : List ResultVar) : resultV P e h (a :: b :: l) = (resAll P e h (a :: b :: l)).map fun vs => .tuple vs.toArray := by
  unfold resultV
  simp only
  cases resAll P e h (a :: b :: l) <;> rfl
theorem resAll_nil (e : Env) (h : Heap) : resAll P e h [] = some [] := rfl
theorem resAll_tmp (e : Env) (h : Heap) (t : Tmp) (l : List ResultVar) : resAll P e h (.tmp t :: l) = (resAll P e h l).map fun vs => e.at t :: vs := by
  rw [resAll]
  show (match some (e.at t), resAll P e h l with | some v, some vs => some (v :: vs) | _, _ => none) = _
  cases resAll P e h l <;> rfl
theorem callee_func (f : FuncId) (as : Array Operand) (ts : Array TypeId) (e : Env) : callee P ⟨.value (.func f), as, ts⟩ e.eval = some (f, as.toList.map e.eval) := by
  unfold callee
  show some (f, [] ++ as.toList.map e.eval ++ []) = _
  simp
theorem callee_tmp (t : Tmp) (as : Array Operand) (ts : Array TypeId) (e : Env) : callee P ⟨.value (.tmp t), as, ts⟩ e.eval = (match e.at t with
    | .func (.func f) first captured => some (f, first.toList ++ as.toList.map e.eval ++ captured.toList)
    | _ => none) := rfl

/- ## Operations, one by one -/
section
variable (ρ : Operand → Value) (g : Nat → Option Blk) (nx : Nat)
theorem eff_move (x : Operand) : eff P (.move x) ρ g nx = ret (ρ x) := rfl
theorem eff_assign (x : Operand) : eff P (.assign x) ρ g nx = ret (ρ x) := rfl
theorem eff_pick (c a b : Operand) : eff P (.pick c a b) ρ g nx = effPick (ρ c) (ρ a) (ρ b) := rfl
theorem effPick_bool (t : Bool) (a b : Value) : effPick (.bool t) a b = ret (cond t a b) := rfl
theorem effPick_true (a b : Value) : effPick (.bool true) a b = ret a := rfl
theorem effPick_false (a b : Value) : effPick (.bool false) a b = ret b := rfl
theorem eff_alloc (t : TypeId) : eff P (.alloc t) ρ g nx = alY (bldT P t) t (zeroL P t) nx := effAlloc_eq t nx
theorem eff_box (t : TypeId) (x : Operand) : eff P (.box t x) ρ g nx = alX (cellsOf (ρ x)) nx := effBox_eq _ nx
theorem eff_load (t : TypeId) (a : Operand) : eff P (.load t a) ρ g nx = effLoad P t (ρ a) g := rfl
theorem eff_store (t : TypeId) (a x : Operand) : eff P (.store t a x) ρ g nx = effStore P t (ρ a) (ρ x) g := rfl
theorem eff_nil (x : Operand) : eff P (.nilCheck x) ρ g nx = effNil P (ρ x) := rfl
theorem effNil_ptr (a : Addr) : effNil P (.pointer (some a)) = ret (.pointer (some a)) := rfl
theorem effNil_ifc (t : TypeId) (v : Value) : effNil P (.iface t v) = ret (.iface t v) := rfl
theorem effNil_func (f : FuncId) (a b : Array Value) : effNil P (.func (.func f) a b) = ret (.func (.func f) a b) := rfl
theorem eff_bin (op : BinOp) (t : TypeId) (x y : Operand) (u : TypeId) : eff P (.binOp op t x y u) ρ g nx = effBin P op t x y (ρ x) (ρ y) g := rfl
theorem eff_un (op : UnOp) (t : TypeId) (x : Operand) : eff P (.unOp op t x) ρ g nx = effUn op (ρ x) := rfl
theorem eff_conv (s d : TypeId) (x : Operand) : eff P (.convert s d x) ρ g nx = effConv P s d (ρ x) g nx := rfl
theorem eff_ifc (t : TypeId) (x : Operand) : eff P (.makeInterface t x) ρ g nx = effIface P t (ρ x) := rfl
theorem eff_fun (fn : Fn) (a b : Array Operand) : eff P (.makeFunc fn a b) ρ g nx = ret (.func fn (a.map ρ) (b.map ρ)) := rfl
theorem eff_mks (t : TypeId) (l c : Operand) : eff P (.makeSlice t l c) ρ g nx = effMakeSlice P t (ρ l) (ρ c) nx := rfl
theorem eff_mkm (t : TypeId) : eff P (.makeMap t none) ρ g nx = some ⟨.map (some nx), [], [.map [] 0]⟩ := rfl
theorem eff_slice (t : TypeId) (x : Operand) (lo hi mx : Option Operand) : eff P (.slice t x lo hi mx) ρ g nx = effSlice P t (ρ x) (lo.map ρ) (hi.map ρ) (mx.map ρ) g := rfl
theorem eff_fieldAddr (t : TypeId) (x : Operand) (f : Nat) : eff P (.fieldAddr t x f) ρ g nx = effField P t (ρ x) f := rfl
theorem eff_field (t : TypeId) (x : Operand) (f : Nat) : eff P (.field t x f) ρ g nx = effFieldV P t (ρ x) f := rfl
theorem eff_indexAddr (t : TypeId) (x i : Operand) : eff P (.indexAddr t x i) ρ g nx = effIdx P t (ρ x) (ρ i) := rfl
theorem eff_index (t : TypeId) (x i : Operand) : eff P (.index t x i) ρ g nx = effIndex P t (ρ x) (ρ i) := rfl
theorem eff_lookup (t : TypeId) (m k : Operand) (ok : Bool) : eff P (.lookup t m k ok) ρ g nx = effLookup P t (ρ m) (ρ k) ok g := rfl
theorem eff_mapUpdate (t : TypeId) (m k x : Operand) : eff P (.mapUpdate t m k x) ρ g nx = effUpdate P t (ρ m) (ρ k) (ρ x) g := rfl
theorem eff_extract (t : Operand) (i : Nat) : eff P (.extract t i) ρ g nx = effExtract (ρ t) i := rfl
theorem effExtract_tuple (vs : Array Value) (i : Nat) : effExtract (.tuple vs) i = match vs.toList[i]? with
    | some v => if storable v then ret v else none
    | none => none := rfl
theorem eff_len (as : Array Operand) (ts : Array TypeId) (x : Operand) (h : as.toList = [x]) : eff P (.call ⟨.builtin .len, as, ts⟩) ρ g nx = aLen P ts (ρ x) g := by
  show builtinEff P .len ts (as.toList.map ρ) g nx = _
  rw [h]; rfl
theorem eff_append (as : Array Operand) (ts : Array TypeId) (x y : Operand) (h : as.toList = [x, y]) : eff P (.call ⟨.builtin .append, as, ts⟩) ρ g nx = aAppend P ts (ρ x) (ρ y) g nx := by
  show builtinEff P .append ts (as.toList.map ρ) g nx = _
  rw [h]; rfl
theorem eff_copy (as : Array Operand) (ts : Array TypeId) (x y : Operand) (h : as.toList = [x, y]) : eff P (.call ⟨.builtin .copy, as, ts⟩) ρ g nx = aCopy P ts (ρ x) (ρ y) g := by
  show builtinEff P .copy ts (as.toList.map ρ) g nx = _
  rw [h]; rfl
theorem eff_clear (as : Array Operand) (ts : Array TypeId) (x : Operand) (h : as.toList = [x]) : eff P (.call ⟨.builtin .clear, as, ts⟩) ρ g nx = aClear P ts (ρ x) g := by
  show builtinEff P .clear ts (as.toList.map ρ) g nx = _
  rw [h]; rfl
end
theorem storable_bool (b : Bool) : storable (.bool b) = true := rfl
theorem storable_int (k : IntKind) (n : Int) : storable (.int k n) = true := rfl
theorem storable_string (s : ByteArray) : storable (.string s) = true := rfl
theorem storable_pointer (a : Option Addr) : storable (.pointer a) = true := rfl
theorem storable_slice (a : Option Addr) (l c : Nat) : storable (.slice a l c) = true := rfl
theorem storable_agg (c : Array Value) : storable (.agg c) = true := rfl
theorem storable_iface (t : TypeId) (v : Value) : storable (.iface t v) = true := rfl
theorem storable_nilIface : storable .nilIface = true := rfl
end Go.AM
end
section
/- The rules for rewriting without conditions: facts of types are looked up. -/
namespace Go.AM
variable {P : Program} {ng : Nat} {sp : Special} {Q : AExit → Env → Heap → Prop}
theorem und_none {t : TypeId} (h : tyTag P t = 0) : P.underlying t = none := by
  unfold tyTag at h
  cases hu : P.underlying t with
  | none => rfl
  | some d =>
    rw [hu] at h
    cases d <;> simp at h
    split at h <;> simp at h
def tagD (P : Program) : TypeDesc → Nat
  | .bool => 1
  | .pointer _ => 2
  | .string => 3
  | .slice e => match P.underlying e with
    | some (.int .u8) => 5
    | _ => 4
  | .map _ _ => 6
  | .func _ _ _ => 7
  | .interface _ => 8
  | _ => 9
theorem tag_of {t : TypeId} {d : TypeDesc} (hu : P.underlying t = some d) : tyTag P t = tagD P d := by
  unfold tyTag tagD
  rw [hu]
  cases d <;> rfl
theorem u_eql_bool (t : TypeId) (x y : Operand) (a b : Bool) (g : Nat → Option Blk) : effBin P .eql t x y (.bool a) (.bool b) g = if tyTag P t = 1 then ret (.bool (a == b)) else none := by
  by_cases h : tyTag P t = 1
  · rw [if_pos h, effBin_eql_bool _ _ _ _ _ _ h]
  · rw [if_neg h]
    show (eqlV P t (.bool a) (.bool b) g).bind _ = _
    unfold eqlV
    cases hu : P.underlying t with
    | none => rfl
    | some d => have := tag_of hu; cases d <;> first | rfl | exact absurd this h
theorem u_neq_bool (t : TypeId) (x y : Operand) (a b : Bool) (g : Nat → Option Blk) : effBin P .neq t x y (.bool a) (.bool b) g = if tyTag P t = 1 then ret (.bool !(a == b)) else none := by
  by_cases h : tyTag P t = 1
  · rw [if_pos h, effBin_neq_bool _ _ _ _ _ _ h]
  · rw [if_neg h]
    show (eqlV P t (.bool a) (.bool b) g).bind _ = _
    unfold eqlV
    cases hu : P.underlying t with
    | none => rfl
    | some d => have := tag_of hu; cases d <;> first | rfl | exact absurd this h
theorem u_eql_ptr (t : TypeId) (x y : Operand) (a : Option Addr) (g : Nat → Option Blk) : effBin P .eql t x y (.pointer a) (.pointer none) g = if tyTag P t = 2 then ret (.bool a.isNone) else none := by
  by_cases h : tyTag P t = 2
  · rw [if_pos h, (effBin_ptr _ _ _ _ _ h).1]
  · rw [if_neg h]
    show (eqlV P t _ _ g).bind _ = _
    unfold eqlV
    cases hu : P.underlying t with
    | none => rfl
    | some d => have := tag_of hu; cases d <;> first | rfl | exact absurd this h
theorem u_neq_ptr (t : TypeId) (x y : Operand) (a : Option Addr) (g : Nat → Option Blk) : effBin P .neq t x y (.pointer a) (.pointer none) g = if tyTag P t = 2 then ret (.bool !a.isNone) else none := by
  by_cases h : tyTag P t = 2
  · rw [if_pos h, (effBin_ptr _ _ _ _ _ h).2.1]
  · rw [if_neg h]
    show (eqlV P t _ _ g).bind _ = _
    unfold eqlV
    cases hu : P.underlying t with
    | none => rfl
    | some d => have := tag_of hu; cases d <;> first | rfl | exact absurd this h
theorem u_eql_slc (t : TypeId) (x y : Operand) (a : Option Addr) (l c : Nat) (g : Nat → Option Blk) : effBin P .eql t x y (.slice a l c) (.slice none 0 0) g = if tyTag P t = 4 ∨ tyTag P t = 5 then ret (.bool a.isNone) else none := by
  by_cases h : tyTag P t = 4 ∨ tyTag P t = 5
  · rw [if_pos h, (effBin_slc _ _ _ _ _ _ _ h).1]
  · rw [if_neg h]
    show (eqlV P t _ _ g).bind _ = _
    unfold eqlV
    cases hu : P.underlying t with
    | none => rfl
    | some d =>
      have := tag_of hu
      cases d <;> first | rfl | skip
      exfalso
      have this : tyTag P t = (match P.underlying _ with
        | some (.int .u8) => 5
        | _ => 4) := this
      split at this
      · exact h (.inr this)
      · exact h (.inl this)
theorem u_neq_slc (t : TypeId) (x y : Operand) (a : Option Addr) (l c : Nat) (g : Nat → Option Blk) : effBin P .neq t x y (.slice a l c) (.slice none 0 0) g = if tyTag P t = 4 ∨ tyTag P t = 5 then ret (.bool !a.isNone) else none := by
  by_cases h : tyTag P t = 4 ∨ tyTag P t = 5
  · rw [if_pos h, (effBin_slc _ _ _ _ _ _ _ h).2]
  · rw [if_neg h]
    show (eqlV P t _ _ g).bind _ = _
    unfold eqlV
    cases hu : P.underlying t with
    | none => rfl
    | some d =>
      have := tag_of hu
      cases d <;> first | rfl | skip
      exfalso
      have this : tyTag P t = (match P.underlying _ with
        | some (.int .u8) => 5
        | _ => 4) := this
      split at this
      · exact h (.inr this)
      · exact h (.inl this)
theorem u_eql_ifc (t : TypeId) (x y : Operand) (a : TypeId) (v : Value) (g : Nat → Option Blk) : effBin P .eql t x y (.iface a v) .nilIface g = if tyTag P t = 8 then ret (.bool false) else none := by
  by_cases h : tyTag P t = 8
  · rw [if_pos h, (effBin_ifc _ _ _ _ _ _ h).1]
  · rw [if_neg h]
    show (eqlV P t _ _ g).bind _ = _
    unfold eqlV
    cases hu : P.underlying t with
    | none => rfl
    | some d => have := tag_of hu; cases d <;> first | rfl | exact absurd this h
theorem u_neq_ifc (t : TypeId) (x y : Operand) (a : TypeId) (v : Value) (g : Nat → Option Blk) : effBin P .neq t x y (.iface a v) .nilIface g = if tyTag P t = 8 then ret (.bool true) else none := by
  by_cases h : tyTag P t = 8
  · rw [if_pos h, (effBin_ifc _ _ _ _ _ _ h).2]
  · rw [if_neg h]
    show (eqlV P t _ _ g).bind _ = _
    unfold eqlV
    cases hu : P.underlying t with
    | none => rfl
    | some d => have := tag_of hu; cases d <;> first | rfl | exact absurd this h
def cvI (s : Option Bool) (d : Option IntKind) (tag : Nat) (n : Int) : Option Eff := match s, d with
  | some _, some k => ret (.int k (wrapF k n))
  | some _, none => if tag = 3 then ret (.string (Utf8.encode n)) else none
  | none, _ => none
theorem u_conv (s d : TypeId) (k : IntKind) (n : Int) (g : Nat → Option Blk) (nx : Nat) : effConv P s d (.int k n) g nx = cvI (tyA P s) (intK P d) (tyTag P d) n := by
  unfold effConv cvI tyA intK
  cases P.underlying s with
  | none => simp only [Option.map_none]
  | some ds =>
    simp only [Option.map_some]
    cases hu : P.underlying d with
    | none => simp [tyTag, hu]
    | some dd =>
      have := tag_of hu
      cases dd <;> simp only [this, tagD] <;> first | rfl | skip
      split <;> rfl
theorem cvI_int (b : Bool) (k : IntKind) (tag : Nat) (n : Int) : cvI (some b) (some k) tag n = ret (.int k (wrapF k n)) := rfl
theorem u_field (t : TypeId) (cs : Array Value) (f : Nat) : effFieldV P t (.agg cs) f = fvX (fldOf P t f) cs.toList := by
  by_cases hs : (fldOf P t f).isSome = true
  · exact effFieldV_eq t cs f hs
  · have hn : fldOf P t f = none := by simpa using hs
    rw [hn]
    unfold effFieldV
    unfold fldOf at hn
    cases hu : P.underlying t with
    | none => rfl
    | some d =>
      rw [hu] at hn
      cases d <;> first | rfl | skip
      rename_i fields
      simp only at hn ⊢
      cases hf : fields.toList[f]? with
      | none => rfl
      | some fd =>
        rw [hf] at hn
        simp only [Option.map_eq_none_iff] at hn
        simp only
        rw [aPart_eq]
        unfold tyA Program.underlying
        unfold sizeOf? at hn
        rw [Option.map_eq_none_iff] at hn
        rw [hn]
        rfl
def ivX (x : Option (Nat × Option Bool × Nat)) (ix : Value) (l : List Value) : Option Eff := match x with
  | some (n, g, s) => match idx ix n with
    | some i => fvX (some (i * s, g, s)) l
    | none => none
  | none => none
theorem ivX_some (n s : Nat) (g : Option Bool) (k : IntKind) (i : Int) (l : List Value) : ivX (some (n, g, s)) (.int k i) l = if 0 ≤ i ∧ i < n then fvX (some (i.toNat * s, g, s)) l else none := by
  unfold ivX
  simp only [idx_int]
  by_cases h : 0 ≤ i ∧ i < n
  · rw [if_pos h, if_pos h]
  · rw [if_neg h, if_neg h]
theorem u_index (t : TypeId) (cs : Array Value) (ix : Value) {n s : Nat} {g : Bool} (ht : arrOf P t = some (n, some g, s)) : effIndex P t (.agg cs) ix = ivX (some (n, some g, s)) ix cs.toList := by
  rw [effIndex_agg t cs ix ht]
  rfl
/-- the rest of a length. -/
def aLenO (P : Program) (ts : Array TypeId) (x : Value) (g : Nat → Option Blk) : Option Eff := aLen P ts x g
theorem u_len_slc (t : TypeId) (a : Option Addr) (n c : Nat) (g : Nat → Option Blk) : aLen P #[t] (.slice a n c) g = if tyTag P t = 4 ∨ tyTag P t = 5 then ret (.int .i64 n) else aLenO P #[t] (.slice a n c) g := by
  by_cases h : tyTag P t = 4 ∨ tyTag P t = 5
  · rw [if_pos h]
    obtain ⟨e, he⟩ : ∃ e, P.underlying t = some (.slice e) := by
      rcases h with h | h
      · exact (tag_eq h).2.2.2.1 (.inl rfl)
      · exact (tag_eq h).2.2.2.1 (.inr rfl)
    unfold aLen
    simp only [he]
  · rw [if_neg h]; rfl
theorem u_len_str (t : TypeId) (s : ByteArray) (g : Nat → Option Blk) : aLen P #[t] (.string s) g = if tyTag P t = 3 then ret (.int .i64 s.size) else aLenO P #[t] (.string s) g := by
  by_cases h : tyTag P t = 3
  · rw [if_pos h, eff_len_str _ t s g rfl h]
  · rw [if_neg h]; rfl
def mlX (x : Option Blk) : Option Eff := match x with
  | some (.map es _) => ret (.int .i64 es.length)
  | _ => none
theorem u_len_map (t : TypeId) (r : Nat) (g : Nat → Option Blk) : aLen P #[t] (.map (some r)) g = if tyTag P t = 6 then mlX (g r) else aLenO P #[t] (.map (some r)) g := by
  by_cases h : tyTag P t = 6
  · rw [if_pos h, eff_len_map _ t r g rfl h]; rfl
  · rw [if_neg h]; rfl
theorem mlX_some (es : List (Value × Value × Nat)) (c : Nat) : mlX (some (.map es c)) = ret (.int .i64 es.length) := rfl
section
variable (ρ : Operand → Value) (g : Nat → Option Blk) (nx : Nat)
theorem u_len (ts : Array TypeId) (x : Operand) : eff P (.call ⟨.builtin .len, #[x], ts⟩) ρ g nx = aLen P ts (ρ x) g := rfl
theorem u_append (ts : Array TypeId) (x y : Operand) : eff P (.call ⟨.builtin .append, #[x, y], ts⟩) ρ g nx = aAppend P ts (ρ x) (ρ y) g nx := rfl
theorem u_copy (ts : Array TypeId) (x y : Operand) : eff P (.call ⟨.builtin .copy, #[x, y], ts⟩) ρ g nx = aCopy P ts (ρ x) (ρ y) g := rfl
theorem u_clear (ts : Array TypeId) (x : Operand) : eff P (.call ⟨.builtin .clear, #[x], ts⟩) ρ g nx = aClear P ts (ρ x) g := rfl
theorem u_delete (ts : Array TypeId) (x y : Operand) : eff P (.call ⟨.builtin .delete, #[x, y], ts⟩) ρ g nx = aDelete P ts (ρ x) (ρ y) g := rfl
theorem u_min (ts : Array TypeId) (x y : Operand) : eff P (.call ⟨.builtin .min, #[x, y], ts⟩) ρ g nx = builtinEff P .min ts [ρ x, ρ y] g nx := rfl
theorem u_max (ts : Array TypeId) (x y : Operand) : eff P (.call ⟨.builtin .max, #[x, y], ts⟩) ρ g nx = builtinEff P .max ts [ρ x, ρ y] g nx := rfl
end
theorem u_min2 (ts : Array TypeId) (k : IntKind) (a b : Int) (g : Nat → Option Blk) (nx : Nat) : builtinEff P .min ts [.int k a, .int k b] g nx = ret (.int k (if b < a then b else a)) := by
  show ret (.int k (cond (ltI b a) b a)) = _
  rw [ltI_eq]
  by_cases h : b < a
  · rw [if_pos h, decide_eq_true h]; rfl
  · rw [if_neg h, decide_eq_false h]; rfl
theorem u_max2 (ts : Array TypeId) (k : IntKind) (a b : Int) (g : Nat → Option Blk) (nx : Nat) : builtinEff P .max ts [.int k a, .int k b] g nx = ret (.int k (if a < b then b else a)) := by
  show ret (.int k (cond (ltI a b) b a)) = _
  rw [ltI_eq]
  by_cases h : a < b
  · rw [if_pos h, decide_eq_true h]; rfl
  · rw [if_neg h, decide_eq_false h]; rfl
theorem stX_exact (b off : Nat) (v : Value) (l : List Value) : stX b off (some [v]) (some 1) (some (cellsB l .exact)) = if off < l.length then some ⟨undef, [(b, cellsB (l.set off v) .exact)], []⟩ else none := stX_one b off v l .exact (by simp)
theorem stX_loose (b off e : Nat) (v : Value) (l : List Value) : stX b off (some [v]) (some 1) (some (cellsB l (.loose e))) = if off < l.length then some ⟨undef, [(b, cellsB (l.set off v) (.loose e))], []⟩ else none := stX_one b off v l (.loose e) (by simp)
theorem stX_bytes (b off : Nat) (v : Value) (l : List Value) : stX b off (some [v]) (some 1) (some (cellsB l .bytes)) = if off < l.length then some ⟨undef, [(b, cellsB (l.set off v) .bytes)], []⟩ else none := stX_one b off v l .bytes (by simp)
theorem stX_exactN (b off : Nat) (vs : List Value) (s : Nat) (l : List Value) : stX b off (some vs) (some s) (some (cellsB l .exact)) = if vs.length = s ∧ off + s ≤ l.length then some ⟨undef, [(b, cellsB (overL l off vs) .exact)], []⟩ else none := by
  rw [stX_eq]
  by_cases h : vs.length = s ∧ off + s ≤ l.length
  · rw [if_pos h, if_pos ⟨by simp, h⟩]
  · rw [if_neg h, if_neg (fun hh => h hh.2)]
noncomputable def sadX (x : Option Blk) (b off l m cap size : Nat) (mx : Bool) : Option (Option Addr) := match x with
  | some (.cells _ n k) =>
      match k with
      | .loose e => if off + cap * e = n ∧ mx = false then (if e = size then some (some ⟨b, off + l * size, none⟩) else none)
          else some (if m = l then some ⟨b, off, none⟩ else some ⟨b, off + l * size, none⟩)
      | .bytes => if off + cap = n ∧ mx = false then (if 1 = size then some (some ⟨b, off + l * size, none⟩) else none)
          else some (if m = l then some ⟨b, off, none⟩ else some ⟨b, off + l * size, none⟩)
      | .own _ => if off + cap = n ∧ mx = false then (if 1 = size then some (some ⟨b, off + l * size, none⟩) else none)
          else some (if m = l then some ⟨b, off, none⟩ else some ⟨b, off + l * size, none⟩)
      | _ => some (if m = l then some ⟨b, off, none⟩ else some ⟨b, off + l * size, none⟩)
  | _ => none
theorem u_sliceAddr (b off l m cap size : Nat) (mx : Bool) (g : Nat → Option Blk) : sliceAddr (some ⟨b, off, none⟩) l m cap size mx g = sadX (g b) b off l m cap size mx := rfl
theorem sadX_exact (xs : List Value) (b off l m cap size : Nat) (mx : Bool) : sadX (some (cellsB xs .exact)) b off l m cap size mx = some (if m = l then some ⟨b, off, none⟩ else some ⟨b, off + l * size, none⟩) := rfl
theorem sadX_ro (xs : List Value) (b off l m cap size : Nat) (mx : Bool) : sadX (some (cellsB xs .ro)) b off l m cap size mx = some (if m = l then some ⟨b, off, none⟩ else some ⟨b, off + l * size, none⟩) := rfl
theorem sadX_loose (xs : List Value) (e b off l m cap size : Nat) (mx : Bool) : sadX (some (cellsB xs (.loose e))) b off l m cap size mx = if off + cap * e = xs.length ∧ mx = false then (if e = size then some (some ⟨b, off + l * size, none⟩) else none) else some (if m = l then some ⟨b, off, none⟩ else some ⟨b, off + l * size, none⟩) := rfl
noncomputable def fsX (x : Option Blk) (off n size : Nat) : Option (List Value) := match n with
  | 0 => some []
  | n + 1 => match x with
    | some (.cells xs m _) => if off + (n + 1) * size ≤ m then some (loadL xs off ((n + 1) * size)) else none
    | _ => none
theorem u_firstL (g : Nat → Option Blk) (size n b off l c : Nat) : firstL g size n (.slice (some ⟨b, off, none⟩) l c) = fsX (g b) off n size := by cases n <;> rfl
theorem fsX_some (xs : List Value) (k : Kind) (off n size : Nat) (h : off + n * size ≤ xs.length) : fsX (some (cellsB xs k)) off n size = some ((xs.drop off).take (n * size)) := by
  cases n with
  | zero => rw [Nat.zero_mul]; rfl
  | succ n =>
    unfold fsX cellsB
    simp only
    rw [if_pos h, loadL_ofList _ _ _ h]
theorem length_cellsB (l : List Value) (k : Kind) : ∀ n xs k', cellsB l k = .cells xs n k' → n = l.length := by
  intro n xs k' h
  unfold cellsB at h
  cases h
  rfl
theorem u_bounds (len cap : Nat) (lo hi : Option Value) : bounds len cap lo hi none = match bnd hi len cap with
    | none => none
    | some h => match bnd lo 0 h with
      | none => none
      | some l => if h ≤ cap then some (l, h, cap) else none := by
  unfold bounds
  simp only [bnd_none]
  rw [if_neg (by simp)]
  cases bnd hi len cap with
  | none => rfl
  | some h =>
    simp only
    cases bnd lo 0 h with
    | none => rfl
    | some l =>
      simp only
      by_cases hh : h ≤ cap
      · rw [show Nat.ble h cap = true from by simpa [Nat.ble_eq] using hh, if_pos hh]; rfl
      · rw [show Nat.ble h cap = false from by rw [← Bool.not_eq_true, Nat.ble_eq]; exact hh, if_neg hh]; rfl
end Go.AM
end
section
/- The steps of the small machine, an operation each. No condition. -/
namespace Go.AM
variable {P : Program} {ng : Nat} {sp : Special} {Q : AExit → Env → Heap → Prop} {K : List Frm} {all r : List Oper} {d : Option Tmp} {ty : TypeId} {p : String} {af : Array Edge} {e : Env} {h : Heap} {ps : List (Nat × Nat)} {acc : List Did}
theorem o_move (x : Operand) : Run P ng sp Q K (.ops all (⟨d, .move x, ty, p, af, none⟩ :: r)) e h ↔ Run P ng sp Q K (.ops all r) (e.put d (e.eval x)) h := (run_plain rfl rfl).trans runV_ret
theorem q_move (x : Operand) : Run P ng sp Q K (.rcd ps all (⟨d, .move x, ty, p, af, none⟩ :: r) acc) e h ↔ Run P ng sp Q K (.rcd ps all r (acc ++ [.eff [] ⟨e.eval x, [], []⟩ h.nx])) (e.put d (e.eval x)) h := (rcd_plain rfl rfl).trans runVR_ret
theorem o_assign (x : Operand) : Run P ng sp Q K (.ops all (⟨d, .assign x, ty, p, af, none⟩ :: r)) e h ↔ Run P ng sp Q K (.ops all r) (e.put d (e.eval x)) h := (run_plain rfl rfl).trans runV_ret
theorem q_assign (x : Operand) : Run P ng sp Q K (.rcd ps all (⟨d, .assign x, ty, p, af, none⟩ :: r) acc) e h ↔ Run P ng sp Q K (.rcd ps all r (acc ++ [.eff [] ⟨e.eval x, [], []⟩ h.nx])) (e.put d (e.eval x)) h := (rcd_plain rfl rfl).trans runVR_ret
theorem o_pick (c a b : Operand) : Run P ng sp Q K (.ops all (⟨d, .pick c a b, ty, p, af, none⟩ :: r)) e h ↔ RunV P ng sp Q K (.ops all r) d (effPick (e.eval c) (e.eval a) (e.eval b)) e h := run_plain rfl rfl
theorem q_pick (c a b : Operand) : Run P ng sp Q K (.rcd ps all (⟨d, .pick c a b, ty, p, af, none⟩ :: r) acc) e h ↔ RunVR P ng sp Q K ps all r acc (foot (.pick c a b) e.eval) d (effPick (e.eval c) (e.eval a) (e.eval b)) e h := rcd_plain rfl rfl
theorem o_alloc (t : TypeId) : Run P ng sp Q K (.ops all (⟨d, .alloc t, ty, p, af, none⟩ :: r)) e h ↔ RunV P ng sp Q K (.ops all r) d (effAlloc P t h.nx) e h := run_plain rfl rfl
theorem q_alloc (t : TypeId) : Run P ng sp Q K (.rcd ps all (⟨d, .alloc t, ty, p, af, none⟩ :: r) acc) e h ↔ RunVR P ng sp Q K ps all r acc (foot (.alloc t) e.eval) d (effAlloc P t h.nx) e h := rcd_plain rfl rfl
theorem o_box (t : TypeId) (x : Operand) : Run P ng sp Q K (.ops all (⟨d, .box t x, ty, p, af, none⟩ :: r)) e h ↔ RunV P ng sp Q K (.ops all r) d (alX (cellsOf (e.eval x)) h.nx) e h := run_plain rfl rfl
theorem q_box (t : TypeId) (x : Operand) : Run P ng sp Q K (.rcd ps all (⟨d, .box t x, ty, p, af, none⟩ :: r) acc) e h ↔ RunVR P ng sp Q K ps all r acc (foot (.box t x) e.eval) d (alX (cellsOf (e.eval x)) h.nx) e h := rcd_plain rfl rfl
theorem o_build (t : TypeId) (qs : Array (Nat × Operand)) : Run P ng sp Q K (.ops all (⟨d, .build t qs, ty, p, af, none⟩ :: r)) e h ↔ RunV P ng sp Q K (.ops all r) d ((aBuild P t (qs.toList.map fun x => (x.1, e.eval x.2))).bind fun a => ret (.agg a.toArray)) e h := run_plain rfl rfl
theorem q_build (t : TypeId) (qs : Array (Nat × Operand)) : Run P ng sp Q K (.rcd ps all (⟨d, .build t qs, ty, p, af, none⟩ :: r) acc) e h ↔ RunVR P ng sp Q K ps all r acc (foot (.build t qs) e.eval) d ((aBuild P t (qs.toList.map fun x => (x.1, e.eval x.2))).bind fun a => ret (.agg a.toArray)) e h := rcd_plain rfl rfl
theorem o_buildSlice (t : TypeId) (n : Nat) (qs : Array (Nat × Operand)) : Run P ng sp Q K (.ops all (⟨d, .buildSlice t n qs, ty, p, af, none⟩ :: r)) e h ↔ RunV P ng sp Q K (.ops all r) d (effBuildSlice P t n (qs.toList.map fun x => (x.1, e.eval x.2)) h.nx) e h := run_plain rfl rfl
theorem q_buildSlice (t : TypeId) (n : Nat) (qs : Array (Nat × Operand)) : Run P ng sp Q K (.rcd ps all (⟨d, .buildSlice t n qs, ty, p, af, none⟩ :: r) acc) e h ↔ RunVR P ng sp Q K ps all r acc (foot (.buildSlice t n qs) e.eval) d (effBuildSlice P t n (qs.toList.map fun x => (x.1, e.eval x.2)) h.nx) e h := rcd_plain rfl rfl
theorem o_load (t : TypeId) (a : Operand) : Run P ng sp Q K (.ops all (⟨d, .load t a, ty, p, af, none⟩ :: r)) e h ↔ RunV P ng sp Q K (.ops all r) d (effLoad P t (e.eval a) h.get) e h := run_plain rfl rfl
theorem q_load (t : TypeId) (a : Operand) : Run P ng sp Q K (.rcd ps all (⟨d, .load t a, ty, p, af, none⟩ :: r) acc) e h ↔ RunVR P ng sp Q K ps all r acc (foot (.load t a) e.eval) d (effLoad P t (e.eval a) h.get) e h := rcd_plain rfl rfl
theorem o_store (t : TypeId) (a x : Operand) : Run P ng sp Q K (.ops all (⟨d, .store t a x, ty, p, af, none⟩ :: r)) e h ↔ RunV P ng sp Q K (.ops all r) d (effStore P t (e.eval a) (e.eval x) h.get) e h := run_plain rfl rfl
theorem q_store (t : TypeId) (a x : Operand) : Run P ng sp Q K (.rcd ps all (⟨d, .store t a x, ty, p, af, none⟩ :: r) acc) e h ↔ RunVR P ng sp Q K ps all r acc (foot (.store t a x) e.eval) d (effStore P t (e.eval a) (e.eval x) h.get) e h := rcd_plain rfl rfl
theorem o_nilc (x : Operand) : Run P ng sp Q K (.ops all (⟨d, .nilCheck x, ty, p, af, none⟩ :: r)) e h ↔ RunV P ng sp Q K (.ops all r) d (effNil P (e.eval x)) e h := run_plain rfl rfl
theorem q_nilc (x : Operand) : Run P ng sp Q K (.rcd ps all (⟨d, .nilCheck x, ty, p, af, none⟩ :: r) acc) e h ↔ RunVR P ng sp Q K ps all r acc (foot (.nilCheck x) e.eval) d (effNil P (e.eval x)) e h := rcd_plain rfl rfl
theorem o_bin (op : BinOp) (t : TypeId) (x y : Operand) (u : TypeId) : Run P ng sp Q K (.ops all (⟨d, .binOp op t x y u, ty, p, af, none⟩ :: r)) e h ↔ RunV P ng sp Q K (.ops all r) d (effBin P op t x y (e.eval x) (e.eval y) h.get) e h := run_plain rfl rfl
theorem q_bin (op : BinOp) (t : TypeId) (x y : Operand) (u : TypeId) : Run P ng sp Q K (.rcd ps all (⟨d, .binOp op t x y u, ty, p, af, none⟩ :: r) acc) e h ↔ RunVR P ng sp Q K ps all r acc (foot (.binOp op t x y u) e.eval) d (effBin P op t x y (e.eval x) (e.eval y) h.get) e h := rcd_plain rfl rfl
theorem o_un (op : UnOp) (t : TypeId) (x : Operand) : Run P ng sp Q K (.ops all (⟨d, .unOp op t x, ty, p, af, none⟩ :: r)) e h ↔ RunV P ng sp Q K (.ops all r) d (effUn op (e.eval x)) e h := run_plain rfl rfl
theorem q_un (op : UnOp) (t : TypeId) (x : Operand) : Run P ng sp Q K (.rcd ps all (⟨d, .unOp op t x, ty, p, af, none⟩ :: r) acc) e h ↔ RunVR P ng sp Q K ps all r acc (foot (.unOp op t x) e.eval) d (effUn op (e.eval x)) e h := rcd_plain rfl rfl
theorem o_conv (s t : TypeId) (x : Operand) : Run P ng sp Q K (.ops all (⟨d, .convert s t x, ty, p, af, none⟩ :: r)) e h ↔ RunV P ng sp Q K (.ops all r) d (effConv P s t (e.eval x) h.get h.nx) e h := run_plain rfl rfl
theorem q_conv (s t : TypeId) (x : Operand) : Run P ng sp Q K (.rcd ps all (⟨d, .convert s t x, ty, p, af, none⟩ :: r) acc) e h ↔ RunVR P ng sp Q K ps all r acc (foot (.convert s t x) e.eval) d (effConv P s t (e.eval x) h.get h.nx) e h := rcd_plain rfl rfl
theorem o_arrp (t : TypeId) (x : Operand) : Run P ng sp Q K (.ops all (⟨d, .sliceToArrayPointer t x, ty, p, af, none⟩ :: r)) e h ↔ RunV P ng sp Q K (.ops all r) d (effArrPtr P t (e.eval x)) e h := run_plain rfl rfl
theorem q_arrp (t : TypeId) (x : Operand) : Run P ng sp Q K (.rcd ps all (⟨d, .sliceToArrayPointer t x, ty, p, af, none⟩ :: r) acc) e h ↔ RunVR P ng sp Q K ps all r acc (foot (.sliceToArrayPointer t x) e.eval) d (effArrPtr P t (e.eval x)) e h := rcd_plain rfl rfl
theorem o_ifc (t : TypeId) (x : Operand) : Run P ng sp Q K (.ops all (⟨d, .makeInterface t x, ty, p, af, none⟩ :: r)) e h ↔ RunV P ng sp Q K (.ops all r) d (effIface P t (e.eval x)) e h := run_plain rfl rfl
theorem q_ifc (t : TypeId) (x : Operand) : Run P ng sp Q K (.rcd ps all (⟨d, .makeInterface t x, ty, p, af, none⟩ :: r) acc) e h ↔ RunVR P ng sp Q K ps all r acc (foot (.makeInterface t x) e.eval) d (effIface P t (e.eval x)) e h := rcd_plain rfl rfl
theorem o_fun (f : Fn) (a b : Array Operand) : Run P ng sp Q K (.ops all (⟨d, .makeFunc f a b, ty, p, af, none⟩ :: r)) e h ↔ RunV P ng sp Q K (.ops all r) d (ret (.func f (a.map e.eval) (b.map e.eval))) e h := run_plain rfl rfl
theorem q_fun (f : Fn) (a b : Array Operand) : Run P ng sp Q K (.rcd ps all (⟨d, .makeFunc f a b, ty, p, af, none⟩ :: r) acc) e h ↔ RunVR P ng sp Q K ps all r acc (foot (.makeFunc f a b) e.eval) d (ret (.func f (a.map e.eval) (b.map e.eval))) e h := rcd_plain rfl rfl
theorem o_mkm (t : TypeId) : Run P ng sp Q K (.ops all (⟨d, .makeMap t none, ty, p, af, none⟩ :: r)) e h ↔ RunV P ng sp Q K (.ops all r) d (some ⟨.map (some h.nx), [], [.map [] 0]⟩) e h := run_plain rfl rfl
theorem q_mkm (t : TypeId) : Run P ng sp Q K (.rcd ps all (⟨d, .makeMap t none, ty, p, af, none⟩ :: r) acc) e h ↔ RunVR P ng sp Q K ps all r acc (foot (.makeMap t none) e.eval) d (some ⟨.map (some h.nx), [], [.map [] 0]⟩) e h := rcd_plain rfl rfl
theorem o_mks (t : TypeId) (l c : Operand) : Run P ng sp Q K (.ops all (⟨d, .makeSlice t l c, ty, p, af, none⟩ :: r)) e h ↔ RunV P ng sp Q K (.ops all r) d (effMakeSlice P t (e.eval l) (e.eval c) h.nx) e h := run_plain rfl rfl
theorem q_mks (t : TypeId) (l c : Operand) : Run P ng sp Q K (.rcd ps all (⟨d, .makeSlice t l c, ty, p, af, none⟩ :: r) acc) e h ↔ RunVR P ng sp Q K ps all r acc (foot (.makeSlice t l c) e.eval) d (effMakeSlice P t (e.eval l) (e.eval c) h.nx) e h := rcd_plain rfl rfl
theorem o_slice (t : TypeId) (x : Operand) (lo hi mx : Option Operand) : Run P ng sp Q K (.ops all (⟨d, .slice t x lo hi mx, ty, p, af, none⟩ :: r)) e h ↔ RunV P ng sp Q K (.ops all r) d (effSlice P t (e.eval x) (lo.map e.eval) (hi.map e.eval) (mx.map e.eval) h.get) e h := run_plain rfl rfl
theorem q_slice (t : TypeId) (x : Operand) (lo hi mx : Option Operand) : Run P ng sp Q K (.rcd ps all (⟨d, .slice t x lo hi mx, ty, p, af, none⟩ :: r) acc) e h ↔ RunVR P ng sp Q K ps all r acc (foot (.slice t x lo hi mx) e.eval) d (effSlice P t (e.eval x) (lo.map e.eval) (hi.map e.eval) (mx.map e.eval) h.get) e h := rcd_plain rfl rfl
theorem o_fieldAddr (t : TypeId) (x : Operand) (f : Nat) : Run P ng sp Q K (.ops all (⟨d, .fieldAddr t x f, ty, p, af, none⟩ :: r)) e h ↔ RunV P ng sp Q K (.ops all r) d (effField P t (e.eval x) f) e h := run_plain rfl rfl
theorem q_fieldAddr (t : TypeId) (x : Operand) (f : Nat) : Run P ng sp Q K (.rcd ps all (⟨d, .fieldAddr t x f, ty, p, af, none⟩ :: r) acc) e h ↔ RunVR P ng sp Q K ps all r acc (foot (.fieldAddr t x f) e.eval) d (effField P t (e.eval x) f) e h := rcd_plain rfl rfl
theorem o_field (t : TypeId) (x : Operand) (f : Nat) : Run P ng sp Q K (.ops all (⟨d, .field t x f, ty, p, af, none⟩ :: r)) e h ↔ RunV P ng sp Q K (.ops all r) d (effFieldV P t (e.eval x) f) e h := run_plain rfl rfl
theorem q_field (t : TypeId) (x : Operand) (f : Nat) : Run P ng sp Q K (.rcd ps all (⟨d, .field t x f, ty, p, af, none⟩ :: r) acc) e h ↔ RunVR P ng sp Q K ps all r acc (foot (.field t x f) e.eval) d (effFieldV P t (e.eval x) f) e h := rcd_plain rfl rfl
theorem o_indexAddr (t : TypeId) (x i : Operand) : Run P ng sp Q K (.ops all (⟨d, .indexAddr t x i, ty, p, af, none⟩ :: r)) e h ↔ RunV P ng sp Q K (.ops all r) d (effIdx P t (e.eval x) (e.eval i)) e h := run_plain rfl rfl
theorem q_indexAddr (t : TypeId) (x i : Operand) : Run P ng sp Q K (.rcd ps all (⟨d, .indexAddr t x i, ty, p, af, none⟩ :: r) acc) e h ↔ RunVR P ng sp Q K ps all r acc (foot (.indexAddr t x i) e.eval) d (effIdx P t (e.eval x) (e.eval i)) e h := rcd_plain rfl rfl
theorem o_index (t : TypeId) (x i : Operand) : Run P ng sp Q K (.ops all (⟨d, .index t x i, ty, p, af, none⟩ :: r)) e h ↔ RunV P ng sp Q K (.ops all r) d (effIndex P t (e.eval x) (e.eval i)) e h := run_plain rfl rfl
theorem q_index (t : TypeId) (x i : Operand) : Run P ng sp Q K (.rcd ps all (⟨d, .index t x i, ty, p, af, none⟩ :: r) acc) e h ↔ RunVR P ng sp Q K ps all r acc (foot (.index t x i) e.eval) d (effIndex P t (e.eval x) (e.eval i)) e h := rcd_plain rfl rfl
theorem o_lookup (t : TypeId) (m k : Operand) (ok : Bool) : Run P ng sp Q K (.ops all (⟨d, .lookup t m k ok, ty, p, af, none⟩ :: r)) e h ↔ RunV P ng sp Q K (.ops all r) d (effLookup P t (e.eval m) (e.eval k) ok h.get) e h := run_plain rfl rfl
theorem q_lookup (t : TypeId) (m k : Operand) (ok : Bool) : Run P ng sp Q K (.rcd ps all (⟨d, .lookup t m k ok, ty, p, af, none⟩ :: r) acc) e h ↔ RunVR P ng sp Q K ps all r acc (foot (.lookup t m k ok) e.eval) d (effLookup P t (e.eval m) (e.eval k) ok h.get) e h := rcd_plain rfl rfl
theorem o_mapUpdate (t : TypeId) (m k x : Operand) : Run P ng sp Q K (.ops all (⟨d, .mapUpdate t m k x, ty, p, af, none⟩ :: r)) e h ↔ RunV P ng sp Q K (.ops all r) d (effUpdate P t (e.eval m) (e.eval k) (e.eval x) h.get) e h := run_plain rfl rfl
theorem q_mapUpdate (t : TypeId) (m k x : Operand) : Run P ng sp Q K (.rcd ps all (⟨d, .mapUpdate t m k x, ty, p, af, none⟩ :: r) acc) e h ↔ RunVR P ng sp Q K ps all r acc (foot (.mapUpdate t m k x) e.eval) d (effUpdate P t (e.eval m) (e.eval k) (e.eval x) h.get) e h := rcd_plain rfl rfl
theorem o_range (t : TypeId) (x : Operand) : Run P ng sp Q K (.ops all (⟨d, .range t x, ty, p, af, none⟩ :: r)) e h ↔ RunV P ng sp Q K (.ops all r) d (effRange P t (e.eval x) h.get h.nx) e h := run_plain rfl rfl
theorem q_range (t : TypeId) (x : Operand) : Run P ng sp Q K (.rcd ps all (⟨d, .range t x, ty, p, af, none⟩ :: r) acc) e h ↔ RunVR P ng sp Q K ps all r acc (foot (.range t x) e.eval) d (effRange P t (e.eval x) h.get h.nx) e h := rcd_plain rfl rfl
theorem o_next (x : Operand) (s : Bool) : Run P ng sp Q K (.ops all (⟨d, .next x s, ty, p, af, none⟩ :: r)) e h ↔ RunV P ng sp Q K (.ops all r) d (effNext (e.eval x) s h.get) e h := run_plain rfl rfl
theorem q_next (x : Operand) (s : Bool) : Run P ng sp Q K (.rcd ps all (⟨d, .next x s, ty, p, af, none⟩ :: r) acc) e h ↔ RunVR P ng sp Q K ps all r acc (foot (.next x s) e.eval) d (effNext (e.eval x) s h.get) e h := rcd_plain rfl rfl
theorem o_tassert (x : Operand) (t u : TypeId) (ok : Bool) : Run P ng sp Q K (.ops all (⟨d, .typeAssert x t u ok, ty, p, af, none⟩ :: r)) e h ↔ RunV P ng sp Q K (.ops all r) d (effAssert P (e.eval x) u ok) e h := run_plain rfl rfl
theorem q_tassert (x : Operand) (t u : TypeId) (ok : Bool) : Run P ng sp Q K (.rcd ps all (⟨d, .typeAssert x t u ok, ty, p, af, none⟩ :: r) acc) e h ↔ RunVR P ng sp Q K ps all r acc (foot (.typeAssert x t u ok) e.eval) d (effAssert P (e.eval x) u ok) e h := rcd_plain rfl rfl
theorem o_extract (x : Operand) (i : Nat) : Run P ng sp Q K (.ops all (⟨d, .extract x i, ty, p, af, none⟩ :: r)) e h ↔ RunV P ng sp Q K (.ops all r) d (effExtract (e.eval x) i) e h := run_plain rfl rfl
theorem q_extract (x : Operand) (i : Nat) : Run P ng sp Q K (.rcd ps all (⟨d, .extract x i, ty, p, af, none⟩ :: r) acc) e h ↔ RunVR P ng sp Q K ps all r acc (foot (.extract x i) e.eval) d (effExtract (e.eval x) i) e h := rcd_plain rfl rfl
theorem o_builtin (b : Builtin) (as : Array Operand) (ts : Array TypeId) : Run P ng sp Q K (.ops all (⟨d, .call ⟨.builtin b, as, ts⟩, ty, p, af, none⟩ :: r)) e h ↔ RunV P ng sp Q K (.ops all r) d (builtinEff P b ts (as.toList.map e.eval) h.get h.nx) e h := run_plain rfl rfl
theorem q_builtin (b : Builtin) (as : Array Operand) (ts : Array TypeId) : Run P ng sp Q K (.rcd ps all (⟨d, .call ⟨.builtin b, as, ts⟩, ty, p, af, none⟩ :: r) acc) e h ↔ RunVR P ng sp Q K ps all r acc (foot (.call ⟨.builtin b, as, ts⟩) e.eval) d (builtinEff P b ts (as.toList.map e.eval) h.get h.nx) e h := rcd_plain rfl rfl
theorem o_call (f : Operand) (as : Array Operand) (ts : Array TypeId) : Run P ng sp Q K (.ops all (⟨d, .call ⟨.value f, as, ts⟩, ty, p, af, none⟩ :: r)) e h ↔ RunC P ng sp Q K (.ops all r) d true (callee P ⟨.value f, as, ts⟩ e.eval) e h := run_call rfl rfl rfl
theorem o_invoke (f : Operand) (m : String) (as : Array Operand) (ts : Array TypeId) : Run P ng sp Q K (.ops all (⟨d, .call ⟨.invoke f m, as, ts⟩, ty, p, af, none⟩ :: r)) e h ↔ RunC P ng sp Q K (.ops all r) d true (callee P ⟨.invoke f m, as, ts⟩ e.eval) e h := run_call rfl rfl rfl
theorem q_callv (f : Operand) (as : Array Operand) (ts : Array TypeId) : Run P ng sp Q K (.rcd ps all (⟨d, .call ⟨.value f, as, ts⟩, ty, p, af, none⟩ :: r) acc) e h ↔ RunCR P ng sp Q K ps all r acc d (callee P ⟨.value f, as, ts⟩ e.eval) e h := rcd_call rfl rfl rfl
theorem q_invoke (f : Operand) (m : String) (as : Array Operand) (ts : Array TypeId) : Run P ng sp Q K (.rcd ps all (⟨d, .call ⟨.invoke f m, as, ts⟩, ty, p, af, none⟩ :: r) acc) e h ↔ RunCR P ng sp Q K ps all r acc d (callee P ⟨.invoke f m, as, ts⟩ e.eval) e h := rcd_call rfl rfl rfl
section
variable (g : Nat → Option Blk) (nx : Nat)
theorem b_len (ts : Array TypeId) (x : Value) : builtinEff P .len ts [x] g nx = aLen P ts x g := rfl
theorem b_append (ts : Array TypeId) (x y : Value) : builtinEff P .append ts [x, y] g nx = aAppend P ts x y g nx := rfl
theorem b_copy (ts : Array TypeId) (x y : Value) : builtinEff P .copy ts [x, y] g nx = aCopy P ts x y g := rfl
theorem b_clear (ts : Array TypeId) (x : Value) : builtinEff P .clear ts [x] g nx = aClear P ts x g := rfl
theorem b_delete (ts : Array TypeId) (x y : Value) : builtinEff P .delete ts [x, y] g nx = aDelete P ts x y g := rfl
end
end Go.AM
end
section
/- Words and their bits. Conditions: the numbers fit. -/
namespace Go.AM
theorem bits_u64 : IntKind.bits .u64 = 64 := rfl
theorem ofInt_toNat {a : Int} (h1 : 0 ≤ a) (h2 : a < 18446744073709551616) : (BitVec.ofInt 64 a).toNat = a.toNat := by
  rw [BitVec.toNat_ofInt]
  omega
theorem wrap_nat {n : Nat} (h : n < 18446744073709551616) : IntKind.u64.wrap (n : Int) = n := by
  unfold IntKind.wrap IntKind.signed IntKind.bits
  simp only [Bool.false_and, Bool.false_eq_true, if_false]
  omega
theorem and_u64 {a b : Int} (h1 : 0 ≤ a) (h2 : a < 18446744073709551616) (h3 : 0 ≤ b) (h4 : b < 18446744073709551616) : IntKind.u64.wrap ((BitVec.ofInt IntKind.u64.bits a &&& BitVec.ofInt IntKind.u64.bits b).toNat : Int) = ((a.toNat &&& b.toNat : Nat) : Int) := by
  show IntKind.u64.wrap ((BitVec.ofInt 64 a &&& BitVec.ofInt 64 b).toNat : Int) = ((a.toNat &&& b.toNat : Nat) : Int)
  rw [BitVec.toNat_and, ofInt_toNat h1 h2, ofInt_toNat h3 h4]
  refine wrap_nat ?_
  have : a.toNat &&& b.toNat ≤ a.toNat := Nat.and_le_left
  omega
theorem or_u64 {a b : Int} (h1 : 0 ≤ a) (h2 : a < 18446744073709551616) (h3 : 0 ≤ b) (h4 : b < 18446744073709551616) : IntKind.u64.wrap ((BitVec.ofInt IntKind.u64.bits a ||| BitVec.ofInt IntKind.u64.bits b).toNat : Int) = ((a.toNat ||| b.toNat : Nat) : Int) := by
  show IntKind.u64.wrap ((BitVec.ofInt 64 a ||| BitVec.ofInt 64 b).toNat : Int) = ((a.toNat ||| b.toNat : Nat) : Int)
  rw [BitVec.toNat_or, ofInt_toNat h1 h2, ofInt_toNat h3 h4]
  refine wrap_nat ?_
  exact Nat.or_lt_two_pow (n := 64) (by omega) (by omega)
/-- a without b's bits. -/
def without (a b : Nat) : Nat := (BitVec.ofNat 64 a &&& ~~~BitVec.ofNat 64 b).toNat
theorem without_lt (a b : Nat) : without a b < 18446744073709551616 := (BitVec.ofNat 64 a &&& ~~~BitVec.ofNat 64 b).isLt
theorem testBit_without {a b k : Nat} (ha : a < 18446744073709551616) : (without a b).testBit k = (a.testBit k && !(b.testBit k)) := by
  unfold without
  rw [← BitVec.getLsbD, BitVec.getLsbD_and, BitVec.getLsbD_not, BitVec.getLsbD_ofNat, BitVec.getLsbD_ofNat]
  by_cases hk : k < 64
  · simp [hk]
  · have : a.testBit k = false := Nat.testBit_lt_two_pow (Nat.lt_of_lt_of_le ha (Nat.pow_le_pow_right (n := 2) (by omega) (show 64 ≤ k by omega)))
    simp [hk, this]
theorem andNot_u64 {a b : Int} (h1 : 0 ≤ a) (h2 : a < 18446744073709551616) (h3 : 0 ≤ b) (h4 : b < 18446744073709551616) : IntKind.u64.wrap ((BitVec.ofInt IntKind.u64.bits a &&& ~~~BitVec.ofInt IntKind.u64.bits b).toNat : Int) = ((without a.toNat b.toNat : Nat) : Int) := by
  show IntKind.u64.wrap ((BitVec.ofInt 64 a &&& ~~~BitVec.ofInt 64 b).toNat : Int) = ((without a.toNat b.toNat : Nat) : Int)
  have e : ∀ c : Int, 0 ≤ c → c < 18446744073709551616 → BitVec.ofInt 64 c = BitVec.ofNat 64 c.toNat := by
    intro c hc hc'
    apply BitVec.eq_of_toNat_eq
    rw [ofInt_toNat hc hc', BitVec.toNat_ofNat]
    omega
  rw [e a h1 h2, e b h3 h4]
  exact wrap_nat (without_lt _ _)
/-- (under a name of its own: omega takes it as it is) -/
def shrN (p s : Nat) : Nat := p >>> s
theorem shrN_le (p s : Nat) : shrN p s ≤ p := Nat.shiftRight_le _ _
theorem shr_u64 {a s : Int} (h1 : 0 ≤ a) (hs : 0 ≤ s) (hs' : s < 64) : a.fdiv (2 ^ (min s.toNat IntKind.u64.bits)) = ((shrN a.toNat s.toNat : Nat) : Int) := by
  show a.fdiv (2 ^ (min s.toNat 64)) = ((shrN a.toNat s.toNat : Nat) : Int)
  obtain ⟨n, rfl⟩ := Int.eq_ofNat_of_zero_le h1
  obtain ⟨m, rfl⟩ := Int.eq_ofNat_of_zero_le hs
  unfold shrN
  rw [Int.toNat_natCast, Int.toNat_natCast, Nat.min_eq_left (by omega), Nat.shiftRight_eq_div_pow, Int.fdiv_eq_ediv_of_nonneg _ (by exact Int.le_of_lt (Int.pow_pos (by decide)))]
  norm_cast
/-- (likewise) -/
def bitN (s : Nat) : Nat := 2 ^ s
theorem bitN_lt {s : Nat} (h : s < 64) : bitN s < 18446744073709551616 := by
  have : (2 : Nat) ^ s < 2 ^ 64 := Nat.pow_lt_pow_right (by omega) h
  unfold bitN
  omega
theorem shl1_u64 {s : Int} (hs : 0 ≤ s) (hs' : s < 64) : wrapF .u64 (1 * 2 ^ (min s.toNat IntKind.u64.bits)) = ((bitN s.toNat : Nat) : Int) := by
  show wrapF .u64 (1 * 2 ^ (min s.toNat 64)) = ((2 ^ s.toNat : Nat) : Int)
  obtain ⟨m, rfl⟩ := Int.eq_ofNat_of_zero_le hs
  rw [Int.toNat_natCast, Nat.min_eq_left (by omega), Int.one_mul, wrapF_eq]
  have h : (2 : Nat) ^ m < 18446744073709551616 := by
    have : (2 : Nat) ^ m < 2 ^ 64 := Nat.pow_lt_pow_right (by omega) (by omega)
    omega
  have e : (2 : Int) ^ m = ((2 ^ m : Nat) : Int) := by norm_cast
  rw [e]
  exact wrap_nat h
theorem bit_eq (p s : Nat) : decide (((shrN p s &&& 1 : Nat) : Int) = 1) = p.testBit s := by
  unfold shrN
  rw [Nat.testBit, Nat.and_comm 1]
  have h : p >>> s &&& 1 = 0 ∨ p >>> s &&& 1 = 1 := by
    have : p >>> s &&& 1 = (p >>> s) % 2 := Nat.and_one_is_mod _
    omega
  rcases h with h | h <;> rw [h] <;> rfl
theorem shl1_nat {s : Nat} (hs : s < 64) : wrapF .u64 (1 * 2 ^ (min s IntKind.u64.bits)) = ((bitN s : Nat) : Int) := by
  have := shl1_u64 (s := (s : Int)) (by omega) (by omega)
  rwa [Int.toNat_natCast] at this
theorem shr_nat {a : Int} {s : Nat} (h1 : 0 ≤ a) (hs : s < 64) : a.fdiv (2 ^ (min s IntKind.u64.bits)) = ((shrN a.toNat s : Nat) : Int) := by
  have := shr_u64 (s := (s : Int)) h1 (by omega) (by omega)
  rwa [Int.toNat_natCast] at this
theorem testBit_two (s k : Nat) : (2 ^ s).testBit k = decide (s = k) := Nat.testBit_two_pow
theorem testBit_bitN (s k : Nat) : (bitN s).testBit k = decide (s = k) := testBit_two s k
theorem testBit_with (p s k : Nat) : (p ||| bitN s).testBit k = (p.testBit k || decide (s = k)) := by rw [Nat.testBit_or, testBit_bitN]
theorem with_lt {p s : Nat} (hp : p < 18446744073709551616) (hs : s < 64) : p ||| bitN s < 18446744073709551616 :=
  Nat.or_lt_two_pow (n := 64) hp (bitN_lt hs)
theorem testBit_drop {p : Nat} (hp : p < 18446744073709551616) (s k : Nat) : (without p (bitN s)).testBit k = (p.testBit k && !decide (s = k)) := by rw [testBit_without hp, testBit_bitN]
end Go.AM
end
section
/- More rules for rewriting: built values, results in cells, regions without open pairs, slices of interfaces' methods. No condition. -/
namespace Go.AM
variable {P : Program} {ng : Nat} {sp : Special} {Q : AExit → Env → Heap → Prop}
/-- of a struct: the zero's cells, the places of its fields. -/
def bldOf (P : Program) (t : TypeId) : Option (List Value × List (Nat × Nat)) := match P.underlying t, zeroL P t with
  | some (.struct fields), some z => if fields.toList.all fun f => (sizeOf? P f.type).isSome then some (z, fields.toList.map fun f => (f.offset, (sizeOf? P f.type).getD 0)) else none
  | some (.array _ e), some z => match sizeOf? P e with
    | some s => some (z, (List.range (z.length / s)).map fun i => (i * s, s))
    | none => none
  | _, _ => none
theorem fillL_congr {p q : Nat → Option (Nat × Nat)} : ∀ (parts : List (Nat × Value)) (cs : List Value), (∀ x ∈ parts, p x.1 = q x.1) → fillL p cs parts = fillL q cs parts := by
  intro parts
  induction parts with
  | nil => intro cs _; rfl
  | cons x r ih =>
    intro cs hx
    obtain ⟨i, v⟩ := x
    rw [fillL, fillL, hx (i, v) (List.mem_cons_self ..)]
    cases q i with
    | none => rfl
    | some y =>
      cases cellsOf v with
      | none => rfl
      | some vs => simp only; rw [ih _ fun x hx' => hx x (List.mem_cons_of_mem _ hx')]
/-- a struct is built. -/
theorem u_build {t : TypeId} {z : List Value} {fs : List (Nat × Nat)} (hb : bldOf P t = some (z, fs)) (parts : List (Nat × Value)) (hp : ∀ x ∈ parts, x.1 < fs.length) : aBuild P t parts = fillL (fun i => fs[i]?) z parts := by
  unfold aBuild
  unfold bldOf at hb
  cases hu : P.underlying t with
  | none => rw [hu] at hb; simp at hb
  | some d =>
    cases hz : zeroL P t with
    | none => rw [hu, hz] at hb; cases d <;> simp at hb
    | some z' =>
      rw [hu, hz] at hb
      cases d <;> first | (simp at hb; done) | skip
      · rename_i n e
        simp only at hb ⊢
        cases hs : sizeOf? P e with
        | none => rw [hs] at hb; simp at hb
        | some s =>
          rw [hs] at hb
          simp only [Option.some.injEq, Prod.mk.injEq] at hb
          obtain ⟨rfl, rfl⟩ := hb
          simp only
          refine fillL_congr parts _ fun x hx => ?_
          have := hp x hx
          rw [List.length_map, List.length_range] at this
          simp [this]
      · rename_i fields
        simp only at hb ⊢
        split at hb
        · rename_i hall
          simp only [Option.some.injEq, Prod.mk.injEq] at hb
          obtain ⟨rfl, rfl⟩ := hb
          rw [if_pos hall]
          refine fillL_congr parts _ fun x hx => ?_
          simp only [List.getElem?_map]
          cases hf : fields.toList[x.1]? with
          | none => rfl
          | some f =>
            simp only [Option.map_some]
            have := List.all_eq_true.1 hall f (List.mem_of_getElem? hf)
            obtain ⟨s, hs⟩ := Option.isSome_iff_exists.1 this
            rw [hs]; rfl
        · cases hb
def aBuildO (P : Program) (t : TypeId) (parts : List (Nat × Value)) : Option (List Value) := aBuild P t parts
/-- .. for rewriting. -/
theorem u_build' {t : TypeId} {z : List Value} {fs : List (Nat × Nat)} (hb : bldOf P t = some (z, fs)) (parts : List (Nat × Value)) : aBuild P t parts = if parts.all (fun x => Nat.blt x.1 fs.length) = true then fillL (fun i => fs[i]?) z parts else aBuildO P t parts := by
  split
  · rename_i h
    exact u_build hb parts fun x hx => by have := List.all_eq_true.1 h x hx; simpa [Nat.blt_eq] using this
  · rfl
theorem fillL_nil (p : Nat → Option (Nat × Nat)) (cs : List Value) : fillL p cs [] = some cs := rfl
def fillX (p : Nat → Option (Nat × Nat)) (cs : List Value) (r : List (Nat × Value)) (x : Option (Nat × Nat)) (vs : Option (List Value)) : Option (List Value) := match x, vs with
  | some (off, size), some vs => if vs.length = size ∧ off + size ≤ cs.length then fillL p (overL cs off vs) r else none
  | _, _ => none
theorem fillL_cons (p : Nat → Option (Nat × Nat)) (cs : List Value) (i : Nat) (v : Value) (r : List (Nat × Value)) : fillL p cs ((i, v) :: r) = fillX p cs r (p i) (cellsOf v) := rfl
theorem fillX_some (p : Nat → Option (Nat × Nat)) (cs : List Value) (r : List (Nat × Value)) (off size : Nat) (vs : List Value) : fillX p cs r (some (off, size)) (some vs) = if vs.length = size ∧ off + size ≤ cs.length then fillL p (overL cs off vs) r else none := rfl
theorem ret_val (v : Value) : (ret v).map (·.val) = some v := rfl
theorem resultV_cell (e : Env) (h : Heap) (a : Tmp) (t : TypeId) : resultV P e h [.cell a t] = (effLoad P t (e.at a) h.get).map (·.val) := by
  unfold resultV resOne
  simp only
  cases effLoad P t (e.at a) h.get <;> rfl
theorem resAll_cell (e : Env) (h : Heap) (a : Tmp) (t : TypeId) (l : List ResultVar) : resAll P e h (.cell a t :: l) = ((effLoad P t (e.at a) h.get).map (·.val)).bind fun v => (resAll P e h l).map fun vs => v :: vs := by
  rw [resAll]
  unfold resOne
  simp only
  cases effLoad P t (e.at a) h.get <;> cases resAll P e h l <;> rfl
theorem didsOk_nil (l : List Did) : didsOk [] l = true := rfl
theorem bind_some_agg (l : List Value) : (some l).bind (fun a => ret (.agg a.toArray)) = ret (.agg l.toArray) := rfl
theorem overL_mid (A Z B F : List Value) (h : F.length = Z.length) : overL (A ++ Z ++ B) A.length F = A ++ F ++ B := by
  unfold overL
  have h1 : (A ++ Z ++ B).take A.length = A := by rw [List.append_assoc, List.take_left']; rfl
  have h2 : (A ++ Z ++ B).drop (A.length + F.length) = B := by rw [List.drop_left']; simp [h]
  rw [h1, h2]
theorem repeatL_snoc (z : List Value) : ∀ n, repeatL z n ++ z = repeatL z (n + 1) := by
  intro n
  induction n with
  | zero => simp [repeatL_zero, repeatL_succ]
  | succ n ih => rw [repeatL_succ, List.append_assoc, ih, ← repeatL_succ]
/-- one more of many. -/
theorem overL_repeat (F Z : List Value) (i m : Nat) (hz : F.length = Z.length) : overL (repeatL F i ++ repeatL Z (m + 1)) (i * Z.length) F = repeatL F (i + 1) ++ repeatL Z m := by
  rw [repeatL_succ, ← List.append_assoc, show i * Z.length = (repeatL F i).length by rw [length_repeatL, hz], overL_mid _ _ _ _ hz, repeatL_snoc]
end Go.AM
end
section
/- Loops and joins: what a piece of code reaches is told once, and used behind it. No condition. -/
namespace Go.AM
variable {P : Program} {ng : Nat} {sp : Special} {Q : AExit → Env → Heap → Prop}
theorem Run.over {Q' : AExit → Env → Heap → Prop} {K0 K : List Frm} {x : Ctl} {e : Env} {h : Heap} (hr : Run P ng sp Q' K0 x e h) (hk : ∀ ex e h, Q' ex e h → Run P ng sp Q K (.exit ex) e h) : Run P ng sp Q (K0 ++ K) x e h := by
  induction hr with
  | done hq => exact hk _ _ _ hq
  | skip _ ih => exact .skip ih
  | label _ ih => exact .label ih
  | ret _ ih => exact .ret ih
  | goto _ ih => exact .goto ih
  | leave _ ih => exact .leave ih
  | seq _ ih => exact .seq ih
  | cond h1 _ ih => exact .cond h1 ih
  | block _ ih => exact .block ih
  | loop h1 _ ih => exact .loop h1 ih
  | scope _ ih => exact .scope ih
  | region _ ih => exact .region ih
  | draw h1 h2 _ ih => exact .draw h1 h2 ih
  | xseq _ ih => exact .xseq ih
  | xseq' h1 _ ih => exact .xseq' h1 ih
  | xblk _ ih => exact .xblk ih
  | xblk' h1 _ ih => exact .xblk' h1 ih
  | xagain _ ih => exact .xagain ih
  | xagain' h1 _ ih => exact .xagain' h1 ih
  | xscope h1 _ ih => exact .xscope h1 ih
  | xscope' h1 _ ih => exact .xscope' h1 ih
  | onil _ ih => exact .onil ih
  | oskip h1 h2 _ ih => exact .oskip h1 h2 ih
  | oeff h1 h2 h3 h4 _ ih => exact .oeff h1 h2 h3 h4 ih
  | ocall h1 h2 h3 h4 h5 h6 _ ih => exact .ocall h1 h2 h3 h4 h5 h6 ih
  | ocallp h1 h2 h3 h4 h5 h6 _ ih => exact .ocallp h1 h2 h3 h4 h5 h6 ih
  | opanic h1 h2 h3 h4 _ ih => exact .opanic h1 h2 h3 h4 ih
  | rnil h1 _ ih => exact .rnil h1 ih
  | rskip h1 h2 _ ih => exact .rskip h1 h2 ih
  | reff h1 h2 h3 h4 _ ih => exact .reff h1 h2 h3 h4 ih
  | rcall h1 h2 h3 h4 h5 h6 _ ih => exact .rcall h1 h2 h3 h4 h5 h6 ih
/-- a piece of code, and what is left when it is through. -/
theorem run_join {K : List Frm} {c : Code} {e : Env} {h : Heap} (J : AExit → Env → Heap → Prop) (h1 : ∀ Q' : AExit → Env → Heap → Prop, (∀ ex e' h', J ex e' h' → Q' ex e' h') → Run P ng sp Q' [] (.code c) e h)
    (h2 : ∀ ex e' h', J ex e' h' → Run P ng sp Q K (.exit ex) e' h') : Run P ng sp Q K (.code c) e h :=
  (h1 J fun _ _ _ hj => hj).over h2
theorem runB_join {K : List Frm} {a b : Code} {v : Value} {e : Env} {h : Heap} (J : AExit → Env → Heap → Prop) (h1 : ∀ Q' : AExit → Env → Heap → Prop, (∀ ex e' h', J ex e' h' → Q' ex e' h') → RunB P ng sp Q' [] a b v e h)
    (h2 : ∀ ex e' h', J ex e' h' → Run P ng sp Q K (.exit ex) e' h') : RunB P ng sp Q K a b v e h := by
  obtain ⟨t, ht, hr⟩ := h1 J fun _ _ _ hj => hj
  exact ⟨t, ht, hr.over h2⟩
/-- a loop: its head's invariant, and what is left behind it. -/
theorem run_loop2 {K : List Frm} {body : Code} (hm : (mapLoopOf body).isNone = true) (I : Nat → Env → Heap → Prop) (J : AExit → Env → Heap → Prop)
    (step : ∀ n e h, I n e h → ∀ Q' : AExit → Env → Heap → Prop, (∀ n' e' h', n' < n → I n' e' h' → Q' .normal e' h') → (∀ ex e' h', ex ≠ .normal → J ex e' h' → Q' ex e' h') → Run P ng sp Q' [] (.code body) e h)
    (n : Nat) (e : Env) (h : Heap) (hi : I n e h) (after : ∀ ex e' h', ex ≠ .normal → J ex e' h' → Run P ng sp Q K (.exit ex) e' h') : Run P ng sp Q K (.code (.loop body)) e h := by
  refine run_loop hm I (fun n e h hi ih => ?_) n e h hi
  refine (step n e h hi (fun ex e' h' => (ex = .normal ∧ ∃ n', n' < n ∧ I n' e' h') ∨ (ex ≠ .normal ∧ J ex e' h')) (fun n' e' h' h1 h2 => .inl ⟨rfl, n', h1, h2⟩) (fun ex e' h' h1 h2 => .inr ⟨h1, h2⟩)).over ?_
  rintro ex e' h' (⟨rfl, n', h1, h2⟩ | ⟨h1, h2⟩)
  · exact .xagain (ih n' e' h' h1 h2)
  · exact .xagain' h1 (after ex e' h' h1 h2)
end Go.AM
end
section
/- What was done in a region whose order is open, laid out for rewriting; appends to nothing. No condition but those named. -/
namespace Go.AM
variable {P : Program}
section
variable (ρ : Operand → Value)
theorem foot_load (t : TypeId) (a : Operand) : foot (.load t a) ρ = blkOf (ρ a) := by
  show [a].flatMap (fun x => blkOf (ρ x)) = _
  simp
theorem foot_store (t : TypeId) (a x : Operand) : foot (.store t a x) ρ = blkOf (ρ a) ++ blkOf (ρ x) := by
  show [a, x].flatMap (fun x => blkOf (ρ x)) = _
  simp
theorem foot_conv (s t : TypeId) (x : Operand) : foot (.convert s t x) ρ = blkOf (ρ x) := by
  show [x].flatMap (fun x => blkOf (ρ x)) = _
  simp
theorem foot_bin (op : BinOp) (t : TypeId) (x y : Operand) (u : TypeId) : foot (.binOp op t x y u) ρ = blkOf (ρ x) ++ blkOf (ρ y) := by
  show [x, y].flatMap (fun x => blkOf (ρ x)) = _
  simp
theorem foot_slice (t : TypeId) (x : Operand) : foot (.slice t x none none none) ρ = blkOf (ρ x) := by
  show [x].flatMap (fun x => blkOf (ρ x)) = _
  simp
theorem foot_build (t : TypeId) (qs : Array (Nat × Operand)) : foot (.build t qs) ρ = [] := rfl
theorem foot_mks (t : TypeId) (a b : Operand) : foot (.makeSlice t a b) ρ = [] := rfl
theorem foot_alloc (t : TypeId) : foot (.alloc t) ρ = [] := rfl
theorem foot_box (t : TypeId) (x : Operand) : foot (.box t x) ρ = [] := rfl
theorem foot_buildSlice (t : TypeId) (n : Nat) (qs : Array (Nat × Operand)) : foot (.buildSlice t n qs) ρ = [] := rfl
theorem foot_lookup (t : TypeId) (m k : Operand) (ok : Bool) : foot (.lookup t m k ok) ρ = blkOf (ρ m) ++ blkOf (ρ k) := by
  show [m, k].flatMap (fun x => blkOf (ρ x)) = _
  simp
end
theorem blkOf_ptr (b o : Nat) (s : Option _) : blkOf (.pointer (some ⟨b, o, s⟩)) = [b] := rfl
theorem blkOf_ptrn : blkOf (.pointer none) = [] := rfl
theorem blkOf_slice (b o l c : Nat) (s : Option _) : blkOf (.slice (some ⟨b, o, s⟩) l c) = [b] := rfl
theorem blkOf_slicen (l c : Nat) : blkOf (.slice none l c) = [] := rfl
theorem blkOf_int (k : IntKind) (n : Int) : blkOf (.int k n) = [] := rfl
theorem blkOf_bool (b : Bool) : blkOf (.bool b) = [] := rfl
theorem blkOf_string (s : ByteArray) : blkOf (.string s) = [] := rfl
noncomputable def pairOk (x y : Option Did) : Bool := match x, y with
  | some x, some y => swapOk x y
  | _, _ => true
theorem didsOk_cons (p : Nat × Nat) (ps : List (Nat × Nat)) (l : List Did) : didsOk (p :: ps) l = (pairOk l[p.1]? l[p.2]? && didsOk ps l) := rfl
theorem pairOk_some (x y : Did) : pairOk (some x) (some y) = swapOk x y := rfl
theorem swap_skip (y : Did) : swapOk .skip y = true := rfl
theorem swap_skip' (x : Did) : swapOk x .skip = true := by cases x <;> rfl
theorem swap_ee (r r' : List Nat) (f f' : Eff) (n n' : Nat) : swapOk (.eff r f n) (.eff r' f' n') = (disj (f.wr.map (·.1) ++ newIds n f.nw) (r' ++ (f'.wr.map (·.1) ++ newIds n' f'.nw)) && disj r (f'.wr.map (·.1) ++ newIds n' f'.nw)) := rfl
theorem swap_ce (r : List Nat) (f : Eff) (n : Nat) (h h' : Heap) : swapOk (.call h h') (.eff r f n) = (f.wr.isEmpty && r.all fun b => sameB (h.get b) (h'.get b)) := rfl
theorem swap_ec (r : List Nat) (f : Eff) (n : Nat) (h h' : Heap) : swapOk (.eff r f n) (.call h h') = (f.wr.isEmpty && f.nw.isEmpty && r.all fun b => sameB (h.get b) (h'.get b)) := rfl
theorem sameB_self (x : Option Blk) : sameB x x = true := sameB_of rfl
theorem newIds_nil (n : Nat) : newIds n [] = [] := rfl
theorem newIds_cons (n : Nat) (b : Blk) (r : List Blk) : newIds n (b :: r) = n :: newIds (n + 1) r := rfl
theorem disj_nil (b : List Nat) : disj [] b = true := rfl
theorem disj_nil' (a : List Nat) : disj a [] = true := by unfold disj; simp
theorem disj_cons (x : Nat) (a b : List Nat) : disj (x :: a) b = (!(b.any fun y => Nat.beq x y) && disj a b) := rfl
theorem nbeq_ne {a b : Nat} (h : a ≠ b) : Nat.beq a b = false := by rw [← Bool.not_eq_true, Nat.beq_eq]; exact h

/-- an empty row of its own: a new row. -/
theorem aAppend_empty {ts : Array TypeId} {z : List Value} {s mb : Nat} (ht : appT P ts = some (z, s, mb)) {b : Nat} (n : Nat) (x : Value) (g : Nat → Option Blk) (nx : Nat) (hb : g b = some (cellsB [] .exact)) (hx : lenV x = some n) (hn : n ≠ 0) (hsz : n * mb * 4 ≤ 2 ^ 40) {new : List Value} (hnew : firstL g s n x = some new) :
    aAppend P ts (.slice (some ⟨b, 0, none⟩) 0 0) x g nx = some ⟨.slice (some ⟨nx, 0, none⟩) n n, [], [cellsB new (.loose s)]⟩ := by
  rw [aAppend_unf (appT_ok ht) _ 0 0 n x g nx hx (by simpa using hsz) hnew, if_neg (by omega), firstL_slc g s 0 b 0 0 0 [] .exact hb (by simp)]
  simp only [Nat.zero_mul, List.drop_nil, List.take_nil, hb, Nat.zero_add, List.nil_append]
  unfold cellsB maybeRoom
  rfl
theorem aAppend_empty0 {ts : Array TypeId} {z : List Value} {s mb : Nat} (ht : appT P ts = some (z, s, mb)) {b : Nat} (x : Value) (g : Nat → Option Blk) (nx : Nat) (hb : g b = some (cellsB [] .exact)) (hx : lenV x = some 0) {new : List Value} (hnew : firstL g s 0 x = some new) (hl : new = []) :
    aAppend P ts (.slice (some ⟨b, 0, none⟩) 0 0) x g nx = some ⟨.slice (some ⟨b, 0, none⟩) 0 0, [(b, cellsB [] .exact)], []⟩ := by
  subst hl
  rw [aAppend_unf (appT_ok ht) _ 0 0 0 x g nx hx (by simp) hnew, if_pos (by omega)]
  simp only [hb]
  unfold cellsB
  simp [storeL_nil]
/-- a block that the heap had, cells by cells. -/
theorem u_buildSlice0 (t : TypeId) (nx : Nat) {z : List Value} {s mb : Nat} (h : mkOf P t = some (z, s, mb)) : effBuildSlice P t 0 [] nx = some ⟨.slice (some ⟨nx, 0, none⟩) 0 0, [], [cellsB [] .exact]⟩ := by
  unfold effBuildSlice
  unfold mkOf at h
  split at h <;> try (simp at h; done)
  rename_i e he
  split at h <;> try (simp at h; done)
  rename_i i z' hi hz
  split at h <;> try (simp at h; done)
  rename_i hl
  rw [he]
  simp only [sizeOf?, hi, Option.map_some, hz]
  rw [if_neg (by omega)]
  rfl
theorem Heap.get_new_at {h : Heap} (x : Blk) {b : Nat} (hb : b ≤ h.nx ∧ h.nx ≤ b) : (h.new x).get b = some x := by rw [Nat.le_antisymm hb.1 hb.2, Heap.get_new_same]
theorem overL_cs (x : Value) (l : List Value) (n : Nat) (vs : List Value) : overL (x :: l) (n + 1) vs = x :: overL l n vs := by
  unfold overL
  rw [List.take_succ_cons, show n + 1 + vs.length = (n + vs.length) + 1 by omega, List.drop_succ_cons]
  rfl
theorem overL_cz (x : Value) (l : List Value) (v : Value) (vs : List Value) : overL (x :: l) 0 (v :: vs) = v :: overL l 0 vs := by
  unfold overL
  simp only [List.take_zero, List.nil_append, List.length_cons, Nat.zero_add]
  rw [List.drop_succ_cons]
  rfl
end Go.AM
end
section
/- The rules for rewriting, tied together. No condition. -/
namespace Go.AM
theorem rb0 : type_of% (And.intro (And.intro (And.intro (And.intro (And.intro (@run_skip) (And.intro (@run_label) (@run_ret))) (And.intro (And.intro (@run_goto) (@run_leave)) (And.intro (@run_seq) (@run_block)))) (And.intro (And.intro (And.intro (@run_scope) (@run_region)) (And.intro (@run_cond) (@runB_true))) (And.intro (And.intro (@runB_false) (@exit_done)) (And.intro (@exit_seq_normal) (@exit_seq_ret))))) (And.intro (And.intro (And.intro (@exit_seq_exit) (And.intro (@exit_seq_goto) (@exit_seq_pan))) (And.intro (And.intro (@exit_blk_normal) (@exit_blk_ret)) (And.intro (@exit_blk_goto) (@exit_blk_pan)))) (And.intro (And.intro (And.intro (@exit_blk_exit) (@exit_again_normal)) (And.intro (@exit_again_ret) (@exit_again_exit))) (And.intro (And.intro (@exit_again_goto) (@exit_again_pan)) (And.intro (@exit_scope_normal) (@exit_scope_ret)))))) (And.intro (And.intro (And.intro (And.intro (@exit_scope_exit) (And.intro (@exit_scope_pan) (@run_nil))) (And.intro (And.intro (@run_guard) (@runG_true)) (And.intro (@runG_false) (@runV_ret)))) (And.intro (And.intro (And.intro (@runV_some) (@afterC_ret)) (And.intro (@rcd_nil) (@rcd_guard))) (And.intro (And.intro (@runGR_true) (@runGR_false)) (And.intro (@runVR_ret) (@runVR_some))))) (And.intro (And.intro (And.intro (@afterR_ret) (And.intro (@at_put) (@put_none))) (And.intro (And.intro (@at_args) (@eval_tmp)) (And.intro (@eval_const) (@eval_global)))) (And.intro (And.intro (And.intro (@eval_func) (@callee_func)) (And.intro (@callee_tmp) (@effPick_true))) (And.intro (And.intro (@effPick_false) (@effNil_ptr)) (And.intro (@effNil_ifc) (@effNil_func))))))) := And.intro (And.intro (And.intro (And.intro (And.intro (@run_skip) (And.intro (@run_label) (@run_ret))) (And.intro (And.intro (@run_goto) (@run_leave)) (And.intro (@run_seq) (@run_block)))) (And.intro (And.intro (And.intro (@run_scope) (@run_region)) (And.intro (@run_cond) (@runB_true))) (And.intro (And.intro (@runB_false) (@exit_done)) (And.intro (@exit_seq_normal) (@exit_seq_ret))))) (And.intro (And.intro (And.intro (@exit_seq_exit) (And.intro (@exit_seq_goto) (@exit_seq_pan))) (And.intro (And.intro (@exit_blk_normal) (@exit_blk_ret)) (And.intro (@exit_blk_goto) (@exit_blk_pan)))) (And.intro (And.intro (And.intro (@exit_blk_exit) (@exit_again_normal)) (And.intro (@exit_again_ret) (@exit_again_exit))) (And.intro (And.intro (@exit_again_goto) (@exit_again_pan)) (And.intro (@exit_scope_normal) (@exit_scope_ret)))))) (And.intro (And.intro (And.intro (And.intro (@exit_scope_exit) (And.intro (@exit_scope_pan) (@run_nil))) (And.intro (And.intro (@run_guard) (@runG_true)) (And.intro (@runG_false) (@runV_ret)))) (And.intro (And.intro (And.intro (@runV_some) (@afterC_ret)) (And.intro (@rcd_nil) (@rcd_guard))) (And.intro (And.intro (@runGR_true) (@runGR_false)) (And.intro (@runVR_ret) (@runVR_some))))) (And.intro (And.intro (And.intro (@afterR_ret) (And.intro (@at_put) (@put_none))) (And.intro (And.intro (@at_args) (@eval_tmp)) (And.intro (@eval_const) (@eval_global)))) (And.intro (And.intro (And.intro (@eval_func) (@callee_func)) (And.intro (@callee_tmp) (@effPick_true))) (And.intro (And.intro (@effPick_false) (@effNil_ptr)) (And.intro (@effNil_ifc) (@effNil_func))))))
theorem rb1 : type_of% (And.intro (And.intro (And.intro (And.intro (And.intro (@effExtract_tuple) (And.intro (@u_min2) (@u_max2))) (And.intro (And.intro (@u_len_slc) (@u_len_str)) (And.intro (@u_len_map) (@mlX_some)))) (And.intro (And.intro (And.intro (@effLoad_ptr) (@ldX_one)) (And.intro (@ldX_agg) (@effStore_ptr))) (And.intro (And.intro (@stX_exact) (@stX_loose)) (And.intro (@stX_bytes) (@opR_some))))) (And.intro (And.intro (And.intro (@effField_ptr) (And.intro (@fldX_some) (@addr_add))) (And.intro (And.intro (@effIdx_arr) (@ixA_some)) (And.intro (@effIdx_slc) (@ixS_some)))) (And.intro (And.intro (And.intro (@u_field) (@fvX_one)) (And.intro (@fvX_agg) (@ivX_some))) (And.intro (And.intro (@effBin_add) (@effBin_sub)) (And.intro (@effBin_mul) (@effBin_quo)))))) (And.intro (And.intro (And.intro (And.intro (@effBin_rem) (And.intro (@effBin_eql) (@effBin_neq))) (And.intro (And.intro (@effBin_lss) (@effBin_leq)) (And.intro (@effBin_gtr) (@effBin_geq)))) (And.intro (And.intro (And.intro (@effBin_shl) (@effBin_shr)) (And.intro (@effBin_and) (@effBin_or))) (And.intro (And.intro (@effBin_andNot) (@effUn_not)) (And.intro (@u_eql_bool) (@u_neq_bool))))) (And.intro (And.intro (And.intro (@u_eql_ptr) (And.intro (@u_neq_ptr) (@u_eql_slc))) (And.intro (And.intro (@u_neq_slc) (@u_eql_ifc)) (And.intro (@u_neq_ifc) (@u_conv)))) (And.intro (And.intro (And.intro (@cvI_int) (@alX_some)) (And.intro (@alY_false) (@effAlloc_eq))) (And.intro (And.intro (@cellsOf_bool) (@cellsOf_int)) (And.intro (@cellsOf_string) (@cellsOf_pointer))))))) := And.intro (And.intro (And.intro (And.intro (And.intro (@effExtract_tuple) (And.intro (@u_min2) (@u_max2))) (And.intro (And.intro (@u_len_slc) (@u_len_str)) (And.intro (@u_len_map) (@mlX_some)))) (And.intro (And.intro (And.intro (@effLoad_ptr) (@ldX_one)) (And.intro (@ldX_agg) (@effStore_ptr))) (And.intro (And.intro (@stX_exact) (@stX_loose)) (And.intro (@stX_bytes) (@opR_some))))) (And.intro (And.intro (And.intro (@effField_ptr) (And.intro (@fldX_some) (@addr_add))) (And.intro (And.intro (@effIdx_arr) (@ixA_some)) (And.intro (@effIdx_slc) (@ixS_some)))) (And.intro (And.intro (And.intro (@u_field) (@fvX_one)) (And.intro (@fvX_agg) (@ivX_some))) (And.intro (And.intro (@effBin_add) (@effBin_sub)) (And.intro (@effBin_mul) (@effBin_quo)))))) (And.intro (And.intro (And.intro (And.intro (@effBin_rem) (And.intro (@effBin_eql) (@effBin_neq))) (And.intro (And.intro (@effBin_lss) (@effBin_leq)) (And.intro (@effBin_gtr) (@effBin_geq)))) (And.intro (And.intro (And.intro (@effBin_shl) (@effBin_shr)) (And.intro (@effBin_and) (@effBin_or))) (And.intro (And.intro (@effBin_andNot) (@effUn_not)) (And.intro (@u_eql_bool) (@u_neq_bool))))) (And.intro (And.intro (And.intro (@u_eql_ptr) (And.intro (@u_neq_ptr) (@u_eql_slc))) (And.intro (And.intro (@u_neq_slc) (@u_eql_ifc)) (And.intro (@u_neq_ifc) (@u_conv)))) (And.intro (And.intro (And.intro (@cvI_int) (@alX_some)) (And.intro (@alY_false) (@effAlloc_eq))) (And.intro (And.intro (@cellsOf_bool) (@cellsOf_int)) (And.intro (@cellsOf_string) (@cellsOf_pointer))))))
theorem rb2 : type_of% (And.intro (And.intro (And.intro (And.intro (And.intro (@cellsOf_slice) (And.intro (@cellsOf_map) (@cellsOf_func))) (And.intro (And.intro (@cellsOf_nilFunc) (@cellsOf_iface)) (And.intro (@cellsOf_nilIface) (@cellsOf_agg)))) (And.intro (And.intro (And.intro (@effMakeSlice_eq) (@mkX_some)) (And.intro (@effSlice_ptr) (@effSlice_slc))) (And.intro (And.intro (@u_bounds) (@bnd_none)) (And.intro (@bnd_int) (@u_sliceAddr))))) (And.intro (And.intro (And.intro (@sadX_exact) (And.intro (@sadX_ro) (@sliceAddr_nil))) (And.intro (And.intro (@u_firstL) (@fsX_some)) (And.intro (@lenV_slc) (@lenV_str)))) (And.intro (And.intro (And.intro (@storable_bool) (@storable_int)) (And.intro (@storable_string) (@storable_pointer))) (And.intro (And.intro (@storable_slice) (@storable_agg)) (And.intro (@storable_iface) (@storable_nilIface)))))) (And.intro (And.intro (And.intro (And.intro (@Heap.get_upd_same) (And.intro (@Heap.get_new_same) (@Heap.nx_upd))) (And.intro (And.intro (@Heap.nx_new) (@Heap.apply_none)) (And.intro (@Heap.apply_wr) (@Heap.apply_nw)))) (And.intro (And.intro (And.intro (@Heap.apply_wr_nw) (@fnQ_normal)) (And.intro (@fnQ_ret) (@fnQ_pan))) (And.intro (And.intro (@resultV_one) (@resultV_nil)) (And.intro (@resultV_two) (@resAll_nil))))) (And.intro (And.intro (And.intro (@resAll_tmp) (And.intro (@fillL_nil) (@fillL_cons))) (And.intro (And.intro (@fillX_some) (@ret_val)) (And.intro (@resultV_cell) (@resAll_cell)))) (And.intro (And.intro (And.intro (@didsOk_nil) (@bind_some_agg)) (And.intro (@Heap.upd_upd) (@foot_load))) (And.intro (And.intro (@foot_store) (@foot_conv)) (And.intro (@foot_bin) (@foot_slice))))))) := And.intro (And.intro (And.intro (And.intro (And.intro (@cellsOf_slice) (And.intro (@cellsOf_map) (@cellsOf_func))) (And.intro (And.intro (@cellsOf_nilFunc) (@cellsOf_iface)) (And.intro (@cellsOf_nilIface) (@cellsOf_agg)))) (And.intro (And.intro (And.intro (@effMakeSlice_eq) (@mkX_some)) (And.intro (@effSlice_ptr) (@effSlice_slc))) (And.intro (And.intro (@u_bounds) (@bnd_none)) (And.intro (@bnd_int) (@u_sliceAddr))))) (And.intro (And.intro (And.intro (@sadX_exact) (And.intro (@sadX_ro) (@sliceAddr_nil))) (And.intro (And.intro (@u_firstL) (@fsX_some)) (And.intro (@lenV_slc) (@lenV_str)))) (And.intro (And.intro (And.intro (@storable_bool) (@storable_int)) (And.intro (@storable_string) (@storable_pointer))) (And.intro (And.intro (@storable_slice) (@storable_agg)) (And.intro (@storable_iface) (@storable_nilIface)))))) (And.intro (And.intro (And.intro (And.intro (@Heap.get_upd_same) (And.intro (@Heap.get_new_same) (@Heap.nx_upd))) (And.intro (And.intro (@Heap.nx_new) (@Heap.apply_none)) (And.intro (@Heap.apply_wr) (@Heap.apply_nw)))) (And.intro (And.intro (And.intro (@Heap.apply_wr_nw) (@fnQ_normal)) (And.intro (@fnQ_ret) (@fnQ_pan))) (And.intro (And.intro (@resultV_one) (@resultV_nil)) (And.intro (@resultV_two) (@resAll_nil))))) (And.intro (And.intro (And.intro (@resAll_tmp) (And.intro (@fillL_nil) (@fillL_cons))) (And.intro (And.intro (@fillX_some) (@ret_val)) (And.intro (@resultV_cell) (@resAll_cell)))) (And.intro (And.intro (And.intro (@didsOk_nil) (@bind_some_agg)) (And.intro (@Heap.upd_upd) (@foot_load))) (And.intro (And.intro (@foot_store) (@foot_conv)) (And.intro (@foot_bin) (@foot_slice))))))
theorem rb3 : type_of% (And.intro (And.intro (And.intro (And.intro (And.intro (@foot_build) (And.intro (@foot_mks) (@foot_alloc))) (And.intro (And.intro (@foot_box) (@foot_buildSlice)) (And.intro (@foot_lookup) (@blkOf_ptr)))) (And.intro (And.intro (And.intro (@blkOf_ptrn) (@blkOf_slice)) (And.intro (@blkOf_slicen) (@blkOf_int))) (And.intro (And.intro (@blkOf_bool) (@blkOf_string)) (And.intro (@didsOk_cons) (@pairOk_some))))) (And.intro (And.intro (And.intro (@swap_skip) (And.intro (@swap_skip') (@swap_ee))) (And.intro (And.intro (@swap_ce) (@swap_ec)) (And.intro (@sameB_self) (@newIds_nil)))) (And.intro (And.intro (And.intro (@newIds_cons) (@disj_nil)) (And.intro (@disj_nil') (@disj_cons))) (And.intro (And.intro (@overL_cs) (@overL_cz)) (And.intro (@overL_nil) (@o_move)))))) (And.intro (And.intro (And.intro (And.intro (@o_assign) (And.intro (@o_pick) (@o_alloc))) (And.intro (And.intro (@o_box) (@o_build)) (And.intro (@o_buildSlice) (@o_load)))) (And.intro (And.intro (And.intro (@o_store) (@o_nilc)) (And.intro (@o_bin) (@o_un))) (And.intro (And.intro (@o_conv) (@o_arrp)) (And.intro (@o_ifc) (@o_fun))))) (And.intro (And.intro (And.intro (@o_mkm) (And.intro (@o_mks) (@o_slice))) (And.intro (And.intro (@o_fieldAddr) (@o_field)) (And.intro (@o_indexAddr) (@o_index)))) (And.intro (And.intro (And.intro (@o_lookup) (@o_mapUpdate)) (And.intro (@o_range) (@o_next))) (And.intro (And.intro (@o_tassert) (@o_extract)) (And.intro (@o_builtin) (@q_move))))))) := And.intro (And.intro (And.intro (And.intro (And.intro (@foot_build) (And.intro (@foot_mks) (@foot_alloc))) (And.intro (And.intro (@foot_box) (@foot_buildSlice)) (And.intro (@foot_lookup) (@blkOf_ptr)))) (And.intro (And.intro (And.intro (@blkOf_ptrn) (@blkOf_slice)) (And.intro (@blkOf_slicen) (@blkOf_int))) (And.intro (And.intro (@blkOf_bool) (@blkOf_string)) (And.intro (@didsOk_cons) (@pairOk_some))))) (And.intro (And.intro (And.intro (@swap_skip) (And.intro (@swap_skip') (@swap_ee))) (And.intro (And.intro (@swap_ce) (@swap_ec)) (And.intro (@sameB_self) (@newIds_nil)))) (And.intro (And.intro (And.intro (@newIds_cons) (@disj_nil)) (And.intro (@disj_nil') (@disj_cons))) (And.intro (And.intro (@overL_cs) (@overL_cz)) (And.intro (@overL_nil) (@o_move)))))) (And.intro (And.intro (And.intro (And.intro (@o_assign) (And.intro (@o_pick) (@o_alloc))) (And.intro (And.intro (@o_box) (@o_build)) (And.intro (@o_buildSlice) (@o_load)))) (And.intro (And.intro (And.intro (@o_store) (@o_nilc)) (And.intro (@o_bin) (@o_un))) (And.intro (And.intro (@o_conv) (@o_arrp)) (And.intro (@o_ifc) (@o_fun))))) (And.intro (And.intro (And.intro (@o_mkm) (And.intro (@o_mks) (@o_slice))) (And.intro (And.intro (@o_fieldAddr) (@o_field)) (And.intro (@o_indexAddr) (@o_index)))) (And.intro (And.intro (And.intro (@o_lookup) (@o_mapUpdate)) (And.intro (@o_range) (@o_next))) (And.intro (And.intro (@o_tassert) (@o_extract)) (And.intro (@o_builtin) (@q_move))))))
theorem rb4 : type_of% (And.intro (And.intro (And.intro (And.intro (And.intro (@q_assign) (@q_pick)) (And.intro (@q_alloc) (@q_box))) (And.intro (And.intro (@q_build) (@q_buildSlice)) (And.intro (@q_load) (And.intro (@q_store) (@q_nilc))))) (And.intro (And.intro (And.intro (@q_bin) (@q_un)) (And.intro (@q_conv) (And.intro (@q_arrp) (@q_ifc)))) (And.intro (And.intro (@q_fun) (@q_mkm)) (And.intro (@q_mks) (And.intro (@q_slice) (@q_fieldAddr)))))) (And.intro (And.intro (And.intro (And.intro (@q_field) (@q_indexAddr)) (And.intro (@q_index) (@q_lookup))) (And.intro (And.intro (@q_mapUpdate) (@q_range)) (And.intro (@q_next) (And.intro (@q_tassert) (@q_extract))))) (And.intro (And.intro (And.intro (@q_builtin) (@o_call)) (And.intro (@o_invoke) (And.intro (@q_callv) (@q_invoke)))) (And.intro (And.intro (@b_len) (@b_append)) (And.intro (@b_copy) (And.intro (@b_clear) (@b_delete))))))) := And.intro (And.intro (And.intro (And.intro (And.intro (@q_assign) (@q_pick)) (And.intro (@q_alloc) (@q_box))) (And.intro (And.intro (@q_build) (@q_buildSlice)) (And.intro (@q_load) (And.intro (@q_store) (@q_nilc))))) (And.intro (And.intro (And.intro (@q_bin) (@q_un)) (And.intro (@q_conv) (And.intro (@q_arrp) (@q_ifc)))) (And.intro (And.intro (@q_fun) (@q_mkm)) (And.intro (@q_mks) (And.intro (@q_slice) (@q_fieldAddr)))))) (And.intro (And.intro (And.intro (And.intro (@q_field) (@q_indexAddr)) (And.intro (@q_index) (@q_lookup))) (And.intro (And.intro (@q_mapUpdate) (@q_range)) (And.intro (@q_next) (And.intro (@q_tassert) (@q_extract))))) (And.intro (And.intro (And.intro (@q_builtin) (@o_call)) (And.intro (@o_invoke) (And.intro (@q_callv) (@q_invoke)))) (And.intro (And.intro (@b_len) (@b_append)) (And.intro (@b_copy) (And.intro (@b_clear) (@b_delete))))))
end Go.AM
end
section
/- From a run of the machine to a row. -/
namespace Go.AM
open Go.ChangeShapes Go.WideShapes

variable {P : Program} {W : World} {r : Reach} {base : Nat} {u : TypeId} {x : Value}

/- ## what an argument is made of -/
theorem cell_int {k : IntKind} (hu : P.underlying u = some (.int k)) (h : Cell.okWide P W r base u x) : ∃ n, x = .int k n ∧ k.has n := by
  unfold Cell.okWide at h
  cases x <;> simp only [hu] at h <;> simp only [Cell.ok, hu] at h
  obtain ⟨rfl, h⟩ := h
  exact ⟨_, rfl, h⟩
theorem cell_bool (hu : P.underlying u = some .bool) (h : Cell.okWide P W r base u x) : ∃ b, x = .bool b := by
  unfold Cell.okWide at h
  cases x <;> simp only [hu] at h <;> simp only [Cell.ok, hu] at h
  exact ⟨_, rfl⟩
theorem cell_slice {e : TypeId} (hu : P.underlying u = some (.slice e)) (h : Cell.okWide P W r base u x) : x = .slice none 0 0 ∨ ∃ a len cap, x = .slice (some a) len cap := by
  unfold Cell.okWide at h
  cases x <;> simp only [hu] at h <;> simp only [Cell.ok, hu] at h
  split at h
  all_goals first | exact h.elim | (rename_i hx _; simp_all; done) | (simp_all; done) | skip
theorem row_cells {t : TypeId} {ts : List TypeId} {v : Value} (hu : (match P.underlying t with | some (.struct _) => true | _ => false) = true) (hc : P.cellTypes P.depth t = some ts) (h : Value.okWide P W r base t v) :
    ∃ cs, v = .agg cs ∧ cs.size = P.cellsOf t ∧ ∀ i x, cs[i]? = some x → ∃ u, ts[i % ts.length]? = some u ∧ Cell.okWide P W r base u x := by
  unfold Value.okWide at h
  split at hu <;> try (simp at hu; done)
  rename_i fs hfs
  simp only [hfs] at h
  obtain ⟨cs, rfl, h1, ts', h2, _, h4⟩ := h
  rw [hc] at h2
  cases h2
  exact ⟨cs, rfl, h1, h4⟩

theorem val_int {k : IntKind} (hu : P.underlying u = some (.int k)) (h : Value.okWide P W r base u x) : ∃ n, x = .int k n ∧ k.has n := by
  unfold Value.okWide at h
  simp only [hu] at h
  exact cell_int hu h
theorem val_bool (hu : P.underlying u = some .bool) (h : Value.okWide P W r base u x) : ∃ b, x = .bool b := by
  unfold Value.okWide at h
  simp only [hu] at h
  exact cell_bool hu h

/- ## what stays -/
def Still (W W' : World) : Prop := W'.os = W.os ∧ W'.output = W.output ∧ ∀ cb : Nat, cb < W.heap.size → W'.heap[cb]? = W.heap[cb]?
theorem Still.kept {W' : World} (h : Still W W') (may : MemPlace → Prop) : W.keptBut W' may := by
  refine ⟨h.1, h.2.1, fun i hi => ?_⟩
  rw [h.2.2 i hi]
  split
  · rename_i c t fr c' t' fr' h1 h2
    rw [h1] at h2
    simp only [Option.some.injEq, Obj.cells.injEq] at h2
    obtain ⟨rfl, rfl, rfl⟩ := h2
    exact ⟨rfl, rfl, rfl, fun _ _ => rfl⟩
  · rename_i es c es' c' h1 h2
    rw [h1] at h2
    simp only [Option.some.injEq, Obj.map.injEq] at h2
    obtain ⟨rfl, rfl⟩ := h2
    exact .inr ⟨rfl, rfl⟩
  · rfl
theorem Still.same {W' : World} (h : Still W W') {p : MemPlace} (hp : p.block < W.heap.size) : W.sameAt W' p := by
  cases p with
  | cell b off =>
    have := h.2.2 b hp
    simp [World.sameAt, World.cell?, this]
  | map b => exact h.2.2 b hp
section
variable {H : Type} {enc : TypeId × Value → H}
theorem trodAll_still {W' : World} {sp : Nat → Bool} {hd : Bool} (hs : Still W W') : ∀ {ts : List TypeId} {vs : List Value} {ds : List (DataW H)} {ps : List MemPlace}, (∀ p ∈ ps, p.block < W.heap.size) →
    DataW.TrodAll enc P W base sp hd ts vs ds ps → DataW.TrodAll enc P W' base sp hd ts vs ds ps
  | [], [], [], _, _, h => h
  | _ :: _, _ :: _, _ :: _, _, hl, ⟨p, q, ⟨n, h1⟩, h2, e⟩ =>
    ⟨p, q, ⟨n, DataW.trod_carry n _ _ _ h1 (fun x hx => hs.same (hl x (by rw [e]; exact List.mem_append_left _ hx)))⟩, trodAll_still hs (fun x hx => hl x (by rw [e]; exact List.mem_append_right _ hx)) h2, e⟩

/-- The law gave true; what was there is as it was. -/
theorem post_true {T : TypeId → Prop} {f : Func} {s : ChangeSpec} {W' : World} {args : Array Value} {ds gs : List (DataW H)} {before : List MemPlace} {bt : TypeId} (K : Kids P T) (hz : ∀ t e, T t → P.underlying t = some (.slice e) → 0 < P.cellsOf e)
    (hT : ∀ t ∈ f.params.toList, T t) (hb : P.underlying bt = some .bool) (hrt : f.resultTypes = #[bt]) (hvars : s.vars = []) (hg : gs = [])
    (hW : DataW.Whole enc P f.params.toList s.vars false W args.toList ds gs before) (hA : DataW.TrodAll enc P W 0 (fun _ => true) true f.params.toList args.toList ds before)
    (hres : (s.fn H (ds ++ gs)).results = [.lit (.bool true)]) (hargs : (s.fn H (ds ++ gs)).args = ds) (hv : (s.fn H (ds ++ gs)).vars = []) (hs : Still W W') :
    s.post enc P f false true false false W args (.bool true) W' := by
  have hlt := DataW.TrodAll.lt hA
  subst hg
  refine ⟨ds, [], before, [], before, [], hW, ?_, ?_, ?_, hs.kept _, fun h => by cases h⟩
  · rw [hres, hrt]
    exact trodAll_mk1 (Go.RowKit.shut_bool hb true)
  · rw [hargs]
    exact trodAll_still hs hlt (DataW.TrodAll.respare K hz hT hA fun p hp => by simpa using hlt p hp)
  · rw [hv, hvars]
    exact rfl
end

/- ## the call -/
noncomputable def deadHeap : Heap := ⟨Trie.leaf.set 0 .dead, 1⟩
def deadMp : Mp := fun b => if b = 0 then .dead else .fresh
theorem deadHeap_get (b : Nat) : deadHeap.get b = if b = 0 then some .dead else none := by
  show (Trie.leaf.set 0 Blk.dead).get b = _
  rw [Trie.get_set, Trie.get_leaf]
theorem deadHeap_wf : HWf deadHeap := fun b hb => by
  rw [deadHeap_get, if_neg]
  have : 1 ≤ b := hb
  omega
theorem deadHeap_rel (W : World) (N : Nat) (hN : 1 ≤ N) : HRel deadMp (mix deadHeap N fun _ => none) W := by
  refine ⟨fun b => ?_, fun b b' l l' h => ?_⟩
  · unfold mix deadMp
    rw [deadHeap_get]
    by_cases h : b = 0
    · subst h
      rw [if_pos rfl, if_pos (by omega), if_pos rfl]
      trivial
    · rw [if_neg h, if_neg h]
      split <;> trivial
  · unfold deadMp at h
    split at h <;> cases h

/-- A run that gave true: the model's call gives true, and writes on nothing that was there. -/
theorem true_calls' {cl : Caller} (hcl : CallOk P 0 cl) {f : FuncId} {args args' : List Value} {H : Heap} {M : Mp} {W : World} (hwf : HWf H) (hrel : ∀ N, H.nx ≤ N → HRel M (mix H N fun _ => none) W) (hro : ∀ b l, M b = .live l → l.rw = false)
    (hrun : isTrue (cl f args H) = true) (ha : VRels M args args') :
    Calls P f args'.toArray W fun e W' => e = .returned (.bool true) ∧ Still W W' := by
  cases hq : cl f args H with
  | none => rw [hq] at hrun; simp [isTrue] at hrun
  | some q =>
    obtain ⟨o, h'⟩ := q
    rw [hq] at hrun
    have ho : o = .ret (.bool true) := by
      unfold isTrue at hrun
      split at hrun
      · rename_i b _ heq
        simp only [Option.some.injEq, Prod.mk.injEq] at heq
        rw [heq.1, hrun]
      · simp at hrun
    subst ho
    obtain ⟨_, _, hnx, hc⟩ := hcl f args H _ h' hq hwf
    refine (hc h'.nx (fun _ => none) M W args' (Nat.le_refl _) (hrel _ hnx) (fun g hg => absurd hg (Nat.not_lt_zero g)) ha).mono ?_
    rintro e W' ⟨m', ⟨v', rfl, hv⟩, _, hst⟩
    cases hv
    refine ⟨rfl, hst.os, hst.out, fun cb hcb => hst.keep cb hcb ?_⟩
    intro b l hl hrw
    rw [hro b l hl] at hrw
    cases hrw
theorem true_calls {cl : Caller} (hcl : CallOk P 0 cl) {f : FuncId} {args args' : List Value} (hrun : isTrue (cl f args deadHeap) = true) (ha : VRels deadMp args args') (W : World) :
    Calls P f args'.toArray W fun e W' => e = .returned (.bool true) ∧ Still W W' :=
  true_calls' hcl deadHeap_wf (fun N hN => deadHeap_rel W N hN) (fun b l hl => by unfold deadMp at hl; split at hl <;> cases hl) hrun ha

/- ## tokens: ints that are not known -/
noncomputable def deadsT (n : Nat) : Trie Blk := Nat.rec (motive := fun _ => Trie Blk) .leaf (fun i ih => ih.set i .dead) n
noncomputable def deads (n : Nat) : Heap := ⟨deadsT n, n⟩
theorem deads_get (n b : Nat) : (deads n).get b = if b < n then some .dead else none := by
  show (deadsT n).get b = _
  induction n with
  | zero => rw [if_neg (by omega)]; exact Trie.get_leaf b
  | succ n ih =>
    show ((deadsT n).set n .dead).get b = _
    rw [Trie.get_set, ih]
    by_cases e : b = n
    · rw [if_pos e, if_pos (by omega)]
    · rw [if_neg e]
      by_cases g : b < n
      · rw [if_pos g, if_pos (by omega)]
      · rw [if_neg g, if_neg (by omega)]
theorem deads_wf (n : Nat) : HWf (deads n) := fun b hb => by
  have hb : n ≤ b := hb
  rw [deads_get, if_neg (by omega)]
def statMp (l : List Stat) : Mp := fun b => (l[b]?).getD .fresh
def Stat.quiet : Stat → Bool
  | .dead => true
  | .sym _ _ => true
  | _ => false
theorem deads_rel {l : List Stat} (hl : l.all Stat.quiet = true) (W : World) (N : Nat) (hN : l.length ≤ N) : HRel (statMp l) (mix (deads l.length) N fun _ => none) W := by
  have hq : ∀ (b : Nat) (s : Stat), l[b]? = some s → s.quiet = true := fun b s h => List.all_eq_true.1 hl s (List.mem_of_getElem? h)
  refine ⟨fun b => ?_, fun b b' x x' h => ?_⟩
  · unfold mix statMp
    rw [deads_get]
    cases h : l[b]? with
    | none =>
      rw [List.getElem?_eq_none_iff] at h
      rw [if_neg (show ¬ b < l.length by omega)]
      split <;> trivial
    | some s =>
      have hlt := (List.getElem?_eq_some_iff.1 h).1
      rw [if_pos (by omega), if_pos hlt]
      have := hq b s h
      cases s <;> first | trivial | (simp [Stat.quiet] at this)
  · unfold statMp at h
    cases h1 : l[b]? with
    | none => rw [h1] at h; cases h
    | some s =>
      rw [h1] at h
      have := hq b s h1
      simp only [Option.getD_some] at h
      subst h
      simp [Stat.quiet] at this
theorem true_toks {cl : Caller} (hcl : CallOk P 0 cl) {f : FuncId} {args args' : List Value} {l : List Stat} (hl : l.all Stat.quiet = true) (hrun : isTrue (cl f args (deads l.length)) = true) (ha : VRels (statMp l) args args') (W : World) :
    Calls P f args'.toArray W fun e W' => e = .returned (.bool true) ∧ Still W W' :=
  true_calls' hcl (deads_wf _) (fun N hN => deads_rel hl W N hN) (fun b x h => by
    unfold statMp at h
    cases h1 : l[b]? with
    | none => rw [h1] at h; cases h
    | some s =>
      rw [h1] at h
      have := List.all_eq_true.1 hl s (List.mem_of_getElem? h1)
      simp only [Option.getD_some] at h
      subst h
      simp [Stat.quiet] at this) hrun ha
end Go.AM
end
section
/- Slices of ints as arguments: their first ones are tokens in a block that is read alone. -/
namespace Go.AM
open Go.ChangeShapes Go.WideShapes
variable {P : Program} {W : World}

theorem open_ints {H : Type} {enc : TypeId × Value → H} {r : Reach} {b0 base : Nat} {spare : Nat → Bool} {held : Bool} {t e : TypeId} {k : IntKind} {v : Value} {d : DataW H} {ps : List MemPlace} (ht : P.underlying t = some (.slice e)) (he : P.underlying e = some (.int k)) (hc : P.cellsOf e = 1)
    (hval : Value.okWide P W r b0 t v) (hd : DataW.Trod enc P W base spare held t v d ps) :
    v = .slice none 0 0 ∨ ∃ a len cap, v = .slice (some a) len cap ∧ ∃ f : Nat → Int, 0 < len → ∃ b off cs el fr, a = ⟨b, off, none⟩ ∧ W.heap[b]? = some (.cells cs el fr) ∧ off + len ≤ cs.size ∧ ∀ i, i < len → cs[off + i]? = some (.int k (f i)) := by
  obtain ⟨a0, len0, cap0, rfl⟩ := okWide_slice ht hval
  obtain ⟨fuel, hf⟩ := hd
  rcases DataW.trod_slice ht hf with ⟨h, _⟩ | ⟨a, len, cap, elems, rest, n, _, h, _, _, _, _, hlen, hel, _⟩
  · left
    simpa [Value.cells] using h
  · right
    simp [Value.cells] at h
    obtain ⟨rfl, rfl, rfl⟩ := h
    have key : ∀ i, i < len0 → ∃ m, W.cell? (a.add i) = some (.int k m) := by
      intro i hi
      have h1 := hel i hi
      rw [hc, Nat.mul_one] at h1
      obtain ⟨x, hx⟩ : ∃ x, elems[i]? = some x := ⟨elems[i]'(by omega), List.getElem?_eq_getElem _⟩
      rw [hx] at h1
      obtain ⟨cs, g1, g2⟩ := Option.bind_eq_some_iff.1 h1
      obtain ⟨m, rfl, _, _⟩ := DataW.trod_int he g2
      obtain ⟨_, _, g3⟩ := World.cells?_some g1
      have := g3 0 (by omega)
      refine ⟨m, ?_⟩
      simpa [Addr.add] using this
    obtain ⟨f, hfn⟩ : ∃ f : Nat → Int, ∀ i, i < len0 → W.cell? (a.add i) = some (.int k (f i)) := by
      refine ⟨fun i => if h : i < len0 then (key i h).choose else 0, fun i hi => ?_⟩
      simp only [hi, dif_pos]
      exact (key i hi).choose_spec
    refine ⟨a, len0, cap0, rfl, f, fun hpos => ?_⟩
    obtain ⟨b, off, spot⟩ := a
    have hspot : spot = none := by simpa [Addr.add] using World.cell?_spot (hfn 0 hpos)
    subst hspot
    have key2 : ∀ i, i < len0 → W.cell? ⟨b, off + i, none⟩ = some (.int k (f i)) := by
      intro i h
      have := hfn i h
      rwa [add_plain] at this
    have hcell : ∃ cs el fr, W.heap[b]? = some (.cells cs el fr) := by
      have := key2 0 hpos
      unfold World.cell? at this
      split at this <;> try (simp at this; done)
      rename_i cs el fr hh
      exact ⟨cs, el, fr, hh⟩
    obtain ⟨cs, el, fr, hcs⟩ := hcell
    have key3 : ∀ i, i < len0 → cs[off + i]? = some (.int k (f i)) := by
      intro i h
      have := key2 i h
      simpa [World.cell?, hcs] using this
    refine ⟨b, off, cs, el, fr, rfl, hcs, ?_, key3⟩
    have := key3 (len0 - 1) (by omega)
    have := (Array.getElem?_eq_some_iff.1 this).1
    omega

noncomputable def toks (n : Nat) : List Value := Nat.rec (motive := fun _ => List Value) [] (fun i ih => ih ++ [.chan (some (Nat.succ i))]) n
theorem toks_length (n : Nat) : (toks n).length = n := by
  induction n with
  | zero => rfl
  | succ n ih =>
    show (toks n ++ [_]).length = _
    rw [List.length_append, ih]; rfl
theorem toks_get {n i : Nat} (h : i < n) : (toks n)[i]? = some (.chan (some (i + 1))) := by
  induction n with
  | zero => omega
  | succ n ih =>
    show (toks n ++ [_])[i]? = _
    by_cases e : i < n
    · rw [List.getElem?_append_left (by rw [toks_length]; exact e)]; exact ih e
    · have : i = n := by omega
      subst this
      rw [List.getElem?_append_right (by rw [toks_length]; exact Nat.le_refl _), toks_length]
      simp
noncomputable def tokHeap (n : Nat) : Heap := ⟨(deadsT (Nat.succ n)).set 0 (.cells (ofList (toks n)) n .ro), Nat.succ n⟩
theorem tokHeap_get (n b : Nat) : (tokHeap n).get b = if b = 0 then some (.cells (ofList (toks n)) n .ro) else if b < n + 1 then some .dead else none := by
  show ((deadsT (n + 1)).set 0 _).get b = _
  rw [Trie.get_set]
  have := deads_get (n + 1) b
  have this : (deadsT (n + 1)).get b = if b < n + 1 then some .dead else none := this
  rw [this]
theorem tokHeap_wf (n : Nat) : HWf (tokHeap n) := fun b hb => by
  have hb : n + 1 ≤ b := hb
  rw [tokHeap_get, if_neg (by omega), if_neg (by omega)]
def tokMp (n : Nat) (l : Loc) (k : IntKind) (f : Nat → Int) : Mp := fun b => if b = 0 then .live l else if b < n + 1 then .sym k (f (b - 1)) else .fresh
theorem tokHeap_rel {n : Nat} {k : IntKind} {f : Nat → Int} {b off : Nat} {cs : Array Value} {el : TypeId} {fr : Nat × Nat} (h1 : W.heap[b]? = some (.cells cs el fr)) (h2 : off + n ≤ cs.size) (h3 : ∀ i, i < n → cs[off + i]? = some (.int k (f i))) (N : Nat) (hN : n + 1 ≤ N) :
    HRel (tokMp n ⟨b, off, 0, n, cs.size, false⟩ k f) (mix (tokHeap n) N fun _ => none) W := by
  refine ⟨fun b' => ?_, fun b1 b2 l1 l2 g1 g2 _ _ => ?_⟩
  · unfold mix
    rw [tokHeap_get]
    by_cases e : b' = 0
    · subst e
      rw [if_pos (by omega), if_pos rfl]
      show BRel _ W (.live _) _
      refine ⟨rfl, cs, el, fr, h1, rfl, h2, ⟨rfl, rfl⟩, fun i hi => ?_⟩
      refine ⟨.chan (some (i + 1)), .int k (f i), ?_, h3 i hi, rfl, .sym (i + 1) k (f i) ?_⟩
      · show (storeL .leaf 0 (toks n)).get i = _
        rw [get_storeL, if_pos (by rw [toks_length]; omega), Nat.sub_zero, toks_get hi]
      · unfold tokMp
        rw [if_neg (by omega), if_pos (by omega)]
        rfl
    · unfold tokMp
      rw [if_neg e, if_neg e]
      by_cases e2 : b' < n + 1
      · rw [if_pos e2, if_pos (by omega), if_pos e2]; trivial
      · rw [if_neg e2, if_neg e2]
        split <;> trivial
  · have key : ∀ b' l', tokMp n ⟨b, off, 0, n, cs.size, false⟩ k f b' = .live l' → b' = 0 := by
      intro b' l' h
      unfold tokMp at h
      split at h
      · assumption
      · split at h <;> cases h
    rw [key b1 l1 g1, key b2 l2 g2]
theorem tokMp_ro {n : Nat} {l : Loc} {k : IntKind} {f : Nat → Int} (hl : l.rw = false) : ∀ b l', tokMp n l k f b = .live l' → l'.rw = false := by
  intro b l' h
  unfold tokMp at h
  split at h
  · cases h; exact hl
  · split at h <;> cases h
/-- A law of one slice of ints of which it reads the first n. -/
theorem true_ints {cl : Caller} (hcl : CallOk P 0 cl) {f : FuncId} {n len cap : Nat} {k : IntKind} {v : Nat → Int} {b off : Nat} {cs : Array Value} {el : TypeId} {fr : Nat × Nat} (h1 : W.heap[b]? = some (.cells cs el fr)) (hn : n ≤ len) (h2 : off + len ≤ cs.size) (h3 : ∀ i, i < len → cs[off + i]? = some (.int k (v i)))
    (hrun : isTrue (cl f [.slice (some ⟨0, 0, none⟩) len cap] (tokHeap n)) = true) : Calls P f #[.slice (some ⟨b, off, none⟩) len cap] W fun e W' => e = .returned (.bool true) ∧ Still W W' :=
  true_calls' (args' := [.slice (some ⟨b, off, none⟩) len cap]) hcl (tokHeap_wf n) (fun N hN => tokHeap_rel h1 (by omega) (fun i hi => h3 i (by omega)) N hN) (tokMp_ro rfl) hrun
    (.cons _ _ _ _ (.slice 0 0 len cap cap ⟨b, off, 0, n, cs.size, false⟩ rfl (.inl rfl)) .nil)
end Go.AM
end
section
/- Abstract heaps that are given block by block; a call that gives true from such a heap. -/
namespace Go.AM
open Go.ChangeShapes Go.WideShapes
variable {P : Program} {W : World}

noncomputable def blkT (l : List Blk) : Trie Blk → Nat → Trie Blk := List.rec (motive := fun _ => Trie Blk → Nat → Trie Blk) (fun t _ => t) (fun b _ ih t i => ih (t.set i b) (Nat.succ i)) l
noncomputable def listHeap (l : List Blk) : Heap := ⟨blkT l .leaf 0, l.length⟩
theorem get_blkT (l : List Blk) : ∀ (t : Trie Blk) (i k : Nat), (blkT l t i).get k = if i ≤ k ∧ k < i + l.length then l[k - i]? else t.get k := by
  induction l with
  | nil =>
    intro t i k
    show t.get k = _
    rw [if_neg (by simp)]
  | cons b r ih =>
    intro t i k
    show (blkT r (t.set i b) (i + 1)).get k = _
    rw [ih, Trie.get_set]
    simp only [List.length_cons]
    by_cases h : i ≤ k ∧ k < i + (r.length + 1)
    · rw [if_pos h]
      by_cases e : k = i
      · subst e; rw [if_neg (by omega), if_pos rfl]; simp
      · rw [if_pos (by omega)]
        rw [show k - i = (k - (i + 1)) + 1 by omega, List.getElem?_cons_succ]
    · rw [if_neg h, if_neg (by omega), if_neg (by omega)]
theorem listHeap_get (l : List Blk) (k : Nat) : (listHeap l).get k = l[k]? := by
  show (blkT l .leaf 0).get k = _
  rw [get_blkT]
  by_cases h : k < l.length
  · rw [if_pos (by omega)]; simp
  · rw [if_neg (by omega), Trie.get_leaf, List.getElem?_eq_none (by omega)]
theorem listHeap_wf (l : List Blk) : HWf (listHeap l) := fun b hb => by
  have hb : l.length ≤ b := hb
  rw [listHeap_get, List.getElem?_eq_none hb]
theorem statMp_get {st : List Stat} {b : Nat} {s : Stat} (h : statMp st b = s) (hs : s ≠ .fresh) : st[b]? = some s := by
  unfold statMp at h
  cases hb : st[b]? with
  | none => rw [hb] at h; exact absurd h.symm hs
  | some s' => rw [hb] at h; rw [← h]; rfl
theorem list_rel {l : List Blk} {st : List Stat} (hlen : st.length = l.length) (hb : ∀ (i : Nat) (s : Stat) (b : Blk), st[i]? = some s → l[i]? = some b → BRel (statMp st) W s (some b))
    (hinj : ∀ (i j : Nat) (l1 l2 : Loc), st[i]? = some (.live l1) → st[j]? = some (.live l2) → l1.cb = l2.cb → i = j) (N : Nat) (hN : l.length ≤ N) : HRel (statMp st) (mix (listHeap l) N fun _ => none) W := by
  refine ⟨fun b => ?_, fun b b' l1 l2 h1 h2 e _ => hinj b b' l1 l2 (statMp_get h1 (by simp)) (statMp_get h2 (by simp)) e⟩
  unfold mix
  rw [listHeap_get]
  by_cases h : b < l.length
  · rw [if_pos (by omega)]
    have h1 : st[b]? = some (st[b]'(by omega)) := List.getElem?_eq_getElem _
    have h2 : l[b]? = some (l[b]'h) := List.getElem?_eq_getElem _
    have : statMp st b = st[b]'(by omega) := by unfold statMp; rw [h1]; rfl
    rw [this, h2]
    exact hb b _ _ h1 h2
  · have : statMp st b = .fresh := by unfold statMp; rw [List.getElem?_eq_none (by omega)]; rfl
    rw [this, List.getElem?_eq_none (by omega)]
    split <;> trivial
theorem true_callsG {cl : Caller} {ng : Nat} (hcl : CallOk P ng cl) {f : FuncId} {args args' : List Value} {H : Heap} {M : Mp} {W : World} (hwf : HWf H) (hrel : ∀ N, H.nx ≤ N → HRel M (mix H N fun _ => none) W) (hg : GlobOk ng M) (hro : ∀ b l, M b = .live l → l.rw = false)
    (hrun : isTrue (cl f args H) = true) (ha : VRels M args args') :
    Calls P f args'.toArray W fun e W' => e = .returned (.bool true) ∧ Still W W' := by
  cases hq : cl f args H with
  | none => rw [hq] at hrun; simp [isTrue] at hrun
  | some q =>
    obtain ⟨o, h'⟩ := q
    rw [hq] at hrun
    have ho : o = .ret (.bool true) := by
      unfold isTrue at hrun
      split at hrun
      · rename_i b _ heq
        simp only [Option.some.injEq, Prod.mk.injEq] at heq
        rw [heq.1, hrun]
      · simp at hrun
    subst ho
    obtain ⟨_, _, hnx, hc⟩ := hcl f args H _ h' hq hwf
    refine (hc h'.nx (fun _ => none) M W args' (Nat.le_refl _) (hrel _ hnx) hg ha).mono ?_
    rintro e W' ⟨m', ⟨v', rfl, hv⟩, _, hst⟩
    cases hv
    refine ⟨rfl, hst.os, hst.out, fun cb hcb => hst.keep cb hcb ?_⟩
    intro b l hl hrw
    rw [hro b l hl] at hrw
    cases hrw
theorem true_list {cl : Caller} {ng : Nat} (hcl : CallOk P ng cl) {f : FuncId} {args args' : List Value} {l : List Blk} {st : List Stat} (hlen : st.length = l.length) (hb : ∀ (i : Nat) (s : Stat) (b : Blk), st[i]? = some s → l[i]? = some b → BRel (statMp st) W s (some b))
    (hinj : ∀ (i j : Nat) (l1 l2 : Loc), st[i]? = some (.live l1) → st[j]? = some (.live l2) → l1.cb = l2.cb → i = j) (hg : GlobOk ng (statMp st)) (hro : ∀ (i : Nat) (l : Loc), st[i]? = some (.live l) → l.rw = false)
    (hrun : isTrue (cl f args (listHeap l)) = true) (ha : VRels (statMp st) args args') : Calls P f args'.toArray W fun e W' => e = .returned (.bool true) ∧ Still W W' :=
  true_callsG hcl (listHeap_wf l) (fun N hN => list_rel hlen hb hinj N hN) hg (fun b l h => hro b l (statMp_get h (by simp))) hrun ha
end Go.AM
end
section
/- A listed variable that is a table of ints: what is known of its cells; its block. -/
namespace Go.AM
open Go.ChangeShapes Go.WideShapes
variable {P : Program} {W : World}

theorem laid_table {nm : String} {g t e N : Nat} {k : IntKind} {bs : List Int} (hL : laidMet P [(nm, .agg (bs.map fun b => .lit (.int k b)))] W) (hg : P.globalNamed nm = some g) (ht : (P.globals[g]?).map (·.type) = some t) (hu : P.underlying t = some (.array N e))
    (he : P.underlying e = some (.int k)) (hc : P.cellsOf e = 1) (hct : P.cellsOf t = N) (hlen : bs.length = N) :
    ∃ cs el fr, W.heap[g]? = some (.cells cs el fr) ∧ cs.size = N ∧ ∀ i, i < N → cs[i]? = (bs.map (Value.int k))[i]? := by
  obtain ⟨ps, ⟨g', t', cs, fuel, p, q, hg', ht', hv, hd, _, _⟩, _, _⟩ := hL
  obtain rfl := Option.some.inj (hg.symm.trans hg')
  obtain rfl := Option.some.inj (ht.symm.trans ht')
  obtain ⟨xs, m, _, ex, hcl, hl, hel⟩ := DataW.trod_array hu hd
  have hheap : ∃ el fr, W.heap[g]? = some (.cells cs el fr) := by
    simp only [World.var?, hg, Option.bind_some] at hv
    split at hv <;> try (simp at hv; done)
    rename_i cs' el fr hh
    simp only [Option.some.injEq] at hv
    subst hv
    exact ⟨el, fr, hh⟩
  obtain ⟨el, fr, hh⟩ := hheap
  have hsz : cs.size = N := by rw [← hct, ← hcl]; simp
  refine ⟨cs, el, fr, hh, hsz, fun i hi => ?_⟩
  have hE := hel i hi
  rw [hc, Nat.mul_one, List.getElem?_eq_getElem (by omega)] at hE
  obtain ⟨z, e1, e2, _⟩ := DataW.trod_int he hE
  have e3 : (xs.map (·.1)) = bs.map fun n => .lit (.int k n) := (DataW.agg.inj (Prod.mk.inj ex).1).symm
  have e4 : (xs.map (·.1))[i]? = (bs.map fun n => (DataW.lit (.int k n) : DataW Unit))[i]? := by rw [e3]
  rw [List.getElem?_map, List.getElem?_map, List.getElem?_eq_getElem (by omega : i < xs.length), List.getElem?_eq_getElem (by omega : i < bs.length), e2] at e4
  have hz : z = bs[i]'(by omega) := by
    simp only [Option.map_some, Option.some.injEq, DataW.lit.injEq, Lit.int.injEq, true_and] at e4
    exact e4
  rw [List.getElem?_map, List.getElem?_eq_getElem (by omega : i < bs.length), Option.map_some, ← hz]
  have h0 : ((cs.toList.drop i).take 1)[0]? = some (.int k z) := by rw [e1]; rfl
  have : cs.toList[i]? = some (.int k z) := by simpa using h0
  simpa using this

/-- a table's block. -/
noncomputable def tabBlk (k : IntKind) (bs : List Int) : Blk := .cells (ofList (bs.map (Value.int k))) bs.length .ro
theorem tab_rel {m : Mp} {g : Nat} {k : IntKind} {bs : List Int} {cs : Array Value} {el : TypeId} {fr : Nat × Nat} (h1 : W.heap[g]? = some (.cells cs el fr)) (h2 : cs.size = bs.length) (h3 : ∀ i, i < bs.length → cs[i]? = (bs.map (Value.int k))[i]?) :
    BRel m W (.live ⟨g, 0, 0, bs.length, bs.length, false⟩) (some (tabBlk k bs)) := by
  refine ⟨rfl, cs, el, fr, h1, h2, by simp, ⟨rfl, rfl⟩, fun i hi => ?_⟩
  have h4 := h3 i hi
  rw [List.getElem?_map, List.getElem?_eq_getElem (by omega : i < bs.length), Option.map_some] at h4
  refine ⟨_, _, ?_, by rw [Nat.zero_add]; exact h4, rfl, .int _ _⟩
  rw [get_ofList, List.getElem?_map, List.getElem?_eq_getElem (by omega : i < bs.length), Option.map_some]
end Go.AM
end
section
/- Seats whose rows list a table: calls from heaps that hold the table at its place (what lies ahead of it: not looked at), then tokens. -/
namespace Go.AM
open Go.ChangeShapes Go.WideShapes
variable {P : Program} {W : World}

theorem cell_one {r : Reach} {base : Nat} {u : TypeId} {x : Value} (h : Cell.okWide P W r base u x) : x.oneCell' = true := by
  unfold Cell.okWide at h
  cases x <;> first | rfl | (exfalso; split at h <;> first | (simp_all; done) | (unfold Cell.ok at h; split at h <;> simp_all))
/-- a struct of which nothing is known. -/
theorem any_cells {m : Mp} : ∀ (l : List Value), (∀ v ∈ l, v.oneCell' = true) → VRels m (List.replicate l.length (.chan none)) l
  | [], _ => .nil
  | v :: r, h => .cons _ _ _ _ (.any v (h v (by simp))) (any_cells r fun x hx => h x (by simp [hx]))

theorem struct_cells {r : Reach} {base : Nat} {t : TypeId} {v : Value} (hu : (match P.underlying t with | some (.struct _) => true | _ => false) = true) (h : Value.okWide P W r base t v) :
    ∃ cs, v = .agg cs ∧ cs.size = P.cellsOf t ∧ ∀ x ∈ cs.toList, x.oneCell' = true := by
  unfold Value.okWide at h
  split at hu <;> try (simp at hu; done)
  rename_i fs hfs
  simp only [hfs] at h
  obtain ⟨cs, rfl, h1, ts', h2, _, h4⟩ := h
  refine ⟨cs, rfl, h1, fun x hx => ?_⟩
  obtain ⟨i, hi⟩ := List.getElem?_of_mem hx
  obtain ⟨u, _, h5⟩ := h4 i x (by rw [← Array.getElem?_toList]; exact hi)
  exact cell_one h5
noncomputable def doorL (g : Nat) (k : IntKind) (bs : List Int) : List Blk := List.replicate g .dead ++ [tabBlk k bs]
def doorS (g : Nat) (bs : List Int) : List Stat := List.replicate g .dead ++ [.live ⟨g, 0, 0, bs.length, bs.length, false⟩]
theorem door_calls {cl : Caller} {g : Nat} {k : IntKind} {bs : List Int} (hcl : CallOk P (g + 1) cl) {f : FuncId} {args args' : List Value} {ex : List Blk} {exs : List Stat} (hlen : exs.length = ex.length) (hq : exs.all Stat.quiet = true)
    (hb : ∀ (i : Nat) (s : Stat) (b : Blk), exs[i]? = some s → ex[i]? = some b → BRel (statMp (doorS g bs ++ exs)) W s (some b)) {cs : Array Value} {el : TypeId} {fr : Nat × Nat} (h1 : W.heap[g]? = some (.cells cs el fr)) (h2 : cs.size = bs.length) (h3 : ∀ i, i < bs.length → cs[i]? = (bs.map (Value.int k))[i]?)
    (hrun : isTrue (cl f args (listHeap (doorL g k bs ++ ex))) = true) (ha : VRels (statMp (doorS g bs ++ exs)) args args') :
    Calls P f args'.toArray W fun e W' => e = .returned (.bool true) ∧ Still W W' := by
  have lS : (doorS g bs).length = g + 1 := by simp [doorS]
  have lL : (doorL g k bs).length = g + 1 := by simp [doorL]
  have live : ∀ (i : Nat) (l : Loc), (doorS g bs ++ exs)[i]? = some (.live l) → i = g ∧ l = ⟨g, 0, 0, bs.length, bs.length, false⟩ := by
    intro i l h
    by_cases hi : i < g + 1
    · rw [List.getElem?_append_left (by omega)] at h
      unfold doorS at h
      by_cases hg : i < g
      · rw [List.getElem?_append_left (by simpa using hg), List.getElem?_replicate] at h
        rw [if_pos hg] at h
        cases h
      · have : i = g := by omega
        subst this
        rw [List.getElem?_append_right (by simp)] at h
        simp at h
        exact ⟨rfl, h.symm⟩
    · rw [List.getElem?_append_right (by omega)] at h
      have := List.all_eq_true.1 hq _ (List.mem_of_getElem? h)
      simp [Stat.quiet] at this
  refine true_list hcl (by simp [lS, lL, hlen]) ?_ (fun i j l1 l2 g1 g2 _ => by rw [(live i l1 g1).1, (live j l2 g2).1]) ?_ (fun i l h => by rw [(live i l h).2]) hrun ha
  · intro i s b hs hbk
    by_cases hi : i < g + 1
    · rw [List.getElem?_append_left (by omega)] at hs
      rw [List.getElem?_append_left (by omega)] at hbk
      unfold doorS at hs
      unfold doorL at hbk
      by_cases hg : i < g
      · rw [List.getElem?_append_left (by simpa using hg), List.getElem?_replicate, if_pos hg] at hs
        rw [List.getElem?_append_left (by simpa using hg), List.getElem?_replicate, if_pos hg] at hbk
        cases hs; cases hbk
        trivial
      · have : i = g := by omega
        subst this
        rw [List.getElem?_append_right (by simp)] at hs hbk
        simp at hs hbk
        subst hs; subst hbk
        exact tab_rel h1 h2 h3
    · rw [List.getElem?_append_right (by omega), lS] at hs
      rw [List.getElem?_append_right (by omega), lL] at hbk
      exact hb _ s b hs hbk
  · intro i hi
    have hi : i < g + 1 := hi
    have : statMp (doorS g bs ++ exs) i = ((doorS g bs)[i]?).getD .fresh := by
      unfold statMp
      rw [List.getElem?_append_left (by omega)]
    rw [this]
    unfold doorS
    by_cases hg : i < g
    · rw [List.getElem?_append_left (by simpa using hg), List.getElem?_replicate, if_pos hg]
      exact .inr rfl
    · have : i = g := by omega
      subst this
      rw [List.getElem?_append_right (by simp)]
      exact .inl ⟨⟨i, 0, 0, bs.length, bs.length, false⟩, by simp, rfl, rfl, rfl⟩
end Go.AM
end
section
/- A call without arguments that gave true in a run of its own: a special for it, in a seat whose rows list a table. -/
namespace Go.AM
variable {P : Program}

noncomputable def trueF (g : Nat) (k : IntKind) (bs : List Int) (_ : Caller) (args : List Value) (h : Heap) : Option (Out × Heap) :=
  match args with
  | [] => cond (beqB (h.get g) (some (tabBlk k bs))) (some (.ret (.bool true), h)) none
  | _ => none
def orSpec (a b : Special) : Special := fun f => match a f with
  | some F => some F
  | none => b f
theorem orSpec_ok {ng : Nat} {a b : Special} (ha : SpecOk P ng a) (hb : SpecOk P ng b) : SpecOk P ng (orSpec a b) := by
  intro f G hG cl hcl
  unfold orSpec at hG
  split at hG
  · rename_i F hF
    simp only [Option.some.injEq] at hG
    subst hG
    exact ha f F hF cl hcl
  · exact hb f G hG cl hcl

theorem trueF_ok {g : Nat} {k : IntKind} {bs : List Int} {cl0 : Caller} (hcl0 : CallOk P (g + 1) cl0) {f : FuncId} (hrun : isTrue (cl0 f [] (listHeap (doorL g k bs ++ []))) = true) (cl : Caller) : CallOkAt P (g + 1) f (trueF g k bs cl) := by
  cases hq : cl0 f [] (listHeap (doorL g k bs ++ [])) with
  | none => rw [hq] at hrun; simp [isTrue] at hrun
  | some q =>
    obtain ⟨o0, h0⟩ := q
    rw [hq] at hrun
    have ho : o0 = .ret (.bool true) := by
      unfold isTrue at hrun
      split at hrun
      · rename_i b _ heq
        simp only [Option.some.injEq, Prod.mk.injEq] at heq
        rw [heq.1, hrun]
      · simp at hrun
    subst ho
    obtain ⟨hen, _, hnx, hc⟩ := hcl0 f [] _ _ h0 hq (listHeap_wf _)
    intro args h o h' hr hwf
    unfold trueF at hr
    split at hr <;> try (simp at hr; done)
    cases hb : beqB (h.get g) (some (tabBlk k bs)) with
    | false => rw [hb] at hr; simp at hr
    | true =>
      rw [hb] at hr
      simp only [cond_true, Option.some.injEq, Prod.mk.injEq] at hr
      obtain ⟨rfl, rfl⟩ := hr
      have hg := beqB_eq hb
      refine ⟨hen, hwf, Nat.le_refl _, fun N F m w args' hN hh hgl ha => ?_⟩
      cases ha
      have hbr := hh.at hwf hN hg
      -- the table's place
      obtain ⟨l, hm, hl1, hl2, hl3⟩ : ∃ l, m g = .live l ∧ l.cb = g ∧ l.sh = 0 ∧ l.rw = false := by
        rcases hgl g (Nat.lt_succ_self g) with ⟨l, h1, h2, h3, h4⟩ | h1
        · exact ⟨l, h1, h2, h3, h4⟩
        · rw [h1] at hbr; exact hbr.elim
      rw [hm] at hbr
      obtain ⟨b1, c, el, fr, b2, b3, b4, b5, b6⟩ := hbr
      let M0 : Mp := fun b => if b < g then .dead else if b = g then .live l else .fresh
      have hM : ∀ b l', M0 b = .live l' → b = g ∧ l' = l := by
        intro b l' hb'
        by_cases h1 : b < g
        · simp only [M0, if_pos h1] at hb'; cases hb'
        · by_cases h2 : b = g
          · simp only [M0, if_neg h1, if_pos h2] at hb'; cases hb'; exact ⟨h2, rfl⟩
          · simp only [M0, if_neg h1, if_neg h2] at hb'; cases hb'
      have hMg : M0 g = .live l := by simp [M0]
      have hrel : HRel M0 (mix (listHeap (doorL g k bs ++ [])) h0.nx fun _ => none) w := by
        refine ⟨fun b => ?_, fun b b' l1 l2 h1 h2 _ _ => by rw [(hM b l1 h1).1, (hM b' l2 h2).1]⟩
        have hlen : (doorL g k bs ++ []).length = g + 1 := by simp [doorL]
        have hnx' : g + 1 ≤ h0.nx := by rw [← hlen]; exact hnx
        unfold mix
        rw [listHeap_get]
        by_cases h1 : b < g
        · have e : (doorL g k bs ++ [])[b]? = some .dead := by
            rw [List.append_nil]; unfold doorL
            rw [List.getElem?_append_left (by simpa using h1), List.getElem?_replicate, if_pos h1]
          rw [if_pos (by omega), e]
          simp only [M0, if_pos h1]
          trivial
        · by_cases h2 : b = g
          · subst h2
            have e : (doorL b k bs ++ [])[b]? = some (tabBlk k bs) := by
              rw [List.append_nil]; unfold doorL
              rw [List.getElem?_append_right (by simp)]
              simp
            rw [if_pos (by omega), e, hMg]
            refine ⟨b1, c, el, fr, b2, b3, b4, b5, fun i hi => ?_⟩
            obtain ⟨v, v', a1, a2, a3, a4⟩ := b6 i hi
            refine ⟨v, v', a1, a2, a3, ?_⟩
            rw [get_ofList, List.getElem?_map, List.getElem?_eq_getElem hi, Option.map_some] at a1
            simp only [Option.some.injEq] at a1
            subst a1
            cases a4
            exact .int _ _
          · have e : (doorL g k bs ++ [])[b]? = none := List.getElem?_eq_none (by rw [hlen]; omega)
            rw [e]
            simp only [M0, if_neg h1, if_neg h2]
            split <;> trivial
      refine (hc h0.nx (fun _ => none) M0 w [] (Nat.le_refl _) hrel ?_ .nil).mono ?_
      · intro x hx
        by_cases h1 : x < g
        · exact .inr (by simp [M0, h1])
        · have : x = g := by omega
          subst this
          exact .inl ⟨l, hMg, hl1, hl2, hl3⟩
      · rintro e w' ⟨m', ⟨v', rfl, hv⟩, _, hst⟩
        cases hv
        have hkeep : ∀ cb, cb < w.heap.size → w'.heap[cb]? = w.heap[cb]? := fun cb hcb => hst.keep cb hcb fun b l' hl' hrw => by
          rw [(hM b l' hl').2, hl3] at hrw; cases hrw
        refine ⟨m, ⟨_, rfl, .bool true⟩, ⟨fun b => (hh.blk b).mono (.refl m) fun l' hl' => hkeep _ (hh.lt hl'), hh.inj⟩, ?_⟩
        exact ⟨.refl m, hst.size, hst.os, hst.out, fun cb hcb _ => hkeep cb hcb, fun b l' hl' hr' => .inr ⟨b, l', hl', hr', rfl⟩, fun b l' hl' _ => hl'⟩
end Go.AM
end
section
/- A function that defers one closure of its own, which recovers: what the two come to, by the machine. -/
namespace Go.AM
variable {P : Program} {ng : Nat}

/-- The pieces: what stands ahead of 'defer', the guard with its early end; the cell of the result; whom it calls; what the closure does with what it recovered. -/
structure TryCode where
  (fn fnd : Func)
  (r0 g rest : Code)
  (tp td tr t1 : Tmp)
  (et : TypeId)
  (z : Value)

noncomputable def tryEnd (P : Program) (T : TryCode) (cl : Caller) (fuel : Nat) (p v : Value) (h : Heap) : Option (Out × Heap) :=
  match engine P cl fuel T.rest (Env.put (Env.put (storeL .leaf 0 [p]) (some T.tr) v) (some T.t1) v) h with
  | some (.normal, _, h4) => match effLoad P T.et p h4.get with
    | some f => some (.ret f.val, h4)
    | none => none
  | _ => none
noncomputable def tryF (P : Program) (T : TryCode) (fuel : Nat) (cl : Caller) (args : List Value) (h : Heap) : Option (Out × Heap) :=
  match engine P cl fuel T.r0 (storeL .leaf 0 args) h with
  | some (.normal, e0, h0) => match engine P cl fuel T.g e0 h0 with
    | some (.ret, e1, h1) => match resultV P e1 h1 T.fn.results.toList with
      | some v => some (.ret v, h1)
      | none => none
    | some (.normal, e1, h1) => match e1.at T.td with
      | .func (.func f) first captured => match cl f (first.toList ++ captured.toList) h1 with
        | some (.ret _, h2) => match effStore P T.et (e1.at T.tp) T.z h2.get with
          | some f => tryEnd P T cl fuel (e1.at T.tp) .nilIface (h2.apply f)
          | none => none
        | some (.pan v, h2) => tryEnd P T cl fuel (e1.at T.tp) v h2
        | none => none
      | _ => none
    | _ => none
  | _ => none

theorem put_ne {a : Act} {d : Option Tmp} {v : Value} {t : Tmp} (h : d ≠ some t) : (a.put d v).tmps.getD t undef = a.tmps.getD t undef := by
  cases d with
  | none => rfl
  | some d =>
    have : d ≠ t := fun e => h (by rw [e])
    simp [Act.put, Array.getElem?_setIfInBounds_ne this]
theorem put_eq {a : Act} {d : Tmp} {v : Value} (h : d < a.tmps.size) : (a.put (some d) v).tmps.getD d undef = v := by
  simp [Act.put, h]
theorem put_size {a : Act} {d : Option Tmp} {v : Value} : (a.put d v).tmps.size = a.tmps.size := by
  cases d <;> simp [Act.put]
theorem put_def {a : Act} {d : Option Tmp} {v : Value} : (a.put d v).defers = a.defers := by
  cases d <;> rfl
theorem wanted_noneT {o : Oper} (h : o.guard = none) (f : Nat → Option Bool) : Region.wanted o f = true := by simp [Region.wanted, h]

section
variable {T : TryCode} {f fd : FuncId} {i3 i4 i5 i0 : Nat} {mk df mv cal st rc as1 : Oper} {tf t8 : Tmp} {at1 at2 at3 : Array TypeId} {cl : Caller} {fuel : Nat}

theorem tryF_ok (hm : P.follows .mixedOrders = true) (hcl : CallOk P ng cl) (hf : P.funcs[f]? = some T.fn) (hok : T.fn.name != "runtime.NumGoroutine")
    (hb : T.fn.body = some (.seq T.r0 (.seq T.g (.seq (.region i3 #[mk, df] false) (.seq (.region i4 #[mv, cal] false) (.seq (.region i5 #[st] false) .ret))))))
    (hres : T.fn.results = #[.cell T.tp T.et])
    (hmk : mk.op = .makeFunc (.func fd) #[] #[.tmp T.tp] ∧ mk.dst = some tf ∧ mk.guard = none) (hdf : df.op = .defer ⟨.value (.tmp tf), #[], at1⟩ ∧ df.dst = none ∧ df.guard = none)
    (hmv : mv.op = .move (.tmp T.td) ∧ mv.dst = some t8 ∧ mv.guard = none) (hcal : cal.op = .call ⟨.value (.tmp t8), #[], at2⟩ ∧ cal.dst ≠ some T.tp ∧ cal.guard = none)
    (hst : st.op = .store T.et (.tmp T.tp) (.const T.z) ∧ plainV T.z = true ∧ st.dst = none ∧ st.guard = none)
    (hlt : tf < T.fn.ntmps ∧ t8 < T.fn.ntmps ∧ tf ≠ T.tp ∧ t8 ≠ T.tp ∧ tf ≠ T.td)
    (hfd : P.funcs[fd]? = some T.fnd) (hokd : T.fnd.name != "runtime.NumGoroutine") (hbd : T.fnd.body = some (.seq (.region i0 #[rc, as1] false) T.rest)) (hresd : T.fnd.results = #[])
    (hrc : rc.op = .call ⟨.builtin .recover, #[], at3⟩ ∧ rc.dst = some T.tr ∧ rc.guard = none) (has : as1.op = .assign (.tmp T.tr) ∧ as1.dst = some T.t1 ∧ as1.guard = none)
    (hltd : T.tr < T.fnd.ntmps ∧ T.t1 < T.fnd.ntmps) (ok0 : codeOk ng T.fn.ntmps T.r0 = true) (okg : codeOk ng T.fn.ntmps T.g = true) (okr : codeOk ng T.fnd.ntmps T.rest = true) :
    CallOkAt P ng f (tryF P T fuel cl) := by
  have enter : ∀ {f : FuncId} {fn : Func}, P.funcs[f]? = some fn → (fn.name != "runtime.NumGoroutine") = true → (∃ c, fn.body = some c) → Enter P f := by
    intro f fn h1 h2 ⟨c, h3⟩ args w
    simp only [bne_iff_ne, ne_eq] at h2
    simp [callFunc, h1, h2, h3]
  letI i1 : Ds T.fn.ntmps := ⟨[]⟩
  letI i2 : Ds T.fnd.ntmps := ⟨[]⟩
  intro args h o h' hr hwf
  refine ⟨enter hf hok ⟨_, hb⟩, ?_⟩
  -- the way the closure ends it
  have fin : ∀ (p v : Value) (h3 : Heap), tryEnd P T cl fuel p v h3 = some (o, h') → HWf h3 → HWf h' ∧ h3.nx ≤ h'.nx ∧
      ∀ (N : Nat) (F : Nat → Option Blk) (m : Mp) (w : World) (p' v' : Value) (tmps : Array Value) (R : Ending → World → Prop) (u : FrameMode), h'.nx ≤ N → HRel m (mix h3 N F) w → GlobOk ng m → VRel m p p' → VRel m v v' →
        tmps.getD T.tp undef = p' → ((v' = .nilIface ∧ u = .returning) ∨ u = .panicking [{ v := v', recovered := false }]) →
        (∀ m' w' e, ORel m' o e → HRel m' (mix h' N F) w' → Step m w m' w' → R e w') →
        Leaves P T.fn tmps R [{ target := .fn (.func fd) #[p'], args := #[] }] u w := by
    intro p v h3 hr hwf3
    unfold tryEnd at hr
    split at hr <;> try (simp at hr; done)
    rename_i e4 h4 hrun
    split at hr <;> try (simp at hr; done)
    rename_i fl hl
    simp only [Option.some.injEq, Prod.mk.injEq] at hr
    obtain ⟨rfl, rfl⟩ := hr
    obtain ⟨a1, a2, a3⟩ := (engine_ok hm hcl fuel).1 _ _ _ _ _ _ okr hrun hwf3
    refine ⟨a1, a2, fun N F m w p' v' tmps R u hN hh hg hp hv htp hu hR => ?_⟩
    refine ⟨by rcases hu with ⟨_, rfl⟩ | rfl <;> simp, .func fd, #[p'], fd, #[p'], rfl, ?_, ?_⟩
    · show (callFunc fd (#[] ++ #[p'])).run P w = _
      rw [enter hfd hokd ⟨_, hbd⟩]
      rfl
    · refine callsD_of_wpS hfd hbd fun c₀ cs hc => ?_
      apply wpS_seq
      apply wpS_region
      have hsz : ∀ t, t < T.fnd.ntmps → t < (#[p'] ++ Array.replicate (T.fnd.ntmps - (#[p'] : Array Value).size) undef).size := by
        intro t ht
        simp
        omega
      generalize hA : ({ tmps := #[p'] ++ Array.replicate (T.fnd.ntmps - (#[p'] : Array Value).size) undef, defers := [] } : Act) = A
      have hAr : ARel m (Env.at (storeL .leaf 0 [p])) A T.fnd.ntmps := by
        rw [← hA]
        exact args_rel (args := [p]) (args' := [p']) (.cons _ _ _ _ hp .nil) T.fnd.ntmps
      have hAsz : ∀ t, t < T.fnd.ntmps → t < A.tmps.size := by rw [← hA]; exact hsz
      -- what comes behind 'recover'
      have key : ∀ cs' u', cs' = { c₀ with mode := u' } :: cs → settle u' = .returning →
          wpOpsS P #[rc, as1] (Exit.thenS (T.rest.wpS P (bodyPostS P T.fnd c₀ cs fun
            | .returned _, u', w' => Leaves P T.fn tmps R [] (settle u') w'
            | .panicked chain, u', w' => Leaves P T.fn tmps R [] (raised u' chain) w'
            | .outgrown, _, w' => R .outgrown w')) (bodyPostS P T.fnd c₀ cs fun
            | .returned _, u', w' => Leaves P T.fn tmps R [] (settle u') w'
            | .panicked chain, u', w' => Leaves P T.fn tmps R [] (raised u' chain) w'
            | .outgrown, _, w' => R .outgrown w')) [1] (A.put rc.dst v') cs' w := by
        intro cs' u' hcs hset
        have hev : (A.put rc.dst v').eval (.tmp T.tr) = v' := by
          rw [hrc.2.1]
          exact put_eq (hAsz _ hltd.1)
        have hex : (execOp (A.put rc.dst v').eval as1).run P w = .ok (.value v') w := by
          simp only [execOp, has.1, hev, Sem.run_pure]
        unfold wpOpsS
        simp only [List.getElem?_toArray, List.getElem?_cons_succ, List.getElem?_cons_zero]
        rw [if_pos (wanted_noneT has.2.2 _)]
        rw [hex]
        show T.rest.wpS P _ ((A.put rc.dst v').put as1.dst v') cs' w
        apply wpS_of_wp
        have hAr2 : ARel m (Env.at (Env.put (Env.put (storeL .leaf 0 [p]) (some T.tr) v) (some T.t1) v)) ((A.put rc.dst v').put as1.dst v') T.fnd.ntmps := by
          rw [Env.put_at, Env.put_at, hrc.2.1, has.2.1]
          refine (hAr.put hv ?_).put hv ?_
          · intro t ht; cases ht; exact hltd.1
          · intro t ht; cases ht; exact hltd.2
        refine a3 N F m w _ _ hN hh hg hAr2 ?_
        intro m' w' a' x q1 q2 q3 q4
        have : x = .normal := q4
        subst this
        refine ⟨q3.def_, u', hcs, .tuple #[], ?_, ?_⟩
        · rw [results_eq, hresd]; simp
        · show Leaves P T.fn tmps R [] (settle u') w'
          rw [hset]
          obtain ⟨v2, b1, b2⟩ := load_pure q1 a1 hN (hp.mono q2.ext) hl
          refine ⟨v2, ?_, hR m' w' _ ⟨v2, rfl, b2⟩ q1 q2⟩
          rw [results_eq, hres]
          have e1 : (#[ResultVar.cell T.tp T.et].mapM (resSem tmps)).run P w' = .ok #[v2] w' := by
            simp only [Array.mapM_eq_mapM_toList, List.mapM_cons, List.mapM_nil, resSem, htp, Sem.run_map, Sem.run_bind, b1, Result.andThen_ok, Sem.run_pure]
          simp only [Sem.run_bind, e1, Result.andThen_ok, Sem.run_pure]
          rfl
      have hex : (execOp A.eval rc).run P w = .ok .recover w := by
        simp only [execOp, hrc.1, resolve, Sem.run_bind, Sem.run_pure, Result.andThen_ok, invoke]
        rfl
      show wpOpsS P #[rc, as1] _ [0, 1] A (c₀ :: cs) w
      unfold wpOpsS
      simp only [List.getElem?_toArray, List.getElem?_cons_zero]
      rw [if_pos (wanted_noneT hrc.2.2 _)]
      rw [hex]
      rcases hu with ⟨rfl, rfl⟩ | rfl
      · have hrd : recoverD (c₀ :: cs) = none := by simp [recoverD, hc]
        simp only [hrd]
        exact key (c₀ :: cs) .returning (by cases c₀; simp_all) rfl
      · have hrd : recoverD (c₀ :: cs) = some (v', { c₀ with mode := .panicking [{ v := v', recovered := true }] } :: cs) := by simp [recoverD, hc]
        simp only [hrd]
        exact key _ (.panicking [{ v := v', recovered := true }]) rfl rfl
  -- the function itself
  unfold tryF at hr
  split at hr <;> try (simp at hr; done)
  rename_i e0 h0 hr0
  have c0 := (engine_ok hm hcl fuel).1 _ _ _ _ _ _ ok0 hr0 hwf
  obtain ⟨w0, n0, k0⟩ := c0
  split at hr <;> try (simp at hr; done)
  · -- the early end
    rename_i e1 h1 hrg
    obtain ⟨w1, n1, k1⟩ := (engine_ok hm hcl fuel).1 _ _ _ _ _ _ okg hrg w0
    split at hr <;> try (simp at hr; done)
    rename_i v hv
    simp only [Option.some.injEq, Prod.mk.injEq] at hr
    obtain ⟨rfl, rfl⟩ := hr
    refine ⟨w1, Nat.le_trans n0 n1, fun N F m w args' hN hh hg ha => calls_of_wp_defers hf hb (wp_seq ?_)⟩
    refine k0 N F m w _ _ (Nat.le_trans n1 hN) hh hg (args_rel ha _) ?_
    intro m1 x1 a1 x q1 q2 q3 q4
    have : x = .normal := q4
    subst this
    refine wp_seq ?_
    refine k1 N F m1 x1 a1 _ hN q1 (hg.mono q2.ext) q3 ?_
    intro m2 x2 a2 x p1 p2 p3 p4
    have : x = .ret := p4
    subst this
    show Leaves P T.fn a2.tmps _ a2.defers .returning x2
    rw [p3.def_]
    obtain ⟨v', r1, r2⟩ := resultV_ok p1 w1 hN p3 hv
    exact ⟨v', r1, m2, ⟨v', rfl, r2⟩, p1, q2.trans p2⟩
  · rename_i e1 h1 hrg
    obtain ⟨w1, n1, k1⟩ := (engine_ok hm hcl fuel).1 _ _ _ _ _ _ okg hrg w0
    split at hr <;> try (simp at hr; done)
    rename_i fc first captured hdo
    -- what is done up to the call, then what is known of the call
    have front : ∀ (h2 : Heap) (oc : Out), cl fc (first.toList ++ captured.toList) h1 = some (oc, h2) → HWf h2 ∧ h1.nx ≤ h2.nx ∧
        ∀ (N : Nat) (F : Nat → Option Blk) (m : Mp) (w : World) (args' : List Value) (R : Ending → World → Prop), h2.nx ≤ N → HRel m (mix h N F) w → GlobOk ng m → VRels m args args' →
          (∀ m' w' (a : Act) p', HRel m' (mix h2 N F) w' → Step m w m' w' → VRel m' (e1.at T.tp) p' → a.tmps.getD T.tp undef = p' → a.defers = [{ target := .fn (.func fd) #[p'], args := #[] }] → a.tmps.size ≥ T.fn.ntmps →
            (match oc with
              | .ret _ => (Code.seq (.region i5 #[st] false) .ret).wp P (bodyPostD P T.fn R) a w'
              | .pan v => ∀ v', VRel m' v v' → Leaves P T.fn a.tmps R a.defers (.panicking [{ v := v', recovered := false }]) w')) →
          Calls P f args'.toArray w R := by
      intro h2 oc hq
      obtain ⟨hen, w2, n2, hcall⟩ := hcl _ _ _ _ _ hq w1
      refine ⟨w2, n2, fun N F m w args' R hN hh hg ha hK => calls_of_wp_defers hf hb (wp_seq ?_)⟩
      refine k0 N F m w _ _ (by omega) hh hg (args_rel ha _) ?_
      intro m1 x1 a1 x q1 q2 q3 q4
      have : x = .normal := q4
      subst this
      refine wp_seq ?_
      refine k1 N F m1 x1 a1 _ (by omega) q1 (hg.mono q2.ext) q3 ?_
      intro m2 x2 a2 x p1 p2 p3 p4
      have : x = .normal := p4
      subst this
      have hst2 := q2.trans p2
      -- the closure is made and deferred
      refine wp_seq (wp_region ?_)
      show wpOps P #[mk, df] _ [0, 1] a2 x2
      generalize hp' : a2.tmps.getD T.tp undef = p'
      have hvp : VRel m2 (e1.at T.tp) p' := by rw [← hp']; exact p3.tm T.tp
      refine wpOps_step (o := mk) rfl (wanted_noneT hmk.2.2 _) ?_
      have e1mk : a2.eval (.tmp T.tp) = p' := hp'
      refine op_value (w' := x2) (v := .func (.func fd) #[] #[p']) ?_ ?_
      · simp [execOp, hmk.1, Instr.makeFunc, e1mk]
      refine wpOps_step (o := df) rfl (wanted_noneT hdf.2.2 _) ?_
      have hev : (a2.put mk.dst (.func (.func fd) #[] #[p'])).eval (.tmp tf) = .func (.func fd) #[] #[p'] := by
        rw [hmk.2.1]
        exact put_eq (Nat.lt_of_lt_of_le hlt.1 p3.size)
      unfold Oper.wp
      have hexd : (execOp (a2.put mk.dst (.func (.func fd) #[] #[p'])).eval df).run P x2 = .ok (.defer { target := .fn (.func fd) #[p'], args := #[] }) x2 := by
        simp [execOp, hdf.1, resolve, hev, Deferred.ofValue]
      rw [hexd]
      rw [Oper.upon_defer]
      rw [hdf.2.1, put_def, p3.def_]
      generalize hA3 : (Act.put { (a2.put mk.dst (.func (.func fd) #[] #[p'])) with defers := [{ target := .fn (.func fd) #[p'], args := #[] }] } none undef) = a3
      have t3 : ∀ t, t ≠ tf → a3.tmps.getD t undef = a2.tmps.getD t undef := by
        intro t ht
        rw [← hA3]
        show (a2.put mk.dst (.func (.func fd) #[] #[p'])).tmps.getD t undef = _
        rw [hmk.2.1]
        exact put_ne (by simpa using Ne.symm ht)
      have s3 : a3.tmps.size = a2.tmps.size := by
        rw [← hA3]
        show (a2.put mk.dst (.func (.func fd) #[] #[p'])).tmps.size = _
        exact put_size
      have d3 : a3.defers = [{ target := .fn (.func fd) #[p'], args := #[] }] := by rw [← hA3]; rfl
      -- the call
      refine wp_seq (wp_region ?_)
      show wpOps P #[mv, cal] _ [0, 1] a3 x2
      refine wpOps_step (o := mv) rfl (wanted_noneT hmv.2.2 _) ?_
      have hvd : VRel m2 (.func (.func fc) first captured) (a3.eval (.tmp T.td)) := by
        show VRel m2 _ (a3.tmps.getD T.td undef)
        rw [t3 _ (Ne.symm hlt.2.2.2.2), ← hdo]
        exact p3.tm T.td
      generalize hdv : a3.eval (.tmp T.td) = dv at hvd
      refine op_value (w' := x2) (v := dv) (by simp only [execOp, hmv.1, hdv, Sem.run_pure]) ?_
      refine wpOps_step (o := cal) rfl (wanted_noneT hcal.2.2 _) ?_
      have hev8 : (a3.put mv.dst dv).eval (.tmp t8) = dv := by
        rw [hmv.2.1]
        exact put_eq (Nat.lt_of_lt_of_le hlt.2.1 (by rw [s3]; exact p3.size))
      cases hvd with
      | func _ _ _ first' captured' g1 g2 =>
      unfold Oper.wp
      have hexc : (execOp (a3.put mv.dst (.func (.func fc) first' captured')).eval cal).run P x2 = .ok (.enter fc (first'.toList ++ captured'.toList).toArray) x2 := by
        simp only [execOp, hcal.1, resolve, hev8, Deferred.ofValue, Sem.run_bind, Sem.run_pure, Result.andThen_ok, invoke]
        rw [hen]
        congr 2
        apply Array.ext'
        simp
      rw [hexc]
      show Calls P fc _ x2 _
      refine (hcall N F m2 x2 _ hN p1 (hg.mono hst2.ext) (g1.append g2)).mono ?_
      rintro e x3 ⟨m3, ho, r1, r2⟩
      have base : ∀ a4 : Act, a4.tmps.getD T.tp undef = a3.tmps.getD T.tp undef → a4.defers = a3.defers → a4.tmps.size = a3.tmps.size → (match (generalizing := false) oc with
              | .ret _ => (Code.seq (.region i5 #[st] false) .ret).wp P (bodyPostD P T.fn R) a4 x3
              | .pan v => ∀ v', VRel m3 v v' → Leaves P T.fn a4.tmps R a4.defers (.panicking [{ v := v', recovered := false }]) x3) := by
        intro a4 z1 z2 z3
        refine hK m3 x3 a4 p' r1 (hst2.trans r2) (hvp.mono r2.ext) ?_ (by rw [z2, d3]) (by rw [z3, s3]; exact p3.size)
        rw [z1, t3 _ (Ne.symm hlt.2.2.1), hp']
      cases oc with
      | ret v =>
        obtain ⟨v', rfl, hv'⟩ := ho
        show (Code.seq (.region i5 #[st] false) .ret).wp P (bodyPostD P T.fn R) ((a3.put mv.dst _).put cal.dst v') x3
        refine base _ ?_ ?_ ?_
        · rw [put_ne hcal.2.1, put_ne (by rw [hmv.2.1]; simpa using hlt.2.2.2.1)]
        · rw [put_def, put_def]
        · rw [put_size, put_size]
      | pan v =>
        obtain ⟨v', rfl, hv'⟩ := ho
        show Leaves P T.fn (a3.put mv.dst _).tmps R (a3.put mv.dst _).defers (.panicking [{ v := v', recovered := false }]) x3
        exact base (a3.put mv.dst _) (put_ne (by rw [hmv.2.1]; simpa using hlt.2.2.2.1)) put_def put_size v' hv'
    split at hr <;> try (simp at hr; done)
    · -- it returned
      rename_i vr h2 hq
      obtain ⟨w2, n2, hfront⟩ := front _ _ hq
      split at hr <;> try (simp at hr; done)
      rename_i fs hfs
      have hap := HWf.apply w2 (f := fs) (eff_ok (op := .store T.et (.tmp T.tp) (.const T.z)) (ρ := fun y => match y with | .tmp t => e1.at t | .const v => v | .global g => .pointer (some ⟨g, 0, none⟩) | .func f => .func (.func f) #[] #[]) (nx := h2.nx) hfs)
      obtain ⟨w3, n3, hfin⟩ := fin _ _ _ hr hap.1
      refine ⟨w3, by omega, fun N F m w args' hN hh hg ha => hfront N F m w args' _ (by omega) hh hg ha ?_⟩
      intro m2 x2 a p' b1 b2 b3 b4 b5 b6
      show (Code.seq (.region i5 #[st] false) .ret).wp P _ a x2
      refine wp_seq (wp_region ?_)
      show wpOps P #[st] _ [0] a x2
      refine wpOps_step (o := st) rfl (wanted_noneT hst.2.2.2 _) ?_
      have heff : eff P st.op (fun y => match y with | .tmp t => e1.at t | .const v => v | .global g => .pointer (some ⟨g, 0, none⟩) | .func f => .func (.func f) #[] #[]) h2.get h2.nx = some fs := by
        rw [hst.1]; exact hfs
      obtain ⟨r, x3, m3, v3, g1, g2, g3, g4, g5⟩ := eff_does (ρ' := a.eval) b1 w2 (by omega) (by omega) (by
        rw [hst.1]
        intro y hy
        simp only [Op.operands] at hy
        rcases List.mem_cons.1 hy with rfl | hy
        · show VRel m2 (e1.at T.tp) (a.tmps.getD T.tp undef)
          rw [b4]; exact b3
        · rcases List.mem_cons.1 hy with rfl | hy
          · exact plainV_rel hst.2.1
          · simp at hy) heff
      have fin2 : ∀ v3', wpOps P #[st] (Exit.then (Code.ret.wp P (bodyPostD P T.fn fun e w' => ∃ m', ORel m' o e ∧ HRel m' (mix h' N F) w' ∧ Step m w m' w')) (bodyPostD P T.fn fun e w' => ∃ m', ORel m' o e ∧ HRel m' (mix h' N F) w' ∧ Step m w m' w')) [] (a.put st.dst v3') x3 := by
        intro v3'
        show Code.ret.wp P _ (a.put st.dst v3') x3
        refine wp_ret ?_
        show Leaves P T.fn (a.put st.dst v3').tmps _ (a.put st.dst v3').defers .returning x3
        rw [put_def, b5]
        refine hfin N F m3 x3 p' .nilIface _ _ .returning hN g4 (hg.mono (b2.trans g5).ext) (b3.mono g5.ext) .nilIface (by rw [put_ne (by rw [hst.2.2.1]; simp)]; exact b4) (.inl ⟨rfl, rfl⟩) ?_
        intro m4 x4 e u1 u2 u3
        exact ⟨m4, u1, u2, (b2.trans g5).trans u3⟩
      unfold Oper.wp
      rw [g1]
      rcases g2 with rfl | ⟨rfl, rfl⟩
      · exact fin2 _
      · exact fin2 _
    · -- it panicked
      rename_i vp h2 hq
      obtain ⟨w2, n2, hfront⟩ := front _ _ hq
      obtain ⟨w3, n3, hfin⟩ := fin _ _ _ hr w2
      refine ⟨w3, by omega, fun N F m w args' hN hh hg ha => hfront N F m w args' _ (by omega) hh hg ha ?_⟩
      intro m2 x2 a p' b1 b2 b3 b4 b5 b6
      show ∀ v', VRel m2 vp v' → Leaves P T.fn a.tmps _ a.defers (.panicking [{ v := v', recovered := false }]) x2
      intro v' hv'
      rw [b5]
      refine hfin N F m2 x2 p' v' _ _ _ hN b1 (hg.mono b2.ext) b3 hv' b4 (.inr rfl) ?_
      intro m4 x4 e u1 u2 u3
      exact ⟨m4, u1, u2, b2.trans u3⟩
end
/- ## taken from the functions' texts -/
def seqL : Code → Code
  | .seq a _ => a
  | c => c
def seqR : Code → Code
  | .seq _ b => b
  | c => c
def opOf : Code → Nat → Oper
  | .region _ ops _, i => (ops.toList[i]?).getD { dst := none, op := .ready 0, type := 0, pos := "", after := #[], guard := none }
  | _, _ => { dst := none, op := .ready 0, type := 0, pos := "", after := #[], guard := none }
def bodyOf (f : Func) : Code := match f.body with
  | some c => c
  | none => .skip
def oneSpec (f0 : FuncId) (F : Caller → List Value → Heap → Option (Out × Heap)) : Special := fun f => cond (Nat.beq f f0) (some F) none
theorem oneSpec_ok {f0 : FuncId} {F : Caller → List Value → Heap → Option (Out × Heap)} (h : ∀ cl, CallOk P ng cl → CallOkAt P ng f0 (F cl)) : SpecOk P ng (oneSpec f0 F) := by
  intro f G hG cl hcl
  unfold oneSpec at hG
  cases hb : Nat.beq f f0 with
  | false => rw [hb] at hG; simp at hG
  | true =>
    rw [hb] at hG
    simp only [cond_true, Option.some.injEq] at hG
    subst hG
    have := Nat.eq_of_beq_eq_true hb
    subst this
    exact h cl hcl
end Go.AM
end
section
/- Code whose outcome is open: what it may come to; loops over maps in any order. Conditions: as each rule says. -/
set_option linter.unusedSectionVars false
namespace Go.AM
variable {P : Program} {ng nt : Nat} [Ds nt] {sp : Special} {c : Code} {e : Env} {h : Heap} {Q Q1 : AExit → Env → Heap → Prop}

theorem mix_none {h : Heap} (hwf : HWf h) {N : Nat} (hN : h.nx ≤ N) : mix h N (fun _ => none) = h.get := by
  funext b
  unfold mix
  by_cases hb : b < N
  · rw [if_pos hb]
  · rw [if_neg hb, hwf b (by omega)]

/-- where code may come to. -/
def Land (nt : Nat) [Ds nt] (m : Mp) (w : World) (Q : AExit → Env → Heap → Prop) : Exit → Act → World → Prop := fun x a' w' =>
  ∃ ex e' h' m', Q ex e' h' ∧ HWf h' ∧ HRel m' h'.get w' ∧ Step m w m' w' ∧ ARel m' e'.at a' nt ∧ XRel m' ex x
theorem Land.trans {m m' : Mp} {w w' w'' : World} {x : Exit} {a : Act} (hs : Step m w m' w') (hl : Land nt m' w' Q x a w'') : Land nt m w Q x a w'' := by
  obtain ⟨ex, e', h', m2, q, hw, hh, hs2, hr, hx⟩ := hl
  exact ⟨ex, e', h', m2, q, hw, hh, hs.trans hs2, hr, hx⟩
def Good (P : Program) (ng nt : Nat) [Ds nt] (c : Code) (e : Env) (h : Heap) (Q : AExit → Env → Heap → Prop) : Prop :=
  HWf h → ∀ m w a, HRel m h.get w → GlobOk ng m → ARel m e.at a nt → c.wp P (Land nt m w Q) a w
theorem Good.of_comes {ex : AExit} {e' : Env} {h' : Heap} (hc : Comes' P ng nt c ex e e' h h') (hq : Q ex e' h') : Good P ng nt c e h Q := by
  intro hwf m w a hh hg hr
  obtain ⟨a1, a2, a3⟩ := hc hwf
  refine a3 h'.nx (fun _ => none) m w a _ (Nat.le_refl _) (by rw [mix_none hwf a2]; exact hh) hg hr ?_
  intro m' w' a' x q1 q2 q3 q4
  rw [mix_none a1 (Nat.le_refl _)] at q1
  exact ⟨ex, e', h', m', hq, a1, q1, q2, q3, q4⟩
/-- a piece that is run as before. -/
theorem Good.det (hm : P.follows .mixedOrders = true) (hsp : SpecOk P ng sp) (hok : codeOk ng nt c = true) (hr : Run P ng sp Q [] (.code c) e h) : Good P ng nt c e h Q := by
  obtain ⟨ex, e', h', ⟨N, hN⟩, hx⟩ := hr.sem
  exact .of_comes ((engine_ok hm (acall_ok hm hsp N N) N).1 c _ _ _ _ _ hok (hN N N N (Nat.le_refl _) (Nat.le_refl _) (Nat.le_refl _))) hx
theorem Good.mono (hg : Good P ng nt c e h Q1) (hq : ∀ ex e' h', Q1 ex e' h' → Q ex e' h') : Good P ng nt c e h Q := fun hwf m w a hh hgl hr =>
  wp_mono (hg hwf m w a hh hgl hr) fun _ _ _ ⟨ex, e', h', m', q, r⟩ => ⟨ex, e', h', m', hq _ _ _ q, r⟩
theorem Good.seq {c1 c2 : Code} (h1 : Good P ng nt c1 e h fun ex e' h' => (ex = .normal → Good P ng nt c2 e' h' Q) ∧ (ex ≠ .normal → Q ex e' h')) : Good P ng nt (.seq c1 c2) e h Q := by
  intro hwf m w a hh hg hr
  refine wp_seq (wp_mono (h1 hwf m w a hh hg hr) ?_)
  rintro x a' w' ⟨ex, e', h', m', ⟨qn, qx⟩, hwf', hh', hs, hr', hx⟩
  by_cases hn : ex = .normal
  · subst hn
    have : x = .normal := hx
    subst this
    exact wp_mono (qn rfl hwf' m' w' a' hh' (hg.mono hs.ext) hr') fun _ _ _ hl => hl.trans hs
  · exact then_of_not (hx.not_normal hn) ⟨ex, e', h', m', qx hn, hwf', hh', hs, hr', hx⟩
def leave (id : Nat) : AExit → AExit
  | .exit i => if i = id then .normal else .exit i
  | x => x
theorem Good.block {id : Nat} (hc : Good P ng nt c e h fun ex e' h' => Q (leave id ex) e' h') : Good P ng nt (.block id c) e h Q := by
  intro hwf m w a hh hg hr
  refine wp_block (wp_mono (hc hwf m w a hh hg hr) ?_)
  rintro x a' w' ⟨ex, e', h', m', q, hwf', hh', hs, hr', hx⟩
  cases ex with
  | exit i =>
    have : x = .exit i := hx
    subst this
    unfold Exit.inBlock
    by_cases e : i = id
    · simp only [if_pos e]
      simp only [leave, if_pos e] at q
      exact ⟨.normal, e', h', m', q, hwf', hh', hs, hr', rfl⟩
    · simp only [if_neg e]
      simp only [leave, if_neg e] at q
      exact ⟨.exit i, e', h', m', q, hwf', hh', hs, hr', rfl⟩
  | normal => have : x = .normal := hx; subst this; exact ⟨.normal, e', h', m', q, hwf', hh', hs, hr', rfl⟩
  | ret => have : x = .ret := hx; subst this; exact ⟨.ret, e', h', m', q, hwf', hh', hs, hr', rfl⟩
  | goto l => have : x = .goto l := hx; subst this; exact ⟨.goto l, e', h', m', q, hwf', hh', hs, hr', rfl⟩
  | pan v =>
    obtain ⟨v', e, hv⟩ := (hx : ∃ v', x = .panic [{ v := v', recovered := false }] ∧ VRel m' v v')
    subst e
    exact ⟨.pan v, e', h', m', q, hwf', hh', hs, hr', v', rfl, hv⟩
theorem Good.cond {x : Operand} {c1 c2 : Code} {t : Bool} (hx : operOk ng x = true) (ht : e.eval x = .bool t) (hc : Good P ng nt (bif t then c1 else c2) e h Q) : Good P ng nt (.cond x c1 c2) e h Q := by
  intro hwf m w a hh hg hr
  have hev := hr.eval hg hx
  rw [← Env.eval_eq, ht] at hev
  generalize hv : a.eval x = v at hev
  cases hev
  refine wp_cond hv ?_
  have := hc hwf m w a hh hg hr
  cases t <;> exact this
theorem Good.loop {n : Nat} (I : Nat → Env → Heap → Prop) (step : ∀ n e h, I n e h → Good P ng nt c e h fun ex e' h' => (ex = .normal ∧ ∃ k, k < n ∧ I k e' h') ∨ (ex ≠ .normal ∧ Q ex e' h')) (h0 : I n e h) : Good P ng nt (.loop c) e h Q := by
  intro hwf m w a hh hg hr
  have key : ∀ N n, n < N → ∀ e h, I n e h → HWf h → ∀ m1 w1 a1, Step m w m1 w1 → HRel m1 h.get w1 → ARel m1 e.at a1 nt → Code.rounds P c (Land nt m w Q) N a1 w1 := by
    intro N
    induction N with
    | zero => intro n hn; omega
    | succ N ih =>
      intro n hn e h hI hwf m1 w1 a1 hs hh hr
      rw [rounds_succ]
      refine wp_mono (step n e h hI hwf m1 w1 a1 hh (hg.mono hs.ext) hr) ?_
      rintro x a' w' ⟨ex, e', h', m', q, hwf', hh', hs', hr', hx⟩
      rcases q with ⟨rfl, k, hk, hI'⟩ | ⟨hne, hq⟩
      · have : x = .normal := hx
        subst this
        exact ih k (by omega) e' h' hI' hwf' m' w' a' (hs.trans hs') hh' hr'
      · exact then_of_not (hx.not_normal hne) ⟨ex, e', h', m', hq, hwf', hh', hs.trans hs', hr', hx⟩
  exact wp_loop_rounds (n + 1) (key (n + 1) n (Nat.lt_succ_self n) e h h0 hwf m w a (.refl m w) hh hr)

/- ## Functions -/
/-- what a call may come to. -/
def WFS (P : Program) (ng : Nat) (f : FuncId) (args : List Value) (h : Heap) (R : Out → Heap → Prop) : Prop :=
  HWf h → Enter P f ∧ ∀ m w args', HRel m h.get w → GlobOk ng m → VRels m args args' → Calls P f args'.toArray w fun e w' => ∃ o h' m', R o h' ∧ HWf h' ∧ ORel m' o e ∧ HRel m' h'.get w' ∧ Step m w m' w'
theorem WFS.of_wf (hm : P.follows .mixedOrders = true) (hsp : SpecOk P ng sp) {f : FuncId} {args : List Value} {R : Out → Heap → Prop} (hw : WF P ng sp f args h R) : WFS P ng f args h R := by
  obtain ⟨o, h', ⟨N, hN⟩, hR⟩ := hw
  intro hwf
  obtain ⟨a0, a1, a2, a3⟩ := acall_ok hm hsp N N f args h o h' (hN N N (Nat.le_refl _) (Nat.le_refl _)) hwf
  refine ⟨a0, fun m w args' hh hg ha => (a3 h'.nx (fun _ => none) m w args' (Nat.le_refl _) (by rw [mix_none hwf a2]; exact hh) hg ha).mono ?_⟩
  rintro e w' ⟨m', q1, q2, q3⟩
  rw [mix_none a1 (Nat.le_refl _)] at q2
  exact ⟨o, h', m', hR, a1, q1, q2, q3⟩
theorem WFS.fn {f : FuncId} {fn : Func} {c : Code} {args : List Value} {R : Out → Heap → Prop} (hf : P.funcs[f]? = some fn) (hok : fnOk ng fn = true) (hc : fn.body = some c) (hr : @Good P ng fn.ntmps ⟨[]⟩ c (storeL .leaf 0 args) h (FnQ P fn.results.toList R)) : WFS P ng f args h R := by
  intro hwf
  obtain ⟨hen, c', hc', hcok⟩ := enter_of_ok hf hok
  letI : Ds fn.ntmps := ⟨[]⟩
  refine ⟨hen, fun m w args' hh hg ha => calls_of_wp hf hc (wp_mono (hr hwf m w _ hh hg (args_rel ha _)) ?_)⟩
  rintro x a' w' ⟨ex, e', h', m', q, hwf', hh', hs, hr', hx⟩
  have hh2 : HRel m' (mix h' h'.nx fun _ => none) w' := by rw [mix_none hwf' (Nat.le_refl _)]; exact hh'
  cases ex with
  | normal =>
    have : x = .normal := hx
    subst this
    obtain ⟨v, hv, hR⟩ := (q : ∃ v, resultV P e' h' fn.results.toList = some v ∧ R (.ret v) h')
    obtain ⟨v', r1, r2⟩ := resultV_ok hh2 hwf' (Nat.le_refl _) hr' hv
    exact ⟨hr'.def_, v', r1, .ret v, h', m', hR, hwf', ⟨v', rfl, r2⟩, hh', hs⟩
  | ret =>
    have : x = .ret := hx
    subst this
    obtain ⟨v, hv, hR⟩ := (q : ∃ v, resultV P e' h' fn.results.toList = some v ∧ R (.ret v) h')
    obtain ⟨v', r1, r2⟩ := resultV_ok hh2 hwf' (Nat.le_refl _) hr' hv
    exact ⟨hr'.def_, v', r1, .ret v, h', m', hR, hwf', ⟨v', rfl, r2⟩, hh', hs⟩
  | pan v =>
    obtain ⟨v', e, hv⟩ := (hx : ∃ v', x = .panic [{ v := v', recovered := false }] ∧ VRel m' v v')
    subst e
    exact ⟨hr'.def_, .pan v, h', m', q, hwf', ⟨v', rfl, hv⟩, hh', hs⟩
  | exit i => exact q.elim
  | goto l => exact q.elim

/- ## Regions with such calls -/
def GoodO (P : Program) (ng nt : Nat) [Ds nt] (all l : List Oper) (e : Env) (h : Heap) (Q : AExit → Env → Heap → Prop) : Prop :=
  HWf h → ∀ k, (∀ j, j < l.length → l[j]? = all[k + j]?) → l.all (opersOk ng nt) = true → ∀ m w a, HRel m h.get w → GlobOk ng m → ARel m e.at a nt → wpOps P all.toArray (Land nt m w Q) (List.range' k l.length) a w
theorem Good.region {id : Nat} {ops : Array Oper} (hok : codeOk ng nt (.region id ops false) = true) (hg : GoodO P ng nt ops.toList ops.toList e h Q) : Good P ng nt (.region id ops false) e h Q := by
  intro hwf m w a hh hgl hr
  have := hg hwf 0 (fun j _ => by simp) hok m w a hh hgl hr
  refine wp_region ?_
  rwa [Array.toArray_toList, Array.length_toList, ← List.range_eq_range'] at this
theorem upon_then {o : Oper} {a : Act} {next K : Act → World → Prop} {Q : Exit → Act → World → Prop} (r : Result Next) : o.upon P a next (Exit.then K Q) r = o.upon P a next Q r := by
  cases r with
  | ok n w' => cases n <;> rfl
  | halt x w' => cases x <;> rfl
theorem wpOps_app {ops : Array Oper} {Q : Exit → Act → World → Prop} {r2 : List Nat} : ∀ (r1 : List Nat) (a : Act) (w : World), wpOps P ops (Exit.then (fun a w => wpOps P ops Q r2 a w) Q) r1 a w → wpOps P ops Q (r1 ++ r2) a w := by
  intro r1
  induction r1 with
  | nil => intro a w h; exact h
  | cons i r1 ih =>
    intro a w h
    simp only [List.cons_append, wpOps] at h ⊢
    cases ho : ops[i]? with
    | none => rw [ho] at h; exact ih a w h
    | some o =>
      rw [ho] at h
      simp only at h ⊢
      split
      · rename_i hw
        rw [if_pos hw] at h
        refine h.imp (fun h => ?_) (fun h => h)
        unfold Oper.wp at h
        rw [upon_then] at h
        exact Oper.wp_mono (fun a w => ih a w) h
      · rename_i hw
        rw [if_neg hw] at h
        exact ih _ _ h
theorem upon_mono {o : Oper} {a : Act} {K K' : Act → World → Prop} {Q Q' : Exit → Act → World → Prop} (hk : ∀ a w, K a w → K' a w) (hq : ∀ x a w, Q x a w → Q' x a w) (r : Result Next) (h : o.upon P a K Q r) : o.upon P a K' Q' r := by
  cases r with
  | ok n w' =>
    cases n <;> simp only [Oper.upon] at h ⊢ <;>
      first
        | exact hk _ _ h
        | exact Calls.mono h (fun e w'' he => by cases e <;> first | exact hk _ _ he | exact hq _ _ _ he | exact he.imp fun _ he => he.imp fun _ he => hq _ _ _ he)
        | exact Rows.mono h (fun _ _ he => hk _ _ he)
  | halt x w' => cases x <;> simp only [Oper.upon] at h ⊢ <;> first | exact hq _ _ _ h | exact h
theorem wpOps_mono {ops : Array Oper} {Q Q' : Exit → Act → World → Prop} (hq : ∀ x a w, Q x a w → Q' x a w) : ∀ (l : List Nat) (a : Act) (w : World), wpOps P ops Q l a w → wpOps P ops Q' l a w := by
  intro l
  induction l with
  | nil => intro a w2 h; exact hq _ _ _ h
  | cons i r ih =>
    intro a w2 h
    simp only [wpOps] at h ⊢
    cases ho : ops[i]? with
    | none => rw [ho] at h; exact ih a w2 h
    | some o =>
      rw [ho] at h
      simp only at h ⊢
      split
      · rename_i hw
        rw [if_pos hw] at h
        exact h.imp (fun h => upon_mono (fun a w => ih a w) hq _ h) (fun h => ⟨h.1, h.2.imp fun _ he => he.imp fun _ he => hq _ _ _ he⟩)
      · rename_i hw
        rw [if_neg hw] at h
        exact ih _ _ h
theorem wpOps_land {m m' : Mp} {w w' : World} {ops : Array Oper} (hs : Step m w m' w') (l : List Nat) (a : Act) (w2 : World) (h : wpOps P ops (Land nt m' w' Q) l a w2) : wpOps P ops (Land nt m w Q) l a w2 :=
  wpOps_mono (fun _ _ _ hl => hl.trans hs) l a w2 h
/-- the next n operations are run as before. -/
theorem GoodO.take (n : Nat) {all l : List Oper} (hm : P.follows .mixedOrders = true) (hsp : SpecOk P ng sp)
    (hr : Run P ng sp (fun ex e' h' => (ex = .normal → GoodO P ng nt all (l.drop n) e' h' Q) ∧ (ex ≠ .normal → Q ex e' h')) [] (.ops all (l.take n)) e h) : GoodO P ng nt all l e h Q := by
  obtain ⟨ex, e', h', ⟨N, hN⟩, hx⟩ := hr.sem
  obtain ⟨hxn, hxx⟩ : (ex = .normal → GoodO P ng nt all (l.drop n) e' h' Q) ∧ (ex ≠ .normal → Q ex e' h') := hx
  have hrun := hN N N (Nat.le_refl _) (Nat.le_refl _)
  intro hwf k hl hok m w a hh hg hr
  have hsplit : List.range' k l.length = List.range' k (l.take n).length ++ List.range' (k + (l.take n).length) (l.drop n).length := by
    rw [List.range'_append_1, ← List.length_append, List.take_append_drop]
  rw [hsplit]
  refine wpOps_app _ _ _ ?_
  have hok1 : (l.take n).all (opersOk ng nt) = true := by
    rw [List.all_eq_true] at hok ⊢
    exact fun x hx => hok x (List.mem_of_mem_take hx)
  have hok2 : (l.drop n).all (opersOk ng nt) = true := by
    rw [List.all_eq_true] at hok ⊢
    exact fun x hx => hok x (List.mem_of_mem_drop hx)
  obtain ⟨g1, g2, g3⟩ := ops_wp (acall_ok hm hsp N N) all.toArray (l.take n) k e e' h h' ex (fun j hj => by
    have hj : j < n ∧ j < l.length := by rw [List.length_take] at hj; omega
    rw [List.getElem?_take, if_pos hj.1]
    exact hl j hj.2) hok1 hwf hrun
  refine g3 h'.nx (fun _ => none) m w a _ (Nat.le_refl _) (by rw [mix_none hwf g2]; exact hh) hg hr ?_
  intro m' w' a' x q1 q2 q3 q4
  rw [mix_none g1 (Nat.le_refl _)] at q1
  by_cases hn : ex = .normal
  · subst hn
    have : x = .normal := q4
    subst this
    have := hxn rfl g1 (k + (l.take n).length) (fun j hj => by
      have hj : j < l.length - n := by simpa using hj
      rw [List.getElem?_drop, List.length_take, show min n l.length = n by omega, Nat.add_assoc]
      exact hl (n + j) (by omega)) hok2 m' w' a' q1 (hg.mono q2.ext) q3
    exact wpOps_land q2 _ _ _ this
  · exact then_of_not (q4.not_normal hn) ⟨ex, e', h', m', hxx hn, g1, q1, q2, q3, q4⟩
/-- a call that may come to many things. -/
theorem GoodO.call {all r : List Oper} {o : Oper} {c : Call} {f : FuncId} {args : List Value} {R : Out → Heap → Prop} (hgd : o.guard = none) (hop : o.op = .call c) (hc : callee P c e.eval = some (f, args)) (hw : WFS P ng f args h R)
    (hp : ∀ v h', ¬ R (.pan v) h') (hk : ∀ v h', R (.ret v) h' → GoodO P ng nt all r (e.put o.dst v) h' Q) : GoodO P ng nt all (o :: r) e h Q := by
  intro hwf k hl hok m w a hh hg hr
  simp only [List.all_cons, Bool.and_eq_true] at hok
  have h0 : all.toArray[k]? = some o := by have := hl 0 (by simp); simpa using this.symm
  obtain ⟨hen, hcalls⟩ := hw hwf
  simp only [List.length_cons, List.range'_succ]
  refine wpOps_step h0 (by simp [Region.wanted, hgd]) ?_
  have hops : ∀ x ∈ c.operands.toList, VRel m (evalF e.at x) (a.eval x) := by
    have := opers_rel hr hg hok.1
    rw [hop] at this
    exact this
  rw [Env.eval_eq] at hc
  obtain ⟨args', h1, h2⟩ := call_run (P := P) (w := w) hop hops hc hen
  unfold Oper.wp
  rw [h2]
  refine (hcalls m w args' hh hg h1).mono ?_
  rintro en w' ⟨out, h', m', hR, hwf', ho, hh', hs⟩
  cases out with
  | pan v => exact absurd hR (hp v h')
  | ret v =>
    obtain ⟨v', rfl, hv⟩ := ho
    have := hk v h' hR hwf' (k + 1) (fun j hj => by have := hl (j + 1) (by simpa using hj); simpa [Nat.add_assoc, Nat.add_comm 1 j] using this) hok.2 m' w' (a.put o.dst v') hh' (hg.mono hs.ext) (by rw [Env.put_at]; exact (hr.mono hs.ext).put hv (dst_lt hok.1))
    exact wpOps_land hs _ _ _ this
/- ## Loops over maps -/
theorem XRel.same {m m' : Mp} (e : Alike m m') {ex : AExit} {x : Exit} (h : XRel m ex x) : XRel m' ex x := by
  cases ex with
  | pan v => obtain ⟨v', h1, h2⟩ := (h : ∃ v', x = .panic [{ v := v', recovered := false }] ∧ VRel m v v'); exact ⟨v', h1, h2.same e⟩
  | _ => exact h
theorem XRel.mono {m m' : Mp} (e : Ext m m') {ex : AExit} {x : Exit} (h : XRel m ex x) : XRel m' ex x := by
  cases ex with
  | pan v => obtain ⟨v', h1, h2⟩ := (h : ∃ v', x = .panic [{ v := v', recovered := false }] ∧ VRel m v v'); exact ⟨v', h1, h2.mono e⟩
  | _ => exact h
theorem get_put (h : Heap) (d : Nat) (x : Blk) : (h.put d x).get = fun b => if b = d then some x else h.get b := by
  funext b
  show (h.t.set d x).get b = _
  rw [Trie.get_set]; rfl
theorem look_wp {c2 : Code} {e0 : Env} {h : Heap} {d r since b clk : Nat} {seen : List Nat} (hd : d < h.nx) (hwf : HWf h) (hc : Good P ng nt c2 e0 (h.put d (.look r b clk)) Q1)
    {m : Mp} {w : World} {a : Act} {K : Exit → Act → World → Prop} (hh : HRel m (h.put d (.iter r since (seen ++ [b]) (some b) clk)).get w) (hg : GlobOk ng m) (hr : ARel m e0.at a nt)
    (hK : ∀ ex e1 h1 m' w' a' x, Q1 ex e1 h1 → HWf h1 → d < h1.nx → HRel m' (h1.put d (.iter r since (seen ++ [b]) none clk)).get w' → Step m w m' w' → ARel m' e1.at a' nt → XRel m' ex x → K x a' w') : c2.wp P K a w := by
  rw [get_put] at hh
  have hb := hh.blk d
  simp only [if_pos] at hb
  cases hm : m d with
  | fresh => rw [hm] at hb; exact hb.elim
  | dead => rw [hm] at hb; exact hb.elim
  | sym k n => rw [hm] at hb; exact hb.elim
  | live l =>
  rw [hm] at hb
  obtain ⟨⟨hrw, hsh⟩, cbm, sa, p1, p2, p3, p4⟩ := hb
  have hs1 := setLoc_same hm false
  have hh1 : HRel (setLoc m d { l with rw := false }) (h.put d (.look r b clk)).get w := by
    rw [get_put]
    have := hh.setLoc (rw := false) (x := .look r b clk) hm (by simp [roB]) ⟨⟨rfl, hsh⟩, cbm, since, sa, p1, p2.same hs1, p4 b rfl⟩
    have e : (fun b' => if b' = d then some (Blk.look r b clk) else if b' = d then some (Blk.iter r since (seen ++ [b]) (some b) clk) else h.get b') = fun b' => if b' = d then some (Blk.look r b clk) else h.get b' := by
      funext b'
      by_cases e : b' = d
      · rw [if_pos e, if_pos e]
      · rw [if_neg e, if_neg e, if_neg e]
    rw [e] at this
    exact this
  have hg1 : GlobOk ng (setLoc m d { l with rw := false }) := fun g hgl => by
    rcases hg g hgl with ⟨lg, q1, q2, q3, q4⟩ | q1
    · have hne : g ≠ d := fun e => by subst e; rw [hm] at q1; cases q1; rw [hrw] at q4; cases q4
      exact .inl ⟨lg, by rw [setLoc_ne hne]; exact q1, q2, q3, q4⟩
    · have hne : g ≠ d := fun e => by subst e; rw [hm] at q1; cases q1
      exact .inr (by rw [setLoc_ne hne]; exact q1)
  refine wp_mono (hc (put_wf hwf hd) _ w a hh1 hg1 (hr.same hs1)) ?_
  rintro x a' w' ⟨ex, e1, h1, m', hq1, a1, q1, q2, q3, q4⟩
  have hm' : m' d = .live { l with rw := false } := q2.ext.ro setLoc_at rfl
  have hs2 : Alike m' (setLoc m' d l) := setLoc_same hm' l.rw
  have hd1 : d < h1.nx := by
    rcases Nat.lt_or_ge d h1.nx with h' | h'
    · exact h'
    · have := q1.blk d
      rw [a1 d h', hm'] at this
      exact this.elim
  have hkeep : w'.heap[l.cb]? = w.heap[l.cb]? := by
    refine q2.keep l.cb (hh.lt hm) ?_
    intro b' l' hb' hr' e
    by_cases e2 : b' = d
    · subst e2; rw [setLoc_at] at hb'; cases hb'; cases hr'
    · rw [setLoc_ne e2] at hb'
      exact e2 (hh.inj d b' l l' hm hb' e.symm (by simp [roB])).symm
  refine hK ex e1 h1 (setLoc m' d l) w' a' x hq1 a1 hd1 ?_ ?_ (q3.same hs2) (q4.same hs2)
  · rw [get_put]
    have := q1.setLoc (rw := l.rw) (x := .iter r since (seen ++ [b]) none clk) hm' (roB_obj (hm' ▸ q1.blk d) fun c el fr hc => by have := hkeep.symm.trans hc; rw [p1] at this; cases this) ⟨⟨hrw, hsh⟩, cbm, sa, hkeep.trans p1, ((p2.same hs1).mono q2.ext).same hs2, p3, fun b hb => by cases hb⟩
    exact this
  · refine ⟨fun b' => ?_, q2.size, q2.os, q2.out, fun cb hc hn => q2.keep cb hc fun b' l' hb' hr' => ?_, fun b' l' hb' hr' => ?_, fun b' l' hb' hr' => ?_⟩
    · by_cases e : b' = d
      · subst e; exact .inr (.inl (by rw [setLoc_at, hm]))
      · have := q2.ext b'
        rw [setLoc_ne e] at this ⊢
        exact this
    · by_cases e : b' = d
      · subst e; rw [setLoc_at] at hb'; cases hb'; cases hr'
      · rw [setLoc_ne e] at hb'; exact hn b' l' hb' hr'
    · by_cases e : b' = d
      · subst e; rw [setLoc_at] at hb'; cases hb'; exact .inr ⟨b', l, hm, hrw, rfl⟩
      · rw [setLoc_ne e] at hb'
        rcases q2.new b' l' hb' hr' with g1 | ⟨b0, l0, g1, g2, g3⟩
        · exact .inl g1
        · by_cases e0 : b0 = d
          · subst e0; rw [setLoc_at] at g1; cases g1; cases g2
          · rw [setLoc_ne e0] at g1; exact .inr ⟨b0, l0, g1, g2, g3⟩
    · by_cases e : b' = d
      · subst e; rw [setLoc_at] at hb'; cases hb'; rw [hrw] at hr'; cases hr'
      · rw [setLoc_ne e] at hb'
        have := q2.old b' l' hb' hr'
        rw [setLoc_ne e] at this
        exact this
/-- the iterator is done with. -/
theorem HRel.drop {m : Mp} {h : Heap} {w : World} {d r since last : Nat} {seen : List Nat} (hh : HRel m (h.put d (.iter r since seen none last)).get w) :
    ∃ m', HRel m' (h.put d .dead).get w ∧ Step m w m' w := by
  rw [get_put] at hh
  have hb := hh.blk d
  simp only [if_pos] at hb
  cases hm : m d with
  | fresh => rw [hm] at hb; exact hb.elim
  | dead => rw [hm] at hb; exact hb.elim
  | sym k n => rw [hm] at hb; exact hb.elim
  | live l =>
    rw [hm] at hb
    obtain ⟨k1, k2⟩ := hh.kill hm hb.1.1
    refine ⟨_, ?_, k2⟩
    rw [get_put]
    have e : (fun b' => if b' = d then some Blk.dead else if b' = d then some (Blk.iter r since seen none last) else h.get b') = fun b' => if b' = d then some .dead else h.get b' := by
      funext b'
      by_cases e : b' = d
      · rw [if_pos e, if_pos e]
      · rw [if_neg e, if_neg e, if_neg e]
    rw [e] at k1
    exact k1
theorem filter_le {p q : Nat → Bool} (hpq : ∀ y, q y = true → p y = true) : ∀ L : List Nat, (L.filter q).length ≤ (L.filter p).length := by
  intro L
  induction L with
  | nil => exact Nat.le_refl _
  | cons y l ih =>
    simp only [List.filter_cons]
    cases hq : q y with
    | true => rw [hpq y hq]; simpa using ih
    | false => cases hp : p y <;> simp <;> omega
theorem filter_lt {p q : Nat → Bool} (hpq : ∀ y, q y = true → p y = true) {x : Nat} (hp : p x = true) (hq : q x = false) : ∀ L : List Nat, x ∈ L → (L.filter q).length < (L.filter p).length := by
  intro L
  induction L with
  | nil => intro h; cases h
  | cons y l ih =>
    intro h
    simp only [List.filter_cons]
    rcases List.mem_cons.1 h with rfl | h
    · rw [hp, hq]
      have := filter_le hpq l
      simpa using Nat.lt_succ_of_le this
    · have := ih h
      cases hq : q y with
      | true => rw [hpq y hq]; simpa using this
      | false => cases hp : p y <;> simp <;> omega
/-- a loop over a map's entries, in any order. -/
theorem Good.mapLoop (hcok : codeOk ng nt (.loop c) = true) {it tup okT : Tmp} {c2 : Code} (hml : mapLoopOf c = some (it, tup, okT, c2)) {d r since last : Nat} (I : List Nat → Env → Heap → Prop)
    (hd : h.get d = some (.iter r since [] none last)) (hlast : since ≤ last) (h0 : I [] e (h.put d .dead))
    (hI : ∀ seen e h, I seen e h → e.at it = .pointer (some ⟨d, 0, none⟩) ∧ d < h.nx ∧ h.get d = some .dead ∧ ∃ es clk, h.get r = some (.map es clk) ∧ since ≤ clk ∧ ∀ x ∈ es, x.2.2 < since)
    (step : ∀ seen e h es clk x, I seen e h → h.get r = some (.map es clk) → x ∈ es → x.2.2 ∉ seen → Good P ng nt c2 ((e.put (some tup) (.tuple #[.bool true, x.1, x.2.1])).put (some okT) (.bool true)) (h.put d (.look r x.2.2 clk))
      fun ex e1 h1 => (ex = .normal ∧ I (seen ++ [x.2.2]) e1 (h1.put d .dead)) ∨ (ex ≠ .normal ∧ Q ex e1 (h1.put d .dead)))
    (fin : ∀ seen e h es clk, I seen e h → h.get r = some (.map es clk) → (∀ x ∈ es, x.2.2 ∈ seen) → Good P ng nt c2 ((e.put (some tup) (.tuple #[.bool false])).put (some okT) (.bool false)) h fun ex e1 h1 => ex ≠ .normal ∧ Q ex e1 h1) :
    Good P ng nt (.loop c) e h Q := by
  obtain ⟨id, nx, exo, hbody, hnx, hnd, hng, hex, hed, heg⟩ := mapLoopOf_ok hml
  subst hbody
  simp only [codeOk, Bool.and_eq_true, List.all_cons, List.all_nil, Bool.and_true] at hcok
  obtain ⟨⟨ok1, ok2⟩, ok3⟩ := hcok
  intro hwf m0 w0 a0 hh0 hg0 hr0
  let M : List Nat → Nat := fun seen => ((List.range since).filter fun b => !seen.contains b).length
  have key : ∀ N seen e h last m w a, M seen < N → I seen e h → since ≤ last → HWf h → Step m0 w0 m w → HRel m (h.put d (.iter r since seen none last)).get w → ARel m e.at a nt → Code.rounds P (.seq (.region id #[nx, exo] false) c2) (Land nt m0 w0 Q) N a w := by
    intro N
    induction N with
    | zero => intro seen e h last m w a hn; omega
    | succ N ih =>
      intro seen e h last m w a hn hIs hsl hwf hs hh hr
      obtain ⟨hit, hdn, hdd, es, clk, hmap, hclk, hold⟩ := hI seen e h hIs
      have hrd : r ≠ d := fun e => by rw [e, hdd] at hmap; cases hmap
      have hwfS : HWf (h.put d (.iter r since seen none last)) := put_wf hwf hdn
      have hgd : (h.put d (.iter r since seen none last)).get d = some (.iter r since seen none last) := Trie.get_set_same _ _ _
      have hgr : (h.put d (.iter r since seen none last)).get r = some (.map es clk) := by
        show (h.t.set d _).get r = _
        rw [Trie.get_set_ne _ _ hrd]; exact hmap
      rw [rounds_succ]
      refine mapStep_wp (N := h.nx) (F := fun _ => none) hnx hnd hng hex hed heg ok1 ok2 hwfS hit hsl hgd hgr hold (Nat.le_refl _) (by rw [mix_none hwfS (show (h.put d _).nx ≤ h.nx from Nat.le_refl _)]; exact hh) (hg0.mono hs.ext) hr ?_ ?_
      · intro x hx hns m' w' a' q1 q2 q3
        have q1 : HRel m' (mix ((h.put d (.iter r since seen none last)).put d (.iter r since (seen ++ [x.2.2]) (some x.2.2) clk)) h.nx fun _ => none) w' := q1
        rw [mix_none (put_wf hwfS hdn) (show ((h.put d _).put d _).nx ≤ h.nx from Nat.le_refl _)] at q1
        have q1 : HRel m' (h.put d (.iter r since (seen ++ [x.2.2]) (some x.2.2) clk)).get w' := by
          rw [get_put] at q1 ⊢
          have e : (fun b => if b = d then some (Blk.iter r since (seen ++ [x.2.2]) (some x.2.2) clk) else (h.put d (.iter r since seen none last)).get b) = fun b => if b = d then some (Blk.iter r since (seen ++ [x.2.2]) (some x.2.2) clk) else h.get b := by
            funext b
            by_cases e : b = d
            · rw [if_pos e, if_pos e]
            · rw [if_neg e, if_neg e, get_put]; simp only [if_neg e]
          rw [e] at q1
          exact q1
        refine look_wp hdn hwf (step seen e h es clk x hIs hmap hx hns) q1 (hg0.mono (hs.trans q2).ext) q3 ?_
        rintro ex e1 h1 m2 w2 a2 y hq hwf1 hd1 g1 g2 g3 g4
        rcases hq with ⟨rfl, hI1⟩ | ⟨hne, hQ⟩
        · have : y = .normal := g4
          subst this
          refine ih (seen ++ [x.2.2]) e1 (h1.put d .dead) clk m2 w2 a2 ?_ hI1 hclk (put_wf hwf1 hd1) ((hs.trans q2).trans g2) ?_ g3
          · have : M (seen ++ [x.2.2]) < M seen := by
              refine filter_lt (x := x.2.2) (fun y hy => ?_) ?_ ?_ _ (List.mem_range.2 (hold x hx))
              · simp only [Bool.not_eq_true', List.contains_eq_mem, List.mem_append, decide_eq_false_iff_not] at hy ⊢
                exact fun h => hy (.inl h)
              · simp [hns]
              · simp
            omega
          · rw [get_put] at g1 ⊢
            have e : (fun b => if b = d then some (Blk.iter r since (seen ++ [x.2.2]) none clk) else (h1.put d .dead).get b) = fun b => if b = d then some (Blk.iter r since (seen ++ [x.2.2]) none clk) else h1.get b := by
              funext b
              by_cases e : b = d
              · rw [if_pos e, if_pos e]
              · rw [if_neg e, if_neg e, get_put]; simp only [if_neg e]
            rw [e]
            exact g1
        · obtain ⟨m3, k1, k2⟩ := g1.drop
          exact then_of_not (g4.not_normal hne) ⟨ex, e1, h1.put d .dead, m3, hQ, put_wf hwf1 hd1, k1, ((hs.trans q2).trans g2).trans k2, g3.mono k2.ext, g4.mono k2.ext⟩
      · intro hend m' w' a' q1 q2 q3
        rw [mix_none hwfS (show (h.put d _).nx ≤ h.nx from Nat.le_refl _)] at q1
        obtain ⟨m3, k1, k2⟩ := q1.drop
        have hdead : (h.put d .dead).get = h.get := by
          rw [get_put]
          funext b
          by_cases e : b = d
          · rw [if_pos e, e, hdd]
          · rw [if_neg e]
        rw [hdead] at k1
        refine wp_mono (fin seen e h es clk hIs hmap hend hwf m3 w' a' k1 (hg0.mono ((hs.trans q2).trans k2).ext) (q3.mono k2.ext)) ?_
        rintro y a2 w2 ⟨ex, e1, h1, m4, ⟨hne, hQ⟩, hwf1, g1, g2, g3, g4⟩
        exact then_of_not (g4.not_normal hne) ⟨ex, e1, h1, m4, hQ, hwf1, g1, ((hs.trans q2).trans k2).trans g2, g3, g4⟩
  have hdn : d < h.nx := by
    rcases Nat.lt_or_ge d h.nx with h' | h'
    · exact h'
    · rw [hwf d h'] at hd; cases hd
  refine wp_loop_rounds (M [] + 1) (key _ [] e (h.put d .dead) last m0 w0 a0 (Nat.lt_succ_self _) h0 hlast (put_wf hwf hdn) (.refl _ _) ?_ hr0)
  have e : ((h.put d .dead).put d (.iter r since [] none last)).get = h.get := by
    rw [get_put]
    funext b
    by_cases e : b = d
    · rw [if_pos e, e, hd]
    · rw [if_neg e, get_put]; simp only [if_neg e]
  rw [e]
  exact hh0

end Go.AM
end
section
/- A call without arguments that gave true in a run of its own: a special for it, where no globals are named. -/
namespace Go.AM
variable {P : Program}
noncomputable def noHeap : Heap := ⟨.leaf, 0⟩
theorem noHeap_wf : HWf noHeap := fun b _ => Trie.get_leaf b
noncomputable def trueP (_ : Caller) (args : List Value) (h : Heap) : Option (Out × Heap) := match args with
  | [] => some (.ret (.bool true), h)
  | _ => none
theorem trueP_ok {cl0 : Caller} (hcl0 : CallOk P 0 cl0) {f : FuncId} (hrun : isTrue (cl0 f [] noHeap) = true) (cl : Caller) : CallOkAt P 0 f (trueP cl) := by
  cases hq : cl0 f [] noHeap with
  | none => rw [hq] at hrun; simp [isTrue] at hrun
  | some q =>
    obtain ⟨o0, h0⟩ := q
    rw [hq] at hrun
    have ho : o0 = .ret (.bool true) := by
      unfold isTrue at hrun
      split at hrun
      · rename_i b _ heq
        simp only [Option.some.injEq, Prod.mk.injEq] at heq
        rw [heq.1, hrun]
      · simp at hrun
    subst ho
    obtain ⟨hen, _, hnx, hc⟩ := hcl0 f [] _ _ h0 hq noHeap_wf
    intro args h o h' hr hwf
    unfold trueP at hr
    split at hr <;> try (simp at hr; done)
    simp only [Option.some.injEq, Prod.mk.injEq] at hr
    obtain ⟨rfl, rfl⟩ := hr
    refine ⟨hen, hwf, Nat.le_refl _, fun N F m w args' hN hh hgl ha => ?_⟩
    cases ha
    let M0 : Mp := fun _ => .fresh
    have hrel : HRel M0 (mix noHeap h0.nx fun _ => none) w := by
      refine ⟨fun b => ?_, fun b b' l1 l2 h1 _ _ _ => by cases h1⟩
      unfold mix
      split
      · rw [show noHeap.get b = none from Trie.get_leaf b]; trivial
      · trivial
    refine (hc h0.nx (fun _ => none) M0 w [] (Nat.le_refl _) hrel (fun x hx => absurd hx (Nat.not_lt_zero _)) .nil).mono ?_
    rintro e w' ⟨m', ⟨v', rfl, hv⟩, _, hst⟩
    cases hv
    have hkeep : ∀ cb, cb < w.heap.size → w'.heap[cb]? = w.heap[cb]? := fun cb hcb => hst.keep cb hcb fun b l' hl' hrw => by cases hl'
    refine ⟨m, ⟨_, rfl, .bool true⟩, ⟨fun b => (hh.blk b).mono (.refl m) fun l' hl' => hkeep _ (hh.lt hl'), hh.inj⟩, ?_⟩
    exact ⟨.refl m, hst.size, hst.os, hst.out, fun cb hcb _ => hkeep cb hcb, fun b l' hl' hr' => .inr ⟨b, l', hl', hr', rfl⟩, fun b l' hl' _ => hl'⟩
noncomputable def spAt (f : FuncId) : Special := fun g => bif Nat.beq g f then some trueP else none
theorem spAt_ok {cl0 : Caller} (hcl0 : CallOk P 0 cl0) {f : FuncId} (hrun : isTrue (cl0 f [] noHeap) = true) : SpecOk P 0 (spAt f) := by
  intro g G hG cl _
  unfold spAt at hG
  cases hb : Nat.beq g f with
  | false => rw [hb] at hG; cases hG
  | true =>
    rw [hb] at hG
    simp only [cond_true, Option.some.injEq] at hG
    subst hG
    rw [Nat.eq_of_beq_eq_true hb]
    exact trueP_ok hcl0 hrun cl
end Go.AM
end
section
/- From a walk to the model: laws whose arguments are read alone. Conditions: each block of the abstract heap stands for what the arguments hold. -/
namespace Go.AM
open Go.ChangeShapes Go.WideShapes
variable {P : Program} {W : World}
theorem list_rel2 {l : List Blk} {st : List AM.Stat} (hlen : st.length = l.length) (hb : ∀ (i : Nat) (s : AM.Stat) (b : Blk), st[i]? = some s → l[i]? = some b → BRel (statMp st) W s (some b))
    (hro : ∀ (i : Nat) (l1 : Loc) (b : Blk), st[i]? = some (.live l1) → l[i]? = some b → roB (some b) = true) (N : Nat) (hN : l.length ≤ N) : HRel (statMp st) (mix (listHeap l) N fun _ => none) W := by
  have key : ∀ b, mix (listHeap l) N (fun _ => none) b = l[b]? := by
    intro b
    unfold mix
    rw [listHeap_get]
    by_cases h : b < l.length
    · rw [if_pos (by omega)]
    · rw [List.getElem?_eq_none (by omega)]
      split <;> rfl
  refine ⟨fun b => ?_, fun b b' l1 l2 h1 h2 e hq => ?_⟩
  · rw [key]
    by_cases h : b < l.length
    · have h1 : st[b]? = some (st[b]'(by omega)) := List.getElem?_eq_getElem _
      have h2 : l[b]? = some (l[b]'h) := List.getElem?_eq_getElem _
      have : statMp st b = st[b]'(by omega) := by unfold statMp; rw [h1]; rfl
      rw [this, h2]
      exact hb b _ _ h1 h2
    · have : statMp st b = .fresh := by unfold statMp; rw [List.getElem?_eq_none (by omega)]; rfl
      rw [this, List.getElem?_eq_none (by omega)]
      trivial
  · rw [key] at hq
    have h1' := statMp_get h1 (by simp)
    have hb' : b < st.length := (List.getElem?_eq_some_iff.1 h1').1
    rw [hlen] at hb'
    have h2' : l[b]? = some (l[b]'hb') := List.getElem?_eq_getElem _
    rw [h2', hro b l1 _ h1' h2'] at hq
    cases hq
theorem wf_list {ng : Nat} {sp : Special} (hm : P.follows .mixedOrders = true) (hsp : SpecOk P ng sp) {f : FuncId} {args args' : List Value} {l : List Blk} {st : List AM.Stat} (hlen : st.length = l.length) (hb : ∀ (i : Nat) (s : AM.Stat) (b : Blk), st[i]? = some s → l[i]? = some b → BRel (statMp st) W s (some b))
    (hro : ∀ (i : Nat) (l1 : Loc) (b : Blk), st[i]? = some (.live l1) → l[i]? = some b → roB (some b) = true ∧ l1.rw = false) (hg : GlobOk ng (statMp st))
    (hw : WF P ng sp f args (listHeap l) fun o _ => o = .ret (.bool true)) (ha : VRels (statMp st) args args') : Calls P f args'.toArray W fun e W' => e = .returned (.bool true) ∧ Still W W' := by
  obtain ⟨o, h', ⟨N, hN⟩, rfl⟩ := hw
  refine true_callsG (acall_ok hm hsp N N) (listHeap_wf l) (fun N hN => list_rel2 hlen hb (fun i l1 b h1 h2 => (hro i l1 b h1 h2).1) N hN) hg ?_ (by rw [hN N N (Nat.le_refl _) (Nat.le_refl _)]; rfl) ha
  intro b l1 h1
  have h1' := statMp_get h1 (by simp)
  have hb' : b < st.length := (List.getElem?_eq_some_iff.1 h1').1
  rw [hlen] at hb'
  exact (hro b l1 _ h1' (List.getElem?_eq_getElem hb')).2

/-- a row of numbers, given as an argument: its block is the i-th one. -/
theorem ints_arg {H : Type} {enc : TypeId × Value → H} {r : Reach} {b0 base : Nat} {spare : Nat → Bool} {held : Bool} {t e : TypeId} {k : IntKind} {v : Value} {d : DataW H} {ps : List MemPlace} (i : Nat) (ht : P.underlying t = some (.slice e)) (he : P.underlying e = some (.int k)) (hc : P.cellsOf e = 1)
    (hval : Value.okWide P W r b0 t v) (hd : DataW.Trod enc P W base spare held t v d ps) :
    ∃ (a : Option Addr) (l : List Int) (c : Nat) (s : AM.Stat) (x : Blk), (l.length = 0 ∨ (a = some ⟨i, 0, none⟩ ∧ x = cellsB (l.map (.int k ·)) .ro)) ∧ (∀ m : Mp, m i = s → VRel m (.slice a l.length c) v) ∧ (∀ m, BRel m W s (some x)) ∧ (∀ l1, s = .live l1 → roB (some x) = true ∧ l1.rw = false) := by
  rcases open_ints ht he hc hval hd with rfl | ⟨a, len, cap, rfl, f, hf⟩
  · exact ⟨none, [], 0, .dead, .dead, .inl rfl, fun m _ => .sliceNil 0 0, fun _ => trivial, fun _ h => by cases h⟩
  · by_cases hl : 0 < len
    · obtain ⟨b, off, cs, el, fr, rfl, h1, h2, h3⟩ := hf hl
      have hlen : ((List.range len).map f).length = len := by simp
      refine ⟨some ⟨i, 0, none⟩, (List.range len).map f, cap, .live ⟨b, off, 0, len, cs.size, false⟩, _, .inr ⟨rfl, rfl⟩, fun m hm => ?_, fun m => ?_, fun l1 hl1 => ⟨rfl, by cases hl1; rfl⟩⟩
      · rw [hlen]
        exact .slice i 0 len cap cap _ hm (.inl rfl)
      · refine ⟨by simp, cs, el, fr, h1, rfl, by simpa using h2, ⟨rfl, rfl⟩, fun j hj => ?_⟩
        have hj : j < len := by simpa using hj
        refine ⟨.int k (f j), .int k (f j), ?_, h3 j hj, rfl, .int k (f j)⟩
        rw [get_ofList]
        simp [hj]
    · have : len = 0 := by omega
      subst this
      exact ⟨some ⟨i, 0, none⟩, [], cap, .dead, .dead, .inl rfl, fun m hm => .sliceDead _ _ _ _ _ hm, fun _ => trivial, fun _ h => by cases h⟩
/-- a row of ints, as the model reads it. -/
theorem ints_read {H : Type} {enc : TypeId × Value → H} {base fuel : Nat} {spare : Nat → Bool} {held : Bool} {t e : TypeId} {k : IntKind} {cs : List Value} {d : DataW H × List MemPlace} (ht : P.underlying t = some (.slice e)) (he : P.underlying e = some (.int k)) (hc : P.cellsOf e = 1)
    (hd : DataW.trod enc P W base spare held fuel t cs = some d) :
    cs = [.slice none 0 0] ∨ ∃ a len cap, cs = [.slice (some a) len cap] ∧ len ≤ maxLen ∧ ∃ f : Nat → Int, (∀ i, i < len → (Lit.int k (f i)).wf = true) ∧ (0 < len → ∃ b off cs el fr, a = ⟨b, off, none⟩ ∧ W.heap[b]? = some (.cells cs el fr) ∧ off + len ≤ cs.size ∧ ∀ i, i < len → cs[off + i]? = some (.int k (f i))) := by
  rcases DataW.trod_slice ht hd with ⟨h, _⟩ | ⟨a, len0, cap0, elems, rest, n, _, h, _, _, hlc, hcm, hlen, hel, _⟩
  · exact .inl h
  · right
    have key : ∀ i, i < len0 → ∃ m, W.cell? (a.add i) = some (.int k m) ∧ (Lit.int k m).wf = true := by
      intro i hi
      have h1 := hel i hi
      rw [hc, Nat.mul_one] at h1
      obtain ⟨x, hx⟩ : ∃ x, elems[i]? = some x := ⟨elems[i]'(by omega), List.getElem?_eq_getElem _⟩
      rw [hx] at h1
      obtain ⟨cs, g1, g2⟩ := Option.bind_eq_some_iff.1 h1
      obtain ⟨m, rfl, _, hw⟩ := DataW.trod_int he g2
      obtain ⟨_, _, g3⟩ := World.cells?_some g1
      have := g3 0 (by omega)
      refine ⟨m, ?_, hw⟩
      simpa [Addr.add] using this
    obtain ⟨f, hfn⟩ : ∃ f : Nat → Int, ∀ i, i < len0 → W.cell? (a.add i) = some (.int k (f i)) ∧ (Lit.int k (f i)).wf = true := by
      refine ⟨fun i => if h : i < len0 then (key i h).choose else 0, fun i hi => ?_⟩
      simp only [hi, dif_pos]
      exact (key i hi).choose_spec
    refine ⟨a, len0, cap0, h, Nat.le_trans hlc hcm, f, fun i hi => (hfn i hi).2, fun hpos => ?_⟩
    obtain ⟨b, off, spot⟩ := a
    have hspot : spot = none := by simpa [Addr.add] using World.cell?_spot (hfn 0 hpos).1
    subst hspot
    have key2 : ∀ i, i < len0 → W.cell? ⟨b, off + i, none⟩ = some (.int k (f i)) := by
      intro i h
      have := (hfn i h).1
      rwa [add_plain] at this
    have hcell : ∃ cs el fr, W.heap[b]? = some (.cells cs el fr) := by
      have := key2 0 hpos
      unfold World.cell? at this
      split at this <;> try (simp at this; done)
      rename_i cs el fr hh
      exact ⟨cs, el, fr, hh⟩
    obtain ⟨cs, el, fr, hcs⟩ := hcell
    have key3 : ∀ i, i < len0 → cs[off + i]? = some (.int k (f i)) := by
      intro i h
      have := key2 i h
      simpa [World.cell?, hcs] using this
    refine ⟨b, off, cs, el, fr, rfl, hcs, ?_, key3⟩
    have := key3 (len0 - 1) (by omega)
    have := (Array.getElem?_eq_some_iff.1 this).1
    omega
/-- .. as a block of its own, the i-th one. -/
theorem ints_block {H : Type} {enc : TypeId × Value → H} {base fuel : Nat} {spare : Nat → Bool} {held : Bool} {t e : TypeId} {k : IntKind} {cs : List Value} {d : DataW H × List MemPlace} (i : Nat) (ht : P.underlying t = some (.slice e)) (he : P.underlying e = some (.int k)) (hc : P.cellsOf e = 1)
    (hd : DataW.trod enc P W base spare held fuel t cs = some d) :
    ∃ (v : Value) (a : Option Addr) (l : List Int) (c : Nat) (s : AM.Stat) (x : Blk), cs = [v] ∧ l.length ≤ maxLen ∧ (∀ y ∈ l, (Lit.int k y).wf = true) ∧ (l.length = 0 ∨ (a = some ⟨i, 0, none⟩ ∧ x = cellsB (l.map (.int k ·)) .ro)) ∧ (∀ m : Mp, m i = s → VRel m (.slice a l.length c) v) ∧ (∀ m, BRel m W s (some x)) ∧ (∀ l1, s = .live l1 → roB (some x) = true ∧ l1.rw = false) := by
  rcases ints_read ht he hc hd with rfl | ⟨a, len, cap, rfl, hm, f, hw, hf⟩
  · exact ⟨_, none, [], 0, .dead, .dead, rfl, Nat.zero_le _, fun _ h => by simp at h, .inl rfl, fun m _ => .sliceNil 0 0, fun _ => trivial, fun _ h => by cases h⟩
  · by_cases hl : 0 < len
    · obtain ⟨b, off, cs, el, fr, rfl, h1, h2, h3⟩ := hf hl
      have hlen : ((List.range len).map f).length = len := by simp
      refine ⟨_, some ⟨i, 0, none⟩, (List.range len).map f, cap, .live ⟨b, off, 0, len, cs.size, false⟩, _, rfl, by rw [hlen]; exact hm, fun y hy => ?_, .inr ⟨rfl, rfl⟩, fun m hm => ?_, fun m => ?_, fun l1 hl1 => ⟨rfl, by cases hl1; rfl⟩⟩
      · obtain ⟨j, hj, rfl⟩ := List.mem_map.1 hy
        exact hw j (by simpa using hj)
      · rw [hlen]
        exact .slice i 0 len cap cap _ hm (.inl rfl)
      · refine ⟨by simp, cs, el, fr, h1, rfl, by simpa using h2, ⟨rfl, rfl⟩, fun j hj => ?_⟩
        have hj : j < len := by simpa using hj
        refine ⟨.int k (f j), .int k (f j), ?_, h3 j hj, rfl, .int k (f j)⟩
        rw [get_ofList]
        simp [hj]
    · have : len = 0 := by omega
      subst this
      exact ⟨_, some ⟨i, 0, none⟩, [], cap, .dead, .dead, rfl, Nat.zero_le _, fun _ h => by simp at h, .inl rfl, fun m hm => .sliceDead _ _ _ _ _ hm, fun _ => trivial, fun _ h => by cases h⟩
/-- a row of ints, as the model reads it. -/
theorem ints_readC {H : Type} {enc : TypeId × Value → H} {base fuel : Nat} {spare : Nat → Bool} {held : Bool} {t e : TypeId} {k : IntKind} {cs : List Value} {d : DataW H × List MemPlace} (ht : P.underlying t = some (.slice e)) (he : P.underlying e = some (.int k)) (hc : P.cellsOf e = 1)
    (hd : DataW.trod enc P W base spare held fuel t cs = some d) :
    cs = [.slice none 0 0] ∨ ∃ a len cap, cs = [.slice (some a) len cap] ∧ (len ≤ maxLen ∧ len ≤ cap) ∧ ∃ f : Nat → Int, (∀ i, i < len → (Lit.int k (f i)).wf = true) ∧ (0 < len → ∃ b off cs el fr, a = ⟨b, off, none⟩ ∧ W.heap[b]? = some (.cells cs el fr) ∧ off + len ≤ cs.size ∧ ∀ i, i < len → cs[off + i]? = some (.int k (f i))) := by
  rcases DataW.trod_slice ht hd with ⟨h, _⟩ | ⟨a, len0, cap0, elems, rest, n, _, h, _, _, hlc, hcm, hlen, hel, _⟩
  · exact .inl h
  · right
    have key : ∀ i, i < len0 → ∃ m, W.cell? (a.add i) = some (.int k m) ∧ (Lit.int k m).wf = true := by
      intro i hi
      have h1 := hel i hi
      rw [hc, Nat.mul_one] at h1
      obtain ⟨x, hx⟩ : ∃ x, elems[i]? = some x := ⟨elems[i]'(by omega), List.getElem?_eq_getElem _⟩
      rw [hx] at h1
      obtain ⟨cs, g1, g2⟩ := Option.bind_eq_some_iff.1 h1
      obtain ⟨m, rfl, _, hw⟩ := DataW.trod_int he g2
      obtain ⟨_, _, g3⟩ := World.cells?_some g1
      have := g3 0 (by omega)
      refine ⟨m, ?_, hw⟩
      simpa [Addr.add] using this
    obtain ⟨f, hfn⟩ : ∃ f : Nat → Int, ∀ i, i < len0 → W.cell? (a.add i) = some (.int k (f i)) ∧ (Lit.int k (f i)).wf = true := by
      refine ⟨fun i => if h : i < len0 then (key i h).choose else 0, fun i hi => ?_⟩
      simp only [hi, dif_pos]
      exact (key i hi).choose_spec
    refine ⟨a, len0, cap0, h, ⟨Nat.le_trans hlc hcm, hlc⟩, f, fun i hi => (hfn i hi).2, fun hpos => ?_⟩
    obtain ⟨b, off, spot⟩ := a
    have hspot : spot = none := by simpa [Addr.add] using World.cell?_spot (hfn 0 hpos).1
    subst hspot
    have key2 : ∀ i, i < len0 → W.cell? ⟨b, off + i, none⟩ = some (.int k (f i)) := by
      intro i h
      have := (hfn i h).1
      rwa [add_plain] at this
    have hcell : ∃ cs el fr, W.heap[b]? = some (.cells cs el fr) := by
      have := key2 0 hpos
      unfold World.cell? at this
      split at this <;> try (simp at this; done)
      rename_i cs el fr hh
      exact ⟨cs, el, fr, hh⟩
    obtain ⟨cs, el, fr, hcs⟩ := hcell
    have key3 : ∀ i, i < len0 → cs[off + i]? = some (.int k (f i)) := by
      intro i h
      have := key2 i h
      simpa [World.cell?, hcs] using this
    refine ⟨b, off, cs, el, fr, rfl, hcs, ?_, key3⟩
    have := key3 (len0 - 1) (by omega)
    have := (Array.getElem?_eq_some_iff.1 this).1
    omega
/-- .. as a block of its own, the i-th one. -/
theorem ints_blockC {H : Type} {enc : TypeId × Value → H} {base fuel : Nat} {spare : Nat → Bool} {held : Bool} {t e : TypeId} {k : IntKind} {cs : List Value} {d : DataW H × List MemPlace} (i : Nat) (ht : P.underlying t = some (.slice e)) (he : P.underlying e = some (.int k)) (hc : P.cellsOf e = 1)
    (hd : DataW.trod enc P W base spare held fuel t cs = some d) :
    ∃ (v : Value) (a : Option Addr) (l : List Int) (c : Nat) (s : AM.Stat) (x : Blk), cs = [v] ∧ (l.length ≤ maxLen ∧ l.length ≤ c) ∧ (∀ y ∈ l, (Lit.int k y).wf = true) ∧ (l.length = 0 ∨ (a = some ⟨i, 0, none⟩ ∧ x = cellsB (l.map (.int k ·)) .ro)) ∧ (∀ m : Mp, m i = s → VRel m (.slice a l.length c) v) ∧ (∀ m, BRel m W s (some x)) ∧ (∀ l1, s = .live l1 → roB (some x) = true ∧ l1.rw = false) := by
  rcases ints_readC ht he hc hd with rfl | ⟨a, len, cap, rfl, hm, f, hw, hf⟩
  · exact ⟨_, none, [], 0, .dead, .dead, rfl, ⟨Nat.zero_le _, Nat.zero_le _⟩, fun _ h => by simp at h, .inl rfl, fun m _ => .sliceNil 0 0, fun _ => trivial, fun _ h => by cases h⟩
  · by_cases hl : 0 < len
    · obtain ⟨b, off, cs, el, fr, rfl, h1, h2, h3⟩ := hf hl
      have hlen : ((List.range len).map f).length = len := by simp
      refine ⟨_, some ⟨i, 0, none⟩, (List.range len).map f, cap, .live ⟨b, off, 0, len, cs.size, false⟩, _, rfl, by rw [hlen]; exact hm, fun y hy => ?_, .inr ⟨rfl, rfl⟩, fun m hm => ?_, fun m => ?_, fun l1 hl1 => ⟨rfl, by cases hl1; rfl⟩⟩
      · obtain ⟨j, hj, rfl⟩ := List.mem_map.1 hy
        exact hw j (by simpa using hj)
      · rw [hlen]
        exact .slice i 0 len cap cap _ hm (.inl rfl)
      · refine ⟨by simp, cs, el, fr, h1, rfl, by simpa using h2, ⟨rfl, rfl⟩, fun j hj => ?_⟩
        have hj : j < len := by simpa using hj
        refine ⟨.int k (f j), .int k (f j), ?_, h3 j hj, rfl, .int k (f j)⟩
        rw [get_ofList]
        simp [hj]
    · have : len = 0 := by omega
      subst this
      exact ⟨_, some ⟨i, 0, none⟩, [], cap, .dead, .dead, rfl, ⟨Nat.zero_le _, Nat.zero_le _⟩, fun _ h => by simp at h, .inl rfl, fun m hm => .sliceDead _ _ _ _ _ hm, fun _ => trivial, fun _ h => by cases h⟩
end Go.AM
end
section
/- copy, laid out for rewriting. Conditions: the rows that are named. -/
namespace Go.AM
variable {P : Program}
theorem aCopy_at {ts : Array TypeId} {dt st : TypeId} (hts : ts.toList = [dt, st]) {s : Nat} (h : slcOf P dt = some s) {b off dn c n : Nat} {x : Value} {g : Nat → Option Blk} {L cells : List Value} {k : Kind} (hx : lenV x = some n) (hn : firstL g s (Nat.min n dn) x = some cells)
    (hb : g b = some (cellsB L k)) (hk : k ≠ .ro) (hl : off + cells.length ≤ L.length) :
    aCopy P ts (.slice (some ⟨b, off, none⟩) dn c) x g = some ⟨.int .i64 (Nat.min n dn), [(b, cellsB (overL L off cells) k)], []⟩ := by
  unfold slcOf at h
  unfold aCopy
  rw [hts]
  simp only
  split at h <;> try (simp at h; done)
  rename_i e he
  rw [he]
  simp only [h, hx, hn, hb]
  have hlo : (overL L off cells).length = L.length := by unfold overL; simp only [List.length_append, List.length_take, List.length_drop]; omega
  unfold cellsB
  cases k <;> first | (exact absurd rfl hk) | (simp only; rw [if_pos hl, storeL_ofList _ _ _ hl, hlo])
theorem slS_from {b off n c l : Nat} {k : IntKind} {g : Nat → Option Blk} {X : List Value} (hb : g b = some (cellsB X .ro)) (h1 : l ≤ n) (h2 : n ≤ c) :
    slS (some 1) (some ⟨b, off, none⟩) n c (some (.int k (l : Nat))) none none g = ret (.slice (some (if c = l then ⟨b, off, none⟩ else ⟨b, off + l, none⟩)) (n - l) (c - l)) := by
  unfold slS
  rw [u_bounds, bnd_none]
  simp only
  rw [bnd_int, if_pos ⟨by omega, by omega⟩]
  simp only [Int.toNat_natCast]
  rw [if_pos h2]
  simp only [u_sliceAddr, hb, sadX_ro]
  by_cases h : c = l
  · simp [h]
  · simp [h]
theorem slS_mid {b off n c l hi : Nat} {k k' : IntKind} {g : Nat → Option Blk} {X : List Value} (hb : g b = some (cellsB X .ro)) (h1 : l ≤ hi) (h2 : hi ≤ c) :
    slS (some 1) (some ⟨b, off, none⟩) n c (some (.int k (l : Nat))) (some (.int k' (hi : Nat))) none g = ret (.slice (some (if c = l then ⟨b, off, none⟩ else ⟨b, off + l, none⟩)) (hi - l) (c - l)) := by
  unfold slS
  rw [u_bounds, bnd_int, if_pos ⟨by omega, by omega⟩]
  simp only [Int.toNat_natCast]
  rw [bnd_int, if_pos ⟨by omega, by omega⟩]
  simp only [Int.toNat_natCast]
  rw [if_pos h2]
  simp only [u_sliceAddr, hb, sadX_ro]
  by_cases h : c = l
  · simp [h]
  · simp [h]
theorem slS_max {b off n c l hi : Nat} {k k' k2 : IntKind} {g : Nat → Option Blk} {X : List Value} (hb : g b = some (cellsB X .exact)) (h1 : l < hi) (h2 : hi ≤ c) :
    slS (some 1) (some ⟨b, off, none⟩) n c (some (.int k (l : Nat))) (some (.int k' (hi : Nat))) (some (.int k2 (hi : Nat))) g = ret (.slice (some ⟨b, off + l, none⟩) (hi - l) (hi - l)) := by
  unfold slS bounds
  rw [bnd_int, if_pos ⟨by omega, by omega⟩]
  simp only [Int.toNat_natCast, Option.isSome_some, Option.isNone_some, Bool.and_false, Bool.false_eq_true, if_false]
  rw [bnd_int, if_pos ⟨by omega, by omega⟩]
  simp only [Int.toNat_natCast]
  rw [bnd_int, if_pos ⟨by omega, by omega⟩]
  simp only [Int.toNat_natCast, show Nat.ble hi hi = true from by simp [Nat.ble_eq], cond_true, u_sliceAddr, hb, sadX_exact]
  rw [if_neg (by omega)]
  simp
theorem slS_loose {b off n c l : Nat} {k : IntKind} {g : Nat → Option Blk} {X : List Value} (hb : g b = some (cellsB X (.loose 1))) (hx : off + c = X.length) (h1 : l ≤ n) (h2 : n ≤ c) :
    slS (some 1) (some ⟨b, off, none⟩) n c (some (.int k (l : Nat))) none none g = ret (.slice (some ⟨b, off + l, none⟩) (n - l) (c - l)) := by
  unfold slS
  rw [u_bounds, bnd_none]
  simp only
  rw [bnd_int, if_pos ⟨by omega, by omega⟩]
  simp only [Int.toNat_natCast]
  rw [if_pos h2]
  simp only [u_sliceAddr, hb, sadX_loose]
  simp [hx]
/-- a row of given elements. -/
noncomputable def bsX (len nx : Nat) (x : Option (List Value)) : Option Eff := match x with
  | some cells => some ⟨.slice (some ⟨nx, 0, none⟩) len len, [], [cellsB cells .exact]⟩
  | none => none
theorem bsX_some (len nx : Nat) (cells : List Value) : bsX len nx (some cells) = some ⟨.slice (some ⟨nx, 0, none⟩) len len, [], [cellsB cells .exact]⟩ := rfl
theorem u_buildSlice (t : TypeId) (len nx : Nat) (parts : List (Nat × Value)) {z : List Value} {s mb : Nat} (h : mkOf P t = some (z, s, mb)) (hl : len * s ≤ 1048576) :
    effBuildSlice P t len parts nx = bsX len nx (fillL (fun i => some (i * s, s)) (repeatL z len) parts) := by
  unfold effBuildSlice
  unfold mkOf at h
  split at h <;> try (simp at h; done)
  rename_i e he
  split at h <;> try (simp at h; done)
  rename_i i z' hi hz
  split at h <;> try (simp at h; done)
  rename_i hz2
  simp only [Option.some.injEq, Prod.mk.injEq] at h
  obtain ⟨rfl, rfl, rfl⟩ := h
  rw [he]
  simp only [sizeOf?, hi, Option.map_some, hz]
  rw [if_neg (by omega)]
  cases fillL (fun j => some (j * i.size, i.size)) (repeatL z' len) parts <;> rfl
/-- a method of a pointer's type. -/
def invOf (P : Program) (t : TypeId) (name : String) : Option FuncId := match P.info? t with
  | some i => match i.methods.toList.find? (·.name == name), P.underlying t with
    | some m, some (.pointer _) => if m.path.toList.isEmpty then match m.func with
      | some (f, true) => some f
      | _ => none else none
    | _, _ => none
  | none => none
def invK (P : Program) (name : String) (l : List Value) : Value → Option (FuncId × List Value)
  | .iface t (.pointer a) => (invOf P t name).map fun f => (f, .pointer a :: l)
  | _ => none
theorem invK_iface (name : String) (l : List Value) (t : TypeId) (a : Option Addr) : invK P name l (.iface t (.pointer a)) = (invOf P t name).map fun f => (f, .pointer a :: l) := rfl
theorem u_invoke (r : Operand) (name : String) (as : Array Operand) (ts : Array TypeId) (e : Env) : callee P ⟨.invoke r name, as, ts⟩ e.eval = invK P name (as.toList.map e.eval) (e.eval r) := by
  unfold callee invK
  simp only
  generalize e.eval r = x
  cases x <;> try rfl
  rename_i t v
  have key : ∀ a, v = .pointer a → (match P.info? t with
      | some i => match i.methods.toList.find? (·.name == name), P.underlying t, v with
        | some m, some (.pointer _), .pointer a => if m.path.toList.isEmpty then match m.func with
            | some (f, true) => some (f, .pointer a :: as.toList.map e.eval)
            | _ => none else none
        | _, _, _ => none
      | none => none) = (invOf P t name).map fun f => (f, Value.pointer a :: as.toList.map e.eval) := by
    rintro a rfl
    unfold invOf
    cases P.info? t with
    | none => rfl
    | some i =>
      simp only
      cases i.methods.toList.find? (·.name == name) with
      | none => rfl
      | some m =>
        cases P.underlying t with
        | none => rfl
        | some d =>
          cases d <;> try rfl
          simp only
          split
          · split <;> simp_all
          · rfl
  cases v <;> first | exact key _ rfl | skip
  all_goals (
    simp only
    cases P.info? t with
    | none => rfl
    | some i =>
      simp only
      cases i.methods.toList.find? (·.name == name) with
      | none => rfl
      | some m =>
        cases P.underlying t with
        | none => rfl
        | some d => cases d <;> rfl)
end Go.AM
end
