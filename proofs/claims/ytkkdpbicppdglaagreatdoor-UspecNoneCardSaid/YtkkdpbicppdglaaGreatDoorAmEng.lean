/- Code, functions, calls. -/
import Derived.Test.YtkkdpbicppdglaaGreatDoorAmMap4
import Derived.ScopeJumps
import Derived.LoopN
namespace Go.AM

variable {P : Program} {ng nt : Nat} {cl : Caller}

/-- A scope with jumps: what each way out comes to. -/
def Exit.into (P : Program) (c : Code) (Q : Exit → Act → World → Prop) : Nat → Exit → Act → World → Prop
  | 0, .goto _, _, _ => False
  | n + 1, .goto l, a, w => ∃ rest, findLabel c l = some rest ∧ rest.wp P (Exit.into P c Q n) a w
  | _, e, a, w => Q e a w
theorem wp_scope_into {c : Code} {Q : Exit → Act → World → Prop} {a : Act} {w : World} (n : Nat) (first : c.wp P (Exit.into P c Q n) a w) : (Code.scope c).wp P Q a w := by
  intro b k cs
  have key : ∀ n (rest : Code) a w, rest.wp P (Exit.into P c Q n) a w → ∃ e a' w', Q e a' w' ∧ Arrives P (lone (b.at a (.code rest :: .inScope c :: k)) cs w) b k cs e a' w' := by
    intro n
    induction n with
    | zero =>
      intro rest a w h
      obtain ⟨e, a₁, w₁, hq, harr⟩ := h b (.inScope c :: k) cs
      cases e with
      | normal => exact ⟨.normal, a₁, w₁, hq, Steps.trans harr (.one step_inScope)⟩
      | exit id => exact ⟨.exit id, a₁, w₁, hq, fun k' hk => harr k' (by simp [exitTo, hk])⟩
      | goto l' => exact hq.elim
      | ret => exact ⟨_, a₁, w₁, hq, harr⟩
      | panic ch => exact ⟨_, a₁, w₁, hq, harr⟩
      | outgrown => exact ⟨_, a₁, w₁, hq, harr⟩
    | succ n ih =>
      intro rest a w h
      obtain ⟨e, a₁, w₁, hq, harr⟩ := h b (.inScope c :: k) cs
      cases e with
      | normal => exact ⟨.normal, a₁, w₁, hq, Steps.trans harr (.one step_inScope)⟩
      | exit id => exact ⟨.exit id, a₁, w₁, hq, fun k' hk => harr k' (by simp [exitTo, hk])⟩
      | goto l' =>
        obtain ⟨rest', hf, hw⟩ := hq
        obtain ⟨e₂, a₂, w₂, hq₂, harr₂⟩ := ih rest' a₁ w₁ hw
        have hg : gotoIn l' (.inScope c :: k) = some (.code rest' :: .inScope c :: k) := by simp [gotoIn, hf]
        exact ⟨e₂, a₂, w₂, hq₂, .of_steps (harr _ hg) harr₂⟩
      | ret => exact ⟨_, a₁, w₁, hq, harr⟩
      | panic ch => exact ⟨_, a₁, w₁, hq, harr⟩
      | outgrown => exact ⟨_, a₁, w₁, hq, harr⟩
  obtain ⟨e, a₁, w₁, hq, harr⟩ := key n c a w first
  refine ⟨e, a₁, w₁, hq, ?_⟩
  cases e with
  | normal => exact .head step_scope harr
  | exit id => exact fun k' hk => .head step_scope (harr k' hk)
  | goto l => exact fun k' hk => .head step_scope (harr k' hk)
  | ret => exact .of_steps (.one step_scope) harr
  | panic ch => exact .of_steps (.one step_scope) harr
  | outgrown => exact .of_steps (.one step_scope) harr

variable {e e1 e' : Env} {h h1 h' : Heap} {ex : AExit}

theorem codeOk_label {body rest : Code} {l : Nat} (hf : findLabel body l = some rest) (hok : codeOk ng nt body = true) : codeOk ng nt rest = true := by
  induction body generalizing rest with
  | seq a b iha ihb =>
    simp only [codeOk, Bool.and_eq_true] at hok
    unfold findLabel at hf
    split at hf
    · rename_i r hr
      simp only [Option.some.injEq] at hf
      subst hf
      simp only [codeOk, Bool.and_eq_true]
      exact ⟨iha hr hok.1, hok.2⟩
    · exact ihb hf hok.2
  | label l' =>
    unfold findLabel at hf
    split at hf <;> simp at hf
    subst hf; rfl
  | _ => simp [findLabel] at hf

theorem Comes'.nop {c : Code} (hx : ∀ (Q : Exit → Act → World → Prop) (a : Act) (w : World), (∀ x, (∀ m, XRel m ex x) → Q x a w) → c.wp P Q a w) : Comes' P ng nt c ex e e h h := by
  intro hwf
  refine ⟨hwf, Nat.le_refl _, fun N F m w a Q _ hh _ hr hQ => hx Q a w ?_⟩
  intro x hxx
  exact hQ m w a x hh (.refl m w) hr (hxx m)
theorem Comes'.seq {c1 c2 : Code} (h1c : Comes' P ng nt c1 .normal e e1 h h1) (h2c : Comes' P ng nt c2 ex e1 e' h1 h') : Comes' P ng nt (.seq c1 c2) ex e e' h h' := by
  intro hwf
  obtain ⟨a1, a2, a3⟩ := h1c hwf
  obtain ⟨b1, b2, b3⟩ := h2c a1
  refine ⟨b1, Nat.le_trans a2 b2, fun N F m w a Q hN hh hg hr hQ => wp_seq ?_⟩
  refine a3 N F m w a _ (Nat.le_trans b2 hN) hh hg hr ?_
  intro m' w' a' x q1 q2 q3 q4
  have : x = .normal := q4
  subst this
  refine b3 N F m' w' a' Q hN q1 (hg.mono q2.ext) q3 ?_
  intro m'' w'' a'' x p1 p2 p3 p4
  exact hQ m'' w'' a'' x p1 (q2.trans p2) p3 p4
theorem Comes'.stop {c1 c2 : Code} (h1c : Comes' P ng nt c1 ex e e' h h') (hn : ex ≠ .normal) : Comes' P ng nt (.seq c1 c2) ex e e' h h' := by
  intro hwf
  obtain ⟨a1, a2, a3⟩ := h1c hwf
  refine ⟨a1, a2, fun N F m w a Q hN hh hg hr hQ => wp_seq ?_⟩
  refine a3 N F m w a _ hN hh hg hr ?_
  intro m' w' a' x q1 q2 q3 q4
  exact then_of_not (q4.not_normal hn) (hQ m' w' a' x q1 q2 q3 q4)
theorem Comes'.block {c : Code} {id : Nat} {ex' : AExit} (hc : Comes' P ng nt c ex e e' h h') (hx : ex' = match ex with | .exit i => if i = id then .normal else .exit i | x => x) : Comes' P ng nt (.block id c) ex' e e' h h' := by
  intro hwf
  obtain ⟨a1, a2, a3⟩ := hc hwf
  refine ⟨a1, a2, fun N F m w a Q hN hh hg hr hQ => wp_block ?_⟩
  refine a3 N F m w a _ hN hh hg hr ?_
  intro m' w' a' x q1 q2 q3 q4
  have hQ' := hQ m' w' a'
  cases ex with
  | exit i =>
    have : x = .exit i := q4
    subst this
    simp only at hx
    unfold Exit.inBlock
    by_cases e : i = id
    · rw [if_pos e] at hx
      subst hx
      simp only [if_pos e]
      exact hQ' .normal q1 q2 q3 rfl
    · rw [if_neg e] at hx
      subst hx
      simp only [if_neg e]
      exact hQ' (.exit i) q1 q2 q3 rfl
  | normal => simp only at hx; subst hx; have : x = .normal := q4; subst this; exact hQ' .normal q1 q2 q3 rfl
  | ret => simp only at hx; subst hx; have : x = .ret := q4; subst this; exact hQ' .ret q1 q2 q3 rfl
  | goto l => simp only at hx; subst hx; have : x = .goto l := q4; subst this; exact hQ' (.goto l) q1 q2 q3 rfl
  | pan v =>
    simp only at hx; subst hx
    obtain ⟨v', e, hv⟩ := (q4 : ∃ v', x = .panic [{ v := v', recovered := false }] ∧ VRel m' v v')
    subst e
    exact hQ' _ q1 q2 q3 ⟨v', rfl, hv⟩

theorem Rounds'.loop {c : Code} {n : Nat} (hr : Rounds' P ng nt c n ex e e' h h') : Comes' P ng nt (.loop c) ex e e' h h' := fun hwf =>
  let ⟨a1, a2, a3⟩ := hr hwf
  ⟨a1, a2, fun N F m w a Q hN hh hg hr hQ => wp_loop_rounds n (a3 N F m w a Q hN hh hg hr hQ)⟩
theorem Rounds'.more {c : Code} {n : Nat} (h1c : Comes' P ng nt c .normal e e1 h h1) (h2c : Rounds' P ng nt c n ex e1 e' h1 h') : Rounds' P ng nt c (n + 1) ex e e' h h' := by
  intro hwf
  obtain ⟨a1, a2, a3⟩ := h1c hwf
  obtain ⟨b1, b2, b3⟩ := h2c a1
  refine ⟨b1, Nat.le_trans a2 b2, fun N F m w a Q hN hh hg hr hQ => ?_⟩
  rw [rounds_succ]
  refine a3 N F m w a _ (Nat.le_trans b2 hN) hh hg hr ?_
  intro m' w' a' x q1 q2 q3 q4
  have : x = .normal := q4
  subst this
  refine b3 N F m' w' a' Q hN q1 (hg.mono q2.ext) q3 ?_
  intro m'' w'' a'' x p1 p2 p3 p4
  exact hQ m'' w'' a'' x p1 (q2.trans p2) p3 p4
theorem Rounds'.stop {c : Code} {n : Nat} (h1c : Comes' P ng nt c ex e e' h h') (hn : ex ≠ .normal) : Rounds' P ng nt c (n + 1) ex e e' h h' := by
  intro hwf
  obtain ⟨a1, a2, a3⟩ := h1c hwf
  refine ⟨a1, a2, fun N F m w a Q hN hh hg hr hQ => ?_⟩
  rw [rounds_succ]
  refine a3 N F m w a _ hN hh hg hr ?_
  intro m' w' a' x q1 q2 q3 q4
  exact then_of_not (q4.not_normal hn) (hQ m' w' a' x q1 q2 q3 q4)

/-- code that runs in a scope. -/
def Scoped' (P : Program) (ng nt : Nat) (body c : Code) (n : Nat) (ex : AExit) (e e' : Env) (h h' : Heap) : Prop :=
  HWf h → HWf h' ∧ h.nx ≤ h'.nx ∧ ∀ (N : Nat) (F : Nat → Option Blk) (m : Mp) (w : World) (a : Act) (Q : Exit → Act → World → Prop), h'.nx ≤ N → HRel m (mix h N F) w → GlobOk ng m → ARel m e.at a nt →
    (∀ m' w' a' x, HRel m' (mix h' N F) w' → Step m w m' w' → ARel m' e'.at a' nt → XRel m' ex x → Q x a' w') → c.wp P (Exit.into P body Q n) a w
theorem into_of_not {body : Code} {Q : Exit → Act → World → Prop} {x : Exit} {a : Act} {w : World} (n : Nat) (hx : ∀ l, x ≠ .goto l) (h : Q x a w) : Exit.into P body Q n x a w := by
  cases x with
  | goto l => exact absurd rfl (hx l)
  | _ => cases n <;> exact h
theorem scope_ok {eng : Code → Env → Heap → Res} {body : Code} (hb : codeOk ng nt body = true) (heng : ∀ c e h ex e' h', codeOk ng nt c = true → eng c e h = some (ex, e', h') → Comes' P ng nt c ex e e' h h') :
    ∀ (n : Nat) (c : Code) (e e' : Env) (h h' : Heap) (ex : AExit), codeOk ng nt c = true → scopeRun eng body n c e h = some (ex, e', h') → Scoped' P ng nt body c n ex e e' h h' := by
  intro n
  induction n with
  | zero => intro c e e' h h' ex _ hr; simp [scopeRun] at hr
  | succ n ih =>
    intro c e e' h h' ex hok hr
    rw [scopeRun] at hr
    split at hr
    · rename_i l e1 h1 hl
      split at hr <;> try (simp at hr; done)
      rename_i rest hf
      have h1c := heng _ _ _ _ _ _ hok hl
      have h2c := ih _ _ _ _ _ _ (codeOk_label hf hb) hr
      intro hwf
      obtain ⟨a1, a2, a3⟩ := h1c hwf
      obtain ⟨b1, b2, b3⟩ := h2c a1
      refine ⟨b1, Nat.le_trans a2 b2, fun N F m w a Q hN hh hg hr hQ => ?_⟩
      refine a3 N F m w a _ (Nat.le_trans b2 hN) hh hg hr ?_
      intro m' w' a' x q1 q2 q3 q4
      have : x = .goto l := q4
      subst this
      refine ⟨rest, hf, ?_⟩
      refine b3 N F m' w' a' Q hN q1 (hg.mono q2.ext) q3 ?_
      intro m'' w'' a'' x p1 p2 p3 p4
      exact hQ m'' w'' a'' x p1 (q2.trans p2) p3 p4
    · rename_i hng
      have h1c := heng _ _ _ _ _ _ hok hr
      intro hwf
      obtain ⟨a1, a2, a3⟩ := h1c hwf
      refine ⟨a1, a2, fun N F m w a Q hN hh hg hr' hQ => ?_⟩
      refine a3 N F m w a _ hN hh hg hr' ?_
      intro m' w' a' x q1 q2 q3 q4
      refine into_of_not _ ?_ (hQ m' w' a' x q1 q2 q3 q4)
      intro l hl
      subst hl
      cases ex with
      | goto l' => exact hng l' e' h' hr
      | normal => cases q4
      | ret => cases q4
      | exit i => cases q4
      | pan v => obtain ⟨_, hq, _⟩ := (q4 : ∃ v', Exit.goto l = .panic [{ v := v', recovered := false }] ∧ VRel m' v v'); cases hq

theorem onNormal_eq (r : Res) (k : Env → Heap → Res) : onNormal r k = (match r with
    | some (.normal, e', h') => k e' h'
    | r => r) := by
  cases r with
  | none => rfl
  | some x => obtain ⟨ex, e, h⟩ := x; cases ex <;> rfl
theorem onExit_eq (r : Res) (id : Nat) : onExit r id = (match r with
    | some (.exit i, e', h') => (Bool.rec (some (.exit i, e', h')) (some (.normal, e', h')) (Nat.beq i id) : Res)
    | r => r) := by
  cases r with
  | none => rfl
  | some x => obtain ⟨ex, e, h⟩ := x; cases ex <;> rfl
theorem engine_ok (hm : P.follows .mixedOrders = true) (hcl : CallOk P ng cl) : ∀ (n : Nat), (∀ (c : Code) (e e' : Env) (h h' : Heap) (ex : AExit), codeOk ng nt c = true → engine P cl n c e h = some (ex, e', h') → Comes' P ng nt c ex e e' h h') ∧
    (∀ (c : Code) (e e' : Env) (h h' : Heap) (ex : AExit), codeOk ng nt c = true → mapLoopOf c = none → engine P cl n (.loop c) e h = some (ex, e', h') → Rounds' P ng nt c n ex e e' h h') := by
  intro n
  induction n with
  | zero => exact ⟨fun c e e' h h' ex _ hr => by simp [engine] at hr, fun c e e' h h' ex _ _ hr => by simp [engine] at hr⟩
  | succ n ih =>
    obtain ⟨ihc, ihl⟩ := ih
    have hloop : ∀ (c : Code) (e e' : Env) (h h' : Heap) (ex : AExit), codeOk ng nt c = true → mapLoopOf c = none → engine P cl (n + 1) (.loop c) e h = some (ex, e', h') → Rounds' P ng nt c (n + 1) ex e e' h h' := by
      intro c e e' h h' ex hok hml hr
      have hr' : (match mapLoopOf c with
        | some (it, tup, okT, c2) => explore (engine P cl n) it tup okT c2 n e h
        | none => onNormal (engine P cl n c e h) (engine P cl n (.loop c))) = some (ex, e', h') := hr
      rw [hml] at hr'
      simp only at hr'
      rw [onNormal_eq] at hr'
      split at hr'
      · rename_i e1 h1 h1c
        exact .more (ihc _ _ _ _ _ _ hok h1c) (ihl _ _ _ _ _ _ hok hml hr')
      · rename_i hn
        exact .stop (ihc _ _ _ _ _ _ hok hr') (fun he => hn _ _ (he ▸ hr'))
    refine ⟨fun c e e' h h' ex hok hr => ?_, hloop⟩
    cases c with
    | skip =>
      have hr' : some (AExit.normal, e, h) = some (ex, e', h') := hr
      simp only [Option.some.injEq, Prod.mk.injEq] at hr'
      obtain ⟨rfl, rfl, rfl⟩ := hr'
      exact .nop (fun Q a w hQ => wp_skip (hQ _ fun _ => rfl))
    | label l =>
      have hr' : some (AExit.normal, e, h) = some (ex, e', h') := hr
      simp only [Option.some.injEq, Prod.mk.injEq] at hr'
      obtain ⟨rfl, rfl, rfl⟩ := hr'
      exact .nop (fun Q a w hQ => wp_label (hQ _ fun _ => rfl))
    | ret =>
      have hr' : some (AExit.ret, e, h) = some (ex, e', h') := hr
      simp only [Option.some.injEq, Prod.mk.injEq] at hr'
      obtain ⟨rfl, rfl, rfl⟩ := hr'
      exact .nop (fun Q a w hQ => wp_ret (hQ _ fun _ => rfl))
    | exit id =>
      have hr' : some (AExit.exit id, e, h) = some (ex, e', h') := hr
      simp only [Option.some.injEq, Prod.mk.injEq] at hr'
      obtain ⟨rfl, rfl, rfl⟩ := hr'
      exact .nop (fun Q a w hQ => wp_exit (hQ _ fun _ => rfl))
    | goto l =>
      have hr' : some (AExit.goto l, e, h) = some (ex, e', h') := hr
      simp only [Option.some.injEq, Prod.mk.injEq] at hr'
      obtain ⟨rfl, rfl, rfl⟩ := hr'
      exact .nop (fun Q a w hQ => wp_goto (hQ _ fun _ => rfl))
    | seq c1 c2 =>
      simp only [codeOk, Bool.and_eq_true] at hok
      have hr' : (match engine P cl n c1 e h with
        | some (.normal, e', h') => engine P cl n c2 e' h'
        | r => r) = some (ex, e', h') := by rw [← onNormal_eq]; exact hr
      split at hr'
      · rename_i e1 h1 h1c
        exact .seq (ihc _ _ _ _ _ _ hok.1 h1c) (ihc _ _ _ _ _ _ hok.2 hr')
      · rename_i hn
        exact .stop (ihc _ _ _ _ _ _ hok.1 hr') (fun he => hn _ _ (he ▸ hr'))
    | cond x c1 c2 =>
      simp only [codeOk, Bool.and_eq_true] at hok
      have hr' : (match e.eval x with
        | .bool t => engine P cl n (Bool.rec c2 c1 t) e h
        | _ => none) = some (ex, e', h') := hr
      split at hr' <;> try (simp at hr'; done)
      rename_i t ht
      have hok' : codeOk ng nt (Bool.rec c2 c1 t) = true := by
        cases t
        · exact hok.2
        · exact hok.1.2
      intro hwf
      obtain ⟨a1, a2, a3⟩ := ihc _ _ _ _ _ _ hok' hr' hwf
      refine ⟨a1, a2, fun N F m w a Q hN hh hg hr hQ => ?_⟩
      have hev := hr.eval hg hok.1.1
      rw [← Env.eval_eq, ht] at hev
      generalize hv : a.eval x = v at hev
      cases hev
      refine wp_cond hv ?_
      have := a3 N F m w a Q hN hh hg hr hQ
      cases t <;> exact this
    | block id c =>
      have hok' : codeOk ng nt c = true := hok
      have hr' : (match engine P cl n c e h with
        | some (.exit i, e', h') => (Bool.rec (some (.exit i, e', h')) (some (.normal, e', h')) (Nat.beq i id) : Res)
        | r => r) = some (ex, e', h') := by rw [← onExit_eq]; exact hr
      split at hr'
      · rename_i i e1 h1 h1c
        by_cases hi : i = id
        · subst hi
          rw [show Nat.beq i i = true from Nat.beq_refl i] at hr'
          simp only [Option.some.injEq, Prod.mk.injEq] at hr'
          obtain ⟨rfl, rfl, rfl⟩ := hr'
          exact (ihc _ _ _ _ _ _ hok' h1c).block (by simp)
        · rw [show Nat.beq i id = false from by rw [← Bool.not_eq_true, Nat.beq_eq]; exact hi] at hr'
          simp only [Option.some.injEq, Prod.mk.injEq] at hr'
          obtain ⟨rfl, rfl, rfl⟩ := hr'
          exact (ihc _ _ _ _ _ _ hok' h1c).block (by simp [hi])
      · rename_i hn
        refine (ihc _ _ _ _ _ _ hok' hr').block ?_
        cases ex with
        | exit i => exact absurd hr' (hn _ _ _)
        | _ => rfl
    | loop c =>
      have hok' : codeOk ng nt c = true := hok
      cases hml : mapLoopOf c with
      | none => exact (hloop c _ _ _ _ _ hok' hml hr).loop
      | some x =>
        obtain ⟨it, tup, okT, c2⟩ := x
        have hr' : (match mapLoopOf c with
          | some (it, tup, okT, c2) => explore (engine P cl n) it tup okT c2 n e h
          | none => onNormal (engine P cl n c e h) (engine P cl n (.loop c))) = some (ex, e', h') := hr
        rw [hml] at hr'
        exact (explore_ok (fun c e e' h h' ex => ihc c e e' h h' ex) hok' hml hr').loop
    | scope c =>
      have hok' : codeOk ng nt c = true := hok
      have hr' : scopeRun (engine P cl n) c n c e h = some (ex, e', h') := hr
      have := scope_ok hok' (fun c e h ex e' h' => ihc c e e' h h' ex) n c e e' h h' ex hok' hr'
      intro hwf
      obtain ⟨a1, a2, a3⟩ := this hwf
      exact ⟨a1, a2, fun N F m w a Q hN hh hg hr hQ => wp_scope_into n (a3 N F m w a Q hN hh hg hr hQ)⟩
    | region id ops draw =>
      have hok' : ops.toList.all (opersOk ng nt) = true := hok
      cases draw with
      | false => exact region_wp hcl hok' hr
      | true => exact draw_wp hm hcl hok' hr
    | rangeFunc _ _ _ _ => simp [codeOk] at hok
    | refuse _ =>
      have hr' : (none : Res) = some (ex, e', h') := hr
      cases hr'
end Go.AM
