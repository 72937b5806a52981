/- Loops and joins: what a piece of code reaches is told once, and used behind it. No condition. -/
import Derived.Test.YtmmjeifdgfolmaaAmSim5
namespace Go.AM
variable {P : Program} {ng : Nat} {sp : Special} {Q : AExit → Env → Heap → Prop}
theorem Run.over {Q' : AExit → Env → Heap → Prop} {K0 K : List Frm} {x : Ctl} {e : Env} {h : Heap} (hr : Run P ng sp Q' K0 x e h) (hk : ∀ ex e h, Q' ex e h → Run P ng sp Q K (.exit ex) e h) : Run P ng sp Q (K0 ++ K) x e h := by
  induction hr with
  | done hq => exact hk _ _ _ hq
  | skip _ ih => exact .skip ih
  | label _ ih => exact .label ih
  | ret _ ih => exact .ret ih
  | goto _ ih => exact .goto ih
  | leave _ ih => exact .leave ih
  | seq _ ih => exact .seq ih
  | cond h1 _ ih => exact .cond h1 ih
  | block _ ih => exact .block ih
  | loop h1 _ ih => exact .loop h1 ih
  | scope _ ih => exact .scope ih
  | region _ ih => exact .region ih
  | draw h1 h2 _ ih => exact .draw h1 h2 ih
  | xseq _ ih => exact .xseq ih
  | xseq' h1 _ ih => exact .xseq' h1 ih
  | xblk _ ih => exact .xblk ih
  | xblk' h1 _ ih => exact .xblk' h1 ih
  | xagain _ ih => exact .xagain ih
  | xagain' h1 _ ih => exact .xagain' h1 ih
  | xscope h1 _ ih => exact .xscope h1 ih
  | xscope' h1 _ ih => exact .xscope' h1 ih
  | onil _ ih => exact .onil ih
  | oskip h1 h2 _ ih => exact .oskip h1 h2 ih
  | oeff h1 h2 h3 h4 _ ih => exact .oeff h1 h2 h3 h4 ih
  | ocall h1 h2 h3 h4 h5 h6 _ ih => exact .ocall h1 h2 h3 h4 h5 h6 ih
  | ocallp h1 h2 h3 h4 h5 h6 _ ih => exact .ocallp h1 h2 h3 h4 h5 h6 ih
  | opanic h1 h2 h3 h4 _ ih => exact .opanic h1 h2 h3 h4 ih
  | rnil h1 _ ih => exact .rnil h1 ih
  | rskip h1 h2 _ ih => exact .rskip h1 h2 ih
  | reff h1 h2 h3 h4 _ ih => exact .reff h1 h2 h3 h4 ih
  | rcall h1 h2 h3 h4 h5 h6 _ ih => exact .rcall h1 h2 h3 h4 h5 h6 ih
/-- a piece of code, and what is left when it is through. -/
theorem run_join {K : List Frm} {c : Code} {e : Env} {h : Heap} (J : AExit → Env → Heap → Prop) (h1 : ∀ Q' : AExit → Env → Heap → Prop, (∀ ex e' h', J ex e' h' → Q' ex e' h') → Run P ng sp Q' [] (.code c) e h)
    (h2 : ∀ ex e' h', J ex e' h' → Run P ng sp Q K (.exit ex) e' h') : Run P ng sp Q K (.code c) e h :=
  (h1 J fun _ _ _ hj => hj).over h2
theorem runB_join {K : List Frm} {a b : Code} {v : Value} {e : Env} {h : Heap} (J : AExit → Env → Heap → Prop) (h1 : ∀ Q' : AExit → Env → Heap → Prop, (∀ ex e' h', J ex e' h' → Q' ex e' h') → RunB P ng sp Q' [] a b v e h)
    (h2 : ∀ ex e' h', J ex e' h' → Run P ng sp Q K (.exit ex) e' h') : RunB P ng sp Q K a b v e h := by
  obtain ⟨t, ht, hr⟩ := h1 J fun _ _ _ hj => hj
  exact ⟨t, ht, hr.over h2⟩
/-- a loop: its head's invariant, and what is left behind it. -/
theorem run_loop2 {K : List Frm} {body : Code} (hm : (mapLoopOf body).isNone = true) (I : Nat → Env → Heap → Prop) (J : AExit → Env → Heap → Prop)
    (step : ∀ n e h, I n e h → ∀ Q' : AExit → Env → Heap → Prop, (∀ n' e' h', n' < n → I n' e' h' → Q' .normal e' h') → (∀ ex e' h', ex ≠ .normal → J ex e' h' → Q' ex e' h') → Run P ng sp Q' [] (.code body) e h)
    (n : Nat) (e : Env) (h : Heap) (hi : I n e h) (after : ∀ ex e' h', ex ≠ .normal → J ex e' h' → Run P ng sp Q K (.exit ex) e' h') : Run P ng sp Q K (.code (.loop body)) e h := by
  refine run_loop hm I (fun n e h hi ih => ?_) n e h hi
  refine (step n e h hi (fun ex e' h' => (ex = .normal ∧ ∃ n', n' < n ∧ I n' e' h') ∨ (ex ≠ .normal ∧ J ex e' h')) (fun n' e' h' h1 h2 => .inl ⟨rfl, n', h1, h2⟩) (fun ex e' h' h1 h2 => .inr ⟨h1, h2⟩)).over ?_
  rintro ex e' h' (⟨rfl, n', h1, h2⟩ | ⟨h1, h2⟩)
  · exact .xagain (ih n' e' h' h1 h2)
  · exact .xagain' h1 (after ex e' h' h1 h2)
end Go.AM
