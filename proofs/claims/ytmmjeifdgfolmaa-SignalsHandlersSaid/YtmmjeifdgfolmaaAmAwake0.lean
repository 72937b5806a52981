/- A call without arguments that gave true in a run of its own: a special for it, where no globals are named. -/
import Derived.Test.YtmmjeifdgfolmaaAmAwake
namespace Go.AM
variable {P : Program}
noncomputable def noHeap : Heap := ⟨.leaf, 0⟩
theorem noHeap_wf : HWf noHeap := fun b _ => Trie.get_leaf b
noncomputable def trueP (_ : Caller) (args : List Value) (h : Heap) : Option (Out × Heap) := match args with
  | [] => some (.ret (.bool true), h)
  | _ => none
theorem trueP_ok {cl0 : Caller} (hcl0 : CallOk P 0 cl0) {f : FuncId} (hrun : isTrue (cl0 f [] noHeap) = true) (cl : Caller) : CallOkAt P 0 f (trueP cl) := by
  cases hq : cl0 f [] noHeap with
  | none => rw [hq] at hrun; simp [isTrue] at hrun
  | some q =>
    obtain ⟨o0, h0⟩ := q
    rw [hq] at hrun
    have ho : o0 = .ret (.bool true) := by
      unfold isTrue at hrun
      split at hrun
      · rename_i b _ heq
        simp only [Option.some.injEq, Prod.mk.injEq] at heq
        rw [heq.1, hrun]
      · simp at hrun
    subst ho
    obtain ⟨hen, _, hnx, hc⟩ := hcl0 f [] _ _ h0 hq noHeap_wf
    intro args h o h' hr hwf
    unfold trueP at hr
    split at hr <;> try (simp at hr; done)
    simp only [Option.some.injEq, Prod.mk.injEq] at hr
    obtain ⟨rfl, rfl⟩ := hr
    refine ⟨hen, hwf, Nat.le_refl _, fun N F m w args' hN hh hgl ha => ?_⟩
    cases ha
    let M0 : Mp := fun _ => .fresh
    have hrel : HRel M0 (mix noHeap h0.nx fun _ => none) w := by
      refine ⟨fun b => ?_, fun b b' l1 l2 h1 _ _ _ => by cases h1⟩
      unfold mix
      split
      · rw [show noHeap.get b = none from Trie.get_leaf b]; trivial
      · trivial
    refine (hc h0.nx (fun _ => none) M0 w [] (Nat.le_refl _) hrel (fun x hx => absurd hx (Nat.not_lt_zero _)) .nil).mono ?_
    rintro e w' ⟨m', ⟨v', rfl, hv⟩, _, hst⟩
    cases hv
    have hkeep : ∀ cb, cb < w.heap.size → w'.heap[cb]? = w.heap[cb]? := fun cb hcb => hst.keep cb hcb fun b l' hl' hrw => by cases hl'
    refine ⟨m, ⟨_, rfl, .bool true⟩, ⟨fun b => (hh.blk b).mono (.refl m) fun l' hl' => hkeep _ (hh.lt hl'), hh.inj⟩, ?_⟩
    exact ⟨.refl m, hst.size, hst.os, hst.out, fun cb hcb _ => hkeep cb hcb, fun b l' hl' hr' => .inr ⟨b, l', hl', hr', rfl⟩, fun b l' hl' _ => hl'⟩
noncomputable def spAt (f : FuncId) : Special := fun g => bif Nat.beq g f then some trueP else none
theorem spAt_ok {cl0 : Caller} (hcl0 : CallOk P 0 cl0) {f : FuncId} (hrun : isTrue (cl0 f [] noHeap) = true) : SpecOk P 0 (spAt f) := by
  intro g G hG cl _
  unfold spAt at hG
  cases hb : Nat.beq g f with
  | false => rw [hb] at hG; cases hG
  | true =>
    rw [hb] at hG
    simp only [cond_true, Option.some.injEq] at hG
    subst hG
    rw [Nat.eq_of_beq_eq_true hb]
    exact trueP_ok hcl0 hrun cl
end Go.AM
