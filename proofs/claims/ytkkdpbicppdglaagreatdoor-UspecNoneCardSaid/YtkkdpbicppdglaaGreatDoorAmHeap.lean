/- Abstract heaps that are given block by block; a call that gives true from such a heap. -/
import Derived.Test.YtkkdpbicppdglaaGreatDoorAmSlice
namespace Go.AM
open Go.ChangeShapes Go.WideShapes
variable {P : Program} {W : World}

noncomputable def blkT (l : List Blk) : Trie Blk → Nat → Trie Blk := List.rec (motive := fun _ => Trie Blk → Nat → Trie Blk) (fun t _ => t) (fun b _ ih t i => ih (t.set i b) (Nat.succ i)) l
noncomputable def listHeap (l : List Blk) : Heap := ⟨blkT l .leaf 0, l.length⟩
theorem get_blkT (l : List Blk) : ∀ (t : Trie Blk) (i k : Nat), (blkT l t i).get k = if i ≤ k ∧ k < i + l.length then l[k - i]? else t.get k := by
  induction l with
  | nil =>
    intro t i k
    show t.get k = _
    rw [if_neg (by simp)]
  | cons b r ih =>
    intro t i k
    show (blkT r (t.set i b) (i + 1)).get k = _
    rw [ih, Trie.get_set]
    simp only [List.length_cons]
    by_cases h : i ≤ k ∧ k < i + (r.length + 1)
    · rw [if_pos h]
      by_cases e : k = i
      · subst e; rw [if_neg (by omega), if_pos rfl]; simp
      · rw [if_pos (by omega)]
        rw [show k - i = (k - (i + 1)) + 1 by omega, List.getElem?_cons_succ]
    · rw [if_neg h, if_neg (by omega), if_neg (by omega)]
theorem listHeap_get (l : List Blk) (k : Nat) : (listHeap l).get k = l[k]? := by
  show (blkT l .leaf 0).get k = _
  rw [get_blkT]
  by_cases h : k < l.length
  · rw [if_pos (by omega)]; simp
  · rw [if_neg (by omega), Trie.get_leaf, List.getElem?_eq_none (by omega)]
theorem listHeap_wf (l : List Blk) : HWf (listHeap l) := fun b hb => by
  have hb : l.length ≤ b := hb
  rw [listHeap_get, List.getElem?_eq_none hb]
theorem statMp_get {st : List Stat} {b : Nat} {s : Stat} (h : statMp st b = s) (hs : s ≠ .fresh) : st[b]? = some s := by
  unfold statMp at h
  cases hb : st[b]? with
  | none => rw [hb] at h; exact absurd h.symm hs
  | some s' => rw [hb] at h; rw [← h]; rfl
theorem list_rel {l : List Blk} {st : List Stat} (hlen : st.length = l.length) (hb : ∀ (i : Nat) (s : Stat) (b : Blk), st[i]? = some s → l[i]? = some b → BRel (statMp st) W s (some b))
    (hinj : ∀ (i j : Nat) (l1 l2 : Loc), st[i]? = some (.live l1) → st[j]? = some (.live l2) → l1.cb = l2.cb → i = j) (N : Nat) (hN : l.length ≤ N) : HRel (statMp st) (mix (listHeap l) N fun _ => none) W := by
  refine ⟨fun b => ?_, fun b b' l1 l2 h1 h2 e _ => hinj b b' l1 l2 (statMp_get h1 (by simp)) (statMp_get h2 (by simp)) e⟩
  unfold mix
  rw [listHeap_get]
  by_cases h : b < l.length
  · rw [if_pos (by omega)]
    have h1 : st[b]? = some (st[b]'(by omega)) := List.getElem?_eq_getElem _
    have h2 : l[b]? = some (l[b]'h) := List.getElem?_eq_getElem _
    have : statMp st b = st[b]'(by omega) := by unfold statMp; rw [h1]; rfl
    rw [this, h2]
    exact hb b _ _ h1 h2
  · have : statMp st b = .fresh := by unfold statMp; rw [List.getElem?_eq_none (by omega)]; rfl
    rw [this, List.getElem?_eq_none (by omega)]
    split <;> trivial
theorem true_callsG {cl : Caller} {ng : Nat} (hcl : CallOk P ng cl) {f : FuncId} {args args' : List Value} {H : Heap} {M : Mp} {W : World} (hwf : HWf H) (hrel : ∀ N, H.nx ≤ N → HRel M (mix H N fun _ => none) W) (hg : GlobOk ng M) (hro : ∀ b l, M b = .live l → l.rw = false)
    (hrun : isTrue (cl f args H) = true) (ha : VRels M args args') :
    Calls P f args'.toArray W fun e W' => e = .returned (.bool true) ∧ Still W W' := by
  cases hq : cl f args H with
  | none => rw [hq] at hrun; simp [isTrue] at hrun
  | some q =>
    obtain ⟨o, h'⟩ := q
    rw [hq] at hrun
    have ho : o = .ret (.bool true) := by
      unfold isTrue at hrun
      split at hrun
      · rename_i b _ heq
        simp only [Option.some.injEq, Prod.mk.injEq] at heq
        rw [heq.1, hrun]
      · simp at hrun
    subst ho
    obtain ⟨_, _, hnx, hc⟩ := hcl f args H _ h' hq hwf
    refine (hc h'.nx (fun _ => none) M W args' (Nat.le_refl _) (hrel _ hnx) hg ha).mono ?_
    rintro e W' ⟨m', ⟨v', rfl, hv⟩, _, hst⟩
    cases hv
    refine ⟨rfl, hst.os, hst.out, fun cb hcb => hst.keep cb hcb ?_⟩
    intro b l hl hrw
    rw [hro b l hl] at hrw
    cases hrw
theorem true_list {cl : Caller} {ng : Nat} (hcl : CallOk P ng cl) {f : FuncId} {args args' : List Value} {l : List Blk} {st : List Stat} (hlen : st.length = l.length) (hb : ∀ (i : Nat) (s : Stat) (b : Blk), st[i]? = some s → l[i]? = some b → BRel (statMp st) W s (some b))
    (hinj : ∀ (i j : Nat) (l1 l2 : Loc), st[i]? = some (.live l1) → st[j]? = some (.live l2) → l1.cb = l2.cb → i = j) (hg : GlobOk ng (statMp st)) (hro : ∀ (i : Nat) (l : Loc), st[i]? = some (.live l) → l.rw = false)
    (hrun : isTrue (cl f args (listHeap l)) = true) (ha : VRels (statMp st) args args') : Calls P f args'.toArray W fun e W' => e = .returned (.bool true) ∧ Still W W' :=
  true_callsG hcl (listHeap_wf l) (fun N hN => list_rel hlen hb hinj N hN) hg (fun b l h => hro b l (statMp_get h (by simp))) hrun ha
end Go.AM
