/- Regions whose order is open: what was done, and in which orders it may be done. -/
import Derived.Test.YtkkdpbicppdglaaGreatDoorAmRun2
namespace Go.AM
open Classical

/- ## which stand ahead of which -/
theorem testBit_mask (acc : List Nat) (i : Nat) : ∀ (es : List Edge) (s : Nat),
    (es.foldl (fun s e => if Region.binds .any e then s ||| 2 ^ e.on ||| acc.getD e.on 0 else s) s).testBit i = true ↔
      s.testBit i = true ∨ ∃ e ∈ es, Region.binds .any e = true ∧ (e.on = i ∨ (acc.getD e.on 0).testBit i = true) := by
  intro es
  induction es with
  | nil => intro s; simp
  | cons e r ih =>
    intro s
    rw [List.foldl_cons, ih]
    by_cases hb : Region.binds .any e = true
    · simp only [hb, if_true, Nat.testBit_or, Bool.or_eq_true, Nat.testBit_two_pow, decide_eq_true_eq, List.mem_cons, exists_eq_or_imp, true_and]
      constructor
      · rintro (((h | h) | h) | ⟨x, h1, h2⟩)
        · exact .inl h
        · exact .inr (.inl (.inl h))
        · exact .inr (.inl (.inr h))
        · exact .inr (.inr ⟨x, h1, h2⟩)
      · rintro (h | (h | h) | ⟨x, h1, h2⟩)
        · exact .inl (.inl (.inl h))
        · exact .inl (.inl (.inr h))
        · exact .inl (.inr h)
        · exact .inr ⟨x, h1, h2⟩
    · simp only [hb, Bool.false_eq_true, if_false, List.mem_cons, exists_eq_or_imp, false_and, false_or]
theorem befs_spec : ∀ (l : List Oper) (acc : List Nat), (befs l acc).length = acc.length + l.length ∧ (∀ k, k < acc.length → (befs l acc).getD k 0 = acc.getD k 0) ∧
    ∀ (j : Nat) (o : Oper), l[j]? = some o → (befs l acc).getD (acc.length + j) 0 = maskOf ((befs l acc).take (acc.length + j)) o := by
  intro l
  induction l with
  | nil => intro acc; exact ⟨by simp [befs], fun k _ => by simp [befs], fun j o h => by simp at h⟩
  | cons o r ih =>
    intro acc
    obtain ⟨i1, i2, i3⟩ := ih (acc ++ [maskOf acc o])
    simp only [List.length_append, List.length_cons, List.length_nil, Nat.zero_add] at i1 i2 i3
    have hpre : ∀ k, k ≤ acc.length → (befs (o :: r) acc).take k = acc.take k := by
      intro k hk
      apply List.ext_getElem?
      intro i
      rw [List.getElem?_take, List.getElem?_take]
      by_cases hi : i < k
      · rw [if_pos hi, if_pos hi]
        have := i2 i (by omega)
        simp only [befs]
        have h1 : i < (befs r (acc ++ [maskOf acc o])).length := by omega
        rw [List.getD_eq_getElem?_getD, List.getD_eq_getElem?_getD, List.getElem?_append_left (by omega), List.getElem?_eq_getElem h1, List.getElem?_eq_getElem (show i < acc.length by omega)] at this
        simp only [Option.getD_some] at this
        rw [List.getElem?_eq_getElem h1, List.getElem?_eq_getElem (show i < acc.length by omega), this]
      · rw [if_neg hi, if_neg hi]
    refine ⟨by simp only [befs, List.length_cons]; omega, fun k hk => ?_, fun j p hp => ?_⟩
    · simp only [befs]
      rw [i2 k (by omega), List.getD_eq_getElem?_getD, List.getD_eq_getElem?_getD, List.getElem?_append_left hk]
    · cases j with
      | zero =>
        simp only [List.getElem?_cons_zero, Option.some.injEq] at hp
        subst hp
        rw [Nat.add_zero, hpre _ (Nat.le_refl _), List.take_length]
        simp only [befs]
        rw [i2 acc.length (by omega), List.getD_eq_getElem?_getD, List.getElem?_append_right (Nat.le_refl _)]
        simp
      | succ j =>
        simp only [List.getElem?_cons_succ] at hp
        have := i3 j p hp
        simp only [befs]
        rw [show acc.length + (j + 1) = acc.length + 1 + j by omega]
        exact this

/-- closed under what stands ahead. -/
def Down (ops : Array Oper) (D : Nat → Bool) : Prop := ∀ j o, ops.toList[j]? = some o → D j = true → ∀ e ∈ o.after, Region.binds .any e = true → D e.on = true
theorem bef_step {ops : Array Oper} {j i : Nat} {o : Oper} (ho : ops.toList[j]? = some o) (hb : ((befs ops.toList []).getD j 0).testBit i = true) :
    ∃ e ∈ o.after, Region.binds .any e = true ∧ (e.on = i ∨ (e.on < j ∧ ((befs ops.toList []).getD e.on 0).testBit i = true)) := by
  obtain ⟨h1, _, h3⟩ := befs_spec ops.toList []
  have := h3 j o ho
  simp only [List.length_nil, Nat.zero_add] at this
  rw [this] at hb
  unfold maskOf at hb
  rw [testBit_mask] at hb
  rcases hb with hb | ⟨e, e1, e2, e3⟩
  · simp at hb
  · refine ⟨e, Array.mem_toList_iff.1 e1, e2, ?_⟩
    rcases e3 with e3 | e3
    · exact .inl e3
    · right
      rw [List.getD_eq_getElem?_getD, List.getElem?_take] at e3
      by_cases hlt : e.on < j
      · rw [if_pos hlt] at e3
        exact ⟨hlt, by rw [List.getD_eq_getElem?_getD]; exact e3⟩
      · rw [if_neg hlt] at e3; simp at e3
theorem bef_down {ops : Array Oper} {D : Nat → Bool} (hD : Down ops D) : ∀ (j i : Nat), j < ops.size → ((befs ops.toList []).getD j 0).testBit i = true → D j = true → D i = true := by
  intro j
  induction j using Nat.strongRecOn with
  | _ j ih =>
    intro i hj hb hd
    have ho : ops.toList[j]? = some ops.toList[j] := List.getElem?_eq_getElem (by simpa using hj)
    obtain ⟨e, e1, e2, e3⟩ := bef_step ho hb
    have hde := hD j _ ho hd e e1 e2
    rcases e3 with rfl | ⟨e3, e4⟩
    · exact hde
    · exact ih e.on e3 i (by omega) e4 hde
theorem bef_ready {ops : Array Oper} {D : Nat → Bool} (hD : Down ops D) {i k : Nat} {o : Oper} (ho : ops.toList[i]? = some o) (hi : i < ops.size) (hall : ∀ e ∈ o.after, Region.binds .any e = true → D e.on = true)
    (hb : ((befs ops.toList []).getD i 0).testBit k = true) : D k = true := by
  obtain ⟨e, e1, e2, e3⟩ := bef_step ho hb
  have hde := hall e e1 e2
  rcases e3 with rfl | ⟨e3, e4⟩
  · exact hde
  · exact bef_down hD e.on k (by omega) e4 hde

/- ## the same blocks -/
theorem beqT_eq : ∀ (t u : Trie Value), beqT t u = true → t = u := by
  intro t
  induction t with
  | leaf =>
    intro u h
    cases u with
    | leaf => rfl
    | node o l r => exact absurd h (by simp [beqT])
  | node o l r il ir =>
    intro u h
    cases u with
    | leaf => exact absurd h (by simp [beqT])
    | node o' l' r' =>
      have h' : (beqO o o' && beqT l l' && beqT r r') = true := h
      simp only [Bool.and_eq_true] at h'
      obtain ⟨⟨h1, h2⟩, h3⟩ := h'
      rw [il _ h2, ir _ h3]
      congr 1
      cases o <;> cases o' <;> simp [beqO] at h1
      · rfl
      · rw [(beqV_eq 100).1 _ _ h1]
theorem beqF_eq : ∀ (a b : Fact), beqF a b = true → a = b := by
  intro a b h
  unfold beqF at h
  split at h
  · simp only [Bool.and_eq_true] at h
    rw [opN_inj h.1.1, (beqV_eq 100).1 _ _ h.1.2, (beqV_eq 100).1 _ _ h.2]
  · simp only [Bool.and_eq_true] at h
    rw [opN_inj h.1.1, (beqV_eq 100).1 _ _ h.1.2, (beqV_eq 100).1 _ _ h.2]
  · simp only [Bool.and_eq_true] at h
    rw [kindN_inj h.1, (beqV_eq 100).1 _ _ h.2]
  · simp only [Bool.and_eq_true, beq_iff_eq, eqI_eq] at h
    rw [h.1.1.1, kindN_inj h.1.1.2, h.1.2, (beqV_eq 100).1 _ _ h.2]
  · simp at h
theorem beqFs_eq : ∀ (a b : List Fact), beqFs a b = true → a = b
  | [], [], _ => rfl
  | x :: r, y :: s, h => by
    simp only [beqFs, Bool.and_eq_true] at h
    rw [beqF_eq _ _ h.1, beqFs_eq r s h.2]
  | [], _ :: _, h => by simp [beqFs] at h
  | _ :: _, [], h => by simp [beqFs] at h
theorem beqB_eq {x y : Option Blk} (h : beqB x y = true) : x = y := by
  unfold beqB at h
  split at h
  · simp only [Bool.and_eq_true, decide_eq_true_eq] at h
    obtain ⟨⟨h1, h2⟩, h3⟩ := h
    rw [Nat.eq_of_beq_eq_true h1, h2, beqT_eq _ _ h3]
  · rw [beqFs_eq _ _ h]
  · rfl
  · simp at h

theorem sameB_eq {x y : Option Blk} (h : sameB x y = true) : x = y := by
  unfold sameB at h
  rw [Bool.or_eq_true] at h
  rcases h with h | h
  · exact beqB_eq h
  · exact @of_decide_eq_true _ (Classical.propDecidable _) h
theorem sameB_of {x y : Option Blk} (h : x = y) : sameB x y = true := by
  unfold sameB
  rw [Bool.or_eq_true]
  exact .inr (@decide_eq_true _ (Classical.propDecidable _) h)

theorem disj_spec {a b : List Nat} (h : disj a b = true) {x : Nat} (hx : x ∈ a) : x ∉ b := by
  intro hb
  have := (List.all_eq_true.1 h) x hx
  simp only [Bool.not_eq_true', List.any_eq_false] at this
  exact this x hb (Nat.beq_refl x)

/-- a block that an operation doesn't write. -/
theorem apply_other {h : Heap} {f : Eff} {rd : List Nat} {b : Nat} (hb : b ∉ (Did.eff rd f h.nx).wrote) : (h.apply f).get b = h.get b := by
  have hnw : ∀ (l : List Blk) (t : Trie Blk) (nx : Nat), b ∉ newIds nx l → (applyNw t nx l).t.get b = t.get b := by
    intro l
    induction l with
    | nil => intro t nx _; rfl
    | cons x r ih =>
      intro t nx hb
      simp only [newIds, List.mem_cons, not_or] at hb
      show (applyNw (t.set nx x) (nx + 1) r).t.get b = _
      rw [ih _ _ hb.2, Trie.get_set_ne _ _ hb.1]
  have hwr : ∀ (l : List (Nat × Blk)) (t : Trie Blk), b ∉ l.map (·.1) → (applyWr t l).get b = t.get b := by
    intro l
    induction l with
    | nil => intro t _; rfl
    | cons x r ih =>
      intro t hb
      simp only [List.map_cons, List.mem_cons, not_or] at hb
      simp only [applyWr]
      rw [ih _ hb.2, Trie.get_set_ne _ _ hb.1]
  simp only [Did.wrote, List.mem_append, not_or] at hb
  obtain ⟨v, wr, nw⟩ := f
  cases nw with
  | nil =>
    cases wr with
    | nil => rfl
    | cons x r => exact hwr _ _ hb.1
  | cons x r => exact (hnw _ _ _ hb.2).trans (hwr _ _ hb.1)
/-- what an operation writes hangs not on what was there. -/
theorem apply_same {h h2 : Heap} {f : Eff} {rd : List Nat} {b : Nat} (hnx : h2.nx = h.nx) (hb : b ∈ (Did.eff rd f h.nx).wrote) : (h2.apply f).get b = (h.apply f).get b ∧ (h.apply f).get b ≠ none := by
  have hwr : ∀ (l : List (Nat × Blk)) (t t2 : Trie Blk), (t2.get b = t.get b ∧ t.get b ≠ none) ∨ b ∈ l.map (·.1) → (applyWr t2 l).get b = (applyWr t l).get b ∧ (applyWr t l).get b ≠ none := by
    intro l
    induction l with
    | nil => intro t t2 hor; rcases hor with h | h; exact h; simp at h
    | cons x r ih =>
      intro t t2 hor
      simp only [applyWr]
      refine ih _ _ ?_
      by_cases e : b = x.1
      · left; rw [e, Trie.get_set_same, Trie.get_set_same]; exact ⟨rfl, by simp⟩
      · rcases hor with h | h
        · left; rw [Trie.get_set_ne _ _ e, Trie.get_set_ne _ _ e]; exact h
        · right
          simp only [List.map_cons, List.mem_cons] at h
          exact h.resolve_left e
  have hnw : ∀ (l : List Blk) (t t2 : Trie Blk) (nx : Nat), (t2.get b = t.get b ∧ t.get b ≠ none) ∨ b ∈ newIds nx l → (applyNw t2 nx l).t.get b = (applyNw t nx l).t.get b ∧ (applyNw t nx l).t.get b ≠ none := by
    intro l
    induction l with
    | nil => intro t t2 nx hor; rcases hor with h | h; exact h; simp [newIds] at h
    | cons x r ih =>
      intro t t2 nx hor
      show (applyNw (t2.set nx x) (nx + 1) r).t.get b = (applyNw (t.set nx x) (nx + 1) r).t.get b ∧ (applyNw (t.set nx x) (nx + 1) r).t.get b ≠ none
      refine ih _ _ _ ?_
      by_cases e : b = nx
      · left; rw [e, Trie.get_set_same, Trie.get_set_same]; exact ⟨rfl, by simp⟩
      · rcases hor with h | h
        · left; rw [Trie.get_set_ne _ _ e, Trie.get_set_ne _ _ e]; exact h
        · right
          simp only [newIds, List.mem_cons] at h
          exact h.resolve_left e
  simp only [Did.wrote, List.mem_append] at hb
  obtain ⟨v, wr, nw⟩ := f
  cases nw with
  | nil =>
    cases wr with
    | nil => simp [newIds] at hb
    | cons x r => exact hwr (x :: r) h.t h2.t (.inr (hb.resolve_right (by simp [newIds])))
  | cons x r =>
    have : (h2.apply ⟨v, wr, x :: r⟩) = applyNw (applyWr h2.t wr) h2.nx (x :: r) := rfl
    have e2 : (h.apply ⟨v, wr, x :: r⟩) = applyNw (applyWr h.t wr) h.nx (x :: r) := rfl
    rw [this, e2, hnx]
    refine hnw (x :: r) _ _ _ ?_
    rcases hb with hb | hb
    · exact .inl (hwr wr h.t h2.t (.inr hb))
    · exact .inr hb
theorem apply_nx (f : Eff) : ∀ (h h2 : Heap), h2.nx = h.nx → (h2.apply f).nx = (h.apply f).nx ∧ ∀ b, h.nx ≤ b → b < (h.apply f).nx → b ∈ newIds h.nx f.nw := by
  have hnw : ∀ (l : List Blk) (t t2 : Trie Blk) (nx : Nat), (applyNw t2 nx l).nx = (applyNw t nx l).nx ∧ ∀ b, nx ≤ b → b < (applyNw t nx l).nx → b ∈ newIds nx l := by
    intro l
    induction l with
    | nil => intro t t2 nx; exact ⟨rfl, fun b h1 h2 => absurd h2 (by show ¬ b < nx; omega)⟩
    | cons x r ih =>
      intro t t2 nx
      obtain ⟨i1, i2⟩ := ih (t.set nx x) (t2.set nx x) (nx + 1)
      refine ⟨i1, fun b h1 h2 => ?_⟩
      simp only [newIds, List.mem_cons]
      by_cases e : b = nx
      · exact .inl e
      · exact .inr (i2 b (by omega) h2)
  intro h h2 hnx
  obtain ⟨v, wr, nw⟩ := f
  cases nw with
  | nil =>
    cases wr with
    | nil => exact ⟨hnx, fun b h1 h2 => absurd h2 (by show ¬ b < h.nx; omega)⟩
    | cons x r => exact ⟨hnx, fun b h1 h2 => absurd h2 (by show ¬ b < h.nx; omega)⟩
  | cons x r =>
    have : (h2.apply ⟨v, wr, x :: r⟩) = applyNw (applyWr h2.t wr) h2.nx (x :: r) := rfl
    have e2 : (h.apply ⟨v, wr, x :: r⟩) = applyNw (applyWr h.t wr) h.nx (x :: r) := rfl
    rw [this, e2, hnx]
    exact hnw (x :: r) _ _ _

/-- A heap of any blocks below a number. -/
theorem heap_of (G : Nat → Option Blk) : ∀ n, ∃ t : Trie Blk, ∀ b, t.get b = if b < n then G b else none := by
  intro n
  induction n with
  | zero => exact ⟨.leaf, fun b => by simp [Trie.get_leaf]⟩
  | succ n ih =>
    obtain ⟨t, ht⟩ := ih
    cases hg : G n with
    | none =>
      refine ⟨t, fun b => ?_⟩
      rw [ht]
      by_cases h1 : b < n
      · rw [if_pos h1, if_pos (by omega)]
      · rw [if_neg h1]
        by_cases h2 : b = n
        · subst h2; rw [if_pos (by omega), hg]
        · rw [if_neg (by omega)]
    | some x =>
      refine ⟨t.set n x, fun b => ?_⟩
      rw [Trie.get_set]
      by_cases h2 : b = n
      · subst h2; rw [if_pos rfl, if_pos (by omega), hg]
      · rw [if_neg h2, ht]
        by_cases h1 : b < n
        · rw [if_pos h1, if_pos (by omega)]
        · rw [if_neg h1, if_neg (by omega)]
end Go.AM
