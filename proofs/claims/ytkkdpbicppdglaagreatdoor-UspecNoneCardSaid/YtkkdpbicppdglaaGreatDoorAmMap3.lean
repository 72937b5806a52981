/- What may stand for what: equal blocks, values that are equal or unknown. -/
import Derived.Test.YtkkdpbicppdglaaGreatDoorAmMap2
namespace Go.AM

theorem beqEs_eq : ∀ (a b : List (Value × Value × Nat)), beqEs a b = true → a = b
  | [], [], _ => rfl
  | x :: r, y :: s, h => by
    simp only [beqEs, Bool.and_eq_true] at h
    obtain ⟨⟨⟨h1, h2⟩, h3⟩, h4⟩ := h
    rw [beqEs_eq r s h4]
    obtain ⟨x1, x2, x3⟩ := x
    obtain ⟨y1, y2, y3⟩ := y
    have e1 : x1 = y1 := (beqV_eq 100).1 _ _ h1
    have e2 : x2 = y2 := (beqV_eq 100).1 _ _ h2
    have e3 : x3 = y3 := Nat.eq_of_beq_eq_true h3
    rw [e1, e2, e3]
  | [], _ :: _, h => by simp [beqEs] at h
  | _ :: _, [], h => by simp [beqEs] at h
theorem beqNs_eq : ∀ (a b : List Nat), beqNs a b = true → a = b
  | [], [], _ => rfl
  | x :: r, y :: s, h => by
    simp only [beqNs, Bool.and_eq_true] at h
    rw [Nat.eq_of_beq_eq_true h.1, beqNs_eq r s h.2]
  | [], _ :: _, h => by simp [beqNs] at h
  | _ :: _, [], h => by simp [beqNs] at h
theorem beqBlk_eq {a b : Blk} (h : beqBlk a b = true) : a = b := by
  unfold beqBlk at h
  split at h
  · simp only [Bool.and_eq_true, decide_eq_true_eq] at h
    rw [Nat.eq_of_beq_eq_true h.1.1, h.1.2, beqT_eq _ _ h.2]
  · simp only [Bool.and_eq_true] at h
    rw [Nat.eq_of_beq_eq_true h.1, beqEs_eq _ _ h.2]
  · simp only [Bool.and_eq_true, beq_iff_eq] at h
    rw [bytes_ext h.1, Nat.eq_of_beq_eq_true h.2]
  · simp only [Bool.and_eq_true] at h
    rw [Nat.eq_of_beq_eq_true h.1.1.1, Nat.eq_of_beq_eq_true h.1.1.2, beqNs_eq _ _ h.1.2, Nat.eq_of_beq_eq_true h.2]
  · rw [beqFs_eq _ _ h]
  · rfl
  · simp at h
theorem beqTB_eq : ∀ (t u : Trie Blk), beqTB t u = true → t = u := by
  intro t
  induction t with
  | leaf =>
    intro u h
    cases u with
    | leaf => rfl
    | node o l r => exact absurd h (by simp [beqTB])
  | node o l r il ir =>
    intro u h
    cases u with
    | leaf => exact absurd h (by simp [beqTB])
    | node o' l' r' =>
      have h' : (beqOB o o' && beqTB l l' && beqTB r r') = true := h
      simp only [Bool.and_eq_true] at h'
      obtain ⟨⟨h1, h2⟩, h3⟩ := h'
      rw [il _ h2, ir _ h3]
      congr 1
      cases o <;> cases o' <;> simp [beqOB] at h1
      · rfl
      · rw [beqBlk_eq h1]

theorem leT_get : ∀ (u t : Trie Value), leT t u = true → ∀ (k : Nat) (v : Value), u.get k = some v → t.get k = some v := by
  intro u
  induction u with
  | leaf => intro t _ k v hv; rw [Trie.get_leaf] at hv; cases hv
  | node o' l' r' il ir =>
    intro t h
    have low : ∀ (o : Option Value) (tl tr : Trie Value), (leO o o' && leT tl l' && leT tr r') = true → ∀ (k : Nat) (v : Value), (Trie.node o' l' r').get k = some v → (Trie.node o tl tr).get k = some v := by
      intro o tl tr h k v hv
      simp only [Bool.and_eq_true] at h
      obtain ⟨⟨h1, h2⟩, h3⟩ := h
      cases k with
      | zero =>
        rw [Trie.get_zero] at hv ⊢
        subst hv
        cases o with
        | none => simp [leO] at h1
        | some x => rw [(beqV_eq 100).1 _ _ h1]
      | succ k =>
        rw [Trie.get_succ] at hv ⊢
        by_cases e : k % 2 = 0
        · rw [if_pos e] at hv ⊢; exact il _ h2 _ _ hv
        · rw [if_neg e] at hv ⊢; exact ir _ h3 _ _ hv
    cases t with
    | leaf =>
      intro k v hv
      have := low none .leaf .leaf h k v hv
      cases k with
      | zero => exact this
      | succ k => rw [Trie.get_succ] at this; simp [Trie.get_leaf] at this
    | node o l r => exact low o l r h
theorem ARel.le {m : Mp} {e e2 : Env} {a : Act} {nt : Nat} (h : leT e e2 = true) (hr : ARel m e.at a nt) : ARel m e2.at a nt :=
  ⟨fun t => by
    have := hr.tm t
    rw [Env.at_eq] at this ⊢
    cases hv : e2.get t with
    | none => exact .top _
    | some v =>
      rw [leT_get e2 e h t v hv] at this
      exact this, hr.size, hr.def_⟩
end Go.AM
