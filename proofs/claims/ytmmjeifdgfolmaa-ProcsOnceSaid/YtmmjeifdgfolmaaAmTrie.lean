/- Tries, rows of cells: what is read behind what was written. -/
import Derived.Test.YtmmjeifdgfolmaaAmDef
namespace Go.AM
namespace Trie
variable {α : Type}
theorem get_leaf (k : Nat) : (Trie.leaf : Trie α).get k = none := rfl
theorem get_zero (o : Option α) (l r : Trie α) : (Trie.node o l r).get 0 = o := rfl
theorem get_succ (o : Option α) (l r : Trie α) (k : Nat) : (Trie.node o l r).get (k + 1) = if k % 2 = 0 then l.get (k / 2) else r.get (k / 2) := by
  show Bool.rec (motive := fun _ => Option α) (r.get (Nat.div k 2)) (l.get (Nat.div k 2)) (Nat.beq (Nat.mod k 2) 0) = _
  by_cases h : k % 2 = 0
  · have : Nat.beq (Nat.mod k 2) 0 = true := (Nat.beq_eq ▸ h : Nat.beq (k % 2) 0 = true)
    rw [this, if_pos h]; rfl
  · have : Nat.beq (Nat.mod k 2) 0 = false := by
      cases hb : Nat.beq (Nat.mod k 2) 0 with
      | false => rfl
      | true => exact absurd (Nat.eq_of_beq_eq_true hb) h
    rw [this, if_neg h]; rfl
theorem setF_leaf_zero (v : α) (f : Nat) : setF v (f + 1) .leaf 0 = .node (some v) .leaf .leaf := rfl
theorem setF_node_zero (v : α) (f : Nat) (o : Option α) (l r : Trie α) : setF v (f + 1) (.node o l r) 0 = .node (some v) l r := rfl
theorem setF_leaf_succ (v : α) (f k : Nat) : setF v (f + 1) .leaf (k + 1) =
    if k % 2 = 0 then .node none (setF v f .leaf (k / 2)) .leaf else .node none .leaf (setF v f .leaf (k / 2)) := by
  show Bool.rec (motive := fun _ => Trie α) (Trie.node none .leaf (setF v f .leaf (Nat.div k 2))) (.node none (setF v f .leaf (Nat.div k 2)) .leaf) (Nat.beq (Nat.mod k 2) 0) = _
  by_cases h : k % 2 = 0
  · have : Nat.beq (Nat.mod k 2) 0 = true := (Nat.beq_eq ▸ h : Nat.beq (k % 2) 0 = true)
    rw [this, if_pos h]; rfl
  · have : Nat.beq (Nat.mod k 2) 0 = false := by
      cases hb : Nat.beq (Nat.mod k 2) 0 with
      | false => rfl
      | true => exact absurd (Nat.eq_of_beq_eq_true hb) h
    rw [this, if_neg h]; rfl
theorem setF_node_succ (v : α) (f k : Nat) (o : Option α) (l r : Trie α) : setF v (f + 1) (.node o l r) (k + 1) =
    if k % 2 = 0 then .node o (setF v f l (k / 2)) r else .node o l (setF v f r (k / 2)) := by
  show Bool.rec (motive := fun _ => Trie α) (Trie.node o l (setF v f r (Nat.div k 2))) (.node o (setF v f l (Nat.div k 2)) r) (Nat.beq (Nat.mod k 2) 0) = _
  by_cases h : k % 2 = 0
  · have : Nat.beq (Nat.mod k 2) 0 = true := (Nat.beq_eq ▸ h : Nat.beq (k % 2) 0 = true)
    rw [this, if_pos h]; rfl
  · have : Nat.beq (Nat.mod k 2) 0 = false := by
      cases hb : Nat.beq (Nat.mod k 2) 0 with
      | false => rfl
      | true => exact absurd (Nat.eq_of_beq_eq_true hb) h
    rw [this, if_neg h]; rfl

theorem get_setF (v : α) : ∀ (f : Nat) (t : Trie α) (k k' : Nat), k < f → (setF v f t k).get k' = if k' = k then some v else t.get k' := by
  intro f
  induction f with
  | zero => intro t k k' h; exact absurd h (Nat.not_lt_zero _)
  | succ f ih =>
    intro t k k' h
    cases k with
    | zero =>
      cases t <;> cases k' with
      | zero => simp [setF_leaf_zero, setF_node_zero, get_zero]
      | succ k' => simp [setF_leaf_zero, setF_node_zero, get_succ, get_leaf]
    | succ k =>
      have hk : k / 2 < f := by omega
      have key : ∀ k', k' / 2 = k / 2 → k' % 2 = k % 2 → k' = k := by intro k' h1 h2; omega
      cases t with
      | leaf =>
        rw [setF_leaf_succ]
        by_cases hp : k % 2 = 0
        · rw [if_pos hp]
          cases k' with
          | zero => simp [get_zero, get_leaf]
          | succ k' =>
            rw [get_succ]
            by_cases hq : k' % 2 = 0
            · rw [if_pos hq, ih _ _ _ hk, get_leaf, get_leaf]
              by_cases e : k' / 2 = k / 2
              · rw [if_pos e, if_pos (by have := key k' e (by omega); omega)]
              · rw [if_neg e, if_neg (by intro x; apply e; omega)]
            · rw [if_neg hq, get_leaf, get_leaf, if_neg (by intro x; apply hq; omega)]
        · rw [if_neg hp]
          cases k' with
          | zero => simp [get_zero, get_leaf]
          | succ k' =>
            rw [get_succ]
            by_cases hq : k' % 2 = 0
            · rw [if_pos hq, get_leaf, get_leaf, if_neg (by intro x; apply hp; omega)]
            · rw [if_neg hq, ih _ _ _ hk, get_leaf, get_leaf]
              by_cases e : k' / 2 = k / 2
              · rw [if_pos e, if_pos (by have := key k' e (by omega); omega)]
              · rw [if_neg e, if_neg (by intro x; apply e; omega)]
      | node o l r =>
        rw [setF_node_succ]
        by_cases hp : k % 2 = 0
        · rw [if_pos hp]
          cases k' with
          | zero => simp [get_zero]
          | succ k' =>
            rw [get_succ, get_succ]
            by_cases hq : k' % 2 = 0
            · rw [if_pos hq, if_pos hq, ih _ _ _ hk]
              by_cases e : k' / 2 = k / 2
              · rw [if_pos e, if_pos (by have := key k' e (by omega); omega)]
              · rw [if_neg e, if_neg (by intro x; apply e; omega)]
            · rw [if_neg hq, if_neg hq, if_neg (by intro x; apply hq; omega)]
        · rw [if_neg hp]
          cases k' with
          | zero => simp [get_zero]
          | succ k' =>
            rw [get_succ, get_succ]
            by_cases hq : k' % 2 = 0
            · rw [if_pos hq, if_pos hq, if_neg (by intro x; apply hp; omega)]
            · rw [if_neg hq, if_neg hq, ih _ _ _ hk]
              by_cases e : k' / 2 = k / 2
              · rw [if_pos e, if_pos (by have := key k' e (by omega); omega)]
              · rw [if_neg e, if_neg (by intro x; apply e; omega)]

theorem get_set (t : Trie α) (k k' : Nat) (v : α) : (t.set k v).get k' = if k' = k then some v else t.get k' :=
  get_setF v (k + 1) t k k' (Nat.lt_succ_self k)
theorem get_set_same (t : Trie α) (k : Nat) (v : α) : (t.set k v).get k = some v := by rw [get_set, if_pos rfl]
theorem get_set_ne (t : Trie α) {k k' : Nat} (v : α) (h : k' ≠ k) : (t.set k v).get k' = t.get k' := by rw [get_set, if_neg h]
end Trie

theorem loadL_zero (xs : Trie Value) (off : Nat) : loadL xs off 0 = [] := rfl
theorem loadL_succ (xs : Trie Value) (off n : Nat) : loadL xs off (n + 1) = (xs.get off).getD undef :: loadL xs (off + 1) n := by
  show Option.rec (motive := fun _ => Value) undef (fun v => v) (xs.get off) :: loadL xs (off + 1) n = _
  cases xs.get off <;> rfl
theorem storeL_nil (xs : Trie Value) (off : Nat) : storeL xs off [] = xs := rfl
theorem storeL_cons (xs : Trie Value) (off : Nat) (v : Value) (r : List Value) : storeL xs off (v :: r) = storeL (xs.set off v) (off + 1) r := rfl

theorem get_storeL (l : List Value) : ∀ (xs : Trie Value) (off k : Nat), (storeL xs off l).get k = if off ≤ k ∧ k < off + l.length then l[k - off]? else xs.get k := by
  induction l with
  | nil => intro xs off k; rw [storeL_nil, if_neg (by simp)]
  | cons v r ih =>
    intro xs off k
    rw [storeL_cons, ih, Trie.get_set]
    simp only [List.length_cons]
    by_cases h : off ≤ k ∧ k < off + (r.length + 1)
    · rw [if_pos h]
      by_cases e : k = off
      · subst e; rw [if_neg (by omega), if_pos rfl]; simp
      · rw [if_pos (by omega)]
        rw [show k - off = (k - (off + 1)) + 1 by omega, List.getElem?_cons_succ]
    · rw [if_neg h, if_neg (by omega), if_neg (by omega)]
theorem get_ofList (l : List Value) (k : Nat) : (ofList l).get k = l[k]? := by
  unfold ofList
  rw [get_storeL]
  by_cases h : k < l.length
  · rw [if_pos (by omega)]; simp
  · rw [if_neg (by omega), Trie.get_leaf, List.getElem?_eq_none (by omega)]
theorem length_loadL (xs : Trie Value) : ∀ (n off : Nat), (loadL xs off n).length = n := by
  intro n
  induction n with
  | zero => intro off; rfl
  | succ n ih => intro off; rw [loadL_succ, List.length_cons, ih]
theorem getElem_loadL (xs : Trie Value) : ∀ (n off i : Nat), i < n → (loadL xs off n)[i]? = some ((xs.get (off + i)).getD undef) := by
  intro n
  induction n with
  | zero => intro off i h; exact absurd h (Nat.not_lt_zero _)
  | succ n ih =>
    intro off i h
    rw [loadL_succ]
    cases i with
    | zero => simp
    | succ i => rw [List.getElem?_cons_succ, ih (off + 1) i (by omega), show off + 1 + i = off + (i + 1) by omega]
theorem repeatL_zero (z : List Value) : repeatL z 0 = [] := rfl
theorem repeatL_succ (z : List Value) (n : Nat) : repeatL z (n + 1) = z ++ repeatL z n := rfl
theorem length_repeatL (z : List Value) (n : Nat) : (repeatL z n).length = n * z.length := by
  induction n with
  | zero => simp [repeatL_zero]
  | succ n ih => rw [repeatL_succ, List.length_append, ih, Nat.succ_mul, Nat.add_comm]
theorem getElem_repeatL (z : List Value) : ∀ (n i : Nat), i < n * z.length → (repeatL z n)[i]? = z[i % z.length]? := by
  intro n
  induction n with
  | zero => intro i h; simp at h
  | succ n ih =>
    intro i h
    rw [repeatL_succ]
    by_cases hi : i < z.length
    · rw [List.getElem?_append_left hi, Nat.mod_eq_of_lt hi]
    · rw [List.getElem?_append_right (by omega), ih _ (by rw [Nat.succ_mul] at h; omega)]
      congr 1
      have hz : z.length ≤ i := by omega
      exact (Nat.mod_eq_sub_mod hz).symm
end Go.AM
