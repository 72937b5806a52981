/- Tries, rows of cells: what is read behind what was written. -/
import Derived.Test.YtkkdpbicppdglaaGreatDoorAmDef
namespace Go.AM
namespace Trie
variable {α : Type}
theorem pathF_succ (f k : Nat) : pathF (f + 1) (k + 1) = if k % 2 = 0 then .l (pathF f (k / 2)) else .r (pathF f (k / 2)) := by
  show (Bool.rec (.r (pathF f (k / 2))) (.l (pathF f (k / 2))) (Nat.beq (k % 2) 0) : Path) = _
  by_cases h : k % 2 = 0
  · rw [if_pos h, h]; rfl
  · rw [if_neg h]
    have : Nat.beq (k % 2) 0 = false := by rw [← Bool.not_eq_true, Nat.beq_eq]; exact h
    rw [this]
theorem pathF_eq : ∀ (f g k : Nat), k < f → k < g → pathF f k = pathF g k := by
  intro f
  induction f with
  | zero => intro g k h; omega
  | succ f ih =>
    intro g k h1 h2
    cases g with
    | zero => omega
    | succ g =>
      cases k with
      | zero => rfl
      | succ k =>
        rw [pathF_succ, pathF_succ, ih g (k / 2) (by omega) (by omega)]
theorem path_eq (k : Nat) : path k = pathF (k + 1) k := by
  cases k with
  | zero => rfl
  | succ k =>
    rw [pathF_succ]
    show (Bool.rec (.r (pathF k (k / 2))) (.l (pathF k (k / 2))) (Nat.beq (k % 2) 0) : Path) = _
    have e : pathF k (k / 2) = pathF (k + 1) (k / 2) := by
      cases k with
      | zero => rfl
      | succ k => exact pathF_eq _ _ _ (by omega) (by omega)
    rw [e]
    by_cases h : k % 2 = 0
    · rw [if_pos h, h]; rfl
    · rw [if_neg h]
      have : Nat.beq (k % 2) 0 = false := by rw [← Bool.not_eq_true, Nat.beq_eq]; exact h
      rw [this]
theorem path_succ (k : Nat) : path (k + 1) = if k % 2 = 0 then .l (path (k / 2)) else .r (path (k / 2)) := by
  rw [path_eq, path_eq, pathF_succ, pathF_eq (k + 1) (k / 2 + 1) (k / 2) (by omega) (by omega)]
theorem path_inj : ∀ (n k k' : Nat), k < n → path k = path k' → k = k' := by
  intro n
  induction n with
  | zero => intro k k' h; omega
  | succ n ih =>
    intro k k' h he
    cases k with
    | zero =>
      cases k' with
      | zero => rfl
      | succ k' => rw [path_succ] at he; split at he <;> cases he
    | succ k =>
      cases k' with
      | zero => rw [path_succ] at he; split at he <;> cases he
      | succ k' =>
        rw [path_succ, path_succ] at he
        split at he <;> split at he <;> first | (simp only [Path.l.injEq, Path.r.injEq] at he; have := ih _ _ (by omega) he; omega) | cases he
theorem getP_leaf (p : Path) : (getP p (.leaf : Trie α)) = none := by cases p <;> rfl
theorem get_leaf (k : Nat) : (Trie.leaf : Trie α).get k = none := getP_leaf _
theorem get_zero (o : Option α) (l r : Trie α) : (Trie.node o l r).get 0 = o := rfl
theorem get_succ (o : Option α) (l r : Trie α) (k : Nat) : (Trie.node o l r).get (k + 1) = if k % 2 = 0 then l.get (k / 2) else r.get (k / 2) := by
  show getP (path (k + 1)) _ = _
  rw [path_succ]
  by_cases h : k % 2 = 0
  · rw [if_pos h, if_pos h]; rfl
  · rw [if_neg h, if_neg h]; rfl
open Classical in
theorem get_setP (v : α) : ∀ (p q : Path) (t : Trie α), getP q (setP v p t) = if q = p then some v else getP q t := by
  intro p
  induction p with
  | e =>
    intro q t
    cases t <;> cases q <;> first | rfl | (simp; first | rfl | exact getP_leaf _)
  | l p ih =>
    intro q t
    cases t with
    | leaf =>
      cases q with
      | e => rw [if_neg (by simp)]; rfl
      | l q =>
        show getP q (setP v p .leaf) = _
        rw [ih]
        by_cases h : q = p
        · rw [if_pos h, if_pos (by rw [h])]
        · rw [if_neg h, if_neg (by simpa using h), getP_leaf, getP_leaf]
      | r q => simp [show getP (.r q) (setP v (.l p) .leaf) = getP q (.leaf : Trie α) from rfl, getP_leaf]
    | node o l r =>
      cases q with
      | e => rw [if_neg (by simp)]; rfl
      | l q =>
        show getP q (setP v p l) = _
        rw [ih]
        by_cases h : q = p
        · rw [if_pos h, if_pos (by rw [h])]
        · rw [if_neg h, if_neg (by simpa using h)]; rfl
      | r q => simp; rfl
  | r p ih =>
    intro q t
    cases t with
    | leaf =>
      cases q with
      | e => rw [if_neg (by simp)]; rfl
      | r q =>
        show getP q (setP v p .leaf) = _
        rw [ih]
        by_cases h : q = p
        · rw [if_pos h, if_pos (by rw [h])]
        · rw [if_neg h, if_neg (by simpa using h), getP_leaf, getP_leaf]
      | l q => simp [show getP (.l q) (setP v (.r p) .leaf) = getP q (.leaf : Trie α) from rfl, getP_leaf]
    | node o l r =>
      cases q with
      | e => rw [if_neg (by simp)]; rfl
      | r q =>
        show getP q (setP v p r) = _
        rw [ih]
        by_cases h : q = p
        · rw [if_pos h, if_pos (by rw [h])]
        · rw [if_neg h, if_neg (by simpa using h)]; rfl
      | l q => simp; rfl
theorem get_set (t : Trie α) (k k' : Nat) (v : α) : (t.set k v).get k' = if k' = k then some v else t.get k' := by
  show getP (path k') (setP v (path k) t) = _
  rw [get_setP]
  by_cases h : k' = k
  · rw [if_pos h, if_pos (by rw [h])]
  · rw [if_neg h, if_neg (fun e => h (path_inj _ _ _ (Nat.lt_succ_self _) e))]; rfl
theorem get_set_same (t : Trie α) (k : Nat) (v : α) : (t.set k v).get k = some v := by rw [get_set, if_pos rfl]
theorem get_set_ne (t : Trie α) {k k' : Nat} (v : α) (h : k' ≠ k) : (t.set k v).get k' = t.get k' := by rw [get_set, if_neg h]
end Trie

theorem loadL_zero (xs : Trie Value) (off : Nat) : loadL xs off 0 = [] := rfl
theorem loadL_succ (xs : Trie Value) (off n : Nat) : loadL xs off (n + 1) = (xs.get off).getD undef :: loadL xs (off + 1) n := by
  show Option.rec (motive := fun _ => Value) undef (fun v => v) (xs.get off) :: loadL xs (off + 1) n = _
  cases xs.get off <;> rfl
theorem storeL_nil (xs : Trie Value) (off : Nat) : storeL xs off [] = xs := rfl
theorem storeL_cons (xs : Trie Value) (off : Nat) (v : Value) (r : List Value) : storeL xs off (v :: r) = storeL (xs.set off v) (off + 1) r := rfl

theorem get_storeL (l : List Value) : ∀ (xs : Trie Value) (off k : Nat), (storeL xs off l).get k = if off ≤ k ∧ k < off + l.length then l[k - off]? else xs.get k := by
  induction l with
  | nil => intro xs off k; rw [storeL_nil, if_neg (by simp)]
  | cons v r ih =>
    intro xs off k
    rw [storeL_cons, ih, Trie.get_set]
    simp only [List.length_cons]
    by_cases h : off ≤ k ∧ k < off + (r.length + 1)
    · rw [if_pos h]
      by_cases e : k = off
      · subst e; rw [if_neg (by omega), if_pos rfl]; simp
      · rw [if_pos (by omega)]
        rw [show k - off = (k - (off + 1)) + 1 by omega, List.getElem?_cons_succ]
    · rw [if_neg h, if_neg (by omega), if_neg (by omega)]
theorem get_ofList (l : List Value) (k : Nat) : (ofList l).get k = l[k]? := by
  unfold ofList
  rw [get_storeL]
  by_cases h : k < l.length
  · rw [if_pos (by omega)]; simp
  · rw [if_neg (by omega), Trie.get_leaf, List.getElem?_eq_none (by omega)]
theorem length_loadL (xs : Trie Value) : ∀ (n off : Nat), (loadL xs off n).length = n := by
  intro n
  induction n with
  | zero => intro off; rfl
  | succ n ih => intro off; rw [loadL_succ, List.length_cons, ih]
theorem getElem_loadL (xs : Trie Value) : ∀ (n off i : Nat), i < n → (loadL xs off n)[i]? = some ((xs.get (off + i)).getD undef) := by
  intro n
  induction n with
  | zero => intro off i h; exact absurd h (Nat.not_lt_zero _)
  | succ n ih =>
    intro off i h
    rw [loadL_succ]
    cases i with
    | zero => simp
    | succ i => rw [List.getElem?_cons_succ, ih (off + 1) i (by omega), show off + 1 + i = off + (i + 1) by omega]
theorem repeatL_zero (z : List Value) : repeatL z 0 = [] := rfl
theorem repeatL_succ (z : List Value) (n : Nat) : repeatL z (n + 1) = z ++ repeatL z n := rfl
theorem length_repeatL (z : List Value) (n : Nat) : (repeatL z n).length = n * z.length := by
  induction n with
  | zero => simp [repeatL_zero]
  | succ n ih => rw [repeatL_succ, List.length_append, ih, Nat.succ_mul, Nat.add_comm]
theorem getElem_repeatL (z : List Value) : ∀ (n i : Nat), i < n * z.length → (repeatL z n)[i]? = z[i % z.length]? := by
  intro n
  induction n with
  | zero => intro i h; simp at h
  | succ n ih =>
    intro i h
    rw [repeatL_succ]
    by_cases hi : i < z.length
    · rw [List.getElem?_append_left hi, Nat.mod_eq_of_lt hi]
    · rw [List.getElem?_append_right (by omega), ih _ (by rw [Nat.succ_mul] at h; omega)]
      congr 1
      have hz : z.length ≤ i := by omega
      exact (Nat.mod_eq_sub_mod hz).symm
theorem get_fullT (v : Value) : ∀ (d k : Nat), k + 1 < 2 ^ d → (fullT v d).get k = some v := by
  intro d
  induction d with
  | zero => intro k h; simp at h
  | succ d ih =>
    intro k h
    have e : fullT v (d + 1) = .node (some v) (fullT v d) (fullT v d) := rfl
    rw [e]
    cases k with
    | zero => rfl
    | succ k =>
      rw [Trie.get_succ, ih (k / 2) (by rw [Nat.pow_succ] at h; omega)]
      simp
theorem mkRow_get (z : List Value) (c : Nat) (hc : c ≤ 2 ^ 40) : ∃ xs, mkRow z c = .cells xs (repeatL z c).length .exact ∧ ∀ i, i < (repeatL z c).length → xs.get i = (repeatL z c)[i]? := by
  unfold mkRow
  cases hb : Nat.ble c 256 with
  | true => exact ⟨_, rfl, fun i _ => get_ofList _ _⟩
  | false =>
    simp only [cond_false]
    split
    · rename_i v
      have hl : (repeatL [v] c).length = c := by rw [length_repeatL]; simp
      refine ⟨fullT v 48, by rw [hl], fun i hi => ?_⟩
      rw [hl] at hi
      have h48 : (2 : Nat) ^ 40 + 1 < 2 ^ 48 := by decide
      rw [get_fullT v 48 i (by omega), getElem_repeatL _ _ _ (by rw [List.length_singleton]; omega)]
      simp [Nat.mod_one]
    · exact ⟨_, rfl, fun i _ => get_ofList _ _⟩
end Go.AM
