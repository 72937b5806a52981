/- Rows of cells are one trie each, however they came about: what a store leaves is the row laid anew. No condition. -/
import Derived.Test.YtmmjeifdgfolmaaAmTrie
namespace Go.AM
namespace Trie
variable {α : Type}
theorem setP_setP (v w : α) : ∀ (p : Path) (t : Trie α), setP v p (setP w p t) = setP v p t := by
  intro p
  induction p with
  | e => intro t; cases t <;> rfl
  | l p ih =>
    intro t
    cases t with
    | leaf => show Trie.node none (setP v p (setP w p .leaf)) .leaf = Trie.node none (setP v p .leaf) .leaf; rw [ih]
    | node o l r => show Trie.node o (setP v p (setP w p l)) r = Trie.node o (setP v p l) r; rw [ih]
  | r p ih =>
    intro t
    cases t with
    | leaf => show Trie.node none .leaf (setP v p (setP w p .leaf)) = Trie.node none .leaf (setP v p .leaf); rw [ih]
    | node o l r => show Trie.node o l (setP v p (setP w p r)) = Trie.node o l (setP v p r); rw [ih]
theorem setP_comm (v w : α) : ∀ (p q : Path) (t : Trie α), p ≠ q → setP v p (setP w q t) = setP w q (setP v p t) := by
  intro p
  induction p with
  | e =>
    intro q t h
    cases q with
    | e => exact absurd rfl h
    | l q => cases t <;> rfl
    | r q => cases t <;> rfl
  | l p ih =>
    intro q t h
    cases q with
    | e => cases t <;> rfl
    | l q =>
      have h' : p ≠ q := fun e => h (by rw [e])
      cases t with
      | leaf => show Trie.node none (setP v p (setP w q .leaf)) .leaf = Trie.node none (setP w q (setP v p .leaf)) .leaf; rw [ih _ _ h']
      | node o l r => show Trie.node o (setP v p (setP w q l)) r = Trie.node o (setP w q (setP v p l)) r; rw [ih _ _ h']
    | r q => cases t <;> rfl
  | r p ih =>
    intro q t h
    cases q with
    | e => cases t <;> rfl
    | r q =>
      have h' : p ≠ q := fun e => h (by rw [e])
      cases t with
      | leaf => show Trie.node none .leaf (setP v p (setP w q .leaf)) = Trie.node none .leaf (setP w q (setP v p .leaf)); rw [ih _ _ h']
      | node o l r => show Trie.node o l (setP v p (setP w q r)) = Trie.node o l (setP w q (setP v p r)); rw [ih _ _ h']
    | l q => cases t <;> rfl
theorem set_set (t : Trie α) (k : Nat) (v w : α) : (t.set k w).set k v = t.set k v := setP_setP v w (path k) t
theorem set_comm (t : Trie α) {k k' : Nat} (v w : α) (h : k ≠ k') : (t.set k' w).set k v = (t.set k v).set k' w :=
  setP_comm v w (path k) (path k') t fun e => h (path_inj _ _ _ (Nat.lt_succ_self _) e)
end Trie

theorem storeL_append (a : List Value) : ∀ (t : Trie Value) (o : Nat) (b : List Value), storeL t o (a ++ b) = storeL (storeL t o a) (o + a.length) b := by
  induction a with
  | nil => intro t o b; rfl
  | cons v r ih =>
    intro t o b
    rw [List.cons_append, storeL_cons, storeL_cons, ih, List.length_cons, show o + 1 + r.length = o + (r.length + 1) by omega]
theorem ofList_snoc (l : List Value) (x : Value) : ofList (l ++ [x]) = (ofList l).set l.length x := by
  unfold ofList
  rw [storeL_append, storeL_cons, storeL_nil, Nat.zero_add]
theorem set_ofList (v : Value) : ∀ (n : Nat) (l : List Value) (k : Nat), l.length = n → k < n → (ofList l).set k v = ofList (l.set k v) := by
  intro n
  induction n with
  | zero => intro l k _ h; omega
  | succ n ih =>
    intro l k hl hk
    have hne : l ≠ [] := by intro e; rw [e] at hl; simp at hl
    obtain ⟨i, x, rfl⟩ : ∃ i x, l = i ++ [x] := ⟨_, _, (List.dropLast_concat_getLast hne).symm⟩
    have hi : i.length = n := by simpa using hl
    rw [ofList_snoc]
    by_cases e : k = i.length
    · subst e
      rw [Trie.set_set, List.set_append_right _ _ (Nat.le_refl _), Nat.sub_self, List.set_cons_zero, ofList_snoc]
    · rw [Trie.set_comm _ _ _ e, ih i k hi (by omega), List.set_append_left _ _ (by omega), ofList_snoc, List.length_set]
theorem length_overC {cs vs : List Value} {off : Nat} (h : off + vs.length ≤ cs.length) : (overL cs off vs).length = cs.length := by
  unfold overL
  simp only [List.length_append, List.length_take, List.length_drop]
  omega
theorem overC_get {cs vs : List Value} {off i : Nat} (h : off + vs.length ≤ cs.length) : (overL cs off vs)[i]? = if off ≤ i ∧ i < off + vs.length then vs[i - off]? else cs[i]? := by
  unfold overL
  have ht : (cs.take off).length = off := by rw [List.length_take]; omega
  by_cases h1 : i < off
  · rw [if_neg (by omega), List.append_assoc, List.getElem?_append_left (by omega), List.getElem?_take, if_pos h1]
  · by_cases h2 : i < off + vs.length
    · rw [if_pos (by omega), List.append_assoc, List.getElem?_append_right (by omega), ht, List.getElem?_append_left (by omega)]
    · rw [if_neg (by omega), List.getElem?_append_right (by simp only [List.length_append]; omega), List.getElem?_drop]
      simp only [List.length_append, ht]
      congr 1
      omega
theorem overL_nil (cs : List Value) (off : Nat) : overL cs off [] = cs := by
  unfold overL
  simp
theorem overL_one {cs : List Value} {off : Nat} (v : Value) (h : off < cs.length) : overL cs off [v] = cs.set off v := by
  apply List.ext_getElem?
  intro i
  rw [overC_get (by simp; omega), List.getElem?_set]
  simp only [List.length_cons, List.length_nil, Nat.zero_add]
  by_cases e : off = i
  · subst e; rw [if_pos (by omega), if_pos rfl, if_pos h]; simp
  · rw [if_neg (by omega), if_neg e]
theorem overL_cons {cs : List Value} {off : Nat} (v : Value) (r : List Value) (h : off + (r.length + 1) ≤ cs.length) : overL (cs.set off v) (off + 1) r = overL cs off (v :: r) := by
  apply List.ext_getElem?
  intro i
  rw [overC_get (by rw [List.length_set]; omega), overC_get (by rw [List.length_cons]; omega), List.getElem?_set, List.length_cons]
  by_cases e : i = off
  · subst e; rw [if_neg (by omega), if_pos rfl, if_pos (by omega), if_pos (by omega)]; simp
  · by_cases h1 : off ≤ i ∧ i < off + (r.length + 1)
    · rw [if_pos (by omega), if_pos h1, show i - off = (i - (off + 1)) + 1 by omega, List.getElem?_cons_succ]
    · rw [if_neg (by omega), if_neg h1, if_neg (by omega)]
theorem storeL_ofList (vs : List Value) : ∀ (l : List Value) (off : Nat), off + vs.length ≤ l.length → storeL (ofList l) off vs = ofList (overL l off vs) := by
  induction vs with
  | nil => intro l off _; rw [storeL_nil, overL_nil]
  | cons v r ih =>
    intro l off h
    rw [List.length_cons] at h
    rw [storeL_cons, set_ofList v l.length l off rfl (by omega), ih _ _ (by rw [List.length_set]; omega), overL_cons v r h]
theorem loadL_ofList (l : List Value) (off n : Nat) (h : off + n ≤ l.length) : loadL (ofList l) off n = (l.drop off).take n := by
  apply List.ext_getElem?
  intro i
  by_cases hi : i < n
  · rw [getElem_loadL _ _ _ _ hi, get_ofList, List.getElem?_take, if_pos hi, List.getElem?_drop, List.getElem?_eq_getElem (by omega)]
    rfl
  · rw [List.getElem?_eq_none (by rw [length_loadL]; omega), List.getElem?_eq_none (by rw [List.length_take]; omega)]

/-- a row of cells. -/
noncomputable def cellsB (l : List Value) (k : Kind) : Blk := .cells (ofList l) l.length k
noncomputable def Heap.upd (h : Heap) (b : Nat) (x : Blk) : Heap := ⟨h.t.set b x, h.nx⟩
noncomputable def Heap.new (h : Heap) (x : Blk) : Heap := ⟨h.t.set h.nx x, h.nx + 1⟩
theorem Heap.get_upd (h : Heap) (b : Nat) (x : Blk) (b' : Nat) : (h.upd b x).get b' = if b' = b then some x else h.get b' := Trie.get_set _ _ _ _
theorem Heap.get_upd_same (h : Heap) (b : Nat) (x : Blk) : (h.upd b x).get b = some x := Trie.get_set_same _ _ _
theorem Heap.get_upd_ne (h : Heap) {b : Nat} (x : Blk) {b' : Nat} (hne : b' ≠ b) : (h.upd b x).get b' = h.get b' := Trie.get_set_ne _ _ hne
theorem Heap.nx_upd (h : Heap) (b : Nat) (x : Blk) : (h.upd b x).nx = h.nx := rfl
theorem Heap.get_new (h : Heap) (x : Blk) (b' : Nat) : (h.new x).get b' = if b' = h.nx then some x else h.get b' := Trie.get_set _ _ _ _
theorem Heap.get_new_same (h : Heap) (x : Blk) : (h.new x).get h.nx = some x := Trie.get_set_same _ _ _
theorem Heap.get_new_ne (h : Heap) (x : Blk) {b' : Nat} (hne : b' ≠ h.nx) : (h.new x).get b' = h.get b' := Trie.get_set_ne _ _ hne
theorem Heap.nx_new (h : Heap) (x : Blk) : (h.new x).nx = h.nx + 1 := rfl
theorem Heap.upd_upd (h : Heap) (b : Nat) (x y : Blk) : (h.upd b x).upd b y = h.upd b y := by
  unfold Heap.upd
  rw [Trie.set_set]
theorem Trie.setP_same {α : Type} {v : α} : ∀ (p : Path) (t : Trie α), Trie.getP p t = some v → Trie.setP v p t = t := by
  intro p
  induction p with
  | e =>
    intro t h
    cases t with
    | leaf => cases h
    | node o l r => have h : o = some v := h; subst h; rfl
  | l p ih =>
    intro t h
    cases t with
    | leaf => cases h
    | node o l r => show Trie.node o (Trie.setP v p l) r = _; rw [ih l h]
  | r p ih =>
    intro t h
    cases t with
    | leaf => cases h
    | node o l r => show Trie.node o l (Trie.setP v p r) = _; rw [ih r h]
theorem upd_same {h : Heap} {b : Nat} {x : Blk} (hb : h.get b = some x) : h.upd b x = h := by
  unfold Heap.upd
  rw [show h.t.set b x = h.t from Trie.setP_same (path b) h.t hb]
theorem Heap.upd_new (h : Heap) (x y : Blk) : (h.new x).upd h.nx y = h.new y := by
  unfold Heap.upd Heap.new
  rw [Trie.set_set]
theorem Heap.apply_none (h : Heap) (v : Value) : h.apply ⟨v, [], []⟩ = h := rfl
theorem Heap.apply_wr (h : Heap) (v : Value) (b : Nat) (x : Blk) : h.apply ⟨v, [(b, x)], []⟩ = h.upd b x := rfl
theorem Heap.apply_nw (h : Heap) (v : Value) (x : Blk) : h.apply ⟨v, [], [x]⟩ = h.new x := rfl
theorem Heap.apply_wr_nw (h : Heap) (v : Value) (b : Nat) (x y : Blk) : h.apply ⟨v, [(b, x)], [y]⟩ = (h.upd b x).new y := rfl
end Go.AM
