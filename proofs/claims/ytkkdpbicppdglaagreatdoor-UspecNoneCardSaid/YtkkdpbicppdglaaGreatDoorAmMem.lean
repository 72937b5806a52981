/- Reading and writing rows of cells. -/
import Derived.Test.YtkkdpbicppdglaaGreatDoorAmRel
import Derived.Laws.Cells
namespace Go.AM

theorem cell_at {w : World} {cb o : Nat} {c : Array Value} {el : TypeId} {fr : Nat × Nat} (h : w.heap[cb]? = some (.cells c el fr)) : w.cell? ⟨cb, o, none⟩ = c[o]? := by
  simp [World.cell?, h]
theorem frozen_at {w : World} {cb o : Nat} {c : Array Value} {el : TypeId} {fr : Nat × Nat} (h : w.heap[cb]? = some (.cells c el fr)) : w.frozen? ⟨cb, o, none⟩ = (decide (fr.1 ≤ o) && decide (o < fr.2)) := by
  simp [World.frozen?, h]
theorem add_at (cb o n : Nat) : (⟨cb, o, none⟩ : Addr).add n = ⟨cb, o + n, none⟩ := by
  unfold Addr.add; split <;> simp_all

theorem run_cells {P : Program} {w : World} {cb o n : Nat} {c : Array Value} {el : TypeId} {fr : Nat × Nat} (h : w.heap[cb]? = some (.cells c el fr)) (hn : o + n ≤ c.size) :
    (loadCells ⟨cb, o, none⟩ n).run P w = .ok ((c.toList.drop o).take n).toArray w := by
  have hl : ((c.toList.drop o).take n).length = n := by simp; omega
  have := run_loadCells_list (P := P) w ⟨cb, o, none⟩ ((c.toList.drop o).take n) (fun j v hv => by
    rw [add_at, cell_at h]
    have hj : j < n := by
      rcases Nat.lt_or_ge j n with h' | h'
      · exact h'
      · rw [List.getElem?_eq_none (by rw [hl]; exact h')] at hv; cases hv
    rw [List.getElem?_take, if_pos hj, List.getElem?_drop] at hv
    simpa using hv)
  rw [hl] at this
  exact this

theorem cells_rel {m : Mp} {xs : Trie Value} {c : Array Value} {sh n off k : Nat} (h : ∀ i, i < n → CellAt m xs c sh i) (hk : off + k ≤ n) (hc : sh + n ≤ c.size) :
    VRels m (loadL xs off k) ((c.toList.drop (sh + off)).take k) ∧ (loadL xs off k).all Value.oneCell' = true := by
  constructor
  · refine VRels.of_get ?_ ?_
    · rw [length_loadL, List.length_take, List.length_drop, Array.length_toList]; omega
    · intro i v v' h1 h2
      have hi : i < k := by
        rcases Nat.lt_or_ge i k with h' | h'
        · exact h'
        · rw [List.getElem?_eq_none (by rw [length_loadL]; exact h')] at h1; cases h1
      rw [getElem_loadL xs k off i hi] at h1
      rw [List.getElem?_take, if_pos hi, List.getElem?_drop, Array.getElem?_toList] at h2
      obtain ⟨u, u', g1, g2, _, g4⟩ := h (off + i) (by omega)
      rw [g1] at h1
      rw [show sh + off + i = sh + (off + i) by omega, g2] at h2
      cases h1; cases h2; exact g4
  · rw [List.all_eq_true]
    intro v hv
    obtain ⟨i, hi⟩ := List.mem_iff_getElem?.1 hv
    have hik : i < k := by
      rcases Nat.lt_or_ge i k with h' | h'
      · exact h'
      · rw [List.getElem?_eq_none (by rw [length_loadL]; exact h')] at hi; cases hi
    rw [getElem_loadL xs k off i hik] at hi
    obtain ⟨u, u', g1, _, g3, _⟩ := h (off + i) (by omega)
    rw [g1] at hi
    cases hi; exact g3

/-- cells written over a row. -/
def overA (c : Array Value) (o : Nat) : List Value → Array Value
  | [] => c
  | v :: r => overA (c.setIfInBounds o v) (o + 1) r
theorem size_overA (l : List Value) : ∀ (c : Array Value) (o : Nat), (overA c o l).size = c.size := by
  induction l with
  | nil => intro c o; rfl
  | cons v r ih => intro c o; simp [overA, ih]
theorem get_overA (l : List Value) : ∀ (c : Array Value) (o k : Nat), o + l.length ≤ c.size → (overA c o l)[k]? = if o ≤ k ∧ k < o + l.length then l[k - o]? else c[k]? := by
  induction l with
  | nil => intro c o k _; rw [overA, if_neg (by simp)]
  | cons v r ih =>
    intro c o k h
    simp only [List.length_cons] at h ⊢
    rw [overA, ih _ _ _ (by simp; omega)]
    by_cases hk : o ≤ k ∧ k < o + (r.length + 1)
    · rw [if_pos hk]
      by_cases e : k = o
      · subst e
        rw [if_neg (by omega), Array.getElem?_setIfInBounds_self_of_lt (by omega)]
        simp
      · rw [if_pos (by omega), show k - o = (k - (o + 1)) + 1 by omega, List.getElem?_cons_succ]
    · rw [if_neg hk, if_neg (by omega), Array.getElem?_setIfInBounds_ne (by omega)]

theorem setCell_heap {w : World} {cb o : Nat} {c : Array Value} {el : TypeId} {fr : Nat × Nat} (h : w.heap[cb]? = some (.cells c el fr)) (v : Value) :
    w.setCell ⟨cb, o, none⟩ v = { w with heap := w.heap.setIfInBounds cb (.cells (c.setIfInBounds o v) el fr) } := by
  unfold World.setCell
  congr 1
  apply Array.ext_getElem?
  intro i
  rw [Array.getElem?_modify, Array.getElem?_setIfInBounds]
  by_cases e : cb = i
  · subst e
    have hlt : cb < w.heap.size := by
      rcases Nat.lt_or_ge cb w.heap.size with h' | h'
      · exact h'
      · rw [Array.getElem?_eq_none h'] at h; cases h
    have hh : w.heap[cb] = .cells c el fr := by
      rw [Array.getElem?_eq_getElem hlt] at h; exact Option.some.inj h
    simp [hlt, hh]
  · simp [e]

theorem run_storeCells {P : Program} {el : TypeId} {fr : Nat × Nat} {cb : Nat} : ∀ (vs : List Value) (w : World) (o i : Nat) (c : Array Value),
    w.heap[cb]? = some (.cells c el fr) → o + i + vs.length ≤ c.size → vs.all Value.oneCell' = true → (∀ k, k < c.size → (decide (fr.1 ≤ k) && decide (k < fr.2)) = false) →
    (storeCells ⟨cb, o, none⟩ vs i).run P w = .ok () { w with heap := w.heap.setIfInBounds cb (.cells (overA c (o + i) vs) el fr) } := by
  intro vs
  induction vs with
  | nil =>
    intro w o i c h _ _ _
    simp only [storeCells, Sem.run_pure, overA]
    congr 1
    cases w with | mk hp tp dr os ot =>
    simp only at h ⊢
    congr 1
    apply Array.ext_getElem?
    intro k
    rw [Array.getElem?_setIfInBounds]
    by_cases e : cb = k
    · subst e
      have hlt : cb < hp.size := by
        rcases Nat.lt_or_ge cb hp.size with h' | h'
        · exact h'
        · rw [Array.getElem?_eq_none h'] at h; cases h
      have hh : hp[cb] = .cells c el fr := by
        rw [Array.getElem?_eq_getElem hlt] at h; exact Option.some.inj h
      simp [hlt, hh]
    · simp [e]
  | cons v r ih =>
    intro w o i c h hn hv hf
    simp only [List.all_cons, Bool.and_eq_true] at hv
    simp only [List.length_cons] at hn
    have hlt : cb < w.heap.size := by
      rcases Nat.lt_or_ge cb w.heap.size with h' | h'
      · exact h'
      · rw [Array.getElem?_eq_none h'] at h; cases h
    have hc : c[o + i]? = some c[o + i] := Array.getElem?_eq_getElem (by omega)
    simp only [storeCells, Sem.run_bind, add_at]
    rw [run_store _ _ _ _ _ hv.1, cell_at h, hc]
    simp only [frozen_at h, hf (o + i) (by omega), Bool.false_eq_true, if_false, Result.andThen_ok]
    rw [setCell_heap h]
    have hnew : ({ w with heap := w.heap.setIfInBounds cb (.cells (c.setIfInBounds (o + i) v) el fr) } : World).heap[cb]? = some (.cells (c.setIfInBounds (o + i) v) el fr) := by
      simp [hlt]
    rw [ih _ o (i + 1) (c.setIfInBounds (o + i) v) hnew (by simp; omega) hv.2 (fun k hk => hf k (by simpa using hk))]
    congr 1
    simp only [overA, Array.setIfInBounds_setIfInBounds, Nat.add_assoc]

/-- a live block of cells. -/
structure AtCells (m : Mp) (w : World) (xs : Trie Value) (n : Nat) (k : Kind) (l : Loc) (c : Array Value) (el : TypeId) (fr : Nat × Nat) : Prop where
  asz : l.asz = n
  heap : w.heap[l.cb]? = some (.cells c el fr)
  csz : c.size = l.csz
  fit : l.sh + n ≤ l.csz
  kind : KRel l n k fr el
  cell : ∀ i, i < n → CellAt m xs c l.sh i

variable {m : Mp} {h : Heap} {N : Nat} {F : Nat → Option Blk} {w : World}

theorem mix_lt (h : Heap) {N : Nat} (F : Nat → Option Blk) {b : Nat} (hb : b < N) : mix h N F b = h.get b := by simp [mix, hb]
theorem lt_of_get (hwf : HWf h) (hN : h.nx ≤ N) {b : Nat} {x : Blk} (hb : h.get b = some x) : b < N := by
  rcases Nat.lt_or_ge b h.nx with h' | h'
  · omega
  · rw [hwf b h'] at hb; cases hb

theorem HRel.at (hr : HRel m (mix h N F) w) (hwf : HWf h) (hN : h.nx ≤ N) {b : Nat} {x : Blk} (hb : h.get b = some x) : BRel m w (m b) (some x) := by
  have := hr.blk b
  rwa [mix_lt h F (lt_of_get hwf hN hb), hb] at this
theorem HRel.cells (hr : HRel m (mix h N F) w) (hwf : HWf h) (hN : h.nx ≤ N) {b : Nat} {xs : Trie Value} {n : Nat} {k : Kind} (hb : h.get b = some (.cells xs n k)) :
    ∃ l, m b = .live l ∧ ∃ c el fr, AtCells m w xs n k l c el fr := by
  have := hr.at hwf hN hb
  cases hm : m b with
  | fresh => rw [hm] at this; exact this.elim
  | dead => rw [hm] at this; exact this.elim
  | sym k n => rw [hm] at this; exact this.elim
  | live l =>
    rw [hm] at this
    obtain ⟨h0, c, el, fr, h1, h2, h3, h4, h5⟩ := this
    exact ⟨l, rfl, c, el, fr, ⟨h0, h1, h2, h3, h4, h5⟩⟩
theorem HRel.map (hr : HRel m (mix h N F) w) (hwf : HWf h) (hN : h.nx ≤ N) {b : Nat} {es : List (Value × Value × Nat)} {clk : Nat} (hb : h.get b = some (.map es clk)) :
    ∃ l, m b = .live l ∧ l.rw = true ∧ ∃ ces, w.heap[l.cb]? = some (.map ces clk) ∧ ERel m es ces.toList := by
  have := hr.at hwf hN hb
  cases hm : m b with
  | fresh => rw [hm] at this; exact this.elim
  | dead => rw [hm] at this; exact this.elim
  | sym k n => rw [hm] at this; exact this.elim
  | live l => rw [hm] at this; exact ⟨l, rfl, this⟩
theorem HRel.str (hr : HRel m (mix h N F) w) (hwf : HWf h) (hN : h.nx ≤ N) {b : Nat} {s : ByteArray} {pos : Nat} (hb : h.get b = some (.str s pos)) :
    ∃ l, m b = .live l ∧ (l.rw = true ∧ l.sh = 0) ∧ w.heap[l.cb]? = some (.stringIter s pos) := by
  have := hr.at hwf hN hb
  cases hm : m b with
  | fresh => rw [hm] at this; exact this.elim
  | dead => rw [hm] at this; exact this.elim
  | sym k n => rw [hm] at this; exact this.elim
  | live l => rw [hm] at this; exact ⟨l, rfl, this⟩

theorem ptr_live {b off : Nat} {l : Loc} {v' : Value} (hv : VRel m (.pointer (some ⟨b, off, none⟩)) v') (hm : m b = .live l) : v' = .pointer (some ⟨l.cb, l.sh + off, none⟩) := by
  cases hv with
  | ptr _ _ l' h' => rw [hm] at h'; cases h'; rfl
  | ptrDead _ _ h' => simp only at h'; rw [hm] at h'; cases h'
theorem slice_live {b off len cap : Nat} {l : Loc} {v' : Value} (hv : VRel m (.slice (some ⟨b, off, none⟩) len cap) v') (hm : m b = .live l) :
    (∃ cap', v' = .slice (some ⟨l.cb, l.sh + off, none⟩) len cap' ∧ SRel l off cap cap') ∨ (len = 0 ∧ cap = 0 ∧ off = l.asz ∧ ∃ a', v' = .slice (some a') 0 0) := by
  cases hv with
  | slice _ _ _ _ cap' l' h' hs => rw [hm] at h'; cases h'; exact .inl ⟨cap', rfl, hs⟩
  | sliceEnd _ _ a' l' h' ho => rw [hm] at h'; cases h'; exact .inr ⟨rfl, rfl, ho, a', rfl⟩
  | sliceDead _ _ _ _ _ h' => simp only at h'; rw [hm] at h'; cases h'
theorem map_live {r : Nat} {l : Loc} {v' : Value} (hv : VRel m (.map (some r)) v') (hm : m r = .live l) : v' = .map (some l.cb) := by
  cases hv with
  | map _ l' h' => rw [hm] at h'; cases h'; rfl
  | mapDead _ _ h' => rw [hm] at h'; cases h'

/-- What an operation comes to: a value; or nothing. -/
def DoesV (P : Program) (s : Sem Value) (f : Eff) (h : Heap) (N : Nat) (F : Nat → Option Blk) (m : Mp) (w : World) : Prop :=
  ∃ w' m' v', s.run P w = .ok v' w' ∧ VRel m' f.val v' ∧ HRel m' (mix (h.apply f) N F) w' ∧ Step m w m' w'
def DoesU (P : Program) (s : Sem Unit) (f : Eff) (h : Heap) (N : Nat) (F : Nat → Option Blk) (m : Mp) (w : World) : Prop :=
  ∃ w' m', s.run P w = .ok () w' ∧ f.val = undef ∧ HRel m' (mix (h.apply f) N F) w' ∧ Step m w m' w'
def Does (P : Program) (s : Sem Next) (f : Eff) (h : Heap) (N : Nat) (F : Nat → Option Blk) (m : Mp) (w : World) : Prop :=
  ∃ r w' m' v', s.run P w = .ok r w' ∧ (r = .value v' ∨ (r = .skip ∧ v' = undef)) ∧ VRel m' f.val v' ∧ HRel m' (mix (h.apply f) N F) w' ∧ Step m w m' w'

theorem VRel.undef {m : Mp} : VRel m undef undef := .tuple #[] #[] .nil
theorem DoesV.does {P : Program} {s : Sem Value} {f : Eff} (hd : DoesV P s f h N F m w) : Does P (do pure (.value (← s))) f h N F m w := by
  obtain ⟨w', m', v', h1, h2, h3, h4⟩ := hd
  exact ⟨.value v', w', m', v', by simp [h1], .inl rfl, h2, h3, h4⟩
theorem DoesU.does {P : Program} {s : Sem Unit} {f : Eff} (hd : DoesU P s f h N F m w) : Does P (do s; pure .skip) f h N F m w := by
  obtain ⟨w', m', h1, h2, h3, h4⟩ := hd
  exact ⟨.skip, w', m', undef, by simp [h1], .inr ⟨rfl, rfl⟩, by rw [h2]; exact VRel.undef, h3, h4⟩

theorem DoesV.ret {P : Program} {s : Sem Value} {v v' : Value} (hr : HRel m (mix h N F) w) (hs : s.run P w = .ok v' w) (hv : VRel m v v') : DoesV P s ⟨v, [], []⟩ h N F m w :=
  ⟨w, m, v', hs, hv, hr, .refl m w⟩
theorem Does.ret {P : Program} {s : Sem Next} {v v' : Value} (hr : HRel m (mix h N F) w) (hs : s.run P w = .ok (.value v') w) (hv : VRel m v v') : Does P s ⟨v, [], []⟩ h N F m w :=
  ⟨_, w, m, v', hs, .inl rfl, hv, hr, .refl m w⟩

theorem mix_set (h : Heap) (N : Nat) (F : Nat → Option Blk) {b : Nat} (x : Blk) (n : Nat) (hb : b < N) : mix ⟨h.t.set b x, n⟩ N F = fun b' => if b' = b then some x else mix h N F b' := by
  funext b'
  simp only [mix, Heap.get, Trie.get_set]
  by_cases e : b' = b
  · subst e; simp [hb]
  · simp [e]

/-- a write to a row of cells that is known. -/
theorem wr_rel {b : Nat} {l : Loc} {x : Blk} {o : Obj} {v : Value} (hr : HRel m (mix h N F) w) (hb : b < N) (hm : m b = .live l) (hrw : l.rw = true)
    (hx : BRel m { w with heap := w.heap.setIfInBounds l.cb o } (.live l) (some x)) :
    HRel m (mix (h.apply ⟨v, [(b, x)], []⟩) N F) { w with heap := w.heap.setIfInBounds l.cb o } ∧ Step m w m { w with heap := w.heap.setIfInBounds l.cb o } := by
  have key := hr.upd (w' := { w with heap := w.heap.setIfInBounds l.cb o }) hm hrw (x := x) (by simp) rfl rfl (fun cb hc => by simp [Ne.symm hc]) hx
  refine ⟨?_, key.2⟩
  show HRel m (mix ⟨h.t.set b x, h.nx⟩ N F) _
  rw [mix_set h N F x h.nx hb]
  exact key.1

/-- new memory. -/
theorem nw_rel {v : Value} {l : Loc} {x : Blk} {o : Obj} (d : Nat) (hr : HRel m (mix h N F) w) (hwf : HWf h) (hN : h.nx < N) (hl : l.cb = w.heap.size) (hrw : l.rw = true)
    (hx : ∀ m', Ext m m' → m' h.nx = .live l → BRel m' { w with heap := w.heap.push o } (.live l) (some x)) :
    ∃ m', Ext m m' ∧ m' h.nx = .live l ∧ HRel m' (mix (h.apply ⟨v, [], [x]⟩) N F) { w with heap := w.heap.push o, drawn := d } ∧ Step m w m' { w with heap := w.heap.push o, drawn := d } := by
  have hnone : mix h N F h.nx = none := by rw [mix_lt h F hN]; exact hwf _ (Nat.le_refl _)
  obtain ⟨k1, k2⟩ := hr.alloc hnone o hl hrw hx
  refine ⟨_, k2.ext, by simp, ?_, k2.trans (Step.drew (d := d))⟩
  show HRel _ (mix ⟨h.t.set h.nx x, h.nx + 1⟩ N F) _
  rw [mix_set h N F x (h.nx + 1) hN]
  exact k1.drew d

/-- what a new row of cells is. -/
theorem new_cells {vs : List Value} {c : Array Value} {el : TypeId} {fr : Nat × Nat} {k : Kind} {e : Nat} (hs : vs.length ≤ c.size)
    (hv : VRels m vs (c.toList.take vs.length)) (h1 : vs.all Value.oneCell' = true) (hk : KRel ⟨w.heap.size, 0, e, vs.length, c.size, true⟩ vs.length k fr el) {m' : Mp} (he : Ext m m') :
    BRel m' { w with heap := w.heap.push (.cells c el fr) } (.live ⟨w.heap.size, 0, e, vs.length, c.size, true⟩) (some (.cells (ofList vs) vs.length k)) := by
  refine ⟨rfl, c, el, fr, by simp, rfl, by simpa using hs, hk, fun i hi => ?_⟩
  obtain ⟨v', h2, h3⟩ := hv.get (List.getElem?_eq_getElem hi)
  rw [List.getElem?_take, if_pos hi] at h2
  refine ⟨vs[i], v', by rw [get_ofList]; exact List.getElem?_eq_getElem hi, by simpa using h2, ?_, h3.mono he⟩
  exact (List.all_eq_true.1 h1) _ (List.getElem_mem hi)
theorem new_cellsX {vs : List Value} {xs : Trie Value} {c : Array Value} {el : TypeId} {fr : Nat × Nat} {k : Kind} {e : Nat} (hx : ∀ i, i < vs.length → xs.get i = vs[i]?) (hs : vs.length ≤ c.size)
    (hv : VRels m vs (c.toList.take vs.length)) (h1 : vs.all Value.oneCell' = true) (hk : KRel ⟨w.heap.size, 0, e, vs.length, c.size, true⟩ vs.length k fr el) {m' : Mp} (he : Ext m m') :
    BRel m' { w with heap := w.heap.push (.cells c el fr) } (.live ⟨w.heap.size, 0, e, vs.length, c.size, true⟩) (some (.cells xs vs.length k)) := by
  refine ⟨rfl, c, el, fr, by simp, rfl, by simpa using hs, hk, fun i hi => ?_⟩
  obtain ⟨v', h2, h3⟩ := hv.get (List.getElem?_eq_getElem hi)
  rw [List.getElem?_take, if_pos hi] at h2
  refine ⟨vs[i], v', by rw [hx i hi]; exact List.getElem?_eq_getElem hi, by simpa using h2, ?_, h3.mono he⟩
  exact (List.all_eq_true.1 h1) _ (List.getElem_mem hi)
theorem new_exact {vs : List Value} {c : Array Value} {el : TypeId} (hv : VRels m vs c.toList) (h1 : vs.all Value.oneCell' = true) {m' : Mp} (he : Ext m m') :
    BRel m' { w with heap := w.heap.push (.cells c el) } (.live ⟨w.heap.size, 0, 0, vs.length, c.size, true⟩) (some (mkCells vs)) := by
  have hl : c.size = vs.length := by simpa using hv.length
  refine new_cells (k := .exact) (fr := (0, 0)) (by omega) ?_ h1 (And.intro rfl (And.intro rfl (And.intro hl rfl))) he
  rw [List.take_of_length_le (by simp; omega)]
  exact hv

/-- what a row of cells is behind a write. -/
theorem wr_cells {xs : Trie Value} {n : Nat} {k : Kind} {l : Loc} {c : Array Value} {el : TypeId} {fr : Nat × Nat} (ha : AtCells m w xs n k l c el fr) {off : Nat} {vs vs' : List Value}
    (hn : off + vs.length ≤ n) (hv : VRels m vs vs') (h1 : vs.all Value.oneCell' = true) :
    BRel m { w with heap := w.heap.setIfInBounds l.cb (.cells (overA c (l.sh + off) vs') el fr) } (.live l) (some (.cells (storeL xs off vs) n k)) := by
  have hlt : l.cb < w.heap.size := by
    rcases Nat.lt_or_ge l.cb w.heap.size with h' | h'
    · exact h'
    · have := ha.heap; rw [Array.getElem?_eq_none h'] at this; cases this
  have hle := hv.length
  refine ⟨ha.asz, overA c (l.sh + off) vs', el, fr, by simp [hlt], by rw [size_overA]; exact ha.csz, ha.fit, ha.kind, fun i hi => ?_⟩
  have hfit := ha.fit
  have hcsz := ha.csz
  obtain ⟨u, u', g1, g2, g3, g4⟩ := ha.cell i hi
  unfold CellAt
  rw [get_storeL, get_overA _ _ _ _ (by omega)]
  by_cases e : off ≤ i ∧ i < off + vs.length
  · rw [if_pos e, if_pos (by omega)]
    have hi' : i - off < vs.length := by omega
    obtain ⟨v', a1, a2⟩ := hv.get (List.getElem?_eq_getElem hi')
    refine ⟨vs[i - off], v', List.getElem?_eq_getElem hi', by rw [show l.sh + i - (l.sh + off) = i - off by omega]; exact a1, ?_, a2⟩
    exact (List.all_eq_true.1 h1) _ (List.getElem_mem hi')
  · rw [if_neg e, if_neg (by omega)]
    exact ⟨u, u', g1, g2, g3, g4⟩

theorem KRel.free {l : Loc} {n : Nat} {k : Kind} {fr : Nat × Nat} {el : TypeId} (hk : KRel l n k fr el) (hr : k ≠ .ro) : l.rw = true ∧ ∀ i, i < l.csz → (decide (fr.1 ≤ i) && decide (i < fr.2)) = false := by
  cases k with
  | ro => exact absurd rfl hr
  | exact => obtain ⟨h1, _, _, h2⟩ := hk; subst h2; exact ⟨h1, fun i _ => by simp⟩
  | loose e => obtain ⟨h1, h2, _⟩ := hk; subst h2; exact ⟨h1, fun i _ => by simp⟩
  | bytes => exact ⟨hk.1, hk.2.1⟩
  | bld t => obtain ⟨h1, _, _, h2, _⟩ := hk; subst h2; exact ⟨h1, fun i _ => by simp⟩
  | own t => obtain ⟨h1, h2, _⟩ := hk; subst h2; exact ⟨h1, fun i _ => by simp⟩

/-- a write of cells, run. -/
theorem run_wr {P : Program} {xs : Trie Value} {n : Nat} {k : Kind} {l : Loc} {c : Array Value} {el : TypeId} {fr : Nat × Nat} (ha : AtCells m w xs n k l c el fr) (hk : k ≠ .ro) {off : Nat} {vs vs' : List Value}
    (hn : off + vs.length ≤ n) (hv : VRels m vs vs') (h1 : vs.all Value.oneCell' = true) :
    (storeCells ⟨l.cb, l.sh + off, none⟩ vs').run P w = .ok () { w with heap := w.heap.setIfInBounds l.cb (.cells (overA c (l.sh + off) vs') el fr) } := by
  have hfit := ha.fit
  have hcsz := ha.csz
  have hle := hv.length
  have h1' : vs'.all Value.oneCell' = true := by
    rw [List.all_eq_true] at *
    intro v' hv'
    obtain ⟨i, hi⟩ := List.mem_iff_getElem?.1 hv'
    have hil : i < vs.length := by
      rcases Nat.lt_or_ge i vs.length with h' | h'
      · exact h'
      · rw [List.getElem?_eq_none (by omega)] at hi; cases hi
    obtain ⟨u', a1, a2⟩ := hv.get (List.getElem?_eq_getElem hil)
    rw [a1] at hi; cases hi
    exact a2.oneCell (h1 _ (List.getElem_mem hil))
  have := run_storeCells (P := P) (el := el) (fr := fr) (cb := l.cb) vs' w (l.sh + off) 0 c ha.heap (by omega) h1' (fun i hi => (ha.kind.free hk).2 i (by omega))
  simpa using this
end Go.AM
