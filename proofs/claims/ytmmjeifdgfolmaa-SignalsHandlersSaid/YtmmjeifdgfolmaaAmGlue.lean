/- From a walk to the model: laws whose arguments are read alone. Conditions: each block of the abstract heap stands for what the arguments hold. -/
import Derived.Test.YtmmjeifdgfolmaaAmAwake0
import Derived.Test.YtmmjeifdgfolmaaAmLoop
namespace Go.AM
open Go.ChangeShapes Go.WideShapes
variable {P : Program} {W : World}
theorem list_rel2 {l : List Blk} {st : List AM.Stat} (hlen : st.length = l.length) (hb : ∀ (i : Nat) (s : AM.Stat) (b : Blk), st[i]? = some s → l[i]? = some b → BRel (statMp st) W s (some b))
    (hro : ∀ (i : Nat) (l1 : Loc) (b : Blk), st[i]? = some (.live l1) → l[i]? = some b → roB (some b) = true) (N : Nat) (hN : l.length ≤ N) : HRel (statMp st) (mix (listHeap l) N fun _ => none) W := by
  have key : ∀ b, mix (listHeap l) N (fun _ => none) b = l[b]? := by
    intro b
    unfold mix
    rw [listHeap_get]
    by_cases h : b < l.length
    · rw [if_pos (by omega)]
    · rw [List.getElem?_eq_none (by omega)]
      split <;> rfl
  refine ⟨fun b => ?_, fun b b' l1 l2 h1 h2 e hq => ?_⟩
  · rw [key]
    by_cases h : b < l.length
    · have h1 : st[b]? = some (st[b]'(by omega)) := List.getElem?_eq_getElem _
      have h2 : l[b]? = some (l[b]'h) := List.getElem?_eq_getElem _
      have : statMp st b = st[b]'(by omega) := by unfold statMp; rw [h1]; rfl
      rw [this, h2]
      exact hb b _ _ h1 h2
    · have : statMp st b = .fresh := by unfold statMp; rw [List.getElem?_eq_none (by omega)]; rfl
      rw [this, List.getElem?_eq_none (by omega)]
      trivial
  · rw [key] at hq
    have h1' := statMp_get h1 (by simp)
    have hb' : b < st.length := (List.getElem?_eq_some_iff.1 h1').1
    rw [hlen] at hb'
    have h2' : l[b]? = some (l[b]'hb') := List.getElem?_eq_getElem _
    rw [h2', hro b l1 _ h1' h2'] at hq
    cases hq
theorem wf_list {ng : Nat} {sp : Special} (hm : P.follows .mixedOrders = true) (hsp : SpecOk P ng sp) {f : FuncId} {args args' : List Value} {l : List Blk} {st : List AM.Stat} (hlen : st.length = l.length) (hb : ∀ (i : Nat) (s : AM.Stat) (b : Blk), st[i]? = some s → l[i]? = some b → BRel (statMp st) W s (some b))
    (hro : ∀ (i : Nat) (l1 : Loc) (b : Blk), st[i]? = some (.live l1) → l[i]? = some b → roB (some b) = true ∧ l1.rw = false) (hg : GlobOk ng (statMp st))
    (hw : WF P ng sp f args (listHeap l) fun o _ => o = .ret (.bool true)) (ha : VRels (statMp st) args args') : Calls P f args'.toArray W fun e W' => e = .returned (.bool true) ∧ Still W W' := by
  obtain ⟨o, h', ⟨N, hN⟩, rfl⟩ := hw
  refine true_callsG (acall_ok hm hsp N N) (listHeap_wf l) (fun N hN => list_rel2 hlen hb (fun i l1 b h1 h2 => (hro i l1 b h1 h2).1) N hN) hg ?_ (by rw [hN N N (Nat.le_refl _) (Nat.le_refl _)]; rfl) ha
  intro b l1 h1
  have h1' := statMp_get h1 (by simp)
  have hb' : b < st.length := (List.getElem?_eq_some_iff.1 h1').1
  rw [hlen] at hb'
  exact (hro b l1 _ h1' (List.getElem?_eq_getElem hb')).2

/-- a row of numbers, given as an argument: its block is the i-th one. -/
theorem ints_arg {H : Type} {enc : TypeId × Value → H} {r : Reach} {b0 base : Nat} {spare : Nat → Bool} {held : Bool} {t e : TypeId} {k : IntKind} {v : Value} {d : DataW H} {ps : List MemPlace} (i : Nat) (ht : P.underlying t = some (.slice e)) (he : P.underlying e = some (.int k)) (hc : P.cellsOf e = 1)
    (hval : Value.okWide P W r b0 t v) (hd : DataW.Trod enc P W base spare held t v d ps) :
    ∃ (a : Option Addr) (l : List Int) (c : Nat) (s : AM.Stat) (x : Blk), (l.length = 0 ∨ (a = some ⟨i, 0, none⟩ ∧ x = cellsB (l.map (.int k ·)) .ro)) ∧ (∀ m : Mp, m i = s → VRel m (.slice a l.length c) v) ∧ (∀ m, BRel m W s (some x)) ∧ (∀ l1, s = .live l1 → roB (some x) = true ∧ l1.rw = false) := by
  rcases open_ints ht he hc hval hd with rfl | ⟨a, len, cap, rfl, f, hf⟩
  · exact ⟨none, [], 0, .dead, .dead, .inl rfl, fun m _ => .sliceNil 0 0, fun _ => trivial, fun _ h => by cases h⟩
  · by_cases hl : 0 < len
    · obtain ⟨b, off, cs, el, fr, rfl, h1, h2, h3⟩ := hf hl
      have hlen : ((List.range len).map f).length = len := by simp
      refine ⟨some ⟨i, 0, none⟩, (List.range len).map f, cap, .live ⟨b, off, 0, len, cs.size, false⟩, _, .inr ⟨rfl, rfl⟩, fun m hm => ?_, fun m => ?_, fun l1 hl1 => ⟨rfl, by cases hl1; rfl⟩⟩
      · rw [hlen]
        exact .slice i 0 len cap cap _ hm (.inl rfl)
      · refine ⟨by simp, cs, el, fr, h1, rfl, by simpa using h2, ⟨rfl, rfl⟩, fun j hj => ?_⟩
        have hj : j < len := by simpa using hj
        refine ⟨.int k (f j), .int k (f j), ?_, h3 j hj, rfl, .int k (f j)⟩
        rw [get_ofList]
        simp [hj]
    · have : len = 0 := by omega
      subst this
      exact ⟨some ⟨i, 0, none⟩, [], cap, .dead, .dead, .inl rfl, fun m hm => .sliceDead _ _ _ _ _ hm, fun _ => trivial, fun _ h => by cases h⟩
/-- a row of ints, as the model reads it. -/
theorem ints_read {H : Type} {enc : TypeId × Value → H} {base fuel : Nat} {spare : Nat → Bool} {held : Bool} {t e : TypeId} {k : IntKind} {cs : List Value} {d : DataW H × List MemPlace} (ht : P.underlying t = some (.slice e)) (he : P.underlying e = some (.int k)) (hc : P.cellsOf e = 1)
    (hd : DataW.trod enc P W base spare held fuel t cs = some d) :
    cs = [.slice none 0 0] ∨ ∃ a len cap, cs = [.slice (some a) len cap] ∧ len ≤ maxLen ∧ ∃ f : Nat → Int, (∀ i, i < len → (Lit.int k (f i)).wf = true) ∧ (0 < len → ∃ b off cs el fr, a = ⟨b, off, none⟩ ∧ W.heap[b]? = some (.cells cs el fr) ∧ off + len ≤ cs.size ∧ ∀ i, i < len → cs[off + i]? = some (.int k (f i))) := by
  rcases DataW.trod_slice ht hd with ⟨h, _⟩ | ⟨a, len0, cap0, elems, rest, n, _, h, _, _, hlc, hcm, hlen, hel, _⟩
  · exact .inl h
  · right
    have key : ∀ i, i < len0 → ∃ m, W.cell? (a.add i) = some (.int k m) ∧ (Lit.int k m).wf = true := by
      intro i hi
      have h1 := hel i hi
      rw [hc, Nat.mul_one] at h1
      obtain ⟨x, hx⟩ : ∃ x, elems[i]? = some x := ⟨elems[i]'(by omega), List.getElem?_eq_getElem _⟩
      rw [hx] at h1
      obtain ⟨cs, g1, g2⟩ := Option.bind_eq_some_iff.1 h1
      obtain ⟨m, rfl, _, hw⟩ := DataW.trod_int he g2
      obtain ⟨_, _, g3⟩ := World.cells?_some g1
      have := g3 0 (by omega)
      refine ⟨m, ?_, hw⟩
      simpa [Addr.add] using this
    obtain ⟨f, hfn⟩ : ∃ f : Nat → Int, ∀ i, i < len0 → W.cell? (a.add i) = some (.int k (f i)) ∧ (Lit.int k (f i)).wf = true := by
      refine ⟨fun i => if h : i < len0 then (key i h).choose else 0, fun i hi => ?_⟩
      simp only [hi, dif_pos]
      exact (key i hi).choose_spec
    refine ⟨a, len0, cap0, h, Nat.le_trans hlc hcm, f, fun i hi => (hfn i hi).2, fun hpos => ?_⟩
    obtain ⟨b, off, spot⟩ := a
    have hspot : spot = none := by simpa [Addr.add] using World.cell?_spot (hfn 0 hpos).1
    subst hspot
    have key2 : ∀ i, i < len0 → W.cell? ⟨b, off + i, none⟩ = some (.int k (f i)) := by
      intro i h
      have := (hfn i h).1
      rwa [add_plain] at this
    have hcell : ∃ cs el fr, W.heap[b]? = some (.cells cs el fr) := by
      have := key2 0 hpos
      unfold World.cell? at this
      split at this <;> try (simp at this; done)
      rename_i cs el fr hh
      exact ⟨cs, el, fr, hh⟩
    obtain ⟨cs, el, fr, hcs⟩ := hcell
    have key3 : ∀ i, i < len0 → cs[off + i]? = some (.int k (f i)) := by
      intro i h
      have := key2 i h
      simpa [World.cell?, hcs] using this
    refine ⟨b, off, cs, el, fr, rfl, hcs, ?_, key3⟩
    have := key3 (len0 - 1) (by omega)
    have := (Array.getElem?_eq_some_iff.1 this).1
    omega
/-- .. as a block of its own, the i-th one. -/
theorem ints_block {H : Type} {enc : TypeId × Value → H} {base fuel : Nat} {spare : Nat → Bool} {held : Bool} {t e : TypeId} {k : IntKind} {cs : List Value} {d : DataW H × List MemPlace} (i : Nat) (ht : P.underlying t = some (.slice e)) (he : P.underlying e = some (.int k)) (hc : P.cellsOf e = 1)
    (hd : DataW.trod enc P W base spare held fuel t cs = some d) :
    ∃ (v : Value) (a : Option Addr) (l : List Int) (c : Nat) (s : AM.Stat) (x : Blk), cs = [v] ∧ l.length ≤ maxLen ∧ (∀ y ∈ l, (Lit.int k y).wf = true) ∧ (l.length = 0 ∨ (a = some ⟨i, 0, none⟩ ∧ x = cellsB (l.map (.int k ·)) .ro)) ∧ (∀ m : Mp, m i = s → VRel m (.slice a l.length c) v) ∧ (∀ m, BRel m W s (some x)) ∧ (∀ l1, s = .live l1 → roB (some x) = true ∧ l1.rw = false) := by
  rcases ints_read ht he hc hd with rfl | ⟨a, len, cap, rfl, hm, f, hw, hf⟩
  · exact ⟨_, none, [], 0, .dead, .dead, rfl, Nat.zero_le _, fun _ h => by simp at h, .inl rfl, fun m _ => .sliceNil 0 0, fun _ => trivial, fun _ h => by cases h⟩
  · by_cases hl : 0 < len
    · obtain ⟨b, off, cs, el, fr, rfl, h1, h2, h3⟩ := hf hl
      have hlen : ((List.range len).map f).length = len := by simp
      refine ⟨_, some ⟨i, 0, none⟩, (List.range len).map f, cap, .live ⟨b, off, 0, len, cs.size, false⟩, _, rfl, by rw [hlen]; exact hm, fun y hy => ?_, .inr ⟨rfl, rfl⟩, fun m hm => ?_, fun m => ?_, fun l1 hl1 => ⟨rfl, by cases hl1; rfl⟩⟩
      · obtain ⟨j, hj, rfl⟩ := List.mem_map.1 hy
        exact hw j (by simpa using hj)
      · rw [hlen]
        exact .slice i 0 len cap cap _ hm (.inl rfl)
      · refine ⟨by simp, cs, el, fr, h1, rfl, by simpa using h2, ⟨rfl, rfl⟩, fun j hj => ?_⟩
        have hj : j < len := by simpa using hj
        refine ⟨.int k (f j), .int k (f j), ?_, h3 j hj, rfl, .int k (f j)⟩
        rw [get_ofList]
        simp [hj]
    · have : len = 0 := by omega
      subst this
      exact ⟨_, some ⟨i, 0, none⟩, [], cap, .dead, .dead, rfl, Nat.zero_le _, fun _ h => by simp at h, .inl rfl, fun m hm => .sliceDead _ _ _ _ _ hm, fun _ => trivial, fun _ h => by cases h⟩
end Go.AM
