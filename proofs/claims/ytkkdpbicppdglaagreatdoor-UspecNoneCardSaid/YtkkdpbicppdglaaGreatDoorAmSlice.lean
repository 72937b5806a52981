/- Slices of ints as arguments: their first ones are tokens in a block that is read alone. -/
import Derived.Test.YtkkdpbicppdglaaGreatDoorAmTop
namespace Go.AM
open Go.ChangeShapes Go.WideShapes
variable {P : Program} {W : World}

theorem open_ints {H : Type} {enc : TypeId × Value → H} {r : Reach} {b0 base : Nat} {spare : Nat → Bool} {held : Bool} {t e : TypeId} {k : IntKind} {v : Value} {d : DataW H} {ps : List MemPlace} (ht : P.underlying t = some (.slice e)) (he : P.underlying e = some (.int k)) (hc : P.cellsOf e = 1)
    (hval : Value.okWide P W r b0 t v) (hd : DataW.Trod enc P W base spare held t v d ps) :
    v = .slice none 0 0 ∨ ∃ a len cap, v = .slice (some a) len cap ∧ ∃ f : Nat → Int, 0 < len → ∃ b off cs el fr, a = ⟨b, off, none⟩ ∧ W.heap[b]? = some (.cells cs el fr) ∧ off + len ≤ cs.size ∧ ∀ i, i < len → cs[off + i]? = some (.int k (f i)) := by
  obtain ⟨a0, len0, cap0, rfl⟩ := okWide_slice ht hval
  obtain ⟨fuel, hf⟩ := hd
  rcases DataW.trod_slice ht hf with ⟨h, _⟩ | ⟨a, len, cap, elems, rest, n, _, h, _, _, _, _, hlen, hel, _⟩
  · left
    simpa [Value.cells] using h
  · right
    simp [Value.cells] at h
    obtain ⟨rfl, rfl, rfl⟩ := h
    have key : ∀ i, i < len0 → ∃ m, W.cell? (a.add i) = some (.int k m) := by
      intro i hi
      have h1 := hel i hi
      rw [hc, Nat.mul_one] at h1
      obtain ⟨x, hx⟩ : ∃ x, elems[i]? = some x := ⟨elems[i]'(by omega), List.getElem?_eq_getElem _⟩
      rw [hx] at h1
      obtain ⟨cs, g1, g2⟩ := Option.bind_eq_some_iff.1 h1
      obtain ⟨m, rfl, _, _⟩ := DataW.trod_int he g2
      obtain ⟨_, _, g3⟩ := World.cells?_some g1
      have := g3 0 (by omega)
      refine ⟨m, ?_⟩
      simpa [Addr.add] using this
    obtain ⟨f, hfn⟩ : ∃ f : Nat → Int, ∀ i, i < len0 → W.cell? (a.add i) = some (.int k (f i)) := by
      refine ⟨fun i => if h : i < len0 then (key i h).choose else 0, fun i hi => ?_⟩
      simp only [hi, dif_pos]
      exact (key i hi).choose_spec
    refine ⟨a, len0, cap0, rfl, f, fun hpos => ?_⟩
    obtain ⟨b, off, spot⟩ := a
    have hspot : spot = none := by simpa [Addr.add] using World.cell?_spot (hfn 0 hpos)
    subst hspot
    have key2 : ∀ i, i < len0 → W.cell? ⟨b, off + i, none⟩ = some (.int k (f i)) := by
      intro i h
      have := hfn i h
      rwa [add_plain] at this
    have hcell : ∃ cs el fr, W.heap[b]? = some (.cells cs el fr) := by
      have := key2 0 hpos
      unfold World.cell? at this
      split at this <;> try (simp at this; done)
      rename_i cs el fr hh
      exact ⟨cs, el, fr, hh⟩
    obtain ⟨cs, el, fr, hcs⟩ := hcell
    have key3 : ∀ i, i < len0 → cs[off + i]? = some (.int k (f i)) := by
      intro i h
      have := key2 i h
      simpa [World.cell?, hcs] using this
    refine ⟨b, off, cs, el, fr, rfl, hcs, ?_, key3⟩
    have := key3 (len0 - 1) (by omega)
    have := (Array.getElem?_eq_some_iff.1 this).1
    omega

noncomputable def toks (n : Nat) : List Value := Nat.rec (motive := fun _ => List Value) [] (fun i ih => ih ++ [.chan (some (Nat.succ i))]) n
theorem toks_length (n : Nat) : (toks n).length = n := by
  induction n with
  | zero => rfl
  | succ n ih =>
    show (toks n ++ [_]).length = _
    rw [List.length_append, ih]; rfl
theorem toks_get {n i : Nat} (h : i < n) : (toks n)[i]? = some (.chan (some (i + 1))) := by
  induction n with
  | zero => omega
  | succ n ih =>
    show (toks n ++ [_])[i]? = _
    by_cases e : i < n
    · rw [List.getElem?_append_left (by rw [toks_length]; exact e)]; exact ih e
    · have : i = n := by omega
      subst this
      rw [List.getElem?_append_right (by rw [toks_length]; exact Nat.le_refl _), toks_length]
      simp
noncomputable def tokHeap (n : Nat) : Heap := ⟨(deadsT (Nat.succ n)).set 0 (.cells (ofList (toks n)) n .ro), Nat.succ n⟩
theorem tokHeap_get (n b : Nat) : (tokHeap n).get b = if b = 0 then some (.cells (ofList (toks n)) n .ro) else if b < n + 1 then some .dead else none := by
  show ((deadsT (n + 1)).set 0 _).get b = _
  rw [Trie.get_set]
  have := deads_get (n + 1) b
  have this : (deadsT (n + 1)).get b = if b < n + 1 then some .dead else none := this
  rw [this]
theorem tokHeap_wf (n : Nat) : HWf (tokHeap n) := fun b hb => by
  have hb : n + 1 ≤ b := hb
  rw [tokHeap_get, if_neg (by omega), if_neg (by omega)]
def tokMp (n : Nat) (l : Loc) (k : IntKind) (f : Nat → Int) : Mp := fun b => if b = 0 then .live l else if b < n + 1 then .sym k (f (b - 1)) else .fresh
theorem tokHeap_rel {n : Nat} {k : IntKind} {f : Nat → Int} {b off : Nat} {cs : Array Value} {el : TypeId} {fr : Nat × Nat} (h1 : W.heap[b]? = some (.cells cs el fr)) (h2 : off + n ≤ cs.size) (h3 : ∀ i, i < n → cs[off + i]? = some (.int k (f i))) (N : Nat) (hN : n + 1 ≤ N) :
    HRel (tokMp n ⟨b, off, 0, n, cs.size, false⟩ k f) (mix (tokHeap n) N fun _ => none) W := by
  refine ⟨fun b' => ?_, fun b1 b2 l1 l2 g1 g2 _ _ => ?_⟩
  · unfold mix
    rw [tokHeap_get]
    by_cases e : b' = 0
    · subst e
      rw [if_pos (by omega), if_pos rfl]
      show BRel _ W (.live _) _
      refine ⟨rfl, cs, el, fr, h1, rfl, h2, ⟨rfl, rfl⟩, fun i hi => ?_⟩
      refine ⟨.chan (some (i + 1)), .int k (f i), ?_, h3 i hi, rfl, .sym (i + 1) k (f i) ?_⟩
      · show (storeL .leaf 0 (toks n)).get i = _
        rw [get_storeL, if_pos (by rw [toks_length]; omega), Nat.sub_zero, toks_get hi]
      · unfold tokMp
        rw [if_neg (by omega), if_pos (by omega)]
        rfl
    · unfold tokMp
      rw [if_neg e, if_neg e]
      by_cases e2 : b' < n + 1
      · rw [if_pos e2, if_pos (by omega), if_pos e2]; trivial
      · rw [if_neg e2, if_neg e2]
        split <;> trivial
  · have key : ∀ b' l', tokMp n ⟨b, off, 0, n, cs.size, false⟩ k f b' = .live l' → b' = 0 := by
      intro b' l' h
      unfold tokMp at h
      split at h
      · assumption
      · split at h <;> cases h
    rw [key b1 l1 g1, key b2 l2 g2]
theorem tokMp_ro {n : Nat} {l : Loc} {k : IntKind} {f : Nat → Int} (hl : l.rw = false) : ∀ b l', tokMp n l k f b = .live l' → l'.rw = false := by
  intro b l' h
  unfold tokMp at h
  split at h
  · cases h; exact hl
  · split at h <;> cases h
/-- A law of one slice of ints of which it reads the first n. -/
theorem true_ints {cl : Caller} (hcl : CallOk P 0 cl) {f : FuncId} {n len cap : Nat} {k : IntKind} {v : Nat → Int} {b off : Nat} {cs : Array Value} {el : TypeId} {fr : Nat × Nat} (h1 : W.heap[b]? = some (.cells cs el fr)) (hn : n ≤ len) (h2 : off + len ≤ cs.size) (h3 : ∀ i, i < len → cs[off + i]? = some (.int k (v i)))
    (hrun : isTrue (cl f [.slice (some ⟨0, 0, none⟩) len cap] (tokHeap n)) = true) : Calls P f #[.slice (some ⟨b, off, none⟩) len cap] W fun e W' => e = .returned (.bool true) ∧ Still W W' :=
  true_calls' (args' := [.slice (some ⟨b, off, none⟩) len cap]) hcl (tokHeap_wf n) (fun N hN => tokHeap_rel h1 (by omega) (fun i hi => h3 i (by omega)) N hN) (tokMp_ro rfl) hrun
    (.cons _ _ _ _ (.slice 0 0 len cap cap ⟨b, off, 0, n, cs.size, false⟩ rfl (.inl rfl)) .nil)
end Go.AM
