/- Lemmas of the claim: the machine of the proof and the walks of the program. Conditions: as each says. -/
import Derived.Test.YtmmjeifdgfolmaaG4
import Derived.Laws.StructEq
import Derived.Deep.Strs
section
/- A struct's or an array's value is equal to itself. Conditions: its parts are. -/
namespace Go.AM
variable {P : Program}
theorem ep_bind {α β : Type} (s : Go.Sem α) (f : α → Go.Sem β) : evalPure P (s >>= f) = (evalPure P s).bind fun a => evalPure P (f a) := by
  induction s with
  | pure a => rfl
  | program k ih => exact ih P
  | _ => rfl
theorem ep_pure {α : Type} (a : α) : evalPure P (pure a : Go.Sem α) = some a := rfl
theorem ep_under {t : TypeId} {d : TypeDesc} (h : P.underlying t = some d) : evalPure P (underlying t) = some d := by
  show evalPure P (match P.underlying t with | some d => pure d | none => stuck "no such type") = _
  rw [h]; rfl
theorem ep_int {d : Nat} {t : TypeId} {k k' : IntKind} {a : Int} (h : P.underlying t = some (.int k')) : evalPure P (Op.equalIn (d + 1) t (.int k a) (.int k a)) = some true := by
  simp only [Op.equalIn]
  rw [ep_bind, ep_under h]
  simp only [Option.bind_some, if_true, ep_pure, beq_self_eq_true]
theorem ep_isAgg {t : TypeId} {b : Bool} (h : tyA P t = some b) : evalPure P (isAgg t) = some b := by
  unfold tyA at h
  cases hu : P.underlying t with
  | none => rw [hu] at h; cases h
  | some d =>
    rw [hu] at h
    unfold isAgg
    rw [ep_bind, ep_under hu]
    simp only [Option.bind_some]
    cases d <;> simp [aggB] at h <;> (first | (subst h; rfl) | (rw [← h]; rfl) | skip)
theorem ep_prog : evalPure P program = some P := rfl
theorem ep_size {t : TypeId} {s : Nat} (h : sizeOf? P t = some s) : evalPure P (sizeOf t) = some s := by
  unfold sizeOf? at h
  cases hi : P.info? t with
  | none => rw [hi] at h; cases h
  | some i =>
    rw [hi] at h
    show evalPure P ((match P.info? t with | some i => pure i | none => stuck "no such type") >>= fun i => (pure i.size : Go.Sem Nat)) = _
    rw [hi]
    simpa [ep_bind, ep_pure] using h
theorem ep_part_one {t : TypeId} {cs : Array Value} {off : Nat} {v : Value} (h : tyA P t = some false) (hv : cs[off]? = some v) : evalPure P (part t cs off) = some v := by
  unfold part
  rw [ep_bind, ep_isAgg h]
  simp only [Option.bind_some, Bool.false_eq_true, if_false, hv, ep_pure]
theorem ep_part_agg {t : TypeId} {cs : Array Value} {off s : Nat} (h : tyA P t = some true) (hs : sizeOf? P t = some s) : evalPure P (part t cs off) = some (.agg (cs.extract off (off + s))) := by
  unfold part
  rw [ep_bind, ep_isAgg h]
  simp only [Option.bind_some, if_true]
  rw [ep_bind, ep_size hs]
  rfl
theorem ep_struct {d : Nat} {t : TypeId} {xs : Array Value} {fs : Array Field} (ht : P.underlying t = some (.struct fs)) (hp : P.stoodInHeld t = false)
    (hf : ∀ f ∈ fs.toList, ∃ v, evalPure P (part f.type xs f.offset) = some v ∧ evalPure P (Op.equalIn d f.type v v) = some true) : evalPure P (Op.equalIn (d + 1) t (.agg xs) (.agg xs)) = some true := by
  simp only [Op.equalIn]
  rw [ep_bind, ep_under ht]
  simp only [Option.bind_some]
  rw [ep_bind, ep_prog]
  simp only [Option.bind_some, hp, Bool.false_eq_true, if_false]
  rw [ep_bind, ← Array.forIn_toList]
  generalize fs.toList = l at hf
  have key : ∀ (l : List Field) (r0 : Option Bool × Unit), r0 = (none, ()) → (∀ f ∈ l, ∃ v, evalPure P (part f.type xs f.offset) = some v ∧ evalPure P (Op.equalIn d f.type v v) = some true) →
      evalPure P (forIn l r0 fun f (_ : Option Bool × Unit) => (if f.name ≠ "_" then do
        let a ← part f.type xs f.offset
        let b ← part f.type xs f.offset
        let c ← Op.equalIn d f.type a b
        if (!c) = true then pure (ForInStep.done (some false, ())) else pure (ForInStep.yield (none, ())) else pure (ForInStep.yield (none, ())) : Go.Sem (ForInStep (Option Bool × Unit)))) = some (none, ()) := by
    intro l
    induction l with
    | nil => intro r0 h0 _; subst h0; rfl
    | cons f l ih =>
      intro r0 h0 hf
      obtain ⟨v, h1, h2⟩ := hf f (by simp)
      have hl : ∀ f ∈ l, ∃ v, evalPure P (part f.type xs f.offset) = some v ∧ evalPure P (Op.equalIn d f.type v v) = some true := fun f hm => hf f (by simp [hm])
      rw [List.forIn_cons, ep_bind]
      split
      · rw [ep_bind, h1]
        simp only [Option.bind_some]
        rw [ep_bind, h1]
        simp only [Option.bind_some]
        rw [ep_bind, h2]
        simp only [Option.bind_some, Bool.not_true, Bool.false_eq_true, if_false, ep_pure]
        exact ih _ rfl hl
      · simp only [ep_pure, Option.bind_some]
        exact ih _ rfl hl
  rw [key l (none, ()) rfl hf]
  rfl
theorem ep_array {d : Nat} {t e : TypeId} {xs : Array Value} {len s : Nat} (ht : P.underlying t = some (.array len e)) (hs : sizeOf? P e = some s)
    (hf : ∀ i, i < len → ∃ v, evalPure P (part e xs (i * s)) = some v ∧ evalPure P (Op.equalIn d e v v) = some true) : evalPure P (Op.equalIn (d + 1) t (.agg xs) (.agg xs)) = some true := by
  simp only [Op.equalIn]
  rw [ep_bind, ep_under ht]
  simp only [Option.bind_some]
  rw [ep_bind, ep_size hs]
  simp only [Option.bind_some, Std.Legacy.Range.forIn_eq_forIn_range', Std.Legacy.Range.size, Nat.sub_zero, Nat.add_one_sub_one, Nat.div_one]
  rw [ep_bind]
  have key : ∀ (l : List Nat) (r0 : Option Bool × Unit), r0 = (none, ()) → (∀ i ∈ l, ∃ v, evalPure P (part e xs (i * s)) = some v ∧ evalPure P (Op.equalIn d e v v) = some true) →
      evalPure P (forIn l r0 fun i (_ : Option Bool × Unit) => (do
        let a ← part e xs (i * s)
        let b ← part e xs (i * s)
        let c ← Op.equalIn d e a b
        if (!c) = true then pure (ForInStep.done (some false, ())) else pure (ForInStep.yield (none, ())) : Go.Sem (ForInStep (Option Bool × Unit)))) = some (none, ()) := by
    intro l
    induction l with
    | nil => intro r0 h0 _; subst h0; rfl
    | cons i l ih =>
      intro r0 h0 hf
      obtain ⟨v, h1, h2⟩ := hf i (by simp)
      rw [List.forIn_cons, ep_bind, ep_bind, h1]
      simp only [Option.bind_some]
      rw [ep_bind, h1]
      simp only [Option.bind_some]
      rw [ep_bind, h2]
      simp only [Option.bind_some, Bool.not_true, Bool.false_eq_true, if_false, ep_pure]
      exact ih _ rfl (fun f hm => hf f (by simp [hm]))
  rw [key _ (none, ()) rfl (fun i hi => hf i (by have := List.mem_range'_1.1 hi; omega))]
  rfl
theorem eff_self {t : TypeId} {x y : Operand} {a : Array Value} {g : Nat → Option Blk} (h1 : eqArr P t a a g = none) (h2 : plainV (.agg a) = true) (h3 : P.eqGuardType P.depth t = false) (h4 : evalPure P (Op.equalIn 10000 t (.agg a) (.agg a)) = some true) :
    effBin P .eql t x y (.agg a) (.agg a) g = ret (.bool true) := by
  unfold effBin
  simp only [h1, h2, Bool.and_self, if_true]
  have hg : evalPure P (eqGuard .eql t x y (.agg a) (.agg a)) = some () := by
    unfold eqGuard
    simp only [Bool.not_true, Bool.false_eq_true, if_false]
    rw [ep_bind, ep_prog]
    simp only [Option.bind_some]
    rw [ep_bind, ep_prog]
    simp only [Option.bind_some, h3, Bool.not_false, if_true]
    rfl
  rw [ep_bind, hg]
  simp only [Option.bind_some, binOp]
  rw [ep_bind]
  have : evalPure P (Op.equal t (.agg a) (.agg a)) = some true := h4
  rw [this]
  rfl
theorem ep_int2 {d : Nat} {t : TypeId} {k k' : IntKind} {a b : Int} (h : P.underlying t = some (.int k')) : evalPure P (Op.equalIn (d + 1) t (.int k a) (.int k b)) = some (a == b) := by
  simp only [Op.equalIn]
  rw [ep_bind, ep_under h]
  simp only [Option.bind_some, if_true, ep_pure]
theorem ep_array2 {d : Nat} {t e : TypeId} {xs ys : Array Value} {len s : Nat} (c : Nat → Bool) (ht : P.underlying t = some (.array len e)) (hs : sizeOf? P e = some s)
    (hf : ∀ i, i < len → ∃ v u, evalPure P (part e xs (i * s)) = some v ∧ evalPure P (part e ys (i * s)) = some u ∧ evalPure P (Op.equalIn d e v u) = some (c i)) : evalPure P (Op.equalIn (d + 1) t (.agg xs) (.agg ys)) = some ((List.range' 0 len).all c) := by
  simp only [Op.equalIn]
  rw [ep_bind, ep_under ht]
  simp only [Option.bind_some]
  rw [ep_bind, ep_size hs]
  simp only [Option.bind_some, Std.Legacy.Range.forIn_eq_forIn_range', Std.Legacy.Range.size, Nat.sub_zero, Nat.add_one_sub_one, Nat.div_one]
  rw [ep_bind]
  have key : ∀ (l : List Nat) (r0 : Option Bool × Unit), r0 = (none, ()) → (∀ i ∈ l, ∃ v u, evalPure P (part e xs (i * s)) = some v ∧ evalPure P (part e ys (i * s)) = some u ∧ evalPure P (Op.equalIn d e v u) = some (c i)) →
      evalPure P (forIn l r0 fun i (_ : Option Bool × Unit) => (do
        let a ← part e xs (i * s)
        let b ← part e ys (i * s)
        let c ← Op.equalIn d e a b
        if (!c) = true then pure (ForInStep.done (some false, ())) else pure (ForInStep.yield (none, ())) : Go.Sem (ForInStep (Option Bool × Unit)))) = some (if l.all c then (none, ()) else (some false, ())) := by
    intro l
    induction l with
    | nil => intro r0 h0 _; subst h0; rfl
    | cons i l ih =>
      intro r0 h0 hf
      obtain ⟨v, u, h1, h2, h3⟩ := hf i (by simp)
      rw [List.forIn_cons, ep_bind, ep_bind, h1]
      simp only [Option.bind_some]
      rw [ep_bind, h2]
      simp only [Option.bind_some]
      rw [ep_bind, h3]
      cases hc : c i with
      | true =>
        simp only [Option.bind_some, Bool.not_true, Bool.false_eq_true, if_false, ep_pure, List.all_cons, hc, Bool.true_and]
        exact ih _ rfl (fun f hm => hf f (by simp [hm]))
      | false => simp only [Option.bind_some, Bool.not_false, if_true, ep_pure, List.all_cons, hc, Bool.false_and, Bool.false_eq_true, if_false]
  rw [key _ (none, ()) rfl (fun i hi => hf i (by have := List.mem_range'_1.1 hi; omega))]
  cases (List.range' 0 len).all c <;> rfl
theorem ep_struct2 {d : Nat} {t : TypeId} {xs ys : Array Value} {fs : Array Field} (c : Field → Bool) (ht : P.underlying t = some (.struct fs)) (hp : P.stoodInHeld t = false) (hn : ∀ f ∈ fs.toList, f.name ≠ "_")
    (hf : ∀ f ∈ fs.toList, ∃ v u, evalPure P (part f.type xs f.offset) = some v ∧ evalPure P (part f.type ys f.offset) = some u ∧ evalPure P (Op.equalIn d f.type v u) = some (c f)) : evalPure P (Op.equalIn (d + 1) t (.agg xs) (.agg ys)) = some (fs.toList.all c) := by
  simp only [Op.equalIn]
  rw [ep_bind, ep_under ht]
  simp only [Option.bind_some]
  rw [ep_bind, ep_prog]
  simp only [Option.bind_some, hp, Bool.false_eq_true, if_false]
  rw [ep_bind, ← Array.forIn_toList]
  generalize fs.toList = l at hf hn
  have key : ∀ (l : List Field) (r0 : Option Bool × Unit), r0 = (none, ()) → (∀ f ∈ l, f.name ≠ "_") → (∀ f ∈ l, ∃ v u, evalPure P (part f.type xs f.offset) = some v ∧ evalPure P (part f.type ys f.offset) = some u ∧ evalPure P (Op.equalIn d f.type v u) = some (c f)) →
      evalPure P (forIn l r0 fun f (_ : Option Bool × Unit) => (if f.name ≠ "_" then do
        let a ← part f.type xs f.offset
        let b ← part f.type ys f.offset
        let c ← Op.equalIn d f.type a b
        if (!c) = true then pure (ForInStep.done (some false, ())) else pure (ForInStep.yield (none, ())) else pure (ForInStep.yield (none, ())) : Go.Sem (ForInStep (Option Bool × Unit)))) = some (if l.all c then (none, ()) else (some false, ())) := by
    intro l
    induction l with
    | nil => intro r0 h0 _ _; subst h0; rfl
    | cons f l ih =>
      intro r0 h0 hn hf
      obtain ⟨v, u, h1, h2, h3⟩ := hf f (by simp)
      rw [List.forIn_cons, ep_bind, if_pos (hn f (by simp)), ep_bind, h1]
      simp only [Option.bind_some]
      rw [ep_bind, h2]
      simp only [Option.bind_some]
      rw [ep_bind, h3]
      cases hc : c f with
      | true =>
        simp only [Option.bind_some, Bool.not_true, Bool.false_eq_true, if_false, ep_pure, List.all_cons, hc, Bool.true_and]
        exact ih _ rfl (fun f hm => hn f (by simp [hm])) (fun f hm => hf f (by simp [hm]))
      | false => simp only [Option.bind_some, Bool.not_false, if_true, ep_pure, List.all_cons, hc, Bool.false_and, Bool.false_eq_true, if_false]
  rw [key l (none, ()) rfl hn hf]
  cases l.all c <;> rfl
theorem eff_eq2 {t : TypeId} {x y : Operand} {a b : Array Value} {g : Nat → Option Blk} {r : Bool} (h1 : eqArr P t a b g = none) (h2 : plainV (.agg a) = true) (h2' : plainV (.agg b) = true) (h3 : P.eqGuardType P.depth t = false) (h4 : evalPure P (Op.equalIn 10000 t (.agg a) (.agg b)) = some r) :
    effBin P .eql t x y (.agg a) (.agg b) g = ret (.bool r) ∧ effBin P .neq t x y (.agg a) (.agg b) g = ret (.bool !r) := by
  have hg : ∀ op, op = .eql ∨ op = .neq → evalPure P (eqGuard op t x y (.agg a) (.agg b)) = some () := by
    intro op hop
    unfold eqGuard
    rcases hop with rfl | rfl <;> (
      simp only [Bool.not_true, Bool.false_eq_true, if_false]
      rw [ep_bind, ep_prog]
      simp only [Option.bind_some]
      rw [ep_bind, ep_prog]
      simp only [Option.bind_some, h3, Bool.not_false, if_true]
      rfl)
  have : evalPure P (Op.equal t (.agg a) (.agg b)) = some r := h4
  constructor
  · unfold effBin
    simp only [h1, h2, h2', Bool.and_self, if_true]
    rw [ep_bind, hg .eql (.inl rfl)]
    simp only [Option.bind_some, binOp]
    rw [ep_bind, this]
    rfl
  · unfold effBin
    simp only [h1, h2, h2', Bool.and_self, if_true]
    rw [ep_bind, hg .neq (.inr rfl)]
    simp only [Option.bind_some, binOp]
    rw [ep_bind, this]
    rfl
end Go.AM
end
section
/- Rows of structs of three numbers as arguments. Conditions: as the rule says. -/
namespace Go.AM
open Go.ChangeShapes Go.WideShapes
variable {P : Program} {W : World}
/-- a row of triples, as the model reads it. -/
theorem rows3_read {H : Type} {enc : TypeId × Value → H} {base fuel : Nat} {spare : Nat → Bool} {held : Bool} {t e : TypeId} {f0 f1 f2 : Field} {k : IntKind} {cs : List Value} {d : DataW H × List MemPlace} (ht : P.underlying t = some (.slice e)) (he : P.underlying e = some (.struct #[f0, f1, f2])) (hc : P.cellsOf e = 3)
    (o : f0.offset = 0 ∧ f1.offset = 1 ∧ f2.offset = 2) (u : P.underlying f0.type = some (.int k) ∧ P.underlying f1.type = some (.int k) ∧ P.underlying f2.type = some (.int k)) (c : P.cellsOf f0.type = 1 ∧ P.cellsOf f1.type = 1 ∧ P.cellsOf f2.type = 1)
    (hd : DataW.trod enc P W base spare held fuel t cs = some d) :
    cs = [.slice none 0 0] ∨ ∃ a len cap, cs = [.slice (some a) len cap] ∧ (len ≤ maxLen ∧ len ≤ cap) ∧ ∃ f : Nat → Int, (∀ i, i < 3 * len → (Lit.int k (f i)).wf = true) ∧ (0 < len → ∃ b off cs el fr, a = ⟨b, off, none⟩ ∧ W.heap[b]? = some (.cells cs el fr) ∧ off + 3 * len ≤ cs.size ∧ ∀ i, i < 3 * len → cs[off + i]? = some (.int k (f i))) := by
  rcases DataW.trod_slice ht hd with ⟨h, _⟩ | ⟨a, len0, cap0, elems, rest, n, _, h, _, _, hlc, hcm, hlen, hel, _⟩
  · exact .inl h
  · right
    have key : ∀ i, i < 3 * len0 → ∃ m, W.cell? (a.add i) = some (.int k m) ∧ (Lit.int k m).wf = true := by
      intro i hi
      have h1 := hel (i / 3) (by omega)
      rw [hc] at h1
      obtain ⟨x, hx⟩ : ∃ x, elems[i / 3]? = some x := ⟨elems[i / 3]'(by omega), List.getElem?_eq_getElem _⟩
      rw [hx] at h1
      obtain ⟨cs, g1, g2⟩ := Option.bind_eq_some_iff.1 h1
      obtain ⟨y0, y1, y2, n', _, g3, g4, g5, g6⟩ := Go.Deep.trod_struct3 he g2
      rw [hc] at g3
      rw [o.1, c.1] at g4
      rw [o.2.1, c.2.1] at g5
      rw [o.2.2, c.2.2] at g6
      obtain ⟨m0, r0, _, w0⟩ := DataW.trod_int u.1 g4
      obtain ⟨m1, r1, _, w1⟩ := DataW.trod_int u.2.1 g5
      obtain ⟨m2, r2, _, w2⟩ := DataW.trod_int u.2.2 g6
      obtain ⟨_, _, g7⟩ := World.cells?_some g1
      have hcs : cs = [.int k m0, .int k m1, .int k m2] := by
        match cs, g3 with
        | [x0, x1, x2], _ =>
          simp at r0 r1 r2
          rw [r0, r1, r2]
      have hadd : ∀ j, (a.add (i / 3 * 3)).add j = a.add (i / 3 * 3 + j) := fun j => Go.Deep.add_add _ _ _
      have hm : i = i / 3 * 3 + 0 ∨ i = i / 3 * 3 + 1 ∨ i = i / 3 * 3 + 2 := by omega
      rcases hm with e | e | e
      · refine ⟨m0, ?_, w0⟩
        have := g7 0 (by omega)
        rw [hadd, ← e, hcs] at this
        exact this
      · refine ⟨m1, ?_, w1⟩
        have := g7 1 (by omega)
        rw [hadd, ← e, hcs] at this
        exact this
      · refine ⟨m2, ?_, w2⟩
        have := g7 2 (by omega)
        rw [hadd, ← e, hcs] at this
        exact this
    obtain ⟨f, hfn⟩ : ∃ f : Nat → Int, ∀ i, i < 3 * len0 → W.cell? (a.add i) = some (.int k (f i)) ∧ (Lit.int k (f i)).wf = true := by
      refine ⟨fun i => if h : i < 3 * len0 then (key i h).choose else 0, fun i hi => ?_⟩
      simp only [hi, dif_pos]
      exact (key i hi).choose_spec
    refine ⟨a, len0, cap0, h, ⟨Nat.le_trans hlc hcm, hlc⟩, f, fun i hi => (hfn i hi).2, fun hpos => ?_⟩
    obtain ⟨b, off, spot⟩ := a
    have hspot : spot = none := by simpa [Addr.add] using World.cell?_spot (hfn 0 (by omega)).1
    subst hspot
    have key2 : ∀ i, i < 3 * len0 → W.cell? ⟨b, off + i, none⟩ = some (.int k (f i)) := by
      intro i h
      have := (hfn i h).1
      rwa [add_plain] at this
    have hcell : ∃ cs el fr, W.heap[b]? = some (.cells cs el fr) := by
      have := key2 0 (by omega)
      unfold World.cell? at this
      split at this <;> try (simp at this; done)
      rename_i cs el fr hh
      exact ⟨cs, el, fr, hh⟩
    obtain ⟨cs, el, fr, hcs⟩ := hcell
    have key3 : ∀ i, i < 3 * len0 → cs[off + i]? = some (.int k (f i)) := by
      intro i h
      have := key2 i h
      simpa [World.cell?, hcs] using this
    refine ⟨b, off, cs, el, fr, rfl, hcs, ?_, key3⟩
    have := key3 (3 * len0 - 1) (by omega)
    have := (Array.getElem?_eq_some_iff.1 this).1
    omega
/-- .. as a block of its own, the i-th one. -/
theorem rows3_block {H : Type} {enc : TypeId × Value → H} {base fuel : Nat} {spare : Nat → Bool} {held : Bool} {t e : TypeId} {f0 f1 f2 : Field} {k : IntKind} {cs : List Value} {d : DataW H × List MemPlace} (i : Nat) (ht : P.underlying t = some (.slice e)) (he : P.underlying e = some (.struct #[f0, f1, f2])) (hc : P.cellsOf e = 3)
    (o : f0.offset = 0 ∧ f1.offset = 1 ∧ f2.offset = 2) (u : P.underlying f0.type = some (.int k) ∧ P.underlying f1.type = some (.int k) ∧ P.underlying f2.type = some (.int k)) (c : P.cellsOf f0.type = 1 ∧ P.cellsOf f1.type = 1 ∧ P.cellsOf f2.type = 1)
    (hd : DataW.trod enc P W base spare held fuel t cs = some d) :
    ∃ (v : Value) (a : Option Addr) (n : Nat) (l : List Int) (cp : Nat) (s : AM.Stat) (x : Blk), cs = [v] ∧ l.length = 3 * n ∧ (n ≤ maxLen ∧ n ≤ cp) ∧ (∀ y ∈ l, (Lit.int k y).wf = true) ∧ (n = 0 ∨ (a = some ⟨i, 0, none⟩ ∧ x = cellsB (l.map (.int k ·)) .ro)) ∧ (∀ m : Mp, m i = s → VRel m (.slice a n cp) v) ∧ (∀ m, BRel m W s (some x)) ∧ (∀ l1, s = .live l1 → roB (some x) = true ∧ l1.rw = false) := by
  rcases rows3_read ht he hc o u c hd with rfl | ⟨a, len, cap, rfl, hm, f, hw, hf⟩
  · exact ⟨_, none, 0, [], 0, .dead, .dead, rfl, rfl, ⟨Nat.zero_le _, Nat.zero_le _⟩, fun _ h => by simp at h, .inl rfl, fun m _ => .sliceNil 0 0, fun _ => trivial, fun _ h => by cases h⟩
  · by_cases hl : 0 < len
    · obtain ⟨b, off, cs, el, fr, rfl, h1, h2, h3⟩ := hf hl
      have hlen : ((List.range (3 * len)).map f).length = 3 * len := by simp
      refine ⟨_, some ⟨i, 0, none⟩, len, (List.range (3 * len)).map f, cap, .live ⟨b, off, 0, 3 * len, cs.size, false⟩, _, rfl, hlen, hm, fun y hy => ?_, .inr ⟨rfl, rfl⟩, fun m hm => ?_, fun m => ?_, fun l1 hl1 => ⟨rfl, by cases hl1; rfl⟩⟩
      · obtain ⟨j, hj, rfl⟩ := List.mem_map.1 hy
        exact hw j (by simpa using hj)
      · exact .slice i 0 len cap cap _ hm (.inl rfl)
      · refine ⟨by simp, cs, el, fr, h1, rfl, by simpa using h2, ⟨rfl, rfl⟩, fun j hj => ?_⟩
        have hj : j < 3 * len := by simpa using hj
        refine ⟨.int k (f j), .int k (f j), ?_, h3 j hj, rfl, .int k (f j)⟩
        rw [get_ofList]
        simp [hj]
    · have : len = 0 := by omega
      subst this
      exact ⟨_, some ⟨i, 0, none⟩, 0, [], cap, .dead, .dead, rfl, rfl, ⟨Nat.zero_le _, Nat.zero_le _⟩, fun _ h => by simp at h, .inl rfl, fun m hm => .sliceDead _ _ _ _ _ hm, fun _ => trivial, fun _ h => by cases h⟩
end Go.AM
end
