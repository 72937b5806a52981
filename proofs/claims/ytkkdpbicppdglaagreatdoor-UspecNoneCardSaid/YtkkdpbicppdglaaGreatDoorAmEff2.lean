/- What each operation does: new memory, addresses. -/
import Derived.Test.YtkkdpbicppdglaaGreatDoorAmEff1
namespace Go.AM
variable {P : Program} {m : Mp} {h : Heap} {N : Nat} {F : Nat → Option Blk} {w : World}

/- ## new memory -/
theorem newRow_does {el : TypeId} {vs : List Value} {c : Array Value} (hr : HRel m (mix h N F) w) (hwf : HWf h) (hN : h.nx < N) (hv : VRels m vs c.toList) (h1 : vs.all Value.oneCell' = true)
    {s : Sem Value} {V : Addr → Value} {v : Value} (hs : s.run P w = .ok (V ⟨w.heap.size, 0, none⟩) { w with heap := w.heap.push (.cells c el) })
    (hV : ∀ m' l, Ext m m' → m' h.nx = .live l → l.cb = w.heap.size → l.sh = 0 → VRel m' v (V ⟨w.heap.size, 0, none⟩)) : DoesV P s ⟨v, [], [mkCells vs]⟩ h N F m w := by
  obtain ⟨m', e1, e2, e3, e4⟩ := nw_rel (v := v) (l := ⟨w.heap.size, 0, 0, vs.length, c.size, true⟩) (x := mkCells vs) (o := .cells c el) w.drawn hr hwf hN rfl rfl (fun m' he _ => new_exact hv h1 he)
  exact ⟨_, m', _, hs, hV m' _ e1 e2 rfl rfl, e3, e4⟩
theorem newRow_doesX {el : TypeId} {vs : List Value} {xs : Trie Value} {c : Array Value} (hx : ∀ i, i < vs.length → xs.get i = vs[i]?) (hr : HRel m (mix h N F) w) (hwf : HWf h) (hN : h.nx < N) (hv : VRels m vs c.toList) (h1 : vs.all Value.oneCell' = true)
    {s : Sem Value} {V : Addr → Value} {v : Value} (hs : s.run P w = .ok (V ⟨w.heap.size, 0, none⟩) { w with heap := w.heap.push (.cells c el) })
    (hV : ∀ m' l, Ext m m' → m' h.nx = .live l → l.cb = w.heap.size → l.sh = 0 → VRel m' v (V ⟨w.heap.size, 0, none⟩)) : DoesV P s ⟨v, [], [.cells xs vs.length .exact]⟩ h N F m w := by
  have hl : c.size = vs.length := by simpa using hv.length
  obtain ⟨m', e1, e2, e3, e4⟩ := nw_rel (v := v) (l := ⟨w.heap.size, 0, 0, vs.length, c.size, true⟩) (x := .cells xs vs.length .exact) (o := .cells c el) w.drawn hr hwf hN rfl rfl (fun m' he _ => by
    refine new_cellsX hx (k := .exact) (fr := (0, 0)) (by omega) ?_ h1 (And.intro rfl (And.intro rfl (And.intro hl rfl))) he
    rw [List.take_of_length_le (by simp; omega)]
    exact hv)
  exact ⟨_, m', _, hs, hV m' _ e1 e2 rfl rfl, e3, e4⟩
theorem newRow_doesK {el : TypeId} {vs : List Value} {c : Array Value} {k : Kind} (hr : HRel m (mix h N F) w) (hwf : HWf h) (hN : h.nx < N) (hv : VRels m vs c.toList) (h1 : vs.all Value.oneCell' = true) (hk : k = .exact ∨ k = .bld el)
    {s : Sem Value} {V : Addr → Value} {v : Value} (hs : s.run P w = .ok (V ⟨w.heap.size, 0, none⟩) { w with heap := w.heap.push (.cells c el) })
    (hV : ∀ m' l, Ext m m' → m' h.nx = .live l → l.cb = w.heap.size → l.sh = 0 → VRel m' v (V ⟨w.heap.size, 0, none⟩)) : DoesV P s ⟨v, [], [.cells (ofList vs) vs.length k]⟩ h N F m w := by
  have hl : c.size = vs.length := by simpa using hv.length
  obtain ⟨m', e1, e2, e3, e4⟩ := nw_rel (v := v) (l := ⟨w.heap.size, 0, 0, vs.length, c.size, true⟩) (x := .cells (ofList vs) vs.length k) (o := .cells c el) w.drawn hr hwf hN rfl rfl (fun m' he _ => by
    refine new_cells (k := k) (fr := (0, 0)) (by omega) ?_ h1 ?_ he
    · rw [List.take_of_length_le (by simp; omega)]
      exact hv
    · rcases hk with rfl | rfl
      · exact And.intro rfl (And.intro rfl (And.intro hl rfl))
      · exact And.intro rfl (And.intro rfl (And.intro hl (And.intro rfl rfl))))
  exact ⟨_, m', _, hs, hV m' _ e1 e2 rfl rfl, e3, e4⟩
theorem run_newRow (el : TypeId) (c : Array Value) (w : World) : (newRow el c).run P w = .ok ⟨w.heap.size, 0, none⟩ { w with heap := w.heap.push (.cells c el) } := by
  simp [newRow]
theorem alloc_does {e : TypeId} {f : Eff} (hr : HRel m (mix h N F) w) (hwf : HWf h) (hN : (h.apply f).nx ≤ N) (he : effAlloc P e h.nx = some f) : DoesV P (Instr.alloc e true (.tuple #[])) f h N F m w := by
  unfold effAlloc at he
  split at he <;> try (simp at he; done)
  rename_i z hz
  cases he
  obtain ⟨zv, g1, g2, g3⟩ := zeroL_spec hz
  refine newRow_doesK (c := zv.cells) (el := e) (V := fun a => .pointer (some a)) hr hwf hN (g2.symm ▸ plainCells_rel g3) (plainCells_one g3) (by cases bldL z <;> simp) ?_ ?_
  · simp only [Instr.alloc, Sem.run_bind, rz g1, Result.andThen_ok, newVar, run_newRow, Sem.run_pure]
  · intro m' l _ hl hc hs
    have := VRel.ptr h.nx 0 l hl
    rwa [hc, hs] at this
theorem box_does {t : TypeId} {x x' : Value} {f : Eff} (hr : HRel m (mix h N F) w) (hwf : HWf h) (hN : (h.apply f).nx ≤ N) (hx : VRel m x x') (he : effBox x h.nx = some f) : DoesV P (Instr.box t x') f h N F m w := by
  unfold effBox at he
  split at he <;> try (simp at he; done)
  rename_i z hz
  cases he
  obtain ⟨q1, q2, _⟩ := cellsOf_rel hx hz
  refine newRow_does (c := x'.cells) (el := t) (V := fun a => .pointer (some a)) hr hwf hN q1 q2 ?_ ?_
  · simp only [Instr.box, Sem.run_bind, Result.andThen_ok, newVar, run_newRow, Sem.run_pure]
  · intro m' l _ hl hc hs
    have := VRel.ptr h.nx 0 l hl
    rwa [hc, hs] at this

theorem zeros_rel {z : List Value} (zc : Array Value) (hz : zc.toList = z) (hp : z.all plainCell = true) (c n : Nat) (hn : n = c * z.length) :
    VRels m (repeatL z c) ((Array.range n).map (zc[· % zc.size]!)).toList ∧ (repeatL z c).all Value.oneCell' = true := by
  subst hz
  have hlen : ∀ {i : Nat} {v : Value}, (repeatL zc.toList c)[i]? = some v → plainCell v = true ∧ (((Array.range n).map (zc[· % zc.size]!)).toList)[i]? = some v := by
    intro i v hv
    have hi : i < c * zc.toList.length := by
      rcases Nat.lt_or_ge i (c * zc.toList.length) with h' | h'
      · exact h'
      · rw [List.getElem?_eq_none (by rw [length_repeatL]; exact h')] at hv; cases hv
    have hz0 : 0 < zc.toList.length := by
      rcases Nat.eq_zero_or_pos zc.toList.length with h' | h'
      · rw [h'] at hi; simp at hi
      · exact h'
    rw [getElem_repeatL _ _ _ hi] at hv
    have hm : i % zc.toList.length < zc.toList.length := Nat.mod_lt _ hz0
    have hv' := List.getElem?_eq_some_iff.1 hv
    refine ⟨(List.all_eq_true.1 hp) v (List.mem_of_getElem? hv), ?_⟩
    have hin : i < n := by omega
    simp only [Array.toList_map, Array.toList_range, List.getElem?_map, List.getElem?_range hin, Option.map_some]
    congr 1
    simp only [Array.length_toList] at hv hm hv'
    obtain ⟨_, hv2⟩ := hv'
    rw [getElem!_pos _ _ (by simpa using hm)]
    simpa using hv2
  constructor
  · refine VRels.of_get (by simp [length_repeatL, hn]) ?_
    intro i v v' h1 h2
    obtain ⟨g1, g2⟩ := hlen h1
    rw [g2] at h2; cases h2
    exact (plainCell_rel g1).1
  · rw [List.all_eq_true]
    intro v hv
    obtain ⟨i, hi⟩ := List.mem_iff_getElem?.1 hv
    exact (plainCell_rel (m := m) (hlen hi).1).2

theorem makeSlice_does {t : TypeId} {a a' b b' : Value} {f : Eff} (hr : HRel m (mix h N F) w) (hwf : HWf h) (hN : (h.apply f).nx ≤ N) (ha : VRel m a a') (hb : VRel m b b') (he : effMakeSlice P t a b h.nx = some f) :
    DoesV P (Instr.makeSlice t a' b') f h N F m w := by
  unfold effMakeSlice at he
  split at he <;> try (simp at he; done)
  rename_i elem hu
  split at he <;> try (simp at he; done)
  rename_i k l
  split at he <;> try (simp at he; done)
  rename_i k' c
  split at he <;> try (simp at he; done)
  rename_i i z hi hz
  cases ha
  cases hb
  cases hc : (Nat.ble l c && Nat.ble (c * (i.bytes + i.size + 1)) (2 ^ 40) && Nat.beq z.length i.size) with
  | false => simp [hc] at he
  | true =>
    rw [hc] at he
    simp only [cond_true, Option.some.injEq] at he
    subst he
    simp only [Bool.and_eq_true] at hc
    obtain ⟨⟨h1, h2⟩, h3⟩ := hc
    have h1 := Nat.le_of_ble_eq_true h1
    have h2 := Nat.le_of_ble_eq_true h2
    have h3 := Nat.eq_of_beq_eq_true h3
    obtain ⟨zv, g1, g2, g3⟩ := zeroL_spec hz
    have hcb : c ≤ c * (i.bytes + i.size + 1) := Nat.le_mul_of_pos_right c (by omega)
    have hbb : c * i.bytes ≤ c * (i.bytes + i.size + 1) := Nat.mul_le_mul_left c (by omega)
    have wl : IntKind.i64.wrap (Int.ofNat l) = (l : Int) := wrap_i64 (by simp) (by simp only [Int.ofNat_eq_natCast]; omega)
    have wc : IntKind.i64.wrap (Int.ofNat c) = (c : Int) := wrap_i64 (by simp) (by simp only [Int.ofNat_eq_natCast]; omega)
    have hz2 := zeros_rel (m := m) zv.cells g2 g3 c (c * i.size) (by rw [h3])
    have hnot : ¬ ((decide ((c : Int) < 0) || decide ((i.bytes : Int) * c > 2 ^ 48) || decide ((l : Int) < 0) || decide ((l : Int) > c)) = true) := by
      simp only [Bool.or_eq_true, decide_eq_true_eq, not_or]
      refine ⟨⟨⟨by omega, ?_⟩, by omega⟩, by omega⟩
      have : ((c * i.bytes : Nat) : Int) ≤ 2 ^ 40 := by omega
      rw [Int.natCast_mul] at this
      rw [Int.mul_comm]
      omega
    by_cases hn0 : c * i.size = 0
    · have hrl : repeatL z c = [] := List.eq_nil_of_length_eq_zero (by rw [length_repeatL, h3]; exact hn0)
      obtain ⟨xs, hx1, hx2⟩ := mkRow_get z c (Nat.le_trans hcb h2)
      rw [hx1, hrl]
      rw [hrl] at hx2
      refine newRow_doesX hx2 (c := #[]) (el := elem) (V := fun a => .slice (some a) l c) (vs := []) hr hwf hN .nil rfl ?_ ?_
      · simp only [Instr.makeSlice, Sem.run_bind, ru hu, Result.andThen_ok, asInt, asIntOf, Sem.run_pure, ri hi, wl, wc]
        rw [if_neg hnot]
        simp only [Sem.run_bind, Sem.run_pure, run_askRoom, Result.andThen_ok, Int.toNat_natCast, rs hi, hn0, if_true]
        rw [show ((Array.range 0).map fun x => (#[] : Array Value)[x % (#[] : Array Value).size]!) = #[] by simp]
        simp only [run_newRow, Result.andThen_ok]
      · intro m' lo _ hl hc' hs'
        have := VRel.slice h.nx 0 l c c lo hl (.inl rfl)
        rwa [hc', hs'] at this
    · obtain ⟨xs, hx1, hx2⟩ := mkRow_get z c (Nat.le_trans hcb h2)
      rw [hx1]
      refine newRow_doesX hx2 (c := (Array.range (c * i.size)).map (zv.cells[· % zv.cells.size]!)) (el := elem) (V := fun a => .slice (some a) l c) hr hwf hN hz2.1 hz2.2 ?_ ?_
      · simp only [Instr.makeSlice, Sem.run_bind, ru hu, Result.andThen_ok, asInt, asIntOf, Sem.run_pure, ri hi, wl, wc]
        rw [if_neg hnot]
        simp only [Sem.run_bind, Sem.run_pure, run_askRoom, Result.andThen_ok, Int.toNat_natCast, rs hi, hn0, if_false, rz g1, run_newRow]
      · intro m' lo _ hl hc' hs'
        have := VRel.slice h.nx 0 l c c lo hl (.inl rfl)
        rwa [hc', hs'] at this

theorem makeMap_does {t : TypeId} {x x' : Option Value} {f : Eff} (hr : HRel m (mix h N F) w) (hwf : HWf h) (hN : (h.apply f).nx ≤ N)
    (hx : (x = none ∧ x' = none) ∨ ∃ v v', x = some v ∧ x' = some v' ∧ VRel m v v') (he : effMakeMap P t x h.nx = some f) : DoesV P (Instr.makeMap t x') f h N F m w := by
  have key : ∀ {s : Sem Value}, s.run P w = .ok (.map (some w.heap.size)) { w with heap := w.heap.push (.map #[] 0) } → (h.apply ⟨.map (some h.nx), [], [.map [] 0]⟩).nx ≤ N → DoesV P s ⟨.map (some h.nx), [], [.map [] 0]⟩ h N F m w := by
    intro s hs hN
    obtain ⟨m', e1, e2, e3, e4⟩ := nw_rel (v := .map (some h.nx)) (l := ⟨w.heap.size, 0, 0, 0, 0, true⟩) (x := .map [] 0) (o := .map #[] 0) w.drawn hr hwf hN rfl rfl (fun m' _ _ => ⟨rfl, #[], by simp, trivial⟩)
    exact ⟨_, m', _, hs, VRel.map h.nx _ e2, e3, e4⟩
  unfold effMakeMap at he
  split at he
  · cases he
    rcases hx with ⟨_, rfl⟩ | ⟨v, v', h1, _⟩
    · exact key (by simp [Instr.makeMap]) hN
    · simp at h1
  · split at he <;> try (simp at he; done)
    rename_i hu
    cases he
    rcases hx with ⟨h1, _⟩ | ⟨v, v', h1, rfl, h3⟩
    · simp at h1
    · cases h1; cases h3
      exact key (by simp [Instr.makeMap, ru hu, asInt, asIntOf]) hN
  · simp at he

/- ## building -/
theorem fold_over (off : Nat) : ∀ (l : List Value) (c : Array Value) (k : Nat), (l.zipIdx k).foldl (fun cs (x : Value × Nat) => cs.setIfInBounds (off + x.2) x.1) c = overA c (off + k) l := by
  intro l
  induction l with
  | nil => intro c k; rfl
  | cons v r ih => intro c k; simp only [List.zipIdx_cons, List.foldl_cons, overA]; rw [ih]; rfl
theorem fold_overA (off : Nat) (vs : Array Value) (c : Array Value) : (vs.zipIdx.foldl (fun cs (x : Value × Nat) => cs.setIfInBounds (off + x.2) x.1) c) = overA c off vs.toList := by
  rw [← Array.foldl_toList, Array.toList_zipIdx, fold_over]; rfl
theorem overL_get (cs vs : List Value) (off i : Nat) (h : off + vs.length ≤ cs.length) : (overL cs off vs)[i]? = if off ≤ i ∧ i < off + vs.length then vs[i - off]? else cs[i]? := by
  unfold overL
  have h1 : (cs.take off).length = off := by simp; omega
  by_cases e : off ≤ i ∧ i < off + vs.length
  · rw [if_pos e, List.append_assoc, List.getElem?_append_right (by omega), List.getElem?_append_left (by omega), h1]
  · rw [if_neg e]
    by_cases e2 : i < off
    · rw [List.append_assoc, List.getElem?_append_left (by omega), List.getElem?_take, if_pos e2]
    · rw [List.getElem?_append_right (by simp; omega), List.getElem?_drop]
      congr 1
      simp; omega
theorem overL_length (cs vs : List Value) (off : Nat) (h : off + vs.length ≤ cs.length) : (overL cs off vs).length = cs.length := by
  unfold overL; simp; omega
theorem over_rel {cs vs vs' : List Value} {c : Array Value} {off : Nat} (hc : VRels m cs c.toList) (hv : VRels m vs vs') (h : off + vs.length ≤ cs.length)
    (h1 : cs.all Value.oneCell' = true) (h2 : vs.all Value.oneCell' = true) : VRels m (overL cs off vs) (overA c off vs').toList ∧ (overL cs off vs).all Value.oneCell' = true := by
  have hl := hv.length
  have hcl := hc.length
  simp only [Array.length_toList] at hcl
  constructor
  · refine VRels.of_get (by rw [overL_length _ _ _ h]; simp [size_overA, hcl]) ?_
    intro i v v' a1 a2
    rw [overL_get _ _ _ _ h] at a1
    rw [Array.getElem?_toList, get_overA _ _ _ _ (by omega)] at a2
    by_cases e : off ≤ i ∧ i < off + vs.length
    · rw [if_pos e] at a1
      rw [if_pos (by omega)] at a2
      obtain ⟨u, b1, b2⟩ := hv.get a1
      rw [b1] at a2; cases a2; exact b2
    · rw [if_neg e] at a1
      rw [if_neg (by omega)] at a2
      obtain ⟨u, b1, b2⟩ := hc.get a1
      rw [Array.getElem?_toList] at b1
      rw [b1] at a2; cases a2; exact b2
  · unfold overL
    rw [List.all_eq_true] at *
    intro v hv
    simp only [List.mem_append] at hv
    rcases hv with (h' | h') | h'
    · exact h1 v (List.mem_of_mem_take h')
    · exact h2 v h'
    · exact h1 v (List.mem_of_mem_drop h')

theorem fill_rel {ρ ρ' : Operand → Value} {place place' : Nat → Option (Nat × Nat)} (hp : ∀ i, place' i = place i) : ∀ (ps : List (Nat × Operand)) (cs : List Value) (c : Array Value) (r : List Value),
    (∀ x ∈ ps, VRel m (ρ x.2) (ρ' x.2)) → VRels m cs c.toList → cs.all Value.oneCell' = true → fillL place cs (ps.map fun x => (x.1, ρ x.2)) = some r →
    ∃ r', Instr.fill place' c (ps.map fun x => (x.1, ρ' x.2)) = some r' ∧ VRels m r r'.toList ∧ r.all Value.oneCell' = true := by
  intro ps
  induction ps with
  | nil => intro cs c r _ hc h1 hf; simp only [List.map_nil, fillL, Option.some.injEq] at hf; subst hf; exact ⟨c, rfl, hc, h1⟩
  | cons x ps ih =>
    intro cs c r hρ hc h1 hf
    simp only [List.map_cons, fillL] at hf
    split at hf <;> try (simp at hf; done)
    rename_i off size vs hpl hvs
    split at hf <;> try (simp at hf; done)
    rename_i hb
    obtain ⟨hb1, hb2⟩ := hb
    obtain ⟨q1, q2, _⟩ := cellsOf_rel (hρ x (by simp)) hvs
    have hcl := hc.length
    simp only [Array.length_toList] at hcl
    have hvl : (ρ' x.2).cells.size = size := by have := q1.length; simp at this; omega
    obtain ⟨o1, o2⟩ := over_rel hc q1 (off := off) (by omega) h1 q2
    obtain ⟨r', f1, f2, f3⟩ := ih (overL cs off vs) (overA c off (ρ' x.2).cells.toList) r (fun y hy => hρ y (by simp [hy])) o1 o2 hf
    refine ⟨r', ?_, f2, f3⟩
    simp only [List.map_cons, Instr.fill, hp, hpl, hvl]
    rw [if_neg (by simp; omega), fold_overA]
    exact f1

theorem places_run : ∀ (fs : List Field), (fs.all fun f => (sizeOf? P f.type).isSome) = true →
    (fs.mapM (fun f => do pure (f.offset, ← sizeOf f.type) : Field → Sem (Nat × Nat))).run P w = .ok (fs.map fun f => (f.offset, (sizeOf? P f.type).getD 0)) w := by
  intro fs
  induction fs with
  | nil => intro _; simp
  | cons f r ih =>
    intro hall
    simp only [List.all_cons, Bool.and_eq_true] at hall
    obtain ⟨s, hs⟩ := Option.isSome_iff_exists.1 hall.1
    simp only [List.mapM_cons, Sem.run_bind, rs' hs, Result.andThen_ok, Sem.run_pure, ih hall.2, List.map_cons, hs, Option.getD_some]

theorem build_does {t : TypeId} {parts : Array (Nat × Operand)} {ρ ρ' : Operand → Value} {f : Eff} (hr : HRel m (mix h N F) w) (hρ : ∀ x ∈ parts.toList, VRel m (ρ x.2) (ρ' x.2))
    (he : ((aBuild P t (parts.toList.map fun x => (x.1, ρ x.2))).bind fun a => ret (.agg a.toArray)) = some f) : DoesV P (Instr.build t (parts.map fun (i, x) => (i, ρ' x))) f h N F m w := by
  cases hb : aBuild P t (parts.toList.map fun x => (x.1, ρ x.2)) with
  | none => simp [hb] at he
  | some r =>
    simp only [hb, Option.bind_some, AM.ret, Option.some.injEq] at he
    subst he
    have hpar : (parts.map fun (x : Nat × Operand) => (x.1, ρ' x.2)).toList = parts.toList.map fun x => (x.1, ρ' x.2) := by simp
    unfold aBuild at hb
    split at hb <;> try (simp at hb; done)
    · rename_i fields z hu hz
      split at hb <;> try (simp at hb; done)
      rename_i hall
      obtain ⟨zv, g1, g2, g3⟩ := zeroL_spec hz
      obtain ⟨r', f1, f2, f3⟩ := fill_rel (m := m) (ρ' := ρ') (place' := fun i => (fields.toList.map fun f => (f.offset, (sizeOf? P f.type).getD 0)).toArray[i]?) (fun i => by
        simp only [List.getElem?_toArray, List.getElem?_map]
        cases hf : fields.toList[i]? with
        | none => rfl
        | some f =>
          have := (List.all_eq_true.1 hall) f (List.mem_of_getElem? hf)
          obtain ⟨s, hs⟩ := Option.isSome_iff_exists.1 this
          simp [hs]) parts.toList z zv.cells r hρ (g2.symm ▸ plainCells_rel g3) (plainCells_one g3) hb
      refine DoesV.ret hr (v' := .agg r') ?_ (.agg _ _ (by simpa using f3) (by simpa using f2))
      have hpl := places_run (P := P) (w := w) fields.toList hall
      simp only [Instr.build, Sem.run_bind, rz g1, Result.andThen_ok, ru hu]
      rw [Array.mapM_eq_mapM_toList]
      simp only [Sem.run_map, hpl, Result.andThen_ok]
      rw [show (parts.map fun x => match x with | (i, x) => (i, ρ' x)).toList = parts.toList.map fun x => (x.1, ρ' x.2) from by simp]
      simp only [f1, Sem.run_pure]
    · rename_i n elem z hu hz
      split at hb <;> try (simp at hb; done)
      rename_i size hs
      obtain ⟨zv, g1, g2, g3⟩ := zeroL_spec hz
      obtain ⟨r', f1, f2, f3⟩ := fill_rel (m := m) (ρ' := ρ') (fun _ => rfl) parts.toList z zv.cells r hρ (g2.symm ▸ plainCells_rel g3) (plainCells_one g3) hb
      refine DoesV.ret hr (v' := .agg r') ?_ (.agg _ _ (by simpa using f3) (by simpa using f2))
      simp only [Instr.build, Sem.run_bind, rz g1, Result.andThen_ok, ru hu, rs' hs]
      rw [show (parts.map fun x => match x with | (i, x) => (i, ρ' x)).toList = parts.toList.map fun x => (x.1, ρ' x.2) from by simp]
      simp only [f1, Sem.run_pure]

theorem buildSlice_does {t : TypeId} {len : Nat} {parts : Array (Nat × Operand)} {ρ ρ' : Operand → Value} {f : Eff} (hr : HRel m (mix h N F) w) (hwf : HWf h) (hN : (h.apply f).nx ≤ N) (hρ : ∀ x ∈ parts.toList, VRel m (ρ x.2) (ρ' x.2))
    (he : effBuildSlice P t len (parts.toList.map fun x => (x.1, ρ x.2)) h.nx = some f) : DoesV P (Instr.buildSlice t len (parts.map fun (i, x) => (i, ρ' x))) f h N F m w := by
  unfold effBuildSlice at he
  split at he <;> try (simp at he; done)
  rename_i elem hu
  split at he <;> try (simp at he; done)
  rename_i size z hs hz
  split at he <;> try (simp at he; done)
  rename_i hb
  simp only [gt_iff_lt, not_or, Nat.not_lt, ne_eq, Decidable.not_not] at hb
  split at he <;> try (simp at he; done)
  rename_i cells hf
  cases he
  obtain ⟨zv, g1, g2, g3⟩ := zeroL_spec hz
  have hz2 := zeros_rel (m := m) zv.cells g2 g3 len (len * size) (by rw [hb.2])
  have hpar : (parts.map fun x => match x with | (i, x) => (i, ρ' x)).toList = parts.toList.map fun x => (x.1, ρ' x.2) := by simp
  by_cases hn0 : len * size = 0
  · have hrl : repeatL z len = [] := List.eq_nil_of_length_eq_zero (by rw [length_repeatL, hb.2]; exact hn0)
    rw [hrl] at hf
    obtain ⟨r', f1, f2, f3⟩ := fill_rel (m := m) (ρ' := ρ') (place' := fun i => some (i * size, size)) (fun _ => rfl) parts.toList [] #[] cells hρ .nil rfl hf
    refine newRow_does (c := r') (el := elem) (V := fun a => .slice (some a) len len) hr hwf hN f2 f3 ?_ ?_
    · simp only [Instr.buildSlice, Sem.run_bind, ru hu, Result.andThen_ok, rs' hs]
      rw [if_neg (by omega)]
      simp only [hn0, if_true, Sem.run_bind, Sem.run_pure, Result.andThen_ok]
      rw [hpar, show ((Array.range 0).map fun x => (#[] : Array Value)[x % (#[] : Array Value).size]!) = #[] by simp, f1]
      simp only [Sem.run_bind, run_newRow, Result.andThen_ok, Sem.run_pure]
    · intro m' l _ hl hc' hs'
      have := VRel.slice h.nx 0 len len len l hl (.inl rfl)
      rwa [hc', hs'] at this
  · obtain ⟨r', f1, f2, f3⟩ := fill_rel (m := m) (ρ' := ρ') (place' := fun i => some (i * size, size)) (fun _ => rfl) parts.toList _ _ cells hρ hz2.1 hz2.2 hf
    refine newRow_does (c := r') (el := elem) (V := fun a => .slice (some a) len len) hr hwf hN f2 f3 ?_ ?_
    · simp only [Instr.buildSlice, Sem.run_bind, ru hu, Result.andThen_ok, rs' hs]
      rw [if_neg (by omega)]
      simp only [hn0, if_false, Sem.run_bind, Sem.run_pure, Result.andThen_ok, rz g1]
      rw [hpar, f1]
      simp only [Sem.run_bind, run_newRow, Result.andThen_ok, Sem.run_pure]
    · intro m' l _ hl hc' hs'
      have := VRel.slice h.nx 0 len len len l hl (.inl rfl)
      rwa [hc', hs'] at this
end Go.AM
