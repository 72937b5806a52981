/- What append, copy and clear do. -/
import Derived.Test.YtkkdpbicppdglaaGreatDoorAmEff5
namespace Go.AM
variable {P : Program} {m : Mp} {h : Heap} {N : Nat} {F : Nat → Option Blk} {w : World}

theorem first_run {size n len : Nat} {x x' : Value} {l : List Value} (hr : HRel m (mix h N F) w) (hwf : HWf h) (hN : h.nx ≤ N) (hx : VRel m x x') (hl : lenV x = some len) (hn : n ≤ len) (he : firstL h.get size n x = some l) :
    ∃ a : Array Value, (Builtin.firstCells size n x').run P w = .ok a w ∧ VRels m l a.toList ∧ l.all Value.oneCell' = true ∧ l.length = n * size := by
  by_cases hz : n = 0
  · subst hz
    have he : firstZ x = some l := he
    unfold firstZ at he
    split at he <;> try (simp at he; done)
    · simp only [Option.some.injEq] at he
      subst he
      obtain ⟨a', c', rfl⟩ : ∃ a' c', x' = .slice a' len c' := by
        simp only [lenV, Option.some.injEq] at hl
        subst hl
        cases hx <;> exact ⟨_, _, rfl⟩
      refine ⟨#[], ?_, by simpa using VRels.nil, rfl, by simp⟩
      cases a' with
      | none => simp [Builtin.firstCells]
      | some a' => simp [Builtin.firstCells, loadCells, loadCellsFrom]
    · simp only [Option.some.injEq] at he
      subst he
      cases hx
      exact ⟨#[], by simp [Builtin.firstCells], by simpa using VRels.nil, rfl, by simp⟩
  replace he : firstS h.get size n x = some l := by
    obtain ⟨k, rfl⟩ : ∃ k, n = k + 1 := ⟨n - 1, by omega⟩
    exact he
  unfold firstS at he
  split at he <;> try (simp at he; done)
  · rename_i b off ln cp
    split at he <;> try (simp at he; done)
    rename_i xs mm k hg
    split at he <;> try (simp at he; done)
    rename_i hle
    simp only [Option.some.injEq] at he
    subst he
    obtain ⟨lc, hm, c, el, fr, hc⟩ := hr.cells hwf hN hg
    have hfit := hc.fit
    have hcsz := hc.csz
    have hrel := cells_rel hc.cell hle (by omega)
    rcases slice_live hx hm with ⟨cap2, hx2, _⟩ | ⟨z1, z2, z3, a2, hx2⟩
    · subst hx2
      exact ⟨_, by simp only [Builtin.firstCells]; exact run_cells hc.heap (by omega), hrel.1, hrel.2, length_loadL _ _ _⟩
    · subst hx2
      simp only [lenV, Option.some.injEq] at hl
      obtain rfl : n = 0 := by omega
      refine ⟨#[], ?_, ?_, ?_, ?_⟩
      · simp [Builtin.firstCells, loadCells, loadCellsFrom]
      · rw [Nat.zero_mul]; exact .nil
      · rw [Nat.zero_mul]; rfl
      · rw [Nat.zero_mul]; rfl
  · split at he <;> try (simp at he; done)
    rename_i hn0
    simp only [Option.some.injEq] at he
    subst he
    subst hn0
    cases hx
    exact ⟨#[], by simp [Builtin.firstCells], .nil, rfl, by simp⟩
  · rename_i s
    split at he <;> try (simp at he; done)
    rename_i hc
    simp only [Option.some.injEq] at he
    subst he
    cases hx
    have hpl : ((s.data.toList.take n).map fun b => Value.int .u8 b.toNat).all plainCell = true := by rw [List.all_eq_true]; intro v hv; simp only [List.mem_map] at hv; obtain ⟨b, _, rfl⟩ := hv; rfl
    refine ⟨(s.extract 0 n).data.map fun b => .int .u8 b.toNat, by simp [Builtin.firstCells], ?_, plainCells_one hpl, ?_⟩
    · have : ((s.extract 0 n).data.map fun b => Value.int .u8 b.toNat).toList = (s.data.toList.take n).map fun b => Value.int .u8 b.toNat := by
        rw [Array.toList_map]
        congr 1
        simp [ByteArray.extract, ByteArray.copySlice]
      rw [this]; exact plainCells_rel hpl
    · rw [List.length_map, List.length_take, hc.1, Nat.mul_one]
      have : s.data.toList.length = s.size := rfl
      omega

theorem HRel.kill {G : Nat → Option Blk} (hr : HRel m G w) {b : Nat} {l : Loc} (hb : m b = .live l) (hrw : l.rw = true) :
    HRel (fun b' => if b' = b then .dead else m b') (fun b' => if b' = b then some .dead else G b') w ∧ Step m w (fun b' => if b' = b then .dead else m b') w := by
  have hext : Ext m (fun b' => if b' = b then .dead else m b') := by
    intro b'
    by_cases e : b' = b
    · subst e; exact .inr (.inr ⟨by simp, fun l' hl' => by rw [hb] at hl'; cases hl'; exact hrw, fun k n hs => by rw [hb] at hs; cases hs⟩)
    · exact .inr (.inl (by simp [e]))
  refine ⟨⟨fun b' => ?_, ?_⟩, ?_⟩
  · by_cases e : b' = b
    · simp only [if_pos e]; trivial
    · simp only [if_neg e]; exact (hr.blk b').mono hext (fun _ _ => rfl)
  · intro b1 b2 l1 l2 h1 h2 e hro
    by_cases e1 : b1 = b
    · simp only [if_pos e1] at h1; cases h1
    · by_cases e2 : b2 = b
      · simp only [if_pos e2] at h2; cases h2
      · simp only [if_neg e1, if_neg e2] at h1 h2 hro
        exact hr.inj b1 b2 l1 l2 h1 h2 e hro
  · refine ⟨hext, Nat.le_refl _, rfl, rfl, fun _ _ _ => rfl, ?_, ?_⟩
    · intro b' l' hl' hr'
      by_cases e : b' = b
      · simp only [if_pos e] at hl'; cases hl'
      · simp only [if_neg e] at hl'; exact .inr ⟨b', l', hl', hr', rfl⟩
    · intro b' l' hl' _
      by_cases e : b' = b
      · simp only [if_pos e] at hl'; cases hl'
      · simpa only [if_neg e] using hl'

/-- A block becomes another one's, in its place. -/
theorem HRel.move {G : Nat → Option Blk} {w' : World} (hr : HRel m G w) {b b2 : Nat} {l l2 : Loc} (hb : m b = .live l) (hrw : l.rw = true) (hb2 : G b2 = none) (hcb : l2.cb = l.cb) (hrw2 : l2.rw = true)
    (hsz : w'.heap.size = w.heap.size) (hos : w'.os = w.os) (hout : w'.output = w.output) (hoth : ∀ cb, cb ≠ l.cb → w'.heap[cb]? = w.heap[cb]?) {x : Blk}
    (hx : ∀ m', Ext m m' → BRel m' w' (.live l2) (some x)) :
    ∃ m', Ext m m' ∧ m' b2 = .live l2 ∧ HRel m' (fun b' => if b' = b2 then some x else if b' = b then some .dead else G b') w' ∧ Step m w m' w' := by
  have hfresh : m b2 = .fresh := by
    have := hr.blk b2
    rw [hb2] at this
    cases hm : m b2 with
    | fresh => rfl
    | dead => rw [hm] at this; exact this.elim
    | sym k n => rw [hm] at this; exact this.elim
    | live l => rw [hm] at this; exact this.elim
  have hne : b2 ≠ b := by intro e; rw [e, hb] at hfresh; cases hfresh
  have hro : roB (G b) = false := roB_rw (hb ▸ hr.blk b) hrw
  let m' : Mp := fun b' => if b' = b2 then .live l2 else if b' = b then .dead else m b'
  have hext : Ext m m' := by
    intro b'
    by_cases e : b' = b2
    · subst e; exact .inl hfresh
    · by_cases e2 : b' = b
      · subst e2; exact .inr (.inr ⟨by simp [m', e], fun l' hl' => by rw [hb] at hl'; cases hl'; exact hrw, fun k n hs => by rw [hb] at hs; cases hs⟩)
      · exact .inr (.inl (by simp [m', e, e2]))
  refine ⟨m', hext, by simp [m'], ⟨fun b' => ?_, ?_⟩, ?_⟩
  · by_cases e : b' = b2
    · simp only [m', if_pos e]; exact hx _ hext
    · by_cases e2 : b' = b
      · simp only [m', if_neg e, if_pos e2]; trivial
      · simp only [m', if_neg e, if_neg e2]
        refine (hr.blk b').mono hext ?_
        intro l' hl'
        exact hoth _ (fun e' => e2 (hr.inj b b' l l' hb hl' e'.symm hro).symm)
  · intro b1 b3 l1 l3 h1 h3 e hq
    simp only [m'] at h1 h3
    by_cases e1 : b1 = b2
    · by_cases e3 : b3 = b2
      · exact e1.trans e3.symm
      · simp only [if_pos e1, if_neg e3, Stat.live.injEq] at h1 h3
        by_cases e4 : b3 = b
        · simp only [if_pos e4] at h3; cases h3
        · simp only [if_neg e4] at h3
          subst h1
          exact absurd (hr.inj b b3 l l3 hb h3 (e.symm.trans hcb).symm hro).symm e4
    · simp only [if_neg e1] at h1
      by_cases e4 : b1 = b
      · simp only [if_pos e4] at h1; cases h1
      · simp only [if_neg e4] at h1
        by_cases e3 : b3 = b2
        · simp only [if_pos e3, Stat.live.injEq] at h3
          subst h3
          exact absurd (hr.inj b b1 l l1 hb h1 (e.trans hcb).symm hro).symm e4
        · simp only [if_neg e3] at h3
          by_cases e5 : b3 = b
          · simp only [if_pos e5] at h3; cases h3
          · simp only [if_neg e5] at h3
            simp only [if_neg e1, if_neg e4] at hq
            exact hr.inj b1 b3 l1 l3 h1 h3 e hq
  · refine ⟨hext, Nat.le_of_eq hsz.symm, hos, hout, fun cb _ hn => hoth cb (fun e => hn b l hb hrw e.symm), ?_, ?_⟩
    · intro b' l' hl' hr'
      simp only [m'] at hl'
      by_cases e : b' = b2
      · simp only [if_pos e, Stat.live.injEq] at hl'
        subst hl'; exact .inr ⟨b, l, hb, hrw, hcb.symm⟩
      · simp only [if_neg e] at hl'
        by_cases e2 : b' = b
        · simp only [if_pos e2] at hl'; cases hl'
        · simp only [if_neg e2] at hl'; exact .inr ⟨b', l', hl', hr', rfl⟩
    · intro b' l' hl' hr'
      simp only [m'] at hl'
      by_cases e : b' = b2
      · simp only [if_pos e, Stat.live.injEq] at hl'
        subst hl'; rw [hrw2] at hr'; cases hr'
      · simp only [if_neg e] at hl'
        by_cases e2 : b' = b
        · simp only [if_pos e2] at hl'; cases hl'
        · simpa only [if_neg e2] using hl'

theorem growBy_le (need : Nat) : ∀ (r c : Nat), c ≤ need + (need + 768) / 4 → Builtin.growBy need r c ≤ need + (need + 768) / 4 := by
  intro r
  induction r with
  | zero => intro c hc; exact hc
  | succ r ih =>
    intro c hc
    simp only [Builtin.growBy]
    split
    · exact hc
    · exact ih _ (by omega)
theorem nextcap_le {need old : Nat} (h : old < need) : Builtin.nextslicecap need old ≤ 2 * need + 192 := by
  unfold Builtin.nextslicecap
  split
  · omega
  · split
    · omega
    · have := growBy_le need 4 old (by omega)
      omega

/-- append to a slice whose room is not enough: a new row. -/
theorem grow_run {st xt elem : TypeId} {d : TypeDesc} {args : Array TypeId} {t0 : TypeId} {i : TypeInfo} {zv : Value} {base : Option Addr} {sLen sCap n : Nat} {x' : Value} {old new : Array Value}
    (h0 : args[0]? = some st) (h1 : args[1]? = some xt) (hu : P.underlying st = some (.slice elem)) (hd : P.underlying xt = some d) (hni : ∀ k, d ≠ .int k) (hi : P.info? elem = some i) (hz : zeroV P elem = some zv)
    (hn : (Builtin.lenOf x').run P w = .ok n w) (hgt : ¬ sLen + n ≤ sCap) (hb : (sLen + n) * (i.bytes + i.size + 1) * 4 ≤ 2 ^ 40) (_ : i.size ≠ 0)
    (ho : ∀ w', w'.heap = w.heap → (Builtin.firstCells i.size sLen (.slice base sLen sCap)).run P w' = .ok old w') (hw : ∀ w', w'.heap = w.heap → (Builtin.firstCells i.size n x').run P w' = .ok new w') :
    ∃ cap, sLen + n ≤ cap ∧ (Builtin.append_ args t0 #[.slice base sLen sCap, x']).run P w = .ok (.slice (some ⟨w.heap.size, 0, none⟩) (sLen + n) cap)
      { w with heap := w.heap.push (.cells (old ++ new ++ Builtin.zeroCells zv.cells (cap - (sLen + n))) elem), drawn := w.drawn + 1 } := by
  refine ⟨(Question.appendCap (sLen + n) sCap elem).cut (w.tape w.drawn (.appendCap (sLen + n) sCap elem)), Nat.le_add_right _ _, ?_⟩
  have hneed : sLen + n ≤ (sLen + n) * (i.bytes + i.size + 1) := Nat.le_mul_of_pos_right _ (by omega)
  have hcap : Builtin.nextslicecap (sLen + n) sCap * i.bytes ≤ 2 ^ 48 := by
    have a1 := nextcap_le (need := sLen + n) (old := sCap) (by omega)
    have a2 : Builtin.nextslicecap (sLen + n) sCap * i.bytes ≤ (194 * (sLen + n)) * i.bytes := Nat.mul_le_mul_right _ (by omega)
    have a3 : (194 * (sLen + n)) * i.bytes = 194 * ((sLen + n) * i.bytes) := by rw [Nat.mul_assoc]
    have a4 : (sLen + n) * i.bytes ≤ (sLen + n) * (i.bytes + i.size + 1) := Nat.mul_le_mul_left _ (by omega)
    omega
  have hmax : ¬ (((sLen + n : Nat) : Int) > IntKind.i64.max) := by
    simp only [IntKind.max, IntKind.signed, IntKind.bits, if_true]
    omega
  simp only [Builtin.append_, h0, h1, List.getElem?_toArray, List.getElem?_cons_zero, List.getElem?_cons_succ, Sem.run_bind, ru hu, Result.andThen_ok, rs hi, ru hd, Sem.run_pure, Bool.false_eq_true, if_false, hn]
  rw [if_neg hgt]
  simp only [Sem.run_bind, ri hi, Result.andThen_ok]
  rw [if_neg (fun e => hmax e.1)]
  simp only [Sem.run_bind, ri hi, Result.andThen_ok]
  rw [if_neg (by omega)]
  simp only [Sem.run_bind, ri hi, Result.andThen_ok, run_choose, Question.forced, Bool.false_eq_true, if_false, run_askRoom]
  rw [ho { w with drawn := w.drawn + 1 } rfl]
  simp only [Result.andThen_ok, Bool.not_false, if_true]
  rw [hw { w with drawn := w.drawn + 1 } rfl]
  simp only [Result.andThen_ok, rz hz, run_newRow, Sem.run_pure]

/-- append to a slice with room: in its place. -/
theorem place_run {st xt elem : TypeId} {d : TypeDesc} {args : Array TypeId} {t0 : TypeId} {i : TypeInfo} {base : Option Addr} {sLen sCap n : Nat} {x' : Value} {new : Array Value}
    (h0 : args[0]? = some st) (h1 : args[1]? = some xt) (hu : P.underlying st = some (.slice elem)) (hd : P.underlying xt = some d) (hni : ∀ k, d ≠ .int k) (hi : P.info? elem = some i)
    (hn : (Builtin.lenOf x').run P w = .ok n w) (hle : sLen + n ≤ sCap) (hw : (Builtin.firstCells i.size n x').run P w = .ok new w) {w' : World}
    (hst : match base with
      | none => w' = w
      | some a => (storeCells (a.add (sLen * i.size)) new.toList).run P w = .ok () w') :
    (Builtin.append_ args t0 #[.slice base sLen sCap, x']).run P w = .ok (.slice base (sLen + n) sCap) w' := by
  simp only [Builtin.append_, h0, h1, List.getElem?_toArray, List.getElem?_cons_zero, List.getElem?_cons_succ, Sem.run_bind, ru hu, Result.andThen_ok, rs hi, ru hd, Sem.run_pure, Bool.false_eq_true, if_false, hn]
  rw [if_pos hle]
  simp only [Sem.run_bind, Bool.not_false, if_true, hw, Result.andThen_ok]
  cases base with
  | none => simp only at hst; subst hst; simp
  | some a => simp only at hst; simp [hst]

theorem len_run {x x' : Value} {n : Nat} (hx : VRel m x x') (hl : lenV x = some n) : (Builtin.lenOf x').run P w = .ok n w := by
  cases hx <;> simp only [lenV, reduceCtorEq, Option.some.injEq] at hl <;> subst hl <;> simp [Builtin.lenOf]

theorem first_heap {size n : Nat} {x : Value} {a : Array Value} (hx : (Builtin.firstCells size n x).run P w = .ok a w) : ∀ w', w'.heap = w.heap → (Builtin.firstCells size n x).run P w' = .ok a w' := by
  intro w' hw
  cases x with
  | slice b l c =>
    cases b with
    | none => simpa [Builtin.firstCells] using hx
    | some b =>
      simp only [Builtin.firstCells] at hx ⊢
      exact cells_heap hx hw
  | string s => simpa [Builtin.firstCells] using hx
  | _ => simp [Builtin.firstCells] at hx
where
  cells_heap {a : Addr} {n : Nat} {r : Array Value} {w w' : World} (hx : (loadCells a n).run P w = .ok r w) (hw : w'.heap = w.heap) : (loadCells a n).run P w' = .ok r w' := by
    unfold loadCells at hx ⊢
    exact from_heap n 0 #[] hx hw
  from_heap {a : Addr} : ∀ (n i : Nat) (acc : Array Value) {r : Array Value} {w w' : World}, (loadCellsFrom a i n acc).run P w = .ok r w → w'.heap = w.heap → (loadCellsFrom a i n acc).run P w' = .ok r w' := by
    intro n
    induction n with
    | zero => intro i acc r w w' hx _; simpa [loadCellsFrom] using hx
    | succ n ih =>
      intro i acc r w w' hx hw
      simp only [loadCellsFrom, Sem.run_bind, run_load] at hx ⊢
      have hc : w'.cell? (a.add i) = w.cell? (a.add i) := by simp only [World.cell?, hw]
      rw [hc]
      cases hv : w.cell? (a.add i) with
      | some v =>
        rw [hv] at hx
        simp only [Result.andThen_ok] at hx ⊢
        exact ih _ _ hx hw
      | none =>
        rw [hv] at hx
        simp only at hx
        -- what lies beyond the cells is not met
        have hf : w'.farLoad P (a.add i) (Mode.plain == .atomic) = w.farLoad P (a.add i) (Mode.plain == .atomic) := by
          cases w; cases w'; simp only at hw; subst hw; rfl
        rw [hf]
        cases hq : w.farLoad P (a.add i) (Mode.plain == .atomic) with
        | ok x =>
          rw [hq] at hx
          simp only [Result.andThen_ok] at hx ⊢
          exact ih _ _ hx hw
        | error e => rw [hq] at hx; simp at hx
end Go.AM
