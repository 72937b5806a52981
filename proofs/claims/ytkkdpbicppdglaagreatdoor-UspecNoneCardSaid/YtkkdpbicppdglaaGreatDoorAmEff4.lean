/- What each operation does: addresses, parts, maps, the rest. -/
import Derived.Test.YtkkdpbicppdglaaGreatDoorAmEff3
import Derived.Laws.BytesString
namespace Go.AM
variable {P : Program} {m : Mp} {h : Heap} {N : Nat} {F : Nat → Option Blk} {w : World}

/- ## addresses -/
theorem field_does {t : TypeId} {x x' : Value} {i : Nat} {f : Eff} (hr : HRel m (mix h N F) w) (hx : VRel m x x') (he : effField P t x i = some f) : DoesV P (Instr.fieldAt t x' i) f h N F m w := by
  unfold effField at he
  split at he <;> try (simp at he; done)
  rename_i fields a hu
  split at he <;> try (simp at he; done)
  rename_i fl hf
  split at he <;> try (simp at he; done)
  rename_i ti hi
  cases hz : Nat.beq ti.size 0 with
  | true => simp [hz] at he
  | false =>
    rw [hz] at he
    simp only [cond_false, AM.ret, Option.some.injEq] at he
    subst he
    have hz0 : ti.size ≠ 0 := by intro e; rw [e] at hz; cases hz
    obtain ⟨a', hx2⟩ : ∃ a', x' = .pointer (some a') := by cases hx <;> exact ⟨_, rfl⟩
    subst hx2
    rw [Array.getElem?_toList] at hf
    refine DoesV.ret hr ?_ (ptr_add hx fl.offset)
    simp only [Instr.fieldAt, Sem.run_bind, ru hu, Result.andThen_ok, hf, Instr.sureAddr, Sem.run_pure, fieldPlace, rs hi]
    rw [if_neg hz0]
    simp

theorem idx_run {x x' : Value} {n i : Nat} (hx : VRel m x x') (he : idx x n = some i) : ∃ k, (asIntOf x').run P w = .ok (k, (i : Int)) w ∧ i < n := by
  unfold idx at he
  split at he <;> try (simp at he; done)
  rename_i k z
  split at he <;> try (simp at he; done)
  rename_i j
  cases hb : Nat.blt j n with
  | false => simp [hb] at he
  | true =>
    rw [hb] at he
    simp only [cond_true, Option.some.injEq] at he
    subst he
    cases hx
    exact ⟨k, by simp [asIntOf], by simpa [Nat.blt_eq] using hb⟩

theorem idxAddr_does {t : TypeId} {x x' y y' : Value} {f : Eff} (hr : HRel m (mix h N F) w) (hx : VRel m x x') (hy : VRel m y y') (he : effIdx P t x y = some f) : DoesV P (Instr.indexAt t x' y') f h N F m w := by
  unfold effIdx at he
  split at he <;> try (simp at he; done)
  · rename_i len elem a hu
    split at he <;> try (simp at he; done)
    rename_i i s hi hs
    simp only [AM.ret, Option.some.injEq] at he
    subst he
    obtain ⟨k, g1, g2⟩ := idx_run (P := P) (w := w) hy hi
    obtain ⟨a', hx2⟩ : ∃ a', x' = .pointer (some a') := by cases hx <;> exact ⟨_, rfl⟩
    subst hx2
    refine DoesV.ret hr ?_ (ptr_add hx (i * s))
    simp only [Instr.indexAt, Sem.run_bind, g1, Result.andThen_ok, ru hu, Instr.sureAddr, Sem.run_pure]
    rw [if_pos (by omega)]
    simp [rs' hs]
  · rename_i elem a len cap hu
    split at he <;> try (simp at he; done)
    rename_i i s hi hs
    simp only [AM.ret, Option.some.injEq] at he
    subst he
    obtain ⟨k, g1, g2⟩ := idx_run (P := P) (w := w) hy hi
    have fin : ∀ a' cap', x' = .slice (some a') len cap' → VRel m (.pointer (some a)) (.pointer (some a')) → DoesV P (Instr.indexAt t x' y') ⟨.pointer (some (a.add (i * s))), [], []⟩ h N F m w := by
      intro a' cap' hx2 hv
      subst hx2
      refine DoesV.ret hr ?_ (ptr_add hv (i * s))
      simp only [Instr.indexAt, Sem.run_bind, g1, Result.andThen_ok, ru hu, Sem.run_pure]
      rw [if_pos (by omega)]
      simp [rs' hs]
    cases hx with
    | slice b off _ _ cap' l hm hs' => exact fin _ _ rfl (.ptr b off l hm)
    | sliceEnd b off a' l hm ho => omega
    | sliceDead _ a' _ _ cap' hd => exact fin _ _ rfl (.ptrDead _ _ hd)

theorem part_run {t : TypeId} {cs cs' : List Value} {off : Nat} {v : Value} (hc : VRels m cs cs') (h1 : cs.all Value.oneCell' = true) (he : aPart P t cs off = some v) :
    ∃ v', (part t cs'.toArray off).run P w = .ok v' w ∧ VRel m v v' := by
  unfold aPart at he
  split at he <;> try (simp at he; done)
  rename_i d hd
  cases hg : aggB (some d) with
  | true =>
    rw [hg, if_pos rfl] at he
    split at he <;> try (simp at he; done)
    rename_i s hs
    split at he <;> try (simp at he; done)
    rename_i hle
    simp only [Option.some.injEq] at he
    subst he
    refine ⟨.agg ((cs'.drop off).take s).toArray, ?_, .agg _ _ ?_ (by simpa using (hc.drop off).take s)⟩
    · simp only [part, Sem.run_bind, ra hd, hg, Result.andThen_ok]
      rw [if_pos trivial]
      simp only [Sem.run_bind, rs' hs, Result.andThen_ok, Sem.run_pure]
      congr 2
      apply Array.ext'
      simp [List.extract_eq_take_drop]
    · rw [List.all_eq_true] at *
      intro v hv
      exact h1 v (List.mem_of_mem_drop (List.mem_of_mem_take hv))
  | false =>
    rw [hg] at he
    simp only [Bool.false_eq_true, if_false] at he
    obtain ⟨v', a1, a2⟩ := hc.get he
    refine ⟨v', ?_, a2⟩
    simp only [part, Sem.run_bind, ra hd, hg, Result.andThen_ok, Bool.false_eq_true, if_false]
    simp [a1]

theorem fieldV_does {t : TypeId} {x x' : Value} {i : Nat} {f : Eff} (hr : HRel m (mix h N F) w) (hx : VRel m x x') (he : effFieldV P t x i = some f) : DoesV P (Instr.field t x' i) f h N F m w := by
  unfold effFieldV at he
  split at he <;> try (simp at he; done)
  rename_i fields cs hu
  split at he <;> try (simp at he; done)
  rename_i fl hf
  cases hp : aPart P fl.type cs.toList fl.offset with
  | none => simp [hp] at he
  | some v =>
    simp only [hp, Option.bind_some, AM.ret, Option.some.injEq] at he
    subst he
    cases hx with
    | agg _ cs' h1 hc =>
      obtain ⟨v', g1, g2⟩ := part_run (P := P) (w := w) hc h1 hp
      rw [Array.getElem?_toList] at hf
      refine DoesV.ret hr ?_ g2
      simpa only [Instr.field, Sem.run_bind, ru hu, Result.andThen_ok, hf, asAgg, Sem.run_pure, Array.toArray_toList] using g1

theorem bytes_get (s : ByteArray) (i : Nat) : s[i]? = s.data.toList[i]? := by
  rw [Array.getElem?_toList]
  by_cases hi : i < s.size
  · rw [getElem?_pos s i hi, Array.getElem?_eq_getElem (by simpa using hi)]; rfl
  · rw [getElem?_neg s i hi, Array.getElem?_eq_none (by simpa using hi)]

theorem index_does {t : TypeId} {x x' y y' : Value} {f : Eff} (hr : HRel m (mix h N F) w) (hx : VRel m x x') (hy : VRel m y y') (he : effIndex P t x y = some f) : DoesV P (Instr.index t x' y') f h N F m w := by
  unfold effIndex at he
  split at he <;> try (simp at he; done)
  · rename_i len elem cs hu
    split at he <;> try (simp at he; done)
    rename_i i s hi hs
    cases hp : aPart P elem cs.toList (i * s) with
    | none => simp [hp] at he
    | some v =>
      simp only [hp, Option.bind_some, AM.ret, Option.some.injEq] at he
      subst he
      obtain ⟨k, g1, g2⟩ := idx_run (P := P) (w := w) hy hi
      cases hx with
      | agg _ cs' h1 hc =>
        obtain ⟨v', q1, q2⟩ := part_run (P := P) (w := w) hc h1 hp
        refine DoesV.ret hr ?_ q2
        simp only [Instr.index, Sem.run_bind, g1, Result.andThen_ok, ru hu]
        rw [if_pos (by omega)]
        simp only [Sem.run_bind, rs' hs, Result.andThen_ok, Int.toNat_natCast]
        simpa using q1
  · rename_i s hu
    split at he <;> try (simp at he; done)
    rename_i i hi
    split at he <;> try (simp at he; done)
    rename_i b hb
    simp only [AM.ret, Option.some.injEq] at he
    subst he
    obtain ⟨k, g1, g2⟩ := idx_run (P := P) (w := w) hy hi
    cases hx
    refine DoesV.ret hr ?_ (.int _ _)
    simp only [Instr.index, Sem.run_bind, g1, Result.andThen_ok, ru hu]
    rw [if_pos (by omega), Int.toNat_natCast, bytes_get, hb]
    simp

/- ## maps -/
theorem bytes_ext {a b : ByteArray} (e : a.data.toList = b.data.toList) : a = b := by
  cases a; cases b
  simp only at e
  congr 1
  exact Array.ext' e
theorem bytes_beq (a b : ByteArray) : (a == b) = (a.data.toList == b.data.toList) := by
  show (a.data == b.data) = _
  rw [Bool.eq_iff_iff, beq_iff_eq, beq_iff_eq]
  exact ⟨fun e => by rw [e], fun e => Array.ext' e⟩
theorem key_same {d : TypeDesc} {k k' : Value} (h1 : effLookup.keyDesc d k = true) (h2 : shapeEq k k' = true) : Instr.sameNow d k k' = some (keyEq k k') ∧ (keyEq k k' = true → k = k') := by
  unfold effLookup.keyDesc at h1
  split at h1 <;> try (simp at h1; done)
  · cases k' <;> simp only [shapeEq, Bool.false_eq_true] at h2
    have := kindN_inj h2
    subst this
    exact ⟨by simp [Instr.sameNow, keyEq], fun e => by simp [keyEq] at e; rw [e]⟩
  · cases k' <;> simp only [shapeEq, Bool.false_eq_true] at h2
    refine ⟨by simp only [Instr.sameNow, keyEq, bytes_beq], fun e => ?_⟩
    simp only [keyEq, beq_iff_eq] at e
    rw [bytes_ext e]
  · cases k' <;> simp only [shapeEq, Bool.false_eq_true] at h2
    exact ⟨by simp [Instr.sameNow, keyEq], fun e => by simp [keyEq] at e; rw [e]⟩

theorem find_rel {d : TypeDesc} {k : Value} (h1 : effLookup.keyDesc d k = true) : ∀ (es : List (Value × Value × Nat)) (ces : List MapEntry) (i : Nat), ERel m es ces → keysOk k es = true →
    match findE k es with
    | some v => ∃ j v', Instr.findNow d k ces i = some (some (i + j, v')) ∧ VRel m v v' ∧ ∃ e, ces[j]? = some e ∧ e.key = k
    | none => Instr.findNow d k ces i = some none := by
  intro es
  induction es with
  | nil => intro ces i he _; cases ces with
    | nil => simp [findE, Instr.findNow]
    | cons => exact he.elim
  | cons x r ih =>
    intro ces i he hk
    cases ces with
    | nil => exact he.elim
    | cons y s =>
      obtain ⟨⟨e1, e2, e3⟩, e4⟩ := he
      simp only [keysOk, List.all_cons, Bool.and_eq_true] at hk
      obtain ⟨q1, q2⟩ := key_same h1 hk.1
      simp only [findE, Instr.findNow]
      rw [e1] at q1 q2
      rw [q1]
      cases hq : keyEq k x.1 with
      | true =>
        rw [← e1, hq]
        simp only [if_true]
        exact ⟨0, y.val, rfl, e3.1, y, by simp, by rw [← e1]; rw [e1] at hq; exact (e1 ▸ q2 hq).symm⟩
      | false =>
        rw [← e1, hq]
        simp only [Bool.false_eq_true, if_false]
        have := ih s (i + 1) e4 hk.2
        cases hf : findE k r with
        | none => rw [hf] at this; simpa using this
        | some v =>
          rw [hf] at this
          obtain ⟨j, v', a1, a2, e, a3, a4⟩ := this
          exact ⟨j + 1, v', by rw [a1]; congr 3; omega, a2, e, by simpa using a3, a4⟩

theorem checkKey_run {kt : TypeId} {d : TypeDesc} {k : Value} {b : Bool} (hu : P.underlying kt = some d) (h1 : effLookup.keyDesc d k = true) : (Instr.checkKey b 10000 kt k).run P w = .ok () w := by
  unfold effLookup.keyDesc at h1
  split at h1 <;> try (simp at h1; done)
  all_goals
    rw [show (10000 : Nat) = 9999 + 1 from rfl, Instr.checkKey, Sem.run_bind, ru hu]
    rfl

theorem key_rel {k k' : Value} (hs : simpleKey k = true) (hk : VRel m k k') : k' = k := by
  cases hk <;> first | rfl | (simp [simpleKey] at hs)
theorem zeroV_rel {t : TypeId} {z : Value} (hz : zeroV P t = some z) : VRel m z z := plainV_rel (zeroV_spec hz).choose_spec.2.2

theorem lookup_does {t : TypeId} {x x' k k' : Value} {ok0 : Bool} {f : Eff} (hr : HRel m (mix h N F) w) (hwf : HWf h) (hN : h.nx ≤ N) (hx : VRel m x x') (hk : VRel m k k')
    (he : effLookup P t x k ok0 h.get = some f) : DoesV P (Instr.lookup t x' k' ok0) f h N F m w := by
  unfold effLookup at he
  split at he <;> try (simp at he; done)
  rename_i kt elem r hu
  split at he <;> try (simp at he; done)
  rename_i hsk
  have hsk : simpleKey k = true := by simpa using hsk
  have := key_rel hsk hk
  subst this
  split at he <;> try (simp at he; done)
  rename_i d es hd hes
  split at he <;> try (simp at he; done)
  rename_i hkd
  simp only [Bool.not_eq_true', Bool.not_eq_false, Bool.and_eq_true] at hkd
  -- the entries
  obtain ⟨ces, hces, go1, go2⟩ : ∃ ces : Array MapEntry, ERel m es ces.toList ∧
      (∀ i v, (Instr.findKey kt k' ces.toList).run P w = .ok (some (i, v)) w → (Instr.lookup t x' k' ok0).run P w = .ok (if ok0 then .tuple #[v, .bool true] else v) w) ∧
      (∀ z, (Instr.findKey kt k' ces.toList).run P w = .ok none w → (zeroValue elem).run P w = .ok z w → (Instr.lookup t x' k' ok0).run P w = .ok (if ok0 then .tuple #[z, .bool false] else z) w) := by
    cases r with
    | none =>
      simp only [Option.some.injEq] at hes
      subst hes
      cases hx
      refine ⟨#[], trivial, fun i v hq => ?_, fun z hq hz => ?_⟩
      · simp only [Instr.lookup, Sem.run_bind, ru hu, Result.andThen_ok, Sem.run_pure, checkKey_run hd hkd.1, hq]
      · simp only [Instr.lookup, Sem.run_bind, ru hu, Result.andThen_ok, Sem.run_pure, checkKey_run hd hkd.1, hq, hz]
    | some r =>
      simp only at hes
      split at hes <;> try (simp at hes; done)
      rename_i es2 hg
      simp only [Option.some.injEq] at hes
      subst hes
      obtain ⟨l, hm, _, ces, q1, q2⟩ := hr.map hwf hN hg
      have := map_live hx hm
      subst this
      refine ⟨ces, q2, fun i v hq => ?_, fun z hq hz => ?_⟩
      · simp only [Instr.lookup, Sem.run_bind, ru hu, Result.andThen_ok, Sem.run_pure, getObj, Sem.run, q1, checkKey_run hd hkd.1, hq]
      · simp only [Instr.lookup, Sem.run_bind, ru hu, Result.andThen_ok, Sem.run_pure, getObj, Sem.run, q1, checkKey_run hd hkd.1, hq, hz]
  have hfind := find_rel hkd.1 es ces.toList 0 hces hkd.2
  cases hf : findE k' es with
  | some v =>
    rw [hf] at he hfind
    simp only [AM.ret, Option.some.injEq] at he
    subst he
    obtain ⟨j, v', a1, a2, _⟩ := hfind
    refine DoesV.ret hr (go1 (0 + j) v' ?_) ?_
    · simp only [Instr.findKey, Sem.run_bind, ru hd, Result.andThen_ok, a1, Sem.run_pure]
    · cases ok0
      · exact a2
      · exact .tuple _ _ (.cons _ _ _ _ a2 (.cons _ _ _ _ (.bool _) .nil))
  | none =>
    rw [hf] at he hfind
    simp only at he hfind
    split at he <;> try (simp at he; done)
    rename_i z hz
    simp only [AM.ret, Option.some.injEq] at he
    subst he
    refine DoesV.ret hr (go2 z ?_ (rz hz w)) ?_
    · simp only [Instr.findKey, Sem.run_bind, ru hd, Result.andThen_ok, hfind, Sem.run_pure]
    · cases ok0
      · exact zeroV_rel hz
      · exact .tuple _ _ (.cons _ _ _ _ (zeroV_rel hz) (.cons _ _ _ _ (.bool _) .nil))

theorem put_rel {d : TypeDesc} {k x x' : Value} {c0 : Nat} (h1 : effLookup.keyDesc d k = true) (hsk : simpleKey k = true) (hx : VRel m x x') : ∀ (es : List (Value × Value × Nat)) (ces : List MapEntry), ERel m es ces → keysOk k es = true →
    (findE k es = none → ERel m (putE k x c0 es) (ces ++ [{ key := k, val := x', born := c0 }])) ∧
    (∀ v, findE k es = some v → ∀ i j v', Instr.findNow d k ces i = some (some (i + j, v')) → ERel m (putE k x c0 es) (ces.modify j fun e => { e with key := k, val := x' })) := by
  intro es
  induction es with
  | nil => intro ces he _; cases ces with
    | nil => exact ⟨fun _ => ⟨⟨rfl, hsk, hx, rfl⟩, trivial⟩, fun v hv => by simp [findE] at hv⟩
    | cons => exact he.elim
  | cons y r ih =>
    intro ces he hk
    cases ces with
    | nil => exact he.elim
    | cons c s =>
      obtain ⟨⟨e1, e2, e3⟩, e4⟩ := he
      simp only [keysOk, List.all_cons, Bool.and_eq_true] at hk
      obtain ⟨q1, q2⟩ := key_same h1 hk.1
      obtain ⟨i1, i2⟩ := ih s e4 hk.2
      have q1 : Instr.sameNow d k c.key = some (keyEq k y.1) := by rw [← e1]; exact q1
      cases hq : keyEq k y.1 with
      | true =>
        have hky := q2 hq
        refine ⟨fun hf => by simp [findE, hq] at hf, fun v _ i j v' hf => ?_⟩
        simp only [Instr.findNow, q1, hq, Option.some.injEq, Prod.mk.injEq] at hf
        obtain rfl : j = 0 := by omega
        simp only [putE, hq, if_true, List.modify_zero_cons]
        exact ⟨⟨hky.symm, e2, hx, e3.2⟩, e4⟩
      | false =>
        refine ⟨fun hf => ?_, fun v hv i j v' hf => ?_⟩
        · simp only [findE, hq, Bool.false_eq_true, if_false] at hf
          simp only [putE, hq, Bool.false_eq_true, if_false, List.cons_append]
          exact ⟨⟨e1, e2, e3⟩, i1 hf⟩
        · simp only [findE, hq, Bool.false_eq_true, if_false] at hv
          simp only [Instr.findNow, q1, hq] at hf
          have hfr := find_rel h1 r s (i + 1) e4 hk.2
          rw [hv] at hfr
          obtain ⟨j', u, a1, _⟩ := hfr
          rw [a1] at hf
          simp only [Option.some.injEq, Prod.mk.injEq] at hf
          obtain rfl : j = j' + 1 := by omega
          simp only [putE, hq, Bool.false_eq_true, if_false, List.modify_succ_cons]
          exact ⟨⟨e1, e2, e3⟩, i2 v hv (i + 1) j' u a1⟩

theorem sameBits_refl {k : Value} (hs : simpleKey k = true) : Instr.sameBits 10000 k k = true := by
  cases k <;> first | (simp [simpleKey] at hs; done) | simp [Instr.sameBits, bytes_beq]

theorem update_does {t : TypeId} {x x' k k' y y' : Value} {f : Eff} (hr : HRel m (mix h N F) w) (hwf : HWf h) (hN : h.nx ≤ N) (hx : VRel m x x') (hk : VRel m k k') (hy : VRel m y y')
    (he : effUpdate P t x k y h.get = some f) : DoesU P (Instr.mapUpdate t x' k' y') f h N F m w := by
  unfold effUpdate at he
  split at he <;> try (simp at he; done)
  rename_i kt elem r hu
  split at he <;> try (simp at he; done)
  rename_i d es clk hd hg
  split at he <;> try (simp at he; done)
  rename_i hcond
  simp only [Bool.and_eq_true] at hcond
  obtain ⟨⟨⟨hsk, hkd⟩, hko⟩, hst⟩ := hcond
  simp only [Option.some.injEq] at he
  subst he
  have := key_rel hsk hk
  subst this
  obtain ⟨l, hm, hrw, ces, q1, q2⟩ := hr.map hwf hN hg
  have := map_live hx hm
  subst this
  have hfind := find_rel hkd es ces.toList 0 q2 hko
  obtain ⟨p1, p2⟩ := put_rel (c0 := clk) hkd hsk hy es ces.toList q2 hko
  have hlt : l.cb < w.heap.size := hr.lt hm
  cases hf : findE k' es with
  | none =>
    rw [hf] at hfind
    simp only at hfind
    have hb : BRel m { w with heap := w.heap.setIfInBounds l.cb (.map (ces.push { key := k', val := y', born := clk }) (clk + 1)) } (.live l) (some (.map (putE k' y clk es) (tick k' es clk))) := by
      simp only [tick, hf]
      exact ⟨hrw, _, by simp [hlt]; rfl, by simpa using p1 hf⟩
    obtain ⟨r1, r2⟩ := wr_rel (v := undef) hr (lt_of_get hwf hN hg) hm hrw hb
    refine ⟨_, m, ?_, rfl, r1, r2⟩
    simp only [Instr.mapUpdate, Sem.run_bind, ru hu, Result.andThen_ok, getObj, Sem.run, q1, checkKey_run hd hkd, Instr.findKey, ru hd, hfind, Sem.run_pure, setObj]
  | some v =>
    rw [hf] at hfind
    obtain ⟨j, v', a1, a2, e, a3, a4⟩ := hfind
    simp only [Nat.zero_add] at a1
    have hb : BRel m { w with heap := w.heap.setIfInBounds l.cb (.map (ces.modify j fun e => { e with key := k', val := y' }) clk) } (.live l) (some (.map (putE k' y clk es) (tick k' es clk))) := by
      simp only [tick, hf]
      exact ⟨hrw, _, by simp [hlt]; rfl, by simpa using p2 v hf 0 j v' (by simpa using a1)⟩
    obtain ⟨r1, r2⟩ := wr_rel (v := undef) hr (lt_of_get hwf hN hg) hm hrw hb
    refine ⟨_, m, ?_, rfl, r1, r2⟩
    rw [Array.getElem?_toList] at a3
    simp only [Instr.mapUpdate, Sem.run_bind, ru hu, Result.andThen_ok, getObj, Sem.run, q1, checkKey_run hd hkd, Instr.findKey, ru hd, a1, Sem.run_pure, setObj, a3, Option.map_some, Option.getD_some, a4, Instr.keyThatStays, sameBits_refl hsk, if_true]
/- ## the same value; what is known of tokens -/
theorem beqV_eq : ∀ (n : Nat), (∀ x y, beqV n x y = true → x = y) ∧ (∀ x y, beqL n x y = true → x = y) := by
  intro n
  induction n with
  | zero => exact ⟨fun x y h => by simp [beqV] at h, fun x y h => by simp [beqL] at h⟩
  | succ n ih =>
    obtain ⟨ihV, ihL⟩ := ih
    constructor
    · intro x y h
      unfold beqV at h
      split at h <;> try (simp at h; done)
      · rw [beq_iff_eq.1 h]
      · simp only [Bool.and_eq_true, eqI_eq, beq_iff_eq] at h
        rw [kindN_inj h.1, h.2]
      · rw [bytes_ext (beq_iff_eq.1 h)]
      · rfl
      · rw [beq_iff_eq.1 h]
      · simp only [Bool.and_eq_true] at h
        rw [Nat.eq_of_beq_eq_true h.1, Nat.eq_of_beq_eq_true h.2]
      · simp only [Bool.and_eq_true, beq_iff_eq] at h
        rw [h.1.1, Nat.eq_of_beq_eq_true h.1.2, Nat.eq_of_beq_eq_true h.2]
      · rfl
      · rw [Nat.eq_of_beq_eq_true h]
      · simp only [Bool.and_eq_true] at h
        rw [Nat.eq_of_beq_eq_true h.1.1, Array.toList_inj.1 (ihL _ _ h.1.2), Array.toList_inj.1 (ihL _ _ h.2)]
      · rfl
      · simp only [Bool.and_eq_true] at h
        rw [Nat.eq_of_beq_eq_true h.1, ihV _ _ h.2]
      · rfl
      · rfl
      · rw [Nat.eq_of_beq_eq_true h]
      · rw [Array.toList_inj.1 (ihL _ _ h)]
      · rw [Array.toList_inj.1 (ihL _ _ h)]
    · intro x y h
      unfold beqL at h
      split at h <;> try (simp at h; done)
      · rfl
      · rename_i e1
        cases e1
        simp only [Bool.and_eq_true] at h
        rw [ihV _ _ h.1, ihL _ _ h.2]
theorem opN_inj {a b : BinOp} (h : Nat.beq (opN a) (opN b) = true) : a = b := by
  have := Nat.eq_of_beq_eq_true h
  cases a <;> cases b <;> first | rfl | (simp [opN] at this)
theorem findBin_ok {op : BinOp} {o r : Value} : ∀ {fs : List Fact}, findBin op o fs = some r → Fact.bin op o r ∈ fs
  | [], h => by simp [findBin] at h
  | .bin op' o' r' :: l, h => by
    rw [findBin] at h
    cases hc : (Nat.beq (opN op) (opN op') && beqV 2 o o') with
    | true =>
      rw [hc] at h
      simp only [cond_true, Option.some.injEq] at h
      simp only [Bool.and_eq_true] at hc
      have h1 := opN_inj hc.1
      have h2 := (beqV_eq 2).1 _ _ hc.2
      subst h1; subst h2; subst h
      simp
    | false =>
      rw [hc] at h
      simp [findBin_ok (show findBin op o l = some r from h)]
  | .nib _ _ _ :: l, h => by simp [findBin_ok (show findBin op o l = some r from h)]
  | .conv _ _ :: l, h => by simp [findBin_ok (show findBin op o l = some r from h)]
  | .mm _ _ _ _ :: l, h => by simp [findBin_ok (show findBin op o l = some r from h)]
theorem findNib_ok {op : BinOp} {o r : Value} : ∀ {fs : List Fact}, findNib op o fs = some r → Fact.nib op o r ∈ fs
  | [], h => by simp [findNib] at h
  | .nib op' o' r' :: l, h => by
    rw [findNib] at h
    cases hc : (Nat.beq (opN op) (opN op') && beqV 2 o o') with
    | true =>
      rw [hc] at h
      simp only [cond_true, Option.some.injEq] at h
      simp only [Bool.and_eq_true] at hc
      have h1 := opN_inj hc.1
      have h2 := (beqV_eq 2).1 _ _ hc.2
      subst h1; subst h2; subst h
      simp
    | false =>
      rw [hc] at h
      simp [findNib_ok (show findNib op o l = some r from h)]
  | .bin _ _ _ :: l, h => by simp [findNib_ok (show findNib op o l = some r from h)]
  | .conv _ _ :: l, h => by simp [findNib_ok (show findNib op o l = some r from h)]
  | .mm _ _ _ _ :: l, h => by simp [findNib_ok (show findNib op o l = some r from h)]
theorem findConv_ok {k : IntKind} {r : Value} : ∀ {fs : List Fact}, findConv k fs = some r → Fact.conv k r ∈ fs
  | [], h => by simp [findConv] at h
  | .conv k' r' :: l, h => by
    rw [findConv] at h
    cases hc : Nat.beq (kindN k) (kindN k') with
    | true =>
      rw [hc] at h
      simp only [cond_true, Option.some.injEq] at h
      have h1 := kindN_inj hc
      subst h1; subst h
      simp
    | false =>
      rw [hc] at h
      simp [findConv_ok (show findConv k l = some r from h)]
  | .bin _ _ _ :: l, h => by simp [findConv_ok (show findConv k l = some r from h)]
  | .nib _ _ _ :: l, h => by simp [findConv_ok (show findConv k l = some r from h)]
  | .mm _ _ _ _ :: l, h => by simp [findConv_ok (show findConv k l = some r from h)]
theorem findMM_ok {mn : Bool} {k : IntKind} {b : Int} {r : Value} : ∀ {fs : List Fact}, findMM mn k b fs = some r → Fact.mm mn k b r ∈ fs
  | [], h => by simp [findMM] at h
  | .mm mn' k' b' r' :: l, h => by
    rw [findMM] at h
    cases hc : ((Bool.rec (Bool.not mn') mn' mn : Bool) && Nat.beq (kindN k) (kindN k') && eqI b b') with
    | true =>
      rw [hc] at h
      simp only [cond_true, Option.some.injEq] at h
      simp only [Bool.and_eq_true, eqI_eq, beq_iff_eq] at hc
      have h1 := kindN_inj hc.1.2
      have h2 := hc.2
      have h3 : mn' = mn := by have := hc.1.1; cases mn <;> cases mn' <;> first | rfl | cases this
      subst h1; subst h2; subst h3; subst h
      simp
    | false =>
      rw [hc] at h
      simp [findMM_ok (show findMM mn k b l = some r from h)]
  | .bin _ _ _ :: l, h => by simp [findMM_ok (show findMM mn k b l = some r from h)]
  | .nib _ _ _ :: l, h => by simp [findMM_ok (show findMM mn k b l = some r from h)]
  | .conv _ _ :: l, h => by simp [findMM_ok (show findMM mn k b l = some r from h)]
theorem tok_facts (hr : HRel m (mix h N F) w) (hwf : HWf h) (hN : h.nx ≤ N) {i : Nat} {k : IntKind} {n : Int} (hi : m i = .sym k n) : ∀ f ∈ factsOf (h.get i), f.ok m k n := by
  intro f hf
  unfold factsOf at hf
  split at hf
  · rename_i fs hg
    have := hr.at hwf hN hg
    rw [hi] at this
    exact this f hf
  · simp at hf
end Go.AM
