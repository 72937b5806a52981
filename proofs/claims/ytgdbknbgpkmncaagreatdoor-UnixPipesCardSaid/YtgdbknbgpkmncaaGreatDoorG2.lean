/- Lemmas of the claim: the machine of the proof and the walks of the program. Conditions: as each says. -/
import Derived.Test.YtgdbknbgpkmncaaGreatDoorG1
import Derived.Orders
import Derived.Laws.IdiomRangeMap
section
/- What each operation does: the rest that is small. -/
namespace Go.AM
variable {P : Program} {m : Mp} {h : Heap} {N : Nat} {F : Nat → Option Blk} {w : World}

theorem del_rel {d : TypeDesc} {k : Value} (h1 : effLookup.keyDesc d k = true) : ∀ (es : List (Value × Value × Nat)) (ces : List MapEntry), ERel m es ces → keysOk k es = true →
    (findE k es = none → ERel m (delE k es) ces) ∧ (∀ v, findE k es = some v → ∀ i j v', Instr.findNow d k ces i = some (some (i + j, v')) → ERel m (delE k es) (ces.eraseIdx j)) := by
  intro es
  induction es with
  | nil => intro ces he _; cases ces with
    | nil => exact ⟨fun _ => trivial, fun v hv => by simp [findE] at hv⟩
    | cons => exact he.elim
  | cons y r ih =>
    intro ces he hk
    cases ces with
    | nil => exact he.elim
    | cons c s =>
      obtain ⟨⟨e1, e2, e3⟩, e4⟩ := he
      simp only [keysOk, List.all_cons, Bool.and_eq_true] at hk
      obtain ⟨q1, q2⟩ := key_same h1 hk.1
      obtain ⟨i1, i2⟩ := ih s e4 hk.2
      have q1 : Instr.sameNow d k c.key = some (keyEq k y.1) := by rw [← e1]; exact q1
      cases hq : keyEq k y.1 with
      | true =>
        refine ⟨fun hf => by simp [findE, hq] at hf, fun v _ i j v' hf => ?_⟩
        simp only [Instr.findNow, q1, hq, Option.some.injEq, Prod.mk.injEq] at hf
        obtain rfl : j = 0 := by omega
        simp only [delE, hq, if_true, List.eraseIdx_cons_zero]
        exact e4
      | false =>
        refine ⟨fun hf => ?_, fun v hv i j v' hf => ?_⟩
        · simp only [findE, hq, Bool.false_eq_true, if_false] at hf
          simp only [delE, hq, Bool.false_eq_true, if_false]
          exact ⟨⟨e1, e2, e3⟩, i1 hf⟩
        · simp only [findE, hq, Bool.false_eq_true, if_false] at hv
          simp only [Instr.findNow, q1, hq] at hf
          have hfr := find_rel h1 r s (i + 1) e4 hk.2
          rw [hv] at hfr
          obtain ⟨j', u, a1, _⟩ := hfr
          rw [a1] at hf
          simp only [Option.some.injEq, Prod.mk.injEq] at hf
          obtain rfl : j = j' + 1 := by omega
          simp only [delE, hq, Bool.false_eq_true, if_false, List.eraseIdx_cons_succ]
          exact ⟨⟨e1, e2, e3⟩, i2 v hv (i + 1) j' u a1⟩

theorem delete_does {args : Array TypeId} {t0 : TypeId} {x x' k k' : Value} {f : Eff} (hr : HRel m (mix h N F) w) (hwf : HWf h) (hN : h.nx ≤ N) (hx : VRel m x x') (hk : VRel m k k')
    (he : aDelete P args x k h.get = some f) : DoesV P (Builtin.delete_ args t0 #[x', k']) f h N F m w := by
  unfold aDelete at he
  split at he <;> try (simp at he; done)
  rename_i t rest hargs
  have ht : args[0]? = some t := by rw [← Array.getElem?_toList, hargs]; rfl
  split at he <;> try (simp at he; done)
  rename_i kt elem r hu
  split at he <;> try (simp at he; done)
  rename_i d hd
  split at he <;> try (simp at he; done)
  rename_i hcond
  simp only [Bool.and_eq_true] at hcond
  obtain ⟨hsk, hkd⟩ := hcond
  have := key_rel hsk hk
  subst this
  cases r with
  | none =>
    simp only [AM.ret, Option.some.injEq] at he
    subst he
    cases hx
    refine DoesV.ret hr (v' := .tuple #[]) ?_ VRel.undef
    simp [Builtin.delete_, ht, ru hu, checkKey_run hd hkd]
  | some r =>
    simp only at he
    split at he <;> try (simp at he; done)
    rename_i es clk hg
    split at he <;> try (simp at he; done)
    rename_i hko
    simp only [Option.some.injEq] at he
    subst he
    obtain ⟨l, hm, hrw, ces, q1, q2⟩ := hr.map hwf hN hg
    have := map_live hx hm
    subst this
    have hfind := find_rel hkd es ces.toList 0 q2 hko
    obtain ⟨p1, p2⟩ := del_rel hkd es ces.toList q2 hko
    have hlt : l.cb < w.heap.size := hr.lt hm
    cases hf : findE k' es with
    | none =>
      rw [hf] at hfind
      simp only at hfind
      have hb : BRel m { w with heap := w.heap.setIfInBounds l.cb (.map ces clk) } (.live l) (some (.map (delE k' es) clk)) :=
        ⟨hrw, ces, by simp [hlt], p1 hf⟩
      obtain ⟨r1, r2⟩ := wr_rel (v := undef) hr (lt_of_get hwf hN hg) hm hrw hb
      refine ⟨_, m, undef, ?_, VRel.undef, r1, r2⟩
      simp [Builtin.delete_, ht, ru hu, getObj, Sem.run, q1, checkKey_run hd hkd, Instr.findKey, ru hd, hfind, setObj, undef]
    | some v =>
      rw [hf] at hfind
      obtain ⟨j, v', a1, a2, e, a3, a4⟩ := hfind
      simp only [Nat.zero_add] at a1
      have hb : BRel m { w with heap := w.heap.setIfInBounds l.cb (.map (ces.eraseIdxIfInBounds j) clk) } (.live l) (some (.map (delE k' es) clk)) := by
        refine ⟨hrw, ces.eraseIdxIfInBounds j, by simp [hlt], ?_⟩
        have := p2 v hf 0 j v' (by simpa using a1)
        have hj : j < ces.size := by
          rw [Array.getElem?_toList] at a3
          exact (Array.getElem?_eq_some_iff.1 a3).1
        rw [Array.eraseIdxIfInBounds, dif_pos hj, Array.toList_eraseIdx]
        exact this
      obtain ⟨r1, r2⟩ := wr_rel (v := undef) hr (lt_of_get hwf hN hg) hm hrw hb
      refine ⟨_, m, undef, ?_, VRel.undef, r1, r2⟩
      simp [Builtin.delete_, ht, ru hu, getObj, Sem.run, q1, checkKey_run hd hkd, Instr.findKey, ru hd, a1, setObj, undef]

theorem ERel.length : ∀ {es : List (Value × Value × Nat)} {ces : List MapEntry}, ERel m es ces → ces.length = es.length
  | [], [], _ => rfl
  | _ :: _, _ :: _, ⟨_, h⟩ => by simp [ERel.length h]
  | [], _ :: _, h => h.elim
  | _ :: _, [], h => h.elim

theorem len_does {args : Array TypeId} {t0 : TypeId} {x x' : Value} {f : Eff} (hr : HRel m (mix h N F) w) (hwf : HWf h) (hN : h.nx ≤ N) (hx : VRel m x x')
    (he : aLen P args x h.get = some f) : DoesV P (Builtin.len_ args t0 #[x']) f h N F m w := by
  unfold aLen at he
  split at he <;> try (simp at he; done)
  rename_i t rest hargs
  have ht : args[0]? = some t := by rw [← Array.getElem?_toList, hargs]; rfl
  split at he <;> try (simp at he; done)
  · rename_i s hu
    simp only [AM.ret, Option.some.injEq] at he; subst he
    cases hx
    exact DoesV.ret hr (by simp [Builtin.len_, ht, ru hu, goInt]) (.int _ _)
  · rename_i e a n c hu
    simp only [AM.ret, Option.some.injEq] at he; subst he
    cases hx <;> exact DoesV.ret hr (by simp [Builtin.len_, ht, ru hu, goInt]) (.int _ _)
  · rename_i n e hu
    simp only [AM.ret, Option.some.injEq] at he; subst he
    exact DoesV.ret hr (by simp [Builtin.len_, ht, ru hu, goInt]) (.int _ _)
  · rename_i arr hu
    split at he <;> try (simp at he; done)
    rename_i n e hu2
    simp only [AM.ret, Option.some.injEq] at he; subst he
    exact DoesV.ret hr (by simp [Builtin.len_, ht, ru hu, ru hu2, goInt]) (.int _ _)
  · rename_i k e hu
    simp only [AM.ret, Option.some.injEq] at he; subst he
    cases hx
    exact DoesV.ret hr (by simp [Builtin.len_, ht, ru hu, goInt]) (.int _ _)
  · rename_i k e r hu
    split at he <;> try (simp at he; done)
    rename_i es hg
    simp only [AM.ret, Option.some.injEq] at he; subst he
    obtain ⟨l, hm, hrw, ces, q1, q2⟩ := hr.map hwf hN hg
    have := map_live hx hm
    subst this
    have hl := q2.length
    simp only [Array.length_toList] at hl
    exact DoesV.ret hr (by simp [Builtin.len_, ht, ru hu, goInt, getObj, Sem.run, q1, hl]) (.int _ _)

theorem range_does {t : TypeId} {x x' : Value} {f : Eff} (hr : HRel m (mix h N F) w) (hwf : HWf h) (hN : (h.apply f).nx ≤ N) (hx : VRel m x x') (hN0 : h.nx ≤ N) (he : effRange P t x h.get h.nx = some f) : DoesV P (Instr.range t x') f h N F m w := by
  unfold effRange at he
  split at he <;> try (simp at he; done)
  rotate_left
  · rename_i kt et r hu
    split at he <;> try (simp at he; done)
    rename_i es c hg
    cases he
    obtain ⟨l, hm, hrw, ces, q1, q2⟩ := hr.map hwf hN0 hg
    have := map_live hx hm
    subst this
    obtain ⟨m', e1, e2, e3, e4⟩ := nw_rel (v := ptr h.nx 0) (l := ⟨w.heap.size, 0, 0, 0, 0, true⟩) (x := .iter r c [] none c) (o := .mapIter (some l.cb) c #[] c) w.drawn hr hwf hN rfl rfl (fun m' he' _ => ⟨⟨rfl, rfl⟩, l.cb, #[], by simp, MapAt.mono he' (.inr ⟨l, hm, rfl⟩), by simp, by simp⟩)
    refine ⟨_, m', _, ?_, VRel.ptr h.nx 0 _ e2, e3, e4⟩
    simp [Instr.range, ru hu, getObj, Sem.run, q1]
  rename_i s hu
  cases he
  cases hx
  obtain ⟨m', e1, e2, e3, e4⟩ := nw_rel (v := ptr h.nx 0) (l := ⟨w.heap.size, 0, 0, 0, 0, true⟩) (x := .str s 0) (o := .stringIter s 0) w.drawn hr hwf hN rfl rfl (fun m' _ _ => ⟨⟨rfl, rfl⟩, by simp⟩)
  refine ⟨_, m', _, ?_, VRel.ptr h.nx 0 _ e2, e3, e4⟩
  simp [Instr.range, ru hu]

theorem next_does {t : TypeId} {x x' : Value} {b : Bool} {f : Eff} (hr : HRel m (mix h N F) w) (hwf : HWf h) (hN : h.nx ≤ N) (hx : VRel m x x') (he : effNext x b h.get = some f) : DoesV P (Instr.next x' b t) f h N F m w := by
  cases b with
  | false => simp [effNext] at he
  | true =>
    simp only [effNext] at he
    unfold effNextS at he
    split at he <;> try (simp at he; done)
    rename_i r
    split at he <;> try (simp at he; done)
    rename_i s pos hg
    obtain ⟨l, hm, ⟨hrw, hsh⟩, hq⟩ := hr.str hwf hN hg
    have := ptr_live hx hm
    rw [hsh] at this
    subst this
    split at he
    · rename_i hlt
      simp only [Option.some.injEq] at he
      subst he
      have hll : l.cb < w.heap.size := hr.lt hm
      have hb : BRel m { w with heap := w.heap.setIfInBounds l.cb (.stringIter s (pos + (Utf8.decode s pos).2)) } (.live l) (some (.str s (pos + (Utf8.decode s pos).2))) := ⟨⟨hrw, hsh⟩, by simp [hll]⟩
      obtain ⟨r1, r2⟩ := wr_rel (v := .tuple #[.bool true, .int .i64 pos, .int .i32 (Utf8.decode s pos).1]) hr (lt_of_get hwf hN hg) hm hrw hb
      refine ⟨_, m, .tuple #[.bool true, .int .i64 pos, .int .i32 (Utf8.decode s pos).1], ?_, .tuple _ _ (.cons _ _ _ _ (.bool _) (.cons _ _ _ _ (.int _ _) (.cons _ _ _ _ (.int _ _) .nil))), r1, r2⟩
      simp [Instr.next, getObj, Sem.run, hq, hlt, setObj, goInt]
    · rename_i hlt
      simp only [AM.ret, Option.some.injEq] at he
      subst he
      exact DoesV.ret hr (by simp [Instr.next, getObj, Sem.run, hq, hlt]) (.tuple _ _ (.cons _ _ _ _ (.bool _) .nil))

theorem assert_does {t a : TypeId} {x x' : Value} {ok : Bool} {f : Eff} (hr : HRel m (mix h N F) w) (hx : VRel m x x') (he : effAssert P x a ok = some f) : DoesV P (Instr.typeAssert x' t a ok) f h N F m w := by
  have hf : effAssert.fails P a = some f → ∃ z, zeroV P a = some z ∧ f = ⟨.tuple #[z, .bool false], [], []⟩ := by
    intro hq
    unfold effAssert.fails at hq
    split at hq <;> try (simp at hq; done)
    rename_i z hz
    simp only [AM.ret, Option.some.injEq] at hq
    exact ⟨z, hz, hq.symm⟩
  unfold effAssert at he
  split at he <;> try (simp at he; done)
  rename_i d hni hu
  split at he <;> try (simp at he; done)
  · split at he <;> try (simp at he; done)
    rename_i hok
    obtain ⟨z, hz, rfl⟩ := hf he
    cases hx
    refine DoesV.ret hr (v' := .tuple #[z, .bool false]) ?_ (.tuple _ _ (.cons _ _ _ _ (zeroV_rel hz) (.cons _ _ _ _ (.bool _) .nil)))
    cases d <;> first
      | exact (hni _ rfl).elim
      | simp [Instr.typeAssert, ru hu, hok, rz hz]
  · rename_i t' v
    cases hx with
    | iface _ _ v' hv =>
      split at he
      · rename_i hta
        simp only [AM.ret, Option.some.injEq] at he
        subst he
        subst hta
        refine DoesV.ret hr (v' := if ok then .tuple #[v', .bool true] else v') ?_ ?_
        · cases d <;> first
            | exact (hni _ rfl).elim
            | simp [Instr.typeAssert, ru hu]
        · cases ok
          · exact hv
          · exact .tuple _ _ (.cons _ _ _ _ hv (.cons _ _ _ _ (.bool _) .nil))
      · rename_i hta
        split at he <;> try (simp at he; done)
        rename_i hok
        obtain ⟨z, hz, rfl⟩ := hf he
        refine DoesV.ret hr (v' := .tuple #[z, .bool false]) ?_ (.tuple _ _ (.cons _ _ _ _ (zeroV_rel hz) (.cons _ _ _ _ (.bool _) .nil)))
        cases d <;> first
          | exact (hni _ rfl).elim
          | simp [Instr.typeAssert, ru hu, hok, hta, rz hz]

theorem iface_does {t : TypeId} {x x' : Value} {f : Eff} (hr : HRel m (mix h N F) w) (hx : VRel m x x') (he : effIface P t x = some f) : DoesV P (Instr.makeInterface t x') f h N F m w := by
  unfold effIface at he
  split at he <;> try (simp at he; done)
  rename_i d hni hu
  simp only [AM.ret, Option.some.injEq] at he
  subst he
  refine DoesV.ret hr (v' := .iface t x') ?_ (.iface _ _ _ hx)
  cases d <;> first
    | exact (hni _ rfl).elim
    | simp [Instr.makeInterface, ru hu]

theorem arrPtr_does {t : TypeId} {x x' : Value} {f : Eff} (hr : HRel m (mix h N F) w) (hx : VRel m x x') (he : effArrPtr P t x = some f) : DoesV P (Instr.arrayAt t x') f h N F m w := by
  unfold effArrPtr at he
  split at he <;> try (simp at he; done)
  rename_i n e a len c hu
  split at he <;> try (simp at he; done)
  rename_i hc
  have hlen : ¬ len < n := fun e => hc (.inl e)
  have hn : n ≠ 0 := fun e => hc (.inr e)
  simp only [AM.ret, Option.some.injEq] at he
  subst he
  cases hx with
  | sliceNil => exact DoesV.ret hr (by simp [Instr.arrayAt, ru hu, hlen]) .ptrNil
  | slice b off _ _ cap' l hm hs => exact DoesV.ret hr (by simp [Instr.arrayAt, ru hu, hlen]) (.ptr b off l hm)
  | sliceEnd b off a' l hm ho => omega
  | sliceDead a a' _ _ c' hd => exact DoesV.ret hr (v' := .pointer (some a')) (by simp [Instr.arrayAt, ru hu, hlen]) (.ptrDead _ _ hd)

theorem func_does {fn : Fn} {a b a' b' : Array Value} {f : Eff} (hr : HRel m (mix h N F) w) (ha : VRels m a.toList a'.toList) (hb : VRels m b.toList b'.toList) (he : effFunc fn a b = some f) : DoesV P (Instr.makeFunc fn a' b') f h N F m w := by
  simp only [effFunc, AM.ret, Option.some.injEq] at he
  subst he
  exact DoesV.ret hr (by simp [Instr.makeFunc]) (.func _ _ _ _ _ ha hb)

/- ## texts and bytes -/
theorem bytesGo {l l' : List Value} {acc : List UInt8} {s : ByteArray} (hl : VRels m l l') (he : bytesAt.go l acc = some s) :
    ∃ ns : List Int, l' = ns.map (Value.int .u8) ∧ s = ⟨(acc.reverse ++ ns.map fun n => UInt8.ofNat n.toNat).toArray⟩ := by
  induction l generalizing l' acc with
  | nil => cases hl; simp only [bytesAt.go, Option.some.injEq] at he; subst he; exact ⟨[], rfl, by simp⟩
  | cons v r ih =>
    cases hl with
    | cons _ v' _ r' hv hr =>
      cases hv <;> try (simp [bytesAt.go] at he; done)
      rename_i k n
      cases k <;> try (simp [bytesAt.go] at he; done)
      simp only [bytesAt.go] at he
      obtain ⟨ns, h1, h2⟩ := ih hr he
      exact ⟨n :: ns, by simp [h1], by rw [h2]; simp⟩
theorem foldl_push : ∀ (ns : List Int) (s : ByteArray), ns.foldl (fun r n => r.push (UInt8.ofNat n.toNat)) s = ⟨(s.data.toList ++ ns.map fun n => UInt8.ofNat n.toNat).toArray⟩ := by
  intro ns
  induction ns with
  | nil => intro s; simp
  | cons n r ih =>
    intro s
    rw [List.foldl_cons, ih]
    apply bytes_ext
    simp [ByteArray.push]

theorem conv_does {s d : TypeId} {x x' : Value} {f : Eff} (hr : HRel m (mix h N F) w) (hwf : HWf h) (hN : (h.apply f).nx ≤ N) (hN0 : h.nx ≤ N) (hx : VRel m x x') (he : effConv P s d x h.get h.nx = some f) : DoesV P (convert s d x') f h N F m w := by
  unfold effConv at he
  split at he <;> try (simp at he; done)
  · rename_i k n
    cases hx
    split at he <;> try (simp at he; done)
    · rename_i ds kd hs hd
      simp only [AM.ret, Option.some.injEq] at he
      subst he
      refine DoesV.ret hr ?_ (.int _ _)
      simp [convert, ru hs, ru hd, Conv.intToInt, wrapF_eq]
    · rename_i ds hs hd
      simp only [AM.ret, Option.some.injEq] at he
      subst he
      refine DoesV.ret hr ?_ (.string _)
      simp [convert, ru hs, ru hd, Conv.intToString]
  · rename_i i
    split at he <;> try (simp at he; done)
    rename_i ds k hs hd
    obtain ⟨r, hr1, hr2⟩ := Option.bind_eq_some_iff.1 he
    simp only [AM.ret, Option.some.injEq] at hr2
    subst hr2
    cases hx with
    | sym _ k0 n hi =>
      have := (tok_facts hr hwf hN0 hi _ (findConv_ok hr1)).1
      refine DoesV.ret hr ?_ this
      simp [convert, ru hs, ru hd, Conv.intToInt]
  · rename_i t
    cases hx
    split at he <;> try (simp at he; done)
    · rename_i ds hs hd
      simp only [AM.ret, Option.some.injEq] at he
      subst he
      refine DoesV.ret hr ?_ (.string _)
      simp [convert, ru hs, ru hd]
    · rename_i ds e hs hd
      split at he <;> try (simp at he; done)
      rename_i hu
      simp only [Option.some.injEq] at he
      subst he
      -- the capacity is drawn
      generalize hcap : (Question.appendCap t.size 0 e).cut (w.tape w.drawn (.appendCap t.size 0 e)) = cap
      have hle : t.size ≤ cap := by rw [← hcap]; exact Nat.le_add_right _ _
      let vs : List Value := t.data.toList.map fun b => .int .u8 b.toNat
      let c : Array Value := (t.data.map fun b => Value.int .u8 b.toNat) ++ Array.replicate (cap - t.size) (.int .u8 0)
      have hvs : vs.length = t.size := by
        show (List.map _ t.data.toList).length = t.size
        rw [List.length_map, Array.length_toList]; rfl
      have hcs : c.size = cap := by
        show ((t.data.map fun b => Value.int .u8 b.toNat) ++ Array.replicate (cap - t.size) (Value.int .u8 0)).size = cap
        rw [Array.size_append, Array.size_map, Array.size_replicate]
        have : t.data.size = t.size := rfl
        omega
      have hpl : vs.all plainCell = true := by rw [List.all_eq_true]; intro v hv; simp only [vs, List.mem_map] at hv; obtain ⟨b, _, rfl⟩ := hv; rfl
      have hv : VRels m vs (c.toList.take vs.length) := by
        have : c.toList.take vs.length = vs := by
          simp only [c, Array.toList_append, Array.toList_map]
          rw [List.take_append_of_le_length (by simp [vs]), List.take_of_length_le (by simp [vs])]
        rw [this]; exact plainCells_rel hpl
      obtain ⟨m', e1, e2, e3, e4⟩ := nw_rel (v := .slice (some ⟨h.nx, 0, none⟩) t.size t.size) (l := ⟨w.heap.size, 0, 1, vs.length, c.size, true⟩) (x := .cells (ofList vs) vs.length .bytes) (o := .cells c e (c.size, c.size + 1)) (w.drawn + 1) hr hwf hN rfl rfl
        (fun m' he _ => new_cells (k := .bytes) (by omega) hv (plainCells_one hpl) (And.intro rfl (And.intro (fun i hi => by
          have hi : i < c.size := hi
          simp; omega) rfl)) he)
      refine ⟨_, m', .slice (some ⟨w.heap.size, 0, none⟩) t.size cap, ?_, ?_, by rw [hvs] at e3; exact e3, e4⟩
      · simp only [convert, Sem.run_bind, ru hs, ru hd, ru hu, Result.andThen_ok, Conv.stringToBytes, run_choose, Question.forced, Bool.false_eq_true, if_false, hcap, run_newRow]
        simp only [markStringish, Sem.run_bind, run_shape, World.shape?, Result.andThen_ok]
        simp only [Array.getElem?_push_size]
        simp only [run_freeze, Result.andThen_ok, Sem.run_pure, World.freeze]
        simp only [Nat.succ_ne_zero, if_false]
        congr 2
        apply Array.ext_getElem?
        intro i
        simp only [Array.getElem?_modify, Array.getElem?_push]
        by_cases hi : w.heap.size = i
        · subst hi; simp [c]
        · simp [hi, Ne.symm hi]
      · refine .slice h.nx 0 t.size t.size cap _ e2 (.inr ⟨(show 0 + t.size * 1 = vs.length by omega), (show 0 + 0 + cap * 1 = c.size by omega), (show 0 < 1 by omega), hle⟩)
  · rename_i a len cap
    split at he <;> try (simp at he; done)
    rename_i e hs hd
    split at he <;> try (simp at he; done)
    rename_i hu
    cases a with
    | none =>
      simp only [AM.ret, Option.some.injEq] at he
      subst he
      cases hx
      refine DoesV.ret hr ?_ (.string _)
      simp [convert, ru hs, ru hd, ru hu, Conv.bytesToString]
    | some ad =>
      obtain ⟨b, off, sp⟩ := ad
      cases sp with
      | some q => simp at he
      | none =>
        simp only at he
        cases hb : bytesAt (h.get b) off len with
        | none => simp [hb] at he
        | some t =>
          simp only [hb, Option.bind_some, AM.ret, Option.some.injEq] at he
          subst he
          unfold bytesAt at hb
          split at hb <;> try (simp at hb; done)
          rename_i xs n k hg
          split at hb <;> try (simp at hb; done)
          rename_i hle
          obtain ⟨l, hm, c, el, fr, hc⟩ := hr.cells hwf hN0 hg
          have hfit := hc.fit
          have hcsz := hc.csz
          rcases slice_live hx hm with ⟨cap2, hx2, _⟩ | ⟨z1, z2, z3, a2, hx2⟩
          · subst hx2
            have hrel := (cells_rel hc.cell hle (by omega)).1
            obtain ⟨ns, h1, h2⟩ := bytesGo hrel hb
            refine DoesV.ret hr (v' := .string t) ?_ (.string _)
            rw [run_convert_bytes_string w s d e _ _ _ hs hu hd]
            have hl := run_cells (P := P) hc.heap (show l.sh + off + len ≤ c.size by omega)
            rw [h1] at hl
            rw [run_bytesToString w _ len cap2 ns hl, foldl_push, h2]
            simp
          · subst hx2
            subst z1
            simp only [loadL_zero, bytesAt.go, Option.some.injEq] at hb
            subst hb
            refine DoesV.ret hr (v' := .string ⟨#[]⟩) ?_ (.string _)
            rw [run_convert_bytes_string w s d e _ _ _ hs hu hd]
            rw [run_bytesToString w _ 0 0 [] (by simp [loadCells, loadCellsFrom])]
            rfl

/- ## comparisons -/
theorem evalPure_run {α : Type} {s : Sem α} {a : α} (hs : evalPure P s = some a) (w : World) : s.run P w = .ok a w := by
  induction s with
  | pure b => simp only [evalPure, Option.some.injEq] at hs; subst hs; rfl
  | program k ih => simp only [evalPure] at hs; exact ih P hs
  | _ => simp [evalPure] at hs

theorem firm_free {l : Loc} {n : Nat} {k : Kind} {fr : Nat × Nat} {el : TypeId} (hk : KRel l n k fr el) (hf : firm k = true) : fr = (0, 0) := by
  cases k <;> simp [firm] at hf
  · exact hk.2.2.2
  · exact hk.2.1
  · exact hk.2.2.2.1
  · exact hk.2.1

theorem eqlIn_run {d : Nat} {t : TypeId} {x x' y y' : Value} {b : Bool} (hr : HRel m (mix h N F) w) (hwf : HWf h) (hN : h.nx ≤ N) (hx : VRel m x x') (hy : VRel m y y') (he : eqlV P t x y h.get = some b) :
    (Op.equalIn (d + 1) t x' y').run P w = .ok b w := by
  rw [Op.equalIn, Sem.run_bind]
  unfold eqlV at he
  split at he <;> try (simp at he; done)
  · rename_i e hu
    split at he <;> try (simp at he; done)
    · rename_i b2
      simp only [Option.some.injEq] at he
      subst he
      rw [ru hu]
      cases hx
      cases hy <;> rfl
    · simp only [Option.some.injEq] at he
      subst he
      rw [ru hu]
      cases hy
      cases hx <;> rfl
    · rename_i a1 a2
      split at he <;> try (simp at he; done)
      rename_i sz hsz
      split at he <;> try (simp at he; done)
      rename_i xs n k xs' n' k' hg1 hg2
      obtain ⟨l, hm, c, el, fr, hc⟩ := hr.cells hwf hN hg1
      obtain ⟨l', hm', c', el', fr', hc'⟩ := hr.cells hwf hN hg2
      obtain ⟨o1, hp1⟩ : ∃ o1, a1 = ⟨a1.block, o1, none⟩ ∧ x' = .pointer (some ⟨l.cb, l.sh + o1, none⟩) := by
        cases hx with
        | ptr b off l2 h2 => simp only at hm; rw [hm] at h2; cases h2; exact ⟨off, rfl, rfl⟩
        | ptrDead _ _ h2 => rw [hm] at h2; cases h2
      obtain ⟨o2, hp2⟩ : ∃ o2, a2 = ⟨a2.block, o2, none⟩ ∧ y' = .pointer (some ⟨l'.cb, l'.sh + o2, none⟩) := by
        cases hy with
        | ptr b off l2 h2 => simp only at hm'; rw [hm'] at h2; cases h2; exact ⟨off, rfl, rfl⟩
        | ptrDead _ _ h2 => rw [hm'] at h2; cases h2
      obtain ⟨hp1, rfl⟩ := hp1
      obtain ⟨hp2, rfl⟩ := hp2
      have hs' : (sizeOf e).run P w = .ok (sz + 1) w := rs' hsz w
      rw [ru hu]
      simp only [Result.andThen_ok, Sem.run_bind, hs']
      rw [if_pos (by simp)]
      by_cases hbb : a1.block = a2.block
      · rw [if_pos hbb] at he
        simp only [Option.some.injEq] at he
        subst he
        rw [hbb] at hm
        rw [hm] at hm'
        cases hm'
        simp only [sameAddr, beq_self_eq_true, if_true, Sem.run_pure]
        congr 1
        rw [hp1, hp2, hbb, Bool.eq_iff_iff]
        simp
      · rw [if_neg hbb] at he
        split at he <;> try (simp at he; done)
        rename_i hfm
        simp only [Bool.and_eq_true] at hfm
        simp only [Option.some.injEq] at he
        subst he
        have hro1 : roB (mix h N F a1.block) = false := by
          rw [mix_lt h F (lt_of_get hwf hN hg1), hg1]
          have := hfm.1
          cases k <;> first | rfl | (simp [firm] at this)
        have hf1 := firm_free hc.kind hfm.1
        have hf2 := firm_free hc'.kind hfm.2
        subst hf1; subst hf2
        have hne : l.cb ≠ l'.cb := fun e => hbb (hr.inj _ _ _ _ hm hm' e hro1)
        have hne' : (l.cb == l'.cb) = false := by simpa using hne
        have z1 : ∀ o, w.frozen? ⟨l.cb, o, none⟩ = false := fun o => by rw [frozen_at hc.heap]; simp
        have z2 : ∀ o, w.frozen? ⟨l'.cb, o, none⟩ = false := fun o => by rw [frozen_at hc'.heap]; simp
        have z3 : w.shape? l.cb = some (el, c.size) := by simp [World.shape?, hc.heap]
        have z4 : w.shape? l'.cb = some (el', c'.size) := by simp [World.shape?, hc'.heap]
        simp [sameAddr, hne', z1, z2, noView, viewAt, z3, z4, mayBeOne, stringish]
  · rename_i hu
    split at he <;> try (simp at he; done)
    simp only [Option.some.injEq] at he
    subst he
    rw [ru hu]
    cases hx; cases hy
    rfl
  · rename_i e hu
    split at he <;> try (simp at he; done)
    · simp only [Option.some.injEq] at he
      subst he
      rw [ru hu]
      cases hx
      cases hy <;> rfl
    · simp only [Option.some.injEq] at he
      subst he
      rw [ru hu]
      cases hy
      cases hx <;> rfl
  · rename_i kt et hu
    split at he <;> try (simp at he; done)
    · simp only [Option.some.injEq] at he
      subst he
      rw [ru hu]
      cases hx
      cases hy <;> rfl
    · simp only [Option.some.injEq] at he
      subst he
      rw [ru hu]
      cases hy
      cases hx <;> rfl
  · rename_i ps rs' vv hu
    split at he <;> try (simp at he; done)
    all_goals
      simp only [Option.some.injEq] at he
      subst he
      rw [ru hu]
      cases hx; cases hy
      rfl
  · rename_i ms hu
    split at he <;> try (simp at he; done)
    all_goals
      simp only [Option.some.injEq] at he
      subst he
      rw [ru hu]
      cases hx; cases hy
      rfl
theorem eql_run {t : TypeId} {x x' y y' : Value} {b : Bool} (hr : HRel m (mix h N F) w) (hwf : HWf h) (hN : h.nx ≤ N) (hx : VRel m x x') (hy : VRel m y y') (he : eqlV P t x y h.get = some b) :
    (Op.equal t x' y').run P w = .ok b w := eqlIn_run (d := 9999) hr hwf hN hx hy he
theorem part_one {e : TypeId} {de : TypeDesc} (hde : P.underlying e = some de) (hag : aggB (some de) = false) {cs : Array Value} {i : Nat} {v : Value} (h : cs[i]? = some v) (w : World) : (part e cs i).run P w = .ok v w := by
  simp only [part, Sem.run_bind, ra hde, hag, Result.andThen_ok]
  simp [h]
theorem eqCells_run {d : Nat} {e : TypeId} {de : TypeDesc} (hr : HRel m (mix h N F) w) (hwf : HWf h) (hN : h.nx ≤ N) (hde : P.underlying e = some de) (hag : aggB (some de) = false) {xs ys : Array Value} : ∀ (l s l' s' : List Value) (k : Nat) (b : Bool), VRels m l l' → VRels m s s' → eqCells P e h.get l s = some b →
    (∀ i, i < l.length → xs[k + i]? = l'[i]?) → (∀ i, i < l.length → ys[k + i]? = s'[i]?) → ∀ r0 : Option Bool × Unit, r0 = (none, ()) →
    (forIn (List.range' k l.length) r0 (fun i _ => (do
      let a ← part e xs (i * 1)
      let b ← part e ys (i * 1)
      let c ← Op.equalIn (d + 1) e a b
      if (!c) = true then pure (ForInStep.done (some false, ())) else pure (ForInStep.yield (none, ())) : Sem (ForInStep (Option Bool × Unit))))).run P w = .ok (if b then (none, ()) else (some false, ())) w := by
  intro l
  induction l with
  | nil =>
    intro s l' s' k b h1 h2 he hx hy r0 hr0
    cases h1
    cases h2 with
    | nil =>
      simp only [eqCells, Option.some.injEq] at he
      subst he; subst hr0
      simp
    | cons => simp [eqCells] at he
  | cons v l ih =>
    intro s l' s' k b h1 h2 he hx hy r0 hr0
    cases h1 with
    | cons _ v' _ l2 hv hl =>
    cases h2 with
    | nil => simp [eqCells] at he
    | cons u u' s s2 hu hs =>
      rw [eqCells] at he
      have e1 : xs[k]? = some v' := by have := hx 0 (by simp); simpa using this
      have e2 : ys[k]? = some u' := by have := hy 0 (by simp); simpa using this
      rw [List.length_cons, List.range'_succ, List.forIn_cons]
      simp only [Nat.mul_one, Sem.run_bind, part_one hde hag e1, part_one hde hag e2, Result.andThen_ok]
      split at he
      · rename_i hq
        rw [eqlIn_run hr hwf hN hv hu hq]
        simp only [Result.andThen_ok, Bool.not_true, Bool.false_eq_true, if_false, Sem.run_pure]
        have := ih s l2 s2 (k + 1) b hl hs he (fun i hi => by have := hx (i + 1) (by simp; omega); rw [show k + 1 + i = k + (i + 1) by omega]; simpa using this) (fun i hi => by have := hy (i + 1) (by simp; omega); rw [show k + 1 + i = k + (i + 1) by omega]; simpa using this) (none, ()) rfl
        simpa only [Nat.mul_one] using this
      · rename_i hq
        simp only [Option.some.injEq] at he
        subst he
        rw [eqlIn_run hr hwf hN hv hu hq]
        simp
      · simp at he
theorem eqArr_run {t : TypeId} {a b a' b' : Array Value} {r : Bool} (hr : HRel m (mix h N F) w) (hwf : HWf h) (hN : h.nx ≤ N) (ha : VRels m a.toList a'.toList) (hb : VRels m b.toList b'.toList) (he : eqArr P t a b h.get = some r) :
    (Op.equal t (.agg a') (.agg b')).run P w = .ok r w ∧ P.eqGuardType P.depth t = false := by
  unfold eqArr at he
  split at he <;> try (simp at he; done)
  rename_i len e hu
  split at he <;> try (simp at he; done)
  rename_i de hde hsz
  split at he <;> try (simp at he; done)
  rename_i hc
  simp only [Bool.or_eq_true, Bool.not_eq_true', not_or, Bool.not_eq_true, Bool.not_eq_false] at hc
  obtain ⟨⟨⟨c1, c2⟩, c3⟩, c4⟩ := hc
  refine ⟨?_, c2⟩
  have c3 := Nat.eq_of_beq_eq_true c3
  show (Op.equalIn (9998 + 1 + 1) t (.agg a') (.agg b')).run P w = _
  rw [Op.equalIn, Sem.run_bind, ru hu]
  simp only [Result.andThen_ok, Std.Legacy.Range.forIn_eq_forIn_range', Std.Legacy.Range.size, Nat.sub_zero, Nat.add_one_sub_one, Nat.div_one]
  rw [Sem.run_bind, rs' hsz]
  simp only [Result.andThen_ok]
  rw [Sem.run_bind, ← c3]
  have key := eqCells_run (d := 9998) hr hwf hN hde c1 (xs := a') (ys := b') a.toList b.toList a'.toList b'.toList 0 r ha hb he (fun i _ => by rw [Nat.zero_add, Array.getElem?_toList]) (fun i _ => by rw [Nat.zero_add, Array.getElem?_toList]) (none, ()) rfl
  rw [key]
  cases r <;> rfl
end Go.AM
end
section
/- What append, copy and clear do. -/
namespace Go.AM
variable {P : Program} {m : Mp} {h : Heap} {N : Nat} {F : Nat → Option Blk} {w : World}

theorem first_run {size n len : Nat} {x x' : Value} {l : List Value} (hr : HRel m (mix h N F) w) (hwf : HWf h) (hN : h.nx ≤ N) (hx : VRel m x x') (hl : lenV x = some len) (hn : n ≤ len) (he : firstL h.get size n x = some l) :
    ∃ a : Array Value, (Builtin.firstCells size n x').run P w = .ok a w ∧ VRels m l a.toList ∧ l.all Value.oneCell' = true ∧ l.length = n * size := by
  by_cases hz : n = 0
  · subst hz
    have he : firstZ x = some l := he
    unfold firstZ at he
    split at he <;> try (simp at he; done)
    · simp only [Option.some.injEq] at he
      subst he
      obtain ⟨a', c', rfl⟩ : ∃ a' c', x' = .slice a' len c' := by
        simp only [lenV, Option.some.injEq] at hl
        subst hl
        cases hx <;> exact ⟨_, _, rfl⟩
      refine ⟨#[], ?_, by simpa using VRels.nil, rfl, by simp⟩
      cases a' with
      | none => simp [Builtin.firstCells]
      | some a' => simp [Builtin.firstCells, loadCells, loadCellsFrom]
    · simp only [Option.some.injEq] at he
      subst he
      cases hx
      exact ⟨#[], by simp [Builtin.firstCells], by simpa using VRels.nil, rfl, by simp⟩
  replace he : firstS h.get size n x = some l := by
    obtain ⟨k, rfl⟩ : ∃ k, n = k + 1 := ⟨n - 1, by omega⟩
    exact he
  unfold firstS at he
  split at he <;> try (simp at he; done)
  · rename_i b off ln cp
    split at he <;> try (simp at he; done)
    rename_i xs mm k hg
    split at he <;> try (simp at he; done)
    rename_i hle
    simp only [Option.some.injEq] at he
    subst he
    obtain ⟨lc, hm, c, el, fr, hc⟩ := hr.cells hwf hN hg
    have hfit := hc.fit
    have hcsz := hc.csz
    have hrel := cells_rel hc.cell hle (by omega)
    rcases slice_live hx hm with ⟨cap2, hx2, _⟩ | ⟨z1, z2, z3, a2, hx2⟩
    · subst hx2
      exact ⟨_, by simp only [Builtin.firstCells]; exact run_cells hc.heap (by omega), hrel.1, hrel.2, length_loadL _ _ _⟩
    · subst hx2
      simp only [lenV, Option.some.injEq] at hl
      obtain rfl : n = 0 := by omega
      refine ⟨#[], ?_, ?_, ?_, ?_⟩
      · simp [Builtin.firstCells, loadCells, loadCellsFrom]
      · rw [Nat.zero_mul]; exact .nil
      · rw [Nat.zero_mul]; rfl
      · rw [Nat.zero_mul]; rfl
  · split at he <;> try (simp at he; done)
    rename_i hn0
    simp only [Option.some.injEq] at he
    subst he
    subst hn0
    cases hx
    exact ⟨#[], by simp [Builtin.firstCells], .nil, rfl, by simp⟩
  · rename_i s
    split at he <;> try (simp at he; done)
    rename_i hc
    simp only [Option.some.injEq] at he
    subst he
    cases hx
    have hpl : ((s.data.toList.take n).map fun b => Value.int .u8 b.toNat).all plainCell = true := by rw [List.all_eq_true]; intro v hv; simp only [List.mem_map] at hv; obtain ⟨b, _, rfl⟩ := hv; rfl
    refine ⟨(s.extract 0 n).data.map fun b => .int .u8 b.toNat, by simp [Builtin.firstCells], ?_, plainCells_one hpl, ?_⟩
    · have : ((s.extract 0 n).data.map fun b => Value.int .u8 b.toNat).toList = (s.data.toList.take n).map fun b => Value.int .u8 b.toNat := by
        rw [Array.toList_map]
        congr 1
        simp [ByteArray.extract, ByteArray.copySlice]
      rw [this]; exact plainCells_rel hpl
    · rw [List.length_map, List.length_take, hc.1, Nat.mul_one]
      have : s.data.toList.length = s.size := rfl
      omega

theorem HRel.kill {G : Nat → Option Blk} (hr : HRel m G w) {b : Nat} {l : Loc} (hb : m b = .live l) (hrw : l.rw = true) :
    HRel (fun b' => if b' = b then .dead else m b') (fun b' => if b' = b then some .dead else G b') w ∧ Step m w (fun b' => if b' = b then .dead else m b') w := by
  have hext : Ext m (fun b' => if b' = b then .dead else m b') := by
    intro b'
    by_cases e : b' = b
    · subst e; exact .inr (.inr ⟨by simp, fun l' hl' => by rw [hb] at hl'; cases hl'; exact hrw, fun k n hs => by rw [hb] at hs; cases hs⟩)
    · exact .inr (.inl (by simp [e]))
  refine ⟨⟨fun b' => ?_, ?_⟩, ?_⟩
  · by_cases e : b' = b
    · simp only [if_pos e]; trivial
    · simp only [if_neg e]; exact (hr.blk b').mono hext (fun _ _ => rfl)
  · intro b1 b2 l1 l2 h1 h2 e hro
    by_cases e1 : b1 = b
    · simp only [if_pos e1] at h1; cases h1
    · by_cases e2 : b2 = b
      · simp only [if_pos e2] at h2; cases h2
      · simp only [if_neg e1, if_neg e2] at h1 h2 hro
        exact hr.inj b1 b2 l1 l2 h1 h2 e hro
  · refine ⟨hext, Nat.le_refl _, rfl, rfl, fun _ _ _ => rfl, ?_, ?_⟩
    · intro b' l' hl' hr'
      by_cases e : b' = b
      · simp only [if_pos e] at hl'; cases hl'
      · simp only [if_neg e] at hl'; exact .inr ⟨b', l', hl', hr', rfl⟩
    · intro b' l' hl' _
      by_cases e : b' = b
      · simp only [if_pos e] at hl'; cases hl'
      · simpa only [if_neg e] using hl'

theorem HRel.move {G : Nat → Option Blk} {w' : World} (hr : HRel m G w) {b b2 : Nat} {l l2 : Loc} (hb : m b = .live l) (hrw : l.rw = true) (hb2 : G b2 = none) (hcb : l2.cb = l.cb) (hrw2 : l2.rw = true)
    (hsz : w'.heap.size = w.heap.size) (hos : w'.os = w.os) (hout : w'.output = w.output) (hoth : ∀ cb, cb ≠ l.cb → w'.heap[cb]? = w.heap[cb]?) {x : Blk}
    (hx : ∀ m', Ext m m' → BRel m' w' (.live l2) (some x)) :
    ∃ m', Ext m m' ∧ m' b2 = .live l2 ∧ HRel m' (fun b' => if b' = b2 then some x else if b' = b then some .dead else G b') w' ∧ Step m w m' w' := by
  have hfresh : m b2 = .fresh := by
    have := hr.blk b2
    rw [hb2] at this
    cases hm : m b2 with
    | fresh => rfl
    | dead => rw [hm] at this; exact this.elim
    | sym k n => rw [hm] at this; exact this.elim
    | live l => rw [hm] at this; exact this.elim
  have hne : b2 ≠ b := by intro e; rw [e, hb] at hfresh; cases hfresh
  have hro : roB (G b) = false := roB_rw (hb ▸ hr.blk b) hrw
  let m' : Mp := fun b' => if b' = b2 then .live l2 else if b' = b then .dead else m b'
  have hext : Ext m m' := by
    intro b'
    by_cases e : b' = b2
    · subst e; exact .inl hfresh
    · by_cases e2 : b' = b
      · subst e2; exact .inr (.inr ⟨by simp [m', e], fun l' hl' => by rw [hb] at hl'; cases hl'; exact hrw, fun k n hs => by rw [hb] at hs; cases hs⟩)
      · exact .inr (.inl (by simp [m', e, e2]))
  refine ⟨m', hext, by simp [m'], ⟨fun b' => ?_, ?_⟩, ?_⟩
  · by_cases e : b' = b2
    · simp only [m', if_pos e]; exact hx _ hext
    · by_cases e2 : b' = b
      · simp only [m', if_neg e, if_pos e2]; trivial
      · simp only [m', if_neg e, if_neg e2]
        refine (hr.blk b').mono hext ?_
        intro l' hl'
        exact hoth _ (fun e' => e2 (hr.inj b b' l l' hb hl' e'.symm hro).symm)
  · intro b1 b3 l1 l3 h1 h3 e hq
    simp only [m'] at h1 h3
    by_cases e1 : b1 = b2
    · by_cases e3 : b3 = b2
      · exact e1.trans e3.symm
      · simp only [if_pos e1, if_neg e3, Stat.live.injEq] at h1 h3
        by_cases e4 : b3 = b
        · simp only [if_pos e4] at h3; cases h3
        · simp only [if_neg e4] at h3
          subst h1
          exact absurd (hr.inj b b3 l l3 hb h3 (e.symm.trans hcb).symm hro).symm e4
    · simp only [if_neg e1] at h1
      by_cases e4 : b1 = b
      · simp only [if_pos e4] at h1; cases h1
      · simp only [if_neg e4] at h1
        by_cases e3 : b3 = b2
        · simp only [if_pos e3, Stat.live.injEq] at h3
          subst h3
          exact absurd (hr.inj b b1 l l1 hb h1 (e.trans hcb).symm hro).symm e4
        · simp only [if_neg e3] at h3
          by_cases e5 : b3 = b
          · simp only [if_pos e5] at h3; cases h3
          · simp only [if_neg e5] at h3
            simp only [if_neg e1, if_neg e4] at hq
            exact hr.inj b1 b3 l1 l3 h1 h3 e hq
  · refine ⟨hext, Nat.le_of_eq hsz.symm, hos, hout, fun cb _ hn => hoth cb (fun e => hn b l hb hrw e.symm), ?_, ?_⟩
    · intro b' l' hl' hr'
      simp only [m'] at hl'
      by_cases e : b' = b2
      · simp only [if_pos e, Stat.live.injEq] at hl'
        subst hl'; exact .inr ⟨b, l, hb, hrw, hcb.symm⟩
      · simp only [if_neg e] at hl'
        by_cases e2 : b' = b
        · simp only [if_pos e2] at hl'; cases hl'
        · simp only [if_neg e2] at hl'; exact .inr ⟨b', l', hl', hr', rfl⟩
    · intro b' l' hl' hr'
      simp only [m'] at hl'
      by_cases e : b' = b2
      · simp only [if_pos e, Stat.live.injEq] at hl'
        subst hl'; rw [hrw2] at hr'; cases hr'
      · simp only [if_neg e] at hl'
        by_cases e2 : b' = b
        · simp only [if_pos e2] at hl'; cases hl'
        · simpa only [if_neg e2] using hl'

theorem growBy_le (need : Nat) : ∀ (r c : Nat), c ≤ need + (need + 768) / 4 → Builtin.growBy need r c ≤ need + (need + 768) / 4 := by
  intro r
  induction r with
  | zero => intro c hc; exact hc
  | succ r ih =>
    intro c hc
    simp only [Builtin.growBy]
    split
    · exact hc
    · exact ih _ (by omega)
theorem nextcap_le {need old : Nat} (h : old < need) : Builtin.nextslicecap need old ≤ 2 * need + 192 := by
  unfold Builtin.nextslicecap
  split
  · omega
  · split
    · omega
    · have := growBy_le need 4 old (by omega)
      omega

theorem grow_run {st xt elem : TypeId} {d : TypeDesc} {args : Array TypeId} {t0 : TypeId} {i : TypeInfo} {zv : Value} {base : Option Addr} {sLen sCap n : Nat} {x' : Value} {old new : Array Value}
    (h0 : args[0]? = some st) (h1 : args[1]? = some xt) (hu : P.underlying st = some (.slice elem)) (hd : P.underlying xt = some d) (hni : ∀ k, d ≠ .int k) (hi : P.info? elem = some i) (hz : zeroV P elem = some zv)
    (hn : (Builtin.lenOf x').run P w = .ok n w) (hgt : ¬ sLen + n ≤ sCap) (hb : (sLen + n) * (i.bytes + i.size + 1) * 4 ≤ 2 ^ 40) (_ : i.size ≠ 0)
    (ho : ∀ w', w'.heap = w.heap → (Builtin.firstCells i.size sLen (.slice base sLen sCap)).run P w' = .ok old w') (hw : ∀ w', w'.heap = w.heap → (Builtin.firstCells i.size n x').run P w' = .ok new w') :
    ∃ cap, sLen + n ≤ cap ∧ (Builtin.append_ args t0 #[.slice base sLen sCap, x']).run P w = .ok (.slice (some ⟨w.heap.size, 0, none⟩) (sLen + n) cap)
      { w with heap := w.heap.push (.cells (old ++ new ++ Builtin.zeroCells zv.cells (cap - (sLen + n))) elem), drawn := w.drawn + 1 } := by
  refine ⟨(Question.appendCap (sLen + n) sCap elem).cut (w.tape w.drawn (.appendCap (sLen + n) sCap elem)), Nat.le_add_right _ _, ?_⟩
  have hneed : sLen + n ≤ (sLen + n) * (i.bytes + i.size + 1) := Nat.le_mul_of_pos_right _ (by omega)
  have hcap : Builtin.nextslicecap (sLen + n) sCap * i.bytes ≤ 2 ^ 48 := by
    have a1 := nextcap_le (need := sLen + n) (old := sCap) (by omega)
    have a2 : Builtin.nextslicecap (sLen + n) sCap * i.bytes ≤ (194 * (sLen + n)) * i.bytes := Nat.mul_le_mul_right _ (by omega)
    have a3 : (194 * (sLen + n)) * i.bytes = 194 * ((sLen + n) * i.bytes) := by rw [Nat.mul_assoc]
    have a4 : (sLen + n) * i.bytes ≤ (sLen + n) * (i.bytes + i.size + 1) := Nat.mul_le_mul_left _ (by omega)
    omega
  have hmax : ¬ (((sLen + n : Nat) : Int) > IntKind.i64.max) := by
    simp only [IntKind.max, IntKind.signed, IntKind.bits, if_true]
    omega
  simp only [Builtin.append_, h0, h1, List.getElem?_toArray, List.getElem?_cons_zero, List.getElem?_cons_succ, Sem.run_bind, ru hu, Result.andThen_ok, rs hi, ru hd, Sem.run_pure, Bool.false_eq_true, if_false, hn]
  rw [if_neg hgt]
  simp only [Sem.run_bind, ri hi, Result.andThen_ok]
  rw [if_neg (fun e => hmax e.1)]
  simp only [Sem.run_bind, ri hi, Result.andThen_ok]
  rw [if_neg (by omega)]
  simp only [Sem.run_bind, ri hi, Result.andThen_ok, run_choose, Question.forced, Bool.false_eq_true, if_false, run_askRoom]
  rw [ho { w with drawn := w.drawn + 1 } rfl]
  simp only [Result.andThen_ok, Bool.not_false, if_true]
  rw [hw { w with drawn := w.drawn + 1 } rfl]
  simp only [Result.andThen_ok, rz hz, run_newRow, Sem.run_pure]

theorem place_run {st xt elem : TypeId} {d : TypeDesc} {args : Array TypeId} {t0 : TypeId} {i : TypeInfo} {base : Option Addr} {sLen sCap n : Nat} {x' : Value} {new : Array Value}
    (h0 : args[0]? = some st) (h1 : args[1]? = some xt) (hu : P.underlying st = some (.slice elem)) (hd : P.underlying xt = some d) (hni : ∀ k, d ≠ .int k) (hi : P.info? elem = some i)
    (hn : (Builtin.lenOf x').run P w = .ok n w) (hle : sLen + n ≤ sCap) (hw : (Builtin.firstCells i.size n x').run P w = .ok new w) {w' : World}
    (hst : match base with
      | none => w' = w
      | some a => (storeCells (a.add (sLen * i.size)) new.toList).run P w = .ok () w') :
    (Builtin.append_ args t0 #[.slice base sLen sCap, x']).run P w = .ok (.slice base (sLen + n) sCap) w' := by
  simp only [Builtin.append_, h0, h1, List.getElem?_toArray, List.getElem?_cons_zero, List.getElem?_cons_succ, Sem.run_bind, ru hu, Result.andThen_ok, rs hi, ru hd, Sem.run_pure, Bool.false_eq_true, if_false, hn]
  rw [if_pos hle]
  simp only [Sem.run_bind, Bool.not_false, if_true, hw, Result.andThen_ok]
  cases base with
  | none => simp only at hst; subst hst; simp
  | some a => simp only at hst; simp [hst]

theorem len_run {x x' : Value} {n : Nat} (hx : VRel m x x') (hl : lenV x = some n) : (Builtin.lenOf x').run P w = .ok n w := by
  cases hx <;> simp only [lenV, reduceCtorEq, Option.some.injEq] at hl <;> subst hl <;> simp [Builtin.lenOf]

theorem first_heap {size n : Nat} {x : Value} {a : Array Value} (hx : (Builtin.firstCells size n x).run P w = .ok a w) : ∀ w', w'.heap = w.heap → (Builtin.firstCells size n x).run P w' = .ok a w' := by
  intro w' hw
  cases x with
  | slice b l c =>
    cases b with
    | none => simpa [Builtin.firstCells] using hx
    | some b =>
      simp only [Builtin.firstCells] at hx ⊢
      exact cells_heap hx hw
  | string s => simpa [Builtin.firstCells] using hx
  | _ => simp [Builtin.firstCells] at hx
where
  cells_heap {a : Addr} {n : Nat} {r : Array Value} {w w' : World} (hx : (loadCells a n).run P w = .ok r w) (hw : w'.heap = w.heap) : (loadCells a n).run P w' = .ok r w' := by
    unfold loadCells at hx ⊢
    exact from_heap n 0 #[] hx hw
  from_heap {a : Addr} : ∀ (n i : Nat) (acc : Array Value) {r : Array Value} {w w' : World}, (loadCellsFrom a i n acc).run P w = .ok r w → w'.heap = w.heap → (loadCellsFrom a i n acc).run P w' = .ok r w' := by
    intro n
    induction n with
    | zero => intro i acc r w w' hx _; simpa [loadCellsFrom] using hx
    | succ n ih =>
      intro i acc r w w' hx hw
      simp only [loadCellsFrom, Sem.run_bind, run_load] at hx ⊢
      have hc : w'.cell? (a.add i) = w.cell? (a.add i) := by simp only [World.cell?, hw]
      rw [hc]
      cases hv : w.cell? (a.add i) with
      | some v =>
        rw [hv] at hx
        simp only [Result.andThen_ok] at hx ⊢
        exact ih _ _ hx hw
      | none =>
        rw [hv] at hx
        simp only at hx
        -- what lies beyond the cells is not met
        have hf : w'.farLoad P (a.add i) (Mode.plain == .atomic) = w.farLoad P (a.add i) (Mode.plain == .atomic) := by
          cases w; cases w'; simp only at hw; subst hw; rfl
        rw [hf]
        cases hq : w.farLoad P (a.add i) (Mode.plain == .atomic) with
        | ok x =>
          rw [hq] at hx
          simp only [Result.andThen_ok] at hx ⊢
          exact ih _ _ hx hw
        | error e => rw [hq] at hx; simp at hx
end Go.AM
end
section
/- What append, copy and clear do: all ways. -/
namespace Go.AM
variable {P : Program} {m : Mp} {h : Heap} {N : Nat} {F : Nat → Option Blk} {w : World}

theorem append_does {args : Array TypeId} {t0 : TypeId} {s s' x x' : Value} {f : Eff} (hr : HRel m (mix h N F) w) (hwf : HWf h) (hN : (h.apply f).nx ≤ N) (hN0 : h.nx ≤ N) (hs : VRel m s s') (hx : VRel m x x')
    (he : aAppend P args s x h.get h.nx = some f) : DoesV P (Builtin.append_ args t0 #[s', x']) f h N F m w := by
  unfold aAppend at he
  split at he <;> try (simp at he; done)
  rename_i st xt hargs
  have h0 : args[0]? = some st := by rw [← Array.getElem?_toList, hargs]; rfl
  have h1 : args[1]? = some xt := by rw [← Array.getElem?_toList, hargs]; rfl
  split at he <;> try (simp at he; done)
  rename_i elem d base sLen sCap hni hu hd
  have hni : ∀ k, d ≠ .int k := fun k e => hni k (by rw [e])
  split at he <;> try (simp at he; done)
  rename_i i z n hi hzl hl
  split at he <;> try (simp at he; done)
  rename_i hb
  simp only [gt_iff_lt, not_or, Nat.not_lt] at hb
  obtain ⟨hb, hsz, hzn⟩ := hb
  simp only [ne_eq, Decidable.not_not] at hzn
  obtain ⟨zv, hz, hz2, _⟩ := zeroL_spec hzl
  have hzs : zv.cells.size = i.size := by rw [← hzn, ← hz2, Array.length_toList]
  split at he <;> try (simp at he; done)
  rename_i new hnew
  obtain ⟨na, n1, n2, n3, n4⟩ := first_run (P := P) hr hwf hN0 hx hl (Nat.le_refl _) hnew
  have hlen := len_run (P := P) (w := w) hx hl
  split at he
  · -- there is room
    rename_i hle
    cases base with
    | none =>
      simp only at he
      split at he <;> try (simp at he; done)
      rename_i hn0
      simp only [AM.ret, Option.some.injEq] at he
      subst he
      cases hs
      exact DoesV.ret hr (place_run h0 h1 hu hd hni hi hlen hle n1 (base := none) rfl) (.sliceNil _ _)
    | some ad =>
      obtain ⟨b, off, sp⟩ := ad
      cases sp with
      | some q => simp at he
      | none =>
        simp only at he
        split at he <;> try (simp at he; done)
        rename_i xs mm k hg
        obtain ⟨l, hm, c, el, fr, hc⟩ := hr.cells hwf hN0 hg
        split at he
        · -- read alone: nothing is appended
          split at he <;> try (simp at he; done)
          rename_i hn0
          simp only [AM.ret, Option.some.injEq] at he
          subst he
          subst hn0
          have hna : na = #[] := by
            have := n2.length
            rw [n4, Nat.zero_mul] at this
            simpa using this
          subst hna
          rcases slice_live hs hm with ⟨cap2, hs2, hsr⟩ | ⟨z1, z2, z3, a2, hs2⟩
          · subst hs2
            have hcc : sCap ≤ cap2 := by rcases hsr with r | r <;> omega
            exact DoesV.ret hr (place_run h0 h1 hu hd hni hi hlen (by omega) n1 (base := some _) (w' := w) (by simp [storeCells])) (.slice _ _ _ _ _ l hm hsr)
          · subst hs2; subst z1; subst z2
            exact DoesV.ret hr (place_run h0 h1 hu hd hni hi hlen (by omega) n1 (base := some _) (w' := w) (by simp [storeCells])) (.sliceEnd _ _ _ l hm z3)
        · rename_i hk
          split at he <;> try (simp at he; done)
          rename_i hfit
          simp only [Option.some.injEq] at he
          subst he
          have hk' : k ≠ .ro := fun e => hk e
          have hoff : off + sLen * i.size + new.length ≤ mm := by rw [n4]; rw [Nat.add_mul] at hfit; omega
          rcases slice_live hs hm with ⟨cap2, hs2, hsr⟩ | ⟨z1, z2, z3, a2, hs2⟩
          · subst hs2
            have hcc : sCap ≤ cap2 := by rcases hsr with r | r <;> omega
            have hrun := run_wr (P := P) hc hk' hoff n2 n3
            obtain ⟨r1, r2⟩ := wr_rel (v := .slice (some ⟨b, off, none⟩) (sLen + n) sCap) hr (lt_of_get hwf hN0 hg) hm (hc.kind.free hk').1 (wr_cells hc hoff n2 n3)
            refine ⟨_, m, _, place_run h0 h1 hu hd hni hi hlen (by omega) n1 (base := some _) ?_, .slice _ _ _ _ _ l hm hsr, r1, r2⟩
            simp only [add_at, Nat.add_assoc] at hrun ⊢
            exact hrun
          · subst hs2; subst z1; subst z2
            obtain rfl : n = 0 := by omega
            have hna : na = #[] := by
              have := n2.length
              rw [n4, Nat.zero_mul] at this
              simpa using this
            have hnw : new = [] := List.eq_nil_of_length_eq_zero (by rw [n4, Nat.zero_mul])
            subst hna; subst hnw
            have hbr : BRel m w (.live l) (some (.cells (storeL xs (off + 0 * i.size) []) mm k)) := ⟨hc.asz, c, el, fr, hc.heap, hc.csz, hc.fit, hc.kind, hc.cell⟩
            have key := hr.upd (w' := w) hm (hc.kind.free hk').1 rfl rfl rfl (fun _ _ => rfl) hbr
            refine ⟨w, m, _, place_run h0 h1 hu hd hni hi hlen (by omega) n1 (base := some _) (w' := w) (by simp [storeCells]), .sliceEnd _ _ _ l hm z3, ?_, key.2⟩
            show HRel m (mix ⟨h.t.set b _, h.nx⟩ N F) w
            rw [mix_set h N F _ h.nx (lt_of_get hwf hN0 hg)]
            exact key.1
  · -- a new row
    rename_i hgt
    split at he <;> try (simp at he; done)
    rename_i old hold
    obtain ⟨oa, o1, o2, o3, o4⟩ := first_run (P := P) hr hwf hN0 hs (len := sLen) rfl (Nat.le_refl _) hold
    have hall : (old ++ new).length = (sLen + n) * i.size := by rw [List.length_append, o4, n4, Nat.add_mul]
    have hrel : VRels m (old ++ new) (oa ++ na).toList := by rw [Array.toList_append]; exact o2.append n2
    have hone : (old ++ new).all Value.oneCell' = true := by rw [List.all_append, o3, n3]; rfl
    have hoas : (oa ++ na).size = (sLen + n) * i.size := by have := hrel.length; simp only [Array.length_toList] at this; omega
    have hnk : newKind z elem i.size = .loose i.size ∨ (newKind z elem i.size = .bytes ∧ i.size = 1) ∨ (newKind z elem i.size = .own elem ∧ i.size = 1) := by
      unfold newKind
      cases hnb : notB z with
      | true => exact .inl rfl
      | false =>
        refine .inr (.inr ⟨rfl, ?_⟩)
        rw [← hzn]
        unfold notB at hnb
        split at hnb
        · rfl
        · simp at hnb
    -- the model makes a new row
    have fresh : ∀ {k : Kind} {base' : Option Addr} {cap2 : Nat}, s' = .slice base' sLen cap2 → ¬ sLen + n ≤ cap2 → (k = .loose i.size ∨ (k = .bytes ∧ i.size = 1) ∨ (k = .own elem ∧ i.size = 1)) →
        ∀ {m1 : Mp} {h1' : Heap}, HRel m1 (mix h1' N F) w → HWf h1' → h1'.nx < N → Step m w m1 w → h1'.nx = h.nx →
        ∃ w' m' v', (Builtin.append_ args t0 #[s', x']).run P w = .ok v' w' ∧ VRel m' (.slice (some ⟨h.nx, 0, none⟩) (sLen + n) (sLen + n)) v' ∧
          HRel m' (mix (h1'.apply ⟨.slice (some ⟨h.nx, 0, none⟩) (sLen + n) (sLen + n), [], [.cells (ofList (old ++ new)) (old ++ new).length k]⟩) N F) w' ∧ Step m w m' w' := by
      intro k base' cap2 hs2 hg2 hk m1 h1' hr1 hwf1 hN1 hst hnx
      subst hs2
      obtain ⟨cap, c1, c2⟩ := grow_run (P := P) (w := w) (t0 := t0) (base := base') h0 h1 hu hd hni hi hz hlen hg2 hb hsz (first_heap o1) (first_heap n1)
      let c : Array Value := oa ++ na ++ Builtin.zeroCells zv.cells (cap - (sLen + n))
      have hcsz : c.size = cap * i.size := by
        show (oa ++ na ++ Builtin.zeroCells zv.cells (cap - (sLen + n))).size = _
        rw [Array.size_append, hoas]
        simp only [Builtin.zeroCells, Array.size_map, Array.size_range]
        rw [hzs, ← Nat.add_mul]; congr 1; omega
      have htk : VRels m1 (old ++ new) (c.toList.take (old ++ new).length) := by
        have : c.toList.take (old ++ new).length = (oa ++ na).toList := by
          show (oa ++ na ++ Builtin.zeroCells zv.cells (cap - (sLen + n))).toList.take _ = _
          have hl2 : (old ++ new).length = (oa ++ na).toList.length := hrel.length.symm
          have e1 : (oa ++ na ++ Builtin.zeroCells zv.cells (cap - (sLen + n))).toList = (oa ++ na).toList ++ (Builtin.zeroCells zv.cells (cap - (sLen + n))).toList := Array.toList_append
          rw [hl2, e1, List.take_append_of_le_length (Nat.le_refl _), List.take_length]
        rw [this]; exact hrel.mono hst.ext
      have hle2 : (old ++ new).length ≤ c.size := by rw [hall, hcsz]; exact Nat.mul_le_mul_right _ c1
      obtain ⟨m', e1, e2, e3, e4⟩ := nw_rel (v := .slice (some ⟨h.nx, 0, none⟩) (sLen + n) (sLen + n)) (l := ⟨w.heap.size, 0, i.size, (old ++ new).length, c.size, true⟩) (x := .cells (ofList (old ++ new)) (old ++ new).length k)
        (o := .cells c elem) (w.drawn + 1) hr1 hwf1 hN1 rfl rfl (fun m' he _ => new_cells (k := k) (fr := (0, 0)) hle2 htk hone (by
          rcases hk with rfl | ⟨rfl, hk⟩ | ⟨rfl, hk⟩
          · exact And.intro rfl (And.intro rfl (And.intro rfl (Nat.pos_of_ne_zero hsz)))
          · exact And.intro rfl (And.intro (fun i _ => by simp) hk)
          · exact And.intro rfl (And.intro rfl (And.intro hk (And.intro rfl rfl)))) he)
      refine ⟨_, m', _, c2, ?_, e3, hst.trans e4⟩
      rw [hnx] at e2
      exact .slice h.nx 0 (sLen + n) (sLen + n) cap _ e2 (.inr ⟨(show 0 + (sLen + n) * i.size = (old ++ new).length by omega), (show 0 + 0 + cap * i.size = c.size by omega), Nat.pos_of_ne_zero hsz, c1⟩)
    cases base with
    | none =>
      simp only [Option.some.injEq] at he
      subst he
      cases hs
      obtain ⟨w', m', v', q1, q2, q3, q4⟩ := fresh (k := newKind z elem i.size) rfl hgt hnk hr hwf hN (Step.refl m w) rfl
      exact ⟨w', m', v', q1, q2, q3, q4⟩
    | some ad =>
      obtain ⟨b, off, sp⟩ := ad
      cases sp with
      | some q => simp at he
      | none =>
        simp only at he
        split at he <;> try (simp at he; done)
        rename_i xs mm k hg
        obtain ⟨l, hm, c, el, fr, hc⟩ := hr.cells hwf hN0 hg
        have hasz := hc.asz
        have hfit := hc.fit
        have hcsz := hc.csz
        have hbN := lt_of_get hwf hN0 hg
        split at he <;> try (simp at he; done)
        · -- there may be room
          rename_i hmr
          simp only [Option.some.injEq] at he
          subst he
          have hkk : (k = .loose i.size ∨ (k = .bytes ∧ i.size = 1) ∨ (k = .own elem ∧ i.size = 1 ∧ off = 0)) ∧ off + sCap * i.size = mm := by
            unfold maybeRoom at hmr
            split at hmr
            · rename_i e
              split at hmr <;> try (simp at hmr; done)
              rename_i h6
              split at hmr <;> try (simp at hmr; done)
              rename_i h5
              exact ⟨.inl (by rw [h6]), h5⟩
            · split at hmr <;> try (simp at hmr; done)
              rename_i h6
              split at hmr <;> try (simp at hmr; done)
              rename_i h5
              exact ⟨.inr (.inl ⟨rfl, h6.symm⟩), h5⟩
            · split at hmr <;> try (simp at hmr; done)
              rename_i h6
              split at hmr <;> try (simp at hmr; done)
              rename_i h5
              exact ⟨.inr (.inr ⟨by rw [h6.2.1], h6.1.symm, h6.2.2⟩), h5⟩
            · simp at hmr
            · simp at hmr
            · simp at hmr
          obtain ⟨hkk, hend⟩ := hkk
          have hkro : k ≠ .ro := by rcases hkk with rfl | ⟨rfl, _⟩ | ⟨rfl, _⟩ <;> simp
          have hrw := (hc.kind.free hkro).1
          have hesz : l.esz = i.size := by
            have := hc.kind
            rcases hkk with rfl | ⟨rfl, h6⟩ | ⟨rfl, h6, _⟩
            · exact this.2.2.1
            · rw [h6]; exact this.2.2
            · rw [h6]; exact this.2.2.1
          -- the old block is given up, a new row is made
          have kill : ∀ {base' : Option Addr} {cap2 : Nat}, s' = .slice base' sLen cap2 → ¬ sLen + n ≤ cap2 →
              DoesV P (Builtin.append_ args t0 #[s', x']) ⟨.slice (some ⟨h.nx, 0, none⟩) (sLen + n) (sLen + n), [(b, .dead)], [.cells (ofList (old ++ new)) (old ++ new).length k]⟩ h N F m w := by
            intro base' cap2 hs2 hg2
            obtain ⟨k1, k2⟩ := hr.kill hm hrw
            rw [← mix_set h N F .dead h.nx hbN] at k1
            have hwf1 : HWf ⟨h.t.set b .dead, h.nx⟩ := by
              intro b' hb'
              have hne : b' ≠ b := by
                intro e; subst e
                have := hwf b' hb'
                rw [this] at hg; cases hg
              show (h.t.set b .dead).get b' = none
              rw [Trie.get_set_ne _ _ hne]
              exact hwf b' hb'
            obtain ⟨w', m', v', q1, q2, q3, q4⟩ := fresh (k := k) hs2 hg2 (hkk.imp id (Or.imp id fun q => ⟨q.1, q.2.1⟩)) (h1' := ⟨h.t.set b .dead, h.nx⟩) k1 hwf1 hN k2 rfl
            exact ⟨w', m', v', q1, q2, q3, q4⟩
          rcases slice_live hs hm with ⟨cap2, hs2, hsr⟩ | ⟨z1, z2, z3, a2, hs2⟩
          · by_cases hroom : sLen + n ≤ cap2
            · -- the model has room: in its place
              have halt : l.sh + off + cap2 * i.size = l.csz := by
                rcases hsr with r | ⟨r1, r2, r3, r4⟩
                · omega
                · rw [hesz] at r2; exact r2
              have hmul : (sLen + n) * i.size ≤ cap2 * i.size := Nat.mul_le_mul_right _ hroom
              have hnl := n2.length
              have hna1 : na.toList.all Value.oneCell' = true := by
                rw [List.all_eq_true] at n3 ⊢
                intro v' hv'
                obtain ⟨j, hj⟩ := List.mem_iff_getElem?.1 hv'
                have hjl : j < new.length := by
                  rcases Nat.lt_or_ge j new.length with h' | h'
                  · exact h'
                  · rw [List.getElem?_eq_none (by omega)] at hj; cases hj
                obtain ⟨u', a1, a2⟩ := n2.get (List.getElem?_eq_getElem hjl)
                rw [a1] at hj; cases hj
                exact a2.oneCell (n3 _ (List.getElem_mem hjl))
              have hrun := run_storeCells (P := P) (el := el) (fr := fr) (cb := l.cb) na.toList w (l.sh + off) (sLen * i.size) c hc.heap (by rw [Nat.add_mul] at hmul; omega) hna1 (fun j hj => (hc.kind.free hkro).2 j (by omega))
              have hoa : oa = ((c.toList.drop (l.sh + off)).take (sLen * i.size)).toArray := by
                have hq := run_cells (P := P) hc.heap (show l.sh + off + sLen * i.size ≤ c.size by rw [Nat.add_mul] at hmul; omega)
                subst hs2
                simp only [Builtin.firstCells] at o1
                rw [hq] at o1
                simp only [Result.ok.injEq, and_true] at o1
                exact o1.symm
              have hlt : l.cb < w.heap.size := hr.lt hm
              have hst : (storeCells ((⟨l.cb, l.sh + off, none⟩ : Addr).add (sLen * i.size)) na.toList).run P w = .ok () { w with heap := w.heap.setIfInBounds l.cb (.cells (overA c (l.sh + off + sLen * i.size) na.toList) el fr) } := by
                rw [add_at]
                have := run_storeCells (P := P) (el := el) (fr := fr) (cb := l.cb) na.toList w (l.sh + off + sLen * i.size) 0 c hc.heap (by rw [Nat.add_mul] at hmul; omega) hna1 (fun j hj => (hc.kind.free hkro).2 j (by omega))
                simpa using this
              have hnone : mix h N F h.nx = none := by rw [mix_lt h F (show h.nx < N from hN)]; exact hwf _ (Nat.le_refl _)
              obtain ⟨m', e1, e2, e3, e4⟩ := hr.move (w' := { w with heap := w.heap.setIfInBounds l.cb (.cells (overA c (l.sh + off + sLen * i.size) na.toList) el fr) }) (b2 := h.nx)
                (l2 := ⟨l.cb, l.sh + off, i.size, (old ++ new).length, l.csz, true⟩) (x := .cells (ofList (old ++ new)) (old ++ new).length k) hm hrw hnone rfl rfl (by simp) rfl rfl (fun cb hcb => by simp [Ne.symm hcb])
                (by
                  intro m' he
                  refine ⟨rfl, overA c (l.sh + off + sLen * i.size) na.toList, el, fr, by simp [hlt], by rw [size_overA]; exact hcsz, by rw [hall]; show l.sh + off + _ ≤ l.csz; omega, ?_, ?_⟩
                  · have hk0 := hc.kind
                    rcases hkk with rfl | ⟨rfl, h6⟩ | ⟨rfl, h6, h7⟩
                    · exact And.intro rfl (And.intro hk0.2.1 (And.intro rfl (Nat.pos_of_ne_zero hsz)))
                    · exact And.intro rfl (And.intro hk0.2.1 h6)
                    · exact And.intro rfl (And.intro hk0.2.1 (And.intro h6 (And.intro hk0.2.2.2.1 (show l.sh + off = 0 by have := hk0.2.2.2.2; omega))))
                  · intro j hj
                    obtain ⟨v', a1, a2⟩ := hrel.get (List.getElem?_eq_getElem hj)
                    refine ⟨(old ++ new)[j], v', by rw [get_ofList]; exact List.getElem?_eq_getElem hj, ?_, (List.all_eq_true.1 hone) _ (List.getElem_mem hj), a2.mono he⟩
                    show (overA c (l.sh + off + sLen * i.size) na.toList)[l.sh + off + j]? = some v'
                    rw [get_overA _ _ _ _ (by rw [Nat.add_mul] at hmul; omega)]
                    have hoal : oa.toList.length = sLen * i.size := by have := o2.length; omega
                    rw [Array.toList_append] at a1
                    by_cases hj2 : j < sLen * i.size
                    · rw [if_neg (by omega)]
                      rw [List.getElem?_append_left (by omega), hoa, List.getElem?_take, if_pos hj2, List.getElem?_drop, Array.getElem?_toList] at a1
                      exact a1
                    · have hj3 : j < sLen * i.size + n * i.size := by
                        have := hj
                        rw [hall, Nat.add_mul] at this; exact this
                      rw [if_pos (by omega)]
                      rw [List.getElem?_append_right (by omega), hoal] at a1
                      rw [show l.sh + off + j - (l.sh + off + sLen * i.size) = j - sLen * i.size by omega]
                      exact a1)
              subst hs2
              refine ⟨_, m', _, place_run h0 h1 hu hd hni hi hlen hroom n1 (base := some _) hst, ?_, ?_, e4⟩
              · exact .slice h.nx 0 (sLen + n) (sLen + n) cap2 _ e2 (.inr ⟨(show 0 + (sLen + n) * i.size = (old ++ new).length by omega), (show l.sh + off + 0 + cap2 * i.size = l.csz by omega), Nat.pos_of_ne_zero hsz, hroom⟩)
              · have hh : (h.apply ⟨.slice (some ⟨h.nx, 0, none⟩) (sLen + n) (sLen + n), [(b, .dead)], [.cells (ofList (old ++ new)) (old ++ new).length k]⟩) =
                    ⟨(h.t.set b .dead).set h.nx (.cells (ofList (old ++ new)) (old ++ new).length k), h.nx + 1⟩ := rfl
                rw [hh]
                have hm1 := mix_set ⟨h.t.set b .dead, h.nx⟩ N F (b := h.nx) (.cells (ofList (old ++ new)) (old ++ new).length k) (h.nx + 1) hN
                have hm2 := mix_set h N F .dead h.nx hbN
                rw [hm1, hm2]
                exact e3
            · exact kill hs2 hroom
          · subst z1; subst z2
            exact kill hs2 (by omega)
        · -- there is no room
          rename_i hmr
          simp only [Option.some.injEq] at he
          subst he
          have go : ∀ {base' : Option Addr} {cap2 : Nat}, s' = .slice base' sLen cap2 → ¬ sLen + n ≤ cap2 →
              DoesV P (Builtin.append_ args t0 #[s', x']) ⟨.slice (some ⟨h.nx, 0, none⟩) (sLen + n) (sLen + n), [], [.cells (ofList (old ++ new)) (old ++ new).length (newKind z elem i.size)]⟩ h N F m w := by
            intro base' cap2 hs2 hg2
            obtain ⟨w', m', v', q1, q2, q3, q4⟩ := fresh (k := newKind z elem i.size) hs2 hg2 hnk hr hwf hN (Step.refl m w) rfl
            exact ⟨w', m', v', q1, q2, q3, q4⟩
          rcases slice_live hs hm with ⟨cap2, hs2, hsr⟩ | ⟨z1, z2, z3, a2, hs2⟩
          · have hcc : cap2 = sCap := by
              rcases hsr with r | ⟨r1, r2, r3, r4⟩
              · exact r
              · have hk0 := hc.kind
                unfold maybeRoom at hmr
                split at hmr
                · rename_i e
                  obtain ⟨_, _, k3, _⟩ := hk0
                  split at hmr <;> try (simp at hmr; done)
                  rename_i h6
                  split at hmr <;> try (simp at hmr; done)
                  rename_i h5
                  rw [k3, hasz, h6] at r1
                  exact absurd r1 h5
                · obtain ⟨_, _, k3⟩ := hk0
                  split at hmr <;> try (simp at hmr; done)
                  rename_i h6
                  split at hmr <;> try (simp at hmr; done)
                  rename_i h5
                  rw [k3, hasz, h6] at r1
                  exact absurd r1 h5
                · obtain ⟨_, _, k3, _⟩ := hk0
                  split at hmr <;> try (simp at hmr; done)
                  rename_i h6
                  split at hmr <;> try (simp at hmr; done)
                  rename_i h5
                  rw [k3, hasz, h6.1] at r1
                  exact absurd r1 h5
                · obtain ⟨_, k2, k3, _⟩ := hk0
                  rw [hasz] at r1
                  rw [k2, k3] at r2
                  have : cap2 * l.esz = sCap * l.esz := by omega
                  exact Nat.eq_of_mul_eq_mul_right r3 this
                · obtain ⟨_, k2, k3, _⟩ := hk0
                  rw [hasz] at r1
                  rw [k2, k3] at r2
                  have : cap2 * l.esz = sCap * l.esz := by omega
                  exact Nat.eq_of_mul_eq_mul_right r3 this
                · simp at hmr
            exact go hs2 (by omega)
          · subst z1; subst z2
            exact go hs2 (by omega)
end Go.AM
end
section
/- What any operation does that calls nothing. -/
namespace Go.AM
variable {P : Program} {m : Mp} {h : Heap} {N : Nat} {F : Nat → Option Blk} {w : World}

theorem same_rel {b : Nat} {l : Loc} {xs : Trie Value} {n : Nat} {k : Kind} {c : Array Value} {el : TypeId} {fr : Nat × Nat} {v : Value} {off : Nat} (hr : HRel m (mix h N F) w) (hbN : b < N) (hm : m b = .live l) (hrw : l.rw = true) (hc : AtCells m w xs n k l c el fr) :
    HRel m (mix (h.apply ⟨v, [(b, .cells (storeL xs off []) n k)], []⟩) N F) w ∧ Step m w m w := by
  have hbr : BRel m w (.live l) (some (.cells (storeL xs off []) n k)) := ⟨hc.asz, c, el, fr, hc.heap, hc.csz, hc.fit, hc.kind, hc.cell⟩
  have key := hr.upd (w' := w) hm hrw rfl rfl rfl (fun _ _ => rfl) hbr
  refine ⟨?_, key.2⟩
  show HRel m (mix ⟨h.t.set b _, h.nx⟩ N F) w
  rw [mix_set h N F _ h.nx hbN]
  exact key.1

theorem copy_does {args : Array TypeId} {t0 : TypeId} {d d' s s' : Value} {f : Eff} (hr : HRel m (mix h N F) w) (hwf : HWf h) (hN : h.nx ≤ N) (hd : VRel m d d') (hs : VRel m s s')
    (he : aCopy P args d s h.get = some f) : DoesV P (Builtin.copy_ args t0 #[d', s']) f h N F m w := by
  unfold aCopy at he
  split at he <;> try (simp at he; done)
  rename_i dt rest hargs
  have h0 : args[0]? = some dt := by rw [← Array.getElem?_toList, hargs]; rfl
  split at he <;> try (simp at he; done)
  rename_i elem base dLen dCap hu
  split at he <;> try (simp at he; done)
  rename_i size sl hsz hl
  split at he <;> try (simp at he; done)
  rename_i cells hf
  obtain ⟨ca, c1, c2, c3, c4⟩ := first_run (P := P) hr hwf hN hs hl (Nat.min_le_left _ _) hf
  have hlen := len_run (P := P) (w := w) hs hl
  have run : ∀ {base' : Option Addr} {cap' : Nat} {w' : World}, d' = .slice base' dLen cap' → (match base' with
      | none => w' = w
      | some a => (storeCells a ca.toList).run P w = .ok () w') → (Builtin.copy_ args t0 #[d', s']).run P w = .ok (goInt (Nat.min sl dLen)) w' := by
    intro base' cap' w' hd2 hst
    subst hd2
    simp only [Builtin.copy_, h0, List.getElem?_toArray, List.getElem?_cons_zero, List.getElem?_cons_succ, Sem.run_bind, ru hu, Result.andThen_ok, hlen, rs' hsz, c1]
    cases base' with
    | none => simp only at hst; subst hst; simp
    | some a => simp only at hst; simp [hst]
  cases base with
  | none =>
    simp only at he
    split at he <;> try (simp at he; done)
    simp only [AM.ret, Option.some.injEq] at he
    subst he
    cases hd
    exact DoesV.ret hr (run rfl rfl) (.int _ _)
  | some ad =>
    obtain ⟨b, off, sp⟩ := ad
    cases sp with
    | some q => simp at he
    | none =>
      simp only at he
      split at he <;> try (simp at he; done)
      rename_i xs mm k hg
      obtain ⟨l, hm, c, el, fr, hc⟩ := hr.cells hwf hN hg
      split at he <;> try (simp at he; done)
      rename_i hk
      split at he <;> try (simp at he; done)
      rename_i hle
      simp only [Option.some.injEq] at he
      subst he
      have hk' : k ≠ .ro := fun e => hk e
      rcases slice_live hd hm with ⟨cap2, hd2, hsr⟩ | ⟨z1, z2, z3, a2, hd2⟩
      · obtain ⟨r1, r2⟩ := wr_rel (v := .int .i64 (Nat.min sl dLen)) hr (lt_of_get hwf hN hg) hm (hc.kind.free hk').1 (wr_cells hc hle c2 c3)
        exact ⟨_, m, _, run hd2 (run_wr (P := P) hc hk' hle c2 c3), .int _ _, r1, r2⟩
      · subst z1
        have hn0 : Nat.min sl 0 = 0 := Nat.min_eq_right (Nat.zero_le _)
        have hcl : cells = [] := List.eq_nil_of_length_eq_zero (by rw [c4]; show Nat.min sl 0 * size = 0; rw [hn0, Nat.zero_mul])
        subst hcl
        have hca : ca = #[] := by have := c2.length; simpa using this
        subst hca
        obtain ⟨r1, r2⟩ := same_rel (v := .int .i64 (Nat.min sl 0)) (off := off) hr (lt_of_get hwf hN hg) hm (hc.kind.free hk').1 hc
        exact ⟨w, m, _, run hd2 (by simp [storeCells]), .int _ _, r1, r2⟩

theorem clear_does {args : Array TypeId} {t0 : TypeId} {x x' : Value} {f : Eff} (hr : HRel m (mix h N F) w) (hwf : HWf h) (hN : h.nx ≤ N) (hx : VRel m x x')
    (he : aClear P args x h.get = some f) : DoesV P (Builtin.clear_ args t0 #[x']) f h N F m w := by
  unfold aClear at he
  split at he <;> try (simp at he; done)
  rename_i t rest hargs
  have h0 : args[0]? = some t := by rw [← Array.getElem?_toList, hargs]; rfl
  split at he <;> try (simp at he; done)
  · rename_i kt et hu
    simp only [AM.ret, Option.some.injEq] at he
    subst he
    cases hx
    exact DoesV.ret hr (v' := undef) (by simp [Builtin.clear_, h0, ru hu, undef]) VRel.undef
  · rename_i kt et r hu
    split at he <;> try (simp at he; done)
    rename_i es clk hg
    simp only [Option.some.injEq] at he
    subst he
    obtain ⟨l, hm, hrw, ces, q1, q2⟩ := hr.map hwf hN hg
    have := map_live hx hm
    subst this
    have hlt : l.cb < w.heap.size := hr.lt hm
    have hb : BRel m { w with heap := w.heap.setIfInBounds l.cb (.map #[] clk) } (.live l) (some (.map [] clk)) := ⟨hrw, #[], by simp [hlt], trivial⟩
    obtain ⟨r1, r2⟩ := wr_rel (v := undef) hr (lt_of_get hwf hN hg) hm hrw hb
    exact ⟨_, m, undef, by simp [Builtin.clear_, h0, ru hu, getObj, Sem.run, q1, setObj, undef], VRel.undef, r1, r2⟩
  · rename_i et n c hu
    simp only [AM.ret, Option.some.injEq] at he
    subst he
    cases hx
    exact DoesV.ret hr (v' := undef) (by simp [Builtin.clear_, h0, ru hu, undef]) VRel.undef
  · rename_i elem b off n c hu
    split at he
    · rename_i hn0
      simp only [AM.ret, Option.some.injEq] at he
      subst he
      subst hn0
      cases hx <;> exact DoesV.ret hr (v' := undef) (by simp [Builtin.clear_, h0, ru hu, undef]) VRel.undef
    · rename_i hn0
      split at he <;> try (simp at he; done)
      rename_i z xs mm k hz hg
      obtain ⟨l, hm, ca, el, fr, hc⟩ := hr.cells hwf hN hg
      split at he <;> try (simp at he; done)
      rename_i hk
      split at he <;> try (simp at he; done)
      rename_i hle
      simp only [Option.some.injEq] at he
      subst he
      have hk' : k ≠ .ro := fun e => hk e
      obtain ⟨zv, g1, g2, g3⟩ := zeroL_spec hz
      have hzn : z.length = zv.cells.size := by rw [← g2, Array.length_toList]
      obtain ⟨z1, z2⟩ := zeros_rel (m := m) zv.cells g2 g3 n (n * zv.cells.size) (by rw [hzn])
      rcases slice_live hx hm with ⟨cap2, hx2, hsr⟩ | ⟨y1, y2, y3, a2, hx2⟩
      · subst hx2
        have hle' : off + (repeatL z n).length ≤ mm := by rw [length_repeatL]; exact hle
        have hrun := run_wr (P := P) hc hk' hle' z1 z2
        obtain ⟨r1, r2⟩ := wr_rel (v := undef) hr (lt_of_get hwf hN hg) hm (hc.kind.free hk').1 (wr_cells hc hle' z1 z2)
        refine ⟨_, m, undef, ?_, VRel.undef, r1, r2⟩
        obtain ⟨n', rfl⟩ : ∃ n', n = n' + 1 := ⟨n - 1, by omega⟩
        simp only [Builtin.clear_, h0, List.getElem?_toArray, List.getElem?_cons_zero, Sem.run_bind, ru hu, Result.andThen_ok, rz g1, Builtin.zeroCells, hrun, Sem.run_pure]
        rfl
      · omega

theorem VRels.map {ρ ρ' : Operand → Value} {l : List Operand} (hl : ∀ x ∈ l, VRel m (ρ x) (ρ' x)) : VRels m (l.map ρ) (l.map ρ') := by
  induction l with
  | nil => exact .nil
  | cons x r ih => exact .cons _ _ _ _ (hl x (by simp)) (ih fun y hy => hl y (by simp [hy]))
theorem plainCell_eq {v v' : Value} (hp : plainCell v = true) (hv : VRel m v v') : v' = v := by
  cases hv <;> first | rfl | (simp [plainCell] at hp)
theorem plainCells_eq {l l' : List Value} (hp : l.all plainCell = true) (hv : VRels m l l') : l' = l := by
  induction l generalizing l' with
  | nil => cases hv; rfl
  | cons x r ih =>
    cases hv with
    | cons _ x' _ r' h1 h2 =>
      simp only [List.all_cons, Bool.and_eq_true] at hp
      rw [plainCell_eq hp.1 h1, ih hp.2 h2]
theorem plainV_eq {v v' : Value} (hp : plainV v = true) (hv : VRel m v v') : v' = v := by
  cases hv with
  | agg c c' h1 h2 =>
    have := plainCells_eq (l := c.toList) hp h2
    rw [Array.toList_inj.1 this]
  | tuple c c' h2 =>
    have hc : c.toList = [] := by simpa [plainV] using hp
    rw [hc] at h2
    cases c with | mk l => cases c' with | mk l' => simp only at hc h2; subst hc; cases h2; rfl
  | bool b => rfl
  | int k n => rfl
  | string s => rfl
  | ptrNil => rfl
  | sliceNil n c => rfl
  | mapNil => rfl
  | nilFunc => rfl
  | nilIface => rfl
  | _ => simp [plainV, plainCell] at hp

theorem minGo_run {k : IntKind} : ∀ (l l' : List Value) (a : Int) (v : Value), VRels m l l' → minI.go k a l = some v → (l'.foldlM Builtin.min2 (.int k a)).run P w = .ok v w ∧ VRel m v v := by
  intro l
  induction l with
  | nil => intro l' a v hl he; cases hl; simp only [minI.go, Option.some.injEq] at he; subst he; exact ⟨by simp, .int _ _⟩
  | cons x r ih =>
    intro l' a v hl he
    cases hl with
    | cons _ x' _ r' hx hr =>
      cases hx <;> try (simp [minI.go] at he; done)
      simp only [minI.go, ltI_eq, Bool.cond_decide] at he
      obtain ⟨q1, q2⟩ := ih r' _ v hr he
      refine ⟨?_, q2⟩
      simp only [List.foldlM_cons, Builtin.min2, pure_bind]
      exact q1
theorem maxGo_run {k : IntKind} : ∀ (l l' : List Value) (a : Int) (v : Value), VRels m l l' → maxI.go k a l = some v → (l'.foldlM Builtin.max2 (.int k a)).run P w = .ok v w ∧ VRel m v v := by
  intro l
  induction l with
  | nil => intro l' a v hl he; cases hl; simp only [maxI.go, Option.some.injEq] at he; subst he; exact ⟨by simp, .int _ _⟩
  | cons x r ih =>
    intro l' a v hl he
    cases hl with
    | cons _ x' _ r' hx hr =>
      cases hx <;> try (simp [maxI.go] at he; done)
      simp only [maxI.go, ltI_eq, Bool.cond_decide] at he
      obtain ⟨q1, q2⟩ := ih r' _ v hr he
      refine ⟨?_, q2⟩
      simp only [List.foldlM_cons, Builtin.max2, pure_bind]
      exact q1

theorem builtin_does {b : Builtin} {at_ : Array TypeId} {t0 : TypeId} {cs : Array Bool} {args args' : List Value} {f : Eff} (hr : HRel m (mix h N F) w) (hwf : HWf h) (hN : (h.apply f).nx ≤ N) (hN0 : h.nx ≤ N) (ha : VRels m args args')
    (he : builtinEff P b at_ args h.get h.nx = some f) : Does P (Go.builtin b at_ t0 cs args'.toArray) f h N F m w := by
  cases b <;> simp only [builtinEff, reduceCtorEq] at he
  case append =>
    split at he <;> try (simp at he; done)
    cases ha with | cons _ _ _ _ hs ha => cases ha with | cons _ _ _ _ hx ha => cases ha; exact (append_does hr hwf hN hN0 hs hx he).does
  case copy =>
    split at he <;> try (simp at he; done)
    cases ha with | cons _ _ _ _ hs ha => cases ha with | cons _ _ _ _ hx ha => cases ha; exact (copy_does hr hwf hN0 hs hx he).does
  case clear =>
    split at he <;> try (simp at he; done)
    cases ha with | cons _ _ _ _ hs ha => cases ha; exact (clear_does hr hwf hN0 hs he).does
  case delete =>
    split at he <;> try (simp at he; done)
    cases ha with | cons _ _ _ _ hs ha => cases ha with | cons _ _ _ _ hx ha => cases ha; exact (delete_does hr hwf hN0 hs hx he).does
  case len =>
    split at he <;> try (simp at he; done)
    cases ha with | cons _ _ _ _ hs ha => cases ha; exact (len_does hr hwf hN0 hs he).does
  case min =>
    split at he
    · rename_i v hv
      simp only [AM.ret, Option.some.injEq] at he
      subst he
      refine DoesV.does (s := Builtin.min_ at_ t0 args'.toArray) ?_
      cases ha with
      | nil => simp [minI] at hv
      | cons x x' r r' hx hrr =>
        cases hx <;> try (simp [minI] at hv; done)
        simp only [minI] at hv
        obtain ⟨q1, q2⟩ := minGo_run (P := P) (w := w) r r' _ v hrr hv
        exact DoesV.ret hr (by simpa only [Builtin.min_] using q1) q2
    · refine DoesV.does (s := Builtin.min_ at_ t0 args'.toArray) ?_
      obtain ⟨r, hr1, hr2⟩ := Option.bind_eq_some_iff.1 he
      simp only [AM.ret, Option.some.injEq] at hr2
      subst hr2
      unfold mmOf at hr1
      split at hr1 <;> try (simp at hr1; done)
      · rename_i i k b
        cases ha with
        | cons _ x' _ r' hx hrr =>
        cases hrr with
        | cons _ y' _ r2 hy hr3 =>
        cases hr3
        cases hy
        cases hx with
        | sym _ k1 n h1 =>
        obtain ⟨e, h2⟩ := (tok_facts hr hwf hN0 h1 _ (findMM_ok hr1)).1
        subst e
        exact DoesV.ret hr (by simp [Builtin.min_, Builtin.min2]) h2
      · rename_i k b i _
        cases ha with
        | cons _ x' _ r' hx hrr =>
        cases hrr with
        | cons _ y' _ r2 hy hr3 =>
        cases hr3
        cases hx
        cases hy with
        | sym _ k1 n h1 =>
        obtain ⟨e, h2⟩ := (tok_facts hr hwf hN0 h1 _ (findMM_ok hr1)).1
        subst e
        refine DoesV.ret hr (v' := .int k (if n < b then n else b)) (by simp [Builtin.min_, Builtin.min2]) ?_
        have e : (if n < b then n else b) = (if b < n then b else n) := by split <;> split <;> omega
        rw [e]
        exact h2

  case max =>
    split at he
    · rename_i v hv
      simp only [AM.ret, Option.some.injEq] at he
      subst he
      refine DoesV.does (s := Builtin.max_ at_ t0 args'.toArray) ?_
      cases ha with
      | nil => simp [maxI] at hv
      | cons x x' r r' hx hrr =>
        cases hx <;> try (simp [maxI] at hv; done)
        simp only [maxI] at hv
        obtain ⟨q1, q2⟩ := maxGo_run (P := P) (w := w) r r' _ v hrr hv
        exact DoesV.ret hr (by simpa only [Builtin.max_] using q1) q2
    · refine DoesV.does (s := Builtin.max_ at_ t0 args'.toArray) ?_
      obtain ⟨r, hr1, hr2⟩ := Option.bind_eq_some_iff.1 he
      simp only [AM.ret, Option.some.injEq] at hr2
      subst hr2
      unfold mmOf at hr1
      split at hr1 <;> try (simp at hr1; done)
      · rename_i i k b
        cases ha with
        | cons _ x' _ r' hx hrr =>
        cases hrr with
        | cons _ y' _ r2 hy hr3 =>
        cases hr3
        cases hy
        cases hx with
        | sym _ k1 n h1 =>
        obtain ⟨e, h2⟩ := (tok_facts hr hwf hN0 h1 _ (findMM_ok hr1)).1
        subst e
        exact DoesV.ret hr (by simp [Builtin.max_, Builtin.max2]) h2
      · rename_i k b i _
        cases ha with
        | cons _ x' _ r' hx hrr =>
        cases hrr with
        | cons _ y' _ r2 hy hr3 =>
        cases hr3
        cases hx
        cases hy with
        | sym _ k1 n h1 =>
        obtain ⟨e, h2⟩ := (tok_facts hr hwf hN0 h1 _ (findMM_ok hr1)).1
        subst e
        refine DoesV.ret hr (v' := .int k (if n > b then n else b)) (by simp [Builtin.max_, Builtin.max2]) ?_
        have e : (if n > b then n else b) = (if b > n then b else n) := by split <;> split <;> omega
        rw [e]
        exact h2

theorem guard_run {op : BinOp} {t : TypeId} {x y : Operand} {a b : Value} (h1 : ¬ (a = .nilIface ∧ b = .nilIface)) (h2 : ∀ c d, ¬ (a = .agg c ∧ b = .agg d)) : (eqGuard op t x y a b).run P w = .ok () w := by
  unfold eqGuard
  by_cases ho : (match op with | .eql | .neq => true | _ => false) = true
  · cases op <;> simp at ho
    all_goals
      simp only [Bool.not_true, Bool.false_eq_true, if_false]
      split
      · exact absurd ⟨rfl, rfl⟩ h1
      · exact absurd ⟨rfl, rfl⟩ (h2 _ _)
      · simp
  · cases op <;> simp at ho <;> simp

theorem binV_run {op : BinOp} {k k' : IntKind} {a b : Int} {v : Value} {x y : Operand} (t : TypeId) (hv : binV op k a k' b = some v) : (do eqGuard op t x y (.int k a) (.int k' b); binOp op t (.int k a) (.int k' b)).run P w = .ok v w := by
  have hg : (eqGuard op t x y (.int k a) (.int k' b)).run P w = .ok () w := guard_run (by simp) (by simp)
  rw [Sem.run_bind, hg, Result.andThen_ok]
  unfold binV at hv
  split at hv
  · exact (shiftOp_run (m := fun _ => .fresh) t hv).1
  · exact (shiftOp_run (m := fun _ => .fresh) t hv).1
  · cases hk : Nat.beq (kindN k) (kindN k') with
    | false => rw [hk] at hv; simp at hv
    | true =>
      rw [hk] at hv
      have := kindN_inj hk
      subst this
      exact (intOp_run (m := fun _ => .fresh) t hv).1
theorem agg_does {op : BinOp} {t : TypeId} {x y : Operand} {a b : Array Value} {a' b' : Value} {f : Eff} (hr : HRel m (mix h N F) w) (hwf : HWf h) (hN : h.nx ≤ N) (ha : VRel m (.agg a) a') (hb : VRel m (.agg b) b')
    (he : effBin P op t x y (.agg a) (.agg b) h.get = some f) : DoesV P (do eqGuard op t x y a' b'; binOp op t a' b') f h N F m w := by
  unfold effBin at he
  simp only at he
  split at he
  · rename_i r heq
    cases ha with
    | agg _ a' _ ha' =>
    cases hb with
    | agg _ b' _ hb' =>
    obtain ⟨g1, g2⟩ := eqArr_run hr hwf hN ha' hb' heq
    have hg : ∀ op, (eqGuard op t x y (.agg a') (.agg b')).run P w = .ok () w := by
      intro op
      cases op <;> simp [eqGuard, g2]
    split at he <;> try (simp at he; done)
    · simp only [AM.ret, Option.some.injEq] at he
      subst he
      exact DoesV.ret hr (by rw [Sem.run_bind, hg, Result.andThen_ok]; simp [binOp, g1]) (.bool _)
    · simp only [AM.ret, Option.some.injEq] at he
      subst he
      exact DoesV.ret hr (by rw [Sem.run_bind, hg, Result.andThen_ok]; simp [binOp, g1]) (.bool _)
  · split at he <;> try (simp at he; done)
    rename_i hp
    simp only [Bool.and_eq_true] at hp
    have e1 := plainV_eq hp.1 ha
    have e2 := plainV_eq hp.2 hb
    subst e1; subst e2
    split at he <;> try (simp at he; done)
    rename_i v hv
    split at he <;> try (simp at he; done)
    rename_i hpc
    simp only [AM.ret, Option.some.injEq] at he
    subst he
    exact DoesV.ret hr (evalPure_run hv w) (plainCell_rel hpc).1
theorem bin_does {op : BinOp} {t : TypeId} {x y : Operand} {a a' b b' : Value} {f : Eff} (hr : HRel m (mix h N F) w) (hwf : HWf h) (hN : h.nx ≤ N) (ha : VRel m a a') (hb : VRel m b b')
    (he : effBin P op t x y a b h.get = some f) : DoesV P (do eqGuard op t x y a' b'; binOp op t a' b') f h N F m w := by
  unfold effBin at he
  split at he
  · rename_i k a k' b
    cases ha; cases hb
    have hg : (eqGuard op t x y (.int k a) (.int k' b)).run P w = .ok () w := guard_run (by simp) (by simp)
    have fin : ∀ v, (binOp op t (.int k a) (.int k' b)).run P w = .ok v w ∧ VRel m v v → f = ⟨v, [], []⟩ → DoesV P (do eqGuard op t x y (.int k a) (.int k' b); binOp op t (.int k a) (.int k' b)) f h N F m w := by
      intro v hv hf
      subst hf
      exact DoesV.ret hr (by simp [hg, hv.1]) hv.2
    split at he
    · cases hv : shiftOp .shl k a b with
      | none => simp [hv] at he
      | some v => simp only [hv, Option.bind_some, AM.ret, Option.some.injEq] at he; exact fin v (shiftOp_run t hv) he.symm
    · cases hv : shiftOp .shr k a b with
      | none => simp [hv] at he
      | some v => simp only [hv, Option.bind_some, AM.ret, Option.some.injEq] at he; exact fin v (shiftOp_run t hv) he.symm
    · cases hk : Nat.beq (kindN k) (kindN k') with
      | false => simp [hk] at he
      | true =>
        have := kindN_inj hk
        subst this
        rw [hk] at he
        simp only [cond_true] at he
        cases hv : intOp op k a b with
        | none => simp [hv] at he
        | some v => simp only [hv, Option.bind_some, AM.ret, Option.some.injEq] at he; exact fin v (intOp_run t hv) he.symm
  · rename_i a b
    cases ha; cases hb
    cases hv : strOp op a b with
    | none => simp [hv] at he
    | some v =>
      simp only [hv, Option.bind_some, AM.ret, Option.some.injEq] at he
      subst he
      have hg : (eqGuard op t x y (.string a) (.string b)).run P w = .ok () w := guard_run (by simp) (by simp)
      obtain ⟨q1, q2⟩ := strOp_run (P := P) (m := m) (w := w) t hv
      exact DoesV.ret hr (by simp [hg, q1]) q2
  · cases ha; cases hb
    split at he <;> try (simp at he; done)
    all_goals
      rename_i hcst hu
      simp only [AM.ret, Option.some.injEq] at he
      subst he
      refine DoesV.ret hr ?_ (.bool _)
      rw [Sem.run_bind]
      have hg : ∀ op, (eqGuard op t x y .nilIface .nilIface).run P w = .ok () w := by
        intro op
        cases x <;> cases y <;> simp [effBin.isConst] at hcst <;> cases op <;> simp [eqGuard]
      rw [hg, Result.andThen_ok]
      simp only [binOp, Sem.run_bind]
      have : (Op.equal t .nilIface .nilIface).run P w = .ok true w := by
        show (Op.equalIn (9999 + 1) t .nilIface .nilIface).run P w = _
        rw [Op.equalIn, Sem.run_bind, ru hu]
        rfl
      rw [this]
      rfl
  · rename_i a b
    exact agg_does hr hwf hN ha hb (by unfold effBin; exact he)
  · rename_i i j
    have tok : ∀ (k : IntKind) (n : Int) (v : Bool), (op = .eql ∧ v = true) ∨ (op = .neq ∧ v = false) → f = ⟨.bool v, [], []⟩ → DoesV P (do eqGuard op t x y (.int k n) (.int k n); binOp op t (.int k n) (.int k n)) f h N F m w := by
      intro k n v hv hf
      subst hf
      have hg : (eqGuard op t x y (.int k n) (.int k n)).run P w = .ok () w := guard_run (by simp) (by simp)
      have hv' : intOp op k n n = some (.bool v) := by
        rcases hv with ⟨rfl, rfl⟩ | ⟨rfl, rfl⟩ <;> simp [intOp, eqI_eq]
      exact DoesV.ret hr (by simp [hg, (intOp_run (P := P) (m := m) (w := w) t hv').1]) (.bool _)
    cases ha with
    | sym _ k n h1 =>
    cases hb with
    | sym _ k2 n2 h2 =>
    cases hij : Nat.beq i j with
    | true =>
      rw [hij] at he
      simp only [cond_true] at he
      have := Nat.eq_of_beq_eq_true hij
      subst this
      rw [h1] at h2
      cases h2
      split at he <;> try (simp at he; done)
      · simp only [AM.ret, Option.some.injEq] at he; exact tok k n true (.inl ⟨rfl, rfl⟩) he.symm
      · simp only [AM.ret, Option.some.injEq] at he; exact tok k n false (.inr ⟨rfl, rfl⟩) he.symm
    | false =>
      rw [hij] at he
      simp only [cond_false] at he
      obtain ⟨r, hr1, hr2⟩ := Option.bind_eq_some_iff.1 he
      simp only [AM.ret, Option.some.injEq] at hr2
      subst hr2
      obtain ⟨v, g1, g2⟩ := (tok_facts hr hwf hN h1 _ (findBin_ok hr1)).1 k2 n2 (.inr ⟨j, rfl, h2⟩)
      exact DoesV.ret hr (binV_run t g1) g2
  · rename_i i k b
    cases hb
    cases ha with
    | sym _ k1 n h1 =>
      obtain ⟨r, hr1, hr2⟩ := Option.bind_eq_some_iff.1 he
      simp only [AM.ret, Option.some.injEq] at hr2
      subst hr2
      obtain ⟨v, g1, g2⟩ := (tok_facts hr hwf hN h1 _ (findBin_ok hr1)).1 _ _ (.inl rfl)
      exact DoesV.ret hr (binV_run t g1) g2
  · rename_i k a j
    cases ha
    cases hb with
    | sym _ k1 n h1 =>
      obtain ⟨r, hr1, hr2⟩ := Option.bind_eq_some_iff.1 he
      simp only [AM.ret, Option.some.injEq] at hr2
      subst hr2
      obtain ⟨v, g1, g2⟩ := (tok_facts hr hwf hN h1 _ (findNib_ok hr1)).1 _ _ (.inl rfl)
      exact DoesV.ret hr (binV_run t g1) g2
  · rename_i hn1 hn2 hn3 hn4 hn5 hn6 hn7
    have hnc : ((∀ r, a ≠ .chan r) ∧ a ≠ topV) ∧ (∀ r, b ≠ .chan r) ∧ b ≠ topV := by
      have : (eqlV P t a b h.get).isSome = true := by
        split at he
        · cases hq : eqlV P t a b h.get with
          | none => rw [hq] at he; simp at he
          | some q => rfl
        · cases hq : eqlV P t a b h.get with
          | none => rw [hq] at he; simp at he
          | some q => rfl
        · simp at he
      refine ⟨⟨?_, ?_⟩, ?_, ?_⟩
      · rintro r rfl
        unfold eqlV at this
        (repeat' split at this) <;> simp_all
      · rintro rfl
        unfold eqlV at this
        (repeat' split at this) <;> simp_all
      · rintro r rfl
        unfold eqlV at this
        (repeat' split at this) <;> simp_all
      · rintro rfl
        unfold eqlV at this
        (repeat' split at this) <;> simp_all
    have hg : ∀ op, (eqGuard op t x y a' b').run P w = .ok () w := by
      intro op
      refine guard_run ?_ ?_
      · rintro ⟨rfl, rfl⟩
        cases ha <;> cases hb <;> first | exact hn3 rfl rfl | exact absurd rfl (hnc.1.1 _) | exact absurd rfl (hnc.2.1 _) | exact absurd rfl hnc.1.2 | exact absurd rfl hnc.2.2
      · rintro c d ⟨rfl, rfl⟩
        cases ha <;> cases hb <;> first | exact hn4 _ _ rfl rfl | exact absurd rfl (hnc.1.1 _) | exact absurd rfl (hnc.2.1 _) | exact absurd rfl hnc.1.2 | exact absurd rfl hnc.2.2
    have hbo : ∀ r, (Op.equal t a' b').run P w = .ok r w → (binOp .eql t a' b').run P w = .ok (.bool r) w ∧ (binOp .neq t a' b').run P w = .ok (.bool !r) w := by
      intro r hq
      constructor
      · cases ha <;> cases hb <;> first
          | (exfalso; exact hn1 _ _ _ _ rfl rfl)
          | (exfalso; exact hn2 _ _ rfl rfl)
          | exact absurd rfl (hnc.1.1 _)
          | exact absurd rfl (hnc.2.1 _)
          | exact absurd rfl hnc.1.2
          | exact absurd rfl hnc.2.2
          | simp [binOp, hq]
      · cases ha <;> cases hb <;> first
          | (exfalso; exact hn1 _ _ _ _ rfl rfl)
          | (exfalso; exact hn2 _ _ rfl rfl)
          | exact absurd rfl (hnc.1.1 _)
          | exact absurd rfl (hnc.2.1 _)
          | exact absurd rfl hnc.1.2
          | exact absurd rfl hnc.2.2
          | simp [binOp, hq]
    split at he <;> try (simp at he; done)
    · cases hq : eqlV P t a b h.get with
      | none => simp [hq] at he
      | some r =>
        simp only [hq, Option.bind_some, AM.ret, Option.some.injEq] at he
        subst he
        exact DoesV.ret hr (by rw [Sem.run_bind, hg, Result.andThen_ok, (hbo r (eql_run hr hwf hN ha hb hq)).1]) (.bool _)
    · cases hq : eqlV P t a b h.get with
      | none => simp [hq] at he
      | some r =>
        simp only [hq, Option.bind_some, AM.ret, Option.some.injEq] at he
        subst he
        exact DoesV.ret hr (by rw [Sem.run_bind, hg, Result.andThen_ok, (hbo r (eql_run hr hwf hN ha hb hq)).2]) (.bool _)

theorem eff_does {o : Oper} {ρ ρ' : Operand → Value} {f : Eff} (hr : HRel m (mix h N F) w) (hwf : HWf h) (hN : (h.apply f).nx ≤ N) (hN0 : h.nx ≤ N) (hρ : ∀ x ∈ o.op.operands.toList, VRel m (ρ x) (ρ' x))
    (he : eff P o.op ρ h.get h.nx = some f) : Does P (execOp ρ' o) f h N F m w := by
  obtain ⟨dst, op, type, pos, after, guard⟩ := o
  simp only at hρ he
  cases op <;> simp only [eff, reduceCtorEq] at he <;> simp only [Op.operands] at hρ
  case move x => simp only [AM.ret, Option.some.injEq] at he; subst he; exact Does.ret hr rfl (hρ x (by simp))
  case assign x => simp only [AM.ret, Option.some.injEq] at he; subst he; exact Does.ret hr rfl (hρ x (by simp))
  case pick c a b => exact pick_does hr (hρ c (by simp)) (hρ a (by simp)) (hρ b (by simp)) he
  case alloc e => exact (alloc_does hr hwf hN he).does
  case box t x => exact (box_does hr hwf hN (hρ x (by simp)) he).does
  case build t ps => exact (build_does hr (fun x hx => hρ x.2 (by simp only [List.mem_map]; exact ⟨x, hx, rfl⟩)) he).does
  case buildSlice t n ps => exact (buildSlice_does hr hwf hN (fun x hx => hρ x.2 (by simp only [List.mem_map]; exact ⟨x, hx, rfl⟩)) he).does
  case insert t mp k x => exact (update_does hr hwf hN0 (hρ mp (by simp)) (hρ k (by simp)) (hρ x (by simp)) he).does
  case load t a => exact (load_does hr hwf hN0 (hρ a (by simp)) he).does
  case store t a x => exact (store_does hr hwf hN0 (hρ a (by simp)) (hρ x (by simp)) he).does
  case nilCheck x => exact nil_does hr (hρ x (by simp)) he _ x rfl ρ' rfl
  case binOp bo t x y yt => exact (bin_does hr hwf hN0 (hρ x (by simp)) (hρ y (by simp)) he).does
  case unOp uo t x => exact (un_does hr (hρ x (by simp)) he).does
  case convert s d x => exact (conv_does hr hwf hN hN0 (hρ x (by simp)) he).does
  case sliceToArrayPointer t x => exact (arrPtr_does hr (hρ x (by simp)) he).does
  case makeInterface t x => exact (iface_does hr (hρ x (by simp)) he).does
  case makeFunc fn first captured =>
    refine (func_does hr ?_ ?_ he).does
    · rw [Array.toList_map, Array.toList_map]; exact VRels.map fun x hx => hρ x (by simp [hx])
    · rw [Array.toList_map, Array.toList_map]; exact VRels.map fun x hx => hρ x (by simp [hx])
  case makeMap t r =>
    refine (makeMap_does hr hwf hN ?_ he).does
    cases r with
    | none => exact .inl ⟨rfl, rfl⟩
    | some x => exact .inr ⟨_, _, rfl, rfl, hρ x (by simp)⟩
  case makeSlice t l c => exact (makeSlice_does hr hwf hN (hρ l (by simp)) (hρ c (by simp)) he).does
  case slice t x lo hi mx =>
    exact (slice_does hr hwf hN0 (hρ x (by simp)) (ORelV.map fun y hy => hρ y (by simp [hy])) (ORelV.map fun y hy => hρ y (by simp [hy])) (ORelV.map fun y hy => hρ y (by simp [hy])) he).does
  case fieldAddr t x i => exact (field_does hr (hρ x (by simp)) he).does
  case field t x i => exact (fieldV_does hr (hρ x (by simp)) he).does
  case indexAddr t x i => exact (idxAddr_does hr (hρ x (by simp)) (hρ i (by simp)) he).does
  case index t x i => exact (index_does hr (hρ x (by simp)) (hρ i (by simp)) he).does
  case lookup t x k ok => exact (lookup_does hr hwf hN0 (hρ x (by simp)) (hρ k (by simp)) he).does
  case mapUpdate t mp k x => exact (update_does hr hwf hN0 (hρ mp (by simp)) (hρ k (by simp)) (hρ x (by simp)) he).does
  case range t x => exact (range_does hr hwf hN (hρ x (by simp)) hN0 he).does
  case next it b => exact (next_does hr hwf hN0 (hρ it (by simp)) he).does
  case typeAssert x t a ok => exact (assert_does hr (hρ x (by simp)) he).does
  case extract t i => exact (extract_does hr (hρ t (by simp)) he).does
  case call c =>
    unfold effCall at he
    split at he <;> try (simp at he; done)
    rename_i b hb
    obtain ⟨callee, args, argTypes⟩ := c
    simp only at hb he hρ
    subst hb
    have ha : VRels m (args.toList.map ρ) (args.toList.map ρ') := VRels.map fun x hx => hρ x (by simp [Call.operands, hx])
    have key := fun cs => builtin_does (t0 := type) (cs := cs) hr hwf hN hN0 ha he
    rw [show (args.toList.map ρ').toArray = args.map ρ' from Array.ext' (by simp)] at key
    simp only [execOp, resolve, Does, Sem.run_bind, Sem.run_pure, Result.andThen_ok, invoke] at key ⊢
    exact key _
end Go.AM
end
section
/- What an operation looks at, and what it writes. -/
namespace Go.AM
variable {P : Program}

def EffOk (g : Nat → Option Blk) (f : Eff) : Prop := f.wr = [] ∨ ∃ b x, f.wr = [(b, x)] ∧ g b ≠ none
theorem EffOk.ret {g : Nat → Option Blk} {v : Value} {f : Eff} (h : ret v = some f) : EffOk g f := by
  simp only [AM.ret, Option.some.injEq] at h; subst h; exact .inl rfl

theorem EffOk.bind {α : Type} {g : Nat → Option Blk} {o : Option α} {V : α → Value} {f : Eff} (h : (o.bind fun v => AM.ret (V v)) = some f) : EffOk g f := by
  cases o with
  | none => simp at h
  | some v => simp only [Option.bind_some] at h; exact .ret h
theorem cond_some {α : Type} {c : Bool} {x : Option α} {f : α} (h : cond c x none = some f) : x = some f := by
  cases c <;> simp at h; exact h
theorem cond_none {α : Type} {c : Bool} {x : Option α} {f : α} (h : cond c none x = some f) : x = some f := by
  cases c <;> simp at h; exact h

theorem eff_ok {op : Op} {ρ : Operand → Value} {g : Nat → Option Blk} {nx : Nat} {f : Eff} (he : eff P op ρ g nx = some f) : EffOk g f := by
  cases op <;> simp only [eff, reduceCtorEq] at he
  case move x => exact .ret he
  case assign x => exact .ret he
  case pick c a b => unfold effPick at he; split at he <;> first | exact .ret he | simp at he
  case alloc e => unfold effAlloc at he; split at he <;> first | (simp at he; done) | (cases he; exact .inl rfl)
  case box t x => unfold effBox at he; split at he <;> first | (simp at he; done) | (cases he; exact .inl rfl)
  case build t ps =>
    exact .bind he
  case buildSlice t n ps => unfold effBuildSlice at he; (repeat' split at he) <;> first | (simp at he; done) | (cases he; exact .inl rfl)
  case insert t mp k x => unfold effUpdate at he; (repeat' split at he) <;> first | (simp at he; done) | (cases he; exact .inr ⟨_, _, rfl, by simp_all⟩)
  case mapUpdate t mp k x => unfold effUpdate at he; (repeat' split at he) <;> first | (simp at he; done) | (cases he; exact .inr ⟨_, _, rfl, by simp_all⟩)
  case load t a =>
    unfold effLoad at he
    split at he <;> try (simp at he; done)
    split at he <;> try (simp at he; done)
    split at he <;> try (simp at he; done)
    rename_i d _
    cases ha : aggB (some d) <;> rw [ha] at he <;> simp only [cond_true, cond_false] at he
    · have he := cond_some he
      split at he <;> first | exact .ret he | simp at he
    · split at he <;> try (simp at he; done)
      exact .ret (cond_some he)
  case store t a x =>
    unfold effStore at he
    split at he <;> try (simp at he; done)
    split at he <;> try (simp at he; done)
    rename_i hg
    split at he <;> try (simp at he; done)
    split at he <;> try (simp at he; done)
    have he := cond_some (cond_some he)
    cases he
    exact .inr ⟨_, _, rfl, by rw [hg]; simp⟩
  case nilCheck x =>
    unfold effNil at he
    split at he <;> first | exact .ret he | skip
    · split at he <;> try (simp at he; done)
      split at he <;> try (simp at he; done)
      split at he <;> try (simp at he; done)
      split at he <;> try (simp at he; done)
      split at he <;> first | exact .ret he | simp at he
    · simp at he
  case binOp bo t x y yt =>
    unfold effBin at he
    split at he
    · split at he
      · exact .bind he
      · exact .bind he
      · exact .bind (cond_some he)
    · exact .bind he
    · split at he <;> first | exact .ret he | simp at he
    · split at he
      · split at he <;> first | exact .ret he | simp at he
      · split at he <;> try (simp at he; done)
        split at he <;> try (simp at he; done)
        split at he <;> first | exact .ret he | simp at he
    · rename_i i j _ _
      cases hij : Nat.beq i j with
      | true =>
        rw [hij] at he
        simp only [cond_true] at he
        split at he <;> first | exact .ret he | simp at he
      | false =>
        rw [hij] at he
        exact .bind he
    · exact .bind he
    · exact .bind he
    · split at he <;> try (simp at he; done)
      · exact .bind he
      · exact .bind he
  case unOp uo t x =>
    unfold effUn at he
    split at he <;> try (simp at he; done)
    · split at he <;> first | exact .ret he | simp at he
    · split at he <;> first | exact .ret he | simp at he
    · split at he <;> try (simp at he; done)
      exact .bind he
  case convert s d x =>
    unfold effConv at he
    split at he <;> try (simp at he; done)
    · split at he <;> first | exact .ret he | simp at he
    · split at he <;> first | exact .bind he | simp at he
    · split at he <;> first
        | exact .ret he
        | (simp at he; done)
        | (split at he <;> first | (simp at he; done) | (cases he; exact .inl rfl))
    · split at he <;> try (simp at he; done)
      split at he <;> try (simp at he; done)
      split at he <;> try (simp at he; done)
      · exact .ret he
      · exact .bind he
  case sliceToArrayPointer t x => unfold effArrPtr at he; (repeat' split at he) <;> first | (simp at he; done) | exact .ret he
  case makeInterface t x => unfold effIface at he; (repeat' split at he) <;> first | (simp at he; done) | exact .ret he
  case makeFunc fn a b => unfold effFunc at he; exact .ret he
  case makeMap t r => unfold effMakeMap at he; (repeat' split at he) <;> first | (simp at he; done) | (cases he; exact .inl rfl)
  case makeSlice t l c =>
    unfold effMakeSlice at he
    (repeat' split at he) <;> try (simp at he; done)
    have he := cond_some he
    cases he; exact .inl rfl
  case slice t x lo hi mx => unfold effSlice at he; (repeat' split at he) <;> first | (simp at he; done) | exact .ret he
  case fieldAddr t x i =>
    unfold effField at he
    (repeat' split at he) <;> try (simp at he; done)
    exact .ret (cond_none he)
  case field t x i =>
    unfold effFieldV at he
    (repeat' split at he) <;> try (simp at he; done)
    exact .bind he
  case indexAddr t x i => unfold effIdx at he; (repeat' split at he) <;> first | (simp at he; done) | exact .ret he
  case index t x i =>
    unfold effIndex at he
    (repeat' split at he) <;> try (simp at he; done)
    · exact .bind he
    · exact .ret he
  case lookup t x k ok => unfold effLookup at he; (repeat' split at he) <;> first | (simp at he; done) | exact .ret he
  case range t x => unfold effRange at he; (repeat' split at he) <;> first | (simp at he; done) | (cases he; exact .inl rfl)
  case next it b =>
    unfold effNext effNextS at he
    (repeat' split at he) <;> first
      | (simp at he; done)
      | exact .ret he
      | (cases he; exact .inr ⟨_, _, rfl, by simp_all⟩)
  case typeAssert x t a ok =>
    unfold effAssert effAssert.fails at he
    (repeat' split at he) <;> first | (simp at he; done) | exact .ret he
  case extract t i => unfold effExtract at he; (repeat' split at he) <;> first | (simp at he; done) | exact .ret he
  case call c =>
    unfold effCall at he
    split at he <;> try (simp at he; done)
    rename_i b _
    cases b <;> simp only [builtinEff, reduceCtorEq] at he
    case append =>
      split at he <;> try (simp at he; done)
      unfold aAppend at he
      (repeat' split at he) <;> first
        | (simp at he; done)
        | exact .ret he
        | (cases he; exact .inl rfl)
        | (cases he; exact .inr ⟨_, _, rfl, by simp_all⟩)
    case copy =>
      split at he <;> try (simp at he; done)
      unfold aCopy at he
      (repeat' split at he) <;> first
        | (simp at he; done)
        | exact .ret he
        | (cases he; exact .inr ⟨_, _, rfl, by simp_all⟩)
    case clear =>
      split at he <;> try (simp at he; done)
      unfold aClear at he
      (repeat' split at he) <;> first
        | (simp at he; done)
        | exact .ret he
        | (cases he; exact .inr ⟨_, _, rfl, by simp_all⟩)
    case delete =>
      split at he <;> try (simp at he; done)
      unfold aDelete at he
      (repeat' split at he) <;> first
        | (simp at he; done)
        | exact .ret he
        | (cases he; exact .inr ⟨_, _, rfl, by simp_all⟩)
    case len =>
      split at he <;> try (simp at he; done)
      unfold aLen at he
      (repeat' split at he) <;> first | (simp at he; done) | exact .ret he
    case min => split at he <;> first | exact .ret he | exact .bind he
    case max => split at he <;> first | exact .ret he | exact .bind he
def Quiet (f : Eff) : Prop := f.wr = [] ∧ f.nw = []
theorem Quiet.ret {v : Value} {f : Eff} (h : AM.ret v = some f) : Quiet f := by
  simp only [AM.ret, Option.some.injEq] at h; subst h; exact ⟨rfl, rfl⟩
theorem Quiet.bind {α : Type} {o : Option α} {V : α → Value} {f : Eff} (h : (o.bind fun v => AM.ret (V v)) = some f) : Quiet f := by
  cases o with
  | none => simp at h
  | some v => simp only [Option.bind_some] at h; exact Quiet.ret h
theorem eff_quiet {op : Op} {ρ : Operand → Value} {g : Nat → Option Blk} {nx : Nat} {f : Eff} (hc : opCls op < 2) (he : eff P op ρ g nx = some f) : Quiet f := by
  cases op <;> simp only [eff, reduceCtorEq] at he <;> try (simp [opCls] at hc; done)
  case move x => exact Quiet.ret he
  case assign x => exact Quiet.ret he
  case pick c a b => unfold effPick at he; split at he <;> first | exact Quiet.ret he | simp at he
  case load t a =>
    unfold effLoad at he
    split at he <;> try (simp at he; done)
    split at he <;> try (simp at he; done)
    split at he <;> try (simp at he; done)
    rename_i d _
    cases ha : aggB (some d) <;> rw [ha] at he <;> simp only [cond_true, cond_false] at he
    · have he := cond_some he
      split at he <;> first | exact Quiet.ret he | simp at he
    · split at he <;> try (simp at he; done)
      exact Quiet.ret (cond_some he)
  case nilCheck x =>
    unfold effNil at he
    split at he <;> first | exact Quiet.ret he | skip
    · split at he <;> try (simp at he; done)
      split at he <;> try (simp at he; done)
      split at he <;> try (simp at he; done)
      split at he <;> try (simp at he; done)
      split at he <;> first | exact Quiet.ret he | simp at he
    · simp at he
  case binOp bo t x y yt =>
    unfold effBin at he
    split at he
    · split at he
      · exact Quiet.bind he
      · exact Quiet.bind he
      · exact Quiet.bind (cond_some he)
    · exact Quiet.bind he
    · split at he <;> first | exact Quiet.ret he | simp at he
    · split at he
      · split at he <;> first | exact Quiet.ret he | simp at he
      · split at he <;> try (simp at he; done)
        split at he <;> try (simp at he; done)
        split at he <;> first | exact Quiet.ret he | simp at he
    · rename_i i j _ _
      cases hij : Nat.beq i j with
      | true =>
        rw [hij] at he
        simp only [cond_true] at he
        split at he <;> first | exact Quiet.ret he | simp at he
      | false =>
        rw [hij] at he
        exact Quiet.bind he
    · exact Quiet.bind he
    · exact Quiet.bind he
    · split at he <;> try (simp at he; done)
      · exact Quiet.bind he
      · exact Quiet.bind he
  case unOp uo t x =>
    unfold effUn at he
    split at he <;> try (simp at he; done)
    · split at he <;> first | exact Quiet.ret he | simp at he
    · split at he <;> first | exact Quiet.ret he | simp at he
    · split at he <;> try (simp at he; done)
      exact Quiet.bind he
  case makeInterface t x => unfold effIface at he; (repeat' split at he) <;> first | (simp at he; done) | exact Quiet.ret he
  case makeFunc fn a b => unfold effFunc at he; exact Quiet.ret he
  case fieldAddr t x i =>
    unfold effField at he
    (repeat' split at he) <;> try (simp at he; done)
    exact Quiet.ret (cond_none he)
  case field t x i =>
    unfold effFieldV at he
    (repeat' split at he) <;> try (simp at he; done)
    exact Quiet.bind he
  case indexAddr t x i => unfold effIdx at he; (repeat' split at he) <;> first | (simp at he; done) | exact Quiet.ret he
  case index t x i =>
    unfold effIndex at he
    (repeat' split at he) <;> try (simp at he; done)
    · exact Quiet.bind he
    · exact Quiet.ret he
  case lookup t x k ok => unfold effLookup at he; (repeat' split at he) <;> first | (simp at he; done) | exact Quiet.ret he
  case extract t i => unfold effExtract at he; (repeat' split at he) <;> first | (simp at he; done) | exact Quiet.ret he
theorem foot_nil {op : Op} {ρ : Operand → Value} (hc : opCls op = 0) : foot op ρ = [] := by
  cases op <;> first | rfl | (simp [opCls] at hc)
end Go.AM
end
section
/- An operation hangs on its operands, and on the blocks that they lead to, alone. -/
namespace Go.AM
variable {P : Program}

theorem eff_congr {op : Op} {ρ ρ' : Operand → Value} {g : Nat → Option Blk} {nx : Nat} (hρ : ∀ x ∈ op.operands.toList, ρ x = ρ' x) : eff P op ρ g nx = eff P op ρ' g nx := by
  have pairs : ∀ ps : Array (Nat × Operand), (∀ x ∈ ps.toList.map (·.2), ρ x = ρ' x) → (ps.toList.map fun x => (x.1, ρ x.2)) = (ps.toList.map fun x => (x.1, ρ' x.2)) := fun ps hp =>
    List.map_congr_left fun x hx => by rw [hp x.2 (List.mem_map.2 ⟨x, hx, rfl⟩)]
  cases op <;> simp only [Op.operands] at hρ <;> simp only [eff]
  case build t ps => rw [pairs ps (by simpa using hρ)]
  case buildSlice t n ps => rw [pairs ps (by simpa using hρ)]
  case makeFunc fn a b =>
    rw [Array.map_congr_left (xs := a) fun x hx => hρ x (by simp [hx]), Array.map_congr_left (xs := b) fun x hx => hρ x (by simp [hx])]
  case makeMap t r => cases r <;> simp_all
  case slice t x lo hi mx => cases lo <;> cases hi <;> cases mx <;> simp_all
  case call c =>
    unfold effCall
    split
    · rw [List.map_congr_left fun x hx => hρ x (by simp [Call.operands, hx])]
    · rfl
  all_goals (first | rfl | (simp_all; done))

theorem callee_congr {c : Call} {ρ ρ' : Operand → Value} (hρ : ∀ x ∈ c.operands.toList, ρ x = ρ' x) : callee P c ρ = callee P c ρ' := by
  have ha : c.args.toList.map ρ = c.args.toList.map ρ' := List.map_congr_left fun x hx => hρ x (by simp [Call.operands, hx])
  unfold callee
  cases hc : c.callee with
  | value f => have : ρ f = ρ' f := hρ f (by simp [Call.operands, hc]); simp only [this, ha]
  | invoke r n => have : ρ r = ρ' r := hρ r (by simp [Call.operands, hc]); simp only [this, ha]
  | builtin b => rfl

def Same (g g' : Nat → Option Blk) (v : Value) : Prop := ∀ b ∈ blkOf v, g b = g' b

theorem first_local {g g' : Nat → Option Blk} {size n : Nat} {x : Value} (h : Same g g' x) : firstL g size n x = firstL g' size n x := by
  cases n with
  | zero => rfl
  | succ n =>
  show firstS g size (n + 1) x = firstS g' size (n + 1) x
  unfold firstS
  split
  · rename_i b off _ _; rw [h b (by simp [blkOf])]
  · rfl
  · rfl
  · rfl

theorem eff_local {op : Op} {ρ : Operand → Value} {g g' : Nat → Option Blk} {nx : Nat} (h : ∀ b ∈ foot op ρ, g b = g' b) : eff P op ρ g nx = eff P op ρ g' nx := by
  have hx : looks op = true → ∀ x ∈ op.operands.toList, Same g g' (ρ x) := by
    intro hl x hx b hb
    refine h b ?_
    unfold foot
    rw [if_pos hl]
    exact List.mem_flatMap.2 ⟨x, hx, hb⟩
  cases op <;> simp only [looks, forall_const] at hx <;> simp only [eff]
  case load t a =>
    have := hx a (by simp [Op.operands])
    unfold effLoad
    split
    · rename_i b off hv; rw [hv] at this; rw [this b (by simp [blkOf])]
    · rfl
  case range t x =>
    have := hx x (by simp [Op.operands])
    unfold effRange
    split
    · rfl
    · rename_i r _ hv; rw [hv] at this; rw [this r (by simp [blkOf])]
    · rfl
  case store t a x =>
    have := hx a (by simp [Op.operands])
    unfold effStore
    split
    · rename_i b off hv; rw [hv] at this; rw [this b (by simp [blkOf])]
    · rfl
  case insert t m k x =>
    have := hx m (by simp [Op.operands])
    unfold effUpdate
    split
    · rename_i r _ hv; rw [hv] at this; rw [this r (by simp [blkOf])]
    · rfl
  case mapUpdate t m k x =>
    have := hx m (by simp [Op.operands])
    unfold effUpdate
    split
    · rename_i r _ hv; rw [hv] at this; rw [this r (by simp [blkOf])]
    · rfl
  case binOp bo t x y yt =>
    have h1 := hx x (by simp [Op.operands])
    have h2 := hx y (by simp [Op.operands])
    have hel : ∀ (t : TypeId) (u v : Value), Same g g' u → Same g g' v → eqlV P t u v g = eqlV P t u v g' := by
      intro t u v h1 h2
      unfold eqlV
      split
      · split
        · rfl
        · rfl
        · rename_i a b
          rw [h1 a.block (by simp [blkOf]), h2 b.block (by simp [blkOf])]
        · rfl
      all_goals rfl
    have he : eqlV P t (ρ x) (ρ y) g = eqlV P t (ρ x) (ρ y) g' := hel t _ _ h1 h2
    have hcs : ∀ (e : TypeId) (l s : List Value), (∀ v ∈ l, ∀ a, v = .pointer (some a) → g a.block = g' a.block) → (∀ v ∈ s, ∀ a, v = .pointer (some a) → g a.block = g' a.block) → eqCells P e g l s = eqCells P e g' l s := by
      intro e l
      induction l with
      | nil => intro s _ _; cases s <;> rfl
      | cons v l ih =>
        intro s hl hs
        cases s with
        | nil => rfl
        | cons u s =>
          have e1 : eqlV P e v u g = eqlV P e v u g' := by
            unfold eqlV
            split
            · split
              · rfl
              · rfl
              · rename_i a b
                rw [hl _ List.mem_cons_self a rfl, hs _ List.mem_cons_self b rfl]
              · rfl
            all_goals rfl
          rw [eqCells, eqCells, e1, ih s (fun v hv => hl v (List.mem_cons_of_mem _ hv)) (fun v hv => hs v (List.mem_cons_of_mem _ hv))]
    have harr : ∀ a b, ρ x = .agg a → ρ y = .agg b → eqArr P t a b g = eqArr P t a b g' := by
      intro a b ha hb
      unfold eqArr
      split
      · split
        · split
          · rfl
          · refine hcs _ _ _ (fun v hv c hc => h1 c.block ?_) (fun v hv c hc => h2 c.block ?_)
            · rw [ha]; simp only [blkOf, List.mem_flatMap]; exact ⟨v, hv, by rw [hc]; simp⟩
            · rw [hb]; simp only [blkOf, List.mem_flatMap]; exact ⟨v, hv, by rw [hc]; simp⟩
        · rfl
      · rfl
    generalize ρ x = a at he h1 h2 harr
    generalize ρ y = b at he h1 h2 harr
    unfold effBin
    split
    · rfl
    · rfl
    · rfl
    · rw [harr _ _ rfl rfl]
    · rename_i i j; rw [h1 i (by simp [blkOf])]
    · rename_i i k b; rw [h1 i (by simp [blkOf])]
    · rename_i k a j; rw [h2 j (by simp [blkOf])]
    · rw [he]
  case convert s d x =>
    have := hx x (by simp [Op.operands])
    unfold effConv
    split
    · rfl
    · rename_i i hv
      rw [hv] at this
      rw [this i (by simp [blkOf])]
    · rfl
    · rename_i a len c hv
      rw [hv] at this
      split
      · split
        · split
          · rfl
          · rename_i b off; rw [this b (by simp [blkOf])]
          · rfl
        · rfl
      · rfl
    · rfl
  case slice t x lo hi mx =>
    have := hx x (by simp [Op.operands])
    unfold effSlice
    split
    · rfl
    · rename_i e a len cap _ hv
      rw [hv] at this
      have hs : ∀ l m size b, sliceAddr a l m cap size b g = sliceAddr a l m cap size b g' := by
        intro l m size b
        unfold sliceAddr
        split
        · rfl
        · rfl
        · rename_i b off; rw [this b (by simp [blkOf])]
      split
      · rw [hs]
      · rfl
    · rfl
    · rfl
    · rfl
  case lookup t m k ok =>
    have := hx m (by simp [Op.operands])
    unfold effLookup
    split
    · rename_i kt e r _ hv
      rw [hv] at this
      cases r with
      | none => rfl
      | some r => simp only; rw [this r (by simp [blkOf])]
    · rfl
  case next it b =>
    have := hx it (by simp [Op.operands])
    unfold effNext effNextS
    cases b with
    | false => rfl
    | true =>
      simp only
      split
      · rename_i r hv; rw [hv] at this; rw [this r (by simp [blkOf])]
      · rfl
  case call c =>
    unfold effCall
    split
    · rename_i b hb
      have hargs : ∀ v ∈ c.args.toList.map ρ, Same g g' v := by
        intro v hv
        obtain ⟨x, h1, rfl⟩ := List.mem_map.1 hv
        exact hx x (by simp [Op.operands, Call.operands, h1])
      generalize c.args.toList.map ρ = args at hargs
      have hmm : ∀ mn, mmOf mn args g = mmOf mn args g' := by
        intro mn
        unfold mmOf
        split
        · rename_i i k b; rw [hargs (.chan (some i)) (by simp) i (by simp [blkOf])]
        · rename_i k b i; rw [hargs (.chan (some i)) (by simp) i (by simp [blkOf])]
        · rfl
      cases b <;> simp only [builtinEff]
      case min => rw [hmm]
      case max => rw [hmm]
      case append =>
        split
        · rename_i s x
          have h1 := hargs s (by simp)
          have h2 := hargs x (by simp)
          unfold aAppend
          split
          · split
            · rfl
            · rename_i elem d base sLen sCap _ _ _
              split
              · rename_i i z n _ _ _
                rw [first_local (g := g) (g' := g') h2]
                split
                · rfl
                · split
                  · rfl
                  · split
                    · cases base with
                      | none => rfl
                      | some a =>
                        obtain ⟨b, off, sp⟩ := a
                        cases sp with
                        | some _ => rfl
                        | none => simp only; rw [h1 b (by simp [blkOf])]
                    · rw [first_local (g := g) (g' := g') h1]
                      split
                      · rfl
                      · cases base with
                        | none => rfl
                        | some a =>
                          obtain ⟨b, off, sp⟩ := a
                          cases sp with
                          | some _ => rfl
                          | none => simp only; rw [h1 b (by simp [blkOf])]
              · rfl
            · rfl
          · rfl
        · rfl
      case copy =>
        split
        · rename_i d s
          have h1 := hargs d (by simp)
          have h2 := hargs s (by simp)
          unfold aCopy
          split
          · split
            · rename_i elem base dLen dCap _
              split
              · rename_i size sl _ _
                rw [first_local (g := g) (g' := g') h2]
                split
                · rfl
                · cases base with
                  | none => rfl
                  | some a =>
                    obtain ⟨b, off, sp⟩ := a
                    cases sp with
                    | some _ => rfl
                    | none => simp only; rw [h1 b (by simp [blkOf])]
              · rfl
            · rfl
          · rfl
        · rfl
      case clear =>
        split
        · rename_i x
          have h1 := hargs x (by simp)
          unfold aClear
          split
          · split
            · rfl
            · rename_i r _; rw [h1 r (by simp [blkOf])]
            · rfl
            · rename_i elem b off n c _; rw [h1 b (by simp [blkOf])]
            · rfl
          · rfl
        · rfl
      case delete =>
        split
        · rename_i mm k
          have h1 := hargs mm (by simp)
          unfold aDelete
          split
          · split
            · rename_i kt e r _
              cases r with
              | none => rfl
              | some r => simp only; rw [h1 r (by simp [blkOf])]
            · rfl
          · rfl
        · rfl
      case len =>
        split
        · rename_i x
          have h1 := hargs x (by simp)
          unfold aLen
          split
          · split
            all_goals first | rfl | (rename_i r _; rw [h1 r (by simp [blkOf])])
          · rfl
        · rfl
    · rfl
end Go.AM
end
section
/- Steps of the machine: one operation. -/
set_option linter.unusedSectionVars false
namespace Go.AM

def evalF (E : Tmp → Value) : Operand → Value
  | .tmp t => E t
  | .const v => v
  | .global g => .pointer (some ⟨g, 0, none⟩)
  | .func f => .func (.func f) #[] #[]
def putF (E : Tmp → Value) (d : Option Tmp) (v : Value) : Tmp → Value := fun t => if d = some t then v else E t

theorem Env.at_eq (e : Env) (t : Tmp) : e.at t = (e.get t).getD topV := by
  unfold Env.at
  cases e.get t <;> rfl
theorem Env.eval_eq (e : Env) : e.eval = evalF e.at := by
  funext x; cases x <;> rfl
theorem Env.put_at (e : Env) (d : Option Tmp) (v : Value) : (e.put d v).at = putF e.at d v := by
  funext t
  cases d with
  | none => simp [Env.put, putF]
  | some d =>
    simp only [Env.put, Env.at_eq, Trie.get_set, putF, Option.some.injEq]
    by_cases h : t = d
    · subst h; simp
    · rw [if_neg h, if_neg (Ne.symm h)]

def GlobOk (ng : Nat) (m : Mp) : Prop := ∀ g, g < ng → (∃ l, m g = .live l ∧ l.cb = g ∧ l.sh = 0 ∧ l.rw = false) ∨ m g = .dead
theorem GlobOk.mono {ng : Nat} {m m' : Mp} (h : GlobOk ng m) (e : Ext m m') : GlobOk ng m' := fun g hg => by
  rcases h g hg with ⟨l, h1, h2, h3, h4⟩ | h1
  · exact .inl ⟨l, e.ro h1 h4, h2, h3, h4⟩
  · exact .inr (e.dead h1)

class Ds (nt : Nat) where
  ds : List Deferred
structure ARel (m : Mp) (E : Tmp → Value) (a : Act) (nt : Nat) [D : Ds nt] : Prop where
  tm : ∀ t, VRel m (E t) (a.tmps.getD t undef)
  size : nt ≤ a.tmps.size
  def_ : a.defers = D.ds

variable {P : Program} {m : Mp} {h : Heap} {N ng nt : Nat} [Ds nt] {F : Nat → Option Blk} {w : World} {E : Tmp → Value} {a : Act}

theorem ARel.mono {m' : Mp} (hr : ARel m E a nt) (e : Ext m m') : ARel m' E a nt := ⟨fun t => (hr.tm t).mono e, hr.size, hr.def_⟩
theorem ARel.eval (hr : ARel m E a nt) (hg : GlobOk ng m) {x : Operand} (hx : operOk ng x = true) : VRel m (evalF E x) (a.eval x) := by
  cases x with
  | tmp t => exact hr.tm t
  | const v => exact plainV_rel hx
  | global g =>
    have hlt : g < ng := by simpa [operOk, Nat.blt_eq] using hx
    rcases hg g hlt with ⟨l, h1, h2, h3, _⟩ | h1
    · have := VRel.ptr g 0 l h1
      rw [h2, h3] at this
      exact this
    · exact .ptrDead _ _ h1
  | func f => exact .func (.func f) #[] #[] #[] #[] .nil .nil
theorem ARel.put (hr : ARel m E a nt) {d : Option Tmp} {v v' : Value} (hv : VRel m v v') (hd : ∀ t, d = some t → t < nt) : ARel m (putF E d v) (a.put d v') nt := by
  cases d with
  | none =>
    refine ⟨fun t => ?_, hr.size, hr.def_⟩
    have := hr.tm t
    simp only [putF, reduceCtorEq, if_false]
    exact this
  | some d =>
    refine ⟨fun t => ?_, by simpa [Act.put] using hr.size, hr.def_⟩
    simp only [putF, Act.put, Option.some.injEq]
    by_cases e : d = t
    · subst e
      have hlt : d < a.tmps.size := Nat.lt_of_lt_of_le (hd d rfl) hr.size
      simp [hlt]; exact hv
    · rw [if_neg e]
      have := hr.tm t
      simpa [Array.getElem?_setIfInBounds_ne e] using this

def ORel (m : Mp) : Out → Ending → Prop
  | .ret v, e => ∃ v', e = .returned v' ∧ VRel m v v'
  | .pan v, e => ∃ v', e = .panicked [{ v := v', recovered := false }] ∧ VRel m v v'
def Enter (P : Program) (f : FuncId) : Prop := ∀ args w, (callFunc f args).run P w = .ok (.enter f args) w
def CallOk (P : Program) (ng : Nat) (cl : Caller) : Prop := ∀ f args h o h', cl f args h = some (o, h') → HWf h →
  Enter P f ∧ HWf h' ∧ h.nx ≤ h'.nx ∧ ∀ (N : Nat) (F : Nat → Option Blk) (m : Mp) (w : World) (args' : List Value), h'.nx ≤ N → HRel m (mix h N F) w → GlobOk ng m → VRels m args args' →
    Calls P f args'.toArray w fun e w' => ∃ m', ORel m' o e ∧ HRel m' (mix h' N F) w' ∧ Step m w m' w'

/- ## one operation -/
theorem opers_rel (hr : ARel m E a nt) (hg : GlobOk ng m) {o : Oper} (ho : opersOk ng nt o = true) : ∀ x ∈ o.op.operands.toList, VRel m (evalF E x) (a.eval x) := by
  intro x hx
  simp only [opersOk, Bool.and_eq_true] at ho
  exact hr.eval hg ((List.all_eq_true.1 ho.1) x hx)
theorem dst_lt {o : Oper} (ho : opersOk ng nt o = true) : ∀ t, o.dst = some t → t < nt := by
  intro t ht
  simp only [opersOk, Bool.and_eq_true, ht] at ho
  simpa [Nat.blt_eq] using ho.2

theorem eff_upon {o : Oper} {f : Eff} {K : Act → World → Prop} {Q : Exit → Act → World → Prop} (hh : HRel m (mix h N F) w) (hwf : HWf h) (hN : (h.apply f).nx ≤ N) (hN0 : h.nx ≤ N) (hr : ARel m E a nt) (hg : GlobOk ng m) (ho : opersOk ng nt o = true)
    (he : eff P o.op (evalF E) h.get h.nx = some f) (hK : ∀ m' w' a', HRel m' (mix (h.apply f) N F) w' → Step m w m' w' → ARel m' (putF E o.dst f.val) a' nt → K a' w') : o.wp P a w K Q := by
  obtain ⟨r, w', m', v', h1, h2, h3, h4, h5⟩ := eff_does (ρ' := a.eval) hh hwf hN hN0 (opers_rel hr hg ho) he
  unfold Oper.wp
  rw [h1]
  have hp := (hr.mono h5.ext).put h3 (dst_lt ho)
  rcases h2 with rfl | ⟨rfl, rfl⟩
  · exact hK m' w' _ h4 h5 hp
  · exact hK m' w' _ h4 h5 hp

theorem call_run {c : Call} {o : Oper} {f : FuncId} {args : List Value} {ρ ρ' : Operand → Value} (hoc : o.op = .call c) (hρ : ∀ x ∈ c.operands.toList, VRel m (ρ x) (ρ' x)) (hc : callee P c ρ = some (f, args)) (hen : Enter P f) :
    ∃ args' : List Value, VRels m args args' ∧ (execOp ρ' o).run P w = .ok (.enter f args'.toArray) w := by
  have ha : VRels m (c.args.toList.map ρ) (c.args.toList.map ρ') := VRels.map fun x hx => hρ x (by simp [Call.operands, hx])
  unfold callee at hc
  cases hcl : c.callee with
  | builtin b => simp [hcl] at hc
  | value x =>
    simp only [hcl] at hc
    split at hc <;> try (simp at hc; done)
    rename_i fid first captured hx
    simp only [Option.some.injEq, Prod.mk.injEq] at hc
    obtain ⟨rfl, rfl⟩ := hc
    have hv : VRel m (ρ x) (ρ' x) := hρ x (by simp [Call.operands, hcl])
    rw [hx] at hv
    generalize hv' : ρ' x = v' at hv
    cases hv with
    | func _ _ _ first' captured' h1 h2 =>
      refine ⟨first'.toList ++ c.args.toList.map ρ' ++ captured'.toList, (h1.append ha).append h2, ?_⟩
      simp only [execOp, hoc, resolve, hcl, hv', Deferred.ofValue, Sem.run_bind, Sem.run_pure, Result.andThen_ok, invoke]
      rw [hen]
      congr 2
      apply Array.ext'
      simp
  | invoke x name =>
    simp only [hcl] at hc
    split at hc <;> try (simp at hc; done)
    rename_i t v hx
    have hv : VRel m (ρ x) (ρ' x) := hρ x (by simp [Call.operands, hcl])
    rw [hx] at hv
    generalize hv' : ρ' x = v' at hv
    cases hv with
    | iface _ _ u hu =>
      split at hc <;> try (simp at hc; done)
      rename_i ti hti
      split at hc <;> try (simp at hc; done)
      rename_i mt el pa hmt hel
      split at hc <;> try (simp at hc; done)
      rename_i hpath
      split at hc <;> try (simp at hc; done)
      rename_i fid hf
      simp only [Option.some.injEq, Prod.mk.injEq] at hc
      obtain ⟨rfl, rfl⟩ := hc
      refine ⟨u :: c.args.toList.map ρ', .cons _ _ _ _ hu ha, ?_⟩
      have hp0 : mt.path.toList = [] := by simpa using hpath
      have hmt' : ti.methods.find? (·.name == name) = some mt := by rw [← Array.find?_toList]; exact hmt
      have hmeth : ∀ n, (method (n + 1) t u name).run P w = .ok (fid, u) w := by
        intro n
        simp only [method, Sem.run_bind, ri hti, Result.andThen_ok, hmt', hp0, follow, Sem.run_pure, hf, receiverAt, ru hel, Place.get]
      simp only [execOp, hoc, resolve, hcl, hv', Sem.run_bind, Sem.run_pure, Result.andThen_ok, invoke]
      simp only [callMethod]
      have e0 : (#[Value.iface t u] ++ Array.map ρ' c.args)[0]? = some (.iface t u) := by rw [Array.getElem?_append]; simp
      have e1 : (#[Value.iface t u] ++ Array.map ρ' c.args).extract 1 = Array.map ρ' c.args := by
        apply Array.ext'
        simp
        exact List.take_of_length_le (by simp)
      rw [e0]
      simp only [Sem.run_bind, run_program, Result.andThen_ok]
      rw [show P.types.size + Made.depth = (P.types.size + 99) + 1 from rfl, hmeth]
      simp only [Result.andThen_ok]
      rw [e1, hen]
      congr 2
      apply Array.ext'
      simp

theorem call_upon {c : Call} {o : Oper} {f : FuncId} {args : List Value} {cl : Caller} {out : Out} {h' : Heap} {K : Act → World → Prop} {Q : Exit → Act → World → Prop} (hcl : CallOk P ng cl) (hoc : o.op = .call c)
    (hh : HRel m (mix h N F) w) (hwf : HWf h) (hN : h'.nx ≤ N) (hr : ARel m E a nt) (hg : GlobOk ng m) (ho : opersOk ng nt o = true) (hc : callee P c (evalF E) = some (f, args)) (hq : cl f args h = some (out, h'))
    (hK : ∀ v, out = .ret v → ∀ m' w' a', HRel m' (mix h' N F) w' → Step m w m' w' → ARel m' (putF E o.dst v) a' nt → K a' w')
    (hP : ∀ v, out = .pan v → ∀ m' w' v', HRel m' (mix h' N F) w' → Step m w m' w' → VRel m' v v' → Q (.panic [{ v := v', recovered := false }]) a w') : o.wp P a w K Q := by
  obtain ⟨hen, _, _, hcalls⟩ := hcl f args h out h' hq hwf
  have hops : ∀ x ∈ c.operands.toList, VRel m (evalF E x) (a.eval x) := by
    have := opers_rel hr hg ho
    rw [hoc] at this
    exact this
  obtain ⟨args', h1, h2⟩ := call_run (P := P) (w := w) hoc hops hc hen
  unfold Oper.wp
  rw [h2]
  refine (hcalls N F m w args' hN hh hg h1).mono ?_
  rintro e w' ⟨m', q1, q2, q3⟩
  cases out with
  | ret v =>
    obtain ⟨v', rfl, q4⟩ := q1
    exact hK v rfl m' w' _ q2 q3 ((hr.mono q3.ext).put q4 (dst_lt ho))
  | pan v =>
    obtain ⟨v', rfl, q4⟩ := q1
    exact hP v rfl m' w' v' q2 q3 q4
end Go.AM
end
section
/- Regions whose order is the text's. -/
set_option linter.unusedSectionVars false
namespace Go.AM
variable {P : Program} {m : Mp} {h : Heap} {N ng nt : Nat} [Ds nt] {F : Nat → Option Blk} {w : World}

def XRel (m : Mp) : AExit → Exit → Prop
  | .normal, x => x = .normal
  | .ret, x => x = .ret
  | .exit id, x => x = .exit id
  | .goto l, x => x = .goto l
  | .pan v, x => ∃ v', x = .panic [{ v := v', recovered := false }] ∧ VRel m v v'

def Known (v : Value) : Prop := (∀ r, v ≠ .chan r) ∧ v ≠ topV
theorem wanted_eq {ops : Array Oper} {E : Tmp → Value} {a : Act} {o : Oper} (hr : ARel m E a nt) (hgk : ∀ j want d, o.guard = some (j, want) → (ops.toList[j]?).bind (·.dst) = some d → Known (E d)) :
    Region.wanted o (yielded ops a.tmps) = (match o.guard with
      | none => true
      | some (j, want) => match (ops.toList[j]?).bind (·.dst) with
        | some d => match E d with
          | .bool b => Bool.rec (Bool.not want) want b
          | _ => false
        | none => false) := by
  unfold Region.wanted
  cases hg : o.guard with
  | none => rfl
  | some x =>
    obtain ⟨j, want⟩ := x
    simp only [yielded, Array.getElem?_toList]
    cases hd : (ops[j]?).bind (·.dst) with
    | none => rfl
    | some d =>
      simp only [Option.bind_some]
      have := hr.tm d
      have hnc := hgk j want d hg (by rw [Array.getElem?_toList]; exact hd)
      rw [Array.getD_eq_getD_getElem?] at this
      cases ht : a.tmps[d]? with
      | none =>
        rw [ht, Option.getD_none] at this
        cases hE : E d <;> rw [hE] at this <;> first | rfl | exact absurd hE (hnc.1 _) | (cases this)
      | some v =>
        rw [ht, Option.getD_some] at this
        cases hE : E d <;> rw [hE] at this <;> cases this <;> first | exact absurd hE (hnc.1 _) | exact absurd hE hnc.2 | rfl | (rename_i b; cases b <;> cases want <;> rfl)
theorem wantedA_eq {ops : List Oper} {e : Env} {o : Oper} : wantedA ops e o = (match o.guard with
      | none => true
      | some (j, want) => match (ops[j]?).bind (·.dst) with
        | some d => match e.at d with
          | .bool b => Bool.rec (Bool.not want) want b
          | _ => false
        | none => false) := rfl

theorem HWf.apply {f : Eff} (hwf : HWf h) (he : EffOk h.get f) : HWf (h.apply f) ∧ h.nx ≤ (h.apply f).nx := by
  have hnw : ∀ (l : List Blk) (t : Trie Blk) (nx : Nat), (∀ b, nx ≤ b → t.get b = none) → HWf (applyNw t nx l) ∧ nx ≤ (applyNw t nx l).nx := by
    intro l
    induction l with
    | nil => intro t nx ht; exact ⟨ht, Nat.le_refl _⟩
    | cons x r ih =>
      intro t nx ht
      have := ih (t.set nx x) (nx + 1) (fun b hb => by rw [Trie.get_set_ne _ _ (by omega)]; exact ht b (by omega))
      exact ⟨this.1, Nat.le_trans (Nat.le_succ _) this.2⟩
  have hwr : ∀ b, h.nx ≤ b → (applyWr h.t f.wr).get b = none := by
    intro b hb
    rcases he with e | ⟨b0, x, e, hne⟩
    · rw [e]; exact hwf b hb
    · rw [e]
      show (h.t.set b0 x).get b = none
      have : b ≠ b0 := by intro q; subst q; exact hne (hwf b hb)
      rw [Trie.get_set_ne _ _ this]
      exact hwf b hb
  obtain ⟨v, wr, nw⟩ := f
  cases nw with
  | nil =>
    cases wr with
    | nil => exact ⟨hwf, Nat.le_refl _⟩
    | cons x r => exact ⟨hwr, Nat.le_refl _⟩
  | cons x r => exact hnw (x :: r) _ _ hwr

def Comes' (P : Program) (ng nt : Nat) [Ds nt] (c : Code) (ex : AExit) (e e' : Env) (h h' : Heap) : Prop :=
  HWf h → HWf h' ∧ h.nx ≤ h'.nx ∧ ∀ (N : Nat) (F : Nat → Option Blk) (m : Mp) (w : World) (a : Act) (Q : Exit → Act → World → Prop), h'.nx ≤ N → HRel m (mix h N F) w → GlobOk ng m → ARel m e.at a nt →
    (∀ m' w' a' x, HRel m' (mix h' N F) w' → Step m w m' w' → ARel m' e'.at a' nt → XRel m' ex x → Q x a' w') → c.wp P Q a w

theorem runOps_nil {cl : Caller} {all : List Oper} {e : Env} {h : Heap} : runOps P cl all [] e h = some (.normal, e, h) := rfl
theorem runOps_cons {cl : Caller} {all : List Oper} {o : Oper} {r : List Oper} : runOps P cl all (o :: r) = runOp P cl all o (runOps P cl all r) := rfl
theorem heapK_eq {α : Type} (f : Eff) (h : Heap) (k : Heap → α) : heapK α f h k = k (h.apply f) := by
  obtain ⟨v, wr, nw⟩ := f
  cases nw with
  | nil => cases wr with
    | nil => rfl
    | cons _ _ => rfl
  | cons _ _ => rfl
theorem forceN_eq (α : Type) (n : Nat) (k : Nat → α) : forceN α n k = k n := by cases n <;> rfl
theorem forceB_eq (α : Type) (n : Bool) (k : Bool → α) : forceB α n k = k n := by cases n <;> rfl
theorem forceI_eq (α : Type) (n : Int) (k : Int → α) : forceI α n k = k n := by cases n <;> exact forceN_eq α _ _
theorem forceO_eq (α : Type) (n : Option Nat) (k : Option Nat → α) : forceO α n k = k n := by
  cases n with
  | none => rfl
  | some n => exact forceN_eq α _ _
theorem forceA_eq (α : Type) (n : Option Addr) (k : Option Addr → α) : forceA α n k = k n := by
  cases n with
  | none => rfl
  | some n =>
    obtain ⟨b, o, s⟩ := n
    show forceN α b (fun b => forceN α o fun o => forceO α s fun s => k (some ⟨b, o, s⟩)) = _
    rw [forceN_eq, forceN_eq, forceO_eq]
theorem forceK_eq (α : Type) (n : IntKind) (k : IntKind → α) : forceK α n k = k n := by cases n <;> rfl
theorem forceL_eq (α : Type) (fv : Value → (Value → α) → α) (hf : ∀ v k, fv v k = k v) (l : List Value) : ∀ k, forceL α fv l k = k l := by
  induction l with
  | nil => exact fun _ => rfl
  | cons x r ih =>
    intro k
    show fv x (fun x => forceL α fv r fun r => k (x :: r)) = _
    rw [hf, ih]
theorem forceV_eq (α : Type) (n : Nat) : ∀ (v : Value) (k : Value → α), forceV α n v k = k v := by
  induction n with
  | zero => exact fun _ _ => rfl
  | succ n ih =>
    intro v k
    show forceV1 α (forceV α n) v k = _
    cases v <;> simp only [forceV1, forceB_eq, forceK_eq, forceI_eq, forceA_eq, forceN_eq, forceO_eq, ih, forceL_eq α _ ih]
theorem callK_eq (cl : Caller) (x : FuncId × List Value) (h : Heap) : callK cl x h = cl x.1 x.2 h := by
  obtain ⟨f, as⟩ := x
  show forceN _ f (fun f => forceL _ (forceV _ 4) as fun as => cl f as h) = _
  rw [forceN_eq, forceL_eq _ _ (forceV_eq _ 4)]
theorem runOp_eq {cl : Caller} {all : List Oper} {o : Oper} {k : Env → Heap → Res} {e : Env} {h : Heap} : runOp P cl all o k e h = runOpS P cl all o k e h := by
  obtain ⟨dst, op, type, pos, after, guard⟩ := o
  have key : ∀ o : Oper, rGo o.op P cl o k e h = (match o.op with
      | .call c => match c.callee with
        | .builtin b => match builtinEff P b c.argTypes (c.args.toList.map e.eval) h.get h.nx with
          | some f => k (e.put o.dst f.val) (h.apply f)
          | none => none
        | _ => match callee P c e.eval with
          | some x => match cl x.1 x.2 h with
            | some (.ret v, h') => k (e.put o.dst v) h'
            | some (.pan v, h') => some (.pan v, e, h')
            | none => none
          | none => none
      | .panic x => match e.eval x with
        | .iface t v => some (.pan (.iface t v), e, h)
        | _ => none
      | .entry x => match effEntry (e.eval x) h.get with
        | some v => k (e.put o.dst v) h
        | none => none
      | op => match eff P op e.eval h.get h.nx with
        | some f => k (e.put o.dst f.val) (h.apply f)
        | none => none) := by
    intro o
    have fin : ∀ f : Option Eff, rFin f o k e h = (match f with
        | some f => k (e.put o.dst f.val) (h.apply f)
        | none => none) := fun f => by
      cases f with
      | none => rfl
      | some f => exact heapK_eq f h _
    obtain ⟨dst, op, type, pos, after, guard⟩ := o
    cases op with
    | call c =>
      show r_call c P cl _ k e h = _
      unfold r_call
      simp only
      cases hc : c.callee with
      | builtin b => simp only; exact fin _
      | value f => simp only [callK_eq]; rfl
      | invoke r n => simp only [callK_eq]; rfl
    | _ => first | rfl | exact fin _
  cases guard with
  | none =>
    show rGo op P cl _ k e h = _
    rw [show rGo op P cl ⟨dst, op, type, pos, after, none⟩ k e h = _ from key ⟨dst, op, type, pos, after, none⟩]
    rfl
  | some g =>
    show (Bool.rec none (Bool.rec (k (e.put dst undef) h) (rGo op P cl ⟨dst, op, type, pos, after, some g⟩ k e h) (wantedA all e ⟨dst, op, type, pos, after, some g⟩)) (guardOk all e ⟨dst, op, type, pos, after, some g⟩) : Res) = _
    rw [show rGo op P cl ⟨dst, op, type, pos, after, some g⟩ k e h = _ from key ⟨dst, op, type, pos, after, some g⟩]
    rfl
theorem runOp_ok {cl : Caller} {all : List Oper} {o : Oper} {k : Env → Heap → Res} {e : Env} {h : Heap} {r : AExit × Env × Heap} (hr : runOp P cl all o k e h = some r) : guardOk all e o = true := by
  rw [runOp_eq] at hr
  unfold runOpS at hr
  cases hg : guardOk all e o with
  | true => rfl
  | false => rw [hg] at hr; simp at hr
theorem guardOk_at {ops : Array Oper} {e : Env} {o : Oper} (hg : guardOk ops.toList e o = true) : ∀ j want d, o.guard = some (j, want) → (ops.toList[j]?).bind (·.dst) = some d → Known (e.at d) := by
  intro j want d h1 h2
  unfold guardOk at hg
  rw [h1] at hg
  refine ⟨fun r h3 => ?_, fun h3 => ?_⟩
  · simp only [h2, h3] at hg
    cases hg
  · simp only [h2, h3, topV] at hg
    cases hg
theorem runOp_false {cl : Caller} {all : List Oper} {o : Oper} {k : Env → Heap → Res} {e : Env} {h : Heap} (hg : guardOk all e o = true) (hw : wantedA all e o = false) : runOp P cl all o k e h = k (e.put o.dst undef) h := by
  rw [runOp_eq]; unfold runOpS; rw [hg, hw]
theorem runOp_true {cl : Caller} {all : List Oper} {o : Oper} {k : Env → Heap → Res} {e : Env} {h : Heap} {r : AExit × Env × Heap} (hw : wantedA all e o = true) (hr : runOp P cl all o k e h = some r) :
    (∃ f, eff P o.op e.eval h.get h.nx = some f ∧ k (e.put o.dst f.val) (h.apply f) = some r) ∨
    (∃ c f args out h', o.op = .call c ∧ callee P c e.eval = some (f, args) ∧ cl f args h = some (out, h') ∧
      ((∃ v, out = .ret v ∧ k (e.put o.dst v) h' = some r) ∨ (∃ v, out = .pan v ∧ r = (.pan v, e, h')))) ∨
    (∃ x t v, o.op = .panic x ∧ e.eval x = .iface t v ∧ r = (.pan (.iface t v), e, h)) ∨
    (∃ x v, o.op = .entry x ∧ effEntry (e.eval x) h.get = some v ∧ k (e.put o.dst v) h = some r) := by
  have hg := runOp_ok hr
  rw [runOp_eq] at hr
  unfold runOpS at hr
  rw [hg, hw] at hr
  simp only at hr
  split at hr
  · rename_i c hop
    cases hcl : c.callee with
    | builtin b =>
      simp only [hcl] at hr
      split at hr <;> try (simp at hr; done)
      rename_i f hf
      refine .inl ⟨f, ?_, hr⟩
      rw [hop]
      simp only [eff, effCall, hcl]
      exact hf
    | value x =>
      simp only [hcl] at hr
      split at hr <;> try (simp at hr; done)
      rename_i fa hfa
      obtain ⟨f, args⟩ := fa
      split at hr <;> try (simp at hr; done)
      · rename_i v h' hq
        exact .inr (.inl ⟨c, f, args, .ret v, h', hop, hfa, hq, .inl ⟨v, rfl, hr⟩⟩)
      · rename_i v h' hq
        simp only [Option.some.injEq] at hr
        exact .inr (.inl ⟨c, f, args, .pan v, h', hop, hfa, hq, .inr ⟨v, rfl, hr.symm⟩⟩)
    | invoke x n =>
      simp only [hcl] at hr
      split at hr <;> try (simp at hr; done)
      rename_i fa hfa
      obtain ⟨f, args⟩ := fa
      split at hr <;> try (simp at hr; done)
      · rename_i v h' hq
        exact .inr (.inl ⟨c, f, args, .ret v, h', hop, hfa, hq, .inl ⟨v, rfl, hr⟩⟩)
      · rename_i v h' hq
        simp only [Option.some.injEq] at hr
        exact .inr (.inl ⟨c, f, args, .pan v, h', hop, hfa, hq, .inr ⟨v, rfl, hr.symm⟩⟩)
  · rename_i x hop
    split at hr <;> try (simp at hr; done)
    rename_i t v hx
    simp only [Option.some.injEq] at hr
    exact .inr (.inr (.inl ⟨x, t, v, hop, hx, hr.symm⟩))
  · rename_i x hop
    split at hr <;> try (simp at hr; done)
    rename_i v hv
    exact .inr (.inr (.inr ⟨x, v, hop, hv, hr⟩))
  · split at hr <;> try (simp at hr; done)
    rename_i f hf
    exact .inl ⟨f, hf, hr⟩

theorem panic_wp {x : Operand} {t : TypeId} {v : Value} {o : Oper} {E : Tmp → Value} {a : Act} {K : Act → World → Prop} {Q : Exit → Act → World → Prop} (hop : o.op = .panic x) (hr : ARel m E a nt) (hg : GlobOk ng m) (ho : opersOk ng nt o = true)
    (hx : evalF E x = .iface t v) (hQ : ∀ v', VRel m (.iface t v) v' → Q (.panic [{ v := v', recovered := false }]) a w) : o.wp P a w K Q := by
  have hv := opers_rel hr hg ho x (by rw [hop]; simp [Op.operands])
  rw [hx] at hv
  generalize hv' : a.eval x = u at hv
  have hq := hQ u hv
  cases hv with
  | iface _ _ v' hvv =>
    unfold Oper.wp
    simp only [execOp, hop, hv', Instr.panic, Sem.run_bind, run_goPanic, Result.andThen_halt]
    exact hq

theorem entry_wp {x : Operand} {v : Value} {o : Oper} {E : Tmp → Value} {a : Act} {K : Act → World → Prop} {Q : Exit → Act → World → Prop} (hop : o.op = .entry x) (hh : HRel m (mix h N F) w) (hwf : HWf h) (hN : h.nx ≤ N) (hr : ARel m E a nt) (hg : GlobOk ng m) (ho : opersOk ng nt o = true)
    (hx : effEntry (evalF E x) h.get = some v) (hK : ∀ v', VRel m v v' → K (a.put o.dst v') w) : o.wp P a w K Q := by
  have hv := opers_rel hr hg ho x (by rw [hop]; simp [Op.operands])
  unfold effEntry at hx
  split at hx <;> try (simp at hx; done)
  rename_i d hd
  rw [hd] at hv
  split at hx <;> try (simp at hx; done)
  rename_i r b last hgd
  split at hx <;> try (simp at hx; done)
  rename_i es c hgr
  cases hc : Nat.beq c last with
  | false => rw [hc] at hx; simp at hx
  | true =>
  rw [hc] at hx
  simp only [cond_true] at hx
  split at hx <;> try (simp at hx; done)
  rename_i q hq
  simp only [Option.some.injEq] at hx
  subst hx
  have hc : c = last := Nat.eq_of_beq_eq_true hc
  subst hc
  have hb := hr.1
  have h1 := hh.at hwf hN hgd
  obtain ⟨l2, hm2, _, ces, q1, q2⟩ := hh.map hwf hN hgr
  cases hm : m d with
  | fresh => rw [hm] at h1; exact h1.elim
  | dead => rw [hm] at h1; exact h1.elim
  | sym k n => rw [hm] at h1; exact h1.elim
  | live l =>
    rw [hm] at h1
    obtain ⟨⟨_, hsh⟩, cbm, since, sa, p1, p2, p4⟩ := h1
    have hcb : l2.cb = cbm := by
      rcases p2 with p2 | ⟨lr, p2, p3⟩
      · rw [hm2] at p2; cases p2
      · rw [hm2] at p2; cases p2; exact p3
    subst hcb
    generalize hv' : a.eval x = u at hv
    have := ptr_live hv hm
    subst this
    have hfind : ∃ ce, ces.toList.find? (·.born == b) = some ce ∧ q.1 = ce.key ∧ simpleKey q.1 = true ∧ VRel m q.2.1 ce.val := by
      clear q1 hgr hb
      generalize ces.toList = l at q2
      induction es generalizing l with
      | nil => simp at hq
      | cons y r ih =>
        cases l with
        | nil => exact q2.elim
        | cons z s =>
          obtain ⟨⟨e1, e2, e3, e4⟩, e5⟩ := q2
          rw [List.find?_cons] at hq
          rw [List.find?_cons]
          cases hz : Nat.beq y.2.2 b with
          | true =>
            rw [hz] at hq
            simp only [Option.some.injEq] at hq
            subst hq
            have : (z.born == b) = true := by rw [← e4]; simpa using Nat.eq_of_beq_eq_true hz
            rw [this]
            exact ⟨z, rfl, e1, e2, e3⟩
          | false =>
            rw [hz] at hq
            have : (z.born == b) = false := by
              rw [← e4, ← Bool.not_eq_true]
              intro h
              have h := beq_iff_eq.1 h
              rw [h, Nat.beq_refl] at hz
              cases hz
            rw [this]
            exact ih hq _ e5
    obtain ⟨ce, f1, f2, f3, f4⟩ := hfind
    have hback : sa.back? = some b := p4
    have hrun : (Instr.entry (.pointer (some ⟨l.cb, l.sh + 0, none⟩))).run P w = .ok (.tuple #[ce.key, ce.val]) w := by
      rw [hsh]
      have hf : ces.find? (·.born == b) = some ce := by rw [← Array.find?_toList]; exact f1
      simp only [Instr.entry, getObj, Sem.run_bind, Sem.run, p1, q1, Result.andThen, hback, bne_self_eq_false, Bool.false_eq_true, if_false, hf]
      rfl
    unfold Oper.wp
    simp only [execOp, hop, hv', Sem.run_bind, hrun, Result.andThen_ok, Sem.run_pure]
    refine hK _ (.tuple _ _ (.cons _ _ _ _ ?_ (.cons _ _ _ _ f4 .nil)))
    rw [← f2]
    cases hk : q.1 <;> rw [hk] at f3 <;> first | exact .bool _ | exact .int _ _ | exact .string _ | (simp [simpleKey] at f3)

theorem ops_wp {cl : Caller} (hcl : CallOk P ng cl) (ops : Array Oper) : ∀ (l : List Oper) (k : Nat) (e e' : Env) (h h' : Heap) (ex : AExit), (∀ j, j < l.length → l[j]? = ops.toList[k + j]?) → l.all (opersOk ng nt) = true → HWf h → runOps P cl ops.toList l e h = some (ex, e', h') →
    HWf h' ∧ h.nx ≤ h'.nx ∧ ∀ (N : Nat) (F : Nat → Option Blk) (m : Mp) (w : World) (a : Act) (Q : Exit → Act → World → Prop), h'.nx ≤ N → HRel m (mix h N F) w → GlobOk ng m → ARel m e.at a nt →
      (∀ m' w' a' x, HRel m' (mix h' N F) w' → Step m w m' w' → ARel m' e'.at a' nt → XRel m' ex x → Q x a' w') → wpOps P ops Q (List.range' k l.length) a w := by
  intro l
  induction l with
  | nil =>
    intro k e e' h h' ex _ _ hwf hrun
    rw [runOps_nil] at hrun
    simp only [Option.some.injEq, Prod.mk.injEq] at hrun
    obtain ⟨rfl, rfl, rfl⟩ := hrun
    exact ⟨hwf, Nat.le_refl _, fun N F m w a Q _ hh _ hr hQ => hQ m w a .normal hh (.refl m w) hr rfl⟩
  | cons o r ih =>
    intro k e e' h h' ex hl hok hwf hrun
    rw [runOps_cons] at hrun
    simp only [List.all_cons, Bool.and_eq_true] at hok
    have h0 : ops[k]? = some o := by have := hl 0 (by simp); simpa using this.symm
    have hl' : ∀ j, j < r.length → r[j]? = ops.toList[k + 1 + j]? := fun j hj => by have := hl (j + 1) (by simpa using hj); simpa [Nat.add_assoc, Nat.add_comm 1 j] using this
    have hgo := runOp_ok hrun
    have hgk := guardOk_at hgo
    cases hw : wantedA ops.toList e o with
    | false =>
      rw [runOp_false hgo hw] at hrun
      obtain ⟨g1, g2, g3⟩ := ih (k + 1) _ _ _ _ _ hl' hok.2 hwf hrun
      refine ⟨g1, g2, fun N F m w a Q hN hh hg hr hQ => ?_⟩
      simp only [List.length_cons, List.range'_succ, wpOps, h0]
      rw [if_neg (by rw [wanted_eq hr hgk, ← wantedA_eq, hw]; simp)]
      refine g3 N F m w _ Q hN hh hg ?_ hQ
      rw [Env.put_at]
      exact hr.put VRel.undef (dst_lt hok.1)
    | true =>
      rcases runOp_true hw hrun with ⟨f, hf, hk⟩ | ⟨c, f, args, out, h1, hop, hca, hq, hor⟩ | ⟨x, t, v, hop, hx, hre⟩ | ⟨x, v, hop, hv, hk⟩
      · obtain ⟨a1, a2⟩ := HWf.apply hwf (eff_ok hf)
        obtain ⟨g1, g2, g3⟩ := ih (k + 1) _ _ _ _ _ hl' hok.2 a1 hk
        refine ⟨g1, Nat.le_trans a2 g2, fun N F m w a Q hN hh hg hr hQ => ?_⟩
        simp only [List.length_cons, List.range'_succ, wpOps, h0]
        rw [if_pos (by rw [wanted_eq hr hgk, ← wantedA_eq, hw])]
        left
        rw [Env.eval_eq] at hf
        refine eff_upon hh hwf (Nat.le_trans g2 hN) (Nat.le_trans a2 (Nat.le_trans g2 hN)) hr hg hok.1 hf ?_
        intro m' w' a' q1 q2 q3
        refine g3 N F m' w' a' Q hN q1 (hg.mono q2.ext) (by rw [Env.put_at]; exact q3) ?_
        intro m'' w'' a'' x p1 p2 p3 p4
        exact hQ m'' w'' a'' x p1 (q2.trans p2) p3 p4
      · obtain ⟨_, c1, c2, _⟩ := hcl f args h out h1 hq hwf
        rcases hor with ⟨v, rfl, hk⟩ | ⟨v, rfl, hre⟩
        · obtain ⟨g1, g2, g3⟩ := ih (k + 1) _ _ _ _ _ hl' hok.2 c1 hk
          refine ⟨g1, Nat.le_trans c2 g2, fun N F m w a Q hN hh hg hr hQ => ?_⟩
          simp only [List.length_cons, List.range'_succ, wpOps, h0]
          rw [if_pos (by rw [wanted_eq hr hgk, ← wantedA_eq, hw])]
          left
          rw [Env.eval_eq] at hca
          refine call_upon hcl hop hh hwf (Nat.le_trans g2 hN) hr hg hok.1 hca hq ?_ ?_
          · intro v' hv' m' w' a' q1 q2 q3
            cases hv'
            refine g3 N F m' w' a' Q hN q1 (hg.mono q2.ext) (by rw [Env.put_at]; exact q3) ?_
            intro m'' w'' a'' x p1 p2 p3 p4
            exact hQ m'' w'' a'' x p1 (q2.trans p2) p3 p4
          · intro v' hv'; cases hv'
        · simp only [Prod.mk.injEq] at hre
          obtain ⟨rfl, rfl, rfl⟩ := hre
          refine ⟨c1, c2, fun N F m w a Q hN hh hg hr hQ => ?_⟩
          simp only [List.length_cons, List.range'_succ, wpOps, h0]
          rw [if_pos (by rw [wanted_eq hr hgk, ← wantedA_eq, hw])]
          left
          rw [Env.eval_eq] at hca
          refine call_upon hcl hop hh hwf hN hr hg hok.1 hca hq ?_ ?_
          · intro v' hv'; cases hv'
          · intro v' hv' m' w' u q1 q2 q3
            cases hv'
            exact hQ m' w' a _ q1 q2 (hr.mono q2.ext) ⟨u, rfl, q3⟩
      · simp only [Prod.mk.injEq] at hre
        obtain ⟨rfl, rfl, rfl⟩ := hre
        refine ⟨hwf, Nat.le_refl _, fun N F m w a Q hN hh hg hr hQ => ?_⟩
        simp only [List.length_cons, List.range'_succ, wpOps, h0]
        rw [if_pos (by rw [wanted_eq hr hgk, ← wantedA_eq, hw])]
        left
        rw [Env.eval_eq] at hx
        exact panic_wp hop hr hg hok.1 hx fun v' hv' => hQ m w a _ hh (.refl m w) hr ⟨v', rfl, hv'⟩
      · obtain ⟨g1, g2, g3⟩ := ih (k + 1) _ _ _ _ _ hl' hok.2 hwf hk
        refine ⟨g1, g2, fun N F m w a Q hN hh hg hr hQ => ?_⟩
        simp only [List.length_cons, List.range'_succ, wpOps, h0]
        rw [if_pos (by rw [wanted_eq hr hgk, ← wantedA_eq, hw])]
        left
        rw [Env.eval_eq] at hv
        refine entry_wp hop hh hwf (Nat.le_trans g2 hN) hr hg hok.1 hv ?_
        intro v' hv'
        refine g3 N F m w _ Q hN hh hg ?_ hQ
        rw [Env.put_at]
        exact hr.put hv' (dst_lt hok.1)

theorem region_wp {cl : Caller} (hcl : CallOk P ng cl) {ops : Array Oper} {id : Nat} {e e' : Env} {h h' : Heap} {ex : AExit} (hok : ops.toList.all (opersOk ng nt) = true) (hrun : runOps P cl ops.toList ops.toList e h = some (ex, e', h')) :
    Comes' P ng nt (.region id ops false) ex e e' h h' := by
  intro hwf
  obtain ⟨g1, g2, g3⟩ := ops_wp hcl ops ops.toList 0 e e' h h' ex (fun j _ => by simp) hok hwf hrun
  refine ⟨g1, g2, fun N F m w a Q hN hh hg hr hQ => wp_region ?_⟩
  have := g3 N F m w a Q hN hh hg hr hQ
  rwa [Array.length_toList, ← List.range_eq_range'] at this
end Go.AM
end
section
/- Regions whose order is open: what was done, and in which orders it may be done. -/
namespace Go.AM
open Classical

/- ## which stand ahead of which -/
theorem testBit_mask (acc : List Nat) (i : Nat) : ∀ (es : List Edge) (s : Nat),
    (es.foldl (fun s e => if Region.binds .any e then s ||| 2 ^ e.on ||| acc.getD e.on 0 else s) s).testBit i = true ↔
      s.testBit i = true ∨ ∃ e ∈ es, Region.binds .any e = true ∧ (e.on = i ∨ (acc.getD e.on 0).testBit i = true) := by
  intro es
  induction es with
  | nil => intro s; simp
  | cons e r ih =>
    intro s
    rw [List.foldl_cons, ih]
    by_cases hb : Region.binds .any e = true
    · simp only [hb, if_true, Nat.testBit_or, Bool.or_eq_true, Nat.testBit_two_pow, decide_eq_true_eq, List.mem_cons, exists_eq_or_imp, true_and]
      constructor
      · rintro (((h | h) | h) | ⟨x, h1, h2⟩)
        · exact .inl h
        · exact .inr (.inl (.inl h))
        · exact .inr (.inl (.inr h))
        · exact .inr (.inr ⟨x, h1, h2⟩)
      · rintro (h | (h | h) | ⟨x, h1, h2⟩)
        · exact .inl (.inl (.inl h))
        · exact .inl (.inl (.inr h))
        · exact .inl (.inr h)
        · exact .inr ⟨x, h1, h2⟩
    · simp only [hb, Bool.false_eq_true, if_false, List.mem_cons, exists_eq_or_imp, false_and, false_or]
theorem befs_spec : ∀ (l : List Oper) (acc : List Nat), (befs l acc).length = acc.length + l.length ∧ (∀ k, k < acc.length → (befs l acc).getD k 0 = acc.getD k 0) ∧
    ∀ (j : Nat) (o : Oper), l[j]? = some o → (befs l acc).getD (acc.length + j) 0 = maskOf ((befs l acc).take (acc.length + j)) o := by
  intro l
  induction l with
  | nil => intro acc; exact ⟨by simp [befs], fun k _ => by simp [befs], fun j o h => by simp at h⟩
  | cons o r ih =>
    intro acc
    obtain ⟨i1, i2, i3⟩ := ih (acc ++ [maskOf acc o])
    simp only [List.length_append, List.length_cons, List.length_nil, Nat.zero_add] at i1 i2 i3
    have hpre : ∀ k, k ≤ acc.length → (befs (o :: r) acc).take k = acc.take k := by
      intro k hk
      apply List.ext_getElem?
      intro i
      rw [List.getElem?_take, List.getElem?_take]
      by_cases hi : i < k
      · rw [if_pos hi, if_pos hi]
        have := i2 i (by omega)
        simp only [befs]
        have h1 : i < (befs r (acc ++ [maskOf acc o])).length := by omega
        rw [List.getD_eq_getElem?_getD, List.getD_eq_getElem?_getD, List.getElem?_append_left (by omega), List.getElem?_eq_getElem h1, List.getElem?_eq_getElem (show i < acc.length by omega)] at this
        simp only [Option.getD_some] at this
        rw [List.getElem?_eq_getElem h1, List.getElem?_eq_getElem (show i < acc.length by omega), this]
      · rw [if_neg hi, if_neg hi]
    refine ⟨by simp only [befs, List.length_cons]; omega, fun k hk => ?_, fun j p hp => ?_⟩
    · simp only [befs]
      rw [i2 k (by omega), List.getD_eq_getElem?_getD, List.getD_eq_getElem?_getD, List.getElem?_append_left hk]
    · cases j with
      | zero =>
        simp only [List.getElem?_cons_zero, Option.some.injEq] at hp
        subst hp
        rw [Nat.add_zero, hpre _ (Nat.le_refl _), List.take_length]
        simp only [befs]
        rw [i2 acc.length (by omega), List.getD_eq_getElem?_getD, List.getElem?_append_right (Nat.le_refl _)]
        simp
      | succ j =>
        simp only [List.getElem?_cons_succ] at hp
        have := i3 j p hp
        simp only [befs]
        rw [show acc.length + (j + 1) = acc.length + 1 + j by omega]
        exact this

def Down (ops : Array Oper) (D : Nat → Bool) : Prop := ∀ j o, ops.toList[j]? = some o → D j = true → ∀ e ∈ o.after, Region.binds .any e = true → D e.on = true
theorem bef_step {ops : Array Oper} {j i : Nat} {o : Oper} (ho : ops.toList[j]? = some o) (hb : ((befs ops.toList []).getD j 0).testBit i = true) :
    ∃ e ∈ o.after, Region.binds .any e = true ∧ (e.on = i ∨ (e.on < j ∧ ((befs ops.toList []).getD e.on 0).testBit i = true)) := by
  obtain ⟨h1, _, h3⟩ := befs_spec ops.toList []
  have := h3 j o ho
  simp only [List.length_nil, Nat.zero_add] at this
  rw [this] at hb
  unfold maskOf at hb
  rw [testBit_mask] at hb
  rcases hb with hb | ⟨e, e1, e2, e3⟩
  · simp at hb
  · refine ⟨e, Array.mem_toList_iff.1 e1, e2, ?_⟩
    rcases e3 with e3 | e3
    · exact .inl e3
    · right
      rw [List.getD_eq_getElem?_getD, List.getElem?_take] at e3
      by_cases hlt : e.on < j
      · rw [if_pos hlt] at e3
        exact ⟨hlt, by rw [List.getD_eq_getElem?_getD]; exact e3⟩
      · rw [if_neg hlt] at e3; simp at e3
theorem bef_down {ops : Array Oper} {D : Nat → Bool} (hD : Down ops D) : ∀ (j i : Nat), j < ops.size → ((befs ops.toList []).getD j 0).testBit i = true → D j = true → D i = true := by
  intro j
  induction j using Nat.strongRecOn with
  | _ j ih =>
    intro i hj hb hd
    have ho : ops.toList[j]? = some ops.toList[j] := List.getElem?_eq_getElem (by simpa using hj)
    obtain ⟨e, e1, e2, e3⟩ := bef_step ho hb
    have hde := hD j _ ho hd e e1 e2
    rcases e3 with rfl | ⟨e3, e4⟩
    · exact hde
    · exact ih e.on e3 i (by omega) e4 hde
theorem bef_ready {ops : Array Oper} {D : Nat → Bool} (hD : Down ops D) {i k : Nat} {o : Oper} (ho : ops.toList[i]? = some o) (hi : i < ops.size) (hall : ∀ e ∈ o.after, Region.binds .any e = true → D e.on = true)
    (hb : ((befs ops.toList []).getD i 0).testBit k = true) : D k = true := by
  obtain ⟨e, e1, e2, e3⟩ := bef_step ho hb
  have hde := hall e e1 e2
  rcases e3 with rfl | ⟨e3, e4⟩
  · exact hde
  · exact bef_down hD e.on k (by omega) e4 hde

/- ## the same blocks -/
theorem beqT_eq : ∀ (t u : Trie Value), beqT t u = true → t = u := by
  intro t
  induction t with
  | leaf =>
    intro u h
    cases u with
    | leaf => rfl
    | node o l r => exact absurd h (by simp [beqT])
  | node o l r il ir =>
    intro u h
    cases u with
    | leaf => exact absurd h (by simp [beqT])
    | node o' l' r' =>
      have h' : (beqO o o' && beqT l l' && beqT r r') = true := h
      simp only [Bool.and_eq_true] at h'
      obtain ⟨⟨h1, h2⟩, h3⟩ := h'
      rw [il _ h2, ir _ h3]
      congr 1
      cases o <;> cases o' <;> simp [beqO] at h1
      · rfl
      · rw [(beqV_eq 100).1 _ _ h1]
theorem beqF_eq : ∀ (a b : Fact), beqF a b = true → a = b := by
  intro a b h
  unfold beqF at h
  split at h
  · simp only [Bool.and_eq_true] at h
    rw [opN_inj h.1.1, (beqV_eq 100).1 _ _ h.1.2, (beqV_eq 100).1 _ _ h.2]
  · simp only [Bool.and_eq_true] at h
    rw [opN_inj h.1.1, (beqV_eq 100).1 _ _ h.1.2, (beqV_eq 100).1 _ _ h.2]
  · simp only [Bool.and_eq_true] at h
    rw [kindN_inj h.1, (beqV_eq 100).1 _ _ h.2]
  · simp only [Bool.and_eq_true, beq_iff_eq, eqI_eq] at h
    rw [h.1.1.1, kindN_inj h.1.1.2, h.1.2, (beqV_eq 100).1 _ _ h.2]
  · simp at h
theorem beqFs_eq : ∀ (a b : List Fact), beqFs a b = true → a = b
  | [], [], _ => rfl
  | x :: r, y :: s, h => by
    simp only [beqFs, Bool.and_eq_true] at h
    rw [beqF_eq _ _ h.1, beqFs_eq r s h.2]
  | [], _ :: _, h => by simp [beqFs] at h
  | _ :: _, [], h => by simp [beqFs] at h
theorem beqB_eq {x y : Option Blk} (h : beqB x y = true) : x = y := by
  unfold beqB at h
  split at h
  · simp only [Bool.and_eq_true, decide_eq_true_eq] at h
    obtain ⟨⟨h1, h2⟩, h3⟩ := h
    rw [Nat.eq_of_beq_eq_true h1, h2, beqT_eq _ _ h3]
  · rw [beqFs_eq _ _ h]
  · rfl
  · simp at h

theorem sameB_eq {x y : Option Blk} (h : sameB x y = true) : x = y := by
  unfold sameB at h
  rw [Bool.or_eq_true] at h
  rcases h with h | h
  · exact beqB_eq h
  · exact @of_decide_eq_true _ (Classical.propDecidable _) h
theorem sameB_of {x y : Option Blk} (h : x = y) : sameB x y = true := by
  unfold sameB
  rw [Bool.or_eq_true]
  exact .inr (@decide_eq_true _ (Classical.propDecidable _) h)

theorem disj_spec {a b : List Nat} (h : disj a b = true) {x : Nat} (hx : x ∈ a) : x ∉ b := by
  intro hb
  have := (List.all_eq_true.1 h) x hx
  simp only [Bool.not_eq_true', List.any_eq_false] at this
  exact this x hb (Nat.beq_refl x)

theorem apply_other {h : Heap} {f : Eff} {rd : List Nat} {b : Nat} (hb : b ∉ (Did.eff rd f h.nx).wrote) : (h.apply f).get b = h.get b := by
  have hnw : ∀ (l : List Blk) (t : Trie Blk) (nx : Nat), b ∉ newIds nx l → (applyNw t nx l).t.get b = t.get b := by
    intro l
    induction l with
    | nil => intro t nx _; rfl
    | cons x r ih =>
      intro t nx hb
      simp only [newIds, List.mem_cons, not_or] at hb
      show (applyNw (t.set nx x) (nx + 1) r).t.get b = _
      rw [ih _ _ hb.2, Trie.get_set_ne _ _ hb.1]
  have hwr : ∀ (l : List (Nat × Blk)) (t : Trie Blk), b ∉ l.map (·.1) → (applyWr t l).get b = t.get b := by
    intro l
    induction l with
    | nil => intro t _; rfl
    | cons x r ih =>
      intro t hb
      simp only [List.map_cons, List.mem_cons, not_or] at hb
      simp only [applyWr]
      rw [ih _ hb.2, Trie.get_set_ne _ _ hb.1]
  simp only [Did.wrote, List.mem_append, not_or] at hb
  obtain ⟨v, wr, nw⟩ := f
  cases nw with
  | nil =>
    cases wr with
    | nil => rfl
    | cons x r => exact hwr _ _ hb.1
  | cons x r => exact (hnw _ _ _ hb.2).trans (hwr _ _ hb.1)
theorem apply_same {h h2 : Heap} {f : Eff} {rd : List Nat} {b : Nat} (hnx : h2.nx = h.nx) (hb : b ∈ (Did.eff rd f h.nx).wrote) : (h2.apply f).get b = (h.apply f).get b ∧ (h.apply f).get b ≠ none := by
  have hwr : ∀ (l : List (Nat × Blk)) (t t2 : Trie Blk), (t2.get b = t.get b ∧ t.get b ≠ none) ∨ b ∈ l.map (·.1) → (applyWr t2 l).get b = (applyWr t l).get b ∧ (applyWr t l).get b ≠ none := by
    intro l
    induction l with
    | nil => intro t t2 hor; rcases hor with h | h; exact h; simp at h
    | cons x r ih =>
      intro t t2 hor
      simp only [applyWr]
      refine ih _ _ ?_
      by_cases e : b = x.1
      · left; rw [e, Trie.get_set_same, Trie.get_set_same]; exact ⟨rfl, by simp⟩
      · rcases hor with h | h
        · left; rw [Trie.get_set_ne _ _ e, Trie.get_set_ne _ _ e]; exact h
        · right
          simp only [List.map_cons, List.mem_cons] at h
          exact h.resolve_left e
  have hnw : ∀ (l : List Blk) (t t2 : Trie Blk) (nx : Nat), (t2.get b = t.get b ∧ t.get b ≠ none) ∨ b ∈ newIds nx l → (applyNw t2 nx l).t.get b = (applyNw t nx l).t.get b ∧ (applyNw t nx l).t.get b ≠ none := by
    intro l
    induction l with
    | nil => intro t t2 nx hor; rcases hor with h | h; exact h; simp [newIds] at h
    | cons x r ih =>
      intro t t2 nx hor
      show (applyNw (t2.set nx x) (nx + 1) r).t.get b = (applyNw (t.set nx x) (nx + 1) r).t.get b ∧ (applyNw (t.set nx x) (nx + 1) r).t.get b ≠ none
      refine ih _ _ _ ?_
      by_cases e : b = nx
      · left; rw [e, Trie.get_set_same, Trie.get_set_same]; exact ⟨rfl, by simp⟩
      · rcases hor with h | h
        · left; rw [Trie.get_set_ne _ _ e, Trie.get_set_ne _ _ e]; exact h
        · right
          simp only [newIds, List.mem_cons] at h
          exact h.resolve_left e
  simp only [Did.wrote, List.mem_append] at hb
  obtain ⟨v, wr, nw⟩ := f
  cases nw with
  | nil =>
    cases wr with
    | nil => simp [newIds] at hb
    | cons x r => exact hwr (x :: r) h.t h2.t (.inr (hb.resolve_right (by simp [newIds])))
  | cons x r =>
    have : (h2.apply ⟨v, wr, x :: r⟩) = applyNw (applyWr h2.t wr) h2.nx (x :: r) := rfl
    have e2 : (h.apply ⟨v, wr, x :: r⟩) = applyNw (applyWr h.t wr) h.nx (x :: r) := rfl
    rw [this, e2, hnx]
    refine hnw (x :: r) _ _ _ ?_
    rcases hb with hb | hb
    · exact .inl (hwr wr h.t h2.t (.inr hb))
    · exact .inr hb
theorem apply_nx (f : Eff) : ∀ (h h2 : Heap), h2.nx = h.nx → (h2.apply f).nx = (h.apply f).nx ∧ ∀ b, h.nx ≤ b → b < (h.apply f).nx → b ∈ newIds h.nx f.nw := by
  have hnw : ∀ (l : List Blk) (t t2 : Trie Blk) (nx : Nat), (applyNw t2 nx l).nx = (applyNw t nx l).nx ∧ ∀ b, nx ≤ b → b < (applyNw t nx l).nx → b ∈ newIds nx l := by
    intro l
    induction l with
    | nil => intro t t2 nx; exact ⟨rfl, fun b h1 h2 => absurd h2 (by show ¬ b < nx; omega)⟩
    | cons x r ih =>
      intro t t2 nx
      obtain ⟨i1, i2⟩ := ih (t.set nx x) (t2.set nx x) (nx + 1)
      refine ⟨i1, fun b h1 h2 => ?_⟩
      simp only [newIds, List.mem_cons]
      by_cases e : b = nx
      · exact .inl e
      · exact .inr (i2 b (by omega) h2)
  intro h h2 hnx
  obtain ⟨v, wr, nw⟩ := f
  cases nw with
  | nil =>
    cases wr with
    | nil => exact ⟨hnx, fun b h1 h2 => absurd h2 (by show ¬ b < h.nx; omega)⟩
    | cons x r => exact ⟨hnx, fun b h1 h2 => absurd h2 (by show ¬ b < h.nx; omega)⟩
  | cons x r =>
    have : (h2.apply ⟨v, wr, x :: r⟩) = applyNw (applyWr h2.t wr) h2.nx (x :: r) := rfl
    have e2 : (h.apply ⟨v, wr, x :: r⟩) = applyNw (applyWr h.t wr) h.nx (x :: r) := rfl
    rw [this, e2, hnx]
    exact hnw (x :: r) _ _ _

theorem heap_of (G : Nat → Option Blk) : ∀ n, ∃ t : Trie Blk, ∀ b, t.get b = if b < n then G b else none := by
  intro n
  induction n with
  | zero => exact ⟨.leaf, fun b => by simp [Trie.get_leaf]⟩
  | succ n ih =>
    obtain ⟨t, ht⟩ := ih
    cases hg : G n with
    | none =>
      refine ⟨t, fun b => ?_⟩
      rw [ht]
      by_cases h1 : b < n
      · rw [if_pos h1, if_pos (by omega)]
      · rw [if_neg h1]
        by_cases h2 : b = n
        · subst h2; rw [if_pos (by omega), hg]
        · rw [if_neg (by omega)]
    | some x =>
      refine ⟨t.set n x, fun b => ?_⟩
      rw [Trie.get_set]
      by_cases h2 : b = n
      · subst h2; rw [if_pos rfl, if_pos (by omega), hg]
      · rw [if_neg h2, ht]
        by_cases h1 : b < n
        · rw [if_pos h1, if_pos (by omega)]
        · rw [if_neg h1, if_neg (by omega)]
end Go.AM
end
section
/- Regions whose order is open: every order comes to the same. -/
set_option linter.unusedSectionVars false
namespace Go.AM
open Classical

/- ## overlays -/
noncomputable def ov {α : Type} (T : Nat → Nat → Prop) (V : Nat → Nat → α) (B : Nat → α) (D : Nat → Bool) (x : Nat) : Nat → α
  | 0 => B x
  | n + 1 => if D n = true ∧ T n x then V n x else ov T V B D x n
section
variable {α : Type} {T : Nat → Nat → Prop} {V : Nat → Nat → α} {B : Nat → α} {D D' : Nat → Bool} {x : Nat}
theorem ov_congr : ∀ n, (∀ k, k < n → T k x → D k = D' k) → ov T V B D x n = ov T V B D' x n := by
  intro n
  induction n with
  | zero => intro _; rfl
  | succ n ih =>
    intro h
    simp only [ov]
    rw [ih fun k hk => h k (by omega)]
    by_cases ht : T n x
    · rw [h n (by omega) ht]
    · simp [ht]
theorem ov_all {st : Nat → Nat → α} (h0 : st 0 x = B x) : ∀ n, (∀ k, k < n → st (k + 1) x = if T k x then V k x else st k x) → (∀ k, k < n → D k = true) → ov T V B D x n = st n x := by
  intro n
  induction n with
  | zero => intro _ _; exact h0.symm
  | succ n ih =>
    intro h hD
    simp only [ov]
    rw [ih (fun k hk => h k (by omega)) (fun k hk => hD k (by omega)), h n (by omega), hD n (by omega)]
    simp
theorem ov_none : ∀ (i n : Nat), i ≤ n → (∀ k, i ≤ k → k < n → D k = false) → ov T V B D x n = ov T V B D x i := by
  intro i n
  induction n with
  | zero => intro h _; rw [show i = 0 by omega]
  | succ n ih =>
    intro h hD
    by_cases e : i = n + 1
    · rw [e]
    · simp only [ov]
      rw [hD n (by omega) (by omega), ← ih (by omega) fun k h1 h2 => hD k h1 (by omega)]
      simp
theorem ov_pre {st : Nat → Nat → α} (h0 : st 0 x = B x) {i n : Nat} (hin : i ≤ n) (h : ∀ k, k < n → st (k + 1) x = if T k x then V k x else st k x) (hD : ∀ k, k < n → T k x → D k = decide (k < i)) : ov T V B D x n = st i x := by
  rw [ov_congr (D' := fun k => decide (k < i)) n hD, ov_none i n hin (fun k h1 h2 => by simp; omega)]
  exact ov_all h0 i (fun k hk => h k (by omega)) (fun k hk => by simpa using hk)
theorem ov_insert {i : Nat} (hi : D i = false) (hD' : ∀ k, D' k = true ↔ k = i ∨ D k = true) : ∀ n, i < n → (∀ k, i < k → k < n → T k x → T i x → D k = false) → ov T V B D' x n = if T i x then V i x else ov T V B D x n := by
  intro n
  induction n with
  | zero => intro h; omega
  | succ n ih =>
    intro hin h
    by_cases e : n = i
    · subst e
      simp only [ov]
      have e1 : ov T V B D' x n = ov T V B D x n := ov_congr n fun k hk _ => by
        have := hD' k
        cases h1 : D' k <;> cases h2 : D k <;> simp_all <;> omega
      rw [e1, (hD' n).2 (.inl rfl), hi]
      simp
    · simp only [ov]
      rw [ih (by omega) fun k h1 h2 => h k h1 (by omega)]
      have e2 : D' n = D n := by
        have := hD' n
        cases h1 : D' n <;> cases h2 : D n <;> simp_all
      rw [e2]
      by_cases ht : T n x
      · by_cases hti : T i x
        · have := h n (by omega) (by omega) ht hti
          simp [this, hti]
        · simp [hti]
      · simp [ht]
end

/- ## what was done -/
variable {P : Program} {ng nt : Nat} [Ds nt] {cl : Caller}
inductive OneStep (P : Program) (cl : Caller) (all : List Oper) (o : Oper) : Did → Env → Heap → Env → Heap → Prop
  | skip (e : Env) (h : Heap) : wantedA all e o = false → OneStep P cl all o .skip e h (e.put o.dst undef) h
  | eff (e : Env) (h : Heap) (f : Eff) : wantedA all e o = true → eff P o.op e.eval h.get h.nx = some f → OneStep P cl all o (.eff (foot o.op e.eval) f h.nx) e h (e.put o.dst f.val) (h.apply f)
  | call (e : Env) (h h' : Heap) (c : Call) (f : FuncId) (args : List Value) (v : Value) : wantedA all e o = true → o.op = .call c → callee P c e.eval = some (f, args) → cl f args h = some (.ret v, h') → OneStep P cl all o (.call h h') e h (e.put o.dst v) h'

theorem callOf_some {op : Op} {c : Call} (h : runRecS.callOf op = some c) : op = .call c := by
  unfold runRecS.callOf at h
  split at h
  · split at h
    · simp at h
    · simp only [Option.some.injEq] at h; rw [h]
  · simp at h

theorem runRec_eq {all : List Oper} : ∀ (l : List Oper) (e : Env) (h : Heap), runRec P cl all l e h = runRecS P cl all l e h := by
  intro l
  induction l with
  | nil => intro e h; rfl
  | cons o r ih =>
    intro e h
    rw [runRecS]
    have cons : ∀ (d : Did) (x : DidRes), qCons d x = (match x with
        | some (e', h', l) => some (e', h', d :: l)
        | none => none) := fun d x => by cases x <;> rfl
    have fin : ∀ (f : Option Eff), qFin f o (runRec P cl all r) e h = (match f with
        | some f => match runRecS P cl all r (e.put o.dst f.val) (h.apply f) with
          | some (e', h'', l) => some (e', h'', .eff (foot o.op e.eval) f h.nx :: l)
          | none => none
        | none => none) := fun f => by
      cases f with
      | none => rfl
      | some f =>
        show qCons _ (heapK DidRes f h (runRec P cl all r (e.put o.dst f.val))) = _
        rw [heapK_eq, ih, cons]
        show _ = (match runRecS P cl all r (e.put o.dst f.val) (h.apply f) with
          | some (e', h'', l) => some (e', h'', Did.eff (foot o.op e.eval) f h.nx :: l)
          | none => none : DidRes)
        generalize runRecS P cl all r (e.put o.dst f.val) (h.apply f) = x
        cases x <;> rfl
    have go : qGo o.op P cl o (runRec P cl all r) e h = (match runRecS.callOf o.op with
        | some c => match callee P c e.eval with
          | some x => match cl x.1 x.2 h with
            | some (.ret v, h') => match runRecS P cl all r (e.put o.dst v) h' with
              | some (e', h'', l) => some (e', h'', .call h h' :: l)
              | none => none
            | _ => none
          | none => none
        | none => match eff P o.op e.eval h.get h.nx with
          | some f => match runRecS P cl all r (e.put o.dst f.val) (h.apply f) with
            | some (e', h'', l) => some (e', h'', .eff (foot o.op e.eval) f h.nx :: l)
            | none => none
          | none => none) := by
      have qgo : ∀ op, (∀ c, op ≠ .call c) → qGo op P cl o (runRec P cl all r) e h = qFin (eff P op e.eval h.get h.nx) o (runRec P cl all r) e h := by
        intro op hop
        cases op <;> first | exact absurd rfl (hop _) | rfl
      have qcall : ∀ c, qGo (.call c) P cl o (runRec P cl all r) e h = q_call c P cl o (runRec P cl all r) e h := fun _ => rfl
      generalize hco : runRecS.callOf o.op = co
      cases co with
      | none =>
        simp only
        have h1 : qGo o.op P cl o (runRec P cl all r) e h = qFin (eff P o.op e.eval h.get h.nx) o (runRec P cl all r) e h := by
          by_cases hc : ∃ c, o.op = .call c
          · obtain ⟨c, hc⟩ := hc
            rw [hc, qcall]
            rw [hc] at hco
            unfold q_call
            rw [hco]
          · exact qgo _ fun c he => hc ⟨c, he⟩
        rw [h1, fin]
      | some c' =>
        have hc : o.op = .call c' := callOf_some hco
        rw [hc, qcall]
        rw [hc] at hco
        unfold q_call
        rw [hco]
        simp only [callK_eq]
        show (match callee P c' e.eval with
          | some x => match cl x.1 x.2 h with
            | some (.ret v, h') => qCons (.call h h') (runRec P cl all r (e.put o.dst v) h')
            | _ => none
          | none => none : DidRes) = (match callee P c' e.eval with
          | some x => match cl x.1 x.2 h with
            | some (.ret v, h') => match runRecS P cl all r (e.put o.dst v) h' with
              | some (e', h'', l) => some (e', h'', Did.call h h' :: l)
              | none => none
            | _ => none
          | none => none : DidRes)
        cases hx : callee P c' e.eval with
        | none => rfl
        | some x =>
          simp only
          cases hq : cl x.1 x.2 h with
          | none => rfl
          | some q =>
            obtain ⟨o', h'⟩ := q
            cases o' with
            | pan v => rfl
            | ret v =>
              show qCons (Did.call h h') (runRec P cl all r (e.put o.dst v) h') = (match runRecS P cl all r (e.put o.dst v) h' with
                | some (e', h'', l) => some (e', h'', Did.call h h' :: l)
                | none => none : DidRes)
              rw [cons, ih]
              generalize runRecS P cl all r (e.put o.dst v) h' = y
              cases y <;> rfl
    show (Option.rec (motive := fun _ => Program → Caller → List Oper → Oper → (Env → Heap → DidRes) → Env → Heap → DidRes) qOpen qGuard o.guard P cl all o (runRec P cl all r) e h : DidRes) = _
    cases hg : o.guard with
    | none =>
      have h1 : guardOk all e o = true := by unfold guardOk; rw [hg]
      have h2 : wantedA all e o = true := by unfold wantedA; rw [hg]
      rw [h1, h2, if_neg (by simp), if_pos rfl]
      exact go
    | some g =>
      show (Bool.rec none (Bool.rec (qCons .skip (runRec P cl all r (e.put o.dst undef) h)) (qGo o.op P cl o (runRec P cl all r) e h) (wantedA all e o)) (guardOk all e o) : DidRes) = _
      cases h1 : guardOk all e o with
      | false => rfl
      | true =>
        rw [if_neg (by simp)]
        cases h2 : wantedA all e o with
        | false =>
          simp only [Bool.false_eq_true, if_false]
          rw [cons, ih]
          generalize runRecS P cl all r (e.put o.dst undef) h = y
          cases y <;> rfl
        | true =>
          rw [if_pos rfl]
          exact go

theorem runRec_spec {all : List Oper} : ∀ (l : List Oper) (e e' : Env) (h h' : Heap) (L : List Did), runRec P cl all l e h = some (e', h', L) →
    L.length = l.length ∧ ∃ (es : Nat → Env) (hs : Nat → Heap), es 0 = e ∧ hs 0 = h ∧ es l.length = e' ∧ hs l.length = h' ∧
      ∀ k o d, l[k]? = some o → L[k]? = some d → OneStep P cl all o d (es k) (hs k) (es (k + 1)) (hs (k + 1)) ∧ guardOk all (es k) o = true := by
  intro l
  simp only [runRec_eq]
  induction l with
  | nil =>
    intro e e' h h' L hr
    simp only [runRecS, Option.some.injEq, Prod.mk.injEq] at hr
    obtain ⟨rfl, rfl, rfl⟩ := hr
    exact ⟨rfl, fun _ => e, fun _ => h, rfl, rfl, rfl, rfl, fun k o d h1 => by simp at h1⟩
  | cons o r ih =>
    intro e e' h h' L hr
    have key : ∀ (d : Did) (e1 : Env) (h1 : Heap) (e' : Env) (h' : Heap) (L : List Did), runRecS P cl all r e1 h1 = some (e', h', L) → OneStep P cl all o d e h e1 h1 ∧ guardOk all e o = true →
        (d :: L).length = (o :: r).length ∧ ∃ (es : Nat → Env) (hs : Nat → Heap), es 0 = e ∧ hs 0 = h ∧ es (o :: r).length = e' ∧ hs (o :: r).length = h' ∧
          ∀ k o' d', (o :: r)[k]? = some o' → (d :: L)[k]? = some d' → OneStep P cl all o' d' (es k) (hs k) (es (k + 1)) (hs (k + 1)) ∧ guardOk all (es k) o' = true := by
      intro d e1 h1 e' h' L hrun hone
      obtain ⟨i1, es, hs, i2, i3, i4, i5, i6⟩ := ih _ _ _ _ _ hrun
      refine ⟨by simp [i1], fun k => match k with | 0 => e | k + 1 => es k, fun k => match k with | 0 => h | k + 1 => hs k, rfl, rfl, i4, i5, fun k o' d' g1 g2 => ?_⟩
      cases k with
      | zero =>
        simp only [List.getElem?_cons_zero, Option.some.injEq] at g1 g2
        subst g1 g2
        simp only [i2, i3]
        exact hone
      | succ k => exact i6 k o' d' (by simpa using g1) (by simpa using g2)
    rw [runRecS] at hr
    cases hgo : guardOk all e o with
    | false => rw [if_pos hgo] at hr; simp at hr
    | true =>
    rw [if_neg (by rw [hgo]; simp)] at hr
    split at hr
    · rename_i hw
      split at hr
      · rename_i c hc
        split at hr <;> try (simp at hr; done)
        rename_i x hx
        split at hr <;> try (simp at hr; done)
        rename_i v h1 hq
        split at hr <;> try (simp at hr; done)
        rename_i e2 h2 l2 hrun
        simp only [Option.some.injEq, Prod.mk.injEq] at hr
        obtain ⟨rfl, rfl, rfl⟩ := hr
        exact key _ _ _ _ _ _ hrun ⟨.call e h h1 c x.1 x.2 v hw (callOf_some hc) hx hq, hgo⟩
      · split at hr <;> try (simp at hr; done)
        rename_i f hf
        split at hr <;> try (simp at hr; done)
        rename_i e2 h2 l2 hrun
        simp only [Option.some.injEq, Prod.mk.injEq] at hr
        obtain ⟨rfl, rfl, rfl⟩ := hr
        exact key _ _ _ _ _ _ hrun ⟨.eff e h f hw hf, hgo⟩
    · rename_i hw
      split at hr <;> try (simp at hr; done)
      rename_i e2 h2 l2 hrun
      simp only [Option.some.injEq, Prod.mk.injEq] at hr
      obtain ⟨rfl, rfl, rfl⟩ := hr
      exact key _ _ _ _ _ _ hrun ⟨.skip e h (by simpa using hw), hgo⟩

theorem newIds_ge : ∀ (l : List Blk) (nx b : Nat), b ∈ newIds nx l → nx ≤ b := by
  intro l
  induction l with
  | nil => intro nx b h; simp [newIds] at h
  | cons x r ih =>
    intro nx b h
    simp only [newIds, List.mem_cons] at h
    rcases h with rfl | h
    · exact Nat.le_refl _
    · have := ih _ _ h; omega

def touched (d : Did) (b : Nat) : Prop := match d with
  | .skip => False
  | .eff rd f nx => b ∈ (Did.eff rd f nx).wrote
  | .call h h' => h.get b ≠ h'.get b

theorem step_wf (hcl : CallOk P ng cl) {all : List Oper} {o : Oper} {d : Did} {e e' : Env} {h h' : Heap} (hs : OneStep P cl all o d e h e' h') (hwf : HWf h) : HWf h' ∧ h.nx ≤ h'.nx := by
  cases hs with
  | skip => exact ⟨hwf, Nat.le_refl _⟩
  | eff _ _ f _ hf => exact HWf.apply hwf (eff_ok hf)
  | call _ _ _ c f args v _ _ _ hq => obtain ⟨_, h1, h2, _⟩ := hcl f args h _ h' hq hwf; exact ⟨h1, h2⟩
theorem step_touch (hcl : CallOk P ng cl) {all : List Oper} {o : Oper} {d : Did} {e e' : Env} {h h' : Heap} (hs : OneStep P cl all o d e h e' h') (hwf : HWf h) (b : Nat) : (¬ touched d b → h'.get b = h.get b) ∧ (touched d b → b < h'.nx) := by
  cases hs with
  | skip => exact ⟨fun _ => rfl, fun h => h.elim⟩
  | eff _ _ f _ hf =>
    refine ⟨fun hn => apply_other hn, fun hy => ?_⟩
    have := (apply_same (h2 := h) rfl hy).2
    refine Nat.lt_of_not_le fun hle => this ?_
    exact (HWf.apply hwf (eff_ok hf)).1 b hle
  | call _ _ _ c f args v _ _ _ hq =>
    obtain ⟨_, h1, h2, _⟩ := hcl f args h _ h' hq hwf
    refine ⟨fun hn => (Classical.not_not.1 hn).symm, fun hy => Nat.lt_of_not_le fun hle => hy ?_⟩
    rw [h1 b hle, hwf b (Nat.le_trans h2 hle)]

theorem swap_all {x y : Did} (h : swapOk x y = true) : x = .skip ∨ y = .skip ∨
    (∃ rd f nx rd' f' nx', x = .eff rd f nx ∧ y = .eff rd' f' nx' ∧ (∀ b, b ∈ x.wrote → b ∉ rd' ∧ b ∉ y.wrote) ∧ ∀ b, b ∈ rd → b ∉ y.wrote) ∨
    (∃ h h' rd f nx, x = .call h h' ∧ y = .eff rd f nx ∧ f.wr = [] ∧ ∀ b, b ∈ rd → h.get b = h'.get b) ∨
    (∃ h h' rd f nx, x = .eff rd f nx ∧ y = .call h h' ∧ f.wr = [] ∧ f.nw = [] ∧ ∀ b, b ∈ rd → h.get b = h'.get b) := by
  cases x with
  | skip => exact .inl rfl
  | eff rd f nx =>
    cases y with
    | skip => exact .inr (.inl rfl)
    | eff rd' f' nx' =>
      have h' : (disj (Did.eff rd f nx).wrote (rd' ++ (Did.eff rd' f' nx').wrote) && disj rd (Did.eff rd' f' nx').wrote) = true := h
      simp only [Bool.and_eq_true] at h'
      refine .inr (.inr (.inl ⟨rd, f, nx, rd', f', nx', rfl, rfl, fun b hb => ?_, fun b hb => disj_spec h'.2 hb⟩))
      have := disj_spec h'.1 hb
      simp only [List.mem_append, not_or] at this
      exact this
    | call g g' =>
      have h' : (f.wr.isEmpty && f.nw.isEmpty && rd.all fun b => sameB (g.get b) (g'.get b)) = true := h
      simp only [Bool.and_eq_true, List.isEmpty_iff, List.all_eq_true] at h'
      exact .inr (.inr (.inr (.inr ⟨g, g', rd, f, nx, rfl, rfl, h'.1.1, h'.1.2, fun b hb => sameB_eq (h'.2 b hb)⟩)))
  | call g g' =>
    cases y with
    | skip => exact .inr (.inl rfl)
    | eff rd f nx =>
      have h' : (f.wr.isEmpty && rd.all fun b => sameB (g.get b) (g'.get b)) = true := h
      simp only [Bool.and_eq_true, List.isEmpty_iff, List.all_eq_true] at h'
      exact .inr (.inr (.inr (.inl ⟨g, g', rd, f, nx, rfl, rfl, h'.1, fun b hb => sameB_eq (h'.2 b hb)⟩)))
    | call k k' => exact absurd h (by simp [swapOk])
theorem safe_swap {all : List Oper} {oi oj : Oper} {di dj : Did} {ei ei' ej ej' : Env} {hi hi' hj hj' : Heap} (h1 : OneStep P cl all oi di ei hi ei' hi') (h2 : OneStep P cl all oj dj ej hj ej' hj') (hs : safeC (opCls oi.op) (opCls oj.op) = true) : swapOk di dj = true := by
  simp only [safeC, Bool.or_eq_true, Bool.and_eq_true, Nat.beq_eq] at hs
  have nil0 : ∀ b : List Nat, disj [] b = true := fun b => rfl
  have nil1 : ∀ a : List Nat, disj a [] = true := fun a => by simp [disj]
  cases h1 with
  | skip _ _ _ => rfl
  | call _ _ h' c f args v _ hop _ _ =>
    have hc : opCls oi.op = 2 := by rw [hop]; rfl
    rw [hc] at hs
    cases h2 with
    | skip _ _ _ => rfl
    | call _ _ h'' c' f' args' v' _ hop' _ _ =>
      have hc' : opCls oj.op = 2 := by rw [hop']; rfl
      rw [hc'] at hs
      omega
    | eff _ _ g _ he =>
      have hj0 : opCls oj.op = 0 := by omega
      obtain ⟨q1, _⟩ := eff_quiet (by omega) he
      show (g.wr.isEmpty && (foot oj.op _).all _) = true
      rw [q1, foot_nil hj0]; rfl
  | eff _ _ g _ he =>
    cases h2 with
    | skip _ _ _ => rfl
    | call _ _ h'' c' f' args' v' _ hop' _ _ =>
      have hc' : opCls oj.op = 2 := by rw [hop']; rfl
      rw [hc'] at hs
      have hi0 : opCls oi.op = 0 := by omega
      obtain ⟨q1, q2⟩ := eff_quiet (by omega) he
      show (g.wr.isEmpty && g.nw.isEmpty && (foot oi.op _).all _) = true
      rw [q1, q2, foot_nil hi0]; rfl
    | eff _ _ g' _ he' =>
      show (disj (Did.eff _ g _).wrote ((Did.eff _ g' _).read ++ (Did.eff _ g' _).wrote) && disj (Did.eff _ g _).read (Did.eff _ g' _).wrote) = true
      rcases hs with (hi0 | hj0) | ⟨hi1, hj1⟩
      · obtain ⟨q1, q2⟩ := eff_quiet (by omega) he
        simp only [Did.wrote, Did.read, q1, q2, foot_nil hi0, List.map_nil, newIds, List.append_nil, nil0, Bool.and_self]
      · obtain ⟨q1, q2⟩ := eff_quiet (by omega) he'
        simp only [Did.wrote, Did.read, q1, q2, foot_nil hj0, List.map_nil, newIds, List.append_nil, nil1, Bool.and_self]
      · obtain ⟨q1, q2⟩ := eff_quiet (by omega) he
        obtain ⟨q3, q4⟩ := eff_quiet (by omega) he'
        simp only [Did.wrote, Did.read, q1, q2, q3, q4, List.map_nil, newIds, List.append_nil, nil0, nil1, Bool.and_self]
theorem drawDid2_spec {ops : List Oper} {l : List Did} (h : drawDid2 ops l = true) {i j : Nat} {oi oj : Oper} {x y : Did} (hij : i < j) (hi : ops[i]? = some oi) (hj : ops[j]? = some oj) (hx : l[i]? = some x) (hy : l[j]? = some y)
    (hb : ((befs ops []).getD j 0).testBit i = false) (hs : safeC (opCls oi.op) (opCls oj.op) = false) : swapOk x y = true := by
  unfold drawDid2 at h
  have hm : (i, j) ∈ dynPairs ops := by
    unfold dynPairs
    rw [List.mem_flatMap]
    refine ⟨j, List.mem_range.2 (List.getElem?_eq_some_iff.1 hj).1, ?_⟩
    rw [List.mem_map]
    refine ⟨i, List.mem_filter.2 ⟨List.mem_range.2 hij, ?_⟩, rfl⟩
    simp only [clsAt, hi, hj, hb, hs]
    rfl
  have := List.all_eq_true.1 h _ hm
  simpa only [hx, hy] using this
end Go.AM
end
section
/- Regions whose order is open: one operation in any order. -/
set_option linter.unusedSectionVars false
namespace Go.AM
open Classical

variable {P : Program} {ng nt : Nat} [Ds nt] {cl : Caller}

structure DrawCtx (P : Program) (ng nt : Nat) (cl : Caller) (ops : Array Oper) where
  es : Nat → Env
  hs : Nat → Heap
  ds : Nat → Did
  N : Nat
  F : Nat → Option Blk
  hcl : CallOk P ng cl
  ok : ∀ (k : Nat) (o : Oper), ops[k]? = some o → opersOk ng nt o = true
  step : ∀ (k : Nat) (o : Oper), ops[k]? = some o → OneStep P cl ops.toList o (ds k) (es k) (hs k) (es (k + 1)) (hs (k + 1))
  gok : ∀ (k : Nat) (o : Oper), ops[k]? = some o → guardOk ops.toList (es k) o = true
  wf0 : HWf (hs 0)
  top : (hs ops.size).nx ≤ N
  apart : ∀ (i j : Nat) (x y : Oper), i < j → ops[i]? = some x → ops[j]? = some y → ((befs ops.toList []).getD j 0).testBit i = false → Oper.apart ops x y = true
  swap : ∀ (i j : Nat) (x y : Oper), i < j → ops[i]? = some x → ops[j]? = some y → ((befs ops.toList []).getD j 0).testBit i = false → swapOk (ds i) (ds j) = true
  back : ∀ (j : Nat) (o : Oper), ops[j]? = some o → ∀ e ∈ o.after, Region.binds .any e = true → e.on < j

namespace DrawCtx
variable {ops : Array Oper} (X : DrawCtx P ng nt cl ops)

theorem get {k : Nat} (hk : k < ops.size) : ops[k]? = some ops[k] := by simp [hk]

theorem wf : ∀ k, k ≤ ops.size → HWf (X.hs k)
  | 0, _ => X.wf0
  | k + 1, h => (step_wf X.hcl (X.step k _ (get (by omega))) (wf k (by omega))).1
theorem mono {i : Nat} : ∀ (k : Nat), i ≤ k → k ≤ ops.size → (X.hs i).nx ≤ (X.hs k).nx := by
  intro k
  induction k with
  | zero => intro h _; rw [show i = 0 by omega]; exact Nat.le_refl _
  | succ k ih =>
    intro h1 h2
    by_cases e : i = k + 1
    · rw [e]; exact Nat.le_refl _
    · exact Nat.le_trans (ih (by omega) (by omega)) (step_wf X.hcl (X.step k _ (get (by omega))) (X.wf k (by omega))).2

def TS (ops : Array Oper) (k t : Nat) : Prop := ∃ o, ops[k]? = some o ∧ o.dst = some t
noncomputable def ED (D : Nat → Bool) (t : Tmp) : Value := ov (TS ops) (fun k t => (X.es (k + 1)).at t) (X.es 0).at D t ops.size
noncomputable def GD (D : Nat → Bool) (b : Nat) : Option Blk := ov (fun k b => touched (X.ds k) b) (fun k b => (X.hs (k + 1)).get b) (mix (X.hs 0) X.N X.F) D b ops.size

theorem stepE {k : Nat} {o : Oper} (ho : ops[k]? = some o) : ∃ v, X.es (k + 1) = (X.es k).put o.dst v := by
  have := X.step k o ho
  generalize X.ds k = d, X.es (k + 1) = e', X.hs (k + 1) = h' at this
  cases this <;> exact ⟨_, rfl⟩
theorem stE (t : Tmp) (k : Nat) (hk : k < ops.size) : (X.es (k + 1)).at t = if TS ops k t then (X.es (k + 1)).at t else (X.es k).at t := by
  by_cases ht : TS ops k t
  · rw [if_pos ht]
  · rw [if_neg ht]
    obtain ⟨v, hv⟩ := X.stepE (get hk)
    rw [hv, Env.put_at]
    unfold putF
    rw [if_neg fun e => ht ⟨_, get hk, e⟩]
theorem stG (b k : Nat) (hk : k < ops.size) : mix (X.hs (k + 1)) X.N X.F b = if touched (X.ds k) b then (X.hs (k + 1)).get b else mix (X.hs k) X.N X.F b := by
  obtain ⟨h1, h2⟩ := step_touch X.hcl (X.step k _ (get hk)) (X.wf k (by omega)) b
  by_cases ht : touched (X.ds k) b
  · rw [if_pos ht]
    unfold mix
    have := h2 ht
    have := X.mono (i := k + 1) ops.size (by omega) (Nat.le_refl _)
    have := X.top
    rw [if_pos (by omega)]
  · rw [if_neg ht]
    unfold mix
    rw [h1 ht]
theorem ED_pre {D : Nat → Bool} {t : Tmp} {i : Nat} (hi : i ≤ ops.size) (h : ∀ k, k < ops.size → TS ops k t → D k = decide (k < i)) : X.ED D t = (X.es i).at t :=
  ov_pre (st := fun i t => (X.es i).at t) rfl hi (fun k hk => X.stE t k hk) h
theorem GD_pre {D : Nat → Bool} {b : Nat} {i : Nat} (hi : i ≤ ops.size) (h : ∀ k, k < ops.size → touched (X.ds k) b → D k = decide (k < i)) : X.GD D b = mix (X.hs i) X.N X.F b :=
  ov_pre (st := fun i b => mix (X.hs i) X.N X.F b) rfl hi (fun k hk => X.stG b k hk) h

structure Now (D : Nat → Bool) (i : Nat) (o : Oper) : Prop where
  at_ : ops[i]? = some o
  not : D i = false
  down : Down ops D
  all : ∀ e ∈ o.after, Region.binds .any e = true → D e.on = true

theorem lt_of_get {i : Nat} {o : Oper} (h : ops[i]? = some o) : i < ops.size := (Array.getElem?_eq_some_iff.1 h).1

omit X in
theorem Now.free {D : Nat → Bool} {i : Nat} {o : Oper} (h : Now (ops := ops) D i o) {k : Nat} (hk : k < ops.size) (hd : D k ≠ decide (k < i)) :
    (k < i ∧ ((befs ops.toList []).getD i 0).testBit k = false) ∨ (i < k ∧ D k = true ∧ ((befs ops.toList []).getD k 0).testBit i = false) := by
  have hi := lt_of_get h.at_
  rcases Nat.lt_trichotomy k i with h1 | h1 | h1
  · refine .inl ⟨h1, ?_⟩
    cases hb : ((befs ops.toList []).getD i 0).testBit k with
    | false => rfl
    | true =>
      have := bef_ready h.down (by rw [Array.getElem?_toList]; exact h.at_) hi h.all hb
      exact absurd (by simp [this, h1]) hd
  · subst h1
    exact absurd (by simp [h.not]) hd
  · have hDk : D k = true := by
      cases e : D k with
      | true => rfl
      | false => exact absurd (by simp [e]; omega) hd
    refine .inr ⟨h1, hDk, ?_⟩
    cases hb : ((befs ops.toList []).getD k 0).testBit i with
    | false => rfl
    | true =>
      have := bef_down h.down k i hk hb hDk
      rw [h.not] at this; cases this

theorem ED_looks {D : Nat → Bool} {i : Nat} {o : Oper} (h : Now (ops := ops) D i o) {t : Tmp} (ht : t ∈ o.looksAt ops) : X.ED D t = (X.es i).at t := by
  refine X.ED_pre (Nat.le_of_lt (lt_of_get h.at_)) fun k hk ⟨y, hy, hd⟩ => ?_
  refine Classical.byContradiction fun hne => ?_
  rcases h.free hk hne with ⟨h1, h2⟩ | ⟨h1, _, h2⟩
  · exact (Oper.apart_spec (X.apart k i y o h1 hy h.at_ h2)).1 t hd ht
  · exact (Oper.apart_spec (X.apart i k o y h1 h.at_ hy h2)).2.2 t hd ht
theorem ED_put {D D' : Nat → Bool} {i : Nat} {o : Oper} (h : Now (ops := ops) D i o) (hD' : ∀ k, D' k = true ↔ k = i ∨ D k = true) {v : Value} (hv : X.es (i + 1) = (X.es i).put o.dst v) : X.ED D' = putF (X.ED D) o.dst v := by
  funext t
  unfold ED
  rw [ov_insert h.not hD' ops.size (lt_of_get h.at_)]
  · unfold putF
    by_cases e : o.dst = some t
    · rw [if_pos ⟨o, h.at_, e⟩, if_pos e, hv, Env.put_at]
      unfold putF
      rw [if_pos e]
    · rw [if_neg e, if_neg]
      rintro ⟨y, hy, hd⟩
      rw [h.at_] at hy
      simp only [Option.some.injEq] at hy
      subst hy
      exact e hd
  · rintro k h1 h2 ⟨y, hy, hd⟩ ⟨x, hx, hd'⟩
    rw [h.at_] at hx
    simp only [Option.some.injEq] at hx
    subst hx
    cases e : D k with
    | false => rfl
    | true =>
      rcases h.free h2 (by simp [e]; omega) with ⟨h3, _⟩ | ⟨_, _, h3⟩
      · omega
      · exact absurd hd ((Oper.apart_spec (X.apart i k o y h1 h.at_ hy h3)).2.1 t hd')
theorem eval_looks {D : Nat → Bool} {i : Nat} {o : Oper} (h : Now (ops := ops) D i o) : ∀ x ∈ o.op.operands.toList, evalF (X.ED D) x = (X.es i).eval x := by
  intro x hx
  rw [Env.eval_eq]
  cases x with
  | tmp t =>
    refine X.ED_looks h ?_
    unfold Oper.looksAt
    exact List.mem_append.2 (.inl (List.mem_filterMap.2 ⟨.tmp t, hx, rfl⟩))
  | _ => rfl
theorem wanted_looks {D : Nat → Bool} {i : Nat} {o : Oper} (h : Now (ops := ops) D i o) {m : Mp} {a : Act} (hr : ARel m (X.ED D) a nt) : Region.wanted o (yielded ops a.tmps) = wantedA ops.toList (X.es i) o := by
  have hlk : ∀ j want d, o.guard = some (j, want) → (ops.toList[j]?).bind (·.dst) = some d → X.ED D d = (X.es i).at d := by
    intro j want d h1 h2
    refine X.ED_looks h ?_
    unfold Oper.looksAt
    refine List.mem_append.2 (.inr ?_)
    rw [Array.getElem?_toList] at h2
    rw [h1]
    simp [h2]
  rw [wanted_eq hr (fun j want d h1 h2 => by rw [hlk j want d h1 h2]; exact guardOk_at (X.gok i o h.at_) j want d h1 h2), wantedA_eq]
  cases hg : o.guard with
  | none => rfl
  | some p =>
    obtain ⟨j, want⟩ := p
    simp only [Array.getElem?_toList]
    cases hd : (ops[j]?).bind (·.dst) with
    | none => rfl
    | some d =>
      simp only
      rw [X.ED_looks h (t := d) ?_]
      unfold Oper.looksAt
      refine List.mem_append.2 (.inr ?_)
      rw [hg]
      simp [hd]

theorem swaps {D : Nat → Bool} {i : Nat} {o : Oper} (h : Now (ops := ops) D i o) {k : Nat} (hk : k < ops.size) (hd : D k ≠ decide (k < i)) :
    (k < i ∧ swapOk (X.ds k) (X.ds i) = true) ∨ (i < k ∧ D k = true ∧ swapOk (X.ds i) (X.ds k) = true) := by
  rcases h.free hk hd with ⟨h1, h2⟩ | ⟨h1, h2, h3⟩
  · exact .inl ⟨h1, X.swap k i _ _ h1 (get hk) h.at_ h2⟩
  · exact .inr ⟨h1, h2, X.swap i k _ _ h1 h.at_ (get hk) h3⟩
theorem did_eff {k : Nat} (hk : k < ops.size) {rd : List Nat} {f : Eff} {nx : Nat} (he : X.ds k = .eff rd f nx) : nx = (X.hs k).nx := by
  have := X.step k _ (get hk)
  rw [he] at this
  generalize X.es (k + 1) = e', X.hs (k + 1) = h' at this
  cases this; rfl
theorem GD_read {D : Nat → Bool} {i : Nat} {o : Oper} (h : Now (ops := ops) D i o) {rd : List Nat} {f : Eff} {nx : Nat} (he : X.ds i = .eff rd f nx) {b : Nat} (hb : b ∈ rd) : X.GD D b = mix (X.hs i) X.N X.F b := by
  refine X.GD_pre (Nat.le_of_lt (lt_of_get h.at_)) fun k hk ht => Classical.byContradiction fun hne => ?_
  rcases X.swaps h hk hne with ⟨_, h2⟩ | ⟨_, _, h2⟩ <;>
    rcases swap_all h2 with e | e | ⟨r1, f1, n1, r2, f2, n2, e1, e2, e3, e4⟩ | ⟨g, g', r, f', n, e1, e2, e3, e4⟩ | ⟨g, g', r, f', n, e1, e2, e3, e3', e4⟩
  · rw [e] at ht; exact ht
  · rw [he] at e; cases e
  · rw [he] at e2; cases e2
    rw [e1] at ht e3; exact (e3 b ht).1 hb
  · rw [he] at e2; cases e2
    rw [e1] at ht; exact ht (e4 b hb)
  · rw [he] at e2; cases e2
  · rw [he] at e; cases e
  · rw [e] at ht; exact ht
  · rw [he] at e1; cases e1
    rw [e2] at ht e4; exact e4 b hb ht
  · rw [he] at e1; cases e1
  · rw [he] at e1; cases e1
    rw [e2] at ht; exact ht (e4 b hb)
theorem GD_new {D : Nat → Bool} {i : Nat} {o : Oper} (h : Now (ops := ops) D i o) {rd : List Nat} {f : Eff} {nx : Nat} (he : X.ds i = .eff rd f nx) {b : Nat} (hb : b ∈ newIds nx f.nw) : X.GD D b = mix (X.hs i) X.N X.F b := by
  have hi := lt_of_get h.at_
  have hw : b ∈ (Did.eff rd f nx).wrote := List.mem_append.2 (.inr hb)
  have hge := newIds_ge _ _ _ hb
  rw [X.did_eff hi he] at hge
  refine X.GD_pre (Nat.le_of_lt hi) fun k hk ht => Classical.byContradiction fun hne => ?_
  rcases X.swaps h hk hne with ⟨hlt, h2⟩ | ⟨_, _, h2⟩ <;>
    rcases swap_all h2 with e | e | ⟨r1, f1, n1, r2, f2, n2, e1, e2, e3, e4⟩ | ⟨g, g', r, f', n, e1, e2, e3, e4⟩ | ⟨g, g', r, f', n, e1, e2, e3, e3', e4⟩
  · rw [e] at ht; exact ht
  · rw [he] at e; cases e
  · rw [he] at e3
    rw [e1] at ht e3; exact (e3 b ht).2 hw
  · have := (step_touch X.hcl (X.step k _ (get hk)) (X.wf k (by omega)) b).2 ht
    have := X.mono (i := k + 1) i (by omega) (by omega)
    omega
  · rw [he] at e2; cases e2
  · rw [he] at e; cases e
  · rw [e] at ht; exact ht
  · rw [he, e2] at e3
    rw [e2] at ht; exact (e3 b hw).2 ht
  · rw [he] at e1; cases e1
  · rw [he] at e1; cases e1
    rw [e3'] at hb; simp [newIds] at hb
theorem GD_call {D : Nat → Bool} {i : Nat} {o : Oper} (h : Now (ops := ops) D i o) {g g' : Heap} (he : X.ds i = .call g g') {b : Nat} (hb : b < (X.hs (i + 1)).nx) : X.GD D b = mix (X.hs i) X.N X.F b := by
  have hi := lt_of_get h.at_
  refine X.GD_pre (Nat.le_of_lt hi) fun k hk ht => Classical.byContradiction fun hne => ?_
  rcases X.swaps h hk hne with ⟨hlt, h2⟩ | ⟨hlt, _, h2⟩ <;>
    rcases swap_all h2 with e | e | ⟨r1, f1, n1, r2, f2, n2, e1, e2, e3, e4⟩ | ⟨g, g', r, f', n, e1, e2, e3, e4⟩ | ⟨g, g', r, f', n, e1, e2, e3, e3', e4⟩
  · rw [e] at ht; exact ht
  · rw [he] at e; cases e
  · rw [he] at e2; cases e2
  · rw [he] at e2; cases e2
  · rw [e1] at ht
    simp only [touched, Did.wrote, e3, e3', newIds, List.map_nil, List.append_nil, List.not_mem_nil] at ht
  · rw [he] at e; cases e
  · rw [e] at ht; exact ht
  · rw [he] at e1; cases e1
  · rw [e2] at ht
    simp only [touched, Did.wrote, e3, List.map_nil, List.nil_append] at ht
    have := newIds_ge _ _ _ ht
    rw [X.did_eff hk e2] at this
    have := X.mono (i := i + 1) k (by omega) (by omega)
    omega
  · rw [he] at e1; cases e1
theorem GD_put {D D' : Nat → Bool} {i : Nat} {o : Oper} (h : Now (ops := ops) D i o) (hD' : ∀ k, D' k = true ↔ k = i ∨ D k = true) (b : Nat) : X.GD D' b = if touched (X.ds i) b then (X.hs (i + 1)).get b else X.GD D b := by
  have hi := lt_of_get h.at_
  unfold GD
  refine ov_insert h.not hD' ops.size hi ?_
  intro k h1 hk ht hti
  cases hD : D k with
  | false => rfl
  | true =>
    exfalso
    rcases X.swaps h hk (by simp [hD]; omega) with ⟨hlt, _⟩ | ⟨_, _, h2⟩
    · omega
    rcases swap_all h2 with e | e | ⟨r1, f1, n1, r2, f2, n2, e1, e2, e3, e4⟩ | ⟨g, g', r, f', n, e1, e2, e3, e4⟩ | ⟨g, g', r, f', n, e1, e2, e3, e3', e4⟩
    · rw [e] at hti; exact hti
    · rw [e] at ht; exact ht
    · rw [e1] at hti e3
      rw [e2] at ht e3
      exact (e3 b hti).2 ht
    · rw [e2] at ht
      simp only [touched, Did.wrote, e3, List.map_nil, List.nil_append] at ht
      have := newIds_ge _ _ _ ht
      rw [X.did_eff hk e2] at this
      have h5 := (step_touch X.hcl (X.step i o h.at_) (X.wf i (by omega)) b).2 hti
      have := X.mono (i := i + 1) k (by omega) (by omega)
      omega
    · rw [e1] at hti
      simp only [touched, Did.wrote, e3, e3', newIds, List.map_nil, List.append_nil, List.not_mem_nil] at hti

theorem mix_eq {h : Heap} {N : Nat} {G F : Nat → Option Blk} (hG : ∀ b, b < N → h.get b = G b) (hF : ∀ b, N ≤ b → F b = G b) : mix h N F = G := by
  funext b
  unfold mix
  by_cases e : b < N
  · rw [if_pos e]; exact hG b e
  · rw [if_neg e]; exact hF b (by omega)

theorem step_wp {D D' : Nat → Bool} {i : Nat} {o : Oper} (h : Now (ops := ops) D i o) (hD' : ∀ k, D' k = true ↔ k = i ∨ D k = true) {m : Mp} {w : World} {a : Act} {K : Act → World → Prop} {Q : Exit → Act → World → Prop}
    (hh : HRel m (X.GD D) w) (hg : GlobOk ng m) (hr : ARel m (X.ED D) a nt)
    (hK : ∀ m' w' a', HRel m' (X.GD D') w' → Step m w m' w' → ARel m' (X.ED D') a' nt → K a' w') : wpOp P ops Q i K a w := by
  have hi := lt_of_get h.at_
  have hok := X.ok i o h.at_
  have hwf := X.wf i (by omega)
  have hst := X.step i o h.at_
  have hnx := (step_wf X.hcl hst hwf).2
  have hwf1 := (step_wf X.hcl hst hwf).1
  have htop : (X.hs (i + 1)).nx ≤ X.N := Nat.le_trans (X.mono ops.size (by omega) (Nat.le_refl _)) X.top
  have hput := X.GD_put h hD'
  have hED := fun v => X.ED_put h hD' (v := v)
  have hwant := X.wanted_looks h hr
  unfold wpOp
  simp only [h.at_]
  have hmixN : ∀ b, b < (X.hs (i + 1)).nx → mix (X.hs i) X.N X.F b = (X.hs i).get b := fun b hb => by
    unfold mix; rw [if_pos (by omega)]
  generalize he : X.ds i = d at hst
  generalize he1 : X.es (i + 1) = e1 at hst
  generalize hh1 : X.hs (i + 1) = h1 at *
  cases hst with
  | skip _ _ hw =>
    rw [hwant, hw]
    simp only [Bool.false_eq_true, if_false]
    refine hK m w _ ?_ (.refl m w) ?_
    · have : X.GD D' = X.GD D := funext fun b => by rw [hput b, he]; simp [touched]
      rw [this]; exact hh
    · rw [hED _ he1]
      exact hr.put VRel.undef (dst_lt hok)
  | eff _ _ f hw hf =>
    rw [hwant, hw]
    simp only [if_true]
    left
    obtain ⟨t, ht⟩ := heap_of (X.GD D) (X.hs i).nx
    have hget : ∀ b, Heap.get ⟨t, (X.hs i).nx⟩ b = if b < (X.hs i).nx then X.GD D b else none := ht
    have hnxD := (apply_nx f (X.hs i) ⟨t, (X.hs i).nx⟩ rfl)
    have hmix : mix ⟨t, (X.hs i).nx⟩ ((X.hs i).apply f).nx (X.GD D) = X.GD D := by
      refine mix_eq (fun b hb => ?_) fun b _ => rfl
      rw [hget]
      by_cases hlt : b < (X.hs i).nx
      · rw [if_pos hlt]
      · rw [if_neg hlt, X.GD_new h he (hnxD.2 b (by omega) hb), hmixN b hb, hwf b (by omega)]
    have hwfD : HWf ⟨t, (X.hs i).nx⟩ := fun b hb => by
      rw [hget, if_neg (by exact Nat.not_lt.2 hb)]
    have heff : eff P o.op (evalF (X.ED D)) (Heap.get ⟨t, (X.hs i).nx⟩) (X.hs i).nx = some f := by
      rw [eff_congr (X.eval_looks h), ← hf]
      refine eff_local fun b hb => ?_
      rw [hget]
      by_cases hlt : b < (X.hs i).nx
      · rw [if_pos hlt, X.GD_read h he hb, hmixN b (by omega)]
      · rw [if_neg hlt, hwf b (by omega)]
    refine eff_upon (N := ((X.hs i).apply f).nx) (F := X.GD D) (by rw [hmix]; exact hh) hwfD (by rw [hnxD.1]; exact Nat.le_refl _) hnx hr hg hok heff ?_
    intro m' w' a' q1 q2 q3
    refine hK m' w' a' ?_ q2 ?_
    · have : mix (Heap.apply ⟨t, (X.hs i).nx⟩ f) ((X.hs i).apply f).nx (X.GD D) = X.GD D' := by
        refine mix_eq (fun b hb => ?_) fun b hb => ?_
        · rw [hput b, he]
          by_cases ht : touched (.eff (foot o.op (X.es i).eval) f (X.hs i).nx) b
          · rw [if_pos ht]
            exact (apply_same (h := X.hs i) (h2 := ⟨t, (X.hs i).nx⟩) rfl ht).1
          · rw [if_neg ht]
            have e1 : (Heap.apply ⟨t, (X.hs i).nx⟩ f).get b = Heap.get ⟨t, (X.hs i).nx⟩ b := apply_other (rd := foot o.op (X.es i).eval) ht
            rw [e1]
            have := congrFun hmix b
            unfold mix at this
            rwa [if_pos hb] at this
        · rw [hput b, if_neg]
          intro ht
          have := (step_touch X.hcl (X.step i o h.at_) hwf b).2 ht
          rw [hh1] at this
          omega
      rwa [this] at q1
    · rwa [hED _ he1]
  | call _ _ _ c fn args v hw hop hca hq =>
    rw [hwant, hw]
    simp only [if_true]
    left
    have hmix : mix (X.hs i) h1.nx (X.GD D) = X.GD D := by
      refine mix_eq (fun b hb => ?_) fun b _ => rfl
      rw [X.GD_call h he (by rw [hh1]; exact hb), hmixN b hb]
    have hca' : callee P c (evalF (X.ED D)) = some (fn, args) := by
      rw [← hca]
      refine callee_congr fun x hx => X.eval_looks h x ?_
      rw [hop]; exact hx
    refine call_upon (N := h1.nx) (F := X.GD D) X.hcl hop (by rw [hmix]; exact hh) hwf (Nat.le_refl _) hr hg hok hca' hq ?_ ?_
    · intro v' hv' m' w' a' q1 q2 q3
      cases hv'
      refine hK m' w' a' ?_ q2 ?_
      · have : mix h1 h1.nx (X.GD D) = X.GD D' := by
          refine mix_eq (fun b hb => ?_) fun b hb => ?_
          · rw [hput b, he]
            by_cases ht : touched (.call (X.hs i) h1) b
            · rw [if_pos ht]
            · rw [if_neg ht]
              have e1 : (X.hs i).get b = h1.get b := Classical.not_not.1 ht
              rw [← e1]
              have := congrFun hmix b
              unfold mix at this
              rwa [if_pos hb] at this
          · rw [hput b, if_neg]
            intro ht
            have := (step_touch X.hcl (X.step i o h.at_) hwf b).2 ht
            rw [hh1] at this
            omega
        rwa [this] at q1
      · rwa [hED _ he1]
    · intro v' hv'; cases hv'

def done (listed : Array Bool) (k : Nat) : Bool := listed.getD k false
theorem now_of_ready {listed : Array Bool} (hs : listed.size = ops.size) (hd : Down ops (done listed)) {i : Nat} (hi : i ∈ Region.ready .any ops listed) : Now (ops := ops) (done listed) i (ops[i]?.getD ⟨none, .move (.tmp 0), 0, default, #[], none⟩) := by
  unfold Region.ready at hi
  rw [List.mem_filter, List.mem_range] at hi
  obtain ⟨hlt, h⟩ := hi
  rw [get hlt] at h ⊢
  simp only [Bool.and_eq_true, Bool.not_eq_true', Option.map_some, Option.getD_some] at h
  refine ⟨get hlt, ?_, hd, fun e he hb => ?_⟩
  · have := h.1
    unfold done
    rw [Array.getD_eq_getD_getElem?] at this ⊢
    rw [Array.getElem?_eq_getElem (by omega)] at this ⊢
    exact this
  · have := Array.all_eq_true_iff_forall_mem.1 h.2 e he
    unfold done; simpa [hb] using this
theorem down_set {listed : Array Bool} (hs : listed.size = ops.size) {i : Nat} {o : Oper} (h : Now (ops := ops) (done listed) i o) : (∀ k, done (listed.setIfInBounds i true) k = true ↔ k = i ∨ done listed k = true) ∧ Down ops (done (listed.setIfInBounds i true)) := by
  have hi := lt_of_get h.at_
  have h1 : ∀ k, done (listed.setIfInBounds i true) k = true ↔ k = i ∨ done listed k = true := by
    intro k
    unfold done
    rw [Array.getD_eq_getD_getElem?, Array.getD_eq_getD_getElem?]
    by_cases e : i = k
    · subst e
      simp [Array.getElem?_setIfInBounds_self_of_lt (show i < listed.size by omega)]
    · rw [Array.getElem?_setIfInBounds_ne e]
      simp [Ne.symm e]
  refine ⟨h1, fun j o' hj hd e he hb => ?_⟩
  rw [h1] at hd ⊢
  right
  rcases hd with rfl | hd
  · rw [Array.getElem?_toList, h.at_] at hj
    simp only [Option.some.injEq] at hj
    subst hj
    exact h.all e he hb
  · exact h.down j o' hj hd e he hb
theorem ready_nil {listed : Array Bool} (hs : listed.size = ops.size) (hback : ∀ (j : Nat) (o : Oper), ops[j]? = some o → ∀ e ∈ o.after, Region.binds .any e = true → e.on < j) (h : Region.ready .any ops listed = []) : ∀ k, k < ops.size → done listed k = true := by
  intro k
  induction k using Nat.strongRecOn with
  | _ k ih =>
    intro hk
    cases hd : done listed k with
    | true => rfl
    | false =>
      exfalso
      have : k ∈ Region.ready .any ops listed := by
        unfold Region.ready
        rw [List.mem_filter, List.mem_range]
        refine ⟨hk, ?_⟩
        rw [get hk]
        simp only [Bool.and_eq_true, Bool.not_eq_true', Option.map_some, Option.getD_some]
        constructor
        · unfold done at hd
          rw [Array.getD_eq_getD_getElem?] at hd ⊢
          rw [Array.getElem?_eq_getElem (by omega)] at hd ⊢
          exact hd
        · rw [Array.all_eq_true_iff_forall_mem]
          intro e he
          cases hb : Region.binds .any e with
          | false => simp
          | true =>
            have hlt := hback k _ (get hk) e he hb
            simpa [done] using ih e.on hlt (by omega)
      rw [h] at this
      simp at this
theorem any_wp {Q : Exit → Act → World → Prop} (m0 : Mp) (w0 : World) (hg0 : GlobOk ng m0)
    (hQ : ∀ m' w' a', HRel m' (mix (X.hs ops.size) X.N X.F) w' → Step m0 w0 m' w' → ARel m' (X.es ops.size).at a' nt → Q .normal a' w') :
    ∀ (fuel : Nat) (listed : Array Bool) (m : Mp) (w : World) (a : Act), listed.size = ops.size → Down ops (done listed) → listed.toList.count false ≤ fuel → HRel m (X.GD (done listed)) w → Step m0 w0 m w → ARel m (X.ED (done listed)) a nt →
      wpAny P .any ops Q fuel listed a w := by
  have hend : ∀ (listed : Array Bool) (m : Mp) (w : World) (a : Act), (∀ k, k < ops.size → done listed k = true) → HRel m (X.GD (done listed)) w → Step m0 w0 m w → ARel m (X.ED (done listed)) a nt → Q .normal a w := by
    intro listed m w a hall hh hst hr
    refine hQ m w a ?_ hst ?_
    · have : X.GD (done listed) = mix (X.hs ops.size) X.N X.F := funext fun b => X.GD_pre (Nat.le_refl _) fun k hk _ => by rw [hall k hk]; simp [hk]
      rwa [this] at hh
    · have : X.ED (done listed) = (X.es ops.size).at := funext fun t => X.ED_pre (Nat.le_refl _) fun k hk _ => by rw [hall k hk]; simp [hk]
      rwa [this] at hr
  intro fuel
  induction fuel with
  | zero =>
    intro listed m w a hsz hd hc hh hst hr
    have hall : ∀ k, k < ops.size → done listed k = true := by
      intro k hk
      cases e : done listed k with
      | true => rfl
      | false =>
        exfalso
        have h0 : false ∉ listed.toList := List.count_eq_zero.1 (Nat.le_zero.1 hc)
        unfold done at e
        rw [Array.getD_eq_getD_getElem?, Array.getElem?_eq_getElem (by omega)] at e
        refine h0 ?_
        rw [Array.mem_toList_iff, ← show listed[k]'(by omega) = false from e]
        exact Array.getElem_mem _
    refine ⟨?_, hend listed m w a hall hh hst hr⟩
    refine List.eq_nil_iff_forall_not_mem.2 fun i hi => ?_
    have h1 := now_of_ready hsz hd hi
    have := h1.not
    rw [hall i (lt_of_get h1.at_)] at this
    cases this
  | succ fuel ih =>
    intro listed m w a hsz hd hc hh hst hr
    refine ⟨fun hn => hend listed m w a (ready_nil hsz X.back hn) hh hst hr, fun i hi => ?_⟩
    have h1 := now_of_ready hsz hd hi
    obtain ⟨h2, h3⟩ := down_set hsz h1
    refine X.step_wp h1 h2 hh (hg0.mono hst.ext) hr ?_
    intro m' w' a' q1 q2 q3
    refine ih _ m' w' a' (by simpa using hsz) h3 ?_ q1 (hst.trans q2) q3
    have hi' := lt_of_get h1.at_
    have hget : listed.toList[i]'(by simpa using (by omega : i < listed.size)) = false := by
      have := h1.not
      unfold done at this
      rw [Array.getD_eq_getD_getElem?, Array.getElem?_eq_getElem (by omega)] at this
      simpa using this
    rw [Array.toList_setIfInBounds, List.count_set (by simpa using (by omega : i < listed.size))]
    rw [hget]
    simp
    have := hc
    rw [← Array.count_toList] 
    omega
end DrawCtx

theorem draw_wp (hm : P.follows .mixedOrders = true) (hcl : CallOk P ng cl) {ops : Array Oper} {id : Nat} {e e' : Env} {h h' : Heap} {ex : AExit} (hok : ops.toList.all (opersOk ng nt) = true) (hrun : runDraw P cl ops e h = some (ex, e', h')) :
    Comes' P ng nt (.region id ops true) ex e e' h h' := by
  intro hwf
  unfold runDraw at hrun
  cases htext : drawText ops with
  | false => rw [htext] at hrun; simp at hrun
  | true =>
  rw [htext] at hrun
  simp only at hrun
  split at hrun <;> try (simp at hrun; done)
  rename_i e1 h1 L hrec
  cases hdid : drawDid2 ops.toList L with
  | false => rw [hdid] at hrun; simp at hrun
  | true =>
  rw [hdid] at hrun
  simp only [Option.some.injEq, Prod.mk.injEq] at hrun
  obtain ⟨rfl, rfl, rfl⟩ := hrun
  obtain ⟨hL, es, hs, s1, s2, s3, s4, s5⟩ := runRec_spec _ _ _ _ _ _ hrec
  have hL2 : L.length = ops.size := by rw [hL, Array.length_toList]
  rw [Array.length_toList] at s3 s4
  unfold drawText at htext
  simp only [Bool.and_eq_true, List.all_eq_true, List.mem_range] at htext
  obtain ⟨⟨t1, t2⟩, _⟩ := htext
  have hstep : ∀ (k : Nat) (o : Oper), ops[k]? = some o → OneStep P cl ops.toList o (L.getD k .skip) (es k) (hs k) (es (k + 1)) (hs (k + 1)) ∧ guardOk ops.toList (es k) o = true := by
    intro k o ho
    have hk := DrawCtx.lt_of_get ho
    refine s5 k o _ (by rw [Array.getElem?_toList]; exact ho) ?_
    rw [List.getD_eq_getElem?_getD, List.getElem?_eq_getElem (by omega)]
    rfl
  have hwf0 : HWf (hs 0) := s2 ▸ hwf
  have hok' : ∀ (k : Nat) (o : Oper), ops[k]? = some o → opersOk ng nt o = true := fun k o ho => List.all_eq_true.1 hok o (Array.mem_toList_iff.2 (Array.mem_of_getElem? ho))
  let X (N : Nat) (F : Nat → Option Blk) (hN : h1.nx ≤ N) : DrawCtx P ng nt cl ops := {
    es := es, hs := hs, ds := fun k => L.getD k .skip, N := N, F := F, hcl := hcl
    ok := hok', step := fun k o ho => (hstep k o ho).1, gok := fun k o ho => (hstep k o ho).2, wf0 := hwf0, top := s4 ▸ hN
    apart := fun i j x y hij hx hy hb => by
      have := t2 j (DrawCtx.lt_of_get hy) i hij
      rw [hb, Array.getElem?_toList, Array.getElem?_toList, hx, hy] at this
      simpa using this
    swap := fun i j x y hij hx hy hb => by
      have hi := DrawCtx.lt_of_get hx
      have hj := DrawCtx.lt_of_get hy
      have e1 : L[i]? = some (L.getD i .skip) := by rw [List.getD_eq_getElem?_getD, List.getElem?_eq_getElem (by omega)]; rfl
      have e2 : L[j]? = some (L.getD j .skip) := by rw [List.getD_eq_getElem?_getD, List.getElem?_eq_getElem (by omega)]; rfl
      cases hsf : safeC (opCls x.op) (opCls y.op) with
      | true => exact safe_swap (hstep i x hx).1 (hstep j y hy).1 hsf
      | false => exact drawDid2_spec hdid hij (by rw [Array.getElem?_toList]; exact hx) (by rw [Array.getElem?_toList]; exact hy) e1 e2 hb hsf
    back := fun j o ho ed he hb => by
      have := t1 j (DrawCtx.lt_of_get ho)
      rw [Array.getElem?_toList, ho] at this
      simp only [List.all_eq_true] at this
      have := this ed (Array.mem_toList_iff.2 he)
      rw [hb] at this
      simpa [Nat.blt_eq] using this }
  refine ⟨?_, ?_, fun N F m w a Q hN hh hg hr hQ => ?_⟩
  · have := (X h1.nx (fun _ => none) (Nat.le_refl _)).wf ops.size (Nat.le_refl _)
    rwa [← s4]
  · have := (X h1.nx (fun _ => none) (Nat.le_refl _)).mono (i := 0) ops.size (Nat.zero_le _) (Nat.le_refl _)
    rwa [← s4, ← s2]
  · refine wp_region_any hm ?_
    have hdone : ∀ k, DrawCtx.done (Array.replicate ops.size false) k = false := by
      intro k
      unfold DrawCtx.done
      rw [Array.getD_eq_getD_getElem?, Array.getElem?_replicate]
      split <;> rfl
    refine (X N F hN).any_wp m w hg ?_ ops.size _ m _ a (by simp) ?_ ?_ ?_ .drew ?_
    · intro m' w' a' q1 q2 q3
      refine hQ m' w' a' .normal ?_ q2 ?_ rfl
      · have : (X N F hN).hs ops.size = h1 := s4
        rwa [this] at q1
      · have : (X N F hN).es ops.size = e1 := s3
        rwa [this] at q3
    · intro j o _ hd
      rw [hdone] at hd; cases hd
    · rw [Array.toList_replicate]
      exact Nat.le_trans List.count_le_length (by simp)
    · have : (X N F hN).GD (DrawCtx.done (Array.replicate ops.size false)) = mix h N F := by
        funext b
        rw [(X N F hN).GD_pre (i := 0) (Nat.zero_le _) fun k _ _ => by rw [hdone]; simp]
        show mix (hs 0) N F b = _
        rw [s2]
      rw [this]
      exact hh.drew _
    · have : (X N F hN).ED (DrawCtx.done (Array.replicate ops.size false)) = e.at := by
        funext t
        rw [(X N F hN).ED_pre (i := 0) (Nat.zero_le _) fun k _ _ => by rw [hdone]; simp]
        show (es 0).at t = _
        rw [s1]
      rw [this]
      exact hr
end Go.AM
end
section
/- Ranging over maps: what 'range', 'next' and 'entry' do. -/
namespace Go.AM
variable {P : Program} {w : World}

theorem next_run (ty : TypeId) {itb cbm since last clk : Nat} {seen : Array Nat} {es : Array MapEntry} (hi : w.heap[itb]? = some (.mapIter (some cbm) since seen last)) (hb : w.heap[cbm]? = some (.map es clk))
    (hold : ∀ x ∈ es.toList, x.born < since) (hsc : since ≤ last) :
    ((∀ x ∈ es.toList, x.born ∈ seen.toList) ∧ (Instr.next (.pointer (some ⟨itb, 0, none⟩)) false ty).run P w = .ok (.tuple #[.bool false]) w) ∨
    ∃ e ∈ es.toList, e.born ∉ seen.toList ∧ ∃ d, (Instr.next (.pointer (some ⟨itb, 0, none⟩)) false ty).run P w = .ok (.tuple #[.bool true, e.key, e.val]) { w with heap := w.heap.setIfInBounds itb (.mapIter (some cbm) since (seen.push e.born) clk), drawn := d } := by
  simp only [Instr.next, getObj, Sem.run_bind, Sem.run, hi, hb, Result.andThen, next_test_false seen es since last hold hsc, Bool.false_eq_true, if_false]
  have hL : Array.filter (fun e => !seen.contains e.born) es = leftOf es seen := rfl
  have hmem : ∀ x ∈ (leftOf es seen).toList, x ∈ es.toList ∧ x.born ∉ seen.toList := fun x hx => by
    unfold leftOf at hx
    simpa using hx
  have hnone : (leftOf es seen).size = 0 → ∀ x ∈ es.toList, x.born ∈ seen.toList := by
    intro h0 x hx
    refine Classical.byContradiction fun hn => ?_
    have : x ∈ (leftOf es seen).toList := by
      unfold leftOf
      simp
      exact ⟨by simpa using hx, by simpa using hn⟩
    rw [Array.eq_empty_of_size_eq_zero h0] at this
    simp at this
  simp only [hL]
  generalize leftOf es seen = L at hmem hnone
  have hlt : ∀ x ∈ L.toList, x.born < since := fun x hx => hold x (hmem x hx).1
  have e1 : L.filter (fun x => decide (x.born < since)) = L := Array.filter_eq_self.2 (fun x hx => by simpa using hlt x (by simpa using hx))
  have e2 : L.filter (fun x => decide (x.born ≥ since)) = #[] := by
    rw [Array.filter_eq_empty_iff]
    intro x hx
    have := hlt x (by simpa using hx)
    simp
    omega
  simp only [e1, e2, Array.append_empty]
  by_cases h0 : L.size = 0
  · left
    have : L = #[] := Array.eq_empty_of_size_eq_zero h0
    subst this
    refine ⟨hnone rfl, ?_⟩
    simp [choose, Sem.run, Question.forced]
  · right
    have hne : L.isEmpty = false := by simp [Array.isEmpty, h0]
    simp only [hne, Bool.false_eq_true, if_false, Array.empty_append, Array.size_map]
    have hch : ∃ (j d : Nat), j < L.size ∧ (choose (Question.mapNext L.size)).run P w = .ok j { w with drawn := d } := by
      by_cases hf : L.size ≤ 1
      · exact ⟨0, w.drawn, by omega, by simp [choose, Sem.run, Question.forced, hf]⟩
      · exact ⟨_, w.drawn + 1, Nat.mod_lt _ (by omega), by
          simp only [choose, Sem.run, Question.forced, decide_eq_true_eq, hf, if_false, Question.cut]
          rfl⟩
    obtain ⟨j, d, hj, hrun⟩ := hch
    obtain ⟨m1, m2⟩ := hmem L[j] (by simp)
    refine ⟨L[j], m1, m2, d, ?_⟩
    simp only [hrun, Array.getElem?_map, Array.getElem?_eq_getElem hj, Option.map_some, Sem.run_bind, setObj, Sem.run, hi, Result.andThen]
    rfl

end Go.AM
end
