/- What each operation does: the rest that is small. -/
import Derived.Test.YtkkdpbicppdglaaGreatDoorAmEff4
namespace Go.AM
variable {P : Program} {m : Mp} {h : Heap} {N : Nat} {F : Nat → Option Blk} {w : World}

theorem del_rel {d : TypeDesc} {k : Value} (h1 : effLookup.keyDesc d k = true) : ∀ (es : List (Value × Value × Nat)) (ces : List MapEntry), ERel m es ces → keysOk k es = true →
    (findE k es = none → ERel m (delE k es) ces) ∧ (∀ v, findE k es = some v → ∀ i j v', Instr.findNow d k ces i = some (some (i + j, v')) → ERel m (delE k es) (ces.eraseIdx j)) := by
  intro es
  induction es with
  | nil => intro ces he _; cases ces with
    | nil => exact ⟨fun _ => trivial, fun v hv => by simp [findE] at hv⟩
    | cons => exact he.elim
  | cons y r ih =>
    intro ces he hk
    cases ces with
    | nil => exact he.elim
    | cons c s =>
      obtain ⟨⟨e1, e2, e3⟩, e4⟩ := he
      simp only [keysOk, List.all_cons, Bool.and_eq_true] at hk
      obtain ⟨q1, q2⟩ := key_same h1 hk.1
      obtain ⟨i1, i2⟩ := ih s e4 hk.2
      have q1 : Instr.sameNow d k c.key = some (keyEq k y.1) := by rw [← e1]; exact q1
      cases hq : keyEq k y.1 with
      | true =>
        refine ⟨fun hf => by simp [findE, hq] at hf, fun v _ i j v' hf => ?_⟩
        simp only [Instr.findNow, q1, hq, Option.some.injEq, Prod.mk.injEq] at hf
        obtain rfl : j = 0 := by omega
        simp only [delE, hq, if_true, List.eraseIdx_cons_zero]
        exact e4
      | false =>
        refine ⟨fun hf => ?_, fun v hv i j v' hf => ?_⟩
        · simp only [findE, hq, Bool.false_eq_true, if_false] at hf
          simp only [delE, hq, Bool.false_eq_true, if_false]
          exact ⟨⟨e1, e2, e3⟩, i1 hf⟩
        · simp only [findE, hq, Bool.false_eq_true, if_false] at hv
          simp only [Instr.findNow, q1, hq] at hf
          have hfr := find_rel h1 r s (i + 1) e4 hk.2
          rw [hv] at hfr
          obtain ⟨j', u, a1, _⟩ := hfr
          rw [a1] at hf
          simp only [Option.some.injEq, Prod.mk.injEq] at hf
          obtain rfl : j = j' + 1 := by omega
          simp only [delE, hq, Bool.false_eq_true, if_false, List.eraseIdx_cons_succ]
          exact ⟨⟨e1, e2, e3⟩, i2 v hv (i + 1) j' u a1⟩

theorem delete_does {args : Array TypeId} {t0 : TypeId} {x x' k k' : Value} {f : Eff} (hr : HRel m (mix h N F) w) (hwf : HWf h) (hN : h.nx ≤ N) (hx : VRel m x x') (hk : VRel m k k')
    (he : aDelete P args x k h.get = some f) : DoesV P (Builtin.delete_ args t0 #[x', k']) f h N F m w := by
  unfold aDelete at he
  split at he <;> try (simp at he; done)
  rename_i t rest hargs
  have ht : args[0]? = some t := by rw [← Array.getElem?_toList, hargs]; rfl
  split at he <;> try (simp at he; done)
  rename_i kt elem r hu
  split at he <;> try (simp at he; done)
  rename_i d hd
  split at he <;> try (simp at he; done)
  rename_i hcond
  simp only [Bool.and_eq_true] at hcond
  obtain ⟨hsk, hkd⟩ := hcond
  have := key_rel hsk hk
  subst this
  cases r with
  | none =>
    simp only [AM.ret, Option.some.injEq] at he
    subst he
    cases hx
    refine DoesV.ret hr (v' := .tuple #[]) ?_ VRel.undef
    simp [Builtin.delete_, ht, ru hu, checkKey_run hd hkd]
  | some r =>
    simp only at he
    split at he <;> try (simp at he; done)
    rename_i es clk hg
    split at he <;> try (simp at he; done)
    rename_i hko
    simp only [Option.some.injEq] at he
    subst he
    obtain ⟨l, hm, hrw, ces, q1, q2⟩ := hr.map hwf hN hg
    have := map_live hx hm
    subst this
    have hfind := find_rel hkd es ces.toList 0 q2 hko
    obtain ⟨p1, p2⟩ := del_rel hkd es ces.toList q2 hko
    have hlt : l.cb < w.heap.size := hr.lt hm
    cases hf : findE k' es with
    | none =>
      rw [hf] at hfind
      simp only at hfind
      have hb : BRel m { w with heap := w.heap.setIfInBounds l.cb (.map ces clk) } (.live l) (some (.map (delE k' es) clk)) :=
        ⟨hrw, ces, by simp [hlt], p1 hf⟩
      obtain ⟨r1, r2⟩ := wr_rel (v := undef) hr (lt_of_get hwf hN hg) hm hrw hb
      refine ⟨_, m, undef, ?_, VRel.undef, r1, r2⟩
      simp [Builtin.delete_, ht, ru hu, getObj, Sem.run, q1, checkKey_run hd hkd, Instr.findKey, ru hd, hfind, setObj, undef]
    | some v =>
      rw [hf] at hfind
      obtain ⟨j, v', a1, a2, e, a3, a4⟩ := hfind
      simp only [Nat.zero_add] at a1
      have hb : BRel m { w with heap := w.heap.setIfInBounds l.cb (.map (ces.eraseIdxIfInBounds j) clk) } (.live l) (some (.map (delE k' es) clk)) := by
        refine ⟨hrw, ces.eraseIdxIfInBounds j, by simp [hlt], ?_⟩
        have := p2 v hf 0 j v' (by simpa using a1)
        have hj : j < ces.size := by
          rw [Array.getElem?_toList] at a3
          exact (Array.getElem?_eq_some_iff.1 a3).1
        rw [Array.eraseIdxIfInBounds, dif_pos hj, Array.toList_eraseIdx]
        exact this
      obtain ⟨r1, r2⟩ := wr_rel (v := undef) hr (lt_of_get hwf hN hg) hm hrw hb
      refine ⟨_, m, undef, ?_, VRel.undef, r1, r2⟩
      simp [Builtin.delete_, ht, ru hu, getObj, Sem.run, q1, checkKey_run hd hkd, Instr.findKey, ru hd, a1, setObj, undef]

theorem ERel.length : ∀ {es : List (Value × Value × Nat)} {ces : List MapEntry}, ERel m es ces → ces.length = es.length
  | [], [], _ => rfl
  | _ :: _, _ :: _, ⟨_, h⟩ => by simp [ERel.length h]
  | [], _ :: _, h => h.elim
  | _ :: _, [], h => h.elim

theorem len_does {args : Array TypeId} {t0 : TypeId} {x x' : Value} {f : Eff} (hr : HRel m (mix h N F) w) (hwf : HWf h) (hN : h.nx ≤ N) (hx : VRel m x x')
    (he : aLen P args x h.get = some f) : DoesV P (Builtin.len_ args t0 #[x']) f h N F m w := by
  unfold aLen at he
  split at he <;> try (simp at he; done)
  rename_i t rest hargs
  have ht : args[0]? = some t := by rw [← Array.getElem?_toList, hargs]; rfl
  split at he <;> try (simp at he; done)
  · rename_i s hu
    simp only [AM.ret, Option.some.injEq] at he; subst he
    cases hx
    exact DoesV.ret hr (by simp [Builtin.len_, ht, ru hu, goInt]) (.int _ _)
  · rename_i e a n c hu
    simp only [AM.ret, Option.some.injEq] at he; subst he
    cases hx <;> exact DoesV.ret hr (by simp [Builtin.len_, ht, ru hu, goInt]) (.int _ _)
  · rename_i n e hu
    simp only [AM.ret, Option.some.injEq] at he; subst he
    exact DoesV.ret hr (by simp [Builtin.len_, ht, ru hu, goInt]) (.int _ _)
  · rename_i arr hu
    split at he <;> try (simp at he; done)
    rename_i n e hu2
    simp only [AM.ret, Option.some.injEq] at he; subst he
    exact DoesV.ret hr (by simp [Builtin.len_, ht, ru hu, ru hu2, goInt]) (.int _ _)
  · rename_i k e hu
    simp only [AM.ret, Option.some.injEq] at he; subst he
    cases hx
    exact DoesV.ret hr (by simp [Builtin.len_, ht, ru hu, goInt]) (.int _ _)
  · rename_i k e r hu
    split at he <;> try (simp at he; done)
    rename_i es hg
    simp only [AM.ret, Option.some.injEq] at he; subst he
    obtain ⟨l, hm, hrw, ces, q1, q2⟩ := hr.map hwf hN hg
    have := map_live hx hm
    subst this
    have hl := q2.length
    simp only [Array.length_toList] at hl
    exact DoesV.ret hr (by simp [Builtin.len_, ht, ru hu, goInt, getObj, Sem.run, q1, hl]) (.int _ _)

theorem range_does {t : TypeId} {x x' : Value} {f : Eff} (hr : HRel m (mix h N F) w) (hwf : HWf h) (hN : (h.apply f).nx ≤ N) (hx : VRel m x x') (hN0 : h.nx ≤ N) (he : effRange P t x h.get h.nx = some f) : DoesV P (Instr.range t x') f h N F m w := by
  unfold effRange at he
  split at he <;> try (simp at he; done)
  rotate_left
  · rename_i kt et r hu
    split at he <;> try (simp at he; done)
    rename_i es c hg
    cases he
    obtain ⟨l, hm, hrw, ces, q1, q2⟩ := hr.map hwf hN0 hg
    have := map_live hx hm
    subst this
    obtain ⟨m', e1, e2, e3, e4⟩ := nw_rel (v := ptr h.nx 0) (l := ⟨w.heap.size, 0, 0, 0, 0, true⟩) (x := .iter r c [] none c) (o := .mapIter (some l.cb) c #[] c) w.drawn hr hwf hN rfl rfl (fun m' he' _ => ⟨⟨rfl, rfl⟩, l.cb, #[], by simp, MapAt.mono he' (.inr ⟨l, hm, rfl⟩), by simp, by simp⟩)
    refine ⟨_, m', _, ?_, VRel.ptr h.nx 0 _ e2, e3, e4⟩
    simp [Instr.range, ru hu, getObj, Sem.run, q1]
  rename_i s hu
  cases he
  cases hx
  obtain ⟨m', e1, e2, e3, e4⟩ := nw_rel (v := ptr h.nx 0) (l := ⟨w.heap.size, 0, 0, 0, 0, true⟩) (x := .str s 0) (o := .stringIter s 0) w.drawn hr hwf hN rfl rfl (fun m' _ _ => ⟨⟨rfl, rfl⟩, by simp⟩)
  refine ⟨_, m', _, ?_, VRel.ptr h.nx 0 _ e2, e3, e4⟩
  simp [Instr.range, ru hu]

theorem next_does {t : TypeId} {x x' : Value} {b : Bool} {f : Eff} (hr : HRel m (mix h N F) w) (hwf : HWf h) (hN : h.nx ≤ N) (hx : VRel m x x') (he : effNext x b h.get = some f) : DoesV P (Instr.next x' b t) f h N F m w := by
  cases b with
  | false => simp [effNext] at he
  | true =>
    simp only [effNext] at he
    unfold effNextS at he
    split at he <;> try (simp at he; done)
    rename_i r
    split at he <;> try (simp at he; done)
    rename_i s pos hg
    obtain ⟨l, hm, ⟨hrw, hsh⟩, hq⟩ := hr.str hwf hN hg
    have := ptr_live hx hm
    rw [hsh] at this
    subst this
    split at he
    · rename_i hlt
      simp only [Option.some.injEq] at he
      subst he
      have hll : l.cb < w.heap.size := hr.lt hm
      have hb : BRel m { w with heap := w.heap.setIfInBounds l.cb (.stringIter s (pos + (Utf8.decode s pos).2)) } (.live l) (some (.str s (pos + (Utf8.decode s pos).2))) := ⟨⟨hrw, hsh⟩, by simp [hll]⟩
      obtain ⟨r1, r2⟩ := wr_rel (v := .tuple #[.bool true, .int .i64 pos, .int .i32 (Utf8.decode s pos).1]) hr (lt_of_get hwf hN hg) hm hrw hb
      refine ⟨_, m, .tuple #[.bool true, .int .i64 pos, .int .i32 (Utf8.decode s pos).1], ?_, .tuple _ _ (.cons _ _ _ _ (.bool _) (.cons _ _ _ _ (.int _ _) (.cons _ _ _ _ (.int _ _) .nil))), r1, r2⟩
      simp [Instr.next, getObj, Sem.run, hq, hlt, setObj, goInt]
    · rename_i hlt
      simp only [AM.ret, Option.some.injEq] at he
      subst he
      exact DoesV.ret hr (by simp [Instr.next, getObj, Sem.run, hq, hlt]) (.tuple _ _ (.cons _ _ _ _ (.bool _) .nil))

theorem assert_does {t a : TypeId} {x x' : Value} {ok : Bool} {f : Eff} (hr : HRel m (mix h N F) w) (hx : VRel m x x') (he : effAssert P x a ok = some f) : DoesV P (Instr.typeAssert x' t a ok) f h N F m w := by
  have hf : effAssert.fails P a = some f → ∃ z, zeroV P a = some z ∧ f = ⟨.tuple #[z, .bool false], [], []⟩ := by
    intro hq
    unfold effAssert.fails at hq
    split at hq <;> try (simp at hq; done)
    rename_i z hz
    simp only [AM.ret, Option.some.injEq] at hq
    exact ⟨z, hz, hq.symm⟩
  unfold effAssert at he
  split at he <;> try (simp at he; done)
  rename_i d hni hu
  split at he <;> try (simp at he; done)
  · split at he <;> try (simp at he; done)
    rename_i hok
    obtain ⟨z, hz, rfl⟩ := hf he
    cases hx
    refine DoesV.ret hr (v' := .tuple #[z, .bool false]) ?_ (.tuple _ _ (.cons _ _ _ _ (zeroV_rel hz) (.cons _ _ _ _ (.bool _) .nil)))
    cases d <;> first
      | exact (hni _ rfl).elim
      | simp [Instr.typeAssert, ru hu, hok, rz hz]
  · rename_i t' v
    cases hx with
    | iface _ _ v' hv =>
      split at he
      · rename_i hta
        simp only [AM.ret, Option.some.injEq] at he
        subst he
        subst hta
        refine DoesV.ret hr (v' := if ok then .tuple #[v', .bool true] else v') ?_ ?_
        · cases d <;> first
            | exact (hni _ rfl).elim
            | simp [Instr.typeAssert, ru hu]
        · cases ok
          · exact hv
          · exact .tuple _ _ (.cons _ _ _ _ hv (.cons _ _ _ _ (.bool _) .nil))
      · rename_i hta
        split at he <;> try (simp at he; done)
        rename_i hok
        obtain ⟨z, hz, rfl⟩ := hf he
        refine DoesV.ret hr (v' := .tuple #[z, .bool false]) ?_ (.tuple _ _ (.cons _ _ _ _ (zeroV_rel hz) (.cons _ _ _ _ (.bool _) .nil)))
        cases d <;> first
          | exact (hni _ rfl).elim
          | simp [Instr.typeAssert, ru hu, hok, hta, rz hz]

theorem iface_does {t : TypeId} {x x' : Value} {f : Eff} (hr : HRel m (mix h N F) w) (hx : VRel m x x') (he : effIface P t x = some f) : DoesV P (Instr.makeInterface t x') f h N F m w := by
  unfold effIface at he
  split at he <;> try (simp at he; done)
  rename_i d hni hu
  simp only [AM.ret, Option.some.injEq] at he
  subst he
  refine DoesV.ret hr (v' := .iface t x') ?_ (.iface _ _ _ hx)
  cases d <;> first
    | exact (hni _ rfl).elim
    | simp [Instr.makeInterface, ru hu]

theorem arrPtr_does {t : TypeId} {x x' : Value} {f : Eff} (hr : HRel m (mix h N F) w) (hx : VRel m x x') (he : effArrPtr P t x = some f) : DoesV P (Instr.arrayAt t x') f h N F m w := by
  unfold effArrPtr at he
  split at he <;> try (simp at he; done)
  rename_i n e a len c hu
  split at he <;> try (simp at he; done)
  rename_i hc
  have hlen : ¬ len < n := fun e => hc (.inl e)
  have hn : n ≠ 0 := fun e => hc (.inr e)
  simp only [AM.ret, Option.some.injEq] at he
  subst he
  cases hx with
  | sliceNil => exact DoesV.ret hr (by simp [Instr.arrayAt, ru hu, hlen]) .ptrNil
  | slice b off _ _ cap' l hm hs => exact DoesV.ret hr (by simp [Instr.arrayAt, ru hu, hlen]) (.ptr b off l hm)
  | sliceEnd b off a' l hm ho => omega
  | sliceDead a a' _ _ c' hd => exact DoesV.ret hr (v' := .pointer (some a')) (by simp [Instr.arrayAt, ru hu, hlen]) (.ptrDead _ _ hd)

theorem func_does {fn : Fn} {a b a' b' : Array Value} {f : Eff} (hr : HRel m (mix h N F) w) (ha : VRels m a.toList a'.toList) (hb : VRels m b.toList b'.toList) (he : effFunc fn a b = some f) : DoesV P (Instr.makeFunc fn a' b') f h N F m w := by
  simp only [effFunc, AM.ret, Option.some.injEq] at he
  subst he
  exact DoesV.ret hr (by simp [Instr.makeFunc]) (.func _ _ _ _ _ ha hb)

/- ## texts and bytes -/
theorem bytesGo {l l' : List Value} {acc : List UInt8} {s : ByteArray} (hl : VRels m l l') (he : bytesAt.go l acc = some s) :
    ∃ ns : List Int, l' = ns.map (Value.int .u8) ∧ s = ⟨(acc.reverse ++ ns.map fun n => UInt8.ofNat n.toNat).toArray⟩ := by
  induction l generalizing l' acc with
  | nil => cases hl; simp only [bytesAt.go, Option.some.injEq] at he; subst he; exact ⟨[], rfl, by simp⟩
  | cons v r ih =>
    cases hl with
    | cons _ v' _ r' hv hr =>
      cases hv <;> try (simp [bytesAt.go] at he; done)
      rename_i k n
      cases k <;> try (simp [bytesAt.go] at he; done)
      simp only [bytesAt.go] at he
      obtain ⟨ns, h1, h2⟩ := ih hr he
      exact ⟨n :: ns, by simp [h1], by rw [h2]; simp⟩
theorem foldl_push : ∀ (ns : List Int) (s : ByteArray), ns.foldl (fun r n => r.push (UInt8.ofNat n.toNat)) s = ⟨(s.data.toList ++ ns.map fun n => UInt8.ofNat n.toNat).toArray⟩ := by
  intro ns
  induction ns with
  | nil => intro s; simp
  | cons n r ih =>
    intro s
    rw [List.foldl_cons, ih]
    apply bytes_ext
    simp [ByteArray.push]

theorem conv_does {s d : TypeId} {x x' : Value} {f : Eff} (hr : HRel m (mix h N F) w) (hwf : HWf h) (hN : (h.apply f).nx ≤ N) (hN0 : h.nx ≤ N) (hx : VRel m x x') (he : effConv P s d x h.get h.nx = some f) : DoesV P (convert s d x') f h N F m w := by
  unfold effConv at he
  split at he <;> try (simp at he; done)
  · rename_i k n
    cases hx
    split at he <;> try (simp at he; done)
    · rename_i ds kd hs hd
      simp only [AM.ret, Option.some.injEq] at he
      subst he
      refine DoesV.ret hr ?_ (.int _ _)
      simp [convert, ru hs, ru hd, Conv.intToInt, wrapF_eq]
    · rename_i ds hs hd
      simp only [AM.ret, Option.some.injEq] at he
      subst he
      refine DoesV.ret hr ?_ (.string _)
      simp [convert, ru hs, ru hd, Conv.intToString]
  · rename_i i
    split at he <;> try (simp at he; done)
    rename_i ds k hs hd
    obtain ⟨r, hr1, hr2⟩ := Option.bind_eq_some_iff.1 he
    simp only [AM.ret, Option.some.injEq] at hr2
    subst hr2
    cases hx with
    | sym _ k0 n hi =>
      have := (tok_facts hr hwf hN0 hi _ (findConv_ok hr1)).1
      refine DoesV.ret hr ?_ this
      simp [convert, ru hs, ru hd, Conv.intToInt]
  · rename_i t
    cases hx
    split at he <;> try (simp at he; done)
    · rename_i ds hs hd
      simp only [AM.ret, Option.some.injEq] at he
      subst he
      refine DoesV.ret hr ?_ (.string _)
      simp [convert, ru hs, ru hd]
    · rename_i ds e hs hd
      split at he <;> try (simp at he; done)
      rename_i hu
      simp only [Option.some.injEq] at he
      subst he
      -- the capacity is drawn
      generalize hcap : (Question.appendCap t.size 0 e).cut (w.tape w.drawn (.appendCap t.size 0 e)) = cap
      have hle : t.size ≤ cap := by rw [← hcap]; exact Nat.le_add_right _ _
      let vs : List Value := t.data.toList.map fun b => .int .u8 b.toNat
      let c : Array Value := (t.data.map fun b => Value.int .u8 b.toNat) ++ Array.replicate (cap - t.size) (.int .u8 0)
      have hvs : vs.length = t.size := by
        show (List.map _ t.data.toList).length = t.size
        rw [List.length_map, Array.length_toList]; rfl
      have hcs : c.size = cap := by
        show ((t.data.map fun b => Value.int .u8 b.toNat) ++ Array.replicate (cap - t.size) (Value.int .u8 0)).size = cap
        rw [Array.size_append, Array.size_map, Array.size_replicate]
        have : t.data.size = t.size := rfl
        omega
      have hpl : vs.all plainCell = true := by rw [List.all_eq_true]; intro v hv; simp only [vs, List.mem_map] at hv; obtain ⟨b, _, rfl⟩ := hv; rfl
      have hv : VRels m vs (c.toList.take vs.length) := by
        have : c.toList.take vs.length = vs := by
          simp only [c, Array.toList_append, Array.toList_map]
          rw [List.take_append_of_le_length (by simp [vs]), List.take_of_length_le (by simp [vs])]
        rw [this]; exact plainCells_rel hpl
      obtain ⟨m', e1, e2, e3, e4⟩ := nw_rel (v := .slice (some ⟨h.nx, 0, none⟩) t.size t.size) (l := ⟨w.heap.size, 0, 1, vs.length, c.size, true⟩) (x := .cells (ofList vs) vs.length .bytes) (o := .cells c e (c.size, c.size + 1)) (w.drawn + 1) hr hwf hN rfl rfl
        (fun m' he _ => new_cells (k := .bytes) (by omega) hv (plainCells_one hpl) (And.intro rfl (And.intro (fun i hi => by
          have hi : i < c.size := hi
          simp; omega) rfl)) he)
      refine ⟨_, m', .slice (some ⟨w.heap.size, 0, none⟩) t.size cap, ?_, ?_, by rw [hvs] at e3; exact e3, e4⟩
      · simp only [convert, Sem.run_bind, ru hs, ru hd, ru hu, Result.andThen_ok, Conv.stringToBytes, run_choose, Question.forced, Bool.false_eq_true, if_false, hcap, run_newRow]
        simp only [markStringish, Sem.run_bind, run_shape, World.shape?, Result.andThen_ok]
        simp only [Array.getElem?_push_size]
        simp only [run_freeze, Result.andThen_ok, Sem.run_pure, World.freeze]
        simp only [Nat.succ_ne_zero, if_false]
        congr 2
        apply Array.ext_getElem?
        intro i
        simp only [Array.getElem?_modify, Array.getElem?_push]
        by_cases hi : w.heap.size = i
        · subst hi; simp [c]
        · simp [hi, Ne.symm hi]
      · refine .slice h.nx 0 t.size t.size cap _ e2 (.inr ⟨(show 0 + t.size * 1 = vs.length by omega), (show 0 + 0 + cap * 1 = c.size by omega), (show 0 < 1 by omega), hle⟩)
  · rename_i a len cap
    split at he <;> try (simp at he; done)
    rename_i e hs hd
    split at he <;> try (simp at he; done)
    rename_i hu
    cases a with
    | none =>
      simp only [AM.ret, Option.some.injEq] at he
      subst he
      cases hx
      refine DoesV.ret hr ?_ (.string _)
      simp [convert, ru hs, ru hd, ru hu, Conv.bytesToString]
    | some ad =>
      obtain ⟨b, off, sp⟩ := ad
      cases sp with
      | some q => simp at he
      | none =>
        simp only at he
        cases hb : bytesAt (h.get b) off len with
        | none => simp [hb] at he
        | some t =>
          simp only [hb, Option.bind_some, AM.ret, Option.some.injEq] at he
          subst he
          unfold bytesAt at hb
          split at hb <;> try (simp at hb; done)
          rename_i xs n k hg
          split at hb <;> try (simp at hb; done)
          rename_i hle
          obtain ⟨l, hm, c, el, fr, hc⟩ := hr.cells hwf hN0 hg
          have hfit := hc.fit
          have hcsz := hc.csz
          rcases slice_live hx hm with ⟨cap2, hx2, _⟩ | ⟨z1, z2, z3, a2, hx2⟩
          · subst hx2
            have hrel := (cells_rel hc.cell hle (by omega)).1
            obtain ⟨ns, h1, h2⟩ := bytesGo hrel hb
            refine DoesV.ret hr (v' := .string t) ?_ (.string _)
            rw [run_convert_bytes_string w s d e _ _ _ hs hu hd]
            have hl := run_cells (P := P) hc.heap (show l.sh + off + len ≤ c.size by omega)
            rw [h1] at hl
            rw [run_bytesToString w _ len cap2 ns hl, foldl_push, h2]
            simp
          · subst hx2
            subst z1
            simp only [loadL_zero, bytesAt.go, Option.some.injEq] at hb
            subst hb
            refine DoesV.ret hr (v' := .string ⟨#[]⟩) ?_ (.string _)
            rw [run_convert_bytes_string w s d e _ _ _ hs hu hd]
            rw [run_bytesToString w _ 0 0 [] (by simp [loadCells, loadCellsFrom])]
            rfl

/- ## comparisons -/
theorem evalPure_run {α : Type} {s : Sem α} {a : α} (hs : evalPure P s = some a) (w : World) : s.run P w = .ok a w := by
  induction s with
  | pure b => simp only [evalPure, Option.some.injEq] at hs; subst hs; rfl
  | program k ih => simp only [evalPure] at hs; exact ih P hs
  | _ => simp [evalPure] at hs

theorem firm_free {l : Loc} {n : Nat} {k : Kind} {fr : Nat × Nat} {el : TypeId} (hk : KRel l n k fr el) (hf : firm k = true) : fr = (0, 0) := by
  cases k <;> simp [firm] at hf
  · exact hk.2.2.2
  · exact hk.2.1
  · exact hk.2.2.2.1
  · exact hk.2.1

theorem eqlIn_run {d : Nat} {t : TypeId} {x x' y y' : Value} {b : Bool} (hr : HRel m (mix h N F) w) (hwf : HWf h) (hN : h.nx ≤ N) (hx : VRel m x x') (hy : VRel m y y') (he : eqlV P t x y h.get = some b) :
    (Op.equalIn (d + 1) t x' y').run P w = .ok b w := by
  rw [Op.equalIn, Sem.run_bind]
  unfold eqlV at he
  split at he <;> try (simp at he; done)
  · rename_i e hu
    split at he <;> try (simp at he; done)
    · rename_i b2
      simp only [Option.some.injEq] at he
      subst he
      rw [ru hu]
      cases hx
      cases hy <;> rfl
    · simp only [Option.some.injEq] at he
      subst he
      rw [ru hu]
      cases hy
      cases hx <;> rfl
    · rename_i a1 a2
      split at he <;> try (simp at he; done)
      rename_i sz hsz
      split at he <;> try (simp at he; done)
      rename_i xs n k xs' n' k' hg1 hg2
      obtain ⟨l, hm, c, el, fr, hc⟩ := hr.cells hwf hN hg1
      obtain ⟨l', hm', c', el', fr', hc'⟩ := hr.cells hwf hN hg2
      obtain ⟨o1, hp1⟩ : ∃ o1, a1 = ⟨a1.block, o1, none⟩ ∧ x' = .pointer (some ⟨l.cb, l.sh + o1, none⟩) := by
        cases hx with
        | ptr b off l2 h2 => simp only at hm; rw [hm] at h2; cases h2; exact ⟨off, rfl, rfl⟩
        | ptrDead _ _ h2 => rw [hm] at h2; cases h2
      obtain ⟨o2, hp2⟩ : ∃ o2, a2 = ⟨a2.block, o2, none⟩ ∧ y' = .pointer (some ⟨l'.cb, l'.sh + o2, none⟩) := by
        cases hy with
        | ptr b off l2 h2 => simp only at hm'; rw [hm'] at h2; cases h2; exact ⟨off, rfl, rfl⟩
        | ptrDead _ _ h2 => rw [hm'] at h2; cases h2
      obtain ⟨hp1, rfl⟩ := hp1
      obtain ⟨hp2, rfl⟩ := hp2
      have hs' : (sizeOf e).run P w = .ok (sz + 1) w := rs' hsz w
      rw [ru hu]
      simp only [Result.andThen_ok, Sem.run_bind, hs']
      rw [if_pos (by simp)]
      by_cases hbb : a1.block = a2.block
      · rw [if_pos hbb] at he
        simp only [Option.some.injEq] at he
        subst he
        rw [hbb] at hm
        rw [hm] at hm'
        cases hm'
        simp only [sameAddr, beq_self_eq_true, if_true, Sem.run_pure]
        congr 1
        rw [hp1, hp2, hbb, Bool.eq_iff_iff]
        simp
      · rw [if_neg hbb] at he
        split at he <;> try (simp at he; done)
        rename_i hfm
        simp only [Bool.and_eq_true] at hfm
        simp only [Option.some.injEq] at he
        subst he
        have hro1 : roB (mix h N F a1.block) = false := by
          rw [mix_lt h F (lt_of_get hwf hN hg1), hg1]
          have := hfm.1
          cases k <;> first | rfl | (simp [firm] at this)
        have hf1 := firm_free hc.kind hfm.1
        have hf2 := firm_free hc'.kind hfm.2
        subst hf1; subst hf2
        have hne : l.cb ≠ l'.cb := fun e => hbb (hr.inj _ _ _ _ hm hm' e hro1)
        have hne' : (l.cb == l'.cb) = false := by simpa using hne
        have z1 : ∀ o, w.frozen? ⟨l.cb, o, none⟩ = false := fun o => by rw [frozen_at hc.heap]; simp
        have z2 : ∀ o, w.frozen? ⟨l'.cb, o, none⟩ = false := fun o => by rw [frozen_at hc'.heap]; simp
        have z3 : w.shape? l.cb = some (el, c.size) := by simp [World.shape?, hc.heap]
        have z4 : w.shape? l'.cb = some (el', c'.size) := by simp [World.shape?, hc'.heap]
        simp [sameAddr, hne', z1, z2, noView, viewAt, z3, z4, mayBeOne, stringish]
  · rename_i hu
    split at he <;> try (simp at he; done)
    simp only [Option.some.injEq] at he
    subst he
    rw [ru hu]
    cases hx; cases hy
    rfl
  · rename_i e hu
    split at he <;> try (simp at he; done)
    · simp only [Option.some.injEq] at he
      subst he
      rw [ru hu]
      cases hx
      cases hy <;> rfl
    · simp only [Option.some.injEq] at he
      subst he
      rw [ru hu]
      cases hy
      cases hx <;> rfl
  · rename_i kt et hu
    split at he <;> try (simp at he; done)
    · simp only [Option.some.injEq] at he
      subst he
      rw [ru hu]
      cases hx
      cases hy <;> rfl
    · simp only [Option.some.injEq] at he
      subst he
      rw [ru hu]
      cases hy
      cases hx <;> rfl
  · rename_i ps rs' vv hu
    split at he <;> try (simp at he; done)
    all_goals
      simp only [Option.some.injEq] at he
      subst he
      rw [ru hu]
      cases hx; cases hy
      rfl
  · rename_i ms hu
    split at he <;> try (simp at he; done)
    all_goals
      simp only [Option.some.injEq] at he
      subst he
      rw [ru hu]
      cases hx; cases hy
      rfl
theorem eql_run {t : TypeId} {x x' y y' : Value} {b : Bool} (hr : HRel m (mix h N F) w) (hwf : HWf h) (hN : h.nx ≤ N) (hx : VRel m x x') (hy : VRel m y y') (he : eqlV P t x y h.get = some b) :
    (Op.equal t x' y').run P w = .ok b w := eqlIn_run (d := 9999) hr hwf hN hx hy he
theorem part_one {e : TypeId} {de : TypeDesc} (hde : P.underlying e = some de) (hag : aggB (some de) = false) {cs : Array Value} {i : Nat} {v : Value} (h : cs[i]? = some v) (w : World) : (part e cs i).run P w = .ok v w := by
  simp only [part, Sem.run_bind, ra hde, hag, Result.andThen_ok]
  simp [h]
theorem eqCells_run {d : Nat} {e : TypeId} {de : TypeDesc} (hr : HRel m (mix h N F) w) (hwf : HWf h) (hN : h.nx ≤ N) (hde : P.underlying e = some de) (hag : aggB (some de) = false) {xs ys : Array Value} : ∀ (l s l' s' : List Value) (k : Nat) (b : Bool), VRels m l l' → VRels m s s' → eqCells P e h.get l s = some b →
    (∀ i, i < l.length → xs[k + i]? = l'[i]?) → (∀ i, i < l.length → ys[k + i]? = s'[i]?) → ∀ r0 : Option Bool × Unit, r0 = (none, ()) →
    (forIn (List.range' k l.length) r0 (fun i _ => (do
      let a ← part e xs (i * 1)
      let b ← part e ys (i * 1)
      let c ← Op.equalIn (d + 1) e a b
      if (!c) = true then pure (ForInStep.done (some false, ())) else pure (ForInStep.yield (none, ())) : Sem (ForInStep (Option Bool × Unit))))).run P w = .ok (if b then (none, ()) else (some false, ())) w := by
  intro l
  induction l with
  | nil =>
    intro s l' s' k b h1 h2 he hx hy r0 hr0
    cases h1
    cases h2 with
    | nil =>
      simp only [eqCells, Option.some.injEq] at he
      subst he; subst hr0
      simp
    | cons => simp [eqCells] at he
  | cons v l ih =>
    intro s l' s' k b h1 h2 he hx hy r0 hr0
    cases h1 with
    | cons _ v' _ l2 hv hl =>
    cases h2 with
    | nil => simp [eqCells] at he
    | cons u u' s s2 hu hs =>
      rw [eqCells] at he
      have e1 : xs[k]? = some v' := by have := hx 0 (by simp); simpa using this
      have e2 : ys[k]? = some u' := by have := hy 0 (by simp); simpa using this
      rw [List.length_cons, List.range'_succ, List.forIn_cons]
      simp only [Nat.mul_one, Sem.run_bind, part_one hde hag e1, part_one hde hag e2, Result.andThen_ok]
      split at he
      · rename_i hq
        rw [eqlIn_run hr hwf hN hv hu hq]
        simp only [Result.andThen_ok, Bool.not_true, Bool.false_eq_true, if_false, Sem.run_pure]
        have := ih s l2 s2 (k + 1) b hl hs he (fun i hi => by have := hx (i + 1) (by simp; omega); rw [show k + 1 + i = k + (i + 1) by omega]; simpa using this) (fun i hi => by have := hy (i + 1) (by simp; omega); rw [show k + 1 + i = k + (i + 1) by omega]; simpa using this) (none, ()) rfl
        simpa only [Nat.mul_one] using this
      · rename_i hq
        simp only [Option.some.injEq] at he
        subst he
        rw [eqlIn_run hr hwf hN hv hu hq]
        simp
      · simp at he
theorem eqArr_run {t : TypeId} {a b a' b' : Array Value} {r : Bool} (hr : HRel m (mix h N F) w) (hwf : HWf h) (hN : h.nx ≤ N) (ha : VRels m a.toList a'.toList) (hb : VRels m b.toList b'.toList) (he : eqArr P t a b h.get = some r) :
    (Op.equal t (.agg a') (.agg b')).run P w = .ok r w ∧ P.eqGuardType P.depth t = false := by
  unfold eqArr at he
  split at he <;> try (simp at he; done)
  rename_i len e hu
  split at he <;> try (simp at he; done)
  rename_i de hde hsz
  split at he <;> try (simp at he; done)
  rename_i hc
  simp only [Bool.or_eq_true, Bool.not_eq_true', not_or, Bool.not_eq_true, Bool.not_eq_false] at hc
  obtain ⟨⟨⟨c1, c2⟩, c3⟩, c4⟩ := hc
  refine ⟨?_, c2⟩
  have c3 := Nat.eq_of_beq_eq_true c3
  show (Op.equalIn (9998 + 1 + 1) t (.agg a') (.agg b')).run P w = _
  rw [Op.equalIn, Sem.run_bind, ru hu]
  simp only [Result.andThen_ok, Std.Legacy.Range.forIn_eq_forIn_range', Std.Legacy.Range.size, Nat.sub_zero, Nat.add_one_sub_one, Nat.div_one]
  rw [Sem.run_bind, rs' hsz]
  simp only [Result.andThen_ok]
  rw [Sem.run_bind, ← c3]
  have key := eqCells_run (d := 9998) hr hwf hN hde c1 (xs := a') (ys := b') a.toList b.toList a'.toList b'.toList 0 r ha hb he (fun i _ => by rw [Nat.zero_add, Array.getElem?_toList]) (fun i _ => by rw [Nat.zero_add, Array.getElem?_toList]) (none, ()) rfl
  rw [key]
  cases r <;> rfl
end Go.AM
