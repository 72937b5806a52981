/- What append, copy and clear do: all ways. -/
import Derived.Test.YtkkdpbicppdglaaGreatDoorAmEff6
namespace Go.AM
variable {P : Program} {m : Mp} {h : Heap} {N : Nat} {F : Nat → Option Blk} {w : World}

theorem append_does {args : Array TypeId} {t0 : TypeId} {s s' x x' : Value} {f : Eff} (hr : HRel m (mix h N F) w) (hwf : HWf h) (hN : (h.apply f).nx ≤ N) (hN0 : h.nx ≤ N) (hs : VRel m s s') (hx : VRel m x x')
    (he : aAppend P args s x h.get h.nx = some f) : DoesV P (Builtin.append_ args t0 #[s', x']) f h N F m w := by
  unfold aAppend at he
  split at he <;> try (simp at he; done)
  rename_i st xt hargs
  have h0 : args[0]? = some st := by rw [← Array.getElem?_toList, hargs]; rfl
  have h1 : args[1]? = some xt := by rw [← Array.getElem?_toList, hargs]; rfl
  split at he <;> try (simp at he; done)
  rename_i elem d base sLen sCap hni hu hd
  have hni : ∀ k, d ≠ .int k := fun k e => hni k (by rw [e])
  split at he <;> try (simp at he; done)
  rename_i i z n hi hzl hl
  split at he <;> try (simp at he; done)
  rename_i hb
  simp only [gt_iff_lt, not_or, Nat.not_lt] at hb
  obtain ⟨hb, hsz, hzn⟩ := hb
  simp only [ne_eq, Decidable.not_not] at hzn
  obtain ⟨zv, hz, hz2, _⟩ := zeroL_spec hzl
  have hzs : zv.cells.size = i.size := by rw [← hzn, ← hz2, Array.length_toList]
  split at he <;> try (simp at he; done)
  rename_i new hnew
  obtain ⟨na, n1, n2, n3, n4⟩ := first_run (P := P) hr hwf hN0 hx hl (Nat.le_refl _) hnew
  have hlen := len_run (P := P) (w := w) hx hl
  split at he
  · -- there is room
    rename_i hle
    cases base with
    | none =>
      simp only at he
      split at he <;> try (simp at he; done)
      rename_i hn0
      simp only [AM.ret, Option.some.injEq] at he
      subst he
      cases hs
      exact DoesV.ret hr (place_run h0 h1 hu hd hni hi hlen hle n1 (base := none) rfl) (.sliceNil _ _)
    | some ad =>
      obtain ⟨b, off, sp⟩ := ad
      cases sp with
      | some q => simp at he
      | none =>
        simp only at he
        split at he <;> try (simp at he; done)
        rename_i xs mm k hg
        obtain ⟨l, hm, c, el, fr, hc⟩ := hr.cells hwf hN0 hg
        split at he
        · -- read alone: nothing is appended
          split at he <;> try (simp at he; done)
          rename_i hn0
          simp only [AM.ret, Option.some.injEq] at he
          subst he
          subst hn0
          have hna : na = #[] := by
            have := n2.length
            rw [n4, Nat.zero_mul] at this
            simpa using this
          subst hna
          rcases slice_live hs hm with ⟨cap2, hs2, hsr⟩ | ⟨z1, z2, z3, a2, hs2⟩
          · subst hs2
            have hcc : sCap ≤ cap2 := by rcases hsr with r | r <;> omega
            exact DoesV.ret hr (place_run h0 h1 hu hd hni hi hlen (by omega) n1 (base := some _) (w' := w) (by simp [storeCells])) (.slice _ _ _ _ _ l hm hsr)
          · subst hs2; subst z1; subst z2
            exact DoesV.ret hr (place_run h0 h1 hu hd hni hi hlen (by omega) n1 (base := some _) (w' := w) (by simp [storeCells])) (.sliceEnd _ _ _ l hm z3)
        · rename_i hk
          split at he <;> try (simp at he; done)
          rename_i hfit
          simp only [Option.some.injEq] at he
          subst he
          have hk' : k ≠ .ro := fun e => hk e
          have hoff : off + sLen * i.size + new.length ≤ mm := by rw [n4]; rw [Nat.add_mul] at hfit; omega
          rcases slice_live hs hm with ⟨cap2, hs2, hsr⟩ | ⟨z1, z2, z3, a2, hs2⟩
          · subst hs2
            have hcc : sCap ≤ cap2 := by rcases hsr with r | r <;> omega
            have hrun := run_wr (P := P) hc hk' hoff n2 n3
            obtain ⟨r1, r2⟩ := wr_rel (v := .slice (some ⟨b, off, none⟩) (sLen + n) sCap) hr (lt_of_get hwf hN0 hg) hm (hc.kind.free hk').1 (wr_cells hc hoff n2 n3)
            refine ⟨_, m, _, place_run h0 h1 hu hd hni hi hlen (by omega) n1 (base := some _) ?_, .slice _ _ _ _ _ l hm hsr, r1, r2⟩
            simp only [add_at, Nat.add_assoc] at hrun ⊢
            exact hrun
          · subst hs2; subst z1; subst z2
            obtain rfl : n = 0 := by omega
            have hna : na = #[] := by
              have := n2.length
              rw [n4, Nat.zero_mul] at this
              simpa using this
            have hnw : new = [] := List.eq_nil_of_length_eq_zero (by rw [n4, Nat.zero_mul])
            subst hna; subst hnw
            have hbr : BRel m w (.live l) (some (.cells (storeL xs (off + 0 * i.size) []) mm k)) := ⟨hc.asz, c, el, fr, hc.heap, hc.csz, hc.fit, hc.kind, hc.cell⟩
            have key := hr.upd (w' := w) hm (hc.kind.free hk').1 rfl rfl rfl (fun _ _ => rfl) hbr
            refine ⟨w, m, _, place_run h0 h1 hu hd hni hi hlen (by omega) n1 (base := some _) (w' := w) (by simp [storeCells]), .sliceEnd _ _ _ l hm z3, ?_, key.2⟩
            show HRel m (mix ⟨h.t.set b _, h.nx⟩ N F) w
            rw [mix_set h N F _ h.nx (lt_of_get hwf hN0 hg)]
            exact key.1
  · -- a new row
    rename_i hgt
    split at he <;> try (simp at he; done)
    rename_i old hold
    obtain ⟨oa, o1, o2, o3, o4⟩ := first_run (P := P) hr hwf hN0 hs (len := sLen) rfl (Nat.le_refl _) hold
    have hall : (old ++ new).length = (sLen + n) * i.size := by rw [List.length_append, o4, n4, Nat.add_mul]
    have hrel : VRels m (old ++ new) (oa ++ na).toList := by rw [Array.toList_append]; exact o2.append n2
    have hone : (old ++ new).all Value.oneCell' = true := by rw [List.all_append, o3, n3]; rfl
    have hoas : (oa ++ na).size = (sLen + n) * i.size := by have := hrel.length; simp only [Array.length_toList] at this; omega
    have hnk : newKind z elem i.size = .loose i.size ∨ (newKind z elem i.size = .bytes ∧ i.size = 1) ∨ (newKind z elem i.size = .own elem ∧ i.size = 1) := by
      unfold newKind
      cases hnb : notB z with
      | true => exact .inl rfl
      | false =>
        refine .inr (.inr ⟨rfl, ?_⟩)
        rw [← hzn]
        unfold notB at hnb
        split at hnb
        · rfl
        · simp at hnb
    -- the model makes a new row
    have fresh : ∀ {k : Kind} {base' : Option Addr} {cap2 : Nat}, s' = .slice base' sLen cap2 → ¬ sLen + n ≤ cap2 → (k = .loose i.size ∨ (k = .bytes ∧ i.size = 1) ∨ (k = .own elem ∧ i.size = 1)) →
        ∀ {m1 : Mp} {h1' : Heap}, HRel m1 (mix h1' N F) w → HWf h1' → h1'.nx < N → Step m w m1 w → h1'.nx = h.nx →
        ∃ w' m' v', (Builtin.append_ args t0 #[s', x']).run P w = .ok v' w' ∧ VRel m' (.slice (some ⟨h.nx, 0, none⟩) (sLen + n) (sLen + n)) v' ∧
          HRel m' (mix (h1'.apply ⟨.slice (some ⟨h.nx, 0, none⟩) (sLen + n) (sLen + n), [], [.cells (ofList (old ++ new)) (old ++ new).length k]⟩) N F) w' ∧ Step m w m' w' := by
      intro k base' cap2 hs2 hg2 hk m1 h1' hr1 hwf1 hN1 hst hnx
      subst hs2
      obtain ⟨cap, c1, c2⟩ := grow_run (P := P) (w := w) (t0 := t0) (base := base') h0 h1 hu hd hni hi hz hlen hg2 hb hsz (first_heap o1) (first_heap n1)
      let c : Array Value := oa ++ na ++ Builtin.zeroCells zv.cells (cap - (sLen + n))
      have hcsz : c.size = cap * i.size := by
        show (oa ++ na ++ Builtin.zeroCells zv.cells (cap - (sLen + n))).size = _
        rw [Array.size_append, hoas]
        simp only [Builtin.zeroCells, Array.size_map, Array.size_range]
        rw [hzs, ← Nat.add_mul]; congr 1; omega
      have htk : VRels m1 (old ++ new) (c.toList.take (old ++ new).length) := by
        have : c.toList.take (old ++ new).length = (oa ++ na).toList := by
          show (oa ++ na ++ Builtin.zeroCells zv.cells (cap - (sLen + n))).toList.take _ = _
          have hl2 : (old ++ new).length = (oa ++ na).toList.length := hrel.length.symm
          have e1 : (oa ++ na ++ Builtin.zeroCells zv.cells (cap - (sLen + n))).toList = (oa ++ na).toList ++ (Builtin.zeroCells zv.cells (cap - (sLen + n))).toList := Array.toList_append
          rw [hl2, e1, List.take_append_of_le_length (Nat.le_refl _), List.take_length]
        rw [this]; exact hrel.mono hst.ext
      have hle2 : (old ++ new).length ≤ c.size := by rw [hall, hcsz]; exact Nat.mul_le_mul_right _ c1
      obtain ⟨m', e1, e2, e3, e4⟩ := nw_rel (v := .slice (some ⟨h.nx, 0, none⟩) (sLen + n) (sLen + n)) (l := ⟨w.heap.size, 0, i.size, (old ++ new).length, c.size, true⟩) (x := .cells (ofList (old ++ new)) (old ++ new).length k)
        (o := .cells c elem) (w.drawn + 1) hr1 hwf1 hN1 rfl rfl (fun m' he _ => new_cells (k := k) (fr := (0, 0)) hle2 htk hone (by
          rcases hk with rfl | ⟨rfl, hk⟩ | ⟨rfl, hk⟩
          · exact And.intro rfl (And.intro rfl (And.intro rfl (Nat.pos_of_ne_zero hsz)))
          · exact And.intro rfl (And.intro (fun i _ => by simp) hk)
          · exact And.intro rfl (And.intro rfl (And.intro hk (And.intro rfl rfl)))) he)
      refine ⟨_, m', _, c2, ?_, e3, hst.trans e4⟩
      rw [hnx] at e2
      exact .slice h.nx 0 (sLen + n) (sLen + n) cap _ e2 (.inr ⟨(show 0 + (sLen + n) * i.size = (old ++ new).length by omega), (show 0 + 0 + cap * i.size = c.size by omega), Nat.pos_of_ne_zero hsz, c1⟩)
    cases base with
    | none =>
      simp only [Option.some.injEq] at he
      subst he
      cases hs
      obtain ⟨w', m', v', q1, q2, q3, q4⟩ := fresh (k := newKind z elem i.size) rfl hgt hnk hr hwf hN (Step.refl m w) rfl
      exact ⟨w', m', v', q1, q2, q3, q4⟩
    | some ad =>
      obtain ⟨b, off, sp⟩ := ad
      cases sp with
      | some q => simp at he
      | none =>
        simp only at he
        split at he <;> try (simp at he; done)
        rename_i xs mm k hg
        obtain ⟨l, hm, c, el, fr, hc⟩ := hr.cells hwf hN0 hg
        have hasz := hc.asz
        have hfit := hc.fit
        have hcsz := hc.csz
        have hbN := lt_of_get hwf hN0 hg
        split at he <;> try (simp at he; done)
        · -- there may be room
          rename_i hmr
          simp only [Option.some.injEq] at he
          subst he
          have hkk : (k = .loose i.size ∨ (k = .bytes ∧ i.size = 1) ∨ (k = .own elem ∧ i.size = 1 ∧ off = 0)) ∧ off + sCap * i.size = mm := by
            unfold maybeRoom at hmr
            split at hmr
            · rename_i e
              split at hmr <;> try (simp at hmr; done)
              rename_i h6
              split at hmr <;> try (simp at hmr; done)
              rename_i h5
              exact ⟨.inl (by rw [h6]), h5⟩
            · split at hmr <;> try (simp at hmr; done)
              rename_i h6
              split at hmr <;> try (simp at hmr; done)
              rename_i h5
              exact ⟨.inr (.inl ⟨rfl, h6.symm⟩), h5⟩
            · split at hmr <;> try (simp at hmr; done)
              rename_i h6
              split at hmr <;> try (simp at hmr; done)
              rename_i h5
              exact ⟨.inr (.inr ⟨by rw [h6.2.1], h6.1.symm, h6.2.2⟩), h5⟩
            · simp at hmr
            · simp at hmr
            · simp at hmr
          obtain ⟨hkk, hend⟩ := hkk
          have hkro : k ≠ .ro := by rcases hkk with rfl | ⟨rfl, _⟩ | ⟨rfl, _⟩ <;> simp
          have hrw := (hc.kind.free hkro).1
          have hesz : l.esz = i.size := by
            have := hc.kind
            rcases hkk with rfl | ⟨rfl, h6⟩ | ⟨rfl, h6, _⟩
            · exact this.2.2.1
            · rw [h6]; exact this.2.2
            · rw [h6]; exact this.2.2.1
          -- the old block is given up, a new row is made
          have kill : ∀ {base' : Option Addr} {cap2 : Nat}, s' = .slice base' sLen cap2 → ¬ sLen + n ≤ cap2 →
              DoesV P (Builtin.append_ args t0 #[s', x']) ⟨.slice (some ⟨h.nx, 0, none⟩) (sLen + n) (sLen + n), [(b, .dead)], [.cells (ofList (old ++ new)) (old ++ new).length k]⟩ h N F m w := by
            intro base' cap2 hs2 hg2
            obtain ⟨k1, k2⟩ := hr.kill hm hrw
            rw [← mix_set h N F .dead h.nx hbN] at k1
            have hwf1 : HWf ⟨h.t.set b .dead, h.nx⟩ := by
              intro b' hb'
              have hne : b' ≠ b := by
                intro e; subst e
                have := hwf b' hb'
                rw [this] at hg; cases hg
              show (h.t.set b .dead).get b' = none
              rw [Trie.get_set_ne _ _ hne]
              exact hwf b' hb'
            obtain ⟨w', m', v', q1, q2, q3, q4⟩ := fresh (k := k) hs2 hg2 (hkk.imp id (Or.imp id fun q => ⟨q.1, q.2.1⟩)) (h1' := ⟨h.t.set b .dead, h.nx⟩) k1 hwf1 hN k2 rfl
            exact ⟨w', m', v', q1, q2, q3, q4⟩
          rcases slice_live hs hm with ⟨cap2, hs2, hsr⟩ | ⟨z1, z2, z3, a2, hs2⟩
          · by_cases hroom : sLen + n ≤ cap2
            · -- the model has room: in its place
              have halt : l.sh + off + cap2 * i.size = l.csz := by
                rcases hsr with r | ⟨r1, r2, r3, r4⟩
                · omega
                · rw [hesz] at r2; exact r2
              have hmul : (sLen + n) * i.size ≤ cap2 * i.size := Nat.mul_le_mul_right _ hroom
              have hnl := n2.length
              have hna1 : na.toList.all Value.oneCell' = true := by
                rw [List.all_eq_true] at n3 ⊢
                intro v' hv'
                obtain ⟨j, hj⟩ := List.mem_iff_getElem?.1 hv'
                have hjl : j < new.length := by
                  rcases Nat.lt_or_ge j new.length with h' | h'
                  · exact h'
                  · rw [List.getElem?_eq_none (by omega)] at hj; cases hj
                obtain ⟨u', a1, a2⟩ := n2.get (List.getElem?_eq_getElem hjl)
                rw [a1] at hj; cases hj
                exact a2.oneCell (n3 _ (List.getElem_mem hjl))
              have hrun := run_storeCells (P := P) (el := el) (fr := fr) (cb := l.cb) na.toList w (l.sh + off) (sLen * i.size) c hc.heap (by rw [Nat.add_mul] at hmul; omega) hna1 (fun j hj => (hc.kind.free hkro).2 j (by omega))
              have hoa : oa = ((c.toList.drop (l.sh + off)).take (sLen * i.size)).toArray := by
                have hq := run_cells (P := P) hc.heap (show l.sh + off + sLen * i.size ≤ c.size by rw [Nat.add_mul] at hmul; omega)
                subst hs2
                simp only [Builtin.firstCells] at o1
                rw [hq] at o1
                simp only [Result.ok.injEq, and_true] at o1
                exact o1.symm
              have hlt : l.cb < w.heap.size := hr.lt hm
              have hst : (storeCells ((⟨l.cb, l.sh + off, none⟩ : Addr).add (sLen * i.size)) na.toList).run P w = .ok () { w with heap := w.heap.setIfInBounds l.cb (.cells (overA c (l.sh + off + sLen * i.size) na.toList) el fr) } := by
                rw [add_at]
                have := run_storeCells (P := P) (el := el) (fr := fr) (cb := l.cb) na.toList w (l.sh + off + sLen * i.size) 0 c hc.heap (by rw [Nat.add_mul] at hmul; omega) hna1 (fun j hj => (hc.kind.free hkro).2 j (by omega))
                simpa using this
              have hnone : mix h N F h.nx = none := by rw [mix_lt h F (show h.nx < N from hN)]; exact hwf _ (Nat.le_refl _)
              obtain ⟨m', e1, e2, e3, e4⟩ := hr.move (w' := { w with heap := w.heap.setIfInBounds l.cb (.cells (overA c (l.sh + off + sLen * i.size) na.toList) el fr) }) (b2 := h.nx)
                (l2 := ⟨l.cb, l.sh + off, i.size, (old ++ new).length, l.csz, true⟩) (x := .cells (ofList (old ++ new)) (old ++ new).length k) hm hrw hnone rfl rfl (by simp) rfl rfl (fun cb hcb => by simp [Ne.symm hcb])
                (by
                  intro m' he
                  refine ⟨rfl, overA c (l.sh + off + sLen * i.size) na.toList, el, fr, by simp [hlt], by rw [size_overA]; exact hcsz, by rw [hall]; show l.sh + off + _ ≤ l.csz; omega, ?_, ?_⟩
                  · have hk0 := hc.kind
                    rcases hkk with rfl | ⟨rfl, h6⟩ | ⟨rfl, h6, h7⟩
                    · exact And.intro rfl (And.intro hk0.2.1 (And.intro rfl (Nat.pos_of_ne_zero hsz)))
                    · exact And.intro rfl (And.intro hk0.2.1 h6)
                    · exact And.intro rfl (And.intro hk0.2.1 (And.intro h6 (And.intro hk0.2.2.2.1 (show l.sh + off = 0 by have := hk0.2.2.2.2; omega))))
                  · intro j hj
                    obtain ⟨v', a1, a2⟩ := hrel.get (List.getElem?_eq_getElem hj)
                    refine ⟨(old ++ new)[j], v', by rw [get_ofList]; exact List.getElem?_eq_getElem hj, ?_, (List.all_eq_true.1 hone) _ (List.getElem_mem hj), a2.mono he⟩
                    show (overA c (l.sh + off + sLen * i.size) na.toList)[l.sh + off + j]? = some v'
                    rw [get_overA _ _ _ _ (by rw [Nat.add_mul] at hmul; omega)]
                    have hoal : oa.toList.length = sLen * i.size := by have := o2.length; omega
                    rw [Array.toList_append] at a1
                    by_cases hj2 : j < sLen * i.size
                    · rw [if_neg (by omega)]
                      rw [List.getElem?_append_left (by omega), hoa, List.getElem?_take, if_pos hj2, List.getElem?_drop, Array.getElem?_toList] at a1
                      exact a1
                    · have hj3 : j < sLen * i.size + n * i.size := by
                        have := hj
                        rw [hall, Nat.add_mul] at this; exact this
                      rw [if_pos (by omega)]
                      rw [List.getElem?_append_right (by omega), hoal] at a1
                      rw [show l.sh + off + j - (l.sh + off + sLen * i.size) = j - sLen * i.size by omega]
                      exact a1)
              subst hs2
              refine ⟨_, m', _, place_run h0 h1 hu hd hni hi hlen hroom n1 (base := some _) hst, ?_, ?_, e4⟩
              · exact .slice h.nx 0 (sLen + n) (sLen + n) cap2 _ e2 (.inr ⟨(show 0 + (sLen + n) * i.size = (old ++ new).length by omega), (show l.sh + off + 0 + cap2 * i.size = l.csz by omega), Nat.pos_of_ne_zero hsz, hroom⟩)
              · have hh : (h.apply ⟨.slice (some ⟨h.nx, 0, none⟩) (sLen + n) (sLen + n), [(b, .dead)], [.cells (ofList (old ++ new)) (old ++ new).length k]⟩) =
                    ⟨(h.t.set b .dead).set h.nx (.cells (ofList (old ++ new)) (old ++ new).length k), h.nx + 1⟩ := rfl
                rw [hh]
                have hm1 := mix_set ⟨h.t.set b .dead, h.nx⟩ N F (b := h.nx) (.cells (ofList (old ++ new)) (old ++ new).length k) (h.nx + 1) hN
                have hm2 := mix_set h N F .dead h.nx hbN
                rw [hm1, hm2]
                exact e3
            · exact kill hs2 hroom
          · subst z1; subst z2
            exact kill hs2 (by omega)
        · -- there is no room
          rename_i hmr
          simp only [Option.some.injEq] at he
          subst he
          have go : ∀ {base' : Option Addr} {cap2 : Nat}, s' = .slice base' sLen cap2 → ¬ sLen + n ≤ cap2 →
              DoesV P (Builtin.append_ args t0 #[s', x']) ⟨.slice (some ⟨h.nx, 0, none⟩) (sLen + n) (sLen + n), [], [.cells (ofList (old ++ new)) (old ++ new).length (newKind z elem i.size)]⟩ h N F m w := by
            intro base' cap2 hs2 hg2
            obtain ⟨w', m', v', q1, q2, q3, q4⟩ := fresh (k := newKind z elem i.size) hs2 hg2 hnk hr hwf hN (Step.refl m w) rfl
            exact ⟨w', m', v', q1, q2, q3, q4⟩
          rcases slice_live hs hm with ⟨cap2, hs2, hsr⟩ | ⟨z1, z2, z3, a2, hs2⟩
          · have hcc : cap2 = sCap := by
              rcases hsr with r | ⟨r1, r2, r3, r4⟩
              · exact r
              · have hk0 := hc.kind
                unfold maybeRoom at hmr
                split at hmr
                · rename_i e
                  obtain ⟨_, _, k3, _⟩ := hk0
                  split at hmr <;> try (simp at hmr; done)
                  rename_i h6
                  split at hmr <;> try (simp at hmr; done)
                  rename_i h5
                  rw [k3, hasz, h6] at r1
                  exact absurd r1 h5
                · obtain ⟨_, _, k3⟩ := hk0
                  split at hmr <;> try (simp at hmr; done)
                  rename_i h6
                  split at hmr <;> try (simp at hmr; done)
                  rename_i h5
                  rw [k3, hasz, h6] at r1
                  exact absurd r1 h5
                · obtain ⟨_, _, k3, _⟩ := hk0
                  split at hmr <;> try (simp at hmr; done)
                  rename_i h6
                  split at hmr <;> try (simp at hmr; done)
                  rename_i h5
                  rw [k3, hasz, h6.1] at r1
                  exact absurd r1 h5
                · obtain ⟨_, k2, k3, _⟩ := hk0
                  rw [hasz] at r1
                  rw [k2, k3] at r2
                  have : cap2 * l.esz = sCap * l.esz := by omega
                  exact Nat.eq_of_mul_eq_mul_right r3 this
                · obtain ⟨_, k2, k3, _⟩ := hk0
                  rw [hasz] at r1
                  rw [k2, k3] at r2
                  have : cap2 * l.esz = sCap * l.esz := by omega
                  exact Nat.eq_of_mul_eq_mul_right r3 this
                · simp at hmr
            exact go hs2 (by omega)
          · subst z1; subst z2
            exact go hs2 (by omega)
end Go.AM
