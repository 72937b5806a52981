/- What any operation does that calls nothing. -/
import Derived.Test.YtkkdpbicppdglaaGreatDoorAmEff7
namespace Go.AM
variable {P : Program} {m : Mp} {h : Heap} {N : Nat} {F : Nat → Option Blk} {w : World}

/-- a write that changes nothing. -/
theorem same_rel {b : Nat} {l : Loc} {xs : Trie Value} {n : Nat} {k : Kind} {c : Array Value} {el : TypeId} {fr : Nat × Nat} {v : Value} {off : Nat} (hr : HRel m (mix h N F) w) (hbN : b < N) (hm : m b = .live l) (hrw : l.rw = true) (hc : AtCells m w xs n k l c el fr) :
    HRel m (mix (h.apply ⟨v, [(b, .cells (storeL xs off []) n k)], []⟩) N F) w ∧ Step m w m w := by
  have hbr : BRel m w (.live l) (some (.cells (storeL xs off []) n k)) := ⟨hc.asz, c, el, fr, hc.heap, hc.csz, hc.fit, hc.kind, hc.cell⟩
  have key := hr.upd (w' := w) hm hrw rfl rfl rfl (fun _ _ => rfl) hbr
  refine ⟨?_, key.2⟩
  show HRel m (mix ⟨h.t.set b _, h.nx⟩ N F) w
  rw [mix_set h N F _ h.nx hbN]
  exact key.1

theorem copy_does {args : Array TypeId} {t0 : TypeId} {d d' s s' : Value} {f : Eff} (hr : HRel m (mix h N F) w) (hwf : HWf h) (hN : h.nx ≤ N) (hd : VRel m d d') (hs : VRel m s s')
    (he : aCopy P args d s h.get = some f) : DoesV P (Builtin.copy_ args t0 #[d', s']) f h N F m w := by
  unfold aCopy at he
  split at he <;> try (simp at he; done)
  rename_i dt rest hargs
  have h0 : args[0]? = some dt := by rw [← Array.getElem?_toList, hargs]; rfl
  split at he <;> try (simp at he; done)
  rename_i elem base dLen dCap hu
  split at he <;> try (simp at he; done)
  rename_i size sl hsz hl
  split at he <;> try (simp at he; done)
  rename_i cells hf
  obtain ⟨ca, c1, c2, c3, c4⟩ := first_run (P := P) hr hwf hN hs hl (Nat.min_le_left _ _) hf
  have hlen := len_run (P := P) (w := w) hs hl
  have run : ∀ {base' : Option Addr} {cap' : Nat} {w' : World}, d' = .slice base' dLen cap' → (match base' with
      | none => w' = w
      | some a => (storeCells a ca.toList).run P w = .ok () w') → (Builtin.copy_ args t0 #[d', s']).run P w = .ok (goInt (Nat.min sl dLen)) w' := by
    intro base' cap' w' hd2 hst
    subst hd2
    simp only [Builtin.copy_, h0, List.getElem?_toArray, List.getElem?_cons_zero, List.getElem?_cons_succ, Sem.run_bind, ru hu, Result.andThen_ok, hlen, rs' hsz, c1]
    cases base' with
    | none => simp only at hst; subst hst; simp
    | some a => simp only at hst; simp [hst]
  cases base with
  | none =>
    simp only at he
    split at he <;> try (simp at he; done)
    simp only [AM.ret, Option.some.injEq] at he
    subst he
    cases hd
    exact DoesV.ret hr (run rfl rfl) (.int _ _)
  | some ad =>
    obtain ⟨b, off, sp⟩ := ad
    cases sp with
    | some q => simp at he
    | none =>
      simp only at he
      split at he <;> try (simp at he; done)
      rename_i xs mm k hg
      obtain ⟨l, hm, c, el, fr, hc⟩ := hr.cells hwf hN hg
      split at he <;> try (simp at he; done)
      rename_i hk
      split at he <;> try (simp at he; done)
      rename_i hle
      simp only [Option.some.injEq] at he
      subst he
      have hk' : k ≠ .ro := fun e => hk e
      rcases slice_live hd hm with ⟨cap2, hd2, hsr⟩ | ⟨z1, z2, z3, a2, hd2⟩
      · obtain ⟨r1, r2⟩ := wr_rel (v := .int .i64 (Nat.min sl dLen)) hr (lt_of_get hwf hN hg) hm (hc.kind.free hk').1 (wr_cells hc hle c2 c3)
        exact ⟨_, m, _, run hd2 (run_wr (P := P) hc hk' hle c2 c3), .int _ _, r1, r2⟩
      · subst z1
        have hn0 : Nat.min sl 0 = 0 := Nat.min_eq_right (Nat.zero_le _)
        have hcl : cells = [] := List.eq_nil_of_length_eq_zero (by rw [c4]; show Nat.min sl 0 * size = 0; rw [hn0, Nat.zero_mul])
        subst hcl
        have hca : ca = #[] := by have := c2.length; simpa using this
        subst hca
        obtain ⟨r1, r2⟩ := same_rel (v := .int .i64 (Nat.min sl 0)) (off := off) hr (lt_of_get hwf hN hg) hm (hc.kind.free hk').1 hc
        exact ⟨w, m, _, run hd2 (by simp [storeCells]), .int _ _, r1, r2⟩

theorem clear_does {args : Array TypeId} {t0 : TypeId} {x x' : Value} {f : Eff} (hr : HRel m (mix h N F) w) (hwf : HWf h) (hN : h.nx ≤ N) (hx : VRel m x x')
    (he : aClear P args x h.get = some f) : DoesV P (Builtin.clear_ args t0 #[x']) f h N F m w := by
  unfold aClear at he
  split at he <;> try (simp at he; done)
  rename_i t rest hargs
  have h0 : args[0]? = some t := by rw [← Array.getElem?_toList, hargs]; rfl
  split at he <;> try (simp at he; done)
  · rename_i kt et hu
    simp only [AM.ret, Option.some.injEq] at he
    subst he
    cases hx
    exact DoesV.ret hr (v' := undef) (by simp [Builtin.clear_, h0, ru hu, undef]) VRel.undef
  · rename_i kt et r hu
    split at he <;> try (simp at he; done)
    rename_i es clk hg
    simp only [Option.some.injEq] at he
    subst he
    obtain ⟨l, hm, hrw, ces, q1, q2⟩ := hr.map hwf hN hg
    have := map_live hx hm
    subst this
    have hlt : l.cb < w.heap.size := hr.lt hm
    have hb : BRel m { w with heap := w.heap.setIfInBounds l.cb (.map #[] clk) } (.live l) (some (.map [] clk)) := ⟨hrw, #[], by simp [hlt], trivial⟩
    obtain ⟨r1, r2⟩ := wr_rel (v := undef) hr (lt_of_get hwf hN hg) hm hrw hb
    exact ⟨_, m, undef, by simp [Builtin.clear_, h0, ru hu, getObj, Sem.run, q1, setObj, undef], VRel.undef, r1, r2⟩
  · rename_i et n c hu
    simp only [AM.ret, Option.some.injEq] at he
    subst he
    cases hx
    exact DoesV.ret hr (v' := undef) (by simp [Builtin.clear_, h0, ru hu, undef]) VRel.undef
  · rename_i elem b off n c hu
    split at he
    · rename_i hn0
      simp only [AM.ret, Option.some.injEq] at he
      subst he
      subst hn0
      cases hx <;> exact DoesV.ret hr (v' := undef) (by simp [Builtin.clear_, h0, ru hu, undef]) VRel.undef
    · rename_i hn0
      split at he <;> try (simp at he; done)
      rename_i z xs mm k hz hg
      obtain ⟨l, hm, ca, el, fr, hc⟩ := hr.cells hwf hN hg
      split at he <;> try (simp at he; done)
      rename_i hk
      split at he <;> try (simp at he; done)
      rename_i hle
      simp only [Option.some.injEq] at he
      subst he
      have hk' : k ≠ .ro := fun e => hk e
      obtain ⟨zv, g1, g2, g3⟩ := zeroL_spec hz
      have hzn : z.length = zv.cells.size := by rw [← g2, Array.length_toList]
      obtain ⟨z1, z2⟩ := zeros_rel (m := m) zv.cells g2 g3 n (n * zv.cells.size) (by rw [hzn])
      rcases slice_live hx hm with ⟨cap2, hx2, hsr⟩ | ⟨y1, y2, y3, a2, hx2⟩
      · subst hx2
        have hle' : off + (repeatL z n).length ≤ mm := by rw [length_repeatL]; exact hle
        have hrun := run_wr (P := P) hc hk' hle' z1 z2
        obtain ⟨r1, r2⟩ := wr_rel (v := undef) hr (lt_of_get hwf hN hg) hm (hc.kind.free hk').1 (wr_cells hc hle' z1 z2)
        refine ⟨_, m, undef, ?_, VRel.undef, r1, r2⟩
        obtain ⟨n', rfl⟩ : ∃ n', n = n' + 1 := ⟨n - 1, by omega⟩
        simp only [Builtin.clear_, h0, List.getElem?_toArray, List.getElem?_cons_zero, Sem.run_bind, ru hu, Result.andThen_ok, rz g1, Builtin.zeroCells, hrun, Sem.run_pure]
        rfl
      · omega

theorem VRels.map {ρ ρ' : Operand → Value} {l : List Operand} (hl : ∀ x ∈ l, VRel m (ρ x) (ρ' x)) : VRels m (l.map ρ) (l.map ρ') := by
  induction l with
  | nil => exact .nil
  | cons x r ih => exact .cons _ _ _ _ (hl x (by simp)) (ih fun y hy => hl y (by simp [hy]))
theorem plainCell_eq {v v' : Value} (hp : plainCell v = true) (hv : VRel m v v') : v' = v := by
  cases hv <;> first | rfl | (simp [plainCell] at hp)
theorem plainCells_eq {l l' : List Value} (hp : l.all plainCell = true) (hv : VRels m l l') : l' = l := by
  induction l generalizing l' with
  | nil => cases hv; rfl
  | cons x r ih =>
    cases hv with
    | cons _ x' _ r' h1 h2 =>
      simp only [List.all_cons, Bool.and_eq_true] at hp
      rw [plainCell_eq hp.1 h1, ih hp.2 h2]
theorem plainV_eq {v v' : Value} (hp : plainV v = true) (hv : VRel m v v') : v' = v := by
  cases hv with
  | agg c c' h1 h2 =>
    have := plainCells_eq (l := c.toList) hp h2
    rw [Array.toList_inj.1 this]
  | tuple c c' h2 =>
    have hc : c.toList = [] := by simpa [plainV] using hp
    rw [hc] at h2
    cases c with | mk l => cases c' with | mk l' => simp only at hc h2; subst hc; cases h2; rfl
  | bool b => rfl
  | int k n => rfl
  | string s => rfl
  | ptrNil => rfl
  | sliceNil n c => rfl
  | mapNil => rfl
  | nilFunc => rfl
  | nilIface => rfl
  | _ => simp [plainV, plainCell] at hp

theorem minGo_run {k : IntKind} : ∀ (l l' : List Value) (a : Int) (v : Value), VRels m l l' → minI.go k a l = some v → (l'.foldlM Builtin.min2 (.int k a)).run P w = .ok v w ∧ VRel m v v := by
  intro l
  induction l with
  | nil => intro l' a v hl he; cases hl; simp only [minI.go, Option.some.injEq] at he; subst he; exact ⟨by simp, .int _ _⟩
  | cons x r ih =>
    intro l' a v hl he
    cases hl with
    | cons _ x' _ r' hx hr =>
      cases hx <;> try (simp [minI.go] at he; done)
      simp only [minI.go, ltI_eq, Bool.cond_decide] at he
      obtain ⟨q1, q2⟩ := ih r' _ v hr he
      refine ⟨?_, q2⟩
      simp only [List.foldlM_cons, Builtin.min2, pure_bind]
      exact q1
theorem maxGo_run {k : IntKind} : ∀ (l l' : List Value) (a : Int) (v : Value), VRels m l l' → maxI.go k a l = some v → (l'.foldlM Builtin.max2 (.int k a)).run P w = .ok v w ∧ VRel m v v := by
  intro l
  induction l with
  | nil => intro l' a v hl he; cases hl; simp only [maxI.go, Option.some.injEq] at he; subst he; exact ⟨by simp, .int _ _⟩
  | cons x r ih =>
    intro l' a v hl he
    cases hl with
    | cons _ x' _ r' hx hr =>
      cases hx <;> try (simp [maxI.go] at he; done)
      simp only [maxI.go, ltI_eq, Bool.cond_decide] at he
      obtain ⟨q1, q2⟩ := ih r' _ v hr he
      refine ⟨?_, q2⟩
      simp only [List.foldlM_cons, Builtin.max2, pure_bind]
      exact q1

theorem builtin_does {b : Builtin} {at_ : Array TypeId} {t0 : TypeId} {cs : Array Bool} {args args' : List Value} {f : Eff} (hr : HRel m (mix h N F) w) (hwf : HWf h) (hN : (h.apply f).nx ≤ N) (hN0 : h.nx ≤ N) (ha : VRels m args args')
    (he : builtinEff P b at_ args h.get h.nx = some f) : Does P (Go.builtin b at_ t0 cs args'.toArray) f h N F m w := by
  cases b <;> simp only [builtinEff, reduceCtorEq] at he
  case append =>
    split at he <;> try (simp at he; done)
    cases ha with | cons _ _ _ _ hs ha => cases ha with | cons _ _ _ _ hx ha => cases ha; exact (append_does hr hwf hN hN0 hs hx he).does
  case copy =>
    split at he <;> try (simp at he; done)
    cases ha with | cons _ _ _ _ hs ha => cases ha with | cons _ _ _ _ hx ha => cases ha; exact (copy_does hr hwf hN0 hs hx he).does
  case clear =>
    split at he <;> try (simp at he; done)
    cases ha with | cons _ _ _ _ hs ha => cases ha; exact (clear_does hr hwf hN0 hs he).does
  case delete =>
    split at he <;> try (simp at he; done)
    cases ha with | cons _ _ _ _ hs ha => cases ha with | cons _ _ _ _ hx ha => cases ha; exact (delete_does hr hwf hN0 hs hx he).does
  case len =>
    split at he <;> try (simp at he; done)
    cases ha with | cons _ _ _ _ hs ha => cases ha; exact (len_does hr hwf hN0 hs he).does
  case min =>
    split at he
    · rename_i v hv
      simp only [AM.ret, Option.some.injEq] at he
      subst he
      refine DoesV.does (s := Builtin.min_ at_ t0 args'.toArray) ?_
      cases ha with
      | nil => simp [minI] at hv
      | cons x x' r r' hx hrr =>
        cases hx <;> try (simp [minI] at hv; done)
        simp only [minI] at hv
        obtain ⟨q1, q2⟩ := minGo_run (P := P) (w := w) r r' _ v hrr hv
        exact DoesV.ret hr (by simpa only [Builtin.min_] using q1) q2
    · refine DoesV.does (s := Builtin.min_ at_ t0 args'.toArray) ?_
      obtain ⟨r, hr1, hr2⟩ := Option.bind_eq_some_iff.1 he
      simp only [AM.ret, Option.some.injEq] at hr2
      subst hr2
      unfold mmOf at hr1
      split at hr1 <;> try (simp at hr1; done)
      · rename_i i k b
        cases ha with
        | cons _ x' _ r' hx hrr =>
        cases hrr with
        | cons _ y' _ r2 hy hr3 =>
        cases hr3
        cases hy
        cases hx with
        | sym _ k1 n h1 =>
        obtain ⟨e, h2⟩ := (tok_facts hr hwf hN0 h1 _ (findMM_ok hr1)).1
        subst e
        exact DoesV.ret hr (by simp [Builtin.min_, Builtin.min2]) h2
      · rename_i k b i _
        cases ha with
        | cons _ x' _ r' hx hrr =>
        cases hrr with
        | cons _ y' _ r2 hy hr3 =>
        cases hr3
        cases hx
        cases hy with
        | sym _ k1 n h1 =>
        obtain ⟨e, h2⟩ := (tok_facts hr hwf hN0 h1 _ (findMM_ok hr1)).1
        subst e
        refine DoesV.ret hr (v' := .int k (if n < b then n else b)) (by simp [Builtin.min_, Builtin.min2]) ?_
        have e : (if n < b then n else b) = (if b < n then b else n) := by split <;> split <;> omega
        rw [e]
        exact h2

  case max =>
    split at he
    · rename_i v hv
      simp only [AM.ret, Option.some.injEq] at he
      subst he
      refine DoesV.does (s := Builtin.max_ at_ t0 args'.toArray) ?_
      cases ha with
      | nil => simp [maxI] at hv
      | cons x x' r r' hx hrr =>
        cases hx <;> try (simp [maxI] at hv; done)
        simp only [maxI] at hv
        obtain ⟨q1, q2⟩ := maxGo_run (P := P) (w := w) r r' _ v hrr hv
        exact DoesV.ret hr (by simpa only [Builtin.max_] using q1) q2
    · refine DoesV.does (s := Builtin.max_ at_ t0 args'.toArray) ?_
      obtain ⟨r, hr1, hr2⟩ := Option.bind_eq_some_iff.1 he
      simp only [AM.ret, Option.some.injEq] at hr2
      subst hr2
      unfold mmOf at hr1
      split at hr1 <;> try (simp at hr1; done)
      · rename_i i k b
        cases ha with
        | cons _ x' _ r' hx hrr =>
        cases hrr with
        | cons _ y' _ r2 hy hr3 =>
        cases hr3
        cases hy
        cases hx with
        | sym _ k1 n h1 =>
        obtain ⟨e, h2⟩ := (tok_facts hr hwf hN0 h1 _ (findMM_ok hr1)).1
        subst e
        exact DoesV.ret hr (by simp [Builtin.max_, Builtin.max2]) h2
      · rename_i k b i _
        cases ha with
        | cons _ x' _ r' hx hrr =>
        cases hrr with
        | cons _ y' _ r2 hy hr3 =>
        cases hr3
        cases hx
        cases hy with
        | sym _ k1 n h1 =>
        obtain ⟨e, h2⟩ := (tok_facts hr hwf hN0 h1 _ (findMM_ok hr1)).1
        subst e
        refine DoesV.ret hr (v' := .int k (if n > b then n else b)) (by simp [Builtin.max_, Builtin.max2]) ?_
        have e : (if n > b then n else b) = (if b > n then b else n) := by split <;> split <;> omega
        rw [e]
        exact h2

theorem guard_run {op : BinOp} {t : TypeId} {x y : Operand} {a b : Value} (h1 : ¬ (a = .nilIface ∧ b = .nilIface)) (h2 : ∀ c d, ¬ (a = .agg c ∧ b = .agg d)) : (eqGuard op t x y a b).run P w = .ok () w := by
  unfold eqGuard
  by_cases ho : (match op with | .eql | .neq => true | _ => false) = true
  · cases op <;> simp at ho
    all_goals
      simp only [Bool.not_true, Bool.false_eq_true, if_false]
      split
      · exact absurd ⟨rfl, rfl⟩ h1
      · exact absurd ⟨rfl, rfl⟩ (h2 _ _)
      · simp
  · cases op <;> simp at ho <;> simp

theorem binV_run {op : BinOp} {k k' : IntKind} {a b : Int} {v : Value} {x y : Operand} (t : TypeId) (hv : binV op k a k' b = some v) : (do eqGuard op t x y (.int k a) (.int k' b); binOp op t (.int k a) (.int k' b)).run P w = .ok v w := by
  have hg : (eqGuard op t x y (.int k a) (.int k' b)).run P w = .ok () w := guard_run (by simp) (by simp)
  rw [Sem.run_bind, hg, Result.andThen_ok]
  unfold binV at hv
  split at hv
  · exact (shiftOp_run (m := fun _ => .fresh) t hv).1
  · exact (shiftOp_run (m := fun _ => .fresh) t hv).1
  · cases hk : Nat.beq (kindN k) (kindN k') with
    | false => rw [hk] at hv; simp at hv
    | true =>
      rw [hk] at hv
      have := kindN_inj hk
      subst this
      exact (intOp_run (m := fun _ => .fresh) t hv).1
theorem agg_does {op : BinOp} {t : TypeId} {x y : Operand} {a b : Array Value} {a' b' : Value} {f : Eff} (hr : HRel m (mix h N F) w) (hwf : HWf h) (hN : h.nx ≤ N) (ha : VRel m (.agg a) a') (hb : VRel m (.agg b) b')
    (he : effBin P op t x y (.agg a) (.agg b) h.get = some f) : DoesV P (do eqGuard op t x y a' b'; binOp op t a' b') f h N F m w := by
  unfold effBin at he
  simp only at he
  split at he
  · rename_i r heq
    cases ha with
    | agg _ a' _ ha' =>
    cases hb with
    | agg _ b' _ hb' =>
    obtain ⟨g1, g2⟩ := eqArr_run hr hwf hN ha' hb' heq
    have hg : ∀ op, (eqGuard op t x y (.agg a') (.agg b')).run P w = .ok () w := by
      intro op
      cases op <;> simp [eqGuard, g2]
    split at he <;> try (simp at he; done)
    · simp only [AM.ret, Option.some.injEq] at he
      subst he
      exact DoesV.ret hr (by rw [Sem.run_bind, hg, Result.andThen_ok]; simp [binOp, g1]) (.bool _)
    · simp only [AM.ret, Option.some.injEq] at he
      subst he
      exact DoesV.ret hr (by rw [Sem.run_bind, hg, Result.andThen_ok]; simp [binOp, g1]) (.bool _)
  · split at he <;> try (simp at he; done)
    rename_i hp
    simp only [Bool.and_eq_true] at hp
    have e1 := plainV_eq hp.1 ha
    have e2 := plainV_eq hp.2 hb
    subst e1; subst e2
    split at he <;> try (simp at he; done)
    rename_i v hv
    split at he <;> try (simp at he; done)
    rename_i hpc
    simp only [AM.ret, Option.some.injEq] at he
    subst he
    exact DoesV.ret hr (evalPure_run hv w) (plainCell_rel hpc).1
theorem bin_does {op : BinOp} {t : TypeId} {x y : Operand} {a a' b b' : Value} {f : Eff} (hr : HRel m (mix h N F) w) (hwf : HWf h) (hN : h.nx ≤ N) (ha : VRel m a a') (hb : VRel m b b')
    (he : effBin P op t x y a b h.get = some f) : DoesV P (do eqGuard op t x y a' b'; binOp op t a' b') f h N F m w := by
  unfold effBin at he
  split at he
  · rename_i k a k' b
    cases ha; cases hb
    have hg : (eqGuard op t x y (.int k a) (.int k' b)).run P w = .ok () w := guard_run (by simp) (by simp)
    have fin : ∀ v, (binOp op t (.int k a) (.int k' b)).run P w = .ok v w ∧ VRel m v v → f = ⟨v, [], []⟩ → DoesV P (do eqGuard op t x y (.int k a) (.int k' b); binOp op t (.int k a) (.int k' b)) f h N F m w := by
      intro v hv hf
      subst hf
      exact DoesV.ret hr (by simp [hg, hv.1]) hv.2
    split at he
    · cases hv : shiftOp .shl k a b with
      | none => simp [hv] at he
      | some v => simp only [hv, Option.bind_some, AM.ret, Option.some.injEq] at he; exact fin v (shiftOp_run t hv) he.symm
    · cases hv : shiftOp .shr k a b with
      | none => simp [hv] at he
      | some v => simp only [hv, Option.bind_some, AM.ret, Option.some.injEq] at he; exact fin v (shiftOp_run t hv) he.symm
    · cases hk : Nat.beq (kindN k) (kindN k') with
      | false => simp [hk] at he
      | true =>
        have := kindN_inj hk
        subst this
        rw [hk] at he
        simp only [cond_true] at he
        cases hv : intOp op k a b with
        | none => simp [hv] at he
        | some v => simp only [hv, Option.bind_some, AM.ret, Option.some.injEq] at he; exact fin v (intOp_run t hv) he.symm
  · rename_i a b
    cases ha; cases hb
    cases hv : strOp op a b with
    | none => simp [hv] at he
    | some v =>
      simp only [hv, Option.bind_some, AM.ret, Option.some.injEq] at he
      subst he
      have hg : (eqGuard op t x y (.string a) (.string b)).run P w = .ok () w := guard_run (by simp) (by simp)
      obtain ⟨q1, q2⟩ := strOp_run (P := P) (m := m) (w := w) t hv
      exact DoesV.ret hr (by simp [hg, q1]) q2
  · cases ha; cases hb
    split at he <;> try (simp at he; done)
    all_goals
      rename_i hcst hu
      simp only [AM.ret, Option.some.injEq] at he
      subst he
      refine DoesV.ret hr ?_ (.bool _)
      rw [Sem.run_bind]
      have hg : ∀ op, (eqGuard op t x y .nilIface .nilIface).run P w = .ok () w := by
        intro op
        cases x <;> cases y <;> simp [effBin.isConst] at hcst <;> cases op <;> simp [eqGuard]
      rw [hg, Result.andThen_ok]
      simp only [binOp, Sem.run_bind]
      have : (Op.equal t .nilIface .nilIface).run P w = .ok true w := by
        show (Op.equalIn (9999 + 1) t .nilIface .nilIface).run P w = _
        rw [Op.equalIn, Sem.run_bind, ru hu]
        rfl
      rw [this]
      rfl
  · rename_i a b
    exact agg_does hr hwf hN ha hb (by unfold effBin; exact he)
  · rename_i i j
    have tok : ∀ (k : IntKind) (n : Int) (v : Bool), (op = .eql ∧ v = true) ∨ (op = .neq ∧ v = false) → f = ⟨.bool v, [], []⟩ → DoesV P (do eqGuard op t x y (.int k n) (.int k n); binOp op t (.int k n) (.int k n)) f h N F m w := by
      intro k n v hv hf
      subst hf
      have hg : (eqGuard op t x y (.int k n) (.int k n)).run P w = .ok () w := guard_run (by simp) (by simp)
      have hv' : intOp op k n n = some (.bool v) := by
        rcases hv with ⟨rfl, rfl⟩ | ⟨rfl, rfl⟩ <;> simp [intOp, eqI_eq]
      exact DoesV.ret hr (by simp [hg, (intOp_run (P := P) (m := m) (w := w) t hv').1]) (.bool _)
    cases ha with
    | sym _ k n h1 =>
    cases hb with
    | sym _ k2 n2 h2 =>
    cases hij : Nat.beq i j with
    | true =>
      rw [hij] at he
      simp only [cond_true] at he
      have := Nat.eq_of_beq_eq_true hij
      subst this
      rw [h1] at h2
      cases h2
      split at he <;> try (simp at he; done)
      · simp only [AM.ret, Option.some.injEq] at he; exact tok k n true (.inl ⟨rfl, rfl⟩) he.symm
      · simp only [AM.ret, Option.some.injEq] at he; exact tok k n false (.inr ⟨rfl, rfl⟩) he.symm
    | false =>
      rw [hij] at he
      simp only [cond_false] at he
      obtain ⟨r, hr1, hr2⟩ := Option.bind_eq_some_iff.1 he
      simp only [AM.ret, Option.some.injEq] at hr2
      subst hr2
      obtain ⟨v, g1, g2⟩ := (tok_facts hr hwf hN h1 _ (findBin_ok hr1)).1 k2 n2 (.inr ⟨j, rfl, h2⟩)
      exact DoesV.ret hr (binV_run t g1) g2
  · rename_i i k b
    cases hb
    cases ha with
    | sym _ k1 n h1 =>
      obtain ⟨r, hr1, hr2⟩ := Option.bind_eq_some_iff.1 he
      simp only [AM.ret, Option.some.injEq] at hr2
      subst hr2
      obtain ⟨v, g1, g2⟩ := (tok_facts hr hwf hN h1 _ (findBin_ok hr1)).1 _ _ (.inl rfl)
      exact DoesV.ret hr (binV_run t g1) g2
  · rename_i k a j
    cases ha
    cases hb with
    | sym _ k1 n h1 =>
      obtain ⟨r, hr1, hr2⟩ := Option.bind_eq_some_iff.1 he
      simp only [AM.ret, Option.some.injEq] at hr2
      subst hr2
      obtain ⟨v, g1, g2⟩ := (tok_facts hr hwf hN h1 _ (findNib_ok hr1)).1 _ _ (.inl rfl)
      exact DoesV.ret hr (binV_run t g1) g2
  · rename_i hn1 hn2 hn3 hn4 hn5 hn6 hn7
    have hnc : ((∀ r, a ≠ .chan r) ∧ a ≠ topV) ∧ (∀ r, b ≠ .chan r) ∧ b ≠ topV := by
      have : (eqlV P t a b h.get).isSome = true := by
        split at he
        · cases hq : eqlV P t a b h.get with
          | none => rw [hq] at he; simp at he
          | some q => rfl
        · cases hq : eqlV P t a b h.get with
          | none => rw [hq] at he; simp at he
          | some q => rfl
        · simp at he
      refine ⟨⟨?_, ?_⟩, ?_, ?_⟩
      · rintro r rfl
        unfold eqlV at this
        (repeat' split at this) <;> simp_all
      · rintro rfl
        unfold eqlV at this
        (repeat' split at this) <;> simp_all
      · rintro r rfl
        unfold eqlV at this
        (repeat' split at this) <;> simp_all
      · rintro rfl
        unfold eqlV at this
        (repeat' split at this) <;> simp_all
    have hg : ∀ op, (eqGuard op t x y a' b').run P w = .ok () w := by
      intro op
      refine guard_run ?_ ?_
      · rintro ⟨rfl, rfl⟩
        cases ha <;> cases hb <;> first | exact hn3 rfl rfl | exact absurd rfl (hnc.1.1 _) | exact absurd rfl (hnc.2.1 _) | exact absurd rfl hnc.1.2 | exact absurd rfl hnc.2.2
      · rintro c d ⟨rfl, rfl⟩
        cases ha <;> cases hb <;> first | exact hn4 _ _ rfl rfl | exact absurd rfl (hnc.1.1 _) | exact absurd rfl (hnc.2.1 _) | exact absurd rfl hnc.1.2 | exact absurd rfl hnc.2.2
    have hbo : ∀ r, (Op.equal t a' b').run P w = .ok r w → (binOp .eql t a' b').run P w = .ok (.bool r) w ∧ (binOp .neq t a' b').run P w = .ok (.bool !r) w := by
      intro r hq
      constructor
      · cases ha <;> cases hb <;> first
          | (exfalso; exact hn1 _ _ _ _ rfl rfl)
          | (exfalso; exact hn2 _ _ rfl rfl)
          | exact absurd rfl (hnc.1.1 _)
          | exact absurd rfl (hnc.2.1 _)
          | exact absurd rfl hnc.1.2
          | exact absurd rfl hnc.2.2
          | simp [binOp, hq]
      · cases ha <;> cases hb <;> first
          | (exfalso; exact hn1 _ _ _ _ rfl rfl)
          | (exfalso; exact hn2 _ _ rfl rfl)
          | exact absurd rfl (hnc.1.1 _)
          | exact absurd rfl (hnc.2.1 _)
          | exact absurd rfl hnc.1.2
          | exact absurd rfl hnc.2.2
          | simp [binOp, hq]
    split at he <;> try (simp at he; done)
    · cases hq : eqlV P t a b h.get with
      | none => simp [hq] at he
      | some r =>
        simp only [hq, Option.bind_some, AM.ret, Option.some.injEq] at he
        subst he
        exact DoesV.ret hr (by rw [Sem.run_bind, hg, Result.andThen_ok, (hbo r (eql_run hr hwf hN ha hb hq)).1]) (.bool _)
    · cases hq : eqlV P t a b h.get with
      | none => simp [hq] at he
      | some r =>
        simp only [hq, Option.bind_some, AM.ret, Option.some.injEq] at he
        subst he
        exact DoesV.ret hr (by rw [Sem.run_bind, hg, Result.andThen_ok, (hbo r (eql_run hr hwf hN ha hb hq)).2]) (.bool _)

/-- What an operation does that calls nothing. -/
theorem eff_does {o : Oper} {ρ ρ' : Operand → Value} {f : Eff} (hr : HRel m (mix h N F) w) (hwf : HWf h) (hN : (h.apply f).nx ≤ N) (hN0 : h.nx ≤ N) (hρ : ∀ x ∈ o.op.operands.toList, VRel m (ρ x) (ρ' x))
    (he : eff P o.op ρ h.get h.nx = some f) : Does P (execOp ρ' o) f h N F m w := by
  obtain ⟨dst, op, type, pos, after, guard⟩ := o
  simp only at hρ he
  cases op <;> simp only [eff, reduceCtorEq] at he <;> simp only [Op.operands] at hρ
  case move x => simp only [AM.ret, Option.some.injEq] at he; subst he; exact Does.ret hr rfl (hρ x (by simp))
  case assign x => simp only [AM.ret, Option.some.injEq] at he; subst he; exact Does.ret hr rfl (hρ x (by simp))
  case pick c a b => exact pick_does hr (hρ c (by simp)) (hρ a (by simp)) (hρ b (by simp)) he
  case alloc e => exact (alloc_does hr hwf hN he).does
  case box t x => exact (box_does hr hwf hN (hρ x (by simp)) he).does
  case build t ps => exact (build_does hr (fun x hx => hρ x.2 (by simp only [List.mem_map]; exact ⟨x, hx, rfl⟩)) he).does
  case buildSlice t n ps => exact (buildSlice_does hr hwf hN (fun x hx => hρ x.2 (by simp only [List.mem_map]; exact ⟨x, hx, rfl⟩)) he).does
  case insert t mp k x => exact (update_does hr hwf hN0 (hρ mp (by simp)) (hρ k (by simp)) (hρ x (by simp)) he).does
  case load t a => exact (load_does hr hwf hN0 (hρ a (by simp)) he).does
  case store t a x => exact (store_does hr hwf hN0 (hρ a (by simp)) (hρ x (by simp)) he).does
  case nilCheck x => exact nil_does hr (hρ x (by simp)) he _ x rfl ρ' rfl
  case binOp bo t x y yt => exact (bin_does hr hwf hN0 (hρ x (by simp)) (hρ y (by simp)) he).does
  case unOp uo t x => exact (un_does hr (hρ x (by simp)) he).does
  case convert s d x => exact (conv_does hr hwf hN hN0 (hρ x (by simp)) he).does
  case sliceToArrayPointer t x => exact (arrPtr_does hr (hρ x (by simp)) he).does
  case makeInterface t x => exact (iface_does hr (hρ x (by simp)) he).does
  case makeFunc fn first captured =>
    refine (func_does hr ?_ ?_ he).does
    · rw [Array.toList_map, Array.toList_map]; exact VRels.map fun x hx => hρ x (by simp [hx])
    · rw [Array.toList_map, Array.toList_map]; exact VRels.map fun x hx => hρ x (by simp [hx])
  case makeMap t r =>
    refine (makeMap_does hr hwf hN ?_ he).does
    cases r with
    | none => exact .inl ⟨rfl, rfl⟩
    | some x => exact .inr ⟨_, _, rfl, rfl, hρ x (by simp)⟩
  case makeSlice t l c => exact (makeSlice_does hr hwf hN (hρ l (by simp)) (hρ c (by simp)) he).does
  case slice t x lo hi mx =>
    exact (slice_does hr hwf hN0 (hρ x (by simp)) (ORelV.map fun y hy => hρ y (by simp [hy])) (ORelV.map fun y hy => hρ y (by simp [hy])) (ORelV.map fun y hy => hρ y (by simp [hy])) he).does
  case fieldAddr t x i => exact (field_does hr (hρ x (by simp)) he).does
  case field t x i => exact (fieldV_does hr (hρ x (by simp)) he).does
  case indexAddr t x i => exact (idxAddr_does hr (hρ x (by simp)) (hρ i (by simp)) he).does
  case index t x i => exact (index_does hr (hρ x (by simp)) (hρ i (by simp)) he).does
  case lookup t x k ok => exact (lookup_does hr hwf hN0 (hρ x (by simp)) (hρ k (by simp)) he).does
  case mapUpdate t mp k x => exact (update_does hr hwf hN0 (hρ mp (by simp)) (hρ k (by simp)) (hρ x (by simp)) he).does
  case range t x => exact (range_does hr hwf hN (hρ x (by simp)) hN0 he).does
  case next it b => exact (next_does hr hwf hN0 (hρ it (by simp)) he).does
  case typeAssert x t a ok => exact (assert_does hr (hρ x (by simp)) he).does
  case extract t i => exact (extract_does hr (hρ t (by simp)) he).does
  case call c =>
    unfold effCall at he
    split at he <;> try (simp at he; done)
    rename_i b hb
    obtain ⟨callee, args, argTypes⟩ := c
    simp only at hb he hρ
    subst hb
    have ha : VRels m (args.toList.map ρ) (args.toList.map ρ') := VRels.map fun x hx => hρ x (by simp [Call.operands, hx])
    have key := fun cs => builtin_does (t0 := type) (cs := cs) hr hwf hN hN0 ha he
    rw [show (args.toList.map ρ').toArray = args.map ρ' from Array.ext' (by simp)] at key
    simp only [execOp, resolve, Does, Sem.run_bind, Sem.run_pure, Result.andThen_ok, invoke] at key ⊢
    exact key _
end Go.AM
