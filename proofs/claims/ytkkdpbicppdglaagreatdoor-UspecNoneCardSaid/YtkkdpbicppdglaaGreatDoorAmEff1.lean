/- What each operation does: numbers, texts, cells, memory. -/
import Derived.Test.YtkkdpbicppdglaaGreatDoorAmMem
import Derived.Laws.Strings
import GoSem.Dispatch
namespace Go.AM
variable {P : Program} {m : Mp} {h : Heap} {N : Nat} {F : Nat → Option Blk} {w : World}

theorem ru {t : TypeId} {d : TypeDesc} (h : P.underlying t = some d) (w : World) : (underlying t).run P w = .ok d w := by
  simp [underlying, h]
theorem ri {t : TypeId} {i : TypeInfo} (h : P.info? t = some i) (w : World) : (typeInfo t).run P w = .ok i w := by
  simp [typeInfo, h]
theorem rs {t : TypeId} {i : TypeInfo} (h : P.info? t = some i) (w : World) : (sizeOf t).run P w = .ok i.size w := by
  simp [sizeOf, ri h]
theorem rs' {t : TypeId} {n : Nat} (h : sizeOf? P t = some n) (w : World) : (sizeOf t).run P w = .ok n w := by
  unfold sizeOf? at h
  cases hi : P.info? t with
  | none => simp [hi] at h
  | some i => simp [hi] at h; rw [rs hi, h]
theorem ra {t : TypeId} {d : TypeDesc} (h : P.underlying t = some d) (w : World) : (isAgg t).run P w = .ok (aggB (some d)) w := by
  unfold isAgg
  rw [Sem.run_bind, ru h]
  cases d <;> rfl
theorem zeroV_spec {t : TypeId} {z : Value} (h : zeroV P t = some z) : ∃ i, P.info? t = some i ∧ i.zero = some z ∧ plainV z = true := by
  unfold zeroV at h
  cases hi : P.info? t with
  | none => simp [hi] at h
  | some i =>
    cases hz : i.zero with
    | none => simp [hi, hz] at h
    | some z' =>
      simp only [hi, hz] at h
      by_cases hp : plainV z' = true
      · rw [if_pos hp] at h; cases h; exact ⟨i, rfl, hz, hp⟩
      · rw [if_neg hp] at h; cases h
theorem rz {t : TypeId} {z : Value} (h : zeroV P t = some z) (w : World) : (zeroValue t).run P w = .ok z w := by
  obtain ⟨i, h1, h2, _⟩ := zeroV_spec h
  simp [zeroValue, ri h1, h2]
theorem zeroL_spec {t : TypeId} {l : List Value} (h : zeroL P t = some l) : ∃ z, zeroV P t = some z ∧ z.cells.toList = l ∧ l.all plainCell = true := by
  unfold zeroL at h
  cases hz : zeroV P t with
  | none => simp [hz] at h
  | some z =>
    simp only [hz] at h
    obtain ⟨_, _, _, hp⟩ := zeroV_spec hz
    refine ⟨z, rfl, ?_⟩
    cases z with
    | agg c => simp [cellsOf] at h; subst h; exact ⟨rfl, by simpa [plainV] using hp⟩
    | tuple c => simp [cellsOf] at h
    | _ => simp [cellsOf] at h; subst h; exact ⟨rfl, by simpa [plainV] using hp⟩

/- ## pick, extract, nilCheck -/
theorem pick_does {c a b c' a' b' : Value} {f : Eff} (hr : HRel m (mix h N F) w) (hc : VRel m c c') (ha : VRel m a a') (hb : VRel m b b') (he : effPick c a b = some f) :
    Does P (do pure (.value (if ← asBool c' then a' else b'))) f h N F m w := by
  cases hc <;> simp only [effPick, AM.ret, reduceCtorEq, Option.some.injEq] at he
  subst he
  rename_i t
  cases t
  · exact Does.ret hr (by simp [asBool]) hb
  · exact Does.ret hr (by simp [asBool]) ha
theorem extract_does {t t' : Value} {i : Nat} {f : Eff} (hr : HRel m (mix h N F) w) (ht : VRel m t t') (he : effExtract t i = some f) : DoesV P (Instr.extract t' i) f h N F m w := by
  have hst : t ≠ topV := by
    intro e
    subst e
    simp only [effExtract] at he
    cases i <;> simp [storable] at he
  cases ht <;> simp only [effExtract, reduceCtorEq] at he <;> try (exact absurd rfl hst)
  rename_i c c' hc
  cases hv : c.toList[i]? with
  | none => simp [hv] at he
  | some v =>
    simp only [hv, AM.ret] at he
    split at he <;> simp only [reduceCtorEq, Option.some.injEq] at he
    subst he
    obtain ⟨v', h1, h2⟩ := hc.get hv
    refine DoesV.ret hr ?_ h2
    rw [Array.getElem?_toList] at h1
    simp [Instr.extract, h1]
theorem nil_does {x x' : Value} {f : Eff} (hr : HRel m (mix h N F) w) (hx : VRel m x x') (he : effNil P x = some f) (o : Oper) (y : Operand) (ho : o.op = .nilCheck y) (ρ : Operand → Value) (hy : ρ y = x') :
    Does P (execOp ρ o) f h N F m w := by
  unfold execOp
  simp only [ho, hy]
  cases hx <;> simp only [effNil, AM.ret, reduceCtorEq, Option.some.injEq] at he
  · subst he; exact Does.ret hr rfl (by constructor; assumption)
  · subst he; exact Does.ret hr rfl (by constructor; assumption)
  · rename_i fn a b a' b' ha hb
    cases fn <;> simp only [reduceCtorEq] at he
    case func f0 =>
      simp only [Option.some.injEq] at he
      subst he; exact Does.ret hr rfl (.func _ _ _ _ _ ha hb)
    case method name =>
      split at he <;> try (simp at he; done)
      rename_i t v r hal
      split at he <;> try (simp at he; done)
      rename_i i hi
      split at he <;> try (simp at he; done)
      rename_i mt hmt
      split at he <;> try (simp at he; done)
      rename_i hpath
      split at he <;> try (simp at he; done)
      rename_i f0 hf0
      simp only [Option.some.injEq] at he
      subst he
      have ha0 := ha
      rw [hal] at ha
      generalize hl' : a'.toList = l' at ha
      cases ha with
      | cons _ v' _ r' hv hr' =>
      cases hv with
      | iface _ _ v2 hv2 =>
        have h0 : a'[0]? = some (.iface t v2) := by rw [← Array.getElem?_toList, hl']; rfl
        have hp : mt.path.toList = [] := by simpa using hpath
        have hfind : i.methods.find? (·.name == name) = some mt := by rw [← Array.find?_toList]; exact hmt
        have hna : (nilAhead (P.types.size + Made.depth) t v2 name).run P w = .ok (some false) w := by
          have hd0 : 0 < Made.depth := by decide
          obtain ⟨k, hk⟩ : ∃ k, P.types.size + Made.depth = k + 1 := Nat.exists_eq_succ_of_ne_zero (by omega)
          rw [hk]
          unfold nilAhead
          simp [ri hi, hfind, hp, followBlind, hf0]
        refine Does.ret hr ?_ (.func _ _ _ _ _ ha0 hb)
        simp only [h0, Sem.run_bind, run_program, Result.andThen_ok, hna]
        rfl
  · subst he; exact Does.ret hr rfl (by constructor <;> assumption)

/- ## numbers -/
theorem ltI_eq (a b : Int) : ltI a b = decide (a < b) := by
  cases a with
  | ofNat a => cases b with
    | ofNat b => simp only [ltI, Int.ofNat_eq_natCast, Int.ofNat_lt]; rw [Bool.eq_iff_iff]; simp [Nat.blt_eq]
    | negSucc b => simp only [ltI]; symm; rw [decide_eq_false_iff_not]; simp only [Int.ofNat_eq_natCast]; omega
  | negSucc a => cases b with
    | ofNat b => simp only [ltI]; symm; rw [decide_eq_true_eq]; simp only [Int.ofNat_eq_natCast]; omega
    | negSucc b => simp only [ltI]; rw [Bool.eq_iff_iff]; simp [Nat.blt_eq]; omega
theorem eqI_eq (a b : Int) : eqI a b = (a == b) := by
  rw [Bool.eq_iff_iff, beq_iff_eq]
  cases a with
  | ofNat a => cases b with
    | ofNat b => simp only [eqI, Int.ofNat_eq_natCast, Int.ofNat_inj]; exact ⟨Nat.eq_of_beq_eq_true, fun e => by rw [e]; exact Nat.beq_refl _⟩
    | negSucc b => simp [eqI]
  | negSucc a => cases b with
    | ofNat b => simp [eqI]
    | negSucc b => simp only [eqI, Int.negSucc_inj]; exact ⟨Nat.eq_of_beq_eq_true, fun e => by rw [e]; exact Nat.beq_refl _⟩
theorem kindN_inj {k k' : IntKind} (h : Nat.beq (kindN k) (kindN k') = true) : k = k' := by
  have := Nat.eq_of_beq_eq_true h
  cases k <;> cases k' <;> first | rfl | (simp [kindN] at this)
theorem wrap_i64 {n : Int} (h0 : 0 ≤ n) (h1 : n ≤ 9223372036854775807) : IntKind.i64.wrap n = n := by
  have e : n % (2 ^ IntKind.i64.bits : Int) = n := Int.emod_eq_of_lt h0 (by show n < 18446744073709551616; omega)
  unfold IntKind.wrap
  simp only [e]
  rw [if_neg]
  intro hc
  rw [Bool.and_eq_true, decide_eq_true_eq] at hc
  have h2 : (9223372036854775808 : Int) ≤ n := hc.2
  omega
theorem wrap_u64 {n : Int} (h0 : 0 ≤ n) (h1 : n ≤ 18446744073709551615) : IntKind.u64.wrap n = n := by
  have e : n % (2 ^ IntKind.u64.bits : Int) = n := Int.emod_eq_of_lt h0 (by show n < 18446744073709551616; omega)
  unfold IntKind.wrap
  simp only [e]
  rw [if_neg]
  intro hc
  rw [Bool.and_eq_true] at hc
  exact absurd hc.1 (by decide)
theorem wrapF_eq (k : IntKind) (n : Int) : wrapF k n = k.wrap n := by
  cases k <;> try rfl
  · cases n with
    | ofNat n =>
      simp only [wrapF]
      cases hb : Nat.ble n 9223372036854775807 with
      | false => rfl
      | true =>
        have := Nat.le_of_ble_eq_true hb
        exact (wrap_i64 (n := Int.ofNat n) (by simp) (by simp only [Int.ofNat_eq_natCast]; omega)).symm
    | negSucc n => rfl
  · cases n with
    | ofNat n =>
      simp only [wrapF]
      cases hb : Nat.ble n 18446744073709551615 with
      | false => rfl
      | true =>
        have := Nat.le_of_ble_eq_true hb
        exact (wrap_u64 (n := Int.ofNat n) (by simp) (by simp only [Int.ofNat_eq_natCast]; omega)).symm
    | negSucc n => rfl

theorem intOp_run {op : BinOp} {k : IntKind} {a b : Int} {v : Value} (t : TypeId) (hv : intOp op k a b = some v) : (binOp op t (.int k a) (.int k b)).run P w = .ok v w ∧ VRel m v v := by
  cases op <;> simp only [intOp, reduceCtorEq, Option.some.injEq] at hv
  case quo =>
    rw [eqI_eq] at hv
    by_cases e : b = 0
    · simp [e] at hv
    · have : (b == 0) = false := by simpa using e
      rw [this] at hv
      simp only [cond_false, Option.some.injEq] at hv
      subst hv
      exact ⟨by simp [binOp, Op.intDiv, e, wrapF_eq], .int _ _⟩
  case rem =>
    rw [eqI_eq] at hv
    by_cases e : b = 0
    · simp [e] at hv
    · have : (b == 0) = false := by simpa using e
      rw [this] at hv
      simp only [cond_false, Option.some.injEq] at hv
      subst hv
      exact ⟨by simp [binOp, Op.intDiv, e], .int _ _⟩
  case and => subst hv; refine ⟨?_, .int _ _⟩; simp only [binOp, ne_eq, not_true_eq_false, if_false]; rfl
  case or => subst hv; refine ⟨?_, .int _ _⟩; simp only [binOp, ne_eq, not_true_eq_false, if_false]; rfl
  case xor => subst hv; refine ⟨?_, .int _ _⟩; simp only [binOp, ne_eq, not_true_eq_false, if_false]; rfl
  case andNot => subst hv; refine ⟨?_, .int _ _⟩; simp only [binOp, ne_eq, not_true_eq_false, if_false]; rfl
  case add => subst hv; refine ⟨?_, .int _ _⟩; simp [binOp, Op.intArith, wrapF_eq]
  case sub => subst hv; refine ⟨?_, .int _ _⟩; simp [binOp, Op.intArith, wrapF_eq]
  case mul => subst hv; refine ⟨?_, .int _ _⟩; simp [binOp, Op.intArith, wrapF_eq]
  all_goals
    subst hv
    refine ⟨?_, .bool _⟩
    simp only [binOp, Op.intCmp, ne_eq, not_true_eq_false, if_false, Sem.run_pure, Result.ok.injEq, Value.bool.injEq, and_true, eqI_eq, ltI_eq]
    try rw [Bool.eq_iff_iff]
    try simp
theorem shiftOp_run {op : BinOp} {k k' : IntKind} {a b : Int} {v : Value} (t : TypeId) (hv : shiftOp op k a b = some v) : (binOp op t (.int k a) (.int k' b)).run P w = .ok v w ∧ VRel m v v := by
  cases b with
  | negSucc b => simp [shiftOp] at hv
  | ofNat b =>
    have hb : ¬ (Int.ofNat b < 0) := by simp
    cases op <;> simp only [shiftOp, reduceCtorEq, Option.some.injEq] at hv <;> subst hv <;> refine ⟨?_, .int _ _⟩ <;>
      simp [binOp, Op.shift, wrapF_eq] <;> omega
theorem strOp_run {op : BinOp} {a b : ByteArray} {v : Value} (t : TypeId) (hv : strOp op a b = some v) : (binOp op t (.string a) (.string b)).run P w = .ok v w ∧ VRel m v v := by
  cases op <;> simp only [strOp, reduceCtorEq, Option.some.injEq] at hv
  case add =>
    by_cases e : a.size + b.size ≤ 2 ^ 40
    · rw [if_pos e] at hv; cases hv
      refine ⟨?_, .string _⟩
      have : ¬ (((a.size + b.size : Nat) : Int) > IntKind.i64.max) := by simp [IntKind.max, IntKind.signed, IntKind.bits]; omega
      simp only [binOp, Op.stringOp, if_neg this, Sem.run_pure]
    · rw [if_neg e] at hv; cases hv
  all_goals subst hv; exact ⟨by simp [binOp, Op.stringOp, ByteArray.toList_eq], .bool _⟩

theorem un_does {op : UnOp} {x x' : Value} {f : Eff} (hr : HRel m (mix h N F) w) (hx : VRel m x x') (he : effUn op x = some f) : DoesV P (Op.unary op x') f h N F m w := by
  cases op <;> cases hx <;> simp only [effUn, AM.ret, reduceCtorEq, Option.some.injEq] at he
  · subst he; exact DoesV.ret hr (by simp [Op.unary, Op.intArith]) (.int _ _)
  · rename_i k n
    simp only [intOp, Option.bind_some, AM.ret, Option.some.injEq] at he
    subst he
    exact DoesV.ret hr (by simp [Op.unary, Op.intBits]) (.int _ _)
  · subst he; exact DoesV.ret hr (by simp [Op.unary]) (.bool _)

/- ## memory -/
theorem load_does {t : TypeId} {a a' : Value} {f : Eff} (hr : HRel m (mix h N F) w) (hwf : HWf h) (hN : h.nx ≤ N) (ha : VRel m a a') (he : effLoad P t a h.get = some f) : DoesV P (Instr.loadAt t a') f h N F m w := by
  unfold effLoad at he
  split at he <;> try (simp at he; done)
  rename_i b off
  split at he <;> try (simp at he; done)
  rename_i xs n k hb
  obtain ⟨l, hm, c, el, fr, hc⟩ := hr.cells hwf hN hb
  have hp := ptr_live ha hm
  subst hp
  split at he <;> try (simp at he; done)
  rename_i d hd
  have hfit := hc.fit
  have hcsz := hc.csz
  cases hg : aggB (some d) with
  | true =>
    rw [hg] at he
    simp only [cond_true] at he
    split at he <;> try (simp at he; done)
    rename_i i hi
    cases hle : Nat.ble (off + i.size) n with
    | false => simp [hle] at he
    | true =>
      rw [hle] at he
      simp only [cond_true, AM.ret, Option.some.injEq] at he
      subst he
      have hle := Nat.le_of_ble_eq_true hle
      have hrel := cells_rel hc.cell (k := i.size) hle (by omega)
      refine DoesV.ret hr (v' := .agg ((c.toList.drop (l.sh + off)).take i.size).toArray) ?_ (.agg _ _ hrel.2 hrel.1)
      simp only [Instr.loadAt, Instr.sureAddr, loadVar, Sem.run_bind, Sem.run_pure, Result.andThen_ok, ra hd, hg]
      rw [if_pos trivial]
      simp only [Sem.run_bind, rs hi, Result.andThen_ok, run_cells hc.heap (show l.sh + off + i.size ≤ c.size by omega), Sem.run_pure]
  | false =>
    rw [hg] at he
    simp only [cond_false] at he
    cases hlt : Nat.blt off n with
    | false => simp [hlt] at he
    | true =>
      rw [hlt] at he
      simp only [cond_true] at he
      have hlt : off < n := by simpa [Nat.blt_eq] using hlt
      obtain ⟨v, v', g1, g2, g3, g4⟩ := hc.cell off hlt
      rw [g1] at he
      simp only [AM.ret, Option.some.injEq] at he
      subst he
      refine DoesV.ret hr (v' := v') ?_ g4
      simp only [Instr.loadAt, Instr.sureAddr, loadVar, Sem.run_bind, Sem.run_pure, Result.andThen_ok, ra hd, hg]
      simp [cell_at hc.heap, g2]

theorem store_does {t : TypeId} {a a' x x' : Value} {f : Eff} (hr : HRel m (mix h N F) w) (hwf : HWf h) (hN : h.nx ≤ N) (ha : VRel m a a') (hx : VRel m x x') (he : effStore P t a x h.get = some f) : DoesU P (Instr.storeAt t a' x') f h N F m w := by
  unfold effStore at he
  split at he <;> try (simp at he; done)
  rename_i b off
  split at he <;> try (simp at he; done)
  rename_i xs n k hb
  obtain ⟨l, hm, c, el, fr, hc⟩ := hr.cells hwf hN hb
  have hp := ptr_live ha hm
  subst hp
  split at he <;> try (simp at he; done)
  rename_i hk
  split at he <;> try (simp at he; done)
  rename_i i vs hi hvs
  cases hl : Nat.beq vs.length i.size with
  | false => simp [hl] at he
  | true =>
    cases hle : Nat.ble (off + i.size) n with
    | false => simp [hl, hle] at he
    | true =>
      rw [hl, hle] at he
      simp only [cond_true, Option.some.injEq] at he
      subst he
      have hl := Nat.eq_of_beq_eq_true hl
      have hle := Nat.le_of_ble_eq_true hle
      have hk' : k ≠ .ro := fun e => hk e
      obtain ⟨q1, q2, _⟩ := cellsOf_rel hx hvs
      have hrun := run_wr (P := P) hc hk' (off := off) (vs := vs) (vs' := x'.cells.toList) (by omega) q1 q2
      have hfree := hc.kind.free hk'
      obtain ⟨r1, r2⟩ := wr_rel (v := undef) hr (lt_of_get hwf hN hb) hm hfree.1 (wr_cells hc (off := off) (vs := vs) (vs' := x'.cells.toList) (by omega) q1 q2)
      refine ⟨_, m, ?_, rfl, r1, r2⟩
      have hs : x'.cells.size = i.size := by have := q1.length; simp at this; omega
      simp only [Instr.storeAt, Instr.sureAddr, storeVar, Sem.run_bind, Sem.run_pure, Result.andThen_ok, rs hi, hs, ne_eq, not_true_eq_false, if_false, hrun]
end Go.AM
