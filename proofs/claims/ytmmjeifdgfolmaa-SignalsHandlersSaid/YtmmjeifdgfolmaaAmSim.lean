/- What operations do, laid out for rewriting: facts of types ahead, cells as lists. No condition but those that each rule names. -/
import Derived.Test.YtmmjeifdgfolmaaAmWp
namespace Go.AM
variable {P : Program} {ng : Nat} {sp : Special} {Q : AExit → Env → Heap → Prop}

/- ## Temporaries -/
theorem at_put (e : Env) (d t : Nat) (v : Value) : Env.at (Env.put e (some d) v) t = bif t == d then v else Env.at e t := by
  show Option.rec (motive := fun _ => Value) topV (fun v => v) ((e.set d v).get t) = _
  rw [Trie.get_set]
  by_cases h : t = d
  · rw [if_pos h, h, beq_self_eq_true]; rfl
  · rw [if_neg h, beq_false_of_ne h]; rfl
theorem put_none (e : Env) (v : Value) : Env.put e none v = e := rfl
theorem at_args (l : List Value) (t : Nat) : Env.at (storeL .leaf 0 l) t = (l[t]?).getD topV := by
  show Option.rec (motive := fun _ => Value) topV (fun v => v) ((storeL .leaf 0 l).get t) = _
  rw [get_storeL]
  have h0 : (0 ≤ t ∧ t < 0 + l.length) = (t < l.length) := by simp
  by_cases h : t < l.length
  · rw [if_pos (h0 ▸ h), Nat.sub_zero, List.getElem?_eq_getElem h]; rfl
  · rw [if_neg (h0 ▸ h), Trie.get_leaf, List.getElem?_eq_none (Nat.le_of_not_lt h)]; rfl
theorem eval_tmp (e : Env) (t : Tmp) : Env.eval e (.tmp t) = e.at t := rfl
theorem eval_const (e : Env) (v : Value) : Env.eval e (.const v) = v := rfl
theorem eval_global (e : Env) (g : Nat) : Env.eval e (.global g) = .pointer (some ⟨g, 0, none⟩) := rfl
theorem eval_func (e : Env) (f : FuncId) : Env.eval e (.func f) = .func (.func f) #[] #[] := rfl

/- ## Facts of types -/
def tyA (P : Program) (t : TypeId) : Option Bool := (P.underlying t).map fun d => aggB (some d)
def fldOf (P : Program) (s : TypeId) (f : Nat) : Option (Nat × Option Bool × Nat) := match P.underlying s with
  | some (.struct fields) => match fields.toList[f]? with
    | some f => (sizeOf? P f.type).map fun n => (f.offset, tyA P f.type, n)
    | none => none
  | _ => none
def arrOf (P : Program) (t : TypeId) : Option (Nat × Option Bool × Nat) := match P.underlying t with
  | some (.array n e) => (sizeOf? P e).map fun s => (n, tyA P e, s)
  | _ => none
def sarrOf (P : Program) (t : TypeId) : Option (Nat × Nat) := match P.underlying t with
  | some (.array n e) => (sizeOf? P e).map fun s => (n, s)
  | some (.pointer a) => match P.underlying a with
    | some (.array n e) => (sizeOf? P e).map fun s => (n, s)
    | _ => none
  | _ => none
def slcOf (P : Program) (t : TypeId) : Option Nat := match P.underlying t with
  | some (.slice e) => sizeOf? P e
  | _ => none
def intK (P : Program) (t : TypeId) : Option IntKind := match P.underlying t with
  | some (.int k) => some k
  | _ => none
def tyTag (P : Program) (t : TypeId) : Nat := match P.underlying t with
  | some .bool => 1
  | some (.pointer _) => 2
  | some .string => 3
  | some (.slice e) => match P.underlying e with
    | some (.int .u8) => 5
    | _ => 4
  | some (.map _ _) => 6
  | some (.func _ _ _) => 7
  | some (.interface _) => 8
  | some _ => 9
  | none => 0
/-- of a slice: zero, cells, bytes of an element. -/
def mkOf (P : Program) (t : TypeId) : Option (List Value × Nat × Nat) := match P.underlying t with
  | some (.slice e) => match P.info? e, zeroL P e with
    | some i, some z => if z.length = i.size then some (z, i.size, i.bytes + i.size + 1) else none
    | _, _ => none
  | _ => none
def opR (x : Option Value) : Option Eff := match x with
  | some v => ret v
  | none => none
theorem opR_some (v : Value) : opR (some v) = ret v := rfl
theorem opR_none : opR none = none := rfl

/- ## Memory -/
noncomputable def ldX (a : Option Bool) (s : Option Nat) (off : Nat) (x : Option Blk) : Option Eff := match x with
  | some (.cells xs n _) => match a with
    | none => none
    | some true => match s with
      | some s => cond (Nat.ble (off + s) n) (ret (.agg (loadL xs off s).toArray)) none
      | none => none
    | some false => cond (Nat.blt off n) (opR (xs.get off)) none
  | _ => none
theorem effLoad_ptr (t : TypeId) (b off : Nat) (g : Nat → Option Blk) : effLoad P t (.pointer (some ⟨b, off, none⟩)) g = ldX (tyA P t) (sizeOf? P t) off (g b) := by
  unfold effLoad ldX tyA sizeOf?
  simp only
  cases g b with
  | none => rfl
  | some x =>
    cases x <;> first | rfl | skip
    simp only
    cases P.underlying t with
    | none => rfl
    | some d =>
      simp only [Option.map_some]
      cases aggB (some d) with
      | true => simp only [cond_true]; cases P.info? t <;> rfl
      | false => simp only [cond_false]; unfold opR; rfl
theorem ldX_one (s : Option Nat) (off : Nat) (l : List Value) (k : Kind) : ldX (some false) s off (some (cellsB l k)) = opR l[off]? := by
  unfold ldX cellsB
  simp only [get_ofList]
  by_cases h : off < l.length
  · rw [show Nat.blt off l.length = true from by simpa [Nat.blt_eq] using h, cond_true]
  · rw [show Nat.blt off l.length = false from by rw [← Bool.not_eq_true, Nat.blt_eq]; exact h, cond_false, List.getElem?_eq_none (by omega)]; rfl
theorem ldX_agg (s off : Nat) (l : List Value) (k : Kind) : ldX (some true) (some s) off (some (cellsB l k)) = if off + s ≤ l.length then ret (.agg ((l.drop off).take s).toArray) else none := by
  unfold ldX cellsB
  simp only
  by_cases h : off + s ≤ l.length
  · rw [show Nat.ble (off + s) l.length = true from by simpa [Nat.ble_eq] using h, cond_true, if_pos h, loadL_ofList _ _ _ h]
  · rw [show Nat.ble (off + s) l.length = false from by rw [← Bool.not_eq_true, Nat.ble_eq]; exact h, cond_false, if_neg h]
noncomputable def stX (b off : Nat) (vs : Option (List Value)) (s : Option Nat) (x : Option Blk) : Option Eff := match x with
  | some (.cells xs n k) => match k with
    | .ro => none
    | k => match s, vs with
      | some s, some vs => cond (Nat.beq vs.length s) (cond (Nat.ble (off + s) n) (some ⟨undef, [(b, .cells (storeL xs off vs) n k)], []⟩) none) none
      | _, _ => none
  | _ => none
theorem effStore_ptr (t : TypeId) (b off : Nat) (v : Value) (g : Nat → Option Blk) : effStore P t (.pointer (some ⟨b, off, none⟩)) v g = stX b off (cellsOf v) (sizeOf? P t) (g b) := by
  unfold effStore stX sizeOf?
  simp only
  cases g b with
  | none => rfl
  | some x =>
    cases x with
    | cells xs n k => cases k <;> simp only <;> cases P.info? t <;> cases cellsOf v <;> rfl
    | _ => rfl
theorem stX_eq (b off : Nat) (vs : List Value) (s : Nat) (l : List Value) (k : Kind) : stX b off (some vs) (some s) (some (cellsB l k)) = if k ≠ .ro ∧ vs.length = s ∧ off + s ≤ l.length then some ⟨undef, [(b, cellsB (overL l off vs) k)], []⟩ else none := by
  unfold stX cellsB
  by_cases h : k ≠ .ro ∧ vs.length = s ∧ off + s ≤ l.length
  · rw [if_pos h]
    obtain ⟨h1, h2, h3⟩ := h
    subst h2
    cases k <;> simp only <;> first | exact absurd rfl h1 | rw [show Nat.beq vs.length vs.length = true from Nat.beq_refl _, show Nat.ble (off + vs.length) l.length = true from by simpa [Nat.ble_eq] using h3, storeL_ofList _ _ _ h3, length_overC h3]; rfl
  · rw [if_neg h]
    cases k <;> simp only
    all_goals
      by_cases h2 : vs.length = s
      · subst h2
        rw [show Nat.beq vs.length vs.length = true from Nat.beq_refl _, show Nat.ble (off + vs.length) l.length = false from by rw [← Bool.not_eq_true, Nat.ble_eq]; exact fun h3 => h ⟨by simp, rfl, h3⟩]; rfl
      · rw [show Nat.beq vs.length s = false from by rw [← Bool.not_eq_true, Nat.beq_eq]; exact h2]; rfl
theorem stX_one (b off : Nat) (v : Value) (l : List Value) (k : Kind) (hk : k ≠ .ro) : stX b off (some [v]) (some 1) (some (cellsB l k)) = if off < l.length then some ⟨undef, [(b, cellsB (l.set off v) k)], []⟩ else none := by
  rw [stX_eq]
  by_cases h : off < l.length
  · rw [if_pos ⟨hk, rfl, h⟩, if_pos h, overL_one v h]
  · rw [if_neg (fun hh => h hh.2.2), if_neg h]
def fldX (x : Option (Nat × Option Bool × Nat)) (a : Addr) : Option Eff := match x with
  | some (o, _, n) => if n = 0 then none else ret (.pointer (some (a.add o)))
  | none => none
theorem effField_ptr (s : TypeId) (a : Addr) (f : Nat) : effField P s (.pointer (some a)) f = fldX (fldOf P s f) a := by
  unfold effField fldX fldOf sizeOf?
  cases P.underlying s with
  | none => rfl
  | some d =>
    cases d <;> first | rfl | skip
    rename_i fields
    simp only
    cases fields.toList[f]? with
    | none => rfl
    | some fd =>
      simp only
      cases P.info? fd.type with
      | none => rfl
      | some i =>
        simp only [Option.map_some]
        by_cases h : i.size = 0
        · rw [if_pos h, show Nat.beq i.size 0 = true from by rw [h]; rfl]; rfl
        · rw [if_neg h, show Nat.beq i.size 0 = false from by rw [← Bool.not_eq_true, Nat.beq_eq]; exact h]; rfl
theorem fldX_some (o n : Nat) (g : Option Bool) (a : Addr) : fldX (some (o, g, n)) a = if n = 0 then none else ret (.pointer (some (a.add o))) := rfl
theorem addr_add (b off n : Nat) : (⟨b, off, none⟩ : Addr).add n = ⟨b, off + n, none⟩ := add_at b off n
theorem idx_int (k : IntKind) (i : Int) (n : Nat) : idx (.int k i) n = if 0 ≤ i ∧ i < n then some i.toNat else none := by
  unfold idx
  cases i with
  | ofNat i =>
    simp only
    by_cases h : i < n
    · rw [show Nat.blt i n = true from by simpa [Nat.blt_eq] using h, if_pos ⟨by simp, by simpa using h⟩]; rfl
    · rw [show Nat.blt i n = false from by rw [← Bool.not_eq_true, Nat.blt_eq]; exact h, if_neg (by simpa using h)]; rfl
  | negSucc i => simp only; rw [if_neg (by intro h; have := h.1; simp at this)]
def ixA (x : Option (Nat × Option Bool × Nat)) (ix : Value) (a : Addr) : Option Eff := match x with
  | some (n, _, s) => match idx ix n with
    | some i => ret (.pointer (some (a.add (i * s))))
    | none => none
  | none => none
theorem effIdx_arr (t : TypeId) (a : Addr) (ix : Value) : effIdx P t (.pointer (some a)) ix = ixA (arrOf P t) ix a := by
  unfold effIdx ixA arrOf
  cases P.underlying t with
  | none => rfl
  | some d =>
    cases d <;> first | rfl | skip
    rename_i n e
    simp only
    cases sizeOf? P e <;> simp only [Option.map_some, Option.map_none]
    · cases idx ix n <;> rfl
    · cases idx ix n <;> rfl
theorem ixA_some (n s : Nat) (g : Option Bool) (k : IntKind) (i : Int) (a : Addr) : ixA (some (n, g, s)) (.int k i) a = if 0 ≤ i ∧ i < n then ret (.pointer (some (a.add (i.toNat * s)))) else none := by
  unfold ixA
  simp only [idx_int]
  by_cases h : 0 ≤ i ∧ i < n
  · rw [if_pos h, if_pos h]
  · rw [if_neg h, if_neg h]
def ixS (x : Option Nat) (ix : Value) (len : Nat) (a : Addr) : Option Eff := match x with
  | some s => match idx ix len with
    | some i => ret (.pointer (some (a.add (i * s))))
    | none => none
  | none => none
theorem effIdx_slc (t : TypeId) (a : Addr) (len cap : Nat) (ix : Value) : effIdx P t (.slice (some a) len cap) ix = ixS (slcOf P t) ix len a := by
  unfold effIdx ixS slcOf
  cases P.underlying t with
  | none => rfl
  | some d =>
    cases d <;> first | rfl | skip
    rename_i e
    simp only
    cases sizeOf? P e <;> simp only
    · cases idx ix len <;> rfl
    · cases idx ix len <;> rfl
theorem ixS_some (s : Nat) (k : IntKind) (i : Int) (len : Nat) (a : Addr) : ixS (some s) (.int k i) len a = if 0 ≤ i ∧ i < len then ret (.pointer (some (a.add (i.toNat * s)))) else none := by
  unfold ixS
  simp only [idx_int]
  by_cases h : 0 ≤ i ∧ i < len
  · rw [if_pos h, if_pos h]
  · rw [if_neg h, if_neg h]
def fvX (x : Option (Nat × Option Bool × Nat)) (l : List Value) : Option Eff := match x with
  | some (off, some false, _) => opR l[off]?
  | some (off, some true, s) => if off + s ≤ l.length then ret (.agg ((l.drop off).take s).toArray) else none
  | _ => none
theorem aPart_eq (t : TypeId) (l : List Value) (off : Nat) : (aPart P t l off).bind ret = match tyA P t with
    | none => none
    | some false => opR l[off]?
    | some true => match sizeOf? P t with
      | some s => if off + s ≤ l.length then ret (.agg ((l.drop off).take s).toArray) else none
      | none => none := by
  unfold aPart tyA
  cases P.underlying t with
  | none => rfl
  | some d =>
    simp only [Option.map_some]
    cases aggB (some d) with
    | true =>
      simp only [if_true]
      cases sizeOf? P t with
      | none => rfl
      | some s => simp only; split <;> rfl
    | false => simp only [Bool.false_eq_true, if_false]; cases l[off]? <;> rfl
theorem effFieldV_eq (t : TypeId) (cs : Array Value) (f : Nat) (hs : (fldOf P t f).isSome = true) : effFieldV P t (.agg cs) f = fvX (fldOf P t f) cs.toList := by
  unfold effFieldV
  unfold fldOf at hs ⊢
  cases hu : P.underlying t with
  | none => rw [hu] at hs; simp at hs
  | some d =>
    rw [hu] at hs
    cases d <;> first | (simp at hs; done) | skip
    rename_i fields
    simp only at hs ⊢
    cases hf : fields.toList[f]? with
    | none => rw [hf] at hs; simp at hs
    | some fd =>
      rw [hf] at hs
      simp only at hs ⊢
      rw [aPart_eq]
      cases hz : sizeOf? P fd.type with
      | none => rw [hz] at hs; simp at hs
      | some n =>
        simp only [Option.map_some]
        cases tyA P fd.type with
        | none => rfl
        | some g => cases g <;> rfl
theorem fvX_one (off s : Nat) (l : List Value) : fvX (some (off, some false, s)) l = opR l[off]? := rfl
theorem fvX_agg (off s : Nat) (l : List Value) : fvX (some (off, some true, s)) l = if off + s ≤ l.length then ret (.agg ((l.drop off).take s).toArray) else none := rfl
theorem effIndex_agg (t : TypeId) (cs : Array Value) (ix : Value) {n s : Nat} {g : Bool} (ht : arrOf P t = some (n, some g, s)) : effIndex P t (.agg cs) ix = match idx ix n with
    | some i => fvX (some (i * s, some g, s)) cs.toList
    | none => none := by
  unfold effIndex
  unfold arrOf at ht
  cases hu : P.underlying t with
  | none => rw [hu] at ht; simp at ht
  | some d =>
    rw [hu] at ht
    cases d <;> first | (simp at ht; done) | skip
    rename_i len e
    simp only at ht ⊢
    cases hz : sizeOf? P e with
    | none => rw [hz] at ht; simp at ht
    | some sz =>
      rw [hz] at ht
      simp only [Option.map_some, Option.some.injEq, Prod.mk.injEq] at ht
      obtain ⟨rfl, h2, rfl⟩ := ht
      cases idx ix len with
      | none => rfl
      | some i =>
        simp only
        rw [aPart_eq, h2]
        cases g
        · rfl
        · simp only [hz]; rfl
theorem effIndex_str (t : TypeId) (s : ByteArray) (ix : Value) (ht : tyTag P t = 3) : effIndex P t (.string s) ix = match idx ix s.size with
    | some i => opR ((s.data.toList[i]?).map fun b => .int .u8 b.toNat)
    | none => none := by
  unfold effIndex
  unfold tyTag at ht
  cases hu : P.underlying t with
  | none => rw [hu] at ht; simp at ht
  | some d =>
    rw [hu] at ht
    cases d <;> first | (simp at ht; done) | skip
    · simp only
      cases idx ix s.size with
      | none => rfl
      | some i => simp only; cases s.data.toList[i]? <;> rfl
    · simp only at ht; split at ht <;> simp at ht

/- ## Numbers -/
theorem eqI_dec (a b : Int) : eqI a b = decide (a = b) := by
  rw [eqI_eq]
  rfl
theorem effBin_int (op : BinOp) (hs : opN op ≠ 8 ∧ opN op ≠ 9) (t : TypeId) (x y : Operand) (k : IntKind) (a b : Int) (g : Nat → Option Blk) : effBin P op t x y (.int k a) (.int k b) g = (intOp op k a b).bind ret := by
  unfold effBin
  have h : Nat.beq (kindN k) (kindN k) = true := Nat.beq_refl _
  cases op <;> first | (simp only [h, cond_true]; done) | (simp [opN] at hs; done)
theorem effBin_add (t : TypeId) (x y : Operand) (k : IntKind) (a b : Int) (g : Nat → Option Blk) : effBin P .add t x y (.int k a) (.int k b) g = ret (.int k (wrapF k (a + b))) := effBin_int _ (by decide) t x y k a b g
theorem effBin_sub (t : TypeId) (x y : Operand) (k : IntKind) (a b : Int) (g : Nat → Option Blk) : effBin P .sub t x y (.int k a) (.int k b) g = ret (.int k (wrapF k (a - b))) := effBin_int _ (by decide) t x y k a b g
theorem effBin_mul (t : TypeId) (x y : Operand) (k : IntKind) (a b : Int) (g : Nat → Option Blk) : effBin P .mul t x y (.int k a) (.int k b) g = ret (.int k (wrapF k (a * b))) := effBin_int _ (by decide) t x y k a b g
theorem effBin_quo (t : TypeId) (x y : Operand) (k : IntKind) (a b : Int) (g : Nat → Option Blk) : effBin P .quo t x y (.int k a) (.int k b) g = if b = 0 then none else ret (.int k (wrapF k (a.tdiv b))) := by
  rw [effBin_int _ (by decide)]
  unfold intOp
  simp only [eqI_dec]
  by_cases h : b = 0
  · subst h; rfl
  · rw [if_neg h, decide_eq_false h]; rfl
theorem effBin_rem (t : TypeId) (x y : Operand) (k : IntKind) (a b : Int) (g : Nat → Option Blk) : effBin P .rem t x y (.int k a) (.int k b) g = if b = 0 then none else ret (.int k (a.tmod b)) := by
  rw [effBin_int _ (by decide)]
  unfold intOp
  simp only [eqI_dec]
  by_cases h : b = 0
  · subst h; rfl
  · rw [if_neg h, decide_eq_false h]; rfl
theorem effBin_and (t : TypeId) (x y : Operand) (k : IntKind) (a b : Int) (g : Nat → Option Blk) : effBin P .and t x y (.int k a) (.int k b) g = ret (.int k (k.wrap (BitVec.ofInt k.bits a &&& BitVec.ofInt k.bits b).toNat)) := effBin_int _ (by decide) t x y k a b g
theorem effBin_or (t : TypeId) (x y : Operand) (k : IntKind) (a b : Int) (g : Nat → Option Blk) : effBin P .or t x y (.int k a) (.int k b) g = ret (.int k (k.wrap (BitVec.ofInt k.bits a ||| BitVec.ofInt k.bits b).toNat)) := effBin_int _ (by decide) t x y k a b g
theorem effBin_andNot (t : TypeId) (x y : Operand) (k : IntKind) (a b : Int) (g : Nat → Option Blk) : effBin P .andNot t x y (.int k a) (.int k b) g = ret (.int k (k.wrap (BitVec.ofInt k.bits a &&& ~~~BitVec.ofInt k.bits b).toNat)) := effBin_int _ (by decide) t x y k a b g
theorem effBin_eql (t : TypeId) (x y : Operand) (k : IntKind) (a b : Int) (g : Nat → Option Blk) : effBin P .eql t x y (.int k a) (.int k b) g = ret (.bool (decide (a = b))) := by rw [effBin_int _ (by decide)]; unfold intOp; simp only [eqI_dec]; rfl
theorem effBin_neq (t : TypeId) (x y : Operand) (k : IntKind) (a b : Int) (g : Nat → Option Blk) : effBin P .neq t x y (.int k a) (.int k b) g = ret (.bool (!decide (a = b))) := by rw [effBin_int _ (by decide)]; unfold intOp; simp only [eqI_dec]; rfl
theorem effBin_lss (t : TypeId) (x y : Operand) (k : IntKind) (a b : Int) (g : Nat → Option Blk) : effBin P .lss t x y (.int k a) (.int k b) g = ret (.bool (decide (a < b))) := by rw [effBin_int _ (by decide)]; unfold intOp; simp only [ltI_eq]; rfl
theorem effBin_leq (t : TypeId) (x y : Operand) (k : IntKind) (a b : Int) (g : Nat → Option Blk) : effBin P .leq t x y (.int k a) (.int k b) g = ret (.bool (decide (a ≤ b))) := by
  rw [effBin_int _ (by decide)]; unfold intOp; simp only [ltI_eq]
  rw [show (!decide (b < a)) = decide (a ≤ b) from by by_cases h : b < a <;> simp [h] <;> omega]; rfl
theorem effBin_gtr (t : TypeId) (x y : Operand) (k : IntKind) (a b : Int) (g : Nat → Option Blk) : effBin P .gtr t x y (.int k a) (.int k b) g = ret (.bool (decide (b < a))) := by rw [effBin_int _ (by decide)]; unfold intOp; simp only [ltI_eq]; rfl
theorem effBin_geq (t : TypeId) (x y : Operand) (k : IntKind) (a b : Int) (g : Nat → Option Blk) : effBin P .geq t x y (.int k a) (.int k b) g = ret (.bool (decide (b ≤ a))) := by
  rw [effBin_int _ (by decide)]; unfold intOp; simp only [ltI_eq]
  rw [show (!decide (a < b)) = decide (b ≤ a) from by by_cases h : a < b <;> simp [h] <;> omega]; rfl
theorem effBin_shl (t : TypeId) (x y : Operand) (k k' : IntKind) (a b : Int) (g : Nat → Option Blk) : effBin P .shl t x y (.int k a) (.int k' b) g = if 0 ≤ b then ret (.int k (wrapF k (a * 2 ^ (min b.toNat k.bits)))) else none := by
  show (shiftOp .shl k a b).bind ret = _
  unfold shiftOp
  cases b with
  | ofNat b => simp only; rw [if_pos (by simp)]; rfl
  | negSucc b => simp only; rw [if_neg (by simp)]; rfl
theorem effBin_shr (t : TypeId) (x y : Operand) (k k' : IntKind) (a b : Int) (g : Nat → Option Blk) : effBin P .shr t x y (.int k a) (.int k' b) g = if 0 ≤ b then ret (.int k (a.fdiv (2 ^ (min b.toNat k.bits)))) else none := by
  show (shiftOp .shr k a b).bind ret = _
  unfold shiftOp
  cases b with
  | ofNat b => simp only; rw [if_pos (by simp)]; rfl
  | negSucc b => simp only; rw [if_neg (by simp)]; rfl
theorem tag_eq {t : TypeId} {n : Nat} (h : tyTag P t = n) : (n = 1 → P.underlying t = some .bool) ∧ (n = 2 → ∃ e, P.underlying t = some (.pointer e)) ∧ (n = 3 → P.underlying t = some .string) ∧ (n = 4 ∨ n = 5 → ∃ e, P.underlying t = some (.slice e))
    ∧ (n = 6 → ∃ a b, P.underlying t = some (.map a b)) ∧ (n = 7 → ∃ a b c, P.underlying t = some (.func a b c)) ∧ (n = 8 → ∃ a, P.underlying t = some (.interface a)) ∧ (n = 5 → ∃ e, P.underlying t = some (.slice e) ∧ P.underlying e = some (.int .u8)) := by
  subst h
  unfold tyTag
  cases hu : P.underlying t with
  | none => simp
  | some d =>
    cases d <;> simp
    rename_i e
    split
    · rename_i h; simp [h]
    · simp
theorem effBin_eql_bool (t : TypeId) (x y : Operand) (a b : Bool) (g : Nat → Option Blk) (ht : tyTag P t = 1) : effBin P .eql t x y (.bool a) (.bool b) g = ret (.bool (a == b)) := by
  show (eqlV P t (.bool a) (.bool b) g).bind _ = _
  unfold eqlV
  rw [(tag_eq ht).1 rfl]; rfl
theorem effBin_neq_bool (t : TypeId) (x y : Operand) (a b : Bool) (g : Nat → Option Blk) (ht : tyTag P t = 1) : effBin P .neq t x y (.bool a) (.bool b) g = ret (.bool !(a == b)) := by
  show (eqlV P t (.bool a) (.bool b) g).bind _ = _
  unfold eqlV
  rw [(tag_eq ht).1 rfl]; rfl
theorem effBin_ptr (t : TypeId) (x y : Operand) (a : Option Addr) (g : Nat → Option Blk) (ht : tyTag P t = 2) : effBin P .eql t x y (.pointer a) (.pointer none) g = ret (.bool a.isNone) ∧ effBin P .neq t x y (.pointer a) (.pointer none) g = ret (.bool !a.isNone) ∧
    effBin P .eql t x y (.pointer none) (.pointer a) g = ret (.bool a.isNone) ∧ effBin P .neq t x y (.pointer none) (.pointer a) g = ret (.bool !a.isNone) := by
  obtain ⟨e, he⟩ := (tag_eq ht).2.1 rfl
  refine ⟨?_, ?_, ?_, ?_⟩ <;> (show (eqlV P t _ _ g).bind _ = _) <;> unfold eqlV <;> rw [he] <;> cases a <;> rfl
theorem effBin_slc (t : TypeId) (x y : Operand) (a : Option Addr) (l c : Nat) (g : Nat → Option Blk) (ht : tyTag P t = 4 ∨ tyTag P t = 5) : effBin P .eql t x y (.slice a l c) (.slice none 0 0) g = ret (.bool a.isNone) ∧ effBin P .neq t x y (.slice a l c) (.slice none 0 0) g = ret (.bool !a.isNone) := by
  obtain ⟨e, he⟩ : ∃ e, P.underlying t = some (.slice e) := by
    rcases ht with ht | ht
    · exact (tag_eq ht).2.2.2.1 (.inl rfl)
    · exact (tag_eq ht).2.2.2.1 (.inr rfl)
  refine ⟨?_, ?_⟩ <;> (show (eqlV P t _ _ g).bind _ = _) <;> unfold eqlV <;> rw [he] <;> cases a <;> rfl
theorem effBin_ifc (t : TypeId) (x y : Operand) (a : TypeId) (v : Value) (g : Nat → Option Blk) (ht : tyTag P t = 8) : effBin P .eql t x y (.iface a v) .nilIface g = ret (.bool false) ∧ effBin P .neq t x y (.iface a v) .nilIface g = ret (.bool true) := by
  obtain ⟨e, he⟩ := (tag_eq ht).2.2.2.2.2.2.1 rfl
  refine ⟨?_, ?_⟩ <;> (show (eqlV P t _ _ g).bind _ = _) <;> unfold eqlV <;> rw [he] <;> rfl
theorem effBin_str (op : BinOp) (t : TypeId) (x y : Operand) (a b : ByteArray) (g : Nat → Option Blk) : effBin P op t x y (.string a) (.string b) g = (strOp op a b).bind ret := by unfold effBin; rfl
theorem effUn_not (b : Bool) : effUn .not (.bool b) = ret (.bool !b) := rfl
theorem effConv_int (s d : TypeId) (k : IntKind) (n : Int) (g : Nat → Option Blk) (nx : Nat) (hs : (tyA P s).isSome = true) {k' : IntKind} (hk : intK P d = some k') : effConv P s d (.int k n) g nx = ret (.int k' (wrapF k' n)) := by
  unfold effConv
  simp only
  unfold tyA at hs
  unfold intK at hk
  cases hu : P.underlying s with
  | none => rw [hu] at hs; simp at hs
  | some ds =>
    cases hd : P.underlying d with
    | none => rw [hd] at hk; simp at hk
    | some dd =>
      rw [hd] at hk
      cases dd <;> first | (simp at hk; done) | skip
      simp only [Option.some.injEq] at hk
      subst hk
      rfl
theorem effConv_i64 (s d : TypeId) (k : IntKind) (n : Int) (g : Nat → Option Blk) (nx : Nat) (hs : (tyA P s).isSome = true) (hk : intK P d = some .i64) : effConv P s d (.int k n) g nx = ret (.int .i64 (wrapF .i64 n)) := effConv_int s d k n g nx hs hk
theorem effConv_u64 (s d : TypeId) (k : IntKind) (n : Int) (g : Nat → Option Blk) (nx : Nat) (hs : (tyA P s).isSome = true) (hk : intK P d = some .u64) : effConv P s d (.int k n) g nx = ret (.int .u64 (wrapF .u64 n)) := effConv_int s d k n g nx hs hk
theorem effConv_u8 (s d : TypeId) (k : IntKind) (n : Int) (g : Nat → Option Blk) (nx : Nat) (hs : (tyA P s).isSome = true) (hk : intK P d = some .u8) : effConv P s d (.int k n) g nx = ret (.int .u8 (wrapF .u8 n)) := effConv_int s d k n g nx hs hk
theorem wrapI {n : Int} (h1 : -9223372036854775808 ≤ n) (h2 : n < 9223372036854775808) : wrapF .i64 n = n := by
  rw [wrapF_eq]
  unfold IntKind.wrap IntKind.signed IntKind.bits
  simp only [Bool.true_and, decide_eq_true_eq]
  split <;> omega
theorem wrapU {n : Int} (h1 : 0 ≤ n) (h2 : n < 18446744073709551616) : wrapF .u64 n = n := by
  rw [wrapF_eq]
  unfold IntKind.wrap IntKind.signed IntKind.bits
  simp only [Bool.false_and, Bool.false_eq_true, if_false]
  omega
theorem wrapU_mod (n : Int) : wrapF .u64 n = n % 18446744073709551616 := by
  rw [wrapF_eq]
  unfold IntKind.wrap IntKind.signed IntKind.bits
  simp only [Bool.false_and, Bool.false_eq_true, if_false]
  rfl
theorem wrapB {n : Int} (h1 : 0 ≤ n) (h2 : n < 256) : wrapF .u8 n = n := by
  rw [wrapF_eq]
  unfold IntKind.wrap IntKind.signed IntKind.bits
  simp only [Bool.false_and, Bool.false_eq_true, if_false]
  omega
theorem wrapB_mod (n : Int) : wrapF .u8 n = n % 256 := by
  rw [wrapF_eq]
  unfold IntKind.wrap IntKind.signed IntKind.bits
  simp only [Bool.false_and, Bool.false_eq_true, if_false]
  rfl
end Go.AM
