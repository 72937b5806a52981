/- The rules for rewriting without conditions: facts of types are looked up. -/
import Derived.Test.YtmmjeifdgfolmaaAmSim3
namespace Go.AM
variable {P : Program} {ng : Nat} {sp : Special} {Q : AExit → Env → Heap → Prop}
theorem und_none {t : TypeId} (h : tyTag P t = 0) : P.underlying t = none := by
  unfold tyTag at h
  cases hu : P.underlying t with
  | none => rfl
  | some d =>
    rw [hu] at h
    cases d <;> simp at h
    split at h <;> simp at h
def tagD (P : Program) : TypeDesc → Nat
  | .bool => 1
  | .pointer _ => 2
  | .string => 3
  | .slice e => match P.underlying e with
    | some (.int .u8) => 5
    | _ => 4
  | .map _ _ => 6
  | .func _ _ _ => 7
  | .interface _ => 8
  | _ => 9
theorem tag_of {t : TypeId} {d : TypeDesc} (hu : P.underlying t = some d) : tyTag P t = tagD P d := by
  unfold tyTag tagD
  rw [hu]
  cases d <;> rfl
theorem u_eql_bool (t : TypeId) (x y : Operand) (a b : Bool) (g : Nat → Option Blk) : effBin P .eql t x y (.bool a) (.bool b) g = if tyTag P t = 1 then ret (.bool (a == b)) else none := by
  by_cases h : tyTag P t = 1
  · rw [if_pos h, effBin_eql_bool _ _ _ _ _ _ h]
  · rw [if_neg h]
    show (eqlV P t (.bool a) (.bool b) g).bind _ = _
    unfold eqlV
    cases hu : P.underlying t with
    | none => rfl
    | some d => have := tag_of hu; cases d <;> first | rfl | exact absurd this h
theorem u_neq_bool (t : TypeId) (x y : Operand) (a b : Bool) (g : Nat → Option Blk) : effBin P .neq t x y (.bool a) (.bool b) g = if tyTag P t = 1 then ret (.bool !(a == b)) else none := by
  by_cases h : tyTag P t = 1
  · rw [if_pos h, effBin_neq_bool _ _ _ _ _ _ h]
  · rw [if_neg h]
    show (eqlV P t (.bool a) (.bool b) g).bind _ = _
    unfold eqlV
    cases hu : P.underlying t with
    | none => rfl
    | some d => have := tag_of hu; cases d <;> first | rfl | exact absurd this h
theorem u_eql_ptr (t : TypeId) (x y : Operand) (a : Option Addr) (g : Nat → Option Blk) : effBin P .eql t x y (.pointer a) (.pointer none) g = if tyTag P t = 2 then ret (.bool a.isNone) else none := by
  by_cases h : tyTag P t = 2
  · rw [if_pos h, (effBin_ptr _ _ _ _ _ h).1]
  · rw [if_neg h]
    show (eqlV P t _ _ g).bind _ = _
    unfold eqlV
    cases hu : P.underlying t with
    | none => rfl
    | some d => have := tag_of hu; cases d <;> first | rfl | exact absurd this h
theorem u_neq_ptr (t : TypeId) (x y : Operand) (a : Option Addr) (g : Nat → Option Blk) : effBin P .neq t x y (.pointer a) (.pointer none) g = if tyTag P t = 2 then ret (.bool !a.isNone) else none := by
  by_cases h : tyTag P t = 2
  · rw [if_pos h, (effBin_ptr _ _ _ _ _ h).2.1]
  · rw [if_neg h]
    show (eqlV P t _ _ g).bind _ = _
    unfold eqlV
    cases hu : P.underlying t with
    | none => rfl
    | some d => have := tag_of hu; cases d <;> first | rfl | exact absurd this h
theorem u_eql_slc (t : TypeId) (x y : Operand) (a : Option Addr) (l c : Nat) (g : Nat → Option Blk) : effBin P .eql t x y (.slice a l c) (.slice none 0 0) g = if tyTag P t = 4 ∨ tyTag P t = 5 then ret (.bool a.isNone) else none := by
  by_cases h : tyTag P t = 4 ∨ tyTag P t = 5
  · rw [if_pos h, (effBin_slc _ _ _ _ _ _ _ h).1]
  · rw [if_neg h]
    show (eqlV P t _ _ g).bind _ = _
    unfold eqlV
    cases hu : P.underlying t with
    | none => rfl
    | some d =>
      have := tag_of hu
      cases d <;> first | rfl | skip
      exfalso
      have this : tyTag P t = (match P.underlying _ with
        | some (.int .u8) => 5
        | _ => 4) := this
      split at this
      · exact h (.inr this)
      · exact h (.inl this)
theorem u_neq_slc (t : TypeId) (x y : Operand) (a : Option Addr) (l c : Nat) (g : Nat → Option Blk) : effBin P .neq t x y (.slice a l c) (.slice none 0 0) g = if tyTag P t = 4 ∨ tyTag P t = 5 then ret (.bool !a.isNone) else none := by
  by_cases h : tyTag P t = 4 ∨ tyTag P t = 5
  · rw [if_pos h, (effBin_slc _ _ _ _ _ _ _ h).2]
  · rw [if_neg h]
    show (eqlV P t _ _ g).bind _ = _
    unfold eqlV
    cases hu : P.underlying t with
    | none => rfl
    | some d =>
      have := tag_of hu
      cases d <;> first | rfl | skip
      exfalso
      have this : tyTag P t = (match P.underlying _ with
        | some (.int .u8) => 5
        | _ => 4) := this
      split at this
      · exact h (.inr this)
      · exact h (.inl this)
theorem u_eql_ifc (t : TypeId) (x y : Operand) (a : TypeId) (v : Value) (g : Nat → Option Blk) : effBin P .eql t x y (.iface a v) .nilIface g = if tyTag P t = 8 then ret (.bool false) else none := by
  by_cases h : tyTag P t = 8
  · rw [if_pos h, (effBin_ifc _ _ _ _ _ _ h).1]
  · rw [if_neg h]
    show (eqlV P t _ _ g).bind _ = _
    unfold eqlV
    cases hu : P.underlying t with
    | none => rfl
    | some d => have := tag_of hu; cases d <;> first | rfl | exact absurd this h
theorem u_neq_ifc (t : TypeId) (x y : Operand) (a : TypeId) (v : Value) (g : Nat → Option Blk) : effBin P .neq t x y (.iface a v) .nilIface g = if tyTag P t = 8 then ret (.bool true) else none := by
  by_cases h : tyTag P t = 8
  · rw [if_pos h, (effBin_ifc _ _ _ _ _ _ h).2]
  · rw [if_neg h]
    show (eqlV P t _ _ g).bind _ = _
    unfold eqlV
    cases hu : P.underlying t with
    | none => rfl
    | some d => have := tag_of hu; cases d <;> first | rfl | exact absurd this h
def cvI (s : Option Bool) (d : Option IntKind) (tag : Nat) (n : Int) : Option Eff := match s, d with
  | some _, some k => ret (.int k (wrapF k n))
  | some _, none => if tag = 3 then ret (.string (Utf8.encode n)) else none
  | none, _ => none
theorem u_conv (s d : TypeId) (k : IntKind) (n : Int) (g : Nat → Option Blk) (nx : Nat) : effConv P s d (.int k n) g nx = cvI (tyA P s) (intK P d) (tyTag P d) n := by
  unfold effConv cvI tyA intK
  cases P.underlying s with
  | none => simp only [Option.map_none]
  | some ds =>
    simp only [Option.map_some]
    cases hu : P.underlying d with
    | none => simp [tyTag, hu]
    | some dd =>
      have := tag_of hu
      cases dd <;> simp only [this, tagD] <;> first | rfl | skip
      split <;> rfl
theorem cvI_int (b : Bool) (k : IntKind) (tag : Nat) (n : Int) : cvI (some b) (some k) tag n = ret (.int k (wrapF k n)) := rfl
theorem u_field (t : TypeId) (cs : Array Value) (f : Nat) : effFieldV P t (.agg cs) f = fvX (fldOf P t f) cs.toList := by
  by_cases hs : (fldOf P t f).isSome = true
  · exact effFieldV_eq t cs f hs
  · have hn : fldOf P t f = none := by simpa using hs
    rw [hn]
    unfold effFieldV
    unfold fldOf at hn
    cases hu : P.underlying t with
    | none => rfl
    | some d =>
      rw [hu] at hn
      cases d <;> first | rfl | skip
      rename_i fields
      simp only at hn ⊢
      cases hf : fields.toList[f]? with
      | none => rfl
      | some fd =>
        rw [hf] at hn
        simp only [Option.map_eq_none_iff] at hn
        simp only
        rw [aPart_eq]
        unfold tyA Program.underlying
        unfold sizeOf? at hn
        rw [Option.map_eq_none_iff] at hn
        rw [hn]
        rfl
def ivX (x : Option (Nat × Option Bool × Nat)) (ix : Value) (l : List Value) : Option Eff := match x with
  | some (n, g, s) => match idx ix n with
    | some i => fvX (some (i * s, g, s)) l
    | none => none
  | none => none
theorem ivX_some (n s : Nat) (g : Option Bool) (k : IntKind) (i : Int) (l : List Value) : ivX (some (n, g, s)) (.int k i) l = if 0 ≤ i ∧ i < n then fvX (some (i.toNat * s, g, s)) l else none := by
  unfold ivX
  simp only [idx_int]
  by_cases h : 0 ≤ i ∧ i < n
  · rw [if_pos h, if_pos h]
  · rw [if_neg h, if_neg h]
theorem u_index (t : TypeId) (cs : Array Value) (ix : Value) {n s : Nat} {g : Bool} (ht : arrOf P t = some (n, some g, s)) : effIndex P t (.agg cs) ix = ivX (some (n, some g, s)) ix cs.toList := by
  rw [effIndex_agg t cs ix ht]
  rfl
/-- the rest of a length. -/
def aLenO (P : Program) (ts : Array TypeId) (x : Value) (g : Nat → Option Blk) : Option Eff := aLen P ts x g
theorem u_len_slc (t : TypeId) (a : Option Addr) (n c : Nat) (g : Nat → Option Blk) : aLen P #[t] (.slice a n c) g = if tyTag P t = 4 ∨ tyTag P t = 5 then ret (.int .i64 n) else aLenO P #[t] (.slice a n c) g := by
  by_cases h : tyTag P t = 4 ∨ tyTag P t = 5
  · rw [if_pos h]
    obtain ⟨e, he⟩ : ∃ e, P.underlying t = some (.slice e) := by
      rcases h with h | h
      · exact (tag_eq h).2.2.2.1 (.inl rfl)
      · exact (tag_eq h).2.2.2.1 (.inr rfl)
    unfold aLen
    simp only [he]
  · rw [if_neg h]; rfl
theorem u_len_str (t : TypeId) (s : ByteArray) (g : Nat → Option Blk) : aLen P #[t] (.string s) g = if tyTag P t = 3 then ret (.int .i64 s.size) else aLenO P #[t] (.string s) g := by
  by_cases h : tyTag P t = 3
  · rw [if_pos h, eff_len_str _ t s g rfl h]
  · rw [if_neg h]; rfl
def mlX (x : Option Blk) : Option Eff := match x with
  | some (.map es _) => ret (.int .i64 es.length)
  | _ => none
theorem u_len_map (t : TypeId) (r : Nat) (g : Nat → Option Blk) : aLen P #[t] (.map (some r)) g = if tyTag P t = 6 then mlX (g r) else aLenO P #[t] (.map (some r)) g := by
  by_cases h : tyTag P t = 6
  · rw [if_pos h, eff_len_map _ t r g rfl h]; rfl
  · rw [if_neg h]; rfl
theorem mlX_some (es : List (Value × Value × Nat)) (c : Nat) : mlX (some (.map es c)) = ret (.int .i64 es.length) := rfl
section
variable (ρ : Operand → Value) (g : Nat → Option Blk) (nx : Nat)
theorem u_len (ts : Array TypeId) (x : Operand) : eff P (.call ⟨.builtin .len, #[x], ts⟩) ρ g nx = aLen P ts (ρ x) g := rfl
theorem u_append (ts : Array TypeId) (x y : Operand) : eff P (.call ⟨.builtin .append, #[x, y], ts⟩) ρ g nx = aAppend P ts (ρ x) (ρ y) g nx := rfl
theorem u_copy (ts : Array TypeId) (x y : Operand) : eff P (.call ⟨.builtin .copy, #[x, y], ts⟩) ρ g nx = aCopy P ts (ρ x) (ρ y) g := rfl
theorem u_clear (ts : Array TypeId) (x : Operand) : eff P (.call ⟨.builtin .clear, #[x], ts⟩) ρ g nx = aClear P ts (ρ x) g := rfl
theorem u_delete (ts : Array TypeId) (x y : Operand) : eff P (.call ⟨.builtin .delete, #[x, y], ts⟩) ρ g nx = aDelete P ts (ρ x) (ρ y) g := rfl
theorem u_min (ts : Array TypeId) (x y : Operand) : eff P (.call ⟨.builtin .min, #[x, y], ts⟩) ρ g nx = builtinEff P .min ts [ρ x, ρ y] g nx := rfl
theorem u_max (ts : Array TypeId) (x y : Operand) : eff P (.call ⟨.builtin .max, #[x, y], ts⟩) ρ g nx = builtinEff P .max ts [ρ x, ρ y] g nx := rfl
end
theorem u_min2 (ts : Array TypeId) (k : IntKind) (a b : Int) (g : Nat → Option Blk) (nx : Nat) : builtinEff P .min ts [.int k a, .int k b] g nx = ret (.int k (if b < a then b else a)) := by
  show ret (.int k (cond (ltI b a) b a)) = _
  rw [ltI_eq]
  by_cases h : b < a
  · rw [if_pos h, decide_eq_true h]; rfl
  · rw [if_neg h, decide_eq_false h]; rfl
theorem u_max2 (ts : Array TypeId) (k : IntKind) (a b : Int) (g : Nat → Option Blk) (nx : Nat) : builtinEff P .max ts [.int k a, .int k b] g nx = ret (.int k (if a < b then b else a)) := by
  show ret (.int k (cond (ltI a b) b a)) = _
  rw [ltI_eq]
  by_cases h : a < b
  · rw [if_pos h, decide_eq_true h]; rfl
  · rw [if_neg h, decide_eq_false h]; rfl
theorem stX_exact (b off : Nat) (v : Value) (l : List Value) : stX b off (some [v]) (some 1) (some (cellsB l .exact)) = if off < l.length then some ⟨undef, [(b, cellsB (l.set off v) .exact)], []⟩ else none := stX_one b off v l .exact (by simp)
theorem stX_loose (b off e : Nat) (v : Value) (l : List Value) : stX b off (some [v]) (some 1) (some (cellsB l (.loose e))) = if off < l.length then some ⟨undef, [(b, cellsB (l.set off v) (.loose e))], []⟩ else none := stX_one b off v l (.loose e) (by simp)
theorem stX_bytes (b off : Nat) (v : Value) (l : List Value) : stX b off (some [v]) (some 1) (some (cellsB l .bytes)) = if off < l.length then some ⟨undef, [(b, cellsB (l.set off v) .bytes)], []⟩ else none := stX_one b off v l .bytes (by simp)
theorem stX_exactN (b off : Nat) (vs : List Value) (s : Nat) (l : List Value) : stX b off (some vs) (some s) (some (cellsB l .exact)) = if vs.length = s ∧ off + s ≤ l.length then some ⟨undef, [(b, cellsB (overL l off vs) .exact)], []⟩ else none := by
  rw [stX_eq]
  by_cases h : vs.length = s ∧ off + s ≤ l.length
  · rw [if_pos h, if_pos ⟨by simp, h⟩]
  · rw [if_neg h, if_neg (fun hh => h hh.2)]
noncomputable def sadX (x : Option Blk) (b off l m cap size : Nat) (mx : Bool) : Option (Option Addr) := match x with
  | some (.cells _ n k) =>
      match k with
      | .loose e => if off + cap * e = n ∧ mx = false then (if e = size then some (some ⟨b, off + l * size, none⟩) else none)
          else some (if m = l then some ⟨b, off, none⟩ else some ⟨b, off + l * size, none⟩)
      | .bytes => if off + cap = n ∧ mx = false then (if 1 = size then some (some ⟨b, off + l * size, none⟩) else none)
          else some (if m = l then some ⟨b, off, none⟩ else some ⟨b, off + l * size, none⟩)
      | _ => some (if m = l then some ⟨b, off, none⟩ else some ⟨b, off + l * size, none⟩)
  | _ => none
theorem u_sliceAddr (b off l m cap size : Nat) (mx : Bool) (g : Nat → Option Blk) : sliceAddr (some ⟨b, off, none⟩) l m cap size mx g = sadX (g b) b off l m cap size mx := rfl
theorem sadX_exact (xs : List Value) (b off l m cap size : Nat) (mx : Bool) : sadX (some (cellsB xs .exact)) b off l m cap size mx = some (if m = l then some ⟨b, off, none⟩ else some ⟨b, off + l * size, none⟩) := rfl
theorem sadX_ro (xs : List Value) (b off l m cap size : Nat) (mx : Bool) : sadX (some (cellsB xs .ro)) b off l m cap size mx = some (if m = l then some ⟨b, off, none⟩ else some ⟨b, off + l * size, none⟩) := rfl
theorem sadX_loose (xs : List Value) (e b off l m cap size : Nat) (mx : Bool) : sadX (some (cellsB xs (.loose e))) b off l m cap size mx = if off + cap * e = xs.length ∧ mx = false then (if e = size then some (some ⟨b, off + l * size, none⟩) else none) else some (if m = l then some ⟨b, off, none⟩ else some ⟨b, off + l * size, none⟩) := rfl
noncomputable def fsX (x : Option Blk) (off n size : Nat) : Option (List Value) := match n with
  | 0 => some []
  | n + 1 => match x with
    | some (.cells xs m _) => if off + (n + 1) * size ≤ m then some (loadL xs off ((n + 1) * size)) else none
    | _ => none
theorem u_firstL (g : Nat → Option Blk) (size n b off l c : Nat) : firstL g size n (.slice (some ⟨b, off, none⟩) l c) = fsX (g b) off n size := by cases n <;> rfl
theorem fsX_some (xs : List Value) (k : Kind) (off n size : Nat) (h : off + n * size ≤ xs.length) : fsX (some (cellsB xs k)) off n size = some ((xs.drop off).take (n * size)) := by
  cases n with
  | zero => rw [Nat.zero_mul]; rfl
  | succ n =>
    unfold fsX cellsB
    simp only
    rw [if_pos h, loadL_ofList _ _ _ h]
theorem length_cellsB (l : List Value) (k : Kind) : ∀ n xs k', cellsB l k = .cells xs n k' → n = l.length := by
  intro n xs k' h
  unfold cellsB at h
  cases h
  rfl
theorem u_bounds (len cap : Nat) (lo hi : Option Value) : bounds len cap lo hi none = match bnd hi len cap with
    | none => none
    | some h => match bnd lo 0 h with
      | none => none
      | some l => if h ≤ cap then some (l, h, cap) else none := by
  unfold bounds
  simp only [bnd_none]
  rw [if_neg (by simp)]
  cases bnd hi len cap with
  | none => rfl
  | some h =>
    simp only
    cases bnd lo 0 h with
    | none => rfl
    | some l =>
      simp only
      by_cases hh : h ≤ cap
      · rw [show Nat.ble h cap = true from by simpa [Nat.ble_eq] using hh, if_pos hh]; rfl
      · rw [show Nat.ble h cap = false from by rw [← Bool.not_eq_true, Nat.ble_eq]; exact hh, if_neg hh]; rfl
end Go.AM
