/- What operations do, laid out for rewriting: new blocks, slices, builtins, maps; the steps of the small machine as equivalences. -/
import Derived.Test.YtmmjeifdgfolmaaAmSim
namespace Go.AM
variable {P : Program} {ng : Nat} {sp : Special} {Q : AExit → Env → Heap → Prop}

/- ## New blocks -/
noncomputable def alX (z : Option (List Value)) (nx : Nat) : Option Eff := match z with
  | some z => some ⟨ptr nx 0, [], [cellsB z .exact]⟩
  | none => none
theorem effAlloc_eq (t : TypeId) (nx : Nat) : effAlloc P t nx = alX (zeroL P t) nx := by
  unfold effAlloc alX; rfl
theorem alX_some (z : List Value) (nx : Nat) : alX (some z) nx = some ⟨.pointer (some ⟨nx, 0, none⟩), [], [cellsB z .exact]⟩ := rfl
theorem effBox_eq (x : Value) (nx : Nat) : effBox x nx = alX (cellsOf x) nx := by
  unfold effBox alX; rfl
theorem cellsOf_bool (b : Bool) : cellsOf (.bool b) = some [.bool b] := rfl
theorem cellsOf_int (k : IntKind) (n : Int) : cellsOf (.int k n) = some [.int k n] := rfl
theorem cellsOf_string (s : ByteArray) : cellsOf (.string s) = some [.string s] := rfl
theorem cellsOf_pointer (a : Option Addr) : cellsOf (.pointer a) = some [.pointer a] := rfl
theorem cellsOf_slice (a : Option Addr) (l c : Nat) : cellsOf (.slice a l c) = some [.slice a l c] := rfl
theorem cellsOf_map (r : Option Nat) : cellsOf (.map r) = some [.map r] := rfl
theorem cellsOf_func (f : Fn) (a b : Array Value) : cellsOf (.func f a b) = some [.func f a b] := rfl
theorem cellsOf_nilFunc : cellsOf .nilFunc = some [.nilFunc] := rfl
theorem cellsOf_iface (t : TypeId) (v : Value) : cellsOf (.iface t v) = some [.iface t v] := rfl
theorem cellsOf_nilIface : cellsOf .nilIface = some [.nilIface] := rfl
theorem cellsOf_agg (c : Array Value) : cellsOf (.agg c) = some c.toList := rfl
noncomputable def mkX (x : Option (List Value × Nat × Nat)) (l c : Int) (nx : Nat) : Option Eff := match x with
  | some (z, _, mb) => if 0 ≤ l ∧ l ≤ c ∧ c.toNat * mb ≤ 2 ^ 40 then some ⟨.slice (some ⟨nx, 0, none⟩) l.toNat c.toNat, [], [cellsB (repeatL z c.toNat) .exact]⟩ else none
  | none => none
theorem effMakeSlice_eq (t : TypeId) (k k' : IntKind) (l c : Int) (nx : Nat) : effMakeSlice P t (.int k l) (.int k' c) nx = mkX (mkOf P t) l c nx := by
  unfold effMakeSlice mkX mkOf
  cases P.underlying t with
  | none => rfl
  | some d =>
    cases d <;> first | rfl | skip
    rename_i e
    simp only
    cases l with
    | negSucc l =>
      simp only
      cases P.info? e <;> cases zeroL P e <;> simp only
      split
      · rename_i h; split at h <;> simp at h; rw [if_neg (by simp)]
      · rfl
    | ofNat l =>
      cases c with
      | negSucc c =>
        simp only
        cases P.info? e <;> cases zeroL P e <;> simp only
        split
        · rename_i h; split at h <;> simp at h; rw [if_neg (by simp; omega)]
        · rfl
      | ofNat c =>
        simp only
        cases P.info? e with
        | none => rfl
        | some i =>
          cases zeroL P e with
          | none => rfl
          | some z =>
            simp only
            by_cases h1 : z.length = i.size
            · rw [if_pos h1]
              simp only
              by_cases h2 : l ≤ c ∧ c * (i.bytes + i.size + 1) ≤ 2 ^ 40
              · rw [if_pos ⟨by simp, by simpa using h2.1, by simpa using h2.2⟩]
                rw [show (Nat.ble l c && Nat.ble (c * (i.bytes + i.size + 1)) (2 ^ 40) && Nat.beq z.length i.size) = true from by
                  rw [Bool.and_eq_true, Bool.and_eq_true]; exact ⟨⟨by simpa [Nat.ble_eq] using h2.1, by simpa [Nat.ble_eq] using h2.2⟩, by simpa using h1⟩]
                rfl
              · rw [if_neg (fun hh => h2 ⟨by simpa using hh.2.1, by simpa using hh.2.2⟩)]
                rw [show (Nat.ble l c && Nat.ble (c * (i.bytes + i.size + 1)) (2 ^ 40) && Nat.beq z.length i.size) = false from by
                  rw [← Bool.not_eq_true, Bool.and_eq_true, Bool.and_eq_true]; exact fun hh => h2 ⟨by simpa [Nat.ble_eq] using hh.1.1, by simpa [Nat.ble_eq] using hh.1.2⟩]
                rfl
            · rw [if_neg h1]
              rw [show (Nat.ble l c && Nat.ble (c * (i.bytes + i.size + 1)) (2 ^ 40) && Nat.beq z.length i.size) = false from by
                rw [← Bool.not_eq_true, Bool.and_eq_true]; exact fun hh => h1 (by simpa using hh.2)]
              rfl
theorem mkX_some (z : List Value) (s mb : Nat) (l c : Int) (nx : Nat) : mkX (some (z, s, mb)) l c nx = if 0 ≤ l ∧ l ≤ c ∧ c.toNat * mb ≤ 2 ^ 40 then some ⟨.slice (some ⟨nx, 0, none⟩) l.toNat c.toNat, [], [cellsB (repeatL z c.toNat) .exact]⟩ else none := rfl

/- ## Slices -/
theorem bnd_none (d n : Nat) : bnd none d n = some d := rfl
theorem bnd_int (k : IntKind) (i : Int) (d n : Nat) : bnd (some (.int k i)) d n = if 0 ≤ i ∧ i ≤ n then some i.toNat else none := by
  unfold bnd
  cases i with
  | ofNat i =>
    simp only
    by_cases h : i ≤ n
    · rw [show Nat.ble i n = true from by simpa [Nat.ble_eq] using h, if_pos ⟨by simp, by simpa using h⟩]; rfl
    · rw [show Nat.ble i n = false from by rw [← Bool.not_eq_true, Nat.ble_eq]; exact h, if_neg (by simpa using h)]; rfl
  | negSucc i => simp only; rw [if_neg (by intro h; have := h.1; simp at this)]
noncomputable def slP (x : Option (Nat × Nat)) (a : Addr) (lo hi mx : Option Value) : Option Eff := match x with
  | some (n, s) => match bounds n n lo hi mx with
    | some (l, h, m) => ret (.slice (some (if m = l then a else a.add (l * s))) (h - l) (m - l))
    | none => none
  | none => none
theorem effSlice_ptr (t : TypeId) (a : Addr) (lo hi mx : Option Value) (g : Nat → Option Blk) : effSlice P t (.pointer (some a)) lo hi mx g = slP (sarrOf P t) a lo hi mx := by
  unfold effSlice slP sarrOf
  cases P.underlying t with
  | none => rfl
  | some d =>
    cases d <;> first | rfl | skip
    · rename_i arr
      simp only
      cases P.underlying arr with
      | none => rfl
      | some d2 =>
        cases d2 <;> first | rfl | skip
        rename_i n e
        simp only
        cases sizeOf? P e with
        | none => simp only [Option.map_none]; cases bounds n n lo hi mx <;> rfl
        | some s => simp only [Option.map_some]; cases bounds n n lo hi mx <;> rfl
    · rename_i n e
      simp only
      cases sizeOf? P e with
      | none => simp only [Option.map_none]; cases bounds n n lo hi mx <;> rfl
      | some s => simp only [Option.map_some]; cases bounds n n lo hi mx <;> rfl
noncomputable def slS (x : Option Nat) (a : Option Addr) (len cap : Nat) (lo hi mx : Option Value) (g : Nat → Option Blk) : Option Eff := match x with
  | some s => match bounds len cap lo hi mx with
    | some (l, h, m) => match sliceAddr a l m cap s mx.isSome g with
      | some a' => ret (.slice a' (h - l) (m - l))
      | none => none
    | none => none
  | none => none
theorem effSlice_slc (t : TypeId) (a : Option Addr) (len cap : Nat) (lo hi mx : Option Value) (g : Nat → Option Blk) : effSlice P t (.slice a len cap) lo hi mx g = slS (slcOf P t) a len cap lo hi mx g := by
  unfold effSlice slS slcOf
  cases P.underlying t with
  | none => rfl
  | some d =>
    cases d <;> first | rfl | skip
    rename_i e
    simp only
    cases sizeOf? P e with
    | none => cases bounds len cap lo hi mx <;> rfl
    | some s => cases bounds len cap lo hi mx <;> rfl
/-- (a block that is as long as is known) -/
theorem sliceAddr_exact (b off l m cap size : Nat) (mx : Bool) (g : Nat → Option Blk) (xs : List Value) (hg : g b = some (cellsB xs .exact)) : sliceAddr (some ⟨b, off, none⟩) l m cap size mx g = some (some ⟨b, if m = l then off else off + l * size, none⟩) := by
  unfold sliceAddr cellsB at *
  simp only [hg]
  split <;> rfl
theorem sliceAddr_ro (b off l m cap size : Nat) (mx : Bool) (g : Nat → Option Blk) (xs : List Value) (hg : g b = some (cellsB xs .ro)) : sliceAddr (some ⟨b, off, none⟩) l m cap size mx g = some (some ⟨b, if m = l then off else off + l * size, none⟩) := by
  unfold sliceAddr cellsB at *
  simp only [hg]
  split <;> rfl
theorem sliceAddr_nil (l m cap size : Nat) (mx : Bool) (g : Nat → Option Blk) : sliceAddr none l m cap size mx g = some none := rfl
theorem effSlice_str (t : TypeId) (s : ByteArray) (lo hi : Option Value) (g : Nat → Option Blk) (ht : tyTag P t = 3) : effSlice P t (.string s) lo hi none g = match bounds s.size s.size lo hi none with
    | some (l, h, _) => ret (.string (s.extract l h))
    | none => none := by
  unfold effSlice
  rw [(tag_eq ht).2.2.1 rfl]
  rfl

/- ## Builtins -/
noncomputable def lnX (tag : Nat) (x : Value) (n : Option (Nat × Nat)) (g : Nat → Option Blk) : Option Eff := match tag, x with
  | 3, .string s => ret (.int .i64 s.size)
  | 4, .slice _ n _ => ret (.int .i64 n)
  | 5, .slice _ n _ => ret (.int .i64 n)
  | 6, .map none => ret (.int .i64 0)
  | 6, .map (some r) => match g r with
    | some (.map es _) => ret (.int .i64 es.length)
    | _ => none
  | _, _ => match n with
    | some (n, _) => ret (.int .i64 n)
    | none => none
theorem eff_len_slc (ts : Array TypeId) (t : TypeId) (a : Option Addr) (n c : Nat) (g : Nat → Option Blk) (hts : ts.toList = [t]) (ht : (slcOf P t).isSome = true) : aLen P ts (.slice a n c) g = ret (.int .i64 n) := by
  unfold aLen
  rw [hts]
  simp only
  unfold slcOf at ht
  cases hu : P.underlying t with
  | none => rw [hu] at ht; simp at ht
  | some d => rw [hu] at ht; cases d <;> first | rfl | (simp at ht; done)
theorem eff_len_str (ts : Array TypeId) (t : TypeId) (s : ByteArray) (g : Nat → Option Blk) (hts : ts.toList = [t]) (ht : tyTag P t = 3) : aLen P ts (.string s) g = ret (.int .i64 s.size) := by
  unfold aLen
  rw [hts]
  simp only
  rw [(tag_eq ht).2.2.1 rfl]
theorem eff_len_map (ts : Array TypeId) (t : TypeId) (r : Nat) (g : Nat → Option Blk) (hts : ts.toList = [t]) (ht : tyTag P t = 6) : aLen P ts (.map (some r)) g = match g r with
    | some (.map es _) => ret (.int .i64 es.length)
    | _ => none := by
  unfold aLen
  rw [hts]
  simp only
  obtain ⟨a, b, h⟩ := (tag_eq ht).2.2.2.2.1 rfl
  rw [h]
  rfl
theorem eff_len_arr (ts : Array TypeId) (t : TypeId) (x : Value) (g : Nat → Option Blk) (hts : ts.toList = [t]) {n : Nat} {s : Option Bool × Nat} (ht : arrOf P t = some (n, s)) : aLen P ts x g = ret (.int .i64 n) := by
  unfold aLen
  rw [hts]
  simp only
  unfold arrOf at ht
  cases hu : P.underlying t with
  | none => rw [hu] at ht; simp at ht
  | some d =>
    rw [hu] at ht
    cases d <;> first | (simp at ht; done) | skip
    simp only at ht ⊢
    rename_i n' e
    cases hz : sizeOf? P e with
    | none => rw [hz] at ht; simp at ht
    | some z => rw [hz] at ht; simp only [Option.map_some, Option.some.injEq, Prod.mk.injEq] at ht; rw [ht.1]

theorem firstL_succ (g : Nat → Option Blk) (size n : Nat) (x : Value) : firstL g size (n + 1) x = firstS g size (n + 1) x := rfl
theorem firstL_slc (g : Nat → Option Blk) (size n b off l c : Nat) (xs : List Value) (k : Kind) (hg : g b = some (cellsB xs k)) (h : off + n * size ≤ xs.length) : firstL g size n (.slice (some ⟨b, off, none⟩) l c) = some ((xs.drop off).take (n * size)) := by
  cases n with
  | zero => rw [Nat.zero_mul]; rfl
  | succ n =>
    rw [firstL_succ]
    unfold firstS cellsB at *
    simp only [hg]
    rw [if_pos h, loadL_ofList _ _ _ h]
theorem firstL_zero (g : Nat → Option Blk) (size : Nat) (a : Option Addr) (l c : Nat) : firstL g size 0 (.slice a l c) = some [] := rfl
theorem firstL_nil (g : Nat → Option Blk) (size l c : Nat) : firstL g size 0 (.slice none l c) = some [] := rfl
theorem firstL_str (g : Nat → Option Blk) (s : ByteArray) : firstL g 1 s.size (.string s) = some (s.data.toList.map fun b => .int .u8 b.toNat) := by
  cases hs : s.size with
  | zero =>
    have : s.data.toList = [] := by
      have h : s.data.size = 0 := hs
      exact List.eq_nil_of_length_eq_zero (by rw [Array.length_toList]; exact h)
    rw [this]; rfl
  | succ n =>
    rw [firstL_succ, ← hs]
    unfold firstS
    simp only
    rw [if_pos ⟨trivial, Nat.le_refl _⟩, List.take_of_length_le (by rw [Array.length_toList]; exact Nat.le_refl _)]
theorem lenV_slc (a : Option Addr) (n c : Nat) : lenV (.slice a n c) = some n := rfl
theorem lenV_str (s : ByteArray) : lenV (.string s) = some s.size := rfl

/-- what is known of an append. -/
structure AppT (P : Program) (ts : Array TypeId) (z : List Value) (s mb : Nat) : Prop where
  st : ∃ st xt e i dx, ts.toList = [st, xt] ∧ P.underlying st = some (.slice e) ∧ P.underlying xt = some dx ∧ (∀ k, dx ≠ .int k) ∧ P.info? e = some i ∧ zeroL P e = some z ∧ i.size = s ∧ z.length = s ∧ i.bytes + i.size + 1 = mb ∧ s ≠ 0
/-- .. by a check. -/
def appT (P : Program) (ts : Array TypeId) : Option (List Value × Nat × Nat) := match ts.toList with
  | [st, xt] => match P.underlying st, P.underlying xt with
    | some (.slice e), some (.int _) => match e with | _ => none
    | some (.slice e), some _ => match P.info? e, zeroL P e with
      | some i, some z => if z.length = i.size ∧ i.size ≠ 0 then some (z, i.size, i.bytes + i.size + 1) else none
      | _, _ => none
    | _, _ => none
  | _ => none
theorem appT_ok {ts : Array TypeId} {z : List Value} {s mb : Nat} (h : appT P ts = some (z, s, mb)) : AppT P ts z s mb := by
  unfold appT at h
  split at h <;> try (simp at h; done)
  rename_i st xt hts
  split at h <;> try (simp at h; done)
  rename_i e dx hdx hst hxt
  split at h <;> try (simp at h; done)
  rename_i i z' hi hz
  split at h <;> try (simp at h; done)
  rename_i hc
  simp only [Option.some.injEq, Prod.mk.injEq] at h
  obtain ⟨rfl, rfl, rfl⟩ := h
  exact ⟨st, xt, e, i, dx, hts, hst, hxt, fun k hk => hdx k (by rw [hk]), hi, hz, rfl, hc.1, rfl, hc.2⟩
theorem aAppend_unf {ts : Array TypeId} {z : List Value} {s mb : Nat} (h : AppT P ts z s mb) (base : Option Addr) (sLen sCap n : Nat) (x : Value) (g : Nat → Option Blk) (nx : Nat) (hx : lenV x = some n) (hsz : (sLen + n) * mb * 4 ≤ 2 ^ 40) {new : List Value} (hnew : firstL g s n x = some new) :
    aAppend P ts (.slice base sLen sCap) x g nx = (if sLen + n ≤ sCap then
            match base with
            | none => if n = 0 then ret (.slice none (sLen + n) sCap) else none
            | some ⟨b, off, none⟩ => match g b with
              | some (.cells xs m k) => match k with
                | .ro => if n = 0 then ret (.slice base (sLen + n) sCap) else none
                | _ => if off + (sLen + n) * s ≤ m then some ⟨.slice base (sLen + n) sCap, [(b, .cells (storeL xs (off + sLen * s) new) m k)], []⟩ else none
              | _ => none
            | _ => none
          else match firstL g s sLen (.slice base sLen sCap) with
            | none => none
            | some old =>
              match base with
              | none => some ⟨.slice (some ⟨nx, 0, none⟩) (sLen + n) (sLen + n), [], [.cells (ofList (old ++ new)) (old ++ new).length (.loose s)]⟩
              | some ⟨b, off, none⟩ => match g b with
                | some (.cells _ m k) => match maybeRoom k (off + sCap * s) m s with
                  | some true => some ⟨.slice (some ⟨nx, 0, none⟩) (sLen + n) (sLen + n), [(b, .dead)], [.cells (ofList (old ++ new)) (old ++ new).length k]⟩
                  | some false => some ⟨.slice (some ⟨nx, 0, none⟩) (sLen + n) (sLen + n), [], [.cells (ofList (old ++ new)) (old ++ new).length (.loose s)]⟩
                  | none => none
                | _ => none
              | _ => none) := by
  obtain ⟨st, xt, e, i, dx, hts, hst, hxt, hdx, hi, hz, rfl, hzs, rfl, hs0⟩ := h.st
  unfold aAppend
  rw [hts]
  simp only
  rw [hst, hxt]
  have hsz : ¬(2 ^ 40 < (sLen + n) * (i.bytes + i.size + 1) * 4) := by omega
  cases dx <;> first | (exact absurd rfl (hdx _)) | (simp only [hi, hz, hx, hnew, hsz, hs0, hzs, ne_eq, not_true_eq_false, or_self, if_false]; rfl)
/-- nothing was there: a new row. -/
theorem aAppend_nil {ts : Array TypeId} {z : List Value} {s mb : Nat} (ht : appT P ts = some (z, s, mb)) (n : Nat) (x : Value) (g : Nat → Option Blk) (nx : Nat) (hx : lenV x = some n) (hn : n ≠ 0) (hsz : n * mb * 4 ≤ 2 ^ 40) {new : List Value} (hnew : firstL g s n x = some new) :
    aAppend P ts (.slice none 0 0) x g nx = some ⟨.slice (some ⟨nx, 0, none⟩) n n, [], [cellsB new (.loose s)]⟩ := by
  rw [aAppend_unf (appT_ok ht) none 0 0 n x g nx hx (by simpa using hsz) hnew, if_neg (by omega)]
  have : firstL g s 0 (.slice none 0 0) = some [] := rfl
  rw [this]
  simp only [Nat.zero_add, List.nil_append]
  rfl
/-- a row of its own, from its block's head to its end: it moves. -/
theorem aAppend_loose {ts : Array TypeId} {z : List Value} {s mb : Nat} (ht : appT P ts = some (z, s, mb)) (b m n : Nat) (x : Value) (g : Nat → Option Blk) (nx : Nat) {l : List Value} (hb : g b = some (cellsB l (.loose s))) (hl : l.length = m * s)
    (hx : lenV x = some n) (hn : n ≠ 0) (hsz : (m + n) * mb * 4 ≤ 2 ^ 40) {new : List Value} (hnew : firstL g s n x = some new) :
    aAppend P ts (.slice (some ⟨b, 0, none⟩) m m) x g nx = some ⟨.slice (some ⟨nx, 0, none⟩) (m + n) (m + n), [(b, .dead)], [cellsB (l ++ new) (.loose s)]⟩ := by
  rw [aAppend_unf (appT_ok ht) _ m m n x g nx hx hsz hnew, if_neg (by omega), firstL_slc g s m b 0 m m l (.loose s) hb (by omega)]
  simp only [List.drop_zero]
  rw [List.take_of_length_le (by omega), hb]
  unfold cellsB maybeRoom
  simp [hl]
end Go.AM
