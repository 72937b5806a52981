/- Specials for the library's texts: IndexByte, Compare, Repeat, a Builder's copyCheck and String. -/
import Derived.Test.YtkkdpbicppdglaaGreatDoorAmAwake
import Derived.Shelf.Strings.Repeat
import Derived.Shelf.Strings.Search1
import Derived.Shelf.Small.Strs
namespace Go.AM
open Go.Proofs Go.Shelf Go.RowKit
variable {P : Program} {ρ : Ren} {ng : Nat}

/- ## what is new and none's -/
theorem HRel.other {m : Mp} {G : Nat → Option Blk} {w w' : World} (h : HRel m G w) (hw : ∀ b l, m b = .live l → w'.heap[l.cb]? = w.heap[l.cb]?) : HRel m G w' :=
  ⟨fun b => (h.blk b).mono (.refl m) (fun l hl => hw b l hl), h.inj⟩
theorem HRel.below {m : Mp} {G : Nat → Option Blk} {w w' : World} (h : HRel m G w) (hb : Below w.heap.size w w') : HRel m G w' ∧ Step m w m w' :=
  ⟨h.other fun _ _ hl => hb.block _ (h.lt hl), .refl m, hb.size, hb.os, hb.output, fun cb hc _ => hb.block cb hc, fun b l hl hr => .inr ⟨b, l, hl, hr, rfl⟩, fun _ _ hl _ => hl⟩

/-- a function that computes. -/
noncomputable def pureF (v : List Value → Option Value) (_ : Caller) (args : List Value) (h : Heap) : Option (Out × Heap) := (v args).map fun r => (.ret r, h)
theorem pureF_ok {v : List Value → Option Value} {f : FuncId} (hen : Enter P f)
    (hv : ∀ args r, v args = some r → args.all plainCell = true ∧ plainCell r = true ∧ ∀ w, Calls P f args.toArray w fun e w' => e = .returned r ∧ Below w.heap.size w w') (cl : Caller) :
    CallOkAt P ng f (pureF v cl) := by
  intro args h o h' hr hwf
  unfold pureF at hr
  obtain ⟨r, h1, h2⟩ := Option.map_eq_some_iff.1 hr
  simp only [Prod.mk.injEq] at h2
  obtain ⟨rfl, rfl⟩ := h2
  obtain ⟨p1, p2, p3⟩ := hv args r h1
  refine ⟨hen, hwf, Nat.le_refl _, fun N F m w args' hN hh hgl ha => ?_⟩
  rw [plainCells_eq p1 ha]
  refine (p3 w).mono ?_
  rintro e w' ⟨rfl, hb⟩
  obtain ⟨q1, q2⟩ := hh.below hb
  exact ⟨m, ⟨r, rfl, (plainCell_rel p2).1⟩, q1, q2⟩

/- ## IndexByte -/
noncomputable def idxA (l : List UInt8) (c : Nat) (i : Nat) : Int :=
  List.rec (motive := fun _ => Nat → Int) (fun _ => Int.negSucc 0) (fun b _ ih i => cond (Nat.beq b.toNat c) (Int.ofNat i) (ih (Nat.succ i))) l i
theorem idxA_eq (l : List UInt8) (c : UInt8) : ∀ i, idxA l c.toNat i = if Lib.indexByte l c = -1 then -1 else Lib.indexByte l c + i := by
  have hnn : ∀ l : List UInt8, Lib.indexByte l c = -1 ∨ 0 ≤ Lib.indexByte l c := by
    intro l
    induction l with
    | nil => exact .inl rfl
    | cons b r ih =>
      unfold Lib.indexByte
      by_cases h1 : (b == c) = true
      · rw [if_pos h1]; exact .inr (by omega)
      · rw [if_neg h1]
        by_cases h2 : (Lib.indexByte r c == -1) = true
        · rw [if_pos h2]; exact .inl rfl
        · rw [if_neg h2]
          rcases ih with h | h
          · exact absurd (by rw [h]; rfl) h2
          · exact .inr (by omega)
  induction l with
  | nil => intro i; rfl
  | cons b r ih =>
    intro i
    show cond (Nat.beq b.toNat c.toNat) (Int.ofNat i) (idxA r c.toNat (i + 1)) = _
    unfold Lib.indexByte
    by_cases h1 : b = c
    · subst h1
      rw [Nat.beq_refl]
      simp
    · have h2 : Nat.beq b.toNat c.toNat = false := by
        rw [← Bool.not_eq_true, Nat.beq_eq]
        exact fun e => h1 (UInt8.toNat_inj.1 e)
      rw [h2, cond_false, ih]
      have h3 : (b == c) = false := by simpa using h1
      rw [h3]
      simp only [Bool.false_eq_true, if_false]
      by_cases h4 : Lib.indexByte r c = -1
      · simp [h4]
      · have h5 := (hnn r).resolve_left h4
        have h6 : (Lib.indexByte r c == -1) = false := by simpa using h4
        rw [if_neg h4, h6]
        simp only [Bool.false_eq_true, if_false]
        rw [if_neg (by omega), Int.natCast_succ]
        omega
noncomputable def idxV (args : List Value) : Option Value := match args with
  | [.string s, .int .u8 (.ofNat c)] => cond (Nat.blt c 256) (some (.int .i64 (idxA s.data.toList c 0))) none
  | _ => none
theorem idxF_ok (L : Lays.n217 P ρ) (hen : Enter P (ρ.f 217)) (cl : Caller) : CallOkAt P ng (ρ.f 217) (pureF idxV cl) := by
  refine pureF_ok hen ?_ cl
  intro args r hr
  unfold idxV at hr
  split at hr <;> try (simp at hr; done)
  rename_i s c
  cases hc : Nat.blt c 256 with
  | false => rw [hc] at hr; simp at hr
  | true =>
    rw [hc] at hr
    simp only [cond_true, Option.some.injEq] at hr
    subst hr
    have hc : c < 256 := by simpa [Nat.blt_eq] using hc
    refine ⟨rfl, rfl, fun w => (Any.stringslite_IndexByte L s (.ofNat c) w).mono ?_⟩
    rintro e w' ⟨rfl, rfl⟩
    refine ⟨?_, Below.refl _ _⟩
    have := idxA_eq s.data.toList c.toUInt8 0
    have hcn : c.toUInt8.toNat = c := by simp [Nat.toUInt8]; omega
    rw [hcn] at this
    rw [this]
    show Ending.returned (.int .i64 (Lib.indexByte s.data.toList c.toUInt8)) = _
    congr 2
    by_cases h : Lib.indexByte s.data.toList c.toUInt8 = -1
    · rw [if_pos h]; exact h
    · rw [if_neg h]; simp

/- ## Compare -/
noncomputable def cmpA (a b : List UInt8) : Int :=
  List.rec (motive := fun _ => List UInt8 → Int) (fun b => List.rec (motive := fun _ => Int) (Int.ofNat 0) (fun _ _ _ => Int.negSucc 0) b)
    (fun x _ ih b => List.rec (motive := fun _ => Int) (Int.ofNat 1) (fun y s _ => cond (Nat.blt x.toNat y.toNat) (Int.negSucc 0) (cond (Nat.blt y.toNat x.toNat) (Int.ofNat 1) (ih s))) b) a b
theorem cmpA_eq : ∀ (a b : List UInt8), cmpA a b = Lib.compareBytes a b
  | [], [] => rfl
  | [], _ :: _ => rfl
  | _ :: _, [] => rfl
  | x :: a, y :: b => by
    show cond (Nat.blt x.toNat y.toNat) (Int.negSucc 0) (cond (Nat.blt y.toNat x.toNat) (Int.ofNat 1) (cmpA a b)) = _
    unfold Lib.compareBytes
    rw [cmpA_eq a b]
    have e1 : Nat.blt x.toNat y.toNat = decide (x < y) := by
      rw [Bool.eq_iff_iff, Nat.blt_eq, decide_eq_true_iff, UInt8.lt_iff_toNat_lt]
    have e2 : Nat.blt y.toNat x.toNat = decide (y < x) := by
      rw [Bool.eq_iff_iff, Nat.blt_eq, decide_eq_true_iff, UInt8.lt_iff_toNat_lt]
    rw [e1, e2]
    by_cases h1 : x < y
    · simp [h1]
    · by_cases h2 : y < x <;> simp [h1, h2]
noncomputable def cmpV (args : List Value) : Option Value := match args with
  | [.string s, .string t] => some (.int .i64 (cmpA s.data.toList t.data.toList))
  | _ => none
theorem cmpF_ok (L : Lays.n213 P ρ) (hen : Enter P (ρ.f 213)) (cl : Caller) : CallOkAt P ng (ρ.f 213) (pureF cmpV cl) := by
  refine pureF_ok hen ?_ cl
  intro args r hr
  unfold cmpV at hr
  split at hr <;> try (simp at hr; done)
  rename_i s t
  simp only [Option.some.injEq] at hr
  subst hr
  refine ⟨rfl, rfl, fun w => (Any.bytealg_CompareString L s t w).mono ?_⟩
  rintro e w' ⟨rfl, rfl⟩
  exact ⟨by rw [cmpA_eq], Below.refl _ _⟩

/- ## Repeat -/
noncomputable def repB (l : List UInt8) (n : Nat) : List UInt8 := Nat.rec (motive := fun _ => List UInt8) [] (fun _ ih => l ++ ih) n
theorem repB_eq (l : List UInt8) : ∀ n, repB l n = Lib.repeatL l n
  | 0 => rfl
  | n + 1 => by show l ++ repB l n = _; rw [repB_eq l n]; rfl
noncomputable def repV (args : List Value) : Option Value := match args with
  | [.string s, .int .i64 (.ofNat n)] => cond (Nat.ble n 1000000 && Nat.ble s.size 1000000) (some (.string ⟨(repB s.data.toList n).toArray⟩)) none
  | _ => none
theorem repF_ok (L : Lays.n105 P ρ) (X : Builder.Extra P ρ) (hen : Enter P (ρ.f 105)) (cl : Caller) : CallOkAt P ng (ρ.f 105) (pureF repV cl) := by
  refine pureF_ok hen ?_ cl
  intro args r hr
  unfold repV at hr
  split at hr <;> try (simp at hr; done)
  rename_i s n
  cases hc : (Nat.ble n 1000000 && Nat.ble s.size 1000000) with
  | false => rw [hc] at hr; simp at hr
  | true =>
    rw [hc] at hr
    simp only [cond_true, Option.some.injEq] at hr
    subst hr
    simp only [Bool.and_eq_true] at hc
    have h1 := Nat.le_of_ble_eq_true hc.1
    have h2 := Nat.le_of_ble_eq_true hc.2
    have h3 : s.size * n ≤ 1000000 * 1000000 := Nat.mul_le_mul h2 h1
    refine ⟨rfl, rfl, fun w => (Any.strings_Repeat L X s n w (by omega) (by omega)).mono ?_⟩
    rintro e w' ⟨rfl, hb⟩
    exact ⟨by rw [repB_eq], hb⟩

/- ## copyCheck -/
noncomputable def ccF (tb : Nat) (_ : Caller) (args : List Value) (h : Heap) : Option (Out × Heap) := match args with
  | [.pointer (some ⟨b, off, none⟩)] => cond (Nat.beq off 0) (match h.get b with
    | some (.cells xs n (.bld t)) => cond (Nat.beq t tb && Nat.beq n 2) (match xs.get 0 with
      | some (.pointer none) => some (.ret (.tuple #[]), ⟨h.t.set b (.cells (storeL xs 0 [.pointer (some ⟨b, 0, none⟩)]) n (.bld t)), h.nx⟩)
      | some (.pointer (some ⟨b', o', none⟩)) => cond (Nat.beq b' b && Nat.beq o' 0) (some (.ret (.tuple #[]), h)) none
      | _ => none) none
    | _ => none) none
  | _ => none
theorem set_eq {w : World} {cb : Nat} {c : Array Value} {el : TypeId} {fr : Nat × Nat} (h : w.heap[cb]? = some (.cells c el fr)) (v : Value) :
    w.setCell ⟨cb, 0, none⟩ v = { w with heap := w.heap.setIfInBounds cb (.cells (overA c 0 [v]) el fr) } := by
  unfold World.setCell
  congr 1
  apply Array.ext_getElem?
  intro k
  rw [Array.getElem?_modify, Array.getElem?_setIfInBounds]
  by_cases e : cb = k
  · subst e
    have hlt : cb < w.heap.size := by
      rcases Nat.lt_or_ge cb w.heap.size with h' | h'
      · exact h'
      · rw [Array.getElem?_eq_none h'] at h; cases h
    simp only [if_true, hlt, h, Option.map_some, Option.isSome_none, Bool.false_eq_true, if_false]
    rfl
  · rw [if_neg e, if_neg e]
theorem ccF_ok (L : Lays.n240 P ρ) (X : Builder.X72 P ρ) (hen : Enter P (ρ.f 240)) (cl : Caller) : CallOkAt P ng (ρ.f 240) (ccF (ρ.t 72) cl) := by
  intro args h o h' hr hwf
  unfold ccF at hr
  split at hr <;> try (simp at hr; done)
  rename_i b off
  cases ho : Nat.beq off 0 with
  | false => rw [ho] at hr; simp at hr
  | true =>
  rw [ho] at hr
  obtain rfl := Nat.eq_of_beq_eq_true ho
  simp only [cond_true] at hr
  split at hr <;> try (simp at hr; done)
  rename_i xs n t hg
  cases ht : (Nat.beq t (ρ.t 72) && Nat.beq n 2) with
  | false => rw [ht] at hr; simp at hr
  | true =>
  rw [ht] at hr
  simp only [Bool.and_eq_true] at ht
  obtain rfl := Nat.eq_of_beq_eq_true ht.1
  obtain rfl := Nat.eq_of_beq_eq_true ht.2
  simp only [cond_true] at hr
  have key : ∀ (N : Nat) (F : Nat → Option Blk) (m : Mp) (w : World) (args' : List Value), h.nx ≤ N → HRel m (mix h N F) w → VRels m [.pointer (some ⟨b, 0, none⟩)] args' →
      ∃ l c v v', m b = .live l ∧ AtCells m w xs 2 (.bld (ρ.t 72)) l c (ρ.t 72) (0, 0) ∧ l.rw = true ∧ l.sh = 0 ∧ c.size = 2 ∧ args' = [.pointer (some ⟨l.cb, 0, none⟩)] ∧ xs.get 0 = some v ∧ w.cell? ⟨l.cb, 0, none⟩ = some v' ∧ VRel m v v' ∧
        w.shape? l.cb = some (ρ.t 72, 2) ∧ w.frozen? ⟨l.cb, 0, none⟩ = false := by
    intro N F m w args' hN hh ha
    obtain ⟨l, hm, c, el, fr, hc⟩ := hh.cells hwf hN hg
    obtain ⟨k1, k2, k3, k4, k5⟩ : l.rw = true ∧ l.sh = 0 ∧ l.csz = 2 ∧ fr = (0, 0) ∧ el = ρ.t 72 := hc.kind
    subst k4; subst k5
    obtain ⟨v, v', g1, g2, _, g4⟩ := hc.cell 0 (by omega)
    rw [k2] at g2
    have hcs : c.size = 2 := by rw [hc.csz, k3]
    have hheap := hc.heap
    cases ha with
    | cons _ a' _ r' ha hr' =>
    cases hr'
    have := ptr_live ha hm
    rw [k2] at this
    exact ⟨l, c, v, v', hm, hc, k1, k2, hcs, by rw [this], g1, by rw [cell_at hheap]; exact g2, g4, by simp [World.shape?, hheap, hcs], by rw [frozen_at hheap]; simp⟩
  split at hr <;> try (simp at hr; done)
  · rename_i hx0
    simp only [Option.some.injEq, Prod.mk.injEq] at hr
    obtain ⟨rfl, rfl⟩ := hr
    refine ⟨hen, ?_, Nat.le_refl _, fun N F m w args' hN hh hgl ha => ?_⟩
    · intro b' hb'
      have hne : b' ≠ b := by
        intro e; subst e
        have := hwf b' hb'
        rw [this] at hg; cases hg
      show (h.t.set b _).get b' = none
      rw [Trie.get_set_ne _ _ hne]
      exact hwf b' hb'
    · obtain ⟨l, c, v, v', hm, hc, k1, k2, hcs, rfl, g1, g2, g4, g5, g6⟩ := key N F m w args' hN hh ha
      rw [hx0] at g1
      simp only [Option.some.injEq] at g1
      subst g1
      cases g4
      refine (Any.Builder_copyCheck_fresh L X l.cb w g2 g5 g6).mono ?_
      rintro e w' ⟨rfl, rfl⟩
      have hN' : h.nx ≤ N := hN
      have hbr := wr_cells hc (off := 0) (vs := [.pointer (some ⟨b, 0, none⟩)]) (vs' := [.pointer (some ⟨l.cb, l.sh + 0, none⟩)]) (by simp) (.cons _ _ _ _ (.ptr b 0 l hm) .nil) rfl
      obtain ⟨r1, r2⟩ := wr_rel (v := .tuple #[]) hh (lt_of_get hwf hN' hg) hm k1 hbr
      rw [k2] at r1 r2
      rw [set_eq hc.heap]
      exact ⟨m, ⟨_, rfl, .undef⟩, r1, r2⟩
  · rename_i b' o' hx0
    cases hq : (Nat.beq b' b && Nat.beq o' 0) with
    | false => rw [hq] at hr; simp at hr
    | true =>
    rw [hq] at hr
    simp only [Bool.and_eq_true] at hq
    obtain rfl := Nat.eq_of_beq_eq_true hq.1
    obtain rfl := Nat.eq_of_beq_eq_true hq.2
    simp only [cond_true, Option.some.injEq, Prod.mk.injEq] at hr
    obtain ⟨rfl, rfl⟩ := hr
    refine ⟨hen, hwf, Nat.le_refl _, fun N F m w args' hN hh hgl ha => ?_⟩
    obtain ⟨l, c, v, v', hm, hc, k1, k2, hcs, rfl, g1, g2, g4, g5, g6⟩ := key N F m w args' hN hh ha
    rw [hx0] at g1
    simp only [Option.some.injEq] at g1
    subst g1
    have := ptr_live g4 hm
    subst this
    rw [k2] at g2
    refine (Any.Builder_copyCheck_used L X l.cb w g2).mono ?_
    rintro e w' ⟨rfl, rfl⟩
    exact ⟨m, ⟨_, rfl, .undef⟩, hh, .refl m w'⟩
end Go.AM
