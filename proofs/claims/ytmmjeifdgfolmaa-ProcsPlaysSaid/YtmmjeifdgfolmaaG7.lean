/- Lemmas of the claim: the machine of the proof and the walks of the program. Conditions: as each says. -/
import Derived.Test.YtmmjeifdgfolmaaG6
section
/- The program's reading of processes and the answer's are one. Plain Lean. -/
namespace Go.Proofs.Ytmmjeifdgfolmaa
open Go.AM
/-- one step up; from 0 no further. -/
def stepP (pa : Int → Int) (x : Int) : Int := if x = 0 then 0 else pa x
def itP (pa : Int → Int) : Nat → Int → Int
  | 0, x => x
  | k + 1, x => itP pa k (stepP pa x)
theorem itP_zero {pa : Int → Int} : ∀ k, itP pa k 0 = 0
  | 0 => rfl
  | k + 1 => by show itP pa k (stepP pa 0) = 0; unfold stepP; rw [if_pos rfl]; exact itP_zero k
theorem rootQ_it {pa : Int → Int} : ∀ (f : Nat) (x : Int), rootQ pa (f + 1) x = decide (itP pa f x = 0)
  | 0, x => by
    show (if x = 0 then true else false) = decide (x = 0)
    by_cases h : x = 0
    · rw [if_pos h, decide_eq_true h]
    · rw [if_neg h, decide_eq_false h]
  | f + 1, x => by
    show (if x = 0 then true else rootQ pa (f + 1) (pa x)) = decide (itP pa f (stepP pa x) = 0)
    by_cases h : x = 0
    · rw [if_pos h, h]
      unfold stepP
      rw [if_pos rfl, itP_zero, decide_eq_true rfl]
    · rw [if_neg h, rootQ_it f]
      unfold stepP
      rw [if_neg h]
theorem it_succ {pa : Int → Int} : ∀ (k : Nat) (x : Int), itP pa k x = 0 → itP pa (k + 1) x = 0
  | 0, x, h => by
    have h : x = 0 := h
    rw [h]; exact itP_zero 1
  | k + 1, x, h => it_succ k (stepP pa x) h
/-- eight persons: who comes to an end comes to it in eight steps. -/
theorem it_eight {pa : Int → Int} (hpa : ∀ m : Int, 1 ≤ m → m < 9 → 0 ≤ pa m ∧ pa m ≤ 8) {x : Int} (hx : 0 ≤ x ∧ x ≤ 8) {k : Nat} (hk : itP pa k x = 0) : itP pa 8 x = 0 := by
  let S : Nat → List Nat := fun k => (List.range 9).filter fun n => decide (1 ≤ n) && decide (itP pa k n = 0)
  have hst : ∀ n : Nat, 1 ≤ n → n ≤ 8 → ∃ q : Nat, stepP pa n = q ∧ q ≤ 8 := fun n h1 h2 => by
    have := hpa n (by omega) (by omega)
    refine ⟨(pa n).toNat, ?_, by omega⟩
    unfold stepP
    rw [if_neg (by omega)]; omega
  -- if nobody is new at one step, nobody is new later
  have stable : ∀ j, (∀ n : Nat, n ≤ 8 → itP pa (j + 1) n = 0 → itP pa j n = 0) → ∀ m, j ≤ m → ∀ n : Nat, n ≤ 8 → itP pa m n = 0 → itP pa j n = 0 := by
    intro j hj m hm
    induction m with
    | zero => intro n _ h; obtain rfl : j = 0 := by omega
              exact h
    | succ m ih =>
      intro n hn h
      by_cases e : j = m + 1
      · rw [e]; exact h
      · by_cases h0 : n = 0
        · rw [h0]; exact itP_zero j
        · obtain ⟨q, hq, hq8⟩ := hst n (by omega) hn
          have h : itP pa m (stepP pa n) = 0 := h
          rw [hq] at h
          have := ih (by omega) q hq8 h
          refine hj n hn ?_
          show itP pa j (stepP pa n) = 0
          rw [hq]; exact this
  have grow : ∀ j, (∃ i, i ≤ j ∧ ∀ n : Nat, n ≤ 8 → itP pa (i + 1) n = 0 → itP pa i n = 0) ∨ j + 1 ≤ (S (j + 1)).length := by
    intro j
    induction j with
    | zero =>
      by_cases h : ∀ n : Nat, n ≤ 8 → itP pa 1 n = 0 → itP pa 0 n = 0
      · exact .inl ⟨0, Nat.le_refl _, h⟩
      · right
        simp only [Classical.not_forall] at h
        obtain ⟨n, hn, h1, h0⟩ := h
        have := Go.AM.filter_lt (p := fun n => decide (1 ≤ n) && decide (itP pa 1 n = 0)) (q := fun n => decide (1 ≤ n) && decide (itP pa 0 n = 0)) (fun y hy => by
          rw [Bool.and_eq_true, decide_eq_true_eq, decide_eq_true_eq] at hy ⊢
          exact ⟨hy.1, it_succ 0 _ hy.2⟩) (x := n) (by
          rw [Bool.and_eq_true, decide_eq_true_eq, decide_eq_true_eq]
          refine ⟨?_, h1⟩
          rcases Nat.eq_zero_or_pos n with q | q
          · exact absurd (by rw [q]; rfl) h0
          · exact q) (by rw [Bool.and_eq_false_iff]; right; exact decide_eq_false h0) (List.range 9) (List.mem_range.2 (by omega))
        show 1 ≤ (S 1).length
        exact Nat.lt_of_le_of_lt (Nat.zero_le _) this
    | succ j ih =>
      rcases ih with ⟨i, hi, h⟩ | ih
      · exact .inl ⟨i, by omega, h⟩
      · by_cases h : ∀ n : Nat, n ≤ 8 → itP pa (j + 1 + 1) n = 0 → itP pa (j + 1) n = 0
        · exact .inl ⟨j + 1, Nat.le_refl _, h⟩
        · right
          simp only [Classical.not_forall] at h
          obtain ⟨n, hn, h1, h0⟩ := h
          have := Go.AM.filter_lt (p := fun n => decide (1 ≤ n) && decide (itP pa (j + 1 + 1) n = 0)) (q := fun n => decide (1 ≤ n) && decide (itP pa (j + 1) n = 0)) (fun y hy => by
            rw [Bool.and_eq_true, decide_eq_true_eq, decide_eq_true_eq] at hy ⊢
            exact ⟨hy.1, it_succ (j + 1) _ hy.2⟩) (x := n) (by
            rw [Bool.and_eq_true, decide_eq_true_eq, decide_eq_true_eq]
            refine ⟨?_, h1⟩
            rcases Nat.eq_zero_or_pos n with q | q
            · exact absurd (by rw [q]; exact itP_zero _) h0
            · exact q) (by rw [Bool.and_eq_false_iff]; right; exact decide_eq_false h0) (List.range 9) (List.mem_range.2 (by omega))
          show j + 1 + 1 ≤ (S (j + 1 + 1)).length
          exact Nat.lt_of_le_of_lt ih this
  obtain ⟨n, rfl⟩ : ∃ n : Nat, x = n := ⟨x.toNat, by omega⟩
  rcases grow 7 with ⟨i, hi, h⟩ | h
  · have h8 : ∀ m, i ≤ m → itP pa m n = 0 → itP pa 8 n = 0 := fun m hm hz => by
      have h0 := stable i h m hm n (by omega) hz
      have up : ∀ d, itP pa (i + d) n = 0 := fun d => by
        induction d with
        | zero => exact h0
        | succ d ih => exact it_succ _ _ ih
      have := up (8 - i)
      rwa [show i + (8 - i) = 8 by omega] at this
    by_cases hm : i ≤ k
    · exact h8 k hm hk
    · have up : ∀ d, itP pa (k + d) n = 0 := fun d => by
        induction d with
        | zero => exact hk
        | succ d ih => exact it_succ _ _ ih
      have := up (8 - k)
      rwa [show k + (8 - k) = 8 by omega] at this
  · -- all eight
    by_cases hz : itP pa 8 n = 0
    · exact hz
    · exfalso
      by_cases n0 : n = 0
      · exact hz (by rw [n0]; exact itP_zero 8)
      have h1 := Go.AM.filter_lt (p := fun n => decide (1 ≤ n)) (q := fun n => decide (1 ≤ n) && decide (itP pa 8 n = 0)) (fun y hy => by
        rw [Bool.and_eq_true] at hy; exact hy.1) (x := n) (decide_eq_true (by omega)) (by rw [Bool.and_eq_false_iff]; right; exact decide_eq_false hz) (List.range 9) (List.mem_range.2 (by omega))
      have h2 : ((List.range 9).filter fun n => decide (1 ≤ n)).length = 8 := by decide
      rw [h2] at h1
      have h : 8 ≤ ((List.range 9).filter fun n : Nat => decide (1 ≤ n) && decide (itP pa 8 (n : Int) = 0)).length := h
      omega
theorem chain_reach {pa : Int → Int} {ex : Int → Bool} : ∀ (f : Nat) (p : Int), chainQ pa ex f p = true → ∃ k, itP pa k p = 0
  | 0, _, h => by cases h
  | f + 1, p, h => by
    unfold chainQ at h
    by_cases hp : p = 0
    · exact ⟨0, hp⟩
    · rw [if_neg hp] at h
      cases he : ex p with
      | false => rw [he] at h; cases h
      | true =>
        rw [he] at h
        obtain ⟨k, hk⟩ := chain_reach f (pa p) h
        refine ⟨k + 1, ?_⟩
        show itP pa k (stepP pa p) = 0
        unfold stepP
        rw [if_neg hp]; exact hk
theorem reach_up {pa : Int → Int} {m : Int} (hm : m ≠ 0) {k : Nat} (h : itP pa k (pa m) = 0) : itP pa (k + 1) m = 0 := by
  show itP pa k (stepP pa m) = 0
  unfold stepP
  rw [if_neg hm]; exact h
section
variable {W : List Int} (hW : W.length = 24) (hw : ∀ y ∈ W, 0 ≤ y ∧ y < 18446744073709551616)
include hW hw
theorem nn (k : Nat) (hk : k < 24) : (0 : Int) ≤ W[k]! ∧ W[k]! < 18446744073709551616 := by
  rw [getElem!_pos W k (by omega)]; exact hw _ (List.getElem_mem _)
theorem stI_eq {m : Int} (h1 : 1 ≤ m) (h2 : m < 9) (h : stW W m ≤ 2) : stI W m = stW W m ∧ 0 ≤ stW W m := by
  have b1 : 0 ≤ stW W m := (nn hW hw (3 * m - 3).toNat (by omega)).1
  exact ⟨by unfold stI; exact wrapI (by omega) (by omega), b1⟩
theorem paI_eq {m : Int} (h1 : 1 ≤ m) (h2 : m < 9) (h : paW W m ≤ 8) : paI W m = paW W m ∧ 0 ≤ paW W m := by
  have b1 : 0 ≤ paW W m := (nn hW hw (3 * m - 2).toNat (by omega)).1
  exact ⟨by unfold paI; exact wrapI (by omega) (by omega), b1⟩
theorem suI_zero {m : Int} (h1 : 1 ≤ m) (h2 : m < 9) : suI W m = 0 ↔ suW W m = 0 := by
  have b1 : 0 ≤ suW W m ∧ suW W m < 18446744073709551616 := nn hW hw (3 * m - 1).toNat (by omega)
  have := wrapUI b1.1 b1.2
  unfold suI
  constructor
  · intro h; rw [h] at this; rw [← this]; rfl
  · intro h; rw [h]; rfl
end
theorem ex_iff {W : List Int} {m : Int} : exW W 9 m = true ↔ 1 ≤ m ∧ m < 9 ∧ stW W m ≠ 0 := by
  unfold exW
  rw [decide_eq_true_eq]
  constructor
  · rintro ⟨a, b, c⟩; exact ⟨a, by omega, c⟩
  · rintro ⟨a, b, c⟩; exact ⟨a, by omega, c⟩
theorem acc_iff {W : List Int} (hw : ∀ y ∈ W, 0 ≤ y ∧ y < 18446744073709551616) : accW W ↔ accR W := by
  constructor
  · rintro ⟨h24, hok, hri⟩
    have hst := fun (m : Int) (a : 1 ≤ m) (b : m < 9) => stI_eq h24 hw a b (hok m a b).1
    have hpa := fun (m : Int) (a : 1 ≤ m) (b : m < 9) => paI_eq h24 hw a b (hok m a b).2.1
    have hp8 : ∀ m : Int, 1 ≤ m → m < 9 → 0 ≤ paI W m ∧ paI W m ≤ 8 := fun m a b => by
      have := hpa m a b; have := (hok m a b).2.1; omega
    have live : ∀ m : Int, exW W 9 m = true → zW W m = false → chainQ (paI W) (exW W 9) 9 (paI W m) = true := fun m h hz => by
      have := hri m h
      unfold rightW at this
      rw [hz] at this
      exact this
    have zomb : ∀ m : Int, exW W 9 m = true → zW W m = true → exW W 9 (paI W m) = true ∧ zW W (paI W m) = false ∧ paI W m ≠ 0 := fun m h hz => by
      have := hri m h
      unfold rightW at this
      rw [hz] at this
      simp only [if_true, Bool.and_eq_true, Bool.not_eq_true', decide_eq_true_eq] at this
      exact ⟨this.1.1, this.1.2, this.2⟩
    have reach : ∀ m : Int, 1 ≤ m → m < 9 → ∃ k, itP (paI W) k m = 0 := fun m a b => by
      by_cases hs : stW W m = 0
      · have := ((hok m a b).2.2.1 hs).1
        have hp := (hpa m a b).1
        exact ⟨1, reach_up (k := 0) (by omega) (by show paI W m = 0; omega)⟩
      · have hex := ex_iff.2 ⟨a, b, hs⟩
        cases hz : zW W m with
        | false =>
          obtain ⟨k, hk⟩ := chain_reach _ _ (live m hex hz)
          exact ⟨k + 1, reach_up (by omega) hk⟩
        | true =>
          obtain ⟨e1, e2, e3⟩ := zomb m hex hz
          obtain ⟨k, hk⟩ := chain_reach _ _ (live _ e1 e2)
          have := ex_iff.1 e1
          exact ⟨k + 1 + 1, reach_up (by omega) (reach_up e3 hk)⟩
    refine ⟨h24, fun m a b => ⟨(hok m a b).1, (hok m a b).2.1⟩, fun m a b => ⟨?_, ?_⟩⟩
    · have hs := hst m a b
      have ho := hok m a b
      have ho1 : stW W m ≤ 2 := ho.1
      have hp := hpa m a b
      unfold okb
      by_cases s0 : stW W m = 0
      · rw [if_pos (by omega)]
        have z := ho.2.2.1 s0
        have z2 := (suI_zero h24 hw a b).2 z.2
        rw [z2, show paI W m = 0 by omega]; rfl
      · rw [if_neg (by omega)]
        have hex := ex_iff.2 ⟨a, b, s0⟩
        by_cases s1 : stW W m = 1
        · rw [if_pos (by omega), (suI_zero h24 hw a b).2 (ho.2.2.2 s1)]
          have hl := live m hex (by unfold zW; exact decide_eq_false (by omega))
          unfold chainQ at hl
          by_cases p0 : paI W m = 0
          · rw [decide_eq_true p0]; rfl
          · rw [if_neg p0] at hl
            cases he : exW W 9 (paI W m) with
            | false => rw [he] at hl; cases hl
            | true =>
              have q := ex_iff.1 he
              have q2 := hst _ q.1 q.2.1
              rw [decide_eq_true (show stI W (paI W m) ≠ 0 by rw [q2.1]; exact q.2.2), Bool.or_true]; rfl
        · rw [if_neg (by omega)]
          obtain ⟨e1, e2, e3⟩ := zomb m hex (by unfold zW; exact decide_eq_true (by omega))
          have q := ex_iff.1 e1
          have q2 := hst _ q.1 q.2.1
          have q3 := (hok _ q.1 q.2.1).1
          have q4 : stW W (paI W m) ≠ 2 := of_decide_eq_false e2
          rw [decide_eq_true (show stI W (paI W m) ≠ 0 by rw [q2.1]; exact q.2.2), Bool.or_true, decide_eq_true (show 1 ≤ paI W m ∧ paI W m ≤ 8 by omega), decide_eq_true (show stI W (paI W m) = 1 by omega)]; rfl
    · rw [rootQ_it 8]
      obtain ⟨k, hk⟩ := reach m a b
      exact decide_eq_true (it_eight hp8 (by omega) hk)
  · rintro ⟨h24, hv, hok⟩
    have hst := fun (m : Int) (a : 1 ≤ m) (b : m < 9) => stI_eq h24 hw a b (hv m a b).1
    have hpa := fun (m : Int) (a : 1 ≤ m) (b : m < 9) => paI_eq h24 hw a b (hv m a b).2
    have up : ∀ m : Int, 1 ≤ m → m < 9 → stW W m ≠ 0 → paI W m = 0 ∨ (1 ≤ paI W m ∧ paI W m < 9 ∧ stW W (paI W m) ≠ 0) := fun m a b hs => by
      have ho := (hok m a b).1
      have h1 := hst m a b
      have h2 := hpa m a b
      have h3 := (hv m a b).2
      by_cases p0 : paI W m = 0
      · exact .inl p0
      · right
        have h4 := hst (paI W m) (by omega) (by omega)
        refine ⟨by omega, by omega, fun hz => ?_⟩
        unfold okb at ho
        rw [if_neg (by omega), decide_eq_false p0, decide_eq_false (show ¬ stI W (paI W m) ≠ 0 by omega)] at ho
        split at ho <;> simp at ho
    have chain : ∀ (f : Nat) (p : Int), rootQ (paI W) f p = true → (p = 0 ∨ (1 ≤ p ∧ p < 9 ∧ stW W p ≠ 0)) → chainQ (paI W) (exW W 9) f p = true := by
      intro f
      induction f with
      | zero => intro p h _; cases h
      | succ f ih =>
        intro p h hp
        unfold rootQ at h
        unfold chainQ
        by_cases p0 : p = 0
        · rw [if_pos p0]
        · rw [if_neg p0] at h ⊢
          rcases hp with hp | ⟨q1, q2, q3⟩
          · exact absurd hp p0
          · rw [ex_iff.2 ⟨q1, q2, q3⟩]
            exact ih _ h (up p q1 q2 q3)
    refine ⟨h24, fun m a b => ?_, fun m hm => ?_⟩
    · have ho := (hok m a b).1
      have h1 := hst m a b
      have h2 := hpa m a b
      have h3 := hv m a b
      have h4 := suI_zero h24 hw a b
      unfold okb at ho
      refine ⟨h3.1, h3.2, fun s0 => ?_, fun s1 => ?_⟩
      · rw [if_pos (by omega), Bool.and_eq_true, beq_iff_eq, beq_iff_eq] at ho
        exact ⟨by omega, h4.1 ho.2⟩
      · rw [if_neg (by omega), if_pos (by omega), Bool.and_eq_true, decide_eq_true_eq] at ho
        exact h4.1 ho.2
    · obtain ⟨a, b, hs⟩ := ex_iff.1 hm
      have ho := (hok m a b).1
      have h1 := hst m a b
      have h3 := hv m a b
      unfold rightW
      by_cases s2 : stW W m = 2
      · rw [show zW W m = true from decide_eq_true s2]
        unfold okb at ho
        rw [if_neg (by omega), if_neg (by omega), Bool.and_eq_true, Bool.and_eq_true, decide_eq_true_eq, decide_eq_true_eq] at ho
        have q := ho.2
        have h5 := hst (paI W m) q.1.1 (by omega)
        rw [ex_iff.2 ⟨q.1.1, by omega, by omega⟩, show zW W (paI W m) = false from decide_eq_false (by omega), decide_eq_true (show paI W m ≠ 0 by omega)]; rfl
      · rw [show zW W m = false from decide_eq_false s2]
        have hr := (hok m a b).2
        simp only [Bool.false_eq_true, if_false]
        refine chain 9 _ ?_ (up m a b hs)
        rw [rootQ_it 8] at hr ⊢
        have hr : itP (paI W) 7 (stepP (paI W) m) = 0 := of_decide_eq_true hr
        unfold stepP at hr
        rw [if_neg (by omega)] at hr
        exact decide_eq_true (it_succ 7 _ hr)
end Go.Proofs.Ytmmjeifdgfolmaa
end
section
/- The law's examples, run once. No condition. -/
namespace Go.Proofs.Ytmmjeifdgfolmaa
open Go.AM
open Nat renaming reduceBEq → Za, reduceEqDiff → Zb, reduceAdd → Zc, reduceSub → Zd, reduceMul → Ze, reduceLT → Zf, reduceLeDiff → Zg, reduceDiv → Zh, reduceMod → Zi, reducePow → Zj, blt_eq → ZF, zero_add → Qc, add_zero → Qd
open Int renaming reduceAdd → Zk, reduceSub → Zl, reduceMul → Zm, reduceLT → Zn, reduceLE → Zo, reduceEq → Zp, reduceNe → Zq, reduceNeg → Zr, reduceToNat → Zs, reduceDiv → Zt, reduceMod → Zu, reducePow → Zv, cast_ofNat_Int → Zw, toNat_natCast → Qb
open List renaming set_cons_zero → Zx, set_cons_succ → Zy, map_toArray → Zz, cons_append → ZA, nil_append → ZB, append_nil → ZC, all_cons → ZD, all_nil → ZE, getElem?_cons_zero → ZJ, getElem?_cons_succ → ZK, length_cons → ZL, length_nil → ZM, map_cons → ZN, map_nil → ZO, isEmpty_nil → Qe, any_cons → Qf, any_nil → Qg, drop_zero → Qk, drop_succ_cons → Ql, take_succ_cons → Qm, take_zero → Qn, take_nil → Qo, drop_nil → Qp
open Bool renaming and_true → ZG, true_and → ZH, and_self → ZI, not_true → ZT, not_false → ZU, true_eq_false → ZZ, false_eq_true → Qa, or_false → Qh, false_or → Qi, and_eq_true → Qj
open Option renaming map_some → ZP, map_none → ZQ, bind_some → ZR, getD_some → ZS, isNone_some → ZV, isNone_none → ZW, isSome_some → ZX, isSome_none → ZY
set_option linter.unusedSimpArgs false
set_option maxRecDepth 100000 in
theorem awake21_run : isTrue (clA 18 [] noHeap) = true := by kernel_rfl
noncomputable abbrev sp21 : Special := spAt 18
theorem sp21_ok : SpecOk Try.prog 0 sp21 := spAt_ok clA_ok awake21_run
theorem awake21 (h : Heap) (R : Out → Heap → Prop) (hR : R (.ret (.bool true)) h) : WF Try.prog 0 sp21 18 [] h R := by
  refine ⟨.ret (.bool true), h, ⟨1, fun fu d h1 h2 => ?_⟩, hR⟩
  obtain ⟨d, rfl⟩ : ∃ k, d = k + 1 := ⟨d - 1, by omega⟩
  rfl
end Go.Proofs.Ytmmjeifdgfolmaa
end
section
/- Processes as three functions: their words, their cells, what deeds do to them. Plain Lean. -/
namespace Go.Proofs.Ytmmjeifdgfolmaa
open Go.AM
open Nat renaming reduceBEq → Za, reduceEqDiff → Zb, reduceAdd → Zc, reduceSub → Zd, reduceMul → Ze, reduceLT → Zf, reduceLeDiff → Zg, reduceDiv → Zh, reduceMod → Zi, reducePow → Zj, blt_eq → ZF, zero_add → Qc, add_zero → Qd
open Int renaming reduceAdd → Zk, reduceSub → Zl, reduceMul → Zm, reduceLT → Zn, reduceLE → Zo, reduceEq → Zp, reduceNe → Zq, reduceNeg → Zr, reduceToNat → Zs, reduceDiv → Zt, reduceMod → Zu, reducePow → Zv, cast_ofNat_Int → Zw, toNat_natCast → Qb
open List renaming set_cons_zero → Zx, set_cons_succ → Zy, map_toArray → Zz, cons_append → ZA, nil_append → ZB, append_nil → ZC, all_cons → ZD, all_nil → ZE, getElem?_cons_zero → ZJ, getElem?_cons_succ → ZK, length_cons → ZL, length_nil → ZM, map_cons → ZN, map_nil → ZO, isEmpty_nil → Qe, any_cons → Qf, any_nil → Qg, drop_zero → Qk, drop_succ_cons → Ql, take_succ_cons → Qm, take_zero → Qn, take_nil → Qo, drop_nil → Qp
open Bool renaming and_true → ZG, true_and → ZH, and_self → ZI, not_true → ZT, not_false → ZU, true_eq_false → ZZ, false_eq_true → Qa, or_false → Qh, false_or → Qi, and_eq_true → Qj
open Option renaming map_some → ZP, map_none → ZQ, bind_some → ZR, getD_some → ZS, isNone_some → ZV, isNone_none → ZW, isSome_some → ZX, isSome_none → ZY
set_option linter.unusedSimpArgs false
structure PS where
  st : Int → Int
  pa : Int → Int
  su : Int → Int
def cellS (s : PS) (k : Nat) : Int := if k % 3 = 0 then s.st ((k / 3 : Nat) + 1) else if k % 3 = 1 then s.pa ((k / 3 : Nat) + 1) else s.su ((k / 3 : Nat) + 1)
def wS (s : PS) : List Int := (List.range 24).map fun k => wrapF .u64 (cellS s k)
def rowS (s : PS) : List Value := (List.range 24).map fun k => .int .i64 (cellS s k)
theorem wS_len {s : PS} : (wS s).length = 24 := by unfold wS; simp
theorem rowS_len {s : PS} : (rowS s).length = 24 := by unfold rowS; simp
theorem rowS_at {s : PS} {k : Nat} (hk : k < 24) : (rowS s)[k]? = some (.int .i64 (cellS s k)) := by
  unfold rowS
  rw [List.getElem?_map, List.getElem?_range hk]; rfl
theorem wS_at {s : PS} {k : Nat} (hk : k < 24) : (wS s)[k]! = wrapF .u64 (cellS s k) := by
  rw [getElem!_pos _ _ (by rw [wS_len]; omega)]
  unfold wS
  rw [List.getElem_map, List.getElem_range]
theorem cell_st (s : PS) (i : Nat) : cellS s (i * 3) = s.st ((i : Int) + 1) := by
  unfold cellS
  rw [if_pos (by omega), show i * 3 / 3 = i by omega]
theorem cell_pa (s : PS) (i : Nat) : cellS s (i * 3 + 1) = s.pa ((i : Int) + 1) := by
  unfold cellS
  rw [if_neg (by omega), if_pos (by omega), show (i * 3 + 1) / 3 = i by omega]
theorem cell_su (s : PS) (i : Nat) : cellS s (i * 3 + 2) = s.su ((i : Int) + 1) := by
  unfold cellS
  rw [if_neg (by omega), if_neg (by omega), show (i * 3 + 2) / 3 = i by omega]
theorem rowS_st {s : PS} {i : Nat} (hi : i < 8) : (rowS s)[i * 3]? = some (.int .i64 (s.st ((i : Int) + 1))) := by rw [rowS_at (by omega), cell_st]
theorem rowS_pa {s : PS} {i : Nat} (hi : i < 8) : (rowS s)[i * 3 + 1]? = some (.int .i64 (s.pa ((i : Int) + 1))) := by rw [rowS_at (by omega), cell_pa]
theorem rowS_su {s : PS} {i : Nat} (hi : i < 8) : (rowS s)[i * 3 + 2]? = some (.int .i64 (s.su ((i : Int) + 1))) := by rw [rowS_at (by omega), cell_su]
theorem wS_st {s : PS} {m : Int} (h1 : 1 ≤ m) (h2 : m < 9) : stW (wS s) m = wrapF .u64 (s.st m) := by
  obtain ⟨i, rfl⟩ : ∃ i : Nat, m = (i : Int) + 1 := ⟨(m - 1).toNat, by omega⟩
  unfold stW
  rw [show (3 * ((i : Int) + 1) - 3).toNat = i * 3 by omega, wS_at (by omega), cell_st]
theorem wS_pa {s : PS} {m : Int} (h1 : 1 ≤ m) (h2 : m < 9) : paW (wS s) m = wrapF .u64 (s.pa m) := by
  obtain ⟨i, rfl⟩ : ∃ i : Nat, m = (i : Int) + 1 := ⟨(m - 1).toNat, by omega⟩
  unfold paW
  rw [show (3 * ((i : Int) + 1) - 2).toNat = i * 3 + 1 by omega, wS_at (by omega), cell_pa]
theorem wS_su {s : PS} {m : Int} (h1 : 1 ≤ m) (h2 : m < 9) : suW (wS s) m = wrapF .u64 (s.su m) := by
  obtain ⟨i, rfl⟩ : ∃ i : Nat, m = (i : Int) + 1 := ⟨(m - 1).toNat, by omega⟩
  unfold suW
  rw [show (3 * ((i : Int) + 1) - 1).toNat = i * 3 + 2 by omega, wS_at (by omega), cell_su]
theorem wS_range {s : PS} : ∀ y ∈ wS s, 0 ≤ y ∧ y < 18446744073709551616 := by
  intro y hy
  unfold wS at hy
  obtain ⟨k, _, rfl⟩ := List.mem_map.1 hy
  rw [wrapU_mod]
  omega
theorem wrapIU {x : Int} (h1 : -9223372036854775808 ≤ x) (h2 : x < 9223372036854775808) : wrapF .i64 (wrapF .u64 x) = x := by
  rw [wrapU_mod, wrapF_eq]
  unfold IntKind.wrap IntKind.signed IntKind.bits
  simp only [Bool.true_and, decide_eq_true_eq]
  split <;> omega
/-- what holds of processes at all times. -/
structure PS.Ok (s : PS) : Prop where
  st : ∀ m, 1 ≤ m → m < 9 → s.st m = 0 ∨ s.st m = 1 ∨ s.st m = 2
  pa : ∀ m, 1 ≤ m → m < 9 → s.pa m = 0 ∨ (1 ≤ s.pa m ∧ s.pa m < 9 ∧ s.st (s.pa m) = 1)
  su : ∀ m, 1 ≤ m → m < 9 → -9223372036854775808 ≤ s.su m ∧ s.su m < 9223372036854775808
  free : ∀ m, 1 ≤ m → m < 9 → s.st m = 0 → s.pa m = 0 ∧ s.su m = 0
  live : ∀ m, 1 ≤ m → m < 9 → s.st m = 1 → s.su m = 0
  zom : ∀ m, 1 ≤ m → m < 9 → s.st m = 2 → s.pa m ≠ 0
  rk : ∃ rank : Int → Nat, ∀ m, 1 ≤ m → m < 9 → s.pa m ≠ 0 → rank (s.pa m) < rank m
variable {s : PS}
theorem PS.Ok.stI (hs : s.Ok) {m : Int} (h1 : 1 ≤ m) (h2 : m < 9) : stI (wS s) m = s.st m := by
  unfold Go.Proofs.Ytmmjeifdgfolmaa.stI
  have := hs.st m h1 h2
  rw [wS_st h1 h2, wrapIU (by omega) (by omega)]
theorem PS.Ok.paI (hs : s.Ok) {m : Int} (h1 : 1 ≤ m) (h2 : m < 9) : paI (wS s) m = s.pa m := by
  unfold Go.Proofs.Ytmmjeifdgfolmaa.paI
  have := hs.pa m h1 h2
  rw [wS_pa h1 h2, wrapIU (by omega) (by omega)]
theorem PS.Ok.suI (hs : s.Ok) {m : Int} (h1 : 1 ≤ m) (h2 : m < 9) : suI (wS s) m = s.su m := by
  unfold Go.Proofs.Ytmmjeifdgfolmaa.suI
  have := hs.su m h1 h2
  rw [wS_su h1 h2, wrapIU (by omega) (by omega)]
theorem PS.Ok.stW (hs : s.Ok) {m : Int} (h1 : 1 ≤ m) (h2 : m < 9) : stW (wS s) m = s.st m := by
  have := hs.st m h1 h2
  rw [wS_st h1 h2, wrapU_mod]; omega
theorem PS.Ok.paW (hs : s.Ok) {m : Int} (h1 : 1 ≤ m) (h2 : m < 9) : paW (wS s) m = s.pa m := by
  have := hs.pa m h1 h2
  rw [wS_pa h1 h2, wrapU_mod]; omega
theorem PS.Ok.zW (hs : s.Ok) {m : Int} (h1 : 1 ≤ m) (h2 : m < 9) : zW (wS s) m = decide (s.st m = 2) := by
  unfold Go.Proofs.Ytmmjeifdgfolmaa.zW
  rw [hs.stW h1 h2]
theorem PS.Ok.exW (hs : s.Ok) {m : Int} : exW (wS s) 9 m = decide (1 ≤ m ∧ m < 9 ∧ s.st m ≠ 0) := by
  unfold Go.Proofs.Ytmmjeifdgfolmaa.exW
  rw [Bool.eq_iff_iff, decide_eq_true_eq, decide_eq_true_eq]
  constructor
  · rintro ⟨h1, h2, h3⟩
    have h2 : m < 9 := h2
    rw [hs.stW h1 h2] at h3
    exact ⟨h1, h2, h3⟩
  · rintro ⟨h1, h2, h3⟩
    refine ⟨h1, h2, ?_⟩
    rw [hs.stW h1 h2]; exact h3
theorem it_rank {pa : Int → Int} {rank : Int → Nat} (hr : ∀ m, 1 ≤ m → m < 9 → pa m ≠ 0 → rank (pa m) < rank m) (hpa : ∀ m : Int, 1 ≤ m → m < 9 → 0 ≤ pa m ∧ pa m ≤ 8) : ∀ (k : Nat) (x : Int), 0 ≤ x → x ≤ 8 → (x = 0 ∨ rank x < k) → itP pa k x = 0
  | 0, x, _, _, h => by
    rcases h with h | h
    · exact h
    · omega
  | k + 1, x, h1, h2, h => by
    show itP pa k (stepP pa x) = 0
    unfold stepP
    by_cases e : x = 0
    · rw [if_pos e]; exact itP_zero k
    · rw [if_neg e]
      have hp := hpa x (by omega) (by omega)
      refine it_rank hr hpa k _ hp.1 hp.2 ?_
      by_cases e2 : pa x = 0
      · exact .inl e2
      · have := hr x (by omega) (by omega) e2
        right; omega
theorem PS.Ok.acc (hs : s.Ok) : accW (wS s) := by
  have hpa : ∀ m : Int, 1 ≤ m → m < 9 → 0 ≤ Go.Proofs.Ytmmjeifdgfolmaa.paI (wS s) m ∧ Go.Proofs.Ytmmjeifdgfolmaa.paI (wS s) m ≤ 8 := fun m h1 h2 => by
    rw [hs.paI h1 h2]
    have := hs.pa m h1 h2
    omega
  obtain ⟨rank, hr⟩ := hs.rk
  refine (acc_iff wS_range).2 ⟨wS_len, fun m h1 h2 => ?_, fun m h1 h2 => ⟨?_, ?_⟩⟩
  · rw [hs.stW h1 h2, hs.paW h1 h2]
    have := hs.st m h1 h2
    have := hs.pa m h1 h2
    omega
  · unfold okb
    rw [hs.stI h1 h2, hs.paI h1 h2, hs.suI h1 h2]
    have a1 := hs.st m h1 h2
    have a2 := hs.pa m h1 h2
    have a3 := hs.free m h1 h2
    have a4 := hs.live m h1 h2
    have a5 := hs.zom m h1 h2
    have hpar : s.pa m ≠ 0 → Go.Proofs.Ytmmjeifdgfolmaa.stI (wS s) (s.pa m) = 1 := fun h => by
      have := a2.resolve_left h
      rw [hs.stI this.1 this.2.1]; exact this.2.2
    by_cases c0 : s.st m = 0
    · rw [if_pos c0, (a3 c0).1, (a3 c0).2]; rfl
    · rw [if_neg c0]
      have hor : (decide (s.pa m = 0) || decide (Go.Proofs.Ytmmjeifdgfolmaa.stI (wS s) (s.pa m) ≠ 0)) = true := by
        by_cases e : s.pa m = 0
        · rw [decide_eq_true e]; rfl
        · rw [hpar e]; simp
      rw [hor]
      by_cases c1 : s.st m = 1
      · rw [if_pos c1, a4 c1]; rfl
      · rw [if_neg c1]
        have hz := a5 (by omega)
        rw [hpar hz, decide_eq_true (show 1 ≤ s.pa m ∧ s.pa m ≤ 8 by omega)]; rfl
  · have : rootQ (Go.Proofs.Ytmmjeifdgfolmaa.paI (wS s)) (8 + 1) m = true := by
      rw [rootQ_it, decide_eq_true_eq]
      refine it_eight hpa (by omega) (k := rank m + 1) (it_rank (rank := rank) (fun x q1 q2 q3 => ?_) hpa _ _ (by omega) (by omega) (.inr (Nat.lt_succ_self _)))
      rw [hs.paI q1 q2] at q3 ⊢
      exact hr x q1 q2 q3
    exact this
theorem PS.Ok.row (hs : s.Ok) : wI (wS s) = rowS s := by
  unfold wI wS rowS
  rw [List.map_map]
  refine List.map_congr_left fun k hk => ?_
  have hk : k < 24 := List.mem_range.1 hk
  show Value.int .i64 (wrapF .i64 (wrapF .u64 (cellS s k))) = _
  have h1 : (1 : Int) ≤ ((k / 3 : Nat) : Int) + 1 := by omega
  have h2 : ((k / 3 : Nat) : Int) + 1 < 9 := by omega
  have a1 := hs.st _ h1 h2
  have a2 := hs.pa _ h1 h2
  have a3 := hs.su _ h1 h2
  rw [wrapIU]
  · unfold cellS; split
    · omega
    · split <;> omega
  · unfold cellS; split
    · omega
    · split <;> omega
/- ## Deeds -/
def updI (f : Int → Int) (n v : Int) : Int → Int := fun m => if m = n then v else f m
theorem updI_same (f : Int → Int) (n v : Int) : updI f n v n = v := if_pos rfl
theorem updI_ne (f : Int → Int) {n m : Int} (v : Int) (h : m ≠ n) : updI f n v m = f m := if_neg h
def PS.set (s : PS) (n a b c : Int) : PS := ⟨updI s.st n a, updI s.pa n b, updI s.su n c⟩
theorem row_ext {s s' : PS} (h : ∀ m, 1 ≤ m → m < 9 → s.st m = s'.st m ∧ s.pa m = s'.pa m ∧ s.su m = s'.su m) : rowS s = rowS s' := by
  unfold rowS
  refine List.map_congr_left fun k hk => ?_
  have hk : k < 24 := List.mem_range.1 hk
  have := h (((k / 3 : Nat) : Int) + 1) (by omega) (by omega)
  unfold cellS
  rw [this.1, this.2.1, this.2.2]
theorem row_set {s s' : PS} {k : Nat} {v : Int} (hk : k < 24) (h1 : cellS s' k = v) (h2 : ∀ j, j < 24 → j ≠ k → cellS s' j = cellS s j) : (rowS s).set k (.int .i64 v) = rowS s' := by
  apply List.ext_getElem?
  intro j
  rw [List.getElem?_set]
  by_cases hj : j < 24
  · by_cases e : k = j
    · rw [if_pos e, if_pos (by rw [rowS_len]; omega), rowS_at hj, ← e, h1]
    · rw [if_neg e, rowS_at hj, rowS_at hj, h2 j hj (Ne.symm e)]
  · rw [if_neg (by omega), List.getElem?_eq_none (by rw [rowS_len]; omega), List.getElem?_eq_none (by rw [rowS_len]; omega)]
theorem row_st {i : Nat} (hi : i < 8) (v : Int) : (rowS s).set (i * 3) (.int .i64 v) = rowS ⟨updI s.st ((i : Int) + 1) v, s.pa, s.su⟩ := by
  refine row_set (by omega) ?_ fun j hj hne => ?_
  · rw [cell_st]; exact updI_same _ _ _
  · unfold cellS
    split
    · exact updI_ne _ _ (by omega)
    · rfl
theorem row_pa {i : Nat} (hi : i < 8) (v : Int) : (rowS s).set (i * 3 + 1) (.int .i64 v) = rowS ⟨s.st, updI s.pa ((i : Int) + 1) v, s.su⟩ := by
  refine row_set (by omega) ?_ fun j hj hne => ?_
  · rw [cell_pa]; exact updI_same _ _ _
  · unfold cellS
    split
    · rfl
    · split
      · exact updI_ne _ _ (by omega)
      · rfl
theorem row_su {i : Nat} (hi : i < 8) (v : Int) : (rowS s).set (i * 3 + 2) (.int .i64 v) = rowS ⟨s.st, s.pa, updI s.su ((i : Int) + 1) v⟩ := by
  refine row_set (by omega) ?_ fun j hj hne => ?_
  · rw [cell_su]; exact updI_same _ _ _
  · unfold cellS
    split
    · rfl
    · split
      · rfl
      · exact updI_ne _ _ (by omega)
theorem row_over {i : Nat} (hi : i < 8) (a b c : Int) : overL (rowS s) (i * 3) [.int .i64 a, .int .i64 b, .int .i64 c] = rowS (s.set ((i : Int) + 1) a b c) := by
  apply List.ext_getElem?
  intro j
  have hl : (rowS s).length = 24 := rowS_len
  have h3 : ([Value.int .i64 a, .int .i64 b, .int .i64 c] : List Value).length = 3 := rfl
  rw [overC_get (by rw [h3]; omega), h3]
  by_cases hj : j < 24
  · rw [rowS_at (s := s.set _ _ _ _) hj]
    by_cases e : i * 3 ≤ j ∧ j < i * 3 + 3
    · rw [if_pos e]
      obtain h | h | h : j = i * 3 ∨ j = i * 3 + 1 ∨ j = i * 3 + 2 := by omega
      · subst h
        rw [cell_st, Nat.sub_self]
        show some _ = some (Value.int .i64 (updI _ _ _ _))
        rw [updI_same]
      · subst h
        rw [cell_pa, show i * 3 + 1 - i * 3 = 1 by omega]
        show some _ = some (Value.int .i64 (updI _ _ _ _))
        rw [updI_same]
      · subst h
        rw [cell_su, show i * 3 + 2 - i * 3 = 2 by omega]
        show some _ = some (Value.int .i64 (updI _ _ _ _))
        rw [updI_same]
    · rw [if_neg e, rowS_at hj]
      unfold cellS
      have hne : ((j / 3 : Nat) : Int) + 1 ≠ (i : Int) + 1 := by omega
      show _ = some (Value.int .i64 (if j % 3 = 0 then updI _ _ _ _ else if j % 3 = 1 then updI _ _ _ _ else updI _ _ _ _))
      rw [updI_ne _ _ hne, updI_ne _ _ hne, updI_ne _ _ hne]
  · rw [if_neg (by omega), List.getElem?_eq_none (by omega), List.getElem?_eq_none (by rw [rowS_len]; omega)]
def PS.zero : PS := ⟨fun _ => 0, fun _ => 0, fun _ => 0⟩
theorem PS.Ok.zero : PS.zero.Ok := ⟨fun _ _ _ => .inl rfl, fun _ _ _ => .inl rfl, fun _ _ _ => by show (_ : Int) ≤ 0 ∧ (0 : Int) < _; omega, fun _ _ _ _ => ⟨rfl, rfl⟩, fun _ _ _ _ => rfl, fun _ _ _ h => (by cases h), ⟨fun _ => 0, fun _ _ _ h => absurd rfl h⟩⟩
/-- a new one. -/
theorem PS.Ok.add (hs : s.Ok) {n p : Int} (h1 : 1 ≤ n) (h2 : n < 9) (hn : s.st n = 0) (hp : p = 0 ∨ (1 ≤ p ∧ p < 9 ∧ s.st p = 1)) : (s.set n 1 p 0).Ok := by
  have hpn : p ≠ n := by
    rcases hp with hp | ⟨_, _, hp⟩
    · omega
    · intro e; rw [e, hn] at hp; cases hp
  have hpar : ∀ m, 1 ≤ m → m < 9 → s.pa m ≠ n := fun m q1 q2 e => by
    rcases hs.pa m q1 q2 with h | ⟨_, _, h⟩
    · omega
    · rw [e, hn] at h; cases h
  obtain ⟨rank, hr⟩ := hs.rk
  refine ⟨fun m q1 q2 => ?_, fun m q1 q2 => ?_, fun m q1 q2 => ?_, fun m q1 q2 q3 => ?_, fun m q1 q2 q3 => ?_, fun m q1 q2 q3 => ?_, fun m => if m = n then rank p + 1 else rank m, fun m q1 q2 q3 => ?_⟩ <;> simp only [PS.set, updI] at *
  · split
    · exact .inr (.inl rfl)
    · exact hs.st m q1 q2
  · by_cases e : m = n
    · rw [if_pos e, if_neg hpn]; exact hp
    · rw [if_neg e, if_neg (hpar m q1 q2)]; exact hs.pa m q1 q2
  · split
    · omega
    · exact hs.su m q1 q2
  · by_cases e : m = n
    · rw [if_pos e] at q3; cases q3
    · rw [if_neg e] at q3 ⊢; rw [if_neg e]; exact hs.free m q1 q2 q3
  · by_cases e : m = n
    · rw [if_pos e]
    · rw [if_neg e] at q3 ⊢; exact hs.live m q1 q2 q3
  · by_cases e : m = n
    · rw [if_pos e] at q3; cases q3
    · rw [if_neg e] at q3 ⊢; exact hs.zom m q1 q2 q3
  · by_cases e : m = n
    · simp only [if_pos e, if_neg hpn] at q3 ⊢; omega
    · simp only [if_neg e] at q3 ⊢
      rw [if_neg (hpar m q1 q2)]; exact hr m q1 q2 q3
/-- one that is told. -/
theorem PS.Ok.drop (hs : s.Ok) {n : Int} (h1 : 1 ≤ n) (h2 : n < 9) (hn : s.st n = 2) : (s.set n 0 0 0).Ok := by
  have hpar : ∀ m, 1 ≤ m → m < 9 → s.pa m ≠ n := fun m q1 q2 e => by
    rcases hs.pa m q1 q2 with h | ⟨_, _, h⟩
    · omega
    · rw [e, hn] at h; cases h
  obtain ⟨rank, hr⟩ := hs.rk
  refine ⟨fun m q1 q2 => ?_, fun m q1 q2 => ?_, fun m q1 q2 => ?_, fun m q1 q2 q3 => ?_, fun m q1 q2 q3 => ?_, fun m q1 q2 q3 => ?_, rank, fun m q1 q2 q3 => ?_⟩ <;> simp only [PS.set, updI] at *
  · split
    · exact .inl rfl
    · exact hs.st m q1 q2
  · by_cases e : m = n
    · rw [if_pos e]; exact .inl rfl
    · rw [if_neg e, if_neg (hpar m q1 q2)]; exact hs.pa m q1 q2
  · split
    · omega
    · exact hs.su m q1 q2
  · by_cases e : m = n
    · rw [if_pos e, if_pos e]; exact ⟨rfl, rfl⟩
    · rw [if_neg e] at q3 ⊢; rw [if_neg e]; exact hs.free m q1 q2 q3
  · by_cases e : m = n
    · rw [if_pos e]
    · rw [if_neg e] at q3 ⊢; exact hs.live m q1 q2 q3
  · by_cases e : m = n
    · rw [if_pos e] at q3; cases q3
    · rw [if_neg e] at q3 ⊢; exact hs.zom m q1 q2 q3
  · by_cases e : m = n
    · rw [if_pos e] at q3; exact absurd rfl q3
    · rw [if_neg e] at q3 ⊢; exact hr m q1 q2 q3
/-- one that ends. -/
def PS.st1 (s : PS) (p : Int) : Int → Int := updI s.st p 2
def PS.pa1 (s : PS) (p : Int) : Int → Int := fun m => if s.pa m = p then 0 else s.pa m
def PS.su1 (s : PS) (p u : Int) : Int → Int := updI s.su p u
def PS.gone (s : PS) (p m : Int) : Bool := decide (s.st1 p m = 2 ∧ s.pa1 p m = 0)
def PS.exit (s : PS) (p u : Int) : PS := ⟨fun m => if s.gone p m then 0 else s.st1 p m, fun m => if s.gone p m then 0 else s.pa1 p m, fun m => if s.gone p m then 0 else s.su1 p u m⟩
theorem PS.Ok.exit (hs : s.Ok) {p u : Int} (h1 : 1 ≤ p) (h2 : p < 9) (hp : s.st p = 1) (hu : -9223372036854775808 ≤ u ∧ u < 9223372036854775808) : (s.exit p u).Ok := by
  obtain ⟨rank, hr⟩ := hs.rk
  have hg : ∀ m, s.gone p m = true ↔ s.st1 p m = 2 ∧ s.pa1 p m = 0 := fun m => decide_eq_true_iff
  have e1 : ∀ m, m ≠ p → s.st1 p m = s.st m := fun m h => updI_ne _ _ h
  have e2 : s.st1 p p = 2 := updI_same _ _ _
  have hpa : ∀ m, 1 ≤ m → m < 9 → s.pa1 p m ≠ 0 → s.pa1 p m = s.pa m ∧ s.pa m ≠ p ∧ 1 ≤ s.pa m ∧ s.pa m < 9 ∧ s.st (s.pa m) = 1 := fun m q1 q2 q3 => by
    unfold PS.pa1 at q3 ⊢
    by_cases e : s.pa m = p
    · rw [if_pos e] at q3; exact absurd rfl q3
    · rw [if_neg e] at q3 ⊢
      exact ⟨rfl, e, (hs.pa m q1 q2).resolve_left q3⟩
  refine ⟨fun m q1 q2 => ?_, fun m q1 q2 => ?_, fun m q1 q2 => ?_, fun m q1 q2 q3 => ?_, fun m q1 q2 q3 => ?_, fun m q1 q2 q3 => ?_, rank, fun m q1 q2 q3 => ?_⟩ <;> simp only [PS.exit] at *
  · split
    · exact .inl rfl
    · by_cases e : m = p
      · rw [e, e2]; omega
      · rw [e1 m e]; exact hs.st m q1 q2
  · by_cases g : s.gone p m
    · rw [if_pos g]; exact .inl rfl
    · rw [if_neg g]
      by_cases e : s.pa1 p m = 0
      · exact .inl e
      · obtain ⟨a1, a2, a3, a4, a5⟩ := hpa m q1 q2 e
        rw [a1]
        refine .inr ⟨a3, a4, ?_⟩
        have : ¬ s.gone p (s.pa m) = true := fun q => by
          have := (hg _).1 q
          rw [e1 _ a2, a5] at this
          omega
        rw [if_neg this, e1 _ a2, a5]
  · split
    · omega
    · unfold PS.su1 updI
      split
      · exact hu
      · exact hs.su m q1 q2
  · by_cases g : s.gone p m
    · rw [if_pos g, if_pos g]; exact ⟨rfl, rfl⟩
    · rw [if_neg g] at q3 ⊢
      rw [if_neg g]
      have hm : m ≠ p := fun e => by rw [e, e2] at q3; cases q3
      rw [e1 m hm] at q3
      have := hs.free m q1 q2 q3
      unfold PS.pa1 PS.su1
      rw [updI_ne _ _ hm, this.1, this.2]
      exact ⟨by split <;> rfl, rfl⟩
  · by_cases g : s.gone p m
    · rw [if_pos g]
    · rw [if_neg g] at q3 ⊢
      have hm : m ≠ p := fun e => by rw [e, e2] at q3; cases q3
      rw [e1 m hm] at q3
      unfold PS.su1
      rw [updI_ne _ _ hm]
      exact hs.live m q1 q2 q3
  · by_cases g : s.gone p m
    · rw [if_pos g] at q3; cases q3
    · rw [if_neg g] at q3 ⊢
      exact fun e => g ((hg m).2 ⟨q3, e⟩)
  · by_cases g : s.gone p m
    · rw [if_pos g] at q3; exact absurd rfl q3
    · rw [if_neg g] at q3 ⊢
      obtain ⟨a1, a2, a3, a4, a5⟩ := hpa m q1 q2 q3
      rw [a1]
      exact hr m q1 q2 (by omega)
end Go.Proofs.Ytmmjeifdgfolmaa
end
section
/- The program's processes: Fork, Parent, All. Conditions: the table lies as the rules name. -/
namespace Go.Proofs.Ytmmjeifdgfolmaa
open Go.AM
open Nat renaming reduceBEq → Za, reduceEqDiff → Zb, reduceAdd → Zc, reduceSub → Zd, reduceMul → Ze, reduceLT → Zf, reduceLeDiff → Zg, reduceDiv → Zh, reduceMod → Zi, reducePow → Zj, blt_eq → ZF, zero_add → Qc, add_zero → Qd
open Int renaming reduceAdd → Zk, reduceSub → Zl, reduceMul → Zm, reduceLT → Zn, reduceLE → Zo, reduceEq → Zp, reduceNe → Zq, reduceNeg → Zr, reduceToNat → Zs, reduceDiv → Zt, reduceMod → Zu, reducePow → Zv, cast_ofNat_Int → Zw, toNat_natCast → Qb
open List renaming set_cons_zero → Zx, set_cons_succ → Zy, map_toArray → Zz, cons_append → ZA, nil_append → ZB, append_nil → ZC, all_cons → ZD, all_nil → ZE, getElem?_cons_zero → ZJ, getElem?_cons_succ → ZK, length_cons → ZL, length_nil → ZM, map_cons → ZN, map_nil → ZO, isEmpty_nil → Qe, any_cons → Qf, any_nil → Qg, drop_zero → Qk, drop_succ_cons → Ql, take_succ_cons → Qm, take_zero → Qn, take_nil → Qo, drop_nil → Qp
open Bool renaming and_true → ZG, true_and → ZH, and_self → ZI, not_true → ZT, not_false → ZU, true_eq_false → ZZ, false_eq_true → Qa, or_false → Qh, false_or → Qi, and_eq_true → Qj
open Option renaming map_some → ZP, map_none → ZQ, bind_some → ZR, getD_some → ZS, isNone_some → ZV, isNone_none → ZW, isSome_some → ZX, isSome_none → ZY
set_option linter.unusedSimpArgs false
variable {sp : Special} {h : Heap} {R : Out → Heap → Prop}
theorem dl89 (r : Nat) (n : Int) (g : Nat → Option Blk) : aDelete Try.prog #[89, 3] (.map (some r)) (.int .i64 n) g = dlX .i64 r n (g r) := a_delete (kt := 3) (elem := 92) (by kernel_rfl) (by kernel_rfl) r n g
/-- the table of processes s. -/
structure Tb (h : Heap) (bp r : Nat) (l : List Ent) (c : Nat) (s : PS) : Prop where
  p : h.get bp = some (cellsB [.map (some r)] .exact)
  m : h.get r = some (.map (entV .i64 l) c)
  yes : ∀ n, 1 ≤ n → n < 9 → s.st n ≠ 0 → ∃ b, lookI l n = some (.pointer (some ⟨b, 0, none⟩)) ∧ h.get b = some (cellsB [.bool (decide (s.st n = 2)), .int .i64 (s.pa n), .int .i64 (s.su n)] .exact)
  no : ∀ n, ¬ (1 ≤ n ∧ n < 9 ∧ s.st n ≠ 0) → lookI l n = none
  ap : Apart l
  bc : ∀ x ∈ l, x.2.2 < c
variable {bp r c : Nat} {l : List Ent} {s : PS}
theorem Tb.tab (t : Tb h bp r l c s) (hs : s.Ok) : Tab h bp r l c (zW (wS s)) (paI (wS s)) (suI (wS s)) (exW (wS s) 9) := by
  refine ⟨t.p, t.m, fun n hn => ?_, fun n hn => ?_⟩
  · rw [hs.exW] at hn
    obtain ⟨h1, h2, h3⟩ := of_decide_eq_true hn
    rw [hs.zW h1 h2, hs.paI h1 h2, hs.suI h1 h2]
    exact t.yes n h1 h2 h3
  · rw [hs.exW] at hn
    exact t.no n (of_decide_eq_false hn)
theorem Tb.of_tab (hs : s.Ok) (t : Tab h bp r l c (zW (wS s)) (paI (wS s)) (suI (wS s)) (exW (wS s) 9)) (ha : Apart l) (hc : ∀ x ∈ l, x.2.2 < c) : Tb h bp r l c s := by
  refine ⟨t.p, t.m, fun n h1 h2 h3 => ?_, fun n hn => t.no n ?_, ha, hc⟩
  · have := t.yes n (by rw [hs.exW]; exact decide_eq_true ⟨h1, h2, h3⟩)
    rwa [hs.zW h1 h2, hs.paI h1 h2, hs.suI h1 h2] at this
  · rw [hs.exW]; exact decide_eq_false hn
theorem Tb.ent (t : Tb h bp r l c s) {x : Ent} (hx : x ∈ l) : ∃ b, x.2.1 = .pointer (some ⟨b, 0, none⟩) ∧ 1 ≤ x.1 ∧ x.1 < 9 ∧ s.st x.1 ≠ 0 ∧ h.get b = some (cellsB [.bool (decide (s.st x.1 = 2)), .int .i64 (s.pa x.1), .int .i64 (s.su x.1)] .exact) := by
  have hl := t.ap.look hx
  by_cases hn : 1 ≤ x.1 ∧ x.1 < 9 ∧ s.st x.1 ≠ 0
  · obtain ⟨b, e1, e2⟩ := t.yes _ hn.1 hn.2.1 hn.2.2
    rw [hl] at e1
    exact ⟨b, Option.some.inj e1, hn.1, hn.2.1, hn.2.2, e2⟩
  · rw [t.no _ hn] at hl; cases hl
/-- what a table's deed leaves as it was. -/
structure Else (h h' : Heap) (r : Nat) (l : List Ent) : Prop where
  nx : h.nx ≤ h'.nx
  keep : ∀ b, b < h.nx → b ≠ r → (∀ x ∈ l, x.2.1 ≠ .pointer (some ⟨b, 0, none⟩)) → h'.get b = h.get b
theorem Else.refl : Else h h r l := ⟨Nat.le_refl _, fun _ _ _ _ => rfl⟩
theorem cells_ne {L L' : List Value} {k k' : Kind} (hL : L ≠ L') : some (cellsB L k) ≠ some (cellsB L' k') := fun e => by
  unfold cellsB at e
  injection e with e
  injection e with e1 e2 e3
  refine hL (List.ext_getElem? fun i => ?_)
  have := congrArg (fun t => t.get i) e1
  simpa [get_ofList] using this
theorem cells_map {L : List Value} {k : Kind} {es : List (Value × Value × Nat)} {c : Nat} : some (cellsB L k) ≠ some (.map es c) := fun e => by
  unfold cellsB at e
  injection e with e
  cases e
/-- a block of other cells is none of the table's. -/
theorem Tb.other (t : Tb h bp r l c s) {q : Nat} {L : List Value} {k : Kind} (hq : h.get q = some (cellsB L k)) (h1 : ∀ v, L ≠ [.map v]) (h3 : ∀ b u v, L ≠ [.bool b, u, v]) : q ≠ bp ∧ q ≠ r ∧ ∀ x ∈ l, x.2.1 ≠ .pointer (some ⟨q, 0, none⟩) := by
  refine ⟨fun e => ?_, fun e => ?_, fun x hx e => ?_⟩
  · rw [e, t.p] at hq
    exact cells_ne (h1 _) hq.symm
  · rw [e, t.m] at hq
    exact cells_map hq.symm
  · obtain ⟨b, e1, _, _, _, e2⟩ := t.ent hx
    rw [e1] at e
    simp only [Value.pointer.injEq, Option.some.injEq, Addr.mk.injEq] at e
    rw [e.1, hq] at e2
    exact cells_ne (h3 _ _ _) e2
theorem Tb.keep {h' : Heap} (t : Tb h bp r l c s) (hk : ∀ b x, h.get b = some x → (b = bp ∨ b = r ∨ ∃ x ∈ l, x.2.1 = .pointer (some ⟨b, 0, none⟩)) → h'.get b = some x) : Tb h' bp r l c s := by
  refine ⟨hk _ _ t.p (.inl rfl), hk _ _ t.m (.inr (.inl rfl)), fun n h1 h2 h3 => ?_, t.no, t.ap, t.bc⟩
  obtain ⟨b, e1, e2⟩ := t.yes n h1 h2 h3
  obtain ⟨x, hx, _, e3⟩ := lookI_some e1
  exact ⟨b, e1, hk _ _ e2 (.inr (.inr ⟨x, hx, e3⟩))⟩
def PS.lives (s : PS) (p : Int) : Bool := decide (1 ≤ p ∧ p < 9 ∧ s.st p = 1)
theorem lives_eq (hs : s.Ok) {p : Int} : (exW (wS s) 9 p && !zW (wS s) p) = s.lives p := by
  unfold PS.lives
  rw [hs.exW]
  by_cases h1 : 1 ≤ p ∧ p < 9
  · rw [hs.zW h1.1 h1.2]
    have := hs.st p h1.1 h1.2
    rw [Bool.eq_iff_iff, Bool.and_eq_true, decide_eq_true_eq, Bool.not_eq_true', decide_eq_false_iff_not, decide_eq_true_eq]
    omega
  · rw [decide_eq_false (fun q => h1 ⟨q.1, q.2.1⟩), decide_eq_false (fun q => h1 ⟨q.1, q.2.1⟩)]; rfl
theorem plives_spec (h0 : (sp 20).isNone = true) (h1 : (sp 50).isNone = true) (t : Tb h bp r l c s) (hs : s.Ok) {n : Int} (hR : R (.ret (.bool (s.lives n))) h) : WF Try.prog 0 sp 20 [.pointer (some ⟨bp, 0, none⟩), .int .i64 n] h R :=
  plive_spec h0 h1 (t.tab hs) (by rw [lives_eq hs]; exact hR)
/-- the first that is free. -/
def PS.first (s : PS) (n : Int) : Prop := 1 ≤ n ∧ n < 9 ∧ s.st n = 0 ∧ ∀ m, 1 ≤ m → m < n → s.st m ≠ 0
def PS.full (s : PS) : Prop := ∀ m, 1 ≤ m → m < 9 → s.st m ≠ 0
set_option maxRecDepth 100000 in
theorem pfork_spec (h0 : (sp 14).isNone = true) (h20 : (sp 20).isNone = true) (h50 : (sp 50).isNone = true) (hwf : HWf h) (t : Tb h bp r l c s) (hs : s.Ok) {p : Int}
    (hno : s.lives p = false → R (.ret (.tuple #[.int .i64 0, .int .i64 3])) h) (hfull : s.lives p = true → s.full → R (.ret (.tuple #[.int .i64 0, .int .i64 11])) h)
    (hok : ∀ n h', s.lives p = true → s.first n → Tb h' bp r (l ++ [(n, .pointer (some ⟨h.nx, 0, none⟩), c)]) (c + 1) (s.set n 1 p 0) → Else h h' r l → R (.ret (.tuple #[.int .i64 n, .int .i64 0])) h') :
    WF Try.prog 0 sp 14 [.pointer (some ⟨bp, 0, none⟩), .int .i64 p] h R := by
  refine wf_fn (fn := Try.f14) h0 rfl (by kernel_rfl) rfl ?_
  simp only [↓reduceIte, reduceCtorEq, Za, Zb, Zc, Zd, Ze, Zf, Zg, Zh, Zi, Zj, Zk, Zl, Zm, Zn, Zo, Zp, Zq, Zr, Zs, Zt, Zu, Zv, gval, Zw, Zx, Zy, Zz, ZA, ZB, ZC, ZD, ZE, ZF, decide_eq_true_eq, ZG, ZH, ZI, ZJ, ZK, ZL, ZM, ZN, ZO, ZP, ZQ, ZR, ZS, Option.some.injEq, exists_eq_left', ZT, ZU, ZV, ZW, ZX, ZY, true_and, and_true, true_or, or_true, false_or, or_false, ite_true, ite_false, cond_true, cond_false, ZZ, Qa, if_true, if_false, decide_true, decide_false, Qb, Qc, Qd, Qe, Qf, Qg, Qh, Qi, Qj, Qk, Ql, Qm, Qn, Qo, Qp, rb0, rb1, rb2, rb3, rb4, tf0, tf1, tf2, tf3, tf4, Try.f14]
  refine runC_of (plives_spec h20 h50 t hs ?_)
  cases hl : s.lives p with
  | false =>
    simp only [↓reduceIte, reduceCtorEq, Za, Zb, Zc, Zd, Ze, Zf, Zg, Zh, Zi, Zj, Zk, Zl, Zm, Zn, Zo, Zp, Zq, Zr, Zs, Zt, Zu, Zv, gval, Zw, Zx, Zy, Zz, ZA, ZB, ZC, ZD, ZE, ZF, decide_eq_true_eq, ZG, ZH, ZI, ZJ, ZK, ZL, ZM, ZN, ZO, ZP, ZQ, ZR, ZS, Option.some.injEq, exists_eq_left', ZT, ZU, ZV, ZW, ZX, ZY, true_and, and_true, true_or, or_true, false_or, or_false, ite_true, ite_false, cond_true, cond_false, ZZ, Qa, if_true, if_false, decide_true, decide_false, Qb, Qc, Qd, Qe, Qf, Qg, Qh, Qi, Qj, Qk, Ql, Qm, Qn, Qo, Qp, rb0, rb1, rb2, rb3, rb4, tf0, tf1, tf2, tf3, tf4]
    exact hno hl
  | true =>
    simp only [↓reduceIte, reduceCtorEq, Za, Zb, Zc, Zd, Ze, Zf, Zg, Zh, Zi, Zj, Zk, Zl, Zm, Zn, Zo, Zp, Zq, Zr, Zs, Zt, Zu, Zv, gval, Zw, Zx, Zy, Zz, ZA, ZB, ZC, ZD, ZE, ZF, decide_eq_true_eq, ZG, ZH, ZI, ZJ, ZK, ZL, ZM, ZN, ZO, ZP, ZQ, ZR, ZS, Option.some.injEq, exists_eq_left', ZT, ZU, ZV, ZW, ZX, ZY, true_and, and_true, true_or, or_true, false_or, or_false, ite_true, ite_false, cond_true, cond_false, ZZ, Qa, if_true, if_false, decide_true, decide_false, Qb, Qc, Qd, Qe, Qf, Qg, Qh, Qi, Qj, Qk, Ql, Qm, Qn, Qo, Qp, rb0, rb1, rb2, rb3, rb4, tf0, tf1, tf2, tf3, tf4]
    refine run_loop2 rfl (fun m e h2 => ∃ n : Nat, m = 9 - n ∧ 1 ≤ n ∧ n ≤ 9 ∧ h2 = h ∧ e.at 0 = .pointer (some ⟨bp, 0, none⟩) ∧ e.at 1 = .int .i64 p ∧ e.at 6 = .int .i64 n ∧ ∀ k : Int, 1 ≤ k → k < n → s.st k ≠ 0)
      (fun ex e h2 => (ex = .exit 0 ∧ h2 = h ∧ s.full) ∨ (ex = .ret ∧ ∃ n : Int, e.at 4 = .int .i64 n ∧ e.at 5 = .int .i64 0 ∧ s.first n ∧ Tb h2 bp r (l ++ [(n, .pointer (some ⟨h.nx, 0, none⟩), c)]) (c + 1) (s.set n 1 p 0) ∧ Else h h2 r l)) ?_ 8 _ _ ?_ ?_
    · rintro m e h2 ⟨n, rfl, hn1, hn9, rfl, e0, e1, e6, hf⟩ Q' hQn hQx
      by_cases hc : n ≤ 8
      · have hc1 : (n : Int) ≤ 8 := by omega
        have wn : wrapF .i64 ((n : Int) + 1) = (n : Int) + 1 := wrapI (by omega) (by omega)
        by_cases hz : s.st n = 0
        · have hnone := t.no n (fun q => q.2.2 hz)
          have hbr := hwf.lt t.m
          have hbp := hwf.lt t.p
          simp (disch := (first | omega | rfl | (simp only [Heap.nx_upd, Heap.nx_new]; omega))) only [↓reduceIte, reduceCtorEq, Za, Zb, Zc, Zd, Ze, Zf, Zg, Zh, Zi, Zj, Zk, Zl, Zm, Zn, Zo, Zp, Zq, Zr, Zs, Zt, Zu, Zv, gval, Zw, Zx, Zy, Zz, ZA, ZB, ZC, ZD, ZE, ZF, decide_eq_true_eq, ZG, ZH, ZI, ZJ, ZK, ZL, ZM, ZN, ZO, ZP, ZQ, ZR, ZS, Option.some.injEq, exists_eq_left', ZT, ZU, ZV, ZW, ZX, ZY, true_and, and_true, true_or, or_true, false_or, or_false, ite_true, ite_false, cond_true, cond_false, ZZ, Qa, if_true, if_false, decide_true, decide_false, Qb, Qc, Qd, Qe, Qf, Qg, Qh, Qi, Qj, Qk, Ql, Qm, Qn, Qo, Qp, rb0, rb1, rb2, rb3, rb4, tf0, tf1, tf2, tf3, tf4, Heap.get_upd_ne, Heap.get_new_ne, Heap.get_new_at, overL_one, if_pos, stX_exactN, e0, e1, e6, hc1, t.p, lk89, t.m, lkX_some, hnone, Option.getD_none, up89, upX_new .i64 r (n : Int) (.pointer (some ⟨h2.nx, 0, none⟩)) l c hnone rfl]
          refine hQx _ _ _ (by simp) (.inr ⟨rfl, n, ?_, ?_, ⟨by omega, by omega, hz, hf⟩, ?_, ?_⟩)
          · simp only [↓reduceIte, reduceCtorEq, Za, Zb, Zc, Zd, Ze, Zf, Zg, Zh, Zi, Zj, Zk, Zl, Zm, Zn, Zo, Zp, Zq, Zr, Zs, Zt, Zu, Zv, gval, Zw, Zx, Zy, Zz, ZA, ZB, ZC, ZD, ZE, ZF, decide_eq_true_eq, ZG, ZH, ZI, ZJ, ZK, ZL, ZM, ZN, ZO, ZP, ZQ, ZR, ZS, Option.some.injEq, exists_eq_left', ZT, ZU, ZV, ZW, ZX, ZY, true_and, and_true, true_or, or_true, false_or, or_false, ite_true, ite_false, cond_true, cond_false, ZZ, Qa, if_true, if_false, decide_true, decide_false, Qb, Qc, Qd, Qe, Qf, Qg, Qh, Qi, Qj, Qk, Ql, Qm, Qn, Qo, Qp, rb0, rb1, rb2, rb3, rb4, tf0, tf1, tf2, tf3, tf4, e6]
          · simp only [↓reduceIte, reduceCtorEq, Za, Zb, Zc, Zd, Ze, Zf, Zg, Zh, Zi, Zj, Zk, Zl, Zm, Zn, Zo, Zp, Zq, Zr, Zs, Zt, Zu, Zv, gval, Zw, Zx, Zy, Zz, ZA, ZB, ZC, ZD, ZE, ZF, decide_eq_true_eq, ZG, ZH, ZI, ZJ, ZK, ZL, ZM, ZN, ZO, ZP, ZQ, ZR, ZS, Option.some.injEq, exists_eq_left', ZT, ZU, ZV, ZW, ZX, ZY, true_and, and_true, true_or, or_true, false_or, or_false, ite_true, ite_false, cond_true, cond_false, ZZ, Qa, if_true, if_false, decide_true, decide_false, Qb, Qc, Qd, Qe, Qf, Qg, Qh, Qi, Qj, Qk, Ql, Qm, Qn, Qo, Qp, rb0, rb1, rb2, rb3, rb4, tf0, tf1, tf2, tf3, tf4]
          · refine ⟨?_, Heap.get_upd_same _ _ _, fun m q1 q2 q3 => ?_, fun m hm => ?_, ?_, fun x hx => ?_⟩
            · rw [Heap.get_upd_ne _ _ (fun e => by have := t.p; rw [e, t.m] at this; exact cells_map this.symm), Heap.get_new_ne _ _ (by have := hwf.lt t.p; omega)]
              exact t.p
            · rw [lookI_app]
              by_cases q : m = n
              · subst q
                rw [hnone, if_pos rfl]
                refine ⟨_, rfl, ?_⟩
                rw [Heap.get_upd_ne _ _ (by omega), Heap.get_new_same]
                show _ = some (cellsB [.bool (decide (updI s.st n 1 n = 2)), .int .i64 (updI s.pa n p n), .int .i64 (updI s.su n 0 n)] .exact)
                rw [updI_same, updI_same, updI_same]; rfl
              · have q3 : updI s.st n 1 m ≠ 0 := q3
                rw [updI_ne _ _ q] at q3
                obtain ⟨b, g1, g2⟩ := t.yes m q1 q2 q3
                rw [g1]
                refine ⟨b, rfl, ?_⟩
                rw [Heap.get_upd_ne _ _ (fun e => by rw [e, t.m] at g2; exact cells_map g2.symm), Heap.get_new_ne _ _ (by have := hwf.lt g2; omega), g2]
                show _ = some (cellsB [.bool (decide (updI s.st n 1 m = 2)), .int .i64 (updI s.pa n p m), .int .i64 (updI s.su n 0 m)] .exact)
                rw [updI_ne _ _ q, updI_ne _ _ q, updI_ne _ _ q]
            · rw [lookI_app]
              have hne : m ≠ n := fun q => hm ⟨by omega, by omega, by rw [q]; show updI s.st n 1 n ≠ 0; rw [updI_same]; omega⟩
              rw [t.no m (fun q => hm ⟨q.1, q.2.1, by show updI s.st n 1 m ≠ 0; rw [updI_ne _ _ hne]; exact q.2.2⟩), if_neg hne]
            · refine List.pairwise_append.2 ⟨t.ap, List.pairwise_singleton _ _, fun x hx y hy => ?_⟩
              obtain rfl := List.mem_singleton.1 hy
              obtain ⟨b, g1, g2, g3, g4, g5⟩ := t.ent hx
              refine ⟨fun e => ?_, fun e => ?_, fun e => ?_⟩
              · have e : x.1 = n := e
                rw [e] at g4; exact g4 hz
              · have e : x.2.1 = .pointer (some ⟨h2.nx, 0, none⟩) := e
                rw [g1] at e
                simp only [Value.pointer.injEq, Option.some.injEq, Addr.mk.injEq] at e
                have := hwf.lt g5
                omega
              · have e : x.2.2 = c := e
                have := t.bc x hx
                omega
            · rcases List.mem_append.1 hx with hx | hx
              · have := t.bc x hx; omega
              · obtain rfl := List.mem_singleton.1 hx
                exact Nat.lt_succ_self c
          · refine ⟨by rw [Heap.nx_upd, Heap.nx_new]; omega, fun b q1 q2 q3 => ?_⟩
            rw [Heap.get_upd_ne _ _ q2, Heap.get_new_ne _ _ (by omega)]
        · obtain ⟨b, g1, g2⟩ := t.yes n (by omega) (by omega) hz
          simp (disch := (first | omega | rfl | (simp only [Heap.nx_upd, Heap.nx_new]; omega))) only [↓reduceIte, reduceCtorEq, Za, Zb, Zc, Zd, Ze, Zf, Zg, Zh, Zi, Zj, Zk, Zl, Zm, Zn, Zo, Zp, Zq, Zr, Zs, Zt, Zu, Zv, gval, Zw, Zx, Zy, Zz, ZA, ZB, ZC, ZD, ZE, ZF, decide_eq_true_eq, ZG, ZH, ZI, ZJ, ZK, ZL, ZM, ZN, ZO, ZP, ZQ, ZR, ZS, Option.some.injEq, exists_eq_left', ZT, ZU, ZV, ZW, ZX, ZY, true_and, and_true, true_or, or_true, false_or, or_false, ite_true, ite_false, cond_true, cond_false, ZZ, Qa, if_true, if_false, decide_true, decide_false, Qb, Qc, Qd, Qe, Qf, Qg, Qh, Qi, Qj, Qk, Ql, Qm, Qn, Qo, Qp, rb0, rb1, rb2, rb3, rb4, tf0, tf1, tf2, tf3, tf4, Heap.get_upd_ne, Heap.get_new_ne, Heap.get_new_at, overL_one, if_pos, stX_exactN, e0, e1, e6, hc1, t.p, lk89, t.m, lkX_some, g1, Option.getD_some, wn]
          refine hQn _ _ _ (by omega) ⟨n + 1, rfl, by omega, by omega, rfl, ?_, ?_, ?_, fun k q1 q2 => ?_⟩
          · simp only [↓reduceIte, reduceCtorEq, Za, Zb, Zc, Zd, Ze, Zf, Zg, Zh, Zi, Zj, Zk, Zl, Zm, Zn, Zo, Zp, Zq, Zr, Zs, Zt, Zu, Zv, gval, Zw, Zx, Zy, Zz, ZA, ZB, ZC, ZD, ZE, ZF, decide_eq_true_eq, ZG, ZH, ZI, ZJ, ZK, ZL, ZM, ZN, ZO, ZP, ZQ, ZR, ZS, Option.some.injEq, exists_eq_left', ZT, ZU, ZV, ZW, ZX, ZY, true_and, and_true, true_or, or_true, false_or, or_false, ite_true, ite_false, cond_true, cond_false, ZZ, Qa, if_true, if_false, decide_true, decide_false, Qb, Qc, Qd, Qe, Qf, Qg, Qh, Qi, Qj, Qk, Ql, Qm, Qn, Qo, Qp, rb0, rb1, rb2, rb3, rb4, tf0, tf1, tf2, tf3, tf4, e0]
          · simp only [↓reduceIte, reduceCtorEq, Za, Zb, Zc, Zd, Ze, Zf, Zg, Zh, Zi, Zj, Zk, Zl, Zm, Zn, Zo, Zp, Zq, Zr, Zs, Zt, Zu, Zv, gval, Zw, Zx, Zy, Zz, ZA, ZB, ZC, ZD, ZE, ZF, decide_eq_true_eq, ZG, ZH, ZI, ZJ, ZK, ZL, ZM, ZN, ZO, ZP, ZQ, ZR, ZS, Option.some.injEq, exists_eq_left', ZT, ZU, ZV, ZW, ZX, ZY, true_and, and_true, true_or, or_true, false_or, or_false, ite_true, ite_false, cond_true, cond_false, ZZ, Qa, if_true, if_false, decide_true, decide_false, Qb, Qc, Qd, Qe, Qf, Qg, Qh, Qi, Qj, Qk, Ql, Qm, Qn, Qo, Qp, rb0, rb1, rb2, rb3, rb4, tf0, tf1, tf2, tf3, tf4, e1]
          · simp only [↓reduceIte, reduceCtorEq, Za, Zb, Zc, Zd, Ze, Zf, Zg, Zh, Zi, Zj, Zk, Zl, Zm, Zn, Zo, Zp, Zq, Zr, Zs, Zt, Zu, Zv, gval, Zw, Zx, Zy, Zz, ZA, ZB, ZC, ZD, ZE, ZF, decide_eq_true_eq, ZG, ZH, ZI, ZJ, ZK, ZL, ZM, ZN, ZO, ZP, ZQ, ZR, ZS, Option.some.injEq, exists_eq_left', ZT, ZU, ZV, ZW, ZX, ZY, true_and, and_true, true_or, or_true, false_or, or_false, ite_true, ite_false, cond_true, cond_false, ZZ, Qa, if_true, if_false, decide_true, decide_false, Qb, Qc, Qd, Qe, Qf, Qg, Qh, Qi, Qj, Qk, Ql, Qm, Qn, Qo, Qp, rb0, rb1, rb2, rb3, rb4, tf0, tf1, tf2, tf3, tf4]
            rfl
          · by_cases q : k < n
            · exact hf k q1 q
            · obtain rfl : k = n := by omega
              exact hz
      · obtain rfl : n = 9 := by omega
        simp (disch := (first | omega | rfl | (simp only [Heap.nx_upd, Heap.nx_new]; omega))) only [↓reduceIte, reduceCtorEq, Za, Zb, Zc, Zd, Ze, Zf, Zg, Zh, Zi, Zj, Zk, Zl, Zm, Zn, Zo, Zp, Zq, Zr, Zs, Zt, Zu, Zv, gval, Zw, Zx, Zy, Zz, ZA, ZB, ZC, ZD, ZE, ZF, decide_eq_true_eq, ZG, ZH, ZI, ZJ, ZK, ZL, ZM, ZN, ZO, ZP, ZQ, ZR, ZS, Option.some.injEq, exists_eq_left', ZT, ZU, ZV, ZW, ZX, ZY, true_and, and_true, true_or, or_true, false_or, or_false, ite_true, ite_false, cond_true, cond_false, ZZ, Qa, if_true, if_false, decide_true, decide_false, Qb, Qc, Qd, Qe, Qf, Qg, Qh, Qi, Qj, Qk, Ql, Qm, Qn, Qo, Qp, rb0, rb1, rb2, rb3, rb4, tf0, tf1, tf2, tf3, tf4, Heap.get_upd_ne, Heap.get_new_ne, Heap.get_new_at, overL_one, if_pos, stX_exactN, e6]
        exact hQx _ _ _ (by simp) (.inl ⟨rfl, rfl, fun m q1 q2 => hf m q1 (by omega)⟩)
    · refine ⟨1, rfl, by omega, by omega, rfl, ?_, ?_, ?_, fun k q1 q2 => by omega⟩
      · simp only [↓reduceIte, reduceCtorEq, Za, Zb, Zc, Zd, Ze, Zf, Zg, Zh, Zi, Zj, Zk, Zl, Zm, Zn, Zo, Zp, Zq, Zr, Zs, Zt, Zu, Zv, gval, Zw, Zx, Zy, Zz, ZA, ZB, ZC, ZD, ZE, ZF, decide_eq_true_eq, ZG, ZH, ZI, ZJ, ZK, ZL, ZM, ZN, ZO, ZP, ZQ, ZR, ZS, Option.some.injEq, exists_eq_left', ZT, ZU, ZV, ZW, ZX, ZY, true_and, and_true, true_or, or_true, false_or, or_false, ite_true, ite_false, cond_true, cond_false, ZZ, Qa, if_true, if_false, decide_true, decide_false, Qb, Qc, Qd, Qe, Qf, Qg, Qh, Qi, Qj, Qk, Ql, Qm, Qn, Qo, Qp, rb0, rb1, rb2, rb3, rb4, tf0, tf1, tf2, tf3, tf4]
      · simp only [↓reduceIte, reduceCtorEq, Za, Zb, Zc, Zd, Ze, Zf, Zg, Zh, Zi, Zj, Zk, Zl, Zm, Zn, Zo, Zp, Zq, Zr, Zs, Zt, Zu, Zv, gval, Zw, Zx, Zy, Zz, ZA, ZB, ZC, ZD, ZE, ZF, decide_eq_true_eq, ZG, ZH, ZI, ZJ, ZK, ZL, ZM, ZN, ZO, ZP, ZQ, ZR, ZS, Option.some.injEq, exists_eq_left', ZT, ZU, ZV, ZW, ZX, ZY, true_and, and_true, true_or, or_true, false_or, or_false, ite_true, ite_false, cond_true, cond_false, ZZ, Qa, if_true, if_false, decide_true, decide_false, Qb, Qc, Qd, Qe, Qf, Qg, Qh, Qi, Qj, Qk, Ql, Qm, Qn, Qo, Qp, rb0, rb1, rb2, rb3, rb4, tf0, tf1, tf2, tf3, tf4]
      · simp only [↓reduceIte, reduceCtorEq, Za, Zb, Zc, Zd, Ze, Zf, Zg, Zh, Zi, Zj, Zk, Zl, Zm, Zn, Zo, Zp, Zq, Zr, Zs, Zt, Zu, Zv, gval, Zw, Zx, Zy, Zz, ZA, ZB, ZC, ZD, ZE, ZF, decide_eq_true_eq, ZG, ZH, ZI, ZJ, ZK, ZL, ZM, ZN, ZO, ZP, ZQ, ZR, ZS, Option.some.injEq, exists_eq_left', ZT, ZU, ZV, ZW, ZX, ZY, true_and, and_true, true_or, or_true, false_or, or_false, ite_true, ite_false, cond_true, cond_false, ZZ, Qa, if_true, if_false, decide_true, decide_false, Qb, Qc, Qd, Qe, Qf, Qg, Qh, Qi, Qj, Qk, Ql, Qm, Qn, Qo, Qp, rb0, rb1, rb2, rb3, rb4, tf0, tf1, tf2, tf3, tf4]
    · rintro ex e h2 - (⟨rfl, rfl, hfu⟩ | ⟨rfl, n, e4, e5, hfn, ht, he⟩)
      · simp only [↓reduceIte, reduceCtorEq, Za, Zb, Zc, Zd, Ze, Zf, Zg, Zh, Zi, Zj, Zk, Zl, Zm, Zn, Zo, Zp, Zq, Zr, Zs, Zt, Zu, Zv, gval, Zw, Zx, Zy, Zz, ZA, ZB, ZC, ZD, ZE, ZF, decide_eq_true_eq, ZG, ZH, ZI, ZJ, ZK, ZL, ZM, ZN, ZO, ZP, ZQ, ZR, ZS, Option.some.injEq, exists_eq_left', ZT, ZU, ZV, ZW, ZX, ZY, true_and, and_true, true_or, or_true, false_or, or_false, ite_true, ite_false, cond_true, cond_false, ZZ, Qa, if_true, if_false, decide_true, decide_false, Qb, Qc, Qd, Qe, Qf, Qg, Qh, Qi, Qj, Qk, Ql, Qm, Qn, Qo, Qp, rb0, rb1, rb2, rb3, rb4, tf0, tf1, tf2, tf3, tf4]
        exact hfull hl hfu
      · simp only [↓reduceIte, reduceCtorEq, Za, Zb, Zc, Zd, Ze, Zf, Zg, Zh, Zi, Zj, Zk, Zl, Zm, Zn, Zo, Zp, Zq, Zr, Zs, Zt, Zu, Zv, gval, Zw, Zx, Zy, Zz, ZA, ZB, ZC, ZD, ZE, ZF, decide_eq_true_eq, ZG, ZH, ZI, ZJ, ZK, ZL, ZM, ZN, ZO, ZP, ZQ, ZR, ZS, Option.some.injEq, exists_eq_left', ZT, ZU, ZV, ZW, ZX, ZY, true_and, and_true, true_or, or_true, false_or, or_false, ite_true, ite_false, cond_true, cond_false, ZZ, Qa, if_true, if_false, decide_true, decide_false, Qb, Qc, Qd, Qe, Qf, Qg, Qh, Qi, Qj, Qk, Ql, Qm, Qn, Qo, Qp, rb0, rb1, rb2, rb3, rb4, tf0, tf1, tf2, tf3, tf4, e4, e5]
        exact hok n h2 hl hfn ht he
end Go.Proofs.Ytmmjeifdgfolmaa
end
section
/- Rows of wints: how they lie, how they grow, how they are compared. Conditions: as each says. -/
namespace Go.Proofs.Ytmmjeifdgfolmaa
open Go.AM
open Nat renaming reduceBEq → Za, reduceEqDiff → Zb, reduceAdd → Zc, reduceSub → Zd, reduceMul → Ze, reduceLT → Zf, reduceLeDiff → Zg, reduceDiv → Zh, reduceMod → Zi, reducePow → Zj, blt_eq → ZF, zero_add → Qc, add_zero → Qd
open Int renaming reduceAdd → Zk, reduceSub → Zl, reduceMul → Zm, reduceLT → Zn, reduceLE → Zo, reduceEq → Zp, reduceNe → Zq, reduceNeg → Zr, reduceToNat → Zs, reduceDiv → Zt, reduceMod → Zu, reducePow → Zv, cast_ofNat_Int → Zw, toNat_natCast → Qb
open List renaming set_cons_zero → Zx, set_cons_succ → Zy, map_toArray → Zz, cons_append → ZA, nil_append → ZB, append_nil → ZC, all_cons → ZD, all_nil → ZE, getElem?_cons_zero → ZJ, getElem?_cons_succ → ZK, length_cons → ZL, length_nil → ZM, map_cons → ZN, map_nil → ZO, isEmpty_nil → Qe, any_cons → Qf, any_nil → Qg, drop_zero → Qk, drop_succ_cons → Ql, take_succ_cons → Qm, take_zero → Qn, take_nil → Qo, drop_nil → Qp
open Bool renaming and_true → ZG, true_and → ZH, and_self → ZI, not_true → ZT, not_false → ZU, true_eq_false → ZZ, false_eq_true → Qa, or_false → Qh, false_or → Qi, and_eq_true → Qj
open Option renaming map_some → ZP, map_none → ZQ, bind_some → ZR, getD_some → ZS, isNone_some → ZV, isNone_none → ZW, isSome_some → ZX, isSome_none → ZY
set_option linter.unusedSimpArgs false
variable {sp : Special} {h : Heap} {R : Out → Heap → Prop}
/-- a row of wints. -/
structure Wints (h : Heap) (lo : Nat) (v : Value) (l : List Int) : Prop where
  is : ∃ a c, v = .slice a l.length c ∧ (l.length = 0 ∨ ∃ b off X k, (lo ≤ b ∧ b < h.nx) ∧ a = some ⟨b, off, none⟩ ∧ h.get b = some (cellsB X k) ∧ off + l.length ≤ X.length ∧ ∀ i, i < l.length → X[off + i]? = (l[i]?).map (.int .i64 ·))
theorem Wints.keep {h' : Heap} {lo lo' : Nat} {v : Value} {l : List Int} (x : Wints h lo v l) (hlo : lo' ≤ lo) (hn : h.nx ≤ h'.nx) (hk : ∀ b, lo ≤ b → b < h.nx → h'.get b = h.get b) : Wints h' lo' v l := by
  obtain ⟨a, c, rfl, hx⟩ := x.is
  refine ⟨a, c, rfl, ?_⟩
  rcases hx with hx | ⟨b, off, X, k, h1, h2, h3, h4, h5⟩
  · exact .inl hx
  · exact .inr ⟨b, off, X, k, by omega, h2, (hk b h1.1 h1.2).trans h3, h4, h5⟩
theorem Wints.at {lo : Nat} {a : Option Addr} {n c : Nat} {l : List Int} (x : Wints h lo (.slice a n c) l) {i : Nat} (hi : i < l.length) : ∃ b off X k y, (lo ≤ b ∧ b < h.nx) ∧ a = some ⟨b, off, none⟩ ∧ h.get b = some (cellsB X k) ∧ X[off + i]? = some (.int .i64 y) ∧ l[i]? = some y := by
  obtain ⟨a', c', he, hx⟩ := x.is
  cases he
  rcases hx with hx | ⟨b, off, X, k, g1, g2, g3, g4, g5⟩
  · omega
  · obtain ⟨y, hy⟩ : ∃ y, l[i]? = some y := ⟨_, List.getElem?_eq_getElem hi⟩
    exact ⟨b, off, X, k, y, g1, g2, g3, by rw [g5 i hi, hy]; rfl, hy⟩
theorem lists_sameI {l l' : List Int} (hl : l.length = l'.length) (h : ∀ j, j < l.length → l[j]? = l'[j]?) : l = l' := by
  apply List.ext_getElem?
  intro j
  by_cases hj : j < l.length
  · exact h j hj
  · rw [List.getElem?_eq_none (by omega), List.getElem?_eq_none (by omega)]
set_option maxRecDepth 100000 in
theorem wints_spec (h1 : (sp 21).isNone = true) {lo lo' : Nat} {v w : Value} {l l' : List Int} (hv : Wints h lo v l) (hw : Wints h lo' w l')
    (hR : ∀ b : Bool, (b = true ↔ l = l') → R (.ret (.bool b)) h) (hl : l.length ≤ 100000000) : WF Try.prog 0 sp 21 [v, w] h R := by
  refine wf_fn (fn := Try.f21) h1 rfl (by kernel_rfl) rfl ?_
  obtain ⟨a1, c1, rfl, _⟩ := hv.is
  obtain ⟨a2, c2, rfl, _⟩ := hw.is
  simp (disch := (first | omega | rfl | (simp only [Heap.nx_upd, Heap.nx_new]; omega))) only [↓reduceIte, reduceCtorEq, Za, Zb, Zc, Zd, Ze, Zf, Zg, Zh, Zi, Zj, Zk, Zl, Zm, Zn, Zo, Zp, Zq, Zr, Zs, Zt, Zu, Zv, gval, Zw, Zx, Zy, Zz, ZA, ZB, ZC, ZD, ZE, ZF, decide_eq_true_eq, ZG, ZH, ZI, ZJ, ZK, ZL, ZM, ZN, ZO, ZP, ZQ, ZR, ZS, Option.some.injEq, exists_eq_left', ZT, ZU, ZV, ZW, ZX, ZY, true_and, and_true, true_or, or_true, false_or, or_false, ite_true, ite_false, cond_true, cond_false, ZZ, Qa, if_true, if_false, decide_true, decide_false, Qb, Qc, Qd, Qe, Qf, Qg, Qh, Qi, Qj, Qk, Ql, Qm, Qn, Qo, Qp, rb0, rb1, rb2, rb3, rb4, tf0, tf1, tf2, tf3, tf4, Heap.get_upd_ne, Heap.get_new_ne, Heap.get_new_at, overL_one, if_pos, stX_exactN, Try.f21]
  refine runB_bool (fun hc => ?_) (fun hc => ?_)
  · simp only [↓reduceIte, reduceCtorEq, Za, Zb, Zc, Zd, Ze, Zf, Zg, Zh, Zi, Zj, Zk, Zl, Zm, Zn, Zo, Zp, Zq, Zr, Zs, Zt, Zu, Zv, gval, Zw, Zx, Zy, Zz, ZA, ZB, ZC, ZD, ZE, ZF, decide_eq_true_eq, ZG, ZH, ZI, ZJ, ZK, ZL, ZM, ZN, ZO, ZP, ZQ, ZR, ZS, Option.some.injEq, exists_eq_left', ZT, ZU, ZV, ZW, ZX, ZY, true_and, and_true, true_or, or_true, false_or, or_false, ite_true, ite_false, cond_true, cond_false, ZZ, Qa, if_true, if_false, decide_true, decide_false, Qb, Qc, Qd, Qe, Qf, Qg, Qh, Qi, Qj, Qk, Ql, Qm, Qn, Qo, Qp, rb0, rb1, rb2, rb3, rb4, tf0, tf1, tf2, tf3, tf4]
    exact hR false ⟨fun e => by simp at e, fun e => by subst e; simp at hc⟩
  · have hc : l.length = l'.length := by have : (l.length : Int) = l'.length := by simpa using hc
                                         omega
    simp only [↓reduceIte, reduceCtorEq, Za, Zb, Zc, Zd, Ze, Zf, Zg, Zh, Zi, Zj, Zk, Zl, Zm, Zn, Zo, Zp, Zq, Zr, Zs, Zt, Zu, Zv, gval, Zw, Zx, Zy, Zz, ZA, ZB, ZC, ZD, ZE, ZF, decide_eq_true_eq, ZG, ZH, ZI, ZJ, ZK, ZL, ZM, ZN, ZO, ZP, ZQ, ZR, ZS, Option.some.injEq, exists_eq_left', ZT, ZU, ZV, ZW, ZX, ZY, true_and, and_true, true_or, or_true, false_or, or_false, ite_true, ite_false, cond_true, cond_false, ZZ, Qa, if_true, if_false, decide_true, decide_false, Qb, Qc, Qd, Qe, Qf, Qg, Qh, Qi, Qj, Qk, Ql, Qm, Qn, Qo, Qp, rb0, rb1, rb2, rb3, rb4, tf0, tf1, tf2, tf3, tf4]
    refine run_loop2 rfl (fun n e h2 => ∃ i : Nat, n = l.length - i ∧ i ≤ l.length ∧ h2 = h ∧ e.at 0 = .slice a1 l.length c1 ∧ e.at 1 = .slice a2 l'.length c2 ∧ e.at 5 = .int .i64 i ∧ ∀ j, j < i → l[j]? = l'[j]?)
      (fun ex e h2 => h2 = h ∧ (((ex = .exit 0) ∧ l = l') ∨ (ex = .ret ∧ e.at 4 = .bool false ∧ l ≠ l'))) ?_ l.length _ _ ?_ ?_
    · rintro n e h2 ⟨i, rfl, hi, rfl, e0, e1, e5, hj⟩ Q' hQn hQx
      by_cases hc : i < l.length
      · have hc1 : (i : Int) < (l.length : Int) := by omega
        obtain ⟨b1, o1, X1, k1, y, _, rfl, x1, x2, x3⟩ := hv.at hc
        obtain ⟨b2, o2, X2, k2, y', _, rfl, z1, z2, z3⟩ := hw.at (i := i) (by omega)
        have hc2 : i < l'.length := by omega
        simp (disch := (first | omega | rfl | (simp only [Heap.nx_upd, Heap.nx_new]; omega))) only [↓reduceIte, reduceCtorEq, Za, Zb, Zc, Zd, Ze, Zf, Zg, Zh, Zi, Zj, Zk, Zl, Zm, Zn, Zo, Zp, Zq, Zr, Zs, Zt, Zu, Zv, gval, Zw, Zx, Zy, Zz, ZA, ZB, ZC, ZD, ZE, ZF, decide_eq_true_eq, ZG, ZH, ZI, ZJ, ZK, ZL, ZM, ZN, ZO, ZP, ZQ, ZR, ZS, Option.some.injEq, exists_eq_left', ZT, ZU, ZV, ZW, ZX, ZY, true_and, and_true, true_or, or_true, false_or, or_false, ite_true, ite_false, cond_true, cond_false, ZZ, Qa, if_true, if_false, decide_true, decide_false, Qb, Qc, Qd, Qe, Qf, Qg, Qh, Qi, Qj, Qk, Ql, Qm, Qn, Qo, Qp, rb0, rb1, rb2, rb3, rb4, tf0, tf1, tf2, tf3, tf4, Heap.get_upd_ne, Heap.get_new_ne, Heap.get_new_at, overL_one, if_pos, stX_exactN, e0, e1, e5, hc1]
        refine run_draw (ps := []) (by kernel_rfl) (by kernel_rfl) ?_
        simp (disch := (first | omega | rfl | (simp only [Heap.nx_upd, Heap.nx_new]; omega))) only [↓reduceIte, reduceCtorEq, Za, Zb, Zc, Zd, Ze, Zf, Zg, Zh, Zi, Zj, Zk, Zl, Zm, Zn, Zo, Zp, Zq, Zr, Zs, Zt, Zu, Zv, gval, Zw, Zx, Zy, Zz, ZA, ZB, ZC, ZD, ZE, ZF, decide_eq_true_eq, ZG, ZH, ZI, ZJ, ZK, ZL, ZM, ZN, ZO, ZP, ZQ, ZR, ZS, Option.some.injEq, exists_eq_left', ZT, ZU, ZV, ZW, ZX, ZY, true_and, and_true, true_or, or_true, false_or, or_false, ite_true, ite_false, cond_true, cond_false, ZZ, Qa, if_true, if_false, decide_true, decide_false, Qb, Qc, Qd, Qe, Qf, Qg, Qh, Qi, Qj, Qk, Ql, Qm, Qn, Qo, Qp, rb0, rb1, rb2, rb3, rb4, tf0, tf1, tf2, tf3, tf4, Heap.get_upd_ne, Heap.get_new_ne, Heap.get_new_at, overL_one, if_pos, stX_exactN, e0, e1, e5, hc1, hc2, x1, x2, z1, z2, Nat.mul_one, wrapI]
        refine runB_bool (fun hd => ?_) (fun hd => ?_)
        · simp only [↓reduceIte, reduceCtorEq, Za, Zb, Zc, Zd, Ze, Zf, Zg, Zh, Zi, Zj, Zk, Zl, Zm, Zn, Zo, Zp, Zq, Zr, Zs, Zt, Zu, Zv, gval, Zw, Zx, Zy, Zz, ZA, ZB, ZC, ZD, ZE, ZF, decide_eq_true_eq, ZG, ZH, ZI, ZJ, ZK, ZL, ZM, ZN, ZO, ZP, ZQ, ZR, ZS, Option.some.injEq, exists_eq_left', ZT, ZU, ZV, ZW, ZX, ZY, true_and, and_true, true_or, or_true, false_or, or_false, ite_true, ite_false, cond_true, cond_false, ZZ, Qa, if_true, if_false, decide_true, decide_false, Qb, Qc, Qd, Qe, Qf, Qg, Qh, Qi, Qj, Qk, Ql, Qm, Qn, Qo, Qp, rb0, rb1, rb2, rb3, rb4, tf0, tf1, tf2, tf3, tf4]
          refine hQx _ _ _ (by simp) ⟨rfl, .inr ⟨rfl, ?_, fun e => ?_⟩⟩
          · simp only [↓reduceIte, reduceCtorEq, Za, Zb, Zc, Zd, Ze, Zf, Zg, Zh, Zi, Zj, Zk, Zl, Zm, Zn, Zo, Zp, Zq, Zr, Zs, Zt, Zu, Zv, gval, Zw, Zx, Zy, Zz, ZA, ZB, ZC, ZD, ZE, ZF, decide_eq_true_eq, ZG, ZH, ZI, ZJ, ZK, ZL, ZM, ZN, ZO, ZP, ZQ, ZR, ZS, Option.some.injEq, exists_eq_left', ZT, ZU, ZV, ZW, ZX, ZY, true_and, and_true, true_or, or_true, false_or, or_false, ite_true, ite_false, cond_true, cond_false, ZZ, Qa, if_true, if_false, decide_true, decide_false, Qb, Qc, Qd, Qe, Qf, Qg, Qh, Qi, Qj, Qk, Ql, Qm, Qn, Qo, Qp, rb0, rb1, rb2, rb3, rb4, tf0, tf1, tf2, tf3, tf4]
          · subst e
            rw [x3] at z3
            cases z3
            simp at hd
        · have hd : y = y' := by simpa using hd
          simp (disch := (first | omega | rfl | (simp only [Heap.nx_upd, Heap.nx_new]; omega))) only [↓reduceIte, reduceCtorEq, Za, Zb, Zc, Zd, Ze, Zf, Zg, Zh, Zi, Zj, Zk, Zl, Zm, Zn, Zo, Zp, Zq, Zr, Zs, Zt, Zu, Zv, gval, Zw, Zx, Zy, Zz, ZA, ZB, ZC, ZD, ZE, ZF, decide_eq_true_eq, ZG, ZH, ZI, ZJ, ZK, ZL, ZM, ZN, ZO, ZP, ZQ, ZR, ZS, Option.some.injEq, exists_eq_left', ZT, ZU, ZV, ZW, ZX, ZY, true_and, and_true, true_or, or_true, false_or, or_false, ite_true, ite_false, cond_true, cond_false, ZZ, Qa, if_true, if_false, decide_true, decide_false, Qb, Qc, Qd, Qe, Qf, Qg, Qh, Qi, Qj, Qk, Ql, Qm, Qn, Qo, Qp, rb0, rb1, rb2, rb3, rb4, tf0, tf1, tf2, tf3, tf4, Heap.get_upd_ne, Heap.get_new_ne, Heap.get_new_at, overL_one, if_pos, stX_exactN, e0, e1, e5, wrapI]
          refine hQn _ _ _ ?_ ⟨i + 1, rfl, by omega, rfl, ?_, ?_, ?_, fun j hj' => ?_⟩
          · omega
          · simp only [↓reduceIte, reduceCtorEq, Za, Zb, Zc, Zd, Ze, Zf, Zg, Zh, Zi, Zj, Zk, Zl, Zm, Zn, Zo, Zp, Zq, Zr, Zs, Zt, Zu, Zv, gval, Zw, Zx, Zy, Zz, ZA, ZB, ZC, ZD, ZE, ZF, decide_eq_true_eq, ZG, ZH, ZI, ZJ, ZK, ZL, ZM, ZN, ZO, ZP, ZQ, ZR, ZS, Option.some.injEq, exists_eq_left', ZT, ZU, ZV, ZW, ZX, ZY, true_and, and_true, true_or, or_true, false_or, or_false, ite_true, ite_false, cond_true, cond_false, ZZ, Qa, if_true, if_false, decide_true, decide_false, Qb, Qc, Qd, Qe, Qf, Qg, Qh, Qi, Qj, Qk, Ql, Qm, Qn, Qo, Qp, rb0, rb1, rb2, rb3, rb4, tf0, tf1, tf2, tf3, tf4, e0]
          · simp only [↓reduceIte, reduceCtorEq, Za, Zb, Zc, Zd, Ze, Zf, Zg, Zh, Zi, Zj, Zk, Zl, Zm, Zn, Zo, Zp, Zq, Zr, Zs, Zt, Zu, Zv, gval, Zw, Zx, Zy, Zz, ZA, ZB, ZC, ZD, ZE, ZF, decide_eq_true_eq, ZG, ZH, ZI, ZJ, ZK, ZL, ZM, ZN, ZO, ZP, ZQ, ZR, ZS, Option.some.injEq, exists_eq_left', ZT, ZU, ZV, ZW, ZX, ZY, true_and, and_true, true_or, or_true, false_or, or_false, ite_true, ite_false, cond_true, cond_false, ZZ, Qa, if_true, if_false, decide_true, decide_false, Qb, Qc, Qd, Qe, Qf, Qg, Qh, Qi, Qj, Qk, Ql, Qm, Qn, Qo, Qp, rb0, rb1, rb2, rb3, rb4, tf0, tf1, tf2, tf3, tf4, e1]
          · simp only [↓reduceIte, reduceCtorEq, Za, Zb, Zc, Zd, Ze, Zf, Zg, Zh, Zi, Zj, Zk, Zl, Zm, Zn, Zo, Zp, Zq, Zr, Zs, Zt, Zu, Zv, gval, Zw, Zx, Zy, Zz, ZA, ZB, ZC, ZD, ZE, ZF, decide_eq_true_eq, ZG, ZH, ZI, ZJ, ZK, ZL, ZM, ZN, ZO, ZP, ZQ, ZR, ZS, Option.some.injEq, exists_eq_left', ZT, ZU, ZV, ZW, ZX, ZY, true_and, and_true, true_or, or_true, false_or, or_false, ite_true, ite_false, cond_true, cond_false, ZZ, Qa, if_true, if_false, decide_true, decide_false, Qb, Qc, Qd, Qe, Qf, Qg, Qh, Qi, Qj, Qk, Ql, Qm, Qn, Qo, Qp, rb0, rb1, rb2, rb3, rb4, tf0, tf1, tf2, tf3, tf4]
            rfl
          · by_cases e : j < i
            · exact hj j e
            · obtain rfl : j = i := by omega
              rw [x3, z3, hd]
      · have hc1 : ¬ (i : Int) < (l.length : Int) := by omega
        simp (disch := (first | omega | rfl | (simp only [Heap.nx_upd, Heap.nx_new]; omega))) only [↓reduceIte, reduceCtorEq, Za, Zb, Zc, Zd, Ze, Zf, Zg, Zh, Zi, Zj, Zk, Zl, Zm, Zn, Zo, Zp, Zq, Zr, Zs, Zt, Zu, Zv, gval, Zw, Zx, Zy, Zz, ZA, ZB, ZC, ZD, ZE, ZF, decide_eq_true_eq, ZG, ZH, ZI, ZJ, ZK, ZL, ZM, ZN, ZO, ZP, ZQ, ZR, ZS, Option.some.injEq, exists_eq_left', ZT, ZU, ZV, ZW, ZX, ZY, true_and, and_true, true_or, or_true, false_or, or_false, ite_true, ite_false, cond_true, cond_false, ZZ, Qa, if_true, if_false, decide_true, decide_false, Qb, Qc, Qd, Qe, Qf, Qg, Qh, Qi, Qj, Qk, Ql, Qm, Qn, Qo, Qp, rb0, rb1, rb2, rb3, rb4, tf0, tf1, tf2, tf3, tf4, Heap.get_upd_ne, Heap.get_new_ne, Heap.get_new_at, overL_one, if_pos, stX_exactN, e0, e1, e5, hc1]
        refine hQx _ _ _ (by simp) ⟨rfl, .inl ⟨rfl, lists_sameI (by omega) fun j hj' => hj j (by omega)⟩⟩
    · refine ⟨0, rfl, by omega, rfl, ?_, ?_, ?_, fun j hj => by omega⟩
      · simp only [↓reduceIte, reduceCtorEq, Za, Zb, Zc, Zd, Ze, Zf, Zg, Zh, Zi, Zj, Zk, Zl, Zm, Zn, Zo, Zp, Zq, Zr, Zs, Zt, Zu, Zv, gval, Zw, Zx, Zy, Zz, ZA, ZB, ZC, ZD, ZE, ZF, decide_eq_true_eq, ZG, ZH, ZI, ZJ, ZK, ZL, ZM, ZN, ZO, ZP, ZQ, ZR, ZS, Option.some.injEq, exists_eq_left', ZT, ZU, ZV, ZW, ZX, ZY, true_and, and_true, true_or, or_true, false_or, or_false, ite_true, ite_false, cond_true, cond_false, ZZ, Qa, if_true, if_false, decide_true, decide_false, Qb, Qc, Qd, Qe, Qf, Qg, Qh, Qi, Qj, Qk, Ql, Qm, Qn, Qo, Qp, rb0, rb1, rb2, rb3, rb4, tf0, tf1, tf2, tf3, tf4]
      · simp only [↓reduceIte, reduceCtorEq, Za, Zb, Zc, Zd, Ze, Zf, Zg, Zh, Zi, Zj, Zk, Zl, Zm, Zn, Zo, Zp, Zq, Zr, Zs, Zt, Zu, Zv, gval, Zw, Zx, Zy, Zz, ZA, ZB, ZC, ZD, ZE, ZF, decide_eq_true_eq, ZG, ZH, ZI, ZJ, ZK, ZL, ZM, ZN, ZO, ZP, ZQ, ZR, ZS, Option.some.injEq, exists_eq_left', ZT, ZU, ZV, ZW, ZX, ZY, true_and, and_true, true_or, or_true, false_or, or_false, ite_true, ite_false, cond_true, cond_false, ZZ, Qa, if_true, if_false, decide_true, decide_false, Qb, Qc, Qd, Qe, Qf, Qg, Qh, Qi, Qj, Qk, Ql, Qm, Qn, Qo, Qp, rb0, rb1, rb2, rb3, rb4, tf0, tf1, tf2, tf3, tf4]
      · simp only [↓reduceIte, reduceCtorEq, Za, Zb, Zc, Zd, Ze, Zf, Zg, Zh, Zi, Zj, Zk, Zl, Zm, Zn, Zo, Zp, Zq, Zr, Zs, Zt, Zu, Zv, gval, Zw, Zx, Zy, Zz, ZA, ZB, ZC, ZD, ZE, ZF, decide_eq_true_eq, ZG, ZH, ZI, ZJ, ZK, ZL, ZM, ZN, ZO, ZP, ZQ, ZR, ZS, Option.some.injEq, exists_eq_left', ZT, ZU, ZV, ZW, ZX, ZY, true_and, and_true, true_or, or_true, false_or, or_false, ite_true, ite_false, cond_true, cond_false, ZZ, Qa, if_true, if_false, decide_true, decide_false, Qb, Qc, Qd, Qe, Qf, Qg, Qh, Qi, Qj, Qk, Ql, Qm, Qn, Qo, Qp, rb0, rb1, rb2, rb3, rb4, tf0, tf1, tf2, tf3, tf4]
    · rintro ex e h2 - ⟨rfl, ⟨rfl, he⟩ | ⟨rfl, e4, he⟩⟩
      · simp only [↓reduceIte, reduceCtorEq, Za, Zb, Zc, Zd, Ze, Zf, Zg, Zh, Zi, Zj, Zk, Zl, Zm, Zn, Zo, Zp, Zq, Zr, Zs, Zt, Zu, Zv, gval, Zw, Zx, Zy, Zz, ZA, ZB, ZC, ZD, ZE, ZF, decide_eq_true_eq, ZG, ZH, ZI, ZJ, ZK, ZL, ZM, ZN, ZO, ZP, ZQ, ZR, ZS, Option.some.injEq, exists_eq_left', ZT, ZU, ZV, ZW, ZX, ZY, true_and, and_true, true_or, or_true, false_or, or_false, ite_true, ite_false, cond_true, cond_false, ZZ, Qa, if_true, if_false, decide_true, decide_false, Qb, Qc, Qd, Qe, Qf, Qg, Qh, Qi, Qj, Qk, Ql, Qm, Qn, Qo, Qp, rb0, rb1, rb2, rb3, rb4, tf0, tf1, tf2, tf3, tf4]
        exact hR true ⟨fun _ => he, fun _ => rfl⟩
      · simp only [↓reduceIte, reduceCtorEq, Za, Zb, Zc, Zd, Ze, Zf, Zg, Zh, Zi, Zj, Zk, Zl, Zm, Zn, Zo, Zp, Zq, Zr, Zs, Zt, Zu, Zv, gval, Zw, Zx, Zy, Zz, ZA, ZB, ZC, ZD, ZE, ZF, decide_eq_true_eq, ZG, ZH, ZI, ZJ, ZK, ZL, ZM, ZN, ZO, ZP, ZQ, ZR, ZS, Option.some.injEq, exists_eq_left', ZT, ZU, ZV, ZW, ZX, ZY, true_and, and_true, true_or, or_true, false_or, or_false, ite_true, ite_false, cond_true, cond_false, ZZ, Qa, if_true, if_false, decide_true, decide_false, Qb, Qc, Qd, Qe, Qf, Qg, Qh, Qi, Qj, Qk, Ql, Qm, Qn, Qo, Qp, rb0, rb1, rb2, rb3, rb4, tf0, tf1, tf2, tf3, tf4, e4]
        exact hR false ⟨fun e => by simp at e, fun e => absurd e he⟩
theorem bs1_34 (v : Int) (nx : Nat) : effBuildSlice Try.prog 34 1 [(0, .int .i64 v)] nx = some ⟨.slice (some ⟨nx, 0, none⟩) 1 1, [], [cellsB [.int .i64 v] .exact]⟩ := by
  rw [u_buildSlice 34 1 nx _ mk_34 (by omega)]; rfl
abbrev i64s (l : List Int) : List Value := l.map (.int .i64 ·)
/-- a row of wints that grows. -/
structure Gints (h : Heap) (lo : Nat) (b : Option Nat) (l : List Int) (v : Value) : Prop where
  is : (b = none ∧ v = .slice none 0 0 ∧ l = []) ∨ ∃ b', b = some b' ∧ lo ≤ b' ∧ b' < h.nx ∧ v = .slice (some ⟨b', 0, none⟩) l.length l.length ∧ h.get b' = some (cellsB (i64s l) (.loose 1))
theorem Gints.of {h' : Heap} {lo : Nat} {b : Option Nat} {l : List Int} {v : Value} (x : Gints h lo b l v) (hn : h.nx ≤ h'.nx) (hk : ∀ b', b = some b' → h'.get b' = h.get b') : Gints h' lo b l v := by
  rcases x.is with ⟨h1, h2, h3⟩ | ⟨b', h1, h2, h3, h4, h5⟩
  · exact ⟨.inl ⟨h1, h2, h3⟩⟩
  · exact ⟨.inr ⟨b', h1, h2, by omega, h4, (hk b' h1).trans h5⟩⟩
theorem Gints.lt {lo : Nat} {b : Option Nat} {l : List Int} {v : Value} (x : Gints h lo b l v) : ∀ b', b = some b' → lo ≤ b' ∧ b' < h.nx := by
  intro b' hb'
  rcases x.is with ⟨h1, _, _⟩ | ⟨b'', h1, h2, h3, _, _⟩
  · rw [h1] at hb'; cases hb'
  · rw [h1] at hb'; cases hb'; exact ⟨h2, h3⟩
theorem Gints.ne {lo : Nat} {b : Option Nat} {l : List Int} {v : Value} (x : Gints h lo b l v) {b' : Nat} (hb : b' < lo) : b ≠ some b' := fun e => by
  have := x.lt b' e; omega
theorem Wints.first {lo : Nat} {a : Option Addr} {c : Nat} {l : List Int} (x : Wints h lo (.slice a l.length c) l) : firstL h.get 1 l.length (.slice a l.length c) = some (i64s l) := by
  obtain ⟨a', c', he, hx⟩ := x.is
  cases he
  rcases hx with hx | ⟨b, off, X, k, h1, rfl, h3, h4, h5⟩
  · rw [hx, List.eq_nil_of_length_eq_zero hx]; rfl
  · rw [firstL_slc _ _ _ _ _ _ _ _ _ h3 (by omega)]
    congr 1
    apply List.ext_getElem?
    intro j
    rw [List.getElem?_take, List.getElem?_map]
    by_cases hj : j < l.length
    · rw [if_pos (by omega), List.getElem?_drop, h5 j hj]
    · rw [if_neg (by omega), List.getElem?_eq_none (by omega)]; rfl
theorem Gints.new {lo : Nat} {b : Option Nat} {l : List Int} {v : Value} (x : Gints h lo b l v) {c : Blk} : Gints (h.new c) lo b l v :=
  x.of (by rw [Heap.nx_new]; omega) fun b' hb' => by rw [Heap.get_new_ne _ _ (by have := x.lt b' hb'; omega)]
theorem Gints.wints {lo : Nat} {b : Option Nat} {l : List Int} {v : Value} (x : Gints h lo b l v) : Wints h lo v l := by
  rcases x.is with ⟨h1, rfl, rfl⟩ | ⟨b', h1, h2, h3, rfl, h5⟩
  · exact ⟨none, 0, rfl, .inl rfl⟩
  · refine ⟨_, _, rfl, .inr ⟨b', 0, _, _, ⟨h2, h3⟩, rfl, h5, by simp, fun i hi => ?_⟩⟩
    rw [Nat.zero_add, List.getElem?_map]
theorem growI {lo : Nat} {b : Option Nat} {l xs : List Int} {v x : Value} (g : Gints h lo b l v) (hlo : lo ≤ h.nx) (hx : lenV x = some xs.length) (hnew : firstL h.get 1 xs.length x = some (i64s xs)) (hsz : l.length + xs.length ≤ 20000000000) :
    ∃ E h1 b1 w, aAppend Try.prog #[34, 34] v x h.get h.nx = some E ∧ E.val = w ∧ h.apply E = h1 ∧ Gints h1 lo b1 (l ++ xs) w ∧ h.nx ≤ h1.nx ∧ (∀ b', b ≠ some b' → b' < h.nx → h1.get b' = h.get b') ∧ (∀ b', b1 = some b' → b = some b' ∨ h.nx ≤ b') := by
  rcases g.is with ⟨rfl, rfl, rfl⟩ | ⟨b', rfl, h2, h3, rfl, h5⟩
  · cases xs with
    | nil =>
      refine ⟨⟨.slice none 0 0, [], []⟩, h, none, .slice none 0 0, ?_, rfl, rfl, ⟨.inl ⟨rfl, rfl, rfl⟩⟩, ?_, fun b' _ _ => ?_, fun b' hb' => by cases hb'⟩
      · rw [aAppend_unf (appT_ok app_34_34) none 0 0 0 x _ _ hx (by omega) hnew]
        rfl
      · exact Nat.le_refl _
      · rfl
    | cons y ys =>
      refine ⟨_, _, some h.nx, _, aAppend_nil app_34_34 (y :: ys).length x _ _ hx (by simp) (by simp only [List.length_nil] at hsz; omega) hnew, rfl, rfl, ⟨.inr ⟨h.nx, rfl, hlo, ?_, rfl, ?_⟩⟩, ?_, fun b' _ hb' => ?_, fun b' hb' => ?_⟩
      · rw [Heap.apply_nw, Heap.nx_new]; omega
      · rw [Heap.apply_nw, Heap.get_new_same]; rfl
      · rw [Heap.apply_nw, Heap.nx_new]; omega
      · rw [Heap.apply_nw, Heap.get_new_ne _ _ (by omega)]
      · cases hb'; exact .inr (Nat.le_refl _)
  · by_cases hz : xs.length = 0
    · have hxs : xs = [] := List.eq_nil_of_length_eq_zero hz
      subst hxs
      have hlen : (i64s l).length = l.length := by simp
      refine ⟨⟨.slice (some ⟨b', 0, none⟩) l.length l.length, [(b', cellsB (i64s l) (.loose 1))], []⟩, h.upd b' (cellsB (i64s l) (.loose 1)), some b', _, ?_, rfl, rfl, ⟨.inr ⟨b', rfl, h2, ?_, ?_, ?_⟩⟩, ?_, fun b'' hb'' _ => ?_, fun b'' hb'' => .inl hb''⟩
      · rw [aAppend_unf (appT_ok app_34_34) _ l.length l.length 0 x _ _ hx (by simp only [List.length_nil] at hsz; omega) hnew, if_pos (by omega)]
        simp only [h5, cellsB]
        rw [if_pos (by simp)]
        rfl
      · rw [Heap.nx_upd]; exact h3
      · simp
      · rw [Heap.get_upd_same, List.append_nil]
      · exact Nat.le_refl _
      · rw [Heap.get_upd_ne _ _ (fun e => hb'' (by rw [e]))]
    · refine ⟨_, _, some h.nx, _, aAppend_loose app_34_34 b' l.length xs.length x _ _ h5 (by simp) hx hz (by omega) hnew, rfl, rfl, ⟨.inr ⟨h.nx, rfl, hlo, ?_, by simp, ?_⟩⟩, ?_, fun b'' hb'' hn => ?_, fun b'' hb'' => ?_⟩
      · rw [Heap.apply_wr_nw, Heap.nx_new, Heap.nx_upd]; omega
      · rw [Heap.apply_wr_nw, Heap.get_new_at _ (by rw [Heap.nx_upd]; omega)]; simp
      · rw [Heap.apply_wr_nw, Heap.nx_new, Heap.nx_upd]; omega
      · rw [Heap.apply_wr_nw, Heap.get_new_ne _ _ (by rw [Heap.nx_upd]; omega), Heap.get_upd_ne _ _ (fun e => hb'' (by rw [e]))]
      · cases hb''; exact .inr (Nat.le_refl _)
end Go.Proofs.Ytmmjeifdgfolmaa
end
section
/- The program's processes: Begin, Parent, All. Conditions: the table lies as the rules name. -/
namespace Go.Proofs.Ytmmjeifdgfolmaa
open Go.AM
open Nat renaming reduceBEq → Za, reduceEqDiff → Zb, reduceAdd → Zc, reduceSub → Zd, reduceMul → Ze, reduceLT → Zf, reduceLeDiff → Zg, reduceDiv → Zh, reduceMod → Zi, reducePow → Zj, blt_eq → ZF, zero_add → Qc, add_zero → Qd
open Int renaming reduceAdd → Zk, reduceSub → Zl, reduceMul → Zm, reduceLT → Zn, reduceLE → Zo, reduceEq → Zp, reduceNe → Zq, reduceNeg → Zr, reduceToNat → Zs, reduceDiv → Zt, reduceMod → Zu, reducePow → Zv, cast_ofNat_Int → Zw, toNat_natCast → Qb
open List renaming set_cons_zero → Zx, set_cons_succ → Zy, map_toArray → Zz, cons_append → ZA, nil_append → ZB, append_nil → ZC, all_cons → ZD, all_nil → ZE, getElem?_cons_zero → ZJ, getElem?_cons_succ → ZK, length_cons → ZL, length_nil → ZM, map_cons → ZN, map_nil → ZO, isEmpty_nil → Qe, any_cons → Qf, any_nil → Qg, drop_zero → Qk, drop_succ_cons → Ql, take_succ_cons → Qm, take_zero → Qn, take_nil → Qo, drop_nil → Qp
open Bool renaming and_true → ZG, true_and → ZH, and_self → ZI, not_true → ZT, not_false → ZU, true_eq_false → ZZ, false_eq_true → Qa, or_false → Qh, false_or → Qi, and_eq_true → Qj
open Option renaming map_some → ZP, map_none → ZQ, bind_some → ZR, getD_some → ZS, isNone_some → ZV, isNone_none → ZW, isSome_some → ZX, isSome_none → ZY
set_option linter.unusedSimpArgs false
variable {sp : Special} {h : Heap} {R : Out → Heap → Prop} {bp r c : Nat} {l : List Ent} {s : PS}
set_option maxRecDepth 100000 in
theorem pbegin_spec (h0 : (sp 13).isNone = true) (hwf : HWf h) (t : Tb h bp r [] c PS.zero)
    (hok : ∀ h', Tb h' bp r [(1, .pointer (some ⟨h.nx, 0, none⟩), c)] (c + 1) (PS.zero.set 1 1 0 0) → Else h h' r [] → R (.ret (.int .i64 1)) h') :
    WF Try.prog 0 sp 13 [.pointer (some ⟨bp, 0, none⟩)] h R := by
  refine wf_fn (fn := Try.f13) h0 rfl (by kernel_rfl) rfl ?_
  have hbr := hwf.lt t.m
  have hbp := hwf.lt t.p
  have hm : h.get r = some (.map [] c) := t.m
  have hup := upX_new .i64 r 1 (.pointer (some ⟨h.nx, 0, none⟩)) [] c rfl rfl
  simp (disch := (first | omega | rfl | (simp only [Heap.nx_upd, Heap.nx_new]; omega))) only [↓reduceIte, reduceCtorEq, Za, Zb, Zc, Zd, Ze, Zf, Zg, Zh, Zi, Zj, Zk, Zl, Zm, Zn, Zo, Zp, Zq, Zr, Zs, Zt, Zu, Zv, gval, Zw, Zx, Zy, Zz, ZA, ZB, ZC, ZD, ZE, ZF, decide_eq_true_eq, ZG, ZH, ZI, ZJ, ZK, ZL, ZM, ZN, ZO, ZP, ZQ, ZR, ZS, Option.some.injEq, exists_eq_left', ZT, ZU, ZV, ZW, ZX, ZY, true_and, and_true, true_or, or_true, false_or, or_false, ite_true, ite_false, cond_true, cond_false, ZZ, Qa, if_true, if_false, decide_true, decide_false, Qb, Qc, Qd, Qe, Qf, Qg, Qh, Qi, Qj, Qk, Ql, Qm, Qn, Qo, Qp, rb0, rb1, rb2, rb3, rb4, tf0, tf1, tf2, tf3, tf4, Heap.get_upd_ne, Heap.get_new_ne, Heap.get_new_at, overL_one, if_pos, stX_exactN, Try.f13, t.p, hm]
  simp (disch := (first | omega | rfl | (simp only [Heap.nx_upd, Heap.nx_new]; omega))) only [↓reduceIte, reduceCtorEq, Za, Zb, Zc, Zd, Ze, Zf, Zg, Zh, Zi, Zj, Zk, Zl, Zm, Zn, Zo, Zp, Zq, Zr, Zs, Zt, Zu, Zv, gval, Zw, Zx, Zy, Zz, ZA, ZB, ZC, ZD, ZE, ZF, decide_eq_true_eq, ZG, ZH, ZI, ZJ, ZK, ZL, ZM, ZN, ZO, ZP, ZQ, ZR, ZS, Option.some.injEq, exists_eq_left', ZT, ZU, ZV, ZW, ZX, ZY, true_and, and_true, true_or, or_true, false_or, or_false, ite_true, ite_false, cond_true, cond_false, ZZ, Qa, if_true, if_false, decide_true, decide_false, Qb, Qc, Qd, Qe, Qf, Qg, Qh, Qi, Qj, Qk, Ql, Qm, Qn, Qo, Qp, rb0, rb1, rb2, rb3, rb4, tf0, tf1, tf2, tf3, tf4, Heap.get_upd_ne, Heap.get_new_ne, Heap.get_new_at, overL_one, if_pos, stX_exactN, up89, t.m, hup]
  refine hok _ ?_ ⟨by rw [Heap.nx_upd, Heap.nx_new]; omega, fun b q1 q2 _ => by rw [Heap.get_upd_ne _ _ q2, Heap.get_new_ne _ _ (by omega)]⟩
  refine ⟨?_, Heap.get_upd_same _ _ _, fun m q1 q2 q3 => ?_, fun m hm => ?_, List.pairwise_singleton _ _, fun x hx => ?_⟩
  · rw [Heap.get_upd_ne _ _ (fun e => by have := t.p; rw [e, t.m] at this; exact cells_map this.symm), Heap.get_new_ne _ _ (by omega)]
    exact t.p
  · have q3 : updI (fun _ => 0) 1 1 m ≠ 0 := q3
    by_cases e : m = 1
    · subst e
      refine ⟨_, rfl, ?_⟩
      rw [Heap.get_upd_ne _ _ (by omega), Heap.get_new_same]; rfl
    · rw [updI_ne _ _ e] at q3; exact absurd rfl q3
  · have hne : m ≠ 1 := fun e => hm ⟨by omega, by omega, by rw [e]; show (1 : Int) ≠ 0; omega⟩
    show (if m = 1 then _ else none) = none
    rw [if_neg hne]
  · obtain rfl := List.mem_singleton.1 hx
    exact Nat.lt_succ_self c
def PS.par (s : PS) (p : Int) : Int := if 1 ≤ p ∧ p < 9 ∧ s.st p ≠ 0 then s.pa p else -1
set_option maxRecDepth 100000 in
theorem pparent_spec (h0 : (sp 16).isNone = true) (t : Tb h bp r l c s) {p : Int} (hR : R (.ret (.int .i64 (s.par p))) h) : WF Try.prog 0 sp 16 [.pointer (some ⟨bp, 0, none⟩), .int .i64 p] h R := by
  refine wf_fn (fn := Try.f16) h0 rfl (by kernel_rfl) rfl ?_
  unfold PS.par at hR
  by_cases hp : 1 ≤ p ∧ p < 9 ∧ s.st p ≠ 0
  · rw [if_pos hp] at hR
    obtain ⟨b, g1, g2⟩ := t.yes p hp.1 hp.2.1 hp.2.2
    simp (disch := (first | omega | rfl | (simp only [Heap.nx_upd, Heap.nx_new]; omega))) only [↓reduceIte, reduceCtorEq, Za, Zb, Zc, Zd, Ze, Zf, Zg, Zh, Zi, Zj, Zk, Zl, Zm, Zn, Zo, Zp, Zq, Zr, Zs, Zt, Zu, Zv, gval, Zw, Zx, Zy, Zz, ZA, ZB, ZC, ZD, ZE, ZF, decide_eq_true_eq, ZG, ZH, ZI, ZJ, ZK, ZL, ZM, ZN, ZO, ZP, ZQ, ZR, ZS, Option.some.injEq, exists_eq_left', ZT, ZU, ZV, ZW, ZX, ZY, true_and, and_true, true_or, or_true, false_or, or_false, ite_true, ite_false, cond_true, cond_false, ZZ, Qa, if_true, if_false, decide_true, decide_false, Qb, Qc, Qd, Qe, Qf, Qg, Qh, Qi, Qj, Qk, Ql, Qm, Qn, Qo, Qp, rb0, rb1, rb2, rb3, rb4, tf0, tf1, tf2, tf3, tf4, Heap.get_upd_ne, Heap.get_new_ne, Heap.get_new_at, overL_one, if_pos, stX_exactN, Try.f16, t.p, lk89, t.m, lkX_some, g1, Option.getD_some, g2]
    exact hR
  · rw [if_neg hp] at hR
    simp (disch := (first | omega | rfl | (simp only [Heap.nx_upd, Heap.nx_new]; omega))) only [↓reduceIte, reduceCtorEq, Za, Zb, Zc, Zd, Ze, Zf, Zg, Zh, Zi, Zj, Zk, Zl, Zm, Zn, Zo, Zp, Zq, Zr, Zs, Zt, Zu, Zv, gval, Zw, Zx, Zy, Zz, ZA, ZB, ZC, ZD, ZE, ZF, decide_eq_true_eq, ZG, ZH, ZI, ZJ, ZK, ZL, ZM, ZN, ZO, ZP, ZQ, ZR, ZS, Option.some.injEq, exists_eq_left', ZT, ZU, ZV, ZW, ZX, ZY, true_and, and_true, true_or, or_true, false_or, or_false, ite_true, ite_false, cond_true, cond_false, ZZ, Qa, if_true, if_false, decide_true, decide_false, Qb, Qc, Qd, Qe, Qf, Qg, Qh, Qi, Qj, Qk, Ql, Qm, Qn, Qo, Qp, rb0, rb1, rb2, rb3, rb4, tf0, tf1, tf2, tf3, tf4, Heap.get_upd_ne, Heap.get_new_ne, Heap.get_new_at, overL_one, if_pos, stX_exactN, Try.f16, t.p, lk89, t.m, lkX_some, t.no p hp, Option.getD_none]
    exact hR
def allS (s : PS) : Nat → List Int
  | 0 => []
  | k + 1 => if s.st ((k : Int) + 1) = 1 then allS s k ++ [(k : Int) + 1] else allS s k
theorem allS_len : ∀ k, (allS s k).length ≤ k
  | 0 => Nat.le_refl _
  | k + 1 => by
    have := allS_len k
    unfold allS
    split
    · rw [List.length_append, List.length_singleton]; omega
    · omega
set_option maxRecDepth 100000 in
theorem pall_spec (h22 : (sp 22).isNone = true) (h20 : (sp 20).isNone = true) (h50 : (sp 50).isNone = true) (hwf : HWf h) (t : Tb h bp r l c s) (hs : s.Ok)
    (hR : ∀ h' v, Wints h' h.nx v (allS s 8) → h.nx ≤ h'.nx → (∀ b, b < h.nx → h'.get b = h.get b) → R (.ret v) h') : WF Try.prog 0 sp 22 [.pointer (some ⟨bp, 0, none⟩)] h R := by
  refine wf_fn (fn := Try.f22) h22 rfl (by kernel_rfl) rfl ?_
  simp only [↓reduceIte, reduceCtorEq, Za, Zb, Zc, Zd, Ze, Zf, Zg, Zh, Zi, Zj, Zk, Zl, Zm, Zn, Zo, Zp, Zq, Zr, Zs, Zt, Zu, Zv, gval, Zw, Zx, Zy, Zz, ZA, ZB, ZC, ZD, ZE, ZF, decide_eq_true_eq, ZG, ZH, ZI, ZJ, ZK, ZL, ZM, ZN, ZO, ZP, ZQ, ZR, ZS, Option.some.injEq, exists_eq_left', ZT, ZU, ZV, ZW, ZX, ZY, true_and, and_true, true_or, or_true, false_or, or_false, ite_true, ite_false, cond_true, cond_false, ZZ, Qa, if_true, if_false, decide_true, decide_false, Qb, Qc, Qd, Qe, Qf, Qg, Qh, Qi, Qj, Qk, Ql, Qm, Qn, Qo, Qp, rb0, rb1, rb2, rb3, rb4, tf0, tf1, tf2, tf3, tf4, Try.f22]
  refine run_loop2 rfl (fun m e h2 => ∃ (n : Nat) (o : Option Nat) (v : Value), m = 8 - n ∧ n ≤ 8 ∧ e.at 0 = .pointer (some ⟨bp, 0, none⟩) ∧ e.at 3 = v ∧ e.at 4 = .int .i64 ((n : Int) + 1) ∧ Gints h2 h.nx o (allS s n) v ∧ h.nx ≤ h2.nx ∧ (∀ b, b < h.nx → h2.get b = h.get b))
    (fun ex e h2 => ex = .exit 0 ∧ ∃ (o : Option Nat) (v : Value), e.at 3 = v ∧ Gints h2 h.nx o (allS s 8) v ∧ h.nx ≤ h2.nx ∧ (∀ b, b < h.nx → h2.get b = h.get b)) ?_ 8 _ _ ?_ ?_
  · rintro m e h2 ⟨n, o, v, rfl, hn8, e0, e3, e4, hg, hn, hk⟩ Q' hQn hQx
    by_cases hc : n < 8
    · have hc1 : (n : Int) + 1 ≤ 8 := by omega
      have wn : wrapF .i64 ((n : Int) + 1 + 1) = (n : Int) + 1 + 1 := wrapI (by omega) (by omega)
      have t2 : Tb h2 bp r l c s := t.keep fun b x hb _ => by rw [hk b (hwf.lt hb)]; exact hb
      simp (disch := (first | omega | rfl | (simp only [Heap.nx_upd, Heap.nx_new]; omega))) only [↓reduceIte, reduceCtorEq, Za, Zb, Zc, Zd, Ze, Zf, Zg, Zh, Zi, Zj, Zk, Zl, Zm, Zn, Zo, Zp, Zq, Zr, Zs, Zt, Zu, Zv, gval, Zw, Zx, Zy, Zz, ZA, ZB, ZC, ZD, ZE, ZF, decide_eq_true_eq, ZG, ZH, ZI, ZJ, ZK, ZL, ZM, ZN, ZO, ZP, ZQ, ZR, ZS, Option.some.injEq, exists_eq_left', ZT, ZU, ZV, ZW, ZX, ZY, true_and, and_true, true_or, or_true, false_or, or_false, ite_true, ite_false, cond_true, cond_false, ZZ, Qa, if_true, if_false, decide_true, decide_false, Qb, Qc, Qd, Qe, Qf, Qg, Qh, Qi, Qj, Qk, Ql, Qm, Qn, Qo, Qp, rb0, rb1, rb2, rb3, rb4, tf0, tf1, tf2, tf3, tf4, Heap.get_upd_ne, Heap.get_new_ne, Heap.get_new_at, overL_one, if_pos, stX_exactN, e0, e3, e4, hc1]
      refine runC_of (plives_spec h20 h50 t2 hs ?_)
      by_cases hl : s.st ((n : Int) + 1) = 1
      · have hlv : s.lives ((n : Int) + 1) = true := decide_eq_true ⟨by omega, by omega, hl⟩
        rw [hlv]
        simp (disch := (first | omega | rfl | (simp only [Heap.nx_upd, Heap.nx_new]; omega))) only [↓reduceIte, reduceCtorEq, Za, Zb, Zc, Zd, Ze, Zf, Zg, Zh, Zi, Zj, Zk, Zl, Zm, Zn, Zo, Zp, Zq, Zr, Zs, Zt, Zu, Zv, gval, Zw, Zx, Zy, Zz, ZA, ZB, ZC, ZD, ZE, ZF, decide_eq_true_eq, ZG, ZH, ZI, ZJ, ZK, ZL, ZM, ZN, ZO, ZP, ZQ, ZR, ZS, Option.some.injEq, exists_eq_left', ZT, ZU, ZV, ZW, ZX, ZY, true_and, and_true, true_or, or_true, false_or, or_false, ite_true, ite_false, cond_true, cond_false, ZZ, Qa, if_true, if_false, decide_true, decide_false, Qb, Qc, Qd, Qe, Qf, Qg, Qh, Qi, Qj, Qk, Ql, Qm, Qn, Qo, Qp, rb0, rb1, rb2, rb3, rb4, tf0, tf1, tf2, tf3, tf4, Heap.get_upd_ne, Heap.get_new_ne, Heap.get_new_at, overL_one, if_pos, stX_exactN, e3, e4, bs1_34]
        have hlen : (allS s n).length + 1 ≤ 20000000000 := by have := allS_len (s := s) n; omega
        obtain ⟨E, h4, o4, v4, a1, a2, a3, hg4, hn4, hk4, _⟩ := growI (h := h2.new (cellsB [.int .i64 ((n : Int) + 1)] .exact)) (xs := [(n : Int) + 1]) hg.new (by simp (disch := (first | omega | rfl | (simp only [Heap.nx_upd, Heap.nx_new]; omega))) only [Heap.get_upd_ne, Heap.get_new_ne, Heap.get_new_at, Heap.get_upd_same, Heap.get_new_same, Heap.nx_upd, Heap.nx_new]; omega) (x := .slice (some ⟨h2.nx, 0, none⟩) 1 1) rfl (by rw [firstL_slc _ _ _ _ _ _ _ _ _ (Heap.get_new_same _ _) (by simp)]; rfl) hlen
        rw [Heap.nx_new] at a1 hn4
        rw [a1]
        simp (disch := (first | omega | rfl | (simp only [Heap.nx_upd, Heap.nx_new]; omega))) only [↓reduceIte, reduceCtorEq, Za, Zb, Zc, Zd, Ze, Zf, Zg, Zh, Zi, Zj, Zk, Zl, Zm, Zn, Zo, Zp, Zq, Zr, Zs, Zt, Zu, Zv, gval, Zw, Zx, Zy, Zz, ZA, ZB, ZC, ZD, ZE, ZF, decide_eq_true_eq, ZG, ZH, ZI, ZJ, ZK, ZL, ZM, ZN, ZO, ZP, ZQ, ZR, ZS, Option.some.injEq, exists_eq_left', ZT, ZU, ZV, ZW, ZX, ZY, true_and, and_true, true_or, or_true, false_or, or_false, ite_true, ite_false, cond_true, cond_false, ZZ, Qa, if_true, if_false, decide_true, decide_false, Qb, Qc, Qd, Qe, Qf, Qg, Qh, Qi, Qj, Qk, Ql, Qm, Qn, Qo, Qp, rb0, rb1, rb2, rb3, rb4, tf0, tf1, tf2, tf3, tf4, Heap.get_upd_ne, Heap.get_new_ne, Heap.get_new_at, overL_one, if_pos, stX_exactN, a2, a3, e0, e4, wn]
        refine hQn _ _ _ (by omega) ⟨n + 1, o4, v4, rfl, by omega, ?_, ?_, ?_, ?_, by omega, fun b' hb' => ?_⟩
        · simp only [↓reduceIte, reduceCtorEq, Za, Zb, Zc, Zd, Ze, Zf, Zg, Zh, Zi, Zj, Zk, Zl, Zm, Zn, Zo, Zp, Zq, Zr, Zs, Zt, Zu, Zv, gval, Zw, Zx, Zy, Zz, ZA, ZB, ZC, ZD, ZE, ZF, decide_eq_true_eq, ZG, ZH, ZI, ZJ, ZK, ZL, ZM, ZN, ZO, ZP, ZQ, ZR, ZS, Option.some.injEq, exists_eq_left', ZT, ZU, ZV, ZW, ZX, ZY, true_and, and_true, true_or, or_true, false_or, or_false, ite_true, ite_false, cond_true, cond_false, ZZ, Qa, if_true, if_false, decide_true, decide_false, Qb, Qc, Qd, Qe, Qf, Qg, Qh, Qi, Qj, Qk, Ql, Qm, Qn, Qo, Qp, rb0, rb1, rb2, rb3, rb4, tf0, tf1, tf2, tf3, tf4, e0]
        · simp only [↓reduceIte, reduceCtorEq, Za, Zb, Zc, Zd, Ze, Zf, Zg, Zh, Zi, Zj, Zk, Zl, Zm, Zn, Zo, Zp, Zq, Zr, Zs, Zt, Zu, Zv, gval, Zw, Zx, Zy, Zz, ZA, ZB, ZC, ZD, ZE, ZF, decide_eq_true_eq, ZG, ZH, ZI, ZJ, ZK, ZL, ZM, ZN, ZO, ZP, ZQ, ZR, ZS, Option.some.injEq, exists_eq_left', ZT, ZU, ZV, ZW, ZX, ZY, true_and, and_true, true_or, or_true, false_or, or_false, ite_true, ite_false, cond_true, cond_false, ZZ, Qa, if_true, if_false, decide_true, decide_false, Qb, Qc, Qd, Qe, Qf, Qg, Qh, Qi, Qj, Qk, Ql, Qm, Qn, Qo, Qp, rb0, rb1, rb2, rb3, rb4, tf0, tf1, tf2, tf3, tf4]
        · simp only [↓reduceIte, reduceCtorEq, Za, Zb, Zc, Zd, Ze, Zf, Zg, Zh, Zi, Zj, Zk, Zl, Zm, Zn, Zo, Zp, Zq, Zr, Zs, Zt, Zu, Zv, gval, Zw, Zx, Zy, Zz, ZA, ZB, ZC, ZD, ZE, ZF, decide_eq_true_eq, ZG, ZH, ZI, ZJ, ZK, ZL, ZM, ZN, ZO, ZP, ZQ, ZR, ZS, Option.some.injEq, exists_eq_left', ZT, ZU, ZV, ZW, ZX, ZY, true_and, and_true, true_or, or_true, false_or, or_false, ite_true, ite_false, cond_true, cond_false, ZZ, Qa, if_true, if_false, decide_true, decide_false, Qb, Qc, Qd, Qe, Qf, Qg, Qh, Qi, Qj, Qk, Ql, Qm, Qn, Qo, Qp, rb0, rb1, rb2, rb3, rb4, tf0, tf1, tf2, tf3, tf4]
          rfl
        · unfold allS
          rw [if_pos hl]; exact hg4
        · rw [hk4 b' (hg.ne hb') (by rw [Heap.nx_new]; omega), Heap.get_new_ne _ _ (by omega), hk b' hb']
      · have hlv : s.lives ((n : Int) + 1) = false := decide_eq_false fun q => hl q.2.2
        rw [hlv]
        simp (disch := (first | omega | rfl | (simp only [Heap.nx_upd, Heap.nx_new]; omega))) only [↓reduceIte, reduceCtorEq, Za, Zb, Zc, Zd, Ze, Zf, Zg, Zh, Zi, Zj, Zk, Zl, Zm, Zn, Zo, Zp, Zq, Zr, Zs, Zt, Zu, Zv, gval, Zw, Zx, Zy, Zz, ZA, ZB, ZC, ZD, ZE, ZF, decide_eq_true_eq, ZG, ZH, ZI, ZJ, ZK, ZL, ZM, ZN, ZO, ZP, ZQ, ZR, ZS, Option.some.injEq, exists_eq_left', ZT, ZU, ZV, ZW, ZX, ZY, true_and, and_true, true_or, or_true, false_or, or_false, ite_true, ite_false, cond_true, cond_false, ZZ, Qa, if_true, if_false, decide_true, decide_false, Qb, Qc, Qd, Qe, Qf, Qg, Qh, Qi, Qj, Qk, Ql, Qm, Qn, Qo, Qp, rb0, rb1, rb2, rb3, rb4, tf0, tf1, tf2, tf3, tf4, Heap.get_upd_ne, Heap.get_new_ne, Heap.get_new_at, overL_one, if_pos, stX_exactN, e3, e4, wn]
        refine hQn _ _ _ (by omega) ⟨n + 1, o, v, rfl, by omega, ?_, ?_, ?_, ?_, hn, hk⟩
        · simp only [↓reduceIte, reduceCtorEq, Za, Zb, Zc, Zd, Ze, Zf, Zg, Zh, Zi, Zj, Zk, Zl, Zm, Zn, Zo, Zp, Zq, Zr, Zs, Zt, Zu, Zv, gval, Zw, Zx, Zy, Zz, ZA, ZB, ZC, ZD, ZE, ZF, decide_eq_true_eq, ZG, ZH, ZI, ZJ, ZK, ZL, ZM, ZN, ZO, ZP, ZQ, ZR, ZS, Option.some.injEq, exists_eq_left', ZT, ZU, ZV, ZW, ZX, ZY, true_and, and_true, true_or, or_true, false_or, or_false, ite_true, ite_false, cond_true, cond_false, ZZ, Qa, if_true, if_false, decide_true, decide_false, Qb, Qc, Qd, Qe, Qf, Qg, Qh, Qi, Qj, Qk, Ql, Qm, Qn, Qo, Qp, rb0, rb1, rb2, rb3, rb4, tf0, tf1, tf2, tf3, tf4, e0]
        · simp only [↓reduceIte, reduceCtorEq, Za, Zb, Zc, Zd, Ze, Zf, Zg, Zh, Zi, Zj, Zk, Zl, Zm, Zn, Zo, Zp, Zq, Zr, Zs, Zt, Zu, Zv, gval, Zw, Zx, Zy, Zz, ZA, ZB, ZC, ZD, ZE, ZF, decide_eq_true_eq, ZG, ZH, ZI, ZJ, ZK, ZL, ZM, ZN, ZO, ZP, ZQ, ZR, ZS, Option.some.injEq, exists_eq_left', ZT, ZU, ZV, ZW, ZX, ZY, true_and, and_true, true_or, or_true, false_or, or_false, ite_true, ite_false, cond_true, cond_false, ZZ, Qa, if_true, if_false, decide_true, decide_false, Qb, Qc, Qd, Qe, Qf, Qg, Qh, Qi, Qj, Qk, Ql, Qm, Qn, Qo, Qp, rb0, rb1, rb2, rb3, rb4, tf0, tf1, tf2, tf3, tf4, e3]
        · simp only [↓reduceIte, reduceCtorEq, Za, Zb, Zc, Zd, Ze, Zf, Zg, Zh, Zi, Zj, Zk, Zl, Zm, Zn, Zo, Zp, Zq, Zr, Zs, Zt, Zu, Zv, gval, Zw, Zx, Zy, Zz, ZA, ZB, ZC, ZD, ZE, ZF, decide_eq_true_eq, ZG, ZH, ZI, ZJ, ZK, ZL, ZM, ZN, ZO, ZP, ZQ, ZR, ZS, Option.some.injEq, exists_eq_left', ZT, ZU, ZV, ZW, ZX, ZY, true_and, and_true, true_or, or_true, false_or, or_false, ite_true, ite_false, cond_true, cond_false, ZZ, Qa, if_true, if_false, decide_true, decide_false, Qb, Qc, Qd, Qe, Qf, Qg, Qh, Qi, Qj, Qk, Ql, Qm, Qn, Qo, Qp, rb0, rb1, rb2, rb3, rb4, tf0, tf1, tf2, tf3, tf4]
          rfl
        · unfold allS
          rw [if_neg hl]; exact hg
    · obtain rfl : n = 8 := by omega
      simp (disch := (first | omega | rfl | (simp only [Heap.nx_upd, Heap.nx_new]; omega))) only [↓reduceIte, reduceCtorEq, Za, Zb, Zc, Zd, Ze, Zf, Zg, Zh, Zi, Zj, Zk, Zl, Zm, Zn, Zo, Zp, Zq, Zr, Zs, Zt, Zu, Zv, gval, Zw, Zx, Zy, Zz, ZA, ZB, ZC, ZD, ZE, ZF, decide_eq_true_eq, ZG, ZH, ZI, ZJ, ZK, ZL, ZM, ZN, ZO, ZP, ZQ, ZR, ZS, Option.some.injEq, exists_eq_left', ZT, ZU, ZV, ZW, ZX, ZY, true_and, and_true, true_or, or_true, false_or, or_false, ite_true, ite_false, cond_true, cond_false, ZZ, Qa, if_true, if_false, decide_true, decide_false, Qb, Qc, Qd, Qe, Qf, Qg, Qh, Qi, Qj, Qk, Ql, Qm, Qn, Qo, Qp, rb0, rb1, rb2, rb3, rb4, tf0, tf1, tf2, tf3, tf4, Heap.get_upd_ne, Heap.get_new_ne, Heap.get_new_at, overL_one, if_pos, stX_exactN, e4]
      exact hQx _ _ _ (by simp) ⟨rfl, o, v, by simp only [↓reduceIte, reduceCtorEq, Za, Zb, Zc, Zd, Ze, Zf, Zg, Zh, Zi, Zj, Zk, Zl, Zm, Zn, Zo, Zp, Zq, Zr, Zs, Zt, Zu, Zv, gval, Zw, Zx, Zy, Zz, ZA, ZB, ZC, ZD, ZE, ZF, decide_eq_true_eq, ZG, ZH, ZI, ZJ, ZK, ZL, ZM, ZN, ZO, ZP, ZQ, ZR, ZS, Option.some.injEq, exists_eq_left', ZT, ZU, ZV, ZW, ZX, ZY, true_and, and_true, true_or, or_true, false_or, or_false, ite_true, ite_false, cond_true, cond_false, ZZ, Qa, if_true, if_false, decide_true, decide_false, Qb, Qc, Qd, Qe, Qf, Qg, Qh, Qi, Qj, Qk, Ql, Qm, Qn, Qo, Qp, rb0, rb1, rb2, rb3, rb4, tf0, tf1, tf2, tf3, tf4, e3], hg, hn, hk⟩
  · refine ⟨0, none, .slice none 0 0, rfl, by omega, ?_, ?_, ?_, ⟨.inl ⟨rfl, rfl, rfl⟩⟩, Nat.le_refl _, fun _ _ => rfl⟩
    · simp only [↓reduceIte, reduceCtorEq, Za, Zb, Zc, Zd, Ze, Zf, Zg, Zh, Zi, Zj, Zk, Zl, Zm, Zn, Zo, Zp, Zq, Zr, Zs, Zt, Zu, Zv, gval, Zw, Zx, Zy, Zz, ZA, ZB, ZC, ZD, ZE, ZF, decide_eq_true_eq, ZG, ZH, ZI, ZJ, ZK, ZL, ZM, ZN, ZO, ZP, ZQ, ZR, ZS, Option.some.injEq, exists_eq_left', ZT, ZU, ZV, ZW, ZX, ZY, true_and, and_true, true_or, or_true, false_or, or_false, ite_true, ite_false, cond_true, cond_false, ZZ, Qa, if_true, if_false, decide_true, decide_false, Qb, Qc, Qd, Qe, Qf, Qg, Qh, Qi, Qj, Qk, Ql, Qm, Qn, Qo, Qp, rb0, rb1, rb2, rb3, rb4, tf0, tf1, tf2, tf3, tf4]
    · simp only [↓reduceIte, reduceCtorEq, Za, Zb, Zc, Zd, Ze, Zf, Zg, Zh, Zi, Zj, Zk, Zl, Zm, Zn, Zo, Zp, Zq, Zr, Zs, Zt, Zu, Zv, gval, Zw, Zx, Zy, Zz, ZA, ZB, ZC, ZD, ZE, ZF, decide_eq_true_eq, ZG, ZH, ZI, ZJ, ZK, ZL, ZM, ZN, ZO, ZP, ZQ, ZR, ZS, Option.some.injEq, exists_eq_left', ZT, ZU, ZV, ZW, ZX, ZY, true_and, and_true, true_or, or_true, false_or, or_false, ite_true, ite_false, cond_true, cond_false, ZZ, Qa, if_true, if_false, decide_true, decide_false, Qb, Qc, Qd, Qe, Qf, Qg, Qh, Qi, Qj, Qk, Ql, Qm, Qn, Qo, Qp, rb0, rb1, rb2, rb3, rb4, tf0, tf1, tf2, tf3, tf4]
    · simp only [↓reduceIte, reduceCtorEq, Za, Zb, Zc, Zd, Ze, Zf, Zg, Zh, Zi, Zj, Zk, Zl, Zm, Zn, Zo, Zp, Zq, Zr, Zs, Zt, Zu, Zv, gval, Zw, Zx, Zy, Zz, ZA, ZB, ZC, ZD, ZE, ZF, decide_eq_true_eq, ZG, ZH, ZI, ZJ, ZK, ZL, ZM, ZN, ZO, ZP, ZQ, ZR, ZS, Option.some.injEq, exists_eq_left', ZT, ZU, ZV, ZW, ZX, ZY, true_and, and_true, true_or, or_true, false_or, or_false, ite_true, ite_false, cond_true, cond_false, ZZ, Qa, if_true, if_false, decide_true, decide_false, Qb, Qc, Qd, Qe, Qf, Qg, Qh, Qi, Qj, Qk, Ql, Qm, Qn, Qo, Qp, rb0, rb1, rb2, rb3, rb4, tf0, tf1, tf2, tf3, tf4]
  · rintro ex e h2 - ⟨rfl, o, v, e3, hg, hn, hk⟩
    simp only [↓reduceIte, reduceCtorEq, Za, Zb, Zc, Zd, Ze, Zf, Zg, Zh, Zi, Zj, Zk, Zl, Zm, Zn, Zo, Zp, Zq, Zr, Zs, Zt, Zu, Zv, gval, Zw, Zx, Zy, Zz, ZA, ZB, ZC, ZD, ZE, ZF, decide_eq_true_eq, ZG, ZH, ZI, ZJ, ZK, ZL, ZM, ZN, ZO, ZP, ZQ, ZR, ZS, Option.some.injEq, exists_eq_left', ZT, ZU, ZV, ZW, ZX, ZY, true_and, and_true, true_or, or_true, false_or, or_false, ite_true, ite_false, cond_true, cond_false, ZZ, Qa, if_true, if_false, decide_true, decide_false, Qb, Qc, Qd, Qe, Qf, Qg, Qh, Qi, Qj, Qk, Ql, Qm, Qn, Qo, Qp, rb0, rb1, rb2, rb3, rb4, tf0, tf1, tf2, tf3, tf4, e3]
    exact hR _ _ hg.wints hn hk
end Go.Proofs.Ytmmjeifdgfolmaa
end
section
/- The answer's processes: Begin, Fork, Parent, All. Conditions: the cells lie as the rules name. -/
namespace Go.Proofs.Ytmmjeifdgfolmaa
open Go.AM
open Nat renaming reduceBEq → Za, reduceEqDiff → Zb, reduceAdd → Zc, reduceSub → Zd, reduceMul → Ze, reduceLT → Zf, reduceLeDiff → Zg, reduceDiv → Zh, reduceMod → Zi, reducePow → Zj, blt_eq → ZF, zero_add → Qc, add_zero → Qd
open Int renaming reduceAdd → Zk, reduceSub → Zl, reduceMul → Zm, reduceLT → Zn, reduceLE → Zo, reduceEq → Zp, reduceNe → Zq, reduceNeg → Zr, reduceToNat → Zs, reduceDiv → Zt, reduceMod → Zu, reducePow → Zv, cast_ofNat_Int → Zw, toNat_natCast → Qb
open List renaming set_cons_zero → Zx, set_cons_succ → Zy, map_toArray → Zz, cons_append → ZA, nil_append → ZB, append_nil → ZC, all_cons → ZD, all_nil → ZE, getElem?_cons_zero → ZJ, getElem?_cons_succ → ZK, length_cons → ZL, length_nil → ZM, map_cons → ZN, map_nil → ZO, isEmpty_nil → Qe, any_cons → Qf, any_nil → Qg, drop_zero → Qk, drop_succ_cons → Ql, take_succ_cons → Qm, take_zero → Qn, take_nil → Qo, drop_nil → Qp
open Bool renaming and_true → ZG, true_and → ZH, and_self → ZI, not_true → ZT, not_false → ZU, true_eq_false → ZZ, false_eq_true → Qa, or_false → Qh, false_or → Qi, and_eq_true → Qj
open Option renaming map_some → ZP, map_none → ZQ, bind_some → ZR, getD_some → ZS, isNone_some → ZV, isNone_none → ZW, isSome_some → ZX, isSome_none → ZY
set_option linter.unusedSimpArgs false
variable {sp : Special} {h : Heap} {R : Out → Heap → Prop} {q : Nat} {s : PS}
theorem rlives_spec (h40 : (sp 40).isNone = true) (h59 : (sp 59).isNone = true) (hs : s.Ok) (hq : h.get q = some (cellsB (rowS s) .exact)) {p : Int} (hR : R (.ret (.bool (s.lives p))) h) :
    WF Try.prog 0 sp 40 [.pointer (some ⟨q, 0, none⟩), .int .i64 p] h R := by
  refine rlive_spec h40 h59 wS_len (by rw [hs.row]; exact hq) ?_
  have : (decide (1 ≤ p ∧ p ≤ 8) && decide (stI (wS s) p = 1)) = s.lives p := by
    unfold PS.lives
    by_cases hp : 1 ≤ p ∧ p < 9
    · rw [hs.stI hp.1 hp.2, Bool.eq_iff_iff, Bool.and_eq_true, decide_eq_true_eq, decide_eq_true_eq, decide_eq_true_eq]
      omega
    · rw [decide_eq_false (show ¬ (1 ≤ p ∧ p ≤ 8) by omega), decide_eq_false (show ¬ (1 ≤ p ∧ p < 9 ∧ s.st p = 1) from fun q => hp ⟨q.1, q.2.1⟩)]; rfl
  rw [this]; exact hR
set_option maxRecDepth 100000 in
theorem rfork_spec (h0 : (sp 37).isNone = true) (h40 : (sp 40).isNone = true) (h59 : (sp 59).isNone = true) (hs : s.Ok) (hq : h.get q = some (cellsB (rowS s) .exact)) {p : Int}
    (hno : s.lives p = false → R (.ret (.tuple #[.int .i64 0, .int .i64 3])) h) (hfull : s.lives p = true → s.full → R (.ret (.tuple #[.int .i64 0, .int .i64 11])) h)
    (hok : ∀ n, s.lives p = true → s.first n → R (.ret (.tuple #[.int .i64 n, .int .i64 0])) (h.upd q (cellsB (rowS (s.set n 1 p 0)) .exact))) :
    WF Try.prog 0 sp 37 [.pointer (some ⟨q, 0, none⟩), .int .i64 p] h R := by
  refine wf_fn (fn := Try.f37) h0 rfl (by kernel_rfl) rfl ?_
  have hl24 : (rowS s).length = 24 := rowS_len
  simp only [↓reduceIte, reduceCtorEq, Za, Zb, Zc, Zd, Ze, Zf, Zg, Zh, Zi, Zj, Zk, Zl, Zm, Zn, Zo, Zp, Zq, Zr, Zs, Zt, Zu, Zv, gval, Zw, Zx, Zy, Zz, ZA, ZB, ZC, ZD, ZE, ZF, decide_eq_true_eq, ZG, ZH, ZI, ZJ, ZK, ZL, ZM, ZN, ZO, ZP, ZQ, ZR, ZS, Option.some.injEq, exists_eq_left', ZT, ZU, ZV, ZW, ZX, ZY, true_and, and_true, true_or, or_true, false_or, or_false, ite_true, ite_false, cond_true, cond_false, ZZ, Qa, if_true, if_false, decide_true, decide_false, Qb, Qc, Qd, Qe, Qf, Qg, Qh, Qi, Qj, Qk, Ql, Qm, Qn, Qo, Qp, rb0, rb1, rb2, rb3, rb4, tf0, tf1, tf2, tf3, tf4, Try.f37]
  refine runC_of (rlives_spec h40 h59 hs hq ?_)
  cases hl : s.lives p with
  | false =>
    simp only [↓reduceIte, reduceCtorEq, Za, Zb, Zc, Zd, Ze, Zf, Zg, Zh, Zi, Zj, Zk, Zl, Zm, Zn, Zo, Zp, Zq, Zr, Zs, Zt, Zu, Zv, gval, Zw, Zx, Zy, Zz, ZA, ZB, ZC, ZD, ZE, ZF, decide_eq_true_eq, ZG, ZH, ZI, ZJ, ZK, ZL, ZM, ZN, ZO, ZP, ZQ, ZR, ZS, Option.some.injEq, exists_eq_left', ZT, ZU, ZV, ZW, ZX, ZY, true_and, and_true, true_or, or_true, false_or, or_false, ite_true, ite_false, cond_true, cond_false, ZZ, Qa, if_true, if_false, decide_true, decide_false, Qb, Qc, Qd, Qe, Qf, Qg, Qh, Qi, Qj, Qk, Ql, Qm, Qn, Qo, Qp, rb0, rb1, rb2, rb3, rb4, tf0, tf1, tf2, tf3, tf4]
    exact hno hl
  | true =>
    simp only [↓reduceIte, reduceCtorEq, Za, Zb, Zc, Zd, Ze, Zf, Zg, Zh, Zi, Zj, Zk, Zl, Zm, Zn, Zo, Zp, Zq, Zr, Zs, Zt, Zu, Zv, gval, Zw, Zx, Zy, Zz, ZA, ZB, ZC, ZD, ZE, ZF, decide_eq_true_eq, ZG, ZH, ZI, ZJ, ZK, ZL, ZM, ZN, ZO, ZP, ZQ, ZR, ZS, Option.some.injEq, exists_eq_left', ZT, ZU, ZV, ZW, ZX, ZY, true_and, and_true, true_or, or_true, false_or, or_false, ite_true, ite_false, cond_true, cond_false, ZZ, Qa, if_true, if_false, decide_true, decide_false, Qb, Qc, Qd, Qe, Qf, Qg, Qh, Qi, Qj, Qk, Ql, Qm, Qn, Qo, Qp, rb0, rb1, rb2, rb3, rb4, tf0, tf1, tf2, tf3, tf4]
    refine run_loop2 rfl (fun m e h2 => ∃ n : Nat, m = 8 - n ∧ n ≤ 8 ∧ h2 = h ∧ e.at 0 = .pointer (some ⟨q, 0, none⟩) ∧ e.at 1 = .int .i64 p ∧ e.at 6 = .int .i64 n ∧ ∀ k : Int, 1 ≤ k → k < (n : Int) + 1 → s.st k ≠ 0)
      (fun ex e h2 => (ex = .exit 0 ∧ h2 = h ∧ s.full) ∨ (ex = .ret ∧ ∃ n : Int, e.at 4 = .int .i64 n ∧ e.at 5 = .int .i64 0 ∧ s.first n ∧ h2 = h.upd q (cellsB (rowS (s.set n 1 p 0)) .exact))) ?_ 8 _ _ ?_ ?_
    · rintro m e h2 ⟨n, rfl, hn8, rfl, e0, e1, e6, hf⟩ Q' hQn hQx
      by_cases hc : n < 8
      · have hc1 : (n : Int) < 8 := by omega
        have wn : wrapF .i64 ((n : Int) + 1) = (n : Int) + 1 := wrapI (by omega) (by omega)
        have c0 := rowS_st (s := s) hc
        have hn3 : n * 3 < 24 := by omega
        by_cases hz : s.st ((n : Int) + 1) = 0
        · have hn33 : n * 3 + 3 ≤ 24 := by omega
          have hov := row_over (s := s) hc 1 p 0
          simp (disch := (first | omega | rfl | (simp only [Heap.nx_upd, Heap.nx_new]; omega))) only [↓reduceIte, reduceCtorEq, Za, Zb, Zc, Zd, Ze, Zf, Zg, Zh, Zi, Zj, Zk, Zl, Zm, Zn, Zo, Zp, Zq, Zr, Zs, Zt, Zu, Zv, gval, Zw, Zx, Zy, Zz, ZA, ZB, ZC, ZD, ZE, ZF, decide_eq_true_eq, ZG, ZH, ZI, ZJ, ZK, ZL, ZM, ZN, ZO, ZP, ZQ, ZR, ZS, Option.some.injEq, exists_eq_left', ZT, ZU, ZV, ZW, ZX, ZY, true_and, and_true, true_or, or_true, false_or, or_false, ite_true, ite_false, cond_true, cond_false, ZZ, Qa, if_true, if_false, decide_true, decide_false, Qb, Qc, Qd, Qe, Qf, Qg, Qh, Qi, Qj, Qk, Ql, Qm, Qn, Qo, Qp, rb0, rb1, rb2, rb3, rb4, tf0, tf1, tf2, tf3, tf4, Heap.get_upd_ne, Heap.get_new_ne, Heap.get_new_at, overL_one, if_pos, stX_exactN, e0, e1, e6, hc1, hq, c0, hn3, hl24, hz, hn33, hov, wn]
          refine hQx _ _ _ (by simp) (.inr ⟨rfl, (n : Int) + 1, ?_, ?_, ⟨by omega, by omega, hz, hf⟩, rfl⟩)
          · simp only [↓reduceIte, reduceCtorEq, Za, Zb, Zc, Zd, Ze, Zf, Zg, Zh, Zi, Zj, Zk, Zl, Zm, Zn, Zo, Zp, Zq, Zr, Zs, Zt, Zu, Zv, gval, Zw, Zx, Zy, Zz, ZA, ZB, ZC, ZD, ZE, ZF, decide_eq_true_eq, ZG, ZH, ZI, ZJ, ZK, ZL, ZM, ZN, ZO, ZP, ZQ, ZR, ZS, Option.some.injEq, exists_eq_left', ZT, ZU, ZV, ZW, ZX, ZY, true_and, and_true, true_or, or_true, false_or, or_false, ite_true, ite_false, cond_true, cond_false, ZZ, Qa, if_true, if_false, decide_true, decide_false, Qb, Qc, Qd, Qe, Qf, Qg, Qh, Qi, Qj, Qk, Ql, Qm, Qn, Qo, Qp, rb0, rb1, rb2, rb3, rb4, tf0, tf1, tf2, tf3, tf4]
          · simp only [↓reduceIte, reduceCtorEq, Za, Zb, Zc, Zd, Ze, Zf, Zg, Zh, Zi, Zj, Zk, Zl, Zm, Zn, Zo, Zp, Zq, Zr, Zs, Zt, Zu, Zv, gval, Zw, Zx, Zy, Zz, ZA, ZB, ZC, ZD, ZE, ZF, decide_eq_true_eq, ZG, ZH, ZI, ZJ, ZK, ZL, ZM, ZN, ZO, ZP, ZQ, ZR, ZS, Option.some.injEq, exists_eq_left', ZT, ZU, ZV, ZW, ZX, ZY, true_and, and_true, true_or, or_true, false_or, or_false, ite_true, ite_false, cond_true, cond_false, ZZ, Qa, if_true, if_false, decide_true, decide_false, Qb, Qc, Qd, Qe, Qf, Qg, Qh, Qi, Qj, Qk, Ql, Qm, Qn, Qo, Qp, rb0, rb1, rb2, rb3, rb4, tf0, tf1, tf2, tf3, tf4]
        · simp (disch := (first | omega | rfl | (simp only [Heap.nx_upd, Heap.nx_new]; omega))) only [↓reduceIte, reduceCtorEq, Za, Zb, Zc, Zd, Ze, Zf, Zg, Zh, Zi, Zj, Zk, Zl, Zm, Zn, Zo, Zp, Zq, Zr, Zs, Zt, Zu, Zv, gval, Zw, Zx, Zy, Zz, ZA, ZB, ZC, ZD, ZE, ZF, decide_eq_true_eq, ZG, ZH, ZI, ZJ, ZK, ZL, ZM, ZN, ZO, ZP, ZQ, ZR, ZS, Option.some.injEq, exists_eq_left', ZT, ZU, ZV, ZW, ZX, ZY, true_and, and_true, true_or, or_true, false_or, or_false, ite_true, ite_false, cond_true, cond_false, ZZ, Qa, if_true, if_false, decide_true, decide_false, Qb, Qc, Qd, Qe, Qf, Qg, Qh, Qi, Qj, Qk, Ql, Qm, Qn, Qo, Qp, rb0, rb1, rb2, rb3, rb4, tf0, tf1, tf2, tf3, tf4, Heap.get_upd_ne, Heap.get_new_ne, Heap.get_new_at, overL_one, if_pos, stX_exactN, e0, e1, e6, hc1, hq, c0, hn3, hl24, hz, wn]
          refine hQn _ _ _ (by omega) ⟨n + 1, rfl, by omega, rfl, ?_, ?_, ?_, fun k q1 q2 => ?_⟩
          · simp only [↓reduceIte, reduceCtorEq, Za, Zb, Zc, Zd, Ze, Zf, Zg, Zh, Zi, Zj, Zk, Zl, Zm, Zn, Zo, Zp, Zq, Zr, Zs, Zt, Zu, Zv, gval, Zw, Zx, Zy, Zz, ZA, ZB, ZC, ZD, ZE, ZF, decide_eq_true_eq, ZG, ZH, ZI, ZJ, ZK, ZL, ZM, ZN, ZO, ZP, ZQ, ZR, ZS, Option.some.injEq, exists_eq_left', ZT, ZU, ZV, ZW, ZX, ZY, true_and, and_true, true_or, or_true, false_or, or_false, ite_true, ite_false, cond_true, cond_false, ZZ, Qa, if_true, if_false, decide_true, decide_false, Qb, Qc, Qd, Qe, Qf, Qg, Qh, Qi, Qj, Qk, Ql, Qm, Qn, Qo, Qp, rb0, rb1, rb2, rb3, rb4, tf0, tf1, tf2, tf3, tf4, e0]
          · simp only [↓reduceIte, reduceCtorEq, Za, Zb, Zc, Zd, Ze, Zf, Zg, Zh, Zi, Zj, Zk, Zl, Zm, Zn, Zo, Zp, Zq, Zr, Zs, Zt, Zu, Zv, gval, Zw, Zx, Zy, Zz, ZA, ZB, ZC, ZD, ZE, ZF, decide_eq_true_eq, ZG, ZH, ZI, ZJ, ZK, ZL, ZM, ZN, ZO, ZP, ZQ, ZR, ZS, Option.some.injEq, exists_eq_left', ZT, ZU, ZV, ZW, ZX, ZY, true_and, and_true, true_or, or_true, false_or, or_false, ite_true, ite_false, cond_true, cond_false, ZZ, Qa, if_true, if_false, decide_true, decide_false, Qb, Qc, Qd, Qe, Qf, Qg, Qh, Qi, Qj, Qk, Ql, Qm, Qn, Qo, Qp, rb0, rb1, rb2, rb3, rb4, tf0, tf1, tf2, tf3, tf4, e1]
          · simp only [↓reduceIte, reduceCtorEq, Za, Zb, Zc, Zd, Ze, Zf, Zg, Zh, Zi, Zj, Zk, Zl, Zm, Zn, Zo, Zp, Zq, Zr, Zs, Zt, Zu, Zv, gval, Zw, Zx, Zy, Zz, ZA, ZB, ZC, ZD, ZE, ZF, decide_eq_true_eq, ZG, ZH, ZI, ZJ, ZK, ZL, ZM, ZN, ZO, ZP, ZQ, ZR, ZS, Option.some.injEq, exists_eq_left', ZT, ZU, ZV, ZW, ZX, ZY, true_and, and_true, true_or, or_true, false_or, or_false, ite_true, ite_false, cond_true, cond_false, ZZ, Qa, if_true, if_false, decide_true, decide_false, Qb, Qc, Qd, Qe, Qf, Qg, Qh, Qi, Qj, Qk, Ql, Qm, Qn, Qo, Qp, rb0, rb1, rb2, rb3, rb4, tf0, tf1, tf2, tf3, tf4]
            rfl
          · by_cases q : k < (n : Int) + 1
            · exact hf k q1 q
            · obtain rfl : k = (n : Int) + 1 := by omega
              exact hz
      · obtain rfl : n = 8 := by omega
        simp (disch := (first | omega | rfl | (simp only [Heap.nx_upd, Heap.nx_new]; omega))) only [↓reduceIte, reduceCtorEq, Za, Zb, Zc, Zd, Ze, Zf, Zg, Zh, Zi, Zj, Zk, Zl, Zm, Zn, Zo, Zp, Zq, Zr, Zs, Zt, Zu, Zv, gval, Zw, Zx, Zy, Zz, ZA, ZB, ZC, ZD, ZE, ZF, decide_eq_true_eq, ZG, ZH, ZI, ZJ, ZK, ZL, ZM, ZN, ZO, ZP, ZQ, ZR, ZS, Option.some.injEq, exists_eq_left', ZT, ZU, ZV, ZW, ZX, ZY, true_and, and_true, true_or, or_true, false_or, or_false, ite_true, ite_false, cond_true, cond_false, ZZ, Qa, if_true, if_false, decide_true, decide_false, Qb, Qc, Qd, Qe, Qf, Qg, Qh, Qi, Qj, Qk, Ql, Qm, Qn, Qo, Qp, rb0, rb1, rb2, rb3, rb4, tf0, tf1, tf2, tf3, tf4, Heap.get_upd_ne, Heap.get_new_ne, Heap.get_new_at, overL_one, if_pos, stX_exactN, e6]
        exact hQx _ _ _ (by simp) (.inl ⟨rfl, rfl, fun m q1 q2 => hf m q1 (by omega)⟩)
    · refine ⟨0, rfl, by omega, rfl, ?_, ?_, ?_, fun k q1 q2 => by omega⟩
      · simp only [↓reduceIte, reduceCtorEq, Za, Zb, Zc, Zd, Ze, Zf, Zg, Zh, Zi, Zj, Zk, Zl, Zm, Zn, Zo, Zp, Zq, Zr, Zs, Zt, Zu, Zv, gval, Zw, Zx, Zy, Zz, ZA, ZB, ZC, ZD, ZE, ZF, decide_eq_true_eq, ZG, ZH, ZI, ZJ, ZK, ZL, ZM, ZN, ZO, ZP, ZQ, ZR, ZS, Option.some.injEq, exists_eq_left', ZT, ZU, ZV, ZW, ZX, ZY, true_and, and_true, true_or, or_true, false_or, or_false, ite_true, ite_false, cond_true, cond_false, ZZ, Qa, if_true, if_false, decide_true, decide_false, Qb, Qc, Qd, Qe, Qf, Qg, Qh, Qi, Qj, Qk, Ql, Qm, Qn, Qo, Qp, rb0, rb1, rb2, rb3, rb4, tf0, tf1, tf2, tf3, tf4]
      · simp only [↓reduceIte, reduceCtorEq, Za, Zb, Zc, Zd, Ze, Zf, Zg, Zh, Zi, Zj, Zk, Zl, Zm, Zn, Zo, Zp, Zq, Zr, Zs, Zt, Zu, Zv, gval, Zw, Zx, Zy, Zz, ZA, ZB, ZC, ZD, ZE, ZF, decide_eq_true_eq, ZG, ZH, ZI, ZJ, ZK, ZL, ZM, ZN, ZO, ZP, ZQ, ZR, ZS, Option.some.injEq, exists_eq_left', ZT, ZU, ZV, ZW, ZX, ZY, true_and, and_true, true_or, or_true, false_or, or_false, ite_true, ite_false, cond_true, cond_false, ZZ, Qa, if_true, if_false, decide_true, decide_false, Qb, Qc, Qd, Qe, Qf, Qg, Qh, Qi, Qj, Qk, Ql, Qm, Qn, Qo, Qp, rb0, rb1, rb2, rb3, rb4, tf0, tf1, tf2, tf3, tf4]
      · simp only [↓reduceIte, reduceCtorEq, Za, Zb, Zc, Zd, Ze, Zf, Zg, Zh, Zi, Zj, Zk, Zl, Zm, Zn, Zo, Zp, Zq, Zr, Zs, Zt, Zu, Zv, gval, Zw, Zx, Zy, Zz, ZA, ZB, ZC, ZD, ZE, ZF, decide_eq_true_eq, ZG, ZH, ZI, ZJ, ZK, ZL, ZM, ZN, ZO, ZP, ZQ, ZR, ZS, Option.some.injEq, exists_eq_left', ZT, ZU, ZV, ZW, ZX, ZY, true_and, and_true, true_or, or_true, false_or, or_false, ite_true, ite_false, cond_true, cond_false, ZZ, Qa, if_true, if_false, decide_true, decide_false, Qb, Qc, Qd, Qe, Qf, Qg, Qh, Qi, Qj, Qk, Ql, Qm, Qn, Qo, Qp, rb0, rb1, rb2, rb3, rb4, tf0, tf1, tf2, tf3, tf4]
    · rintro ex e h2 - (⟨rfl, rfl, hfu⟩ | ⟨rfl, n, e4, e5, hfn, rfl⟩)
      · simp only [↓reduceIte, reduceCtorEq, Za, Zb, Zc, Zd, Ze, Zf, Zg, Zh, Zi, Zj, Zk, Zl, Zm, Zn, Zo, Zp, Zq, Zr, Zs, Zt, Zu, Zv, gval, Zw, Zx, Zy, Zz, ZA, ZB, ZC, ZD, ZE, ZF, decide_eq_true_eq, ZG, ZH, ZI, ZJ, ZK, ZL, ZM, ZN, ZO, ZP, ZQ, ZR, ZS, Option.some.injEq, exists_eq_left', ZT, ZU, ZV, ZW, ZX, ZY, true_and, and_true, true_or, or_true, false_or, or_false, ite_true, ite_false, cond_true, cond_false, ZZ, Qa, if_true, if_false, decide_true, decide_false, Qb, Qc, Qd, Qe, Qf, Qg, Qh, Qi, Qj, Qk, Ql, Qm, Qn, Qo, Qp, rb0, rb1, rb2, rb3, rb4, tf0, tf1, tf2, tf3, tf4]
        exact hfull hl hfu
      · simp only [↓reduceIte, reduceCtorEq, Za, Zb, Zc, Zd, Ze, Zf, Zg, Zh, Zi, Zj, Zk, Zl, Zm, Zn, Zo, Zp, Zq, Zr, Zs, Zt, Zu, Zv, gval, Zw, Zx, Zy, Zz, ZA, ZB, ZC, ZD, ZE, ZF, decide_eq_true_eq, ZG, ZH, ZI, ZJ, ZK, ZL, ZM, ZN, ZO, ZP, ZQ, ZR, ZS, Option.some.injEq, exists_eq_left', ZT, ZU, ZV, ZW, ZX, ZY, true_and, and_true, true_or, or_true, false_or, or_false, ite_true, ite_false, cond_true, cond_false, ZZ, Qa, if_true, if_false, decide_true, decide_false, Qb, Qc, Qd, Qe, Qf, Qg, Qh, Qi, Qj, Qk, Ql, Qm, Qn, Qo, Qp, rb0, rb1, rb2, rb3, rb4, tf0, tf1, tf2, tf3, tf4, e4, e5]
        exact hok n hl hfn
set_option maxRecDepth 100000 in
theorem rparent_spec (h41 : (sp 41).isNone = true) (h59 : (sp 59).isNone = true) (hq : h.get q = some (cellsB (rowS s) .exact)) {p : Int} (hR : R (.ret (.int .i64 (s.par p))) h) : WF Try.prog 0 sp 41 [.pointer (some ⟨q, 0, none⟩), .int .i64 p] h R := by
  refine wf_fn (fn := Try.f41) h41 rfl (by kernel_rfl) rfl ?_
  have hl24 : (rowS s).length = 24 := rowS_len
  unfold PS.par at hR
  simp only [↓reduceIte, reduceCtorEq, Za, Zb, Zc, Zd, Ze, Zf, Zg, Zh, Zi, Zj, Zk, Zl, Zm, Zn, Zo, Zp, Zq, Zr, Zs, Zt, Zu, Zv, gval, Zw, Zx, Zy, Zz, ZA, ZB, ZC, ZD, ZE, ZF, decide_eq_true_eq, ZG, ZH, ZI, ZJ, ZK, ZL, ZM, ZN, ZO, ZP, ZQ, ZR, ZS, Option.some.injEq, exists_eq_left', ZT, ZU, ZV, ZW, ZX, ZY, true_and, and_true, true_or, or_true, false_or, or_false, ite_true, ite_false, cond_true, cond_false, ZZ, Qa, if_true, if_false, decide_true, decide_false, Qb, Qc, Qd, Qe, Qf, Qg, Qh, Qi, Qj, Qk, Ql, Qm, Qn, Qo, Qp, rb0, rb1, rb2, rb3, rb4, tf0, tf1, tf2, tf3, tf4, Try.f41]
  refine runC_of (pid_spec h59 ?_)
  by_cases hp : 1 ≤ p ∧ p < 9
  · rw [decide_eq_true (show 1 ≤ p ∧ p ≤ 8 by omega)]
    obtain ⟨i, rfl⟩ : ∃ i : Nat, p = (i : Int) + 1 := ⟨(p - 1).toNat, by omega⟩
    have w1 : wrapF .i64 ((i : Int) + 1 - 1) = (i : Int) := by rw [wrapI (by omega) (by omega)]; omega
    have hi : i < 8 := by omega
    have c0 := rowS_st (s := s) hi
    have c1 := rowS_pa (s := s) hi
    have hi8 : (i : Int) < 8 := by omega
    have hi3 : i * 3 < 24 := by omega
    have hi4 : i * 3 + 1 < 24 := by omega
    by_cases hz : s.st ((i : Int) + 1) = 0
    · rw [if_neg (fun q => q.2.2 hz)] at hR
      simp (disch := (first | omega | rfl | (simp only [Heap.nx_upd, Heap.nx_new]; omega))) only [↓reduceIte, reduceCtorEq, Za, Zb, Zc, Zd, Ze, Zf, Zg, Zh, Zi, Zj, Zk, Zl, Zm, Zn, Zo, Zp, Zq, Zr, Zs, Zt, Zu, Zv, gval, Zw, Zx, Zy, Zz, ZA, ZB, ZC, ZD, ZE, ZF, decide_eq_true_eq, ZG, ZH, ZI, ZJ, ZK, ZL, ZM, ZN, ZO, ZP, ZQ, ZR, ZS, Option.some.injEq, exists_eq_left', ZT, ZU, ZV, ZW, ZX, ZY, true_and, and_true, true_or, or_true, false_or, or_false, ite_true, ite_false, cond_true, cond_false, ZZ, Qa, if_true, if_false, decide_true, decide_false, Qb, Qc, Qd, Qe, Qf, Qg, Qh, Qi, Qj, Qk, Ql, Qm, Qn, Qo, Qp, rb0, rb1, rb2, rb3, rb4, tf0, tf1, tf2, tf3, tf4, Heap.get_upd_ne, Heap.get_new_ne, Heap.get_new_at, overL_one, if_pos, stX_exactN, w1, hq, c0, hi8, hi3, hl24, hz]
      exact hR
    · rw [if_pos ⟨hp.1, hp.2, hz⟩] at hR
      simp (disch := (first | omega | rfl | (simp only [Heap.nx_upd, Heap.nx_new]; omega))) only [↓reduceIte, reduceCtorEq, Za, Zb, Zc, Zd, Ze, Zf, Zg, Zh, Zi, Zj, Zk, Zl, Zm, Zn, Zo, Zp, Zq, Zr, Zs, Zt, Zu, Zv, gval, Zw, Zx, Zy, Zz, ZA, ZB, ZC, ZD, ZE, ZF, decide_eq_true_eq, ZG, ZH, ZI, ZJ, ZK, ZL, ZM, ZN, ZO, ZP, ZQ, ZR, ZS, Option.some.injEq, exists_eq_left', ZT, ZU, ZV, ZW, ZX, ZY, true_and, and_true, true_or, or_true, false_or, or_false, ite_true, ite_false, cond_true, cond_false, ZZ, Qa, if_true, if_false, decide_true, decide_false, Qb, Qc, Qd, Qe, Qf, Qg, Qh, Qi, Qj, Qk, Ql, Qm, Qn, Qo, Qp, rb0, rb1, rb2, rb3, rb4, tf0, tf1, tf2, tf3, tf4, Heap.get_upd_ne, Heap.get_new_ne, Heap.get_new_at, overL_one, if_pos, stX_exactN, w1, hq, c0, c1, hi8, hi3, hi4, hl24, hz]
      exact hR
  · rw [if_neg (fun q => hp ⟨q.1, q.2.1⟩)] at hR
    rw [decide_eq_false (show ¬ (1 ≤ p ∧ p ≤ 8) by omega)]
    simp only [↓reduceIte, reduceCtorEq, Za, Zb, Zc, Zd, Ze, Zf, Zg, Zh, Zi, Zj, Zk, Zl, Zm, Zn, Zo, Zp, Zq, Zr, Zs, Zt, Zu, Zv, gval, Zw, Zx, Zy, Zz, ZA, ZB, ZC, ZD, ZE, ZF, decide_eq_true_eq, ZG, ZH, ZI, ZJ, ZK, ZL, ZM, ZN, ZO, ZP, ZQ, ZR, ZS, Option.some.injEq, exists_eq_left', ZT, ZU, ZV, ZW, ZX, ZY, true_and, and_true, true_or, or_true, false_or, or_false, ite_true, ite_false, cond_true, cond_false, ZZ, Qa, if_true, if_false, decide_true, decide_false, Qb, Qc, Qd, Qe, Qf, Qg, Qh, Qi, Qj, Qk, Ql, Qm, Qn, Qo, Qp, rb0, rb1, rb2, rb3, rb4, tf0, tf1, tf2, tf3, tf4]
    exact hR
set_option maxRecDepth 100000 in
theorem rall_spec (h42 : (sp 42).isNone = true) (hqn : q < h.nx) (hq : h.get q = some (cellsB (rowS s) .exact))
    (hR : ∀ h' v, Wints h' h.nx v (allS s 8) → h.nx ≤ h'.nx → (∀ b, b < h.nx → h'.get b = h.get b) → R (.ret v) h') : WF Try.prog 0 sp 42 [.pointer (some ⟨q, 0, none⟩)] h R := by
  refine wf_fn (fn := Try.f42) h42 rfl (by kernel_rfl) rfl ?_
  have hl24 : (rowS s).length = 24 := rowS_len
  simp only [↓reduceIte, reduceCtorEq, Za, Zb, Zc, Zd, Ze, Zf, Zg, Zh, Zi, Zj, Zk, Zl, Zm, Zn, Zo, Zp, Zq, Zr, Zs, Zt, Zu, Zv, gval, Zw, Zx, Zy, Zz, ZA, ZB, ZC, ZD, ZE, ZF, decide_eq_true_eq, ZG, ZH, ZI, ZJ, ZK, ZL, ZM, ZN, ZO, ZP, ZQ, ZR, ZS, Option.some.injEq, exists_eq_left', ZT, ZU, ZV, ZW, ZX, ZY, true_and, and_true, true_or, or_true, false_or, or_false, ite_true, ite_false, cond_true, cond_false, ZZ, Qa, if_true, if_false, decide_true, decide_false, Qb, Qc, Qd, Qe, Qf, Qg, Qh, Qi, Qj, Qk, Ql, Qm, Qn, Qo, Qp, rb0, rb1, rb2, rb3, rb4, tf0, tf1, tf2, tf3, tf4, Try.f42]
  refine run_loop2 rfl (fun m e h2 => ∃ (n : Nat) (o : Option Nat) (v : Value), m = 8 - n ∧ n ≤ 8 ∧ e.at 0 = .pointer (some ⟨q, 0, none⟩) ∧ e.at 3 = v ∧ e.at 4 = .int .i64 n ∧ Gints h2 h.nx o (allS s n) v ∧ h.nx ≤ h2.nx ∧ (∀ b, b < h.nx → h2.get b = h.get b))
    (fun ex e h2 => ex = .exit 0 ∧ ∃ (o : Option Nat) (v : Value), e.at 3 = v ∧ Gints h2 h.nx o (allS s 8) v ∧ h.nx ≤ h2.nx ∧ (∀ b, b < h.nx → h2.get b = h.get b)) ?_ 8 _ _ ?_ ?_
  · rintro m e h2 ⟨n, o, v, rfl, hn8, e0, e3, e4, hg, hn, hk⟩ Q' hQn hQx
    by_cases hc : n < 8
    · have hc1 : (n : Int) < 8 := by omega
      have wn : wrapF .i64 ((n : Int) + 1) = (n : Int) + 1 := wrapI (by omega) (by omega)
      have hq2 : h2.get q = some (cellsB (rowS s) .exact) := (hk q hqn).trans hq
      have c0 := rowS_st (s := s) hc
      have hn3 : n * 3 < 24 := by omega
      by_cases hl : s.st ((n : Int) + 1) = 1
      · simp (disch := (first | omega | rfl | (simp only [Heap.nx_upd, Heap.nx_new]; omega))) only [↓reduceIte, reduceCtorEq, Za, Zb, Zc, Zd, Ze, Zf, Zg, Zh, Zi, Zj, Zk, Zl, Zm, Zn, Zo, Zp, Zq, Zr, Zs, Zt, Zu, Zv, gval, Zw, Zx, Zy, Zz, ZA, ZB, ZC, ZD, ZE, ZF, decide_eq_true_eq, ZG, ZH, ZI, ZJ, ZK, ZL, ZM, ZN, ZO, ZP, ZQ, ZR, ZS, Option.some.injEq, exists_eq_left', ZT, ZU, ZV, ZW, ZX, ZY, true_and, and_true, true_or, or_true, false_or, or_false, ite_true, ite_false, cond_true, cond_false, ZZ, Qa, if_true, if_false, decide_true, decide_false, Qb, Qc, Qd, Qe, Qf, Qg, Qh, Qi, Qj, Qk, Ql, Qm, Qn, Qo, Qp, rb0, rb1, rb2, rb3, rb4, tf0, tf1, tf2, tf3, tf4, Heap.get_upd_ne, Heap.get_new_ne, Heap.get_new_at, overL_one, if_pos, stX_exactN, e0, e3, e4, hc1, hq2, c0, hn3, hl24, hl, wn, bs1_34]
        have hlen : (allS s n).length + 1 ≤ 20000000000 := by have := allS_len (s := s) n; omega
        obtain ⟨E, h4, o4, v4, a1, a2, a3, hg4, hn4, hk4, _⟩ := growI (h := h2.new (cellsB [.int .i64 ((n : Int) + 1)] .exact)) (xs := [(n : Int) + 1]) hg.new (by simp (disch := (first | omega | rfl | (simp only [Heap.nx_upd, Heap.nx_new]; omega))) only [Heap.get_upd_ne, Heap.get_new_ne, Heap.get_new_at, Heap.get_upd_same, Heap.get_new_same, Heap.nx_upd, Heap.nx_new]; omega) (x := .slice (some ⟨h2.nx, 0, none⟩) 1 1) rfl (by rw [firstL_slc _ _ _ _ _ _ _ _ _ (Heap.get_new_same _ _) (by simp)]; rfl) hlen
        rw [Heap.nx_new] at a1 hn4
        rw [a1]
        simp (disch := (first | omega | rfl | (simp only [Heap.nx_upd, Heap.nx_new]; omega))) only [↓reduceIte, reduceCtorEq, Za, Zb, Zc, Zd, Ze, Zf, Zg, Zh, Zi, Zj, Zk, Zl, Zm, Zn, Zo, Zp, Zq, Zr, Zs, Zt, Zu, Zv, gval, Zw, Zx, Zy, Zz, ZA, ZB, ZC, ZD, ZE, ZF, decide_eq_true_eq, ZG, ZH, ZI, ZJ, ZK, ZL, ZM, ZN, ZO, ZP, ZQ, ZR, ZS, Option.some.injEq, exists_eq_left', ZT, ZU, ZV, ZW, ZX, ZY, true_and, and_true, true_or, or_true, false_or, or_false, ite_true, ite_false, cond_true, cond_false, ZZ, Qa, if_true, if_false, decide_true, decide_false, Qb, Qc, Qd, Qe, Qf, Qg, Qh, Qi, Qj, Qk, Ql, Qm, Qn, Qo, Qp, rb0, rb1, rb2, rb3, rb4, tf0, tf1, tf2, tf3, tf4, Heap.get_upd_ne, Heap.get_new_ne, Heap.get_new_at, overL_one, if_pos, stX_exactN, a2, a3, e0, e4, wn]
        refine hQn _ _ _ (by omega) ⟨n + 1, o4, v4, rfl, by omega, ?_, ?_, ?_, ?_, by omega, fun b' hb' => ?_⟩
        · simp only [↓reduceIte, reduceCtorEq, Za, Zb, Zc, Zd, Ze, Zf, Zg, Zh, Zi, Zj, Zk, Zl, Zm, Zn, Zo, Zp, Zq, Zr, Zs, Zt, Zu, Zv, gval, Zw, Zx, Zy, Zz, ZA, ZB, ZC, ZD, ZE, ZF, decide_eq_true_eq, ZG, ZH, ZI, ZJ, ZK, ZL, ZM, ZN, ZO, ZP, ZQ, ZR, ZS, Option.some.injEq, exists_eq_left', ZT, ZU, ZV, ZW, ZX, ZY, true_and, and_true, true_or, or_true, false_or, or_false, ite_true, ite_false, cond_true, cond_false, ZZ, Qa, if_true, if_false, decide_true, decide_false, Qb, Qc, Qd, Qe, Qf, Qg, Qh, Qi, Qj, Qk, Ql, Qm, Qn, Qo, Qp, rb0, rb1, rb2, rb3, rb4, tf0, tf1, tf2, tf3, tf4, e0]
        · simp only [↓reduceIte, reduceCtorEq, Za, Zb, Zc, Zd, Ze, Zf, Zg, Zh, Zi, Zj, Zk, Zl, Zm, Zn, Zo, Zp, Zq, Zr, Zs, Zt, Zu, Zv, gval, Zw, Zx, Zy, Zz, ZA, ZB, ZC, ZD, ZE, ZF, decide_eq_true_eq, ZG, ZH, ZI, ZJ, ZK, ZL, ZM, ZN, ZO, ZP, ZQ, ZR, ZS, Option.some.injEq, exists_eq_left', ZT, ZU, ZV, ZW, ZX, ZY, true_and, and_true, true_or, or_true, false_or, or_false, ite_true, ite_false, cond_true, cond_false, ZZ, Qa, if_true, if_false, decide_true, decide_false, Qb, Qc, Qd, Qe, Qf, Qg, Qh, Qi, Qj, Qk, Ql, Qm, Qn, Qo, Qp, rb0, rb1, rb2, rb3, rb4, tf0, tf1, tf2, tf3, tf4]
        · simp only [↓reduceIte, reduceCtorEq, Za, Zb, Zc, Zd, Ze, Zf, Zg, Zh, Zi, Zj, Zk, Zl, Zm, Zn, Zo, Zp, Zq, Zr, Zs, Zt, Zu, Zv, gval, Zw, Zx, Zy, Zz, ZA, ZB, ZC, ZD, ZE, ZF, decide_eq_true_eq, ZG, ZH, ZI, ZJ, ZK, ZL, ZM, ZN, ZO, ZP, ZQ, ZR, ZS, Option.some.injEq, exists_eq_left', ZT, ZU, ZV, ZW, ZX, ZY, true_and, and_true, true_or, or_true, false_or, or_false, ite_true, ite_false, cond_true, cond_false, ZZ, Qa, if_true, if_false, decide_true, decide_false, Qb, Qc, Qd, Qe, Qf, Qg, Qh, Qi, Qj, Qk, Ql, Qm, Qn, Qo, Qp, rb0, rb1, rb2, rb3, rb4, tf0, tf1, tf2, tf3, tf4]
          rfl
        · unfold allS
          rw [if_pos hl]; exact hg4
        · rw [hk4 b' (hg.ne hb') (by rw [Heap.nx_new]; omega), Heap.get_new_ne _ _ (by omega), hk b' hb']
      · simp (disch := (first | omega | rfl | (simp only [Heap.nx_upd, Heap.nx_new]; omega))) only [↓reduceIte, reduceCtorEq, Za, Zb, Zc, Zd, Ze, Zf, Zg, Zh, Zi, Zj, Zk, Zl, Zm, Zn, Zo, Zp, Zq, Zr, Zs, Zt, Zu, Zv, gval, Zw, Zx, Zy, Zz, ZA, ZB, ZC, ZD, ZE, ZF, decide_eq_true_eq, ZG, ZH, ZI, ZJ, ZK, ZL, ZM, ZN, ZO, ZP, ZQ, ZR, ZS, Option.some.injEq, exists_eq_left', ZT, ZU, ZV, ZW, ZX, ZY, true_and, and_true, true_or, or_true, false_or, or_false, ite_true, ite_false, cond_true, cond_false, ZZ, Qa, if_true, if_false, decide_true, decide_false, Qb, Qc, Qd, Qe, Qf, Qg, Qh, Qi, Qj, Qk, Ql, Qm, Qn, Qo, Qp, rb0, rb1, rb2, rb3, rb4, tf0, tf1, tf2, tf3, tf4, Heap.get_upd_ne, Heap.get_new_ne, Heap.get_new_at, overL_one, if_pos, stX_exactN, e0, e3, e4, hc1, hq2, c0, hn3, hl24, hl, wn]
        refine hQn _ _ _ (by omega) ⟨n + 1, o, v, rfl, by omega, ?_, ?_, ?_, ?_, hn, hk⟩
        · simp only [↓reduceIte, reduceCtorEq, Za, Zb, Zc, Zd, Ze, Zf, Zg, Zh, Zi, Zj, Zk, Zl, Zm, Zn, Zo, Zp, Zq, Zr, Zs, Zt, Zu, Zv, gval, Zw, Zx, Zy, Zz, ZA, ZB, ZC, ZD, ZE, ZF, decide_eq_true_eq, ZG, ZH, ZI, ZJ, ZK, ZL, ZM, ZN, ZO, ZP, ZQ, ZR, ZS, Option.some.injEq, exists_eq_left', ZT, ZU, ZV, ZW, ZX, ZY, true_and, and_true, true_or, or_true, false_or, or_false, ite_true, ite_false, cond_true, cond_false, ZZ, Qa, if_true, if_false, decide_true, decide_false, Qb, Qc, Qd, Qe, Qf, Qg, Qh, Qi, Qj, Qk, Ql, Qm, Qn, Qo, Qp, rb0, rb1, rb2, rb3, rb4, tf0, tf1, tf2, tf3, tf4, e0]
        · simp only [↓reduceIte, reduceCtorEq, Za, Zb, Zc, Zd, Ze, Zf, Zg, Zh, Zi, Zj, Zk, Zl, Zm, Zn, Zo, Zp, Zq, Zr, Zs, Zt, Zu, Zv, gval, Zw, Zx, Zy, Zz, ZA, ZB, ZC, ZD, ZE, ZF, decide_eq_true_eq, ZG, ZH, ZI, ZJ, ZK, ZL, ZM, ZN, ZO, ZP, ZQ, ZR, ZS, Option.some.injEq, exists_eq_left', ZT, ZU, ZV, ZW, ZX, ZY, true_and, and_true, true_or, or_true, false_or, or_false, ite_true, ite_false, cond_true, cond_false, ZZ, Qa, if_true, if_false, decide_true, decide_false, Qb, Qc, Qd, Qe, Qf, Qg, Qh, Qi, Qj, Qk, Ql, Qm, Qn, Qo, Qp, rb0, rb1, rb2, rb3, rb4, tf0, tf1, tf2, tf3, tf4, e3]
        · simp only [↓reduceIte, reduceCtorEq, Za, Zb, Zc, Zd, Ze, Zf, Zg, Zh, Zi, Zj, Zk, Zl, Zm, Zn, Zo, Zp, Zq, Zr, Zs, Zt, Zu, Zv, gval, Zw, Zx, Zy, Zz, ZA, ZB, ZC, ZD, ZE, ZF, decide_eq_true_eq, ZG, ZH, ZI, ZJ, ZK, ZL, ZM, ZN, ZO, ZP, ZQ, ZR, ZS, Option.some.injEq, exists_eq_left', ZT, ZU, ZV, ZW, ZX, ZY, true_and, and_true, true_or, or_true, false_or, or_false, ite_true, ite_false, cond_true, cond_false, ZZ, Qa, if_true, if_false, decide_true, decide_false, Qb, Qc, Qd, Qe, Qf, Qg, Qh, Qi, Qj, Qk, Ql, Qm, Qn, Qo, Qp, rb0, rb1, rb2, rb3, rb4, tf0, tf1, tf2, tf3, tf4]
          rfl
        · unfold allS
          rw [if_neg hl]; exact hg
    · obtain rfl : n = 8 := by omega
      simp (disch := (first | omega | rfl | (simp only [Heap.nx_upd, Heap.nx_new]; omega))) only [↓reduceIte, reduceCtorEq, Za, Zb, Zc, Zd, Ze, Zf, Zg, Zh, Zi, Zj, Zk, Zl, Zm, Zn, Zo, Zp, Zq, Zr, Zs, Zt, Zu, Zv, gval, Zw, Zx, Zy, Zz, ZA, ZB, ZC, ZD, ZE, ZF, decide_eq_true_eq, ZG, ZH, ZI, ZJ, ZK, ZL, ZM, ZN, ZO, ZP, ZQ, ZR, ZS, Option.some.injEq, exists_eq_left', ZT, ZU, ZV, ZW, ZX, ZY, true_and, and_true, true_or, or_true, false_or, or_false, ite_true, ite_false, cond_true, cond_false, ZZ, Qa, if_true, if_false, decide_true, decide_false, Qb, Qc, Qd, Qe, Qf, Qg, Qh, Qi, Qj, Qk, Ql, Qm, Qn, Qo, Qp, rb0, rb1, rb2, rb3, rb4, tf0, tf1, tf2, tf3, tf4, Heap.get_upd_ne, Heap.get_new_ne, Heap.get_new_at, overL_one, if_pos, stX_exactN, e4]
      exact hQx _ _ _ (by simp) ⟨rfl, o, v, by simp only [↓reduceIte, reduceCtorEq, Za, Zb, Zc, Zd, Ze, Zf, Zg, Zh, Zi, Zj, Zk, Zl, Zm, Zn, Zo, Zp, Zq, Zr, Zs, Zt, Zu, Zv, gval, Zw, Zx, Zy, Zz, ZA, ZB, ZC, ZD, ZE, ZF, decide_eq_true_eq, ZG, ZH, ZI, ZJ, ZK, ZL, ZM, ZN, ZO, ZP, ZQ, ZR, ZS, Option.some.injEq, exists_eq_left', ZT, ZU, ZV, ZW, ZX, ZY, true_and, and_true, true_or, or_true, false_or, or_false, ite_true, ite_false, cond_true, cond_false, ZZ, Qa, if_true, if_false, decide_true, decide_false, Qb, Qc, Qd, Qe, Qf, Qg, Qh, Qi, Qj, Qk, Ql, Qm, Qn, Qo, Qp, rb0, rb1, rb2, rb3, rb4, tf0, tf1, tf2, tf3, tf4, e3], hg, hn, hk⟩
  · refine ⟨0, none, .slice none 0 0, rfl, by omega, ?_, ?_, ?_, ⟨.inl ⟨rfl, rfl, rfl⟩⟩, Nat.le_refl _, fun _ _ => rfl⟩
    · simp only [↓reduceIte, reduceCtorEq, Za, Zb, Zc, Zd, Ze, Zf, Zg, Zh, Zi, Zj, Zk, Zl, Zm, Zn, Zo, Zp, Zq, Zr, Zs, Zt, Zu, Zv, gval, Zw, Zx, Zy, Zz, ZA, ZB, ZC, ZD, ZE, ZF, decide_eq_true_eq, ZG, ZH, ZI, ZJ, ZK, ZL, ZM, ZN, ZO, ZP, ZQ, ZR, ZS, Option.some.injEq, exists_eq_left', ZT, ZU, ZV, ZW, ZX, ZY, true_and, and_true, true_or, or_true, false_or, or_false, ite_true, ite_false, cond_true, cond_false, ZZ, Qa, if_true, if_false, decide_true, decide_false, Qb, Qc, Qd, Qe, Qf, Qg, Qh, Qi, Qj, Qk, Ql, Qm, Qn, Qo, Qp, rb0, rb1, rb2, rb3, rb4, tf0, tf1, tf2, tf3, tf4]
    · simp only [↓reduceIte, reduceCtorEq, Za, Zb, Zc, Zd, Ze, Zf, Zg, Zh, Zi, Zj, Zk, Zl, Zm, Zn, Zo, Zp, Zq, Zr, Zs, Zt, Zu, Zv, gval, Zw, Zx, Zy, Zz, ZA, ZB, ZC, ZD, ZE, ZF, decide_eq_true_eq, ZG, ZH, ZI, ZJ, ZK, ZL, ZM, ZN, ZO, ZP, ZQ, ZR, ZS, Option.some.injEq, exists_eq_left', ZT, ZU, ZV, ZW, ZX, ZY, true_and, and_true, true_or, or_true, false_or, or_false, ite_true, ite_false, cond_true, cond_false, ZZ, Qa, if_true, if_false, decide_true, decide_false, Qb, Qc, Qd, Qe, Qf, Qg, Qh, Qi, Qj, Qk, Ql, Qm, Qn, Qo, Qp, rb0, rb1, rb2, rb3, rb4, tf0, tf1, tf2, tf3, tf4]
    · simp only [↓reduceIte, reduceCtorEq, Za, Zb, Zc, Zd, Ze, Zf, Zg, Zh, Zi, Zj, Zk, Zl, Zm, Zn, Zo, Zp, Zq, Zr, Zs, Zt, Zu, Zv, gval, Zw, Zx, Zy, Zz, ZA, ZB, ZC, ZD, ZE, ZF, decide_eq_true_eq, ZG, ZH, ZI, ZJ, ZK, ZL, ZM, ZN, ZO, ZP, ZQ, ZR, ZS, Option.some.injEq, exists_eq_left', ZT, ZU, ZV, ZW, ZX, ZY, true_and, and_true, true_or, or_true, false_or, or_false, ite_true, ite_false, cond_true, cond_false, ZZ, Qa, if_true, if_false, decide_true, decide_false, Qb, Qc, Qd, Qe, Qf, Qg, Qh, Qi, Qj, Qk, Ql, Qm, Qn, Qo, Qp, rb0, rb1, rb2, rb3, rb4, tf0, tf1, tf2, tf3, tf4]
  · rintro ex e h2 - ⟨rfl, o, v, e3, hg, hn, hk⟩
    simp only [↓reduceIte, reduceCtorEq, Za, Zb, Zc, Zd, Ze, Zf, Zg, Zh, Zi, Zj, Zk, Zl, Zm, Zn, Zo, Zp, Zq, Zr, Zs, Zt, Zu, Zv, gval, Zw, Zx, Zy, Zz, ZA, ZB, ZC, ZD, ZE, ZF, decide_eq_true_eq, ZG, ZH, ZI, ZJ, ZK, ZL, ZM, ZN, ZO, ZP, ZQ, ZR, ZS, Option.some.injEq, exists_eq_left', ZT, ZU, ZV, ZW, ZX, ZY, true_and, and_true, true_or, or_true, false_or, or_false, ite_true, ite_false, cond_true, cond_false, ZZ, Qa, if_true, if_false, decide_true, decide_false, Qb, Qc, Qd, Qe, Qf, Qg, Qh, Qi, Qj, Qk, Ql, Qm, Qn, Qo, Qp, rb0, rb1, rb2, rb3, rb4, tf0, tf1, tf2, tf3, tf4, e3]
    exact hR _ _ hg.wints hn hk
set_option maxRecDepth 100000 in
theorem ne70 (x y : Operand) (g : Nat → Option Blk) : effBin Try.prog .neq 70 x y (.agg (List.take 24 (rowS PS.zero)).toArray) (.agg (repeatL [Value.int IntKind.i64 0, Value.int IntKind.i64 0, Value.int IntKind.i64 0] 8).toArray) g = ret (.bool false) := by kernel_rfl
set_option maxRecDepth 100000 in
theorem rbegin_spec (h0 : (sp 36).isNone = true) (hq : h.get q = some (cellsB (rowS PS.zero) .exact)) (hR : R (.ret (.int .i64 1)) (h.upd q (cellsB (rowS (PS.zero.set 1 1 0 0)) .exact))) : WF Try.prog 0 sp 36 [.pointer (some ⟨q, 0, none⟩)] h R := by
  refine wf_fn (fn := Try.f36) h0 rfl (by kernel_rfl) rfl ?_
  have hl24 : (rowS PS.zero).length = 24 := rowS_len
  have c0 := rowS_st (s := PS.zero) (i := 0) (by omega)
  have hov := row_st (s := PS.zero) (i := 0) (by omega) 1
  simp (disch := (first | omega | rfl | (simp only [Heap.nx_upd, Heap.nx_new]; omega))) only [↓reduceIte, reduceCtorEq, Za, Zb, Zc, Zd, Ze, Zf, Zg, Zh, Zi, Zj, Zk, Zl, Zm, Zn, Zo, Zp, Zq, Zr, Zs, Zt, Zu, Zv, gval, Zw, Zx, Zy, Zz, ZA, ZB, ZC, ZD, ZE, ZF, decide_eq_true_eq, ZG, ZH, ZI, ZJ, ZK, ZL, ZM, ZN, ZO, ZP, ZQ, ZR, ZS, Option.some.injEq, exists_eq_left', ZT, ZU, ZV, ZW, ZX, ZY, true_and, and_true, true_or, or_true, false_or, or_false, ite_true, ite_false, cond_true, cond_false, ZZ, Qa, if_true, if_false, decide_true, decide_false, Qb, Qc, Qd, Qe, Qf, Qg, Qh, Qi, Qj, Qk, Ql, Qm, Qn, Qo, Qp, rb0, rb1, rb2, rb3, rb4, tf0, tf1, tf2, tf3, tf4, Heap.get_upd_ne, Heap.get_new_ne, Heap.get_new_at, overL_one, if_pos, stX_exactN, Try.f36, hq, hl24, ne70]
  exact hR
end Go.Proofs.Ytmmjeifdgfolmaa
end
section
/- The answer's processes: Exit, Wait. Conditions: the cells lie as the rules name. -/
namespace Go.Proofs.Ytmmjeifdgfolmaa
open Go.AM
open Nat renaming reduceBEq → Za, reduceEqDiff → Zb, reduceAdd → Zc, reduceSub → Zd, reduceMul → Ze, reduceLT → Zf, reduceLeDiff → Zg, reduceDiv → Zh, reduceMod → Zi, reducePow → Zj, blt_eq → ZF, zero_add → Qc, add_zero → Qd
open Int renaming reduceAdd → Zk, reduceSub → Zl, reduceMul → Zm, reduceLT → Zn, reduceLE → Zo, reduceEq → Zp, reduceNe → Zq, reduceNeg → Zr, reduceToNat → Zs, reduceDiv → Zt, reduceMod → Zu, reducePow → Zv, cast_ofNat_Int → Zw, toNat_natCast → Qb
open List renaming set_cons_zero → Zx, set_cons_succ → Zy, map_toArray → Zz, cons_append → ZA, nil_append → ZB, append_nil → ZC, all_cons → ZD, all_nil → ZE, getElem?_cons_zero → ZJ, getElem?_cons_succ → ZK, length_cons → ZL, length_nil → ZM, map_cons → ZN, map_nil → ZO, isEmpty_nil → Qe, any_cons → Qf, any_nil → Qg, drop_zero → Qk, drop_succ_cons → Ql, take_succ_cons → Qm, take_zero → Qn, take_nil → Qo, drop_nil → Qp
open Bool renaming and_true → ZG, true_and → ZH, and_self → ZI, not_true → ZT, not_false → ZU, true_eq_false → ZZ, false_eq_true → Qa, or_false → Qh, false_or → Qi, and_eq_true → Qj
open Option renaming map_some → ZP, map_none → ZQ, bind_some → ZR, getD_some → ZS, isNone_some → ZV, isNone_none → ZW, isSome_some → ZX, isSome_none → ZY
set_option linter.unusedSimpArgs false
variable {sp : Special} {h : Heap} {R : Out → Heap → Prop} {q : Nat} {s : PS}
def PS.e1 (s : PS) (p u : Int) (i : Nat) : PS := ⟨s.st1 p, fun m => if m ≤ i then s.pa1 p m else s.pa m, s.su1 p u⟩
def PS.e2 (s : PS) (p u : Int) (i : Nat) : PS := ⟨fun m => if m ≤ i ∧ s.gone p m then 0 else s.st1 p m, fun m => if m ≤ i ∧ s.gone p m then 0 else s.pa1 p m, fun m => if m ≤ i ∧ s.gone p m then 0 else s.su1 p u m⟩
theorem e1_zero {i : Nat} (hi : i < 8) (u : Int) : ((rowS s).set (i * 3) (.int .i64 2)).set (i * 3 + 2) (.int .i64 u) = rowS (s.e1 ((i : Int) + 1) u 0) := by
  rw [row_st hi, row_su hi]
  refine row_ext fun m h1 h2 => ⟨rfl, ?_, rfl⟩
  show s.pa m = if m ≤ ((0 : Nat) : Int) then _ else _
  rw [if_neg (by omega)]
theorem e1_yes {p u : Int} {i : Nat} (hi : i < 8) (hp : s.pa ((i : Int) + 1) = p) : (rowS (s.e1 p u i)).set (i * 3 + 1) (.int .i64 0) = rowS (s.e1 p u (i + 1)) := by
  rw [row_pa hi]
  refine row_ext fun m h1 h2 => ⟨rfl, ?_, rfl⟩
  show updI (fun m => if m ≤ (i : Int) then s.pa1 p m else s.pa m) ((i : Int) + 1) 0 m = if m ≤ ((i + 1 : Nat) : Int) then s.pa1 p m else s.pa m
  by_cases e : m = (i : Int) + 1
  · rw [e, updI_same, if_pos (by omega)]
    unfold PS.pa1
    rw [if_pos hp]
  · rw [updI_ne _ _ e]
    by_cases e2 : m ≤ (i : Int)
    · rw [if_pos e2, if_pos (by omega)]
    · rw [if_neg e2, if_neg (by omega)]
theorem e1_no {p u : Int} {i : Nat} (hp : s.pa ((i : Int) + 1) ≠ p) : rowS (s.e1 p u i) = rowS (s.e1 p u (i + 1)) := by
  refine row_ext fun m h1 h2 => ⟨rfl, ?_, rfl⟩
  show (if m ≤ (i : Int) then s.pa1 p m else s.pa m) = if m ≤ ((i + 1 : Nat) : Int) then s.pa1 p m else s.pa m
  by_cases e : m = (i : Int) + 1
  · rw [e, if_neg (by omega), if_pos (by omega)]
    unfold PS.pa1
    rw [if_neg hp]
  · by_cases e2 : m ≤ (i : Int)
    · rw [if_pos e2, if_pos (by omega)]
    · rw [if_neg e2, if_neg (by omega)]
theorem e12 {p u : Int} : rowS (s.e1 p u 8) = rowS (s.e2 p u 0) := by
  refine row_ext fun m h1 h2 => ⟨?_, ?_, ?_⟩
  · show _ = if m ≤ ((0 : Nat) : Int) ∧ _ then _ else _
    rw [if_neg (by omega)]; rfl
  · show (if m ≤ ((8 : Nat) : Int) then _ else _) = if m ≤ ((0 : Nat) : Int) ∧ _ then _ else _
    rw [if_pos (by omega), if_neg (by omega)]
  · show _ = if m ≤ ((0 : Nat) : Int) ∧ _ then _ else _
    rw [if_neg (by omega)]; rfl
theorem e2_yes {p u : Int} {i : Nat} (hi : i < 8) (hg : s.gone p ((i : Int) + 1) = true) : overL (rowS (s.e2 p u i)) (i * 3) [.int .i64 0, .int .i64 0, .int .i64 0] = rowS (s.e2 p u (i + 1)) := by
  rw [row_over hi]
  have key : ∀ (f : Int → Int) (m : Int), updI (fun m => if m ≤ (i : Int) ∧ s.gone p m = true then 0 else f m) ((i : Int) + 1) 0 m = if m ≤ ((i + 1 : Nat) : Int) ∧ s.gone p m = true then 0 else f m := fun f m => by
    by_cases e : m = (i : Int) + 1
    · rw [e, updI_same, if_pos ⟨by omega, hg⟩]
    · rw [updI_ne _ _ e]
      by_cases e2 : m ≤ (i : Int) ∧ s.gone p m = true
      · rw [if_pos e2, if_pos ⟨by omega, e2.2⟩]
      · rw [if_neg e2, if_neg (fun q => e2 ⟨by omega, q.2⟩)]
  exact row_ext fun m h1 h2 => ⟨key _ m, key _ m, key _ m⟩
theorem e2_no {p u : Int} {i : Nat} (hg : ¬ s.gone p ((i : Int) + 1) = true) : rowS (s.e2 p u i) = rowS (s.e2 p u (i + 1)) := by
  have key : ∀ (f : Int → Int) (m : Int), (if m ≤ (i : Int) ∧ s.gone p m = true then 0 else f m) = if m ≤ ((i + 1 : Nat) : Int) ∧ s.gone p m = true then 0 else f m := fun f m => by
    by_cases e2 : m ≤ (i : Int) ∧ s.gone p m = true
    · rw [if_pos e2, if_pos ⟨by omega, e2.2⟩]
    · rw [if_neg e2, if_neg (fun q => e2 ⟨by
        by_cases e : m = (i : Int) + 1
        · rw [e] at q; exact absurd q.2 hg
        · omega, q.2⟩)]
  exact row_ext fun m h1 h2 => ⟨key _ m, key _ m, key _ m⟩
theorem e2_all {p u : Int} : rowS (s.e2 p u 8) = rowS (s.exit p u) := by
  have key : ∀ (f : Int → Int) (m : Int), m < 9 → (if m ≤ ((8 : Nat) : Int) ∧ s.gone p m = true then 0 else f m) = if s.gone p m = true then 0 else f m := fun f m h => by
    by_cases e : s.gone p m = true
    · rw [if_pos e, if_pos ⟨by omega, e⟩]
    · rw [if_neg e, if_neg (fun q => e q.2)]
  exact row_ext fun m h1 h2 => ⟨key _ m h2, key _ m h2, key _ m h2⟩
set_option maxRecDepth 100000 in
theorem rexit_spec (h0 : (sp 38).isNone = true) (h40 : (sp 40).isNone = true) (h59 : (sp 59).isNone = true) (hs : s.Ok) (hq : h.get q = some (cellsB (rowS s) .exact)) {p u : Int}
    (hno : s.lives p = false → R (.ret (.int .i64 3)) h)
    (hok : ∀ h', s.lives p = true → h'.get q = some (cellsB (rowS (s.exit p u)) .exact) → h'.nx = h.nx → (∀ b, b ≠ q → h'.get b = h.get b) → R (.ret (.int .i64 0)) h') :
    WF Try.prog 0 sp 38 [.pointer (some ⟨q, 0, none⟩), .int .i64 p, .int .i64 u] h R := by
  refine wf_fn (fn := Try.f38) h0 rfl (by kernel_rfl) rfl ?_
  simp only [↓reduceIte, reduceCtorEq, Za, Zb, Zc, Zd, Ze, Zf, Zg, Zh, Zi, Zj, Zk, Zl, Zm, Zn, Zo, Zp, Zq, Zr, Zs, Zt, Zu, Zv, gval, Zw, Zx, Zy, Zz, ZA, ZB, ZC, ZD, ZE, ZF, decide_eq_true_eq, ZG, ZH, ZI, ZJ, ZK, ZL, ZM, ZN, ZO, ZP, ZQ, ZR, ZS, Option.some.injEq, exists_eq_left', ZT, ZU, ZV, ZW, ZX, ZY, true_and, and_true, true_or, or_true, false_or, or_false, ite_true, ite_false, cond_true, cond_false, ZZ, Qa, if_true, if_false, decide_true, decide_false, Qb, Qc, Qd, Qe, Qf, Qg, Qh, Qi, Qj, Qk, Ql, Qm, Qn, Qo, Qp, rb0, rb1, rb2, rb3, rb4, tf0, tf1, tf2, tf3, tf4, Try.f38]
  refine runC_of (rlives_spec h40 h59 hs hq ?_)
  cases hl : s.lives p with
  | false =>
    simp only [↓reduceIte, reduceCtorEq, Za, Zb, Zc, Zd, Ze, Zf, Zg, Zh, Zi, Zj, Zk, Zl, Zm, Zn, Zo, Zp, Zq, Zr, Zs, Zt, Zu, Zv, gval, Zw, Zx, Zy, Zz, ZA, ZB, ZC, ZD, ZE, ZF, decide_eq_true_eq, ZG, ZH, ZI, ZJ, ZK, ZL, ZM, ZN, ZO, ZP, ZQ, ZR, ZS, Option.some.injEq, exists_eq_left', ZT, ZU, ZV, ZW, ZX, ZY, true_and, and_true, true_or, or_true, false_or, or_false, ite_true, ite_false, cond_true, cond_false, ZZ, Qa, if_true, if_false, decide_true, decide_false, Qb, Qc, Qd, Qe, Qf, Qg, Qh, Qi, Qj, Qk, Ql, Qm, Qn, Qo, Qp, rb0, rb1, rb2, rb3, rb4, tf0, tf1, tf2, tf3, tf4]
    exact hno hl
  | true =>
    obtain ⟨hp1, hp9, hp⟩ := of_decide_eq_true hl
    obtain ⟨i, rfl⟩ : ∃ i : Nat, p = (i : Int) + 1 := ⟨(p - 1).toNat, by omega⟩
    have w1 : wrapF .i64 ((i : Int) + 1 - 1) = (i : Int) := by rw [wrapI (by omega) (by omega)]; omega
    have hi : i < 8 := by omega
    have hi8 : (i : Int) < 8 := by omega
    have hl24 : ∀ s, (rowS s).length = 24 := fun _ => rowS_len
    have i3 : i * 3 < 24 := by omega
    have i32 : i * 3 + 2 < 24 := by omega
    have hz := e1_zero (s := s) hi u
    have hls : ((rowS s).set (i * 3) (.int .i64 2)).length = 24 := by rw [List.length_set]; exact hl24 s
    simp only [↓reduceIte, reduceCtorEq, Za, Zb, Zc, Zd, Ze, Zf, Zg, Zh, Zi, Zj, Zk, Zl, Zm, Zn, Zo, Zp, Zq, Zr, Zs, Zt, Zu, Zv, gval, Zw, Zx, Zy, Zz, ZA, ZB, ZC, ZD, ZE, ZF, decide_eq_true_eq, ZG, ZH, ZI, ZJ, ZK, ZL, ZM, ZN, ZO, ZP, ZQ, ZR, ZS, Option.some.injEq, exists_eq_left', ZT, ZU, ZV, ZW, ZX, ZY, true_and, and_true, true_or, or_true, false_or, or_false, ite_true, ite_false, cond_true, cond_false, ZZ, Qa, if_true, if_false, decide_true, decide_false, Qb, Qc, Qd, Qe, Qf, Qg, Qh, Qi, Qj, Qk, Ql, Qm, Qn, Qo, Qp, rb0, rb1, rb2, rb3, rb4, tf0, tf1, tf2, tf3, tf4]
    refine run_draw (ps := [(5, 11)]) (by kernel_rfl) (by kernel_rfl) ?_
    have ho1 : overL (rowS s) (i * 3) [Value.int .i64 2] = (rowS s).set (i * 3) (.int .i64 2) := overL_one _ (by rw [hl24]; exact i3)
    have i33 : i * 3 + 2 + 1 ≤ 24 := by omega
    simp (disch := (first | omega | rfl | (simp only [Heap.nx_upd, Heap.nx_new]; omega))) only [↓reduceIte, reduceCtorEq, Za, Zb, Zc, Zd, Ze, Zf, Zg, Zh, Zi, Zj, Zk, Zl, Zm, Zn, Zo, Zp, Zq, Zr, Zs, Zt, Zu, Zv, gval, Zw, Zx, Zy, Zz, ZA, ZB, ZC, ZD, ZE, ZF, decide_eq_true_eq, ZG, ZH, ZI, ZJ, ZK, ZL, ZM, ZN, ZO, ZP, ZQ, ZR, ZS, Option.some.injEq, exists_eq_left', ZT, ZU, ZV, ZW, ZX, ZY, true_and, and_true, true_or, or_true, false_or, or_false, ite_true, ite_false, cond_true, cond_false, ZZ, Qa, if_true, if_false, decide_true, decide_false, Qb, Qc, Qd, Qe, Qf, Qg, Qh, Qi, Qj, Qk, Ql, Qm, Qn, Qo, Qp, rb0, rb1, rb2, rb3, rb4, tf0, tf1, tf2, tf3, tf4, Heap.get_upd_ne, Heap.get_new_ne, Heap.get_new_at, overL_one, if_pos, stX_exactN, w1, hq, hi8, i3, i32, i33, hl24, hls, ho1, hz]
    obtain ⟨p, hpp⟩ : ∃ p, ((i : Int) + 1) = p := ⟨_, rfl⟩
    rw [hpp] at hp hl hp1 hp9 hok hno
    simp only [hpp]
    refine run_loop2 rfl (fun m e h2 => ∃ n : Nat, m = 8 - n ∧ n ≤ 8 ∧ e.at 0 = .pointer (some ⟨q, 0, none⟩) ∧ e.at 1 = .int .i64 p ∧ e.at 7 = .int .i64 n ∧ h2.get q = some (cellsB (rowS (s.e1 p u n)) .exact) ∧ h2.nx = h.nx ∧ ∀ b, b ≠ q → h2.get b = h.get b)
      (fun ex e h2 => ex = .exit 0 ∧ e.at 0 = .pointer (some ⟨q, 0, none⟩) ∧ h2.get q = some (cellsB (rowS (s.e2 p u 0)) .exact) ∧ h2.nx = h.nx ∧ ∀ b, b ≠ q → h2.get b = h.get b) ?_ 8 _ _ ?_ ?_
    · rintro m e h2 ⟨n, rfl, hn8, e0, e1, e7, hq2, hn2, hk2⟩ Q' hQn hQx
      by_cases hc : n < 8
      · have hc1 : (n : Int) < 8 := by omega
        have wn : wrapF .i64 ((n : Int) + 1) = (n : Int) + 1 := wrapI (by omega) (by omega)
        have c0 : (rowS (s.e1 p u n))[n * 3]? = some (.int .i64 (s.st1 p ((n : Int) + 1))) := rowS_st hc
        have c1 : (rowS (s.e1 p u n))[n * 3 + 1]? = some (.int .i64 (s.pa ((n : Int) + 1))) := by
          rw [rowS_pa hc]
          show some (Value.int .i64 (if (n : Int) + 1 ≤ (n : Int) then _ else _)) = _
          rw [if_neg (by omega)]
        have n3 : n * 3 < 24 := by omega
        have n31 : n * 3 + 1 < 24 := by omega
        have hfin : ∀ (h3 : Heap) (e' : Env), h3.get q = some (cellsB (rowS (s.e1 p u (n + 1))) .exact) → h3.nx = h.nx → (∀ b, b ≠ q → h3.get b = h.get b) → e'.at 0 = .pointer (some ⟨q, 0, none⟩) → e'.at 1 = .int .i64 p → e'.at 7 = .int .i64 ((n : Int) + 1) → Q' .normal e' h3 := fun h3 e' q1 q2 q3 q4 q5 q6 =>
          hQn _ _ _ (by omega) ⟨n + 1, rfl, by omega, q4, q5, q6, q1, q2, q3⟩
        by_cases hz : s.st1 p ((n : Int) + 1) = 0
        · have hne : s.pa ((n : Int) + 1) ≠ p := fun e => by
            unfold PS.st1 at hz
            by_cases e2 : (n : Int) + 1 = p
            · rw [e2, updI_same] at hz; cases hz
            · rw [updI_ne _ _ e2] at hz
              have := (hs.free _ (by omega) (by omega) hz).1
              omega
          simp (disch := (first | omega | rfl | (simp only [Heap.nx_upd, Heap.nx_new]; omega))) only [↓reduceIte, reduceCtorEq, Za, Zb, Zc, Zd, Ze, Zf, Zg, Zh, Zi, Zj, Zk, Zl, Zm, Zn, Zo, Zp, Zq, Zr, Zs, Zt, Zu, Zv, gval, Zw, Zx, Zy, Zz, ZA, ZB, ZC, ZD, ZE, ZF, decide_eq_true_eq, ZG, ZH, ZI, ZJ, ZK, ZL, ZM, ZN, ZO, ZP, ZQ, ZR, ZS, Option.some.injEq, exists_eq_left', ZT, ZU, ZV, ZW, ZX, ZY, true_and, and_true, true_or, or_true, false_or, or_false, ite_true, ite_false, cond_true, cond_false, ZZ, Qa, if_true, if_false, decide_true, decide_false, Qb, Qc, Qd, Qe, Qf, Qg, Qh, Qi, Qj, Qk, Ql, Qm, Qn, Qo, Qp, rb0, rb1, rb2, rb3, rb4, tf0, tf1, tf2, tf3, tf4, Heap.get_upd_ne, Heap.get_new_ne, Heap.get_new_at, overL_one, if_pos, stX_exactN, e0, e1, e7, hc1, hq2, c0, c1, n3, n31, hl24, hz, wn]
          exact hfin _ _ (by rw [← e1_no hne]; exact hq2) hn2 hk2 (by simp only [↓reduceIte, reduceCtorEq, Za, Zb, Zc, Zd, Ze, Zf, Zg, Zh, Zi, Zj, Zk, Zl, Zm, Zn, Zo, Zp, Zq, Zr, Zs, Zt, Zu, Zv, gval, Zw, Zx, Zy, Zz, ZA, ZB, ZC, ZD, ZE, ZF, decide_eq_true_eq, ZG, ZH, ZI, ZJ, ZK, ZL, ZM, ZN, ZO, ZP, ZQ, ZR, ZS, Option.some.injEq, exists_eq_left', ZT, ZU, ZV, ZW, ZX, ZY, true_and, and_true, true_or, or_true, false_or, or_false, ite_true, ite_false, cond_true, cond_false, ZZ, Qa, if_true, if_false, decide_true, decide_false, Qb, Qc, Qd, Qe, Qf, Qg, Qh, Qi, Qj, Qk, Ql, Qm, Qn, Qo, Qp, rb0, rb1, rb2, rb3, rb4, tf0, tf1, tf2, tf3, tf4, e0]) (by simp only [↓reduceIte, reduceCtorEq, Za, Zb, Zc, Zd, Ze, Zf, Zg, Zh, Zi, Zj, Zk, Zl, Zm, Zn, Zo, Zp, Zq, Zr, Zs, Zt, Zu, Zv, gval, Zw, Zx, Zy, Zz, ZA, ZB, ZC, ZD, ZE, ZF, decide_eq_true_eq, ZG, ZH, ZI, ZJ, ZK, ZL, ZM, ZN, ZO, ZP, ZQ, ZR, ZS, Option.some.injEq, exists_eq_left', ZT, ZU, ZV, ZW, ZX, ZY, true_and, and_true, true_or, or_true, false_or, or_false, ite_true, ite_false, cond_true, cond_false, ZZ, Qa, if_true, if_false, decide_true, decide_false, Qb, Qc, Qd, Qe, Qf, Qg, Qh, Qi, Qj, Qk, Ql, Qm, Qn, Qo, Qp, rb0, rb1, rb2, rb3, rb4, tf0, tf1, tf2, tf3, tf4, e1]) (by simp only [↓reduceIte, reduceCtorEq, Za, Zb, Zc, Zd, Ze, Zf, Zg, Zh, Zi, Zj, Zk, Zl, Zm, Zn, Zo, Zp, Zq, Zr, Zs, Zt, Zu, Zv, gval, Zw, Zx, Zy, Zz, ZA, ZB, ZC, ZD, ZE, ZF, decide_eq_true_eq, ZG, ZH, ZI, ZJ, ZK, ZL, ZM, ZN, ZO, ZP, ZQ, ZR, ZS, Option.some.injEq, exists_eq_left', ZT, ZU, ZV, ZW, ZX, ZY, true_and, and_true, true_or, or_true, false_or, or_false, ite_true, ite_false, cond_true, cond_false, ZZ, Qa, if_true, if_false, decide_true, decide_false, Qb, Qc, Qd, Qe, Qf, Qg, Qh, Qi, Qj, Qk, Ql, Qm, Qn, Qo, Qp, rb0, rb1, rb2, rb3, rb4, tf0, tf1, tf2, tf3, tf4])
        · by_cases hpe : s.pa ((n : Int) + 1) = p
          · have hset := (overL_one (.int .i64 0) (by rw [hl24]; exact n31)).trans (e1_yes (u := u) hc hpe)
            simp (disch := (first | omega | rfl | (simp only [Heap.nx_upd, Heap.nx_new]; omega))) only [↓reduceIte, reduceCtorEq, Za, Zb, Zc, Zd, Ze, Zf, Zg, Zh, Zi, Zj, Zk, Zl, Zm, Zn, Zo, Zp, Zq, Zr, Zs, Zt, Zu, Zv, gval, Zw, Zx, Zy, Zz, ZA, ZB, ZC, ZD, ZE, ZF, decide_eq_true_eq, ZG, ZH, ZI, ZJ, ZK, ZL, ZM, ZN, ZO, ZP, ZQ, ZR, ZS, Option.some.injEq, exists_eq_left', ZT, ZU, ZV, ZW, ZX, ZY, true_and, and_true, true_or, or_true, false_or, or_false, ite_true, ite_false, cond_true, cond_false, ZZ, Qa, if_true, if_false, decide_true, decide_false, Qb, Qc, Qd, Qe, Qf, Qg, Qh, Qi, Qj, Qk, Ql, Qm, Qn, Qo, Qp, rb0, rb1, rb2, rb3, rb4, tf0, tf1, tf2, tf3, tf4, Heap.get_upd_ne, Heap.get_new_ne, Heap.get_new_at, overL_one, if_pos, stX_exactN, e0, e1, e7, hc1, hq2, c0, c1, n3, n31, hl24, hz, hpe, wn, hset]
            exact hfin _ _ (Heap.get_upd_same _ _ _) (by rw [Heap.nx_upd]; exact hn2) (fun b hb => by rw [Heap.get_upd_ne _ _ hb]; exact hk2 b hb) (by simp only [↓reduceIte, reduceCtorEq, Za, Zb, Zc, Zd, Ze, Zf, Zg, Zh, Zi, Zj, Zk, Zl, Zm, Zn, Zo, Zp, Zq, Zr, Zs, Zt, Zu, Zv, gval, Zw, Zx, Zy, Zz, ZA, ZB, ZC, ZD, ZE, ZF, decide_eq_true_eq, ZG, ZH, ZI, ZJ, ZK, ZL, ZM, ZN, ZO, ZP, ZQ, ZR, ZS, Option.some.injEq, exists_eq_left', ZT, ZU, ZV, ZW, ZX, ZY, true_and, and_true, true_or, or_true, false_or, or_false, ite_true, ite_false, cond_true, cond_false, ZZ, Qa, if_true, if_false, decide_true, decide_false, Qb, Qc, Qd, Qe, Qf, Qg, Qh, Qi, Qj, Qk, Ql, Qm, Qn, Qo, Qp, rb0, rb1, rb2, rb3, rb4, tf0, tf1, tf2, tf3, tf4, e0]) (by simp only [↓reduceIte, reduceCtorEq, Za, Zb, Zc, Zd, Ze, Zf, Zg, Zh, Zi, Zj, Zk, Zl, Zm, Zn, Zo, Zp, Zq, Zr, Zs, Zt, Zu, Zv, gval, Zw, Zx, Zy, Zz, ZA, ZB, ZC, ZD, ZE, ZF, decide_eq_true_eq, ZG, ZH, ZI, ZJ, ZK, ZL, ZM, ZN, ZO, ZP, ZQ, ZR, ZS, Option.some.injEq, exists_eq_left', ZT, ZU, ZV, ZW, ZX, ZY, true_and, and_true, true_or, or_true, false_or, or_false, ite_true, ite_false, cond_true, cond_false, ZZ, Qa, if_true, if_false, decide_true, decide_false, Qb, Qc, Qd, Qe, Qf, Qg, Qh, Qi, Qj, Qk, Ql, Qm, Qn, Qo, Qp, rb0, rb1, rb2, rb3, rb4, tf0, tf1, tf2, tf3, tf4, e1]) (by simp only [↓reduceIte, reduceCtorEq, Za, Zb, Zc, Zd, Ze, Zf, Zg, Zh, Zi, Zj, Zk, Zl, Zm, Zn, Zo, Zp, Zq, Zr, Zs, Zt, Zu, Zv, gval, Zw, Zx, Zy, Zz, ZA, ZB, ZC, ZD, ZE, ZF, decide_eq_true_eq, ZG, ZH, ZI, ZJ, ZK, ZL, ZM, ZN, ZO, ZP, ZQ, ZR, ZS, Option.some.injEq, exists_eq_left', ZT, ZU, ZV, ZW, ZX, ZY, true_and, and_true, true_or, or_true, false_or, or_false, ite_true, ite_false, cond_true, cond_false, ZZ, Qa, if_true, if_false, decide_true, decide_false, Qb, Qc, Qd, Qe, Qf, Qg, Qh, Qi, Qj, Qk, Ql, Qm, Qn, Qo, Qp, rb0, rb1, rb2, rb3, rb4, tf0, tf1, tf2, tf3, tf4])
          · simp (disch := (first | omega | rfl | (simp only [Heap.nx_upd, Heap.nx_new]; omega))) only [↓reduceIte, reduceCtorEq, Za, Zb, Zc, Zd, Ze, Zf, Zg, Zh, Zi, Zj, Zk, Zl, Zm, Zn, Zo, Zp, Zq, Zr, Zs, Zt, Zu, Zv, gval, Zw, Zx, Zy, Zz, ZA, ZB, ZC, ZD, ZE, ZF, decide_eq_true_eq, ZG, ZH, ZI, ZJ, ZK, ZL, ZM, ZN, ZO, ZP, ZQ, ZR, ZS, Option.some.injEq, exists_eq_left', ZT, ZU, ZV, ZW, ZX, ZY, true_and, and_true, true_or, or_true, false_or, or_false, ite_true, ite_false, cond_true, cond_false, ZZ, Qa, if_true, if_false, decide_true, decide_false, Qb, Qc, Qd, Qe, Qf, Qg, Qh, Qi, Qj, Qk, Ql, Qm, Qn, Qo, Qp, rb0, rb1, rb2, rb3, rb4, tf0, tf1, tf2, tf3, tf4, Heap.get_upd_ne, Heap.get_new_ne, Heap.get_new_at, overL_one, if_pos, stX_exactN, e0, e1, e7, hc1, hq2, c0, c1, n3, n31, hl24, hz, hpe, wn]
            exact hfin _ _ (by rw [← e1_no hpe]; exact hq2) hn2 hk2 (by simp only [↓reduceIte, reduceCtorEq, Za, Zb, Zc, Zd, Ze, Zf, Zg, Zh, Zi, Zj, Zk, Zl, Zm, Zn, Zo, Zp, Zq, Zr, Zs, Zt, Zu, Zv, gval, Zw, Zx, Zy, Zz, ZA, ZB, ZC, ZD, ZE, ZF, decide_eq_true_eq, ZG, ZH, ZI, ZJ, ZK, ZL, ZM, ZN, ZO, ZP, ZQ, ZR, ZS, Option.some.injEq, exists_eq_left', ZT, ZU, ZV, ZW, ZX, ZY, true_and, and_true, true_or, or_true, false_or, or_false, ite_true, ite_false, cond_true, cond_false, ZZ, Qa, if_true, if_false, decide_true, decide_false, Qb, Qc, Qd, Qe, Qf, Qg, Qh, Qi, Qj, Qk, Ql, Qm, Qn, Qo, Qp, rb0, rb1, rb2, rb3, rb4, tf0, tf1, tf2, tf3, tf4, e0]) (by simp only [↓reduceIte, reduceCtorEq, Za, Zb, Zc, Zd, Ze, Zf, Zg, Zh, Zi, Zj, Zk, Zl, Zm, Zn, Zo, Zp, Zq, Zr, Zs, Zt, Zu, Zv, gval, Zw, Zx, Zy, Zz, ZA, ZB, ZC, ZD, ZE, ZF, decide_eq_true_eq, ZG, ZH, ZI, ZJ, ZK, ZL, ZM, ZN, ZO, ZP, ZQ, ZR, ZS, Option.some.injEq, exists_eq_left', ZT, ZU, ZV, ZW, ZX, ZY, true_and, and_true, true_or, or_true, false_or, or_false, ite_true, ite_false, cond_true, cond_false, ZZ, Qa, if_true, if_false, decide_true, decide_false, Qb, Qc, Qd, Qe, Qf, Qg, Qh, Qi, Qj, Qk, Ql, Qm, Qn, Qo, Qp, rb0, rb1, rb2, rb3, rb4, tf0, tf1, tf2, tf3, tf4, e1]) (by simp only [↓reduceIte, reduceCtorEq, Za, Zb, Zc, Zd, Ze, Zf, Zg, Zh, Zi, Zj, Zk, Zl, Zm, Zn, Zo, Zp, Zq, Zr, Zs, Zt, Zu, Zv, gval, Zw, Zx, Zy, Zz, ZA, ZB, ZC, ZD, ZE, ZF, decide_eq_true_eq, ZG, ZH, ZI, ZJ, ZK, ZL, ZM, ZN, ZO, ZP, ZQ, ZR, ZS, Option.some.injEq, exists_eq_left', ZT, ZU, ZV, ZW, ZX, ZY, true_and, and_true, true_or, or_true, false_or, or_false, ite_true, ite_false, cond_true, cond_false, ZZ, Qa, if_true, if_false, decide_true, decide_false, Qb, Qc, Qd, Qe, Qf, Qg, Qh, Qi, Qj, Qk, Ql, Qm, Qn, Qo, Qp, rb0, rb1, rb2, rb3, rb4, tf0, tf1, tf2, tf3, tf4])
      · obtain rfl : n = 8 := by omega
        simp (disch := (first | omega | rfl | (simp only [Heap.nx_upd, Heap.nx_new]; omega))) only [↓reduceIte, reduceCtorEq, Za, Zb, Zc, Zd, Ze, Zf, Zg, Zh, Zi, Zj, Zk, Zl, Zm, Zn, Zo, Zp, Zq, Zr, Zs, Zt, Zu, Zv, gval, Zw, Zx, Zy, Zz, ZA, ZB, ZC, ZD, ZE, ZF, decide_eq_true_eq, ZG, ZH, ZI, ZJ, ZK, ZL, ZM, ZN, ZO, ZP, ZQ, ZR, ZS, Option.some.injEq, exists_eq_left', ZT, ZU, ZV, ZW, ZX, ZY, true_and, and_true, true_or, or_true, false_or, or_false, ite_true, ite_false, cond_true, cond_false, ZZ, Qa, if_true, if_false, decide_true, decide_false, Qb, Qc, Qd, Qe, Qf, Qg, Qh, Qi, Qj, Qk, Ql, Qm, Qn, Qo, Qp, rb0, rb1, rb2, rb3, rb4, tf0, tf1, tf2, tf3, tf4, Heap.get_upd_ne, Heap.get_new_ne, Heap.get_new_at, overL_one, if_pos, stX_exactN, e7]
        exact hQx _ _ _ (by simp) ⟨rfl, by simp only [↓reduceIte, reduceCtorEq, Za, Zb, Zc, Zd, Ze, Zf, Zg, Zh, Zi, Zj, Zk, Zl, Zm, Zn, Zo, Zp, Zq, Zr, Zs, Zt, Zu, Zv, gval, Zw, Zx, Zy, Zz, ZA, ZB, ZC, ZD, ZE, ZF, decide_eq_true_eq, ZG, ZH, ZI, ZJ, ZK, ZL, ZM, ZN, ZO, ZP, ZQ, ZR, ZS, Option.some.injEq, exists_eq_left', ZT, ZU, ZV, ZW, ZX, ZY, true_and, and_true, true_or, or_true, false_or, or_false, ite_true, ite_false, cond_true, cond_false, ZZ, Qa, if_true, if_false, decide_true, decide_false, Qb, Qc, Qd, Qe, Qf, Qg, Qh, Qi, Qj, Qk, Ql, Qm, Qn, Qo, Qp, rb0, rb1, rb2, rb3, rb4, tf0, tf1, tf2, tf3, tf4, e0], by rw [← e12]; exact hq2, hn2, hk2⟩
    · refine ⟨0, rfl, by omega, ?_, ?_, ?_, ?_, ?_, fun b hb => ?_⟩
      · simp only [↓reduceIte, reduceCtorEq, Za, Zb, Zc, Zd, Ze, Zf, Zg, Zh, Zi, Zj, Zk, Zl, Zm, Zn, Zo, Zp, Zq, Zr, Zs, Zt, Zu, Zv, gval, Zw, Zx, Zy, Zz, ZA, ZB, ZC, ZD, ZE, ZF, decide_eq_true_eq, ZG, ZH, ZI, ZJ, ZK, ZL, ZM, ZN, ZO, ZP, ZQ, ZR, ZS, Option.some.injEq, exists_eq_left', ZT, ZU, ZV, ZW, ZX, ZY, true_and, and_true, true_or, or_true, false_or, or_false, ite_true, ite_false, cond_true, cond_false, ZZ, Qa, if_true, if_false, decide_true, decide_false, Qb, Qc, Qd, Qe, Qf, Qg, Qh, Qi, Qj, Qk, Ql, Qm, Qn, Qo, Qp, rb0, rb1, rb2, rb3, rb4, tf0, tf1, tf2, tf3, tf4]
      · simp only [↓reduceIte, reduceCtorEq, Za, Zb, Zc, Zd, Ze, Zf, Zg, Zh, Zi, Zj, Zk, Zl, Zm, Zn, Zo, Zp, Zq, Zr, Zs, Zt, Zu, Zv, gval, Zw, Zx, Zy, Zz, ZA, ZB, ZC, ZD, ZE, ZF, decide_eq_true_eq, ZG, ZH, ZI, ZJ, ZK, ZL, ZM, ZN, ZO, ZP, ZQ, ZR, ZS, Option.some.injEq, exists_eq_left', ZT, ZU, ZV, ZW, ZX, ZY, true_and, and_true, true_or, or_true, false_or, or_false, ite_true, ite_false, cond_true, cond_false, ZZ, Qa, if_true, if_false, decide_true, decide_false, Qb, Qc, Qd, Qe, Qf, Qg, Qh, Qi, Qj, Qk, Ql, Qm, Qn, Qo, Qp, rb0, rb1, rb2, rb3, rb4, tf0, tf1, tf2, tf3, tf4]
      · simp only [↓reduceIte, reduceCtorEq, Za, Zb, Zc, Zd, Ze, Zf, Zg, Zh, Zi, Zj, Zk, Zl, Zm, Zn, Zo, Zp, Zq, Zr, Zs, Zt, Zu, Zv, gval, Zw, Zx, Zy, Zz, ZA, ZB, ZC, ZD, ZE, ZF, decide_eq_true_eq, ZG, ZH, ZI, ZJ, ZK, ZL, ZM, ZN, ZO, ZP, ZQ, ZR, ZS, Option.some.injEq, exists_eq_left', ZT, ZU, ZV, ZW, ZX, ZY, true_and, and_true, true_or, or_true, false_or, or_false, ite_true, ite_false, cond_true, cond_false, ZZ, Qa, if_true, if_false, decide_true, decide_false, Qb, Qc, Qd, Qe, Qf, Qg, Qh, Qi, Qj, Qk, Ql, Qm, Qn, Qo, Qp, rb0, rb1, rb2, rb3, rb4, tf0, tf1, tf2, tf3, tf4]
      · simp (disch := (first | omega | rfl | (simp only [Heap.nx_upd, Heap.nx_new]; omega))) only [Heap.get_upd_ne, Heap.get_new_ne, Heap.get_new_at, Heap.get_upd_same, Heap.get_new_same, Heap.nx_upd, Heap.nx_new]
        try rw [← hpp]
      · simp (disch := (first | omega | rfl | (simp only [Heap.nx_upd, Heap.nx_new]; omega))) only [Heap.get_upd_ne, Heap.get_new_ne, Heap.get_new_at, Heap.get_upd_same, Heap.get_new_same, Heap.nx_upd, Heap.nx_new]
      · simp (disch := (first | omega | rfl | (simp only [Heap.nx_upd, Heap.nx_new]; omega))) only [Heap.get_upd_ne, Heap.get_new_ne, Heap.get_new_at, Heap.get_upd_same, Heap.get_new_same, Heap.nx_upd, Heap.nx_new]
    · rintro ex e h2 - ⟨rfl, e0, hq2, hn2, hk2⟩
      simp only [↓reduceIte, reduceCtorEq, Za, Zb, Zc, Zd, Ze, Zf, Zg, Zh, Zi, Zj, Zk, Zl, Zm, Zn, Zo, Zp, Zq, Zr, Zs, Zt, Zu, Zv, gval, Zw, Zx, Zy, Zz, ZA, ZB, ZC, ZD, ZE, ZF, decide_eq_true_eq, ZG, ZH, ZI, ZJ, ZK, ZL, ZM, ZN, ZO, ZP, ZQ, ZR, ZS, Option.some.injEq, exists_eq_left', ZT, ZU, ZV, ZW, ZX, ZY, true_and, and_true, true_or, or_true, false_or, or_false, ite_true, ite_false, cond_true, cond_false, ZZ, Qa, if_true, if_false, decide_true, decide_false, Qb, Qc, Qd, Qe, Qf, Qg, Qh, Qi, Qj, Qk, Ql, Qm, Qn, Qo, Qp, rb0, rb1, rb2, rb3, rb4, tf0, tf1, tf2, tf3, tf4, e0]
      refine run_loop2 rfl (fun m e h3 => ∃ n : Nat, m = 8 - n ∧ n ≤ 8 ∧ e.at 0 = .pointer (some ⟨q, 0, none⟩) ∧ e.at 8 = .int .i64 n ∧ h3.get q = some (cellsB (rowS (s.e2 p u n)) .exact) ∧ h3.nx = h.nx ∧ ∀ b, b ≠ q → h3.get b = h.get b)
        (fun ex e h3 => ex = .exit 2 ∧ h3.get q = some (cellsB (rowS (s.exit p u)) .exact) ∧ h3.nx = h.nx ∧ ∀ b, b ≠ q → h3.get b = h.get b) ?_ 8 _ _ ?_ ?_
      · rintro m e h3 ⟨n, rfl, hn8, e0, e8, hq3, hn3, hk3⟩ Q' hQn hQx
        by_cases hc : n < 8
        · have hc1 : (n : Int) < 8 := by omega
          have wn : wrapF .i64 ((n : Int) + 1) = (n : Int) + 1 := wrapI (by omega) (by omega)
          have c0 : (rowS (s.e2 p u n))[n * 3]? = some (.int .i64 (s.st1 p ((n : Int) + 1))) := by
            rw [rowS_st hc]
            show some (Value.int .i64 (if (n : Int) + 1 ≤ (n : Int) ∧ _ then _ else _)) = _
            rw [if_neg (by omega)]
          have c1 : (rowS (s.e2 p u n))[n * 3 + 1]? = some (.int .i64 (s.pa1 p ((n : Int) + 1))) := by
            rw [rowS_pa hc]
            show some (Value.int .i64 (if (n : Int) + 1 ≤ (n : Int) ∧ _ then _ else _)) = _
            rw [if_neg (by omega)]
          have n3 : n * 3 < 24 := by omega
          have n31 : n * 3 + 1 < 24 := by omega
          have n33 : n * 3 + 3 ≤ 24 := by omega
          have hfin : ∀ (h4 : Heap) (e' : Env), h4.get q = some (cellsB (rowS (s.e2 p u (n + 1))) .exact) → h4.nx = h.nx → (∀ b, b ≠ q → h4.get b = h.get b) → e'.at 0 = .pointer (some ⟨q, 0, none⟩) → e'.at 8 = .int .i64 ((n : Int) + 1) → Q' .normal e' h4 := fun h4 e' q1 q2 q3 q4 q6 =>
            hQn _ _ _ (by omega) ⟨n + 1, rfl, by omega, q4, q6, q1, q2, q3⟩
          by_cases hz : s.st1 p ((n : Int) + 1) = 2
          · by_cases hpe : s.pa1 p ((n : Int) + 1) = 0
            · have hset := e2_yes (u := u) hc (decide_eq_true ⟨hz, hpe⟩)
              simp (disch := (first | omega | rfl | (simp only [Heap.nx_upd, Heap.nx_new]; omega))) only [↓reduceIte, reduceCtorEq, Za, Zb, Zc, Zd, Ze, Zf, Zg, Zh, Zi, Zj, Zk, Zl, Zm, Zn, Zo, Zp, Zq, Zr, Zs, Zt, Zu, Zv, gval, Zw, Zx, Zy, Zz, ZA, ZB, ZC, ZD, ZE, ZF, decide_eq_true_eq, ZG, ZH, ZI, ZJ, ZK, ZL, ZM, ZN, ZO, ZP, ZQ, ZR, ZS, Option.some.injEq, exists_eq_left', ZT, ZU, ZV, ZW, ZX, ZY, true_and, and_true, true_or, or_true, false_or, or_false, ite_true, ite_false, cond_true, cond_false, ZZ, Qa, if_true, if_false, decide_true, decide_false, Qb, Qc, Qd, Qe, Qf, Qg, Qh, Qi, Qj, Qk, Ql, Qm, Qn, Qo, Qp, rb0, rb1, rb2, rb3, rb4, tf0, tf1, tf2, tf3, tf4, Heap.get_upd_ne, Heap.get_new_ne, Heap.get_new_at, overL_one, if_pos, stX_exactN, e0, e8, hc1, hq3, c0, c1, n3, n31, n33, hl24, hz, hpe, wn, hset]
              exact hfin _ _ (Heap.get_upd_same _ _ _) (by rw [Heap.nx_upd]; exact hn3) (fun b hb => by rw [Heap.get_upd_ne _ _ hb]; exact hk3 b hb) (by simp only [↓reduceIte, reduceCtorEq, Za, Zb, Zc, Zd, Ze, Zf, Zg, Zh, Zi, Zj, Zk, Zl, Zm, Zn, Zo, Zp, Zq, Zr, Zs, Zt, Zu, Zv, gval, Zw, Zx, Zy, Zz, ZA, ZB, ZC, ZD, ZE, ZF, decide_eq_true_eq, ZG, ZH, ZI, ZJ, ZK, ZL, ZM, ZN, ZO, ZP, ZQ, ZR, ZS, Option.some.injEq, exists_eq_left', ZT, ZU, ZV, ZW, ZX, ZY, true_and, and_true, true_or, or_true, false_or, or_false, ite_true, ite_false, cond_true, cond_false, ZZ, Qa, if_true, if_false, decide_true, decide_false, Qb, Qc, Qd, Qe, Qf, Qg, Qh, Qi, Qj, Qk, Ql, Qm, Qn, Qo, Qp, rb0, rb1, rb2, rb3, rb4, tf0, tf1, tf2, tf3, tf4, e0]) (by simp only [↓reduceIte, reduceCtorEq, Za, Zb, Zc, Zd, Ze, Zf, Zg, Zh, Zi, Zj, Zk, Zl, Zm, Zn, Zo, Zp, Zq, Zr, Zs, Zt, Zu, Zv, gval, Zw, Zx, Zy, Zz, ZA, ZB, ZC, ZD, ZE, ZF, decide_eq_true_eq, ZG, ZH, ZI, ZJ, ZK, ZL, ZM, ZN, ZO, ZP, ZQ, ZR, ZS, Option.some.injEq, exists_eq_left', ZT, ZU, ZV, ZW, ZX, ZY, true_and, and_true, true_or, or_true, false_or, or_false, ite_true, ite_false, cond_true, cond_false, ZZ, Qa, if_true, if_false, decide_true, decide_false, Qb, Qc, Qd, Qe, Qf, Qg, Qh, Qi, Qj, Qk, Ql, Qm, Qn, Qo, Qp, rb0, rb1, rb2, rb3, rb4, tf0, tf1, tf2, tf3, tf4])
            · simp (disch := (first | omega | rfl | (simp only [Heap.nx_upd, Heap.nx_new]; omega))) only [↓reduceIte, reduceCtorEq, Za, Zb, Zc, Zd, Ze, Zf, Zg, Zh, Zi, Zj, Zk, Zl, Zm, Zn, Zo, Zp, Zq, Zr, Zs, Zt, Zu, Zv, gval, Zw, Zx, Zy, Zz, ZA, ZB, ZC, ZD, ZE, ZF, decide_eq_true_eq, ZG, ZH, ZI, ZJ, ZK, ZL, ZM, ZN, ZO, ZP, ZQ, ZR, ZS, Option.some.injEq, exists_eq_left', ZT, ZU, ZV, ZW, ZX, ZY, true_and, and_true, true_or, or_true, false_or, or_false, ite_true, ite_false, cond_true, cond_false, ZZ, Qa, if_true, if_false, decide_true, decide_false, Qb, Qc, Qd, Qe, Qf, Qg, Qh, Qi, Qj, Qk, Ql, Qm, Qn, Qo, Qp, rb0, rb1, rb2, rb3, rb4, tf0, tf1, tf2, tf3, tf4, Heap.get_upd_ne, Heap.get_new_ne, Heap.get_new_at, overL_one, if_pos, stX_exactN, e0, e8, hc1, hq3, c0, c1, n3, n31, hl24, hz, hpe, wn]
              exact hfin _ _ (by rw [← e2_no (fun g => hpe (of_decide_eq_true g).2)]; exact hq3) hn3 hk3 (by simp only [↓reduceIte, reduceCtorEq, Za, Zb, Zc, Zd, Ze, Zf, Zg, Zh, Zi, Zj, Zk, Zl, Zm, Zn, Zo, Zp, Zq, Zr, Zs, Zt, Zu, Zv, gval, Zw, Zx, Zy, Zz, ZA, ZB, ZC, ZD, ZE, ZF, decide_eq_true_eq, ZG, ZH, ZI, ZJ, ZK, ZL, ZM, ZN, ZO, ZP, ZQ, ZR, ZS, Option.some.injEq, exists_eq_left', ZT, ZU, ZV, ZW, ZX, ZY, true_and, and_true, true_or, or_true, false_or, or_false, ite_true, ite_false, cond_true, cond_false, ZZ, Qa, if_true, if_false, decide_true, decide_false, Qb, Qc, Qd, Qe, Qf, Qg, Qh, Qi, Qj, Qk, Ql, Qm, Qn, Qo, Qp, rb0, rb1, rb2, rb3, rb4, tf0, tf1, tf2, tf3, tf4, e0]) (by simp only [↓reduceIte, reduceCtorEq, Za, Zb, Zc, Zd, Ze, Zf, Zg, Zh, Zi, Zj, Zk, Zl, Zm, Zn, Zo, Zp, Zq, Zr, Zs, Zt, Zu, Zv, gval, Zw, Zx, Zy, Zz, ZA, ZB, ZC, ZD, ZE, ZF, decide_eq_true_eq, ZG, ZH, ZI, ZJ, ZK, ZL, ZM, ZN, ZO, ZP, ZQ, ZR, ZS, Option.some.injEq, exists_eq_left', ZT, ZU, ZV, ZW, ZX, ZY, true_and, and_true, true_or, or_true, false_or, or_false, ite_true, ite_false, cond_true, cond_false, ZZ, Qa, if_true, if_false, decide_true, decide_false, Qb, Qc, Qd, Qe, Qf, Qg, Qh, Qi, Qj, Qk, Ql, Qm, Qn, Qo, Qp, rb0, rb1, rb2, rb3, rb4, tf0, tf1, tf2, tf3, tf4])
          · simp (disch := (first | omega | rfl | (simp only [Heap.nx_upd, Heap.nx_new]; omega))) only [↓reduceIte, reduceCtorEq, Za, Zb, Zc, Zd, Ze, Zf, Zg, Zh, Zi, Zj, Zk, Zl, Zm, Zn, Zo, Zp, Zq, Zr, Zs, Zt, Zu, Zv, gval, Zw, Zx, Zy, Zz, ZA, ZB, ZC, ZD, ZE, ZF, decide_eq_true_eq, ZG, ZH, ZI, ZJ, ZK, ZL, ZM, ZN, ZO, ZP, ZQ, ZR, ZS, Option.some.injEq, exists_eq_left', ZT, ZU, ZV, ZW, ZX, ZY, true_and, and_true, true_or, or_true, false_or, or_false, ite_true, ite_false, cond_true, cond_false, ZZ, Qa, if_true, if_false, decide_true, decide_false, Qb, Qc, Qd, Qe, Qf, Qg, Qh, Qi, Qj, Qk, Ql, Qm, Qn, Qo, Qp, rb0, rb1, rb2, rb3, rb4, tf0, tf1, tf2, tf3, tf4, Heap.get_upd_ne, Heap.get_new_ne, Heap.get_new_at, overL_one, if_pos, stX_exactN, e0, e8, hc1, hq3, c0, c1, n3, n31, hl24, hz, wn]
            exact hfin _ _ (by rw [← e2_no (fun g => hz (of_decide_eq_true g).1)]; exact hq3) hn3 hk3 (by simp only [↓reduceIte, reduceCtorEq, Za, Zb, Zc, Zd, Ze, Zf, Zg, Zh, Zi, Zj, Zk, Zl, Zm, Zn, Zo, Zp, Zq, Zr, Zs, Zt, Zu, Zv, gval, Zw, Zx, Zy, Zz, ZA, ZB, ZC, ZD, ZE, ZF, decide_eq_true_eq, ZG, ZH, ZI, ZJ, ZK, ZL, ZM, ZN, ZO, ZP, ZQ, ZR, ZS, Option.some.injEq, exists_eq_left', ZT, ZU, ZV, ZW, ZX, ZY, true_and, and_true, true_or, or_true, false_or, or_false, ite_true, ite_false, cond_true, cond_false, ZZ, Qa, if_true, if_false, decide_true, decide_false, Qb, Qc, Qd, Qe, Qf, Qg, Qh, Qi, Qj, Qk, Ql, Qm, Qn, Qo, Qp, rb0, rb1, rb2, rb3, rb4, tf0, tf1, tf2, tf3, tf4, e0]) (by simp only [↓reduceIte, reduceCtorEq, Za, Zb, Zc, Zd, Ze, Zf, Zg, Zh, Zi, Zj, Zk, Zl, Zm, Zn, Zo, Zp, Zq, Zr, Zs, Zt, Zu, Zv, gval, Zw, Zx, Zy, Zz, ZA, ZB, ZC, ZD, ZE, ZF, decide_eq_true_eq, ZG, ZH, ZI, ZJ, ZK, ZL, ZM, ZN, ZO, ZP, ZQ, ZR, ZS, Option.some.injEq, exists_eq_left', ZT, ZU, ZV, ZW, ZX, ZY, true_and, and_true, true_or, or_true, false_or, or_false, ite_true, ite_false, cond_true, cond_false, ZZ, Qa, if_true, if_false, decide_true, decide_false, Qb, Qc, Qd, Qe, Qf, Qg, Qh, Qi, Qj, Qk, Ql, Qm, Qn, Qo, Qp, rb0, rb1, rb2, rb3, rb4, tf0, tf1, tf2, tf3, tf4])
        · obtain rfl : n = 8 := by omega
          simp (disch := (first | omega | rfl | (simp only [Heap.nx_upd, Heap.nx_new]; omega))) only [↓reduceIte, reduceCtorEq, Za, Zb, Zc, Zd, Ze, Zf, Zg, Zh, Zi, Zj, Zk, Zl, Zm, Zn, Zo, Zp, Zq, Zr, Zs, Zt, Zu, Zv, gval, Zw, Zx, Zy, Zz, ZA, ZB, ZC, ZD, ZE, ZF, decide_eq_true_eq, ZG, ZH, ZI, ZJ, ZK, ZL, ZM, ZN, ZO, ZP, ZQ, ZR, ZS, Option.some.injEq, exists_eq_left', ZT, ZU, ZV, ZW, ZX, ZY, true_and, and_true, true_or, or_true, false_or, or_false, ite_true, ite_false, cond_true, cond_false, ZZ, Qa, if_true, if_false, decide_true, decide_false, Qb, Qc, Qd, Qe, Qf, Qg, Qh, Qi, Qj, Qk, Ql, Qm, Qn, Qo, Qp, rb0, rb1, rb2, rb3, rb4, tf0, tf1, tf2, tf3, tf4, Heap.get_upd_ne, Heap.get_new_ne, Heap.get_new_at, overL_one, if_pos, stX_exactN, e8]
          exact hQx _ _ _ (by simp) ⟨rfl, by rw [← e2_all]; exact hq3, hn3, hk3⟩
      · refine ⟨0, rfl, by omega, ?_, ?_, hq2, hn2, hk2⟩
        · simp only [↓reduceIte, reduceCtorEq, Za, Zb, Zc, Zd, Ze, Zf, Zg, Zh, Zi, Zj, Zk, Zl, Zm, Zn, Zo, Zp, Zq, Zr, Zs, Zt, Zu, Zv, gval, Zw, Zx, Zy, Zz, ZA, ZB, ZC, ZD, ZE, ZF, decide_eq_true_eq, ZG, ZH, ZI, ZJ, ZK, ZL, ZM, ZN, ZO, ZP, ZQ, ZR, ZS, Option.some.injEq, exists_eq_left', ZT, ZU, ZV, ZW, ZX, ZY, true_and, and_true, true_or, or_true, false_or, or_false, ite_true, ite_false, cond_true, cond_false, ZZ, Qa, if_true, if_false, decide_true, decide_false, Qb, Qc, Qd, Qe, Qf, Qg, Qh, Qi, Qj, Qk, Ql, Qm, Qn, Qo, Qp, rb0, rb1, rb2, rb3, rb4, tf0, tf1, tf2, tf3, tf4, e0]
        · simp only [↓reduceIte, reduceCtorEq, Za, Zb, Zc, Zd, Ze, Zf, Zg, Zh, Zi, Zj, Zk, Zl, Zm, Zn, Zo, Zp, Zq, Zr, Zs, Zt, Zu, Zv, gval, Zw, Zx, Zy, Zz, ZA, ZB, ZC, ZD, ZE, ZF, decide_eq_true_eq, ZG, ZH, ZI, ZJ, ZK, ZL, ZM, ZN, ZO, ZP, ZQ, ZR, ZS, Option.some.injEq, exists_eq_left', ZT, ZU, ZV, ZW, ZX, ZY, true_and, and_true, true_or, or_true, false_or, or_false, ite_true, ite_false, cond_true, cond_false, ZZ, Qa, if_true, if_false, decide_true, decide_false, Qb, Qc, Qd, Qe, Qf, Qg, Qh, Qi, Qj, Qk, Ql, Qm, Qn, Qo, Qp, rb0, rb1, rb2, rb3, rb4, tf0, tf1, tf2, tf3, tf4]
      · rintro ex e h3 - ⟨rfl, hq3, hn3, hk3⟩
        simp only [↓reduceIte, reduceCtorEq, Za, Zb, Zc, Zd, Ze, Zf, Zg, Zh, Zi, Zj, Zk, Zl, Zm, Zn, Zo, Zp, Zq, Zr, Zs, Zt, Zu, Zv, gval, Zw, Zx, Zy, Zz, ZA, ZB, ZC, ZD, ZE, ZF, decide_eq_true_eq, ZG, ZH, ZI, ZJ, ZK, ZL, ZM, ZN, ZO, ZP, ZQ, ZR, ZS, Option.some.injEq, exists_eq_left', ZT, ZU, ZV, ZW, ZX, ZY, true_and, and_true, true_or, or_true, false_or, or_false, ite_true, ite_false, cond_true, cond_false, ZZ, Qa, if_true, if_false, decide_true, decide_false, Qb, Qc, Qd, Qe, Qf, Qg, Qh, Qi, Qj, Qk, Ql, Qm, Qn, Qo, Qp, rb0, rb1, rb2, rb3, rb4, tf0, tf1, tf2, tf3, tf4]
        exact hok h3 hl hq3 hn3 hk3
def PS.kid (s : PS) (p m : Int) : Prop := 1 ≤ m ∧ m < 9 ∧ s.pa m = p
def PS.dead1 (s : PS) (p n : Int) : Prop := s.kid p n ∧ s.st n = 2 ∧ ∀ m, s.kid p m → s.st m = 2 → n ≤ m
set_option maxRecDepth 100000 in
theorem rwait_spec (h0 : (sp 39).isNone = true) (h40 : (sp 40).isNone = true) (h59 : (sp 59).isNone = true) (hs : s.Ok) (hq : h.get q = some (cellsB (rowS s) .exact)) {p : Int}
    (hno : s.lives p = false → R (.ret (.tuple #[.int .i64 0, .int .i64 0, .int .i64 3, .bool false])) h)
    (hnone : s.lives p = true → (∀ m, ¬ s.kid p m) → R (.ret (.tuple #[.int .i64 0, .int .i64 0, .int .i64 10, .bool false])) h)
    (hlive : s.lives p = true → (∃ m, s.kid p m) → (∀ m, s.kid p m → s.st m ≠ 2) → R (.ret (.tuple #[.int .i64 0, .int .i64 0, .int .i64 0, .bool false])) h)
    (hok : ∀ n, s.lives p = true → s.dead1 p n → R (.ret (.tuple #[.int .i64 n, .int .i64 (s.su n), .int .i64 0, .bool true])) (h.upd q (cellsB (rowS (s.set n 0 0 0)) .exact))) :
    WF Try.prog 0 sp 39 [.pointer (some ⟨q, 0, none⟩), .int .i64 p] h R := by
  refine wf_fn (fn := Try.f39) h0 rfl (by kernel_rfl) rfl ?_
  have hl24 : (rowS s).length = 24 := rowS_len
  simp only [↓reduceIte, reduceCtorEq, Za, Zb, Zc, Zd, Ze, Zf, Zg, Zh, Zi, Zj, Zk, Zl, Zm, Zn, Zo, Zp, Zq, Zr, Zs, Zt, Zu, Zv, gval, Zw, Zx, Zy, Zz, ZA, ZB, ZC, ZD, ZE, ZF, decide_eq_true_eq, ZG, ZH, ZI, ZJ, ZK, ZL, ZM, ZN, ZO, ZP, ZQ, ZR, ZS, Option.some.injEq, exists_eq_left', ZT, ZU, ZV, ZW, ZX, ZY, true_and, and_true, true_or, or_true, false_or, or_false, ite_true, ite_false, cond_true, cond_false, ZZ, Qa, if_true, if_false, decide_true, decide_false, Qb, Qc, Qd, Qe, Qf, Qg, Qh, Qi, Qj, Qk, Ql, Qm, Qn, Qo, Qp, rb0, rb1, rb2, rb3, rb4, tf0, tf1, tf2, tf3, tf4, Try.f39]
  refine runC_of (rlives_spec h40 h59 hs hq ?_)
  cases hl : s.lives p with
  | false =>
    simp only [↓reduceIte, reduceCtorEq, Za, Zb, Zc, Zd, Ze, Zf, Zg, Zh, Zi, Zj, Zk, Zl, Zm, Zn, Zo, Zp, Zq, Zr, Zs, Zt, Zu, Zv, gval, Zw, Zx, Zy, Zz, ZA, ZB, ZC, ZD, ZE, ZF, decide_eq_true_eq, ZG, ZH, ZI, ZJ, ZK, ZL, ZM, ZN, ZO, ZP, ZQ, ZR, ZS, Option.some.injEq, exists_eq_left', ZT, ZU, ZV, ZW, ZX, ZY, true_and, and_true, true_or, or_true, false_or, or_false, ite_true, ite_false, cond_true, cond_false, ZZ, Qa, if_true, if_false, decide_true, decide_false, Qb, Qc, Qd, Qe, Qf, Qg, Qh, Qi, Qj, Qk, Ql, Qm, Qn, Qo, Qp, rb0, rb1, rb2, rb3, rb4, tf0, tf1, tf2, tf3, tf4]
    exact hno hl
  | true =>
    obtain ⟨hp1, hp9, hp⟩ := of_decide_eq_true hl
    simp only [↓reduceIte, reduceCtorEq, Za, Zb, Zc, Zd, Ze, Zf, Zg, Zh, Zi, Zj, Zk, Zl, Zm, Zn, Zo, Zp, Zq, Zr, Zs, Zt, Zu, Zv, gval, Zw, Zx, Zy, Zz, ZA, ZB, ZC, ZD, ZE, ZF, decide_eq_true_eq, ZG, ZH, ZI, ZJ, ZK, ZL, ZM, ZN, ZO, ZP, ZQ, ZR, ZS, Option.some.injEq, exists_eq_left', ZT, ZU, ZV, ZW, ZX, ZY, true_and, and_true, true_or, or_true, false_or, or_false, ite_true, ite_false, cond_true, cond_false, ZZ, Qa, if_true, if_false, decide_true, decide_false, Qb, Qc, Qd, Qe, Qf, Qg, Qh, Qi, Qj, Qk, Ql, Qm, Qn, Qo, Qp, rb0, rb1, rb2, rb3, rb4, tf0, tf1, tf2, tf3, tf4]
    refine run_loop2 rfl (fun m e h2 => ∃ (n : Nat) (some' : Bool), m = 8 - n ∧ n ≤ 8 ∧ h2 = h ∧ e.at 0 = .pointer (some ⟨q, 0, none⟩) ∧ e.at 1 = .int .i64 p ∧ e.at 8 = .bool some' ∧ e.at 9 = .int .i64 n ∧ (some' = true ↔ ∃ m, s.kid p m ∧ m ≤ n) ∧ ∀ m, s.kid p m → m ≤ n → s.st m ≠ 2)
      (fun ex e h2 => (ex = .exit 0 ∧ h2 = h ∧ ∃ some', e.at 8 = .bool some' ∧ (some' = true ↔ ∃ m, s.kid p m) ∧ ∀ m, s.kid p m → s.st m ≠ 2) ∨ (ex = .ret ∧ ∃ n, s.dead1 p n ∧ h2 = h.upd q (cellsB (rowS (s.set n 0 0 0)) .exact) ∧ e.at 4 = .int .i64 n ∧ e.at 5 = .int .i64 (s.su n) ∧ e.at 6 = .int .i64 0 ∧ e.at 7 = .bool true)) ?_ 8 _ _ ?_ ?_
    · rintro m e h2 ⟨n, some', rfl, hn8, rfl, e0, e1, e8, e9, hsm, hz2⟩ Q' hQn hQx
      by_cases hc : n < 8
      · have hc1 : (n : Int) < 8 := by omega
        have wn : wrapF .i64 ((n : Int) + 1) = (n : Int) + 1 := wrapI (by omega) (by omega)
        have c0 := rowS_st (s := s) hc
        have c1 := rowS_pa (s := s) hc
        have c2 := rowS_su (s := s) hc
        have n3 : n * 3 < 24 := by omega
        have n31 : n * 3 + 1 < 24 := by omega
        have n32 : n * 3 + 2 < 24 := by omega
        have n33 : n * 3 + 3 ≤ 24 := by omega
        have hskip : s.pa ((n : Int) + 1) ≠ p → ∀ (e' : Env), e'.at 0 = .pointer (some ⟨q, 0, none⟩) → e'.at 1 = .int .i64 p → e'.at 8 = .bool some' → e'.at 9 = .int .i64 ((n : Int) + 1) → Q' .normal e' h2 := fun hne e' q0 q1 q8 q9 => by
          have hlt : ∀ m, s.kid p m → m ≤ ((n + 1 : Nat) : Int) → m ≤ (n : Int) := fun m k1 k2 => by
            by_cases e : m = (n : Int) + 1
            · have := k1.2.2; rw [e] at this; exact absurd this hne
            · omega
          exact hQn _ _ _ (by omega) ⟨n + 1, some', rfl, by omega, rfl, q0, q1, q8, q9, hsm.trans ⟨fun ⟨m, k1, k2⟩ => ⟨m, k1, by omega⟩, fun ⟨m, k1, k2⟩ => ⟨m, k1, hlt m k1 k2⟩⟩, fun m k1 k2 => hz2 m k1 (hlt m k1 k2)⟩
        by_cases hz : s.st ((n : Int) + 1) = 0
        · have hne : s.pa ((n : Int) + 1) ≠ p := fun e => by
            have := (hs.free _ (by omega) (by omega) hz).1
            omega
          simp (disch := (first | omega | rfl | (simp only [Heap.nx_upd, Heap.nx_new]; omega))) only [↓reduceIte, reduceCtorEq, Za, Zb, Zc, Zd, Ze, Zf, Zg, Zh, Zi, Zj, Zk, Zl, Zm, Zn, Zo, Zp, Zq, Zr, Zs, Zt, Zu, Zv, gval, Zw, Zx, Zy, Zz, ZA, ZB, ZC, ZD, ZE, ZF, decide_eq_true_eq, ZG, ZH, ZI, ZJ, ZK, ZL, ZM, ZN, ZO, ZP, ZQ, ZR, ZS, Option.some.injEq, exists_eq_left', ZT, ZU, ZV, ZW, ZX, ZY, true_and, and_true, true_or, or_true, false_or, or_false, ite_true, ite_false, cond_true, cond_false, ZZ, Qa, if_true, if_false, decide_true, decide_false, Qb, Qc, Qd, Qe, Qf, Qg, Qh, Qi, Qj, Qk, Ql, Qm, Qn, Qo, Qp, rb0, rb1, rb2, rb3, rb4, tf0, tf1, tf2, tf3, tf4, Heap.get_upd_ne, Heap.get_new_ne, Heap.get_new_at, overL_one, if_pos, stX_exactN, e0, e1, e8, e9, hc1, hq, c0, c1, n3, n31, hl24, hz, wn]
          exact hskip hne _ (by simp only [↓reduceIte, reduceCtorEq, Za, Zb, Zc, Zd, Ze, Zf, Zg, Zh, Zi, Zj, Zk, Zl, Zm, Zn, Zo, Zp, Zq, Zr, Zs, Zt, Zu, Zv, gval, Zw, Zx, Zy, Zz, ZA, ZB, ZC, ZD, ZE, ZF, decide_eq_true_eq, ZG, ZH, ZI, ZJ, ZK, ZL, ZM, ZN, ZO, ZP, ZQ, ZR, ZS, Option.some.injEq, exists_eq_left', ZT, ZU, ZV, ZW, ZX, ZY, true_and, and_true, true_or, or_true, false_or, or_false, ite_true, ite_false, cond_true, cond_false, ZZ, Qa, if_true, if_false, decide_true, decide_false, Qb, Qc, Qd, Qe, Qf, Qg, Qh, Qi, Qj, Qk, Ql, Qm, Qn, Qo, Qp, rb0, rb1, rb2, rb3, rb4, tf0, tf1, tf2, tf3, tf4, e0]) (by simp only [↓reduceIte, reduceCtorEq, Za, Zb, Zc, Zd, Ze, Zf, Zg, Zh, Zi, Zj, Zk, Zl, Zm, Zn, Zo, Zp, Zq, Zr, Zs, Zt, Zu, Zv, gval, Zw, Zx, Zy, Zz, ZA, ZB, ZC, ZD, ZE, ZF, decide_eq_true_eq, ZG, ZH, ZI, ZJ, ZK, ZL, ZM, ZN, ZO, ZP, ZQ, ZR, ZS, Option.some.injEq, exists_eq_left', ZT, ZU, ZV, ZW, ZX, ZY, true_and, and_true, true_or, or_true, false_or, or_false, ite_true, ite_false, cond_true, cond_false, ZZ, Qa, if_true, if_false, decide_true, decide_false, Qb, Qc, Qd, Qe, Qf, Qg, Qh, Qi, Qj, Qk, Ql, Qm, Qn, Qo, Qp, rb0, rb1, rb2, rb3, rb4, tf0, tf1, tf2, tf3, tf4, e1]) (by simp only [↓reduceIte, reduceCtorEq, Za, Zb, Zc, Zd, Ze, Zf, Zg, Zh, Zi, Zj, Zk, Zl, Zm, Zn, Zo, Zp, Zq, Zr, Zs, Zt, Zu, Zv, gval, Zw, Zx, Zy, Zz, ZA, ZB, ZC, ZD, ZE, ZF, decide_eq_true_eq, ZG, ZH, ZI, ZJ, ZK, ZL, ZM, ZN, ZO, ZP, ZQ, ZR, ZS, Option.some.injEq, exists_eq_left', ZT, ZU, ZV, ZW, ZX, ZY, true_and, and_true, true_or, or_true, false_or, or_false, ite_true, ite_false, cond_true, cond_false, ZZ, Qa, if_true, if_false, decide_true, decide_false, Qb, Qc, Qd, Qe, Qf, Qg, Qh, Qi, Qj, Qk, Ql, Qm, Qn, Qo, Qp, rb0, rb1, rb2, rb3, rb4, tf0, tf1, tf2, tf3, tf4, e8]) (by simp only [↓reduceIte, reduceCtorEq, Za, Zb, Zc, Zd, Ze, Zf, Zg, Zh, Zi, Zj, Zk, Zl, Zm, Zn, Zo, Zp, Zq, Zr, Zs, Zt, Zu, Zv, gval, Zw, Zx, Zy, Zz, ZA, ZB, ZC, ZD, ZE, ZF, decide_eq_true_eq, ZG, ZH, ZI, ZJ, ZK, ZL, ZM, ZN, ZO, ZP, ZQ, ZR, ZS, Option.some.injEq, exists_eq_left', ZT, ZU, ZV, ZW, ZX, ZY, true_and, and_true, true_or, or_true, false_or, or_false, ite_true, ite_false, cond_true, cond_false, ZZ, Qa, if_true, if_false, decide_true, decide_false, Qb, Qc, Qd, Qe, Qf, Qg, Qh, Qi, Qj, Qk, Ql, Qm, Qn, Qo, Qp, rb0, rb1, rb2, rb3, rb4, tf0, tf1, tf2, tf3, tf4])
        · by_cases hpe : s.pa ((n : Int) + 1) = p
          · have hkid : s.kid p ((n : Int) + 1) := ⟨by omega, by omega, hpe⟩
            by_cases h22 : s.st ((n : Int) + 1) = 2
            · have hov := row_over (s := s) hc 0 0 0
              simp (disch := (first | omega | rfl | (simp only [Heap.nx_upd, Heap.nx_new]; omega))) only [↓reduceIte, reduceCtorEq, Za, Zb, Zc, Zd, Ze, Zf, Zg, Zh, Zi, Zj, Zk, Zl, Zm, Zn, Zo, Zp, Zq, Zr, Zs, Zt, Zu, Zv, gval, Zw, Zx, Zy, Zz, ZA, ZB, ZC, ZD, ZE, ZF, decide_eq_true_eq, ZG, ZH, ZI, ZJ, ZK, ZL, ZM, ZN, ZO, ZP, ZQ, ZR, ZS, Option.some.injEq, exists_eq_left', ZT, ZU, ZV, ZW, ZX, ZY, true_and, and_true, true_or, or_true, false_or, or_false, ite_true, ite_false, cond_true, cond_false, ZZ, Qa, if_true, if_false, decide_true, decide_false, Qb, Qc, Qd, Qe, Qf, Qg, Qh, Qi, Qj, Qk, Ql, Qm, Qn, Qo, Qp, rb0, rb1, rb2, rb3, rb4, tf0, tf1, tf2, tf3, tf4, Heap.get_upd_ne, Heap.get_new_ne, Heap.get_new_at, overL_one, if_pos, stX_exactN, e0, e1, e8, e9, hc1, hq, c0, c1, c2, n3, n31, n32, n33, hl24, hz, hpe, h22, hov, wn]
              refine hQx _ _ _ (by simp) (.inr ⟨rfl, (n : Int) + 1, ⟨hkid, h22, fun m k1 k2 => ?_⟩, rfl, by simp only [↓reduceIte, reduceCtorEq, Za, Zb, Zc, Zd, Ze, Zf, Zg, Zh, Zi, Zj, Zk, Zl, Zm, Zn, Zo, Zp, Zq, Zr, Zs, Zt, Zu, Zv, gval, Zw, Zx, Zy, Zz, ZA, ZB, ZC, ZD, ZE, ZF, decide_eq_true_eq, ZG, ZH, ZI, ZJ, ZK, ZL, ZM, ZN, ZO, ZP, ZQ, ZR, ZS, Option.some.injEq, exists_eq_left', ZT, ZU, ZV, ZW, ZX, ZY, true_and, and_true, true_or, or_true, false_or, or_false, ite_true, ite_false, cond_true, cond_false, ZZ, Qa, if_true, if_false, decide_true, decide_false, Qb, Qc, Qd, Qe, Qf, Qg, Qh, Qi, Qj, Qk, Ql, Qm, Qn, Qo, Qp, rb0, rb1, rb2, rb3, rb4, tf0, tf1, tf2, tf3, tf4], by simp only [↓reduceIte, reduceCtorEq, Za, Zb, Zc, Zd, Ze, Zf, Zg, Zh, Zi, Zj, Zk, Zl, Zm, Zn, Zo, Zp, Zq, Zr, Zs, Zt, Zu, Zv, gval, Zw, Zx, Zy, Zz, ZA, ZB, ZC, ZD, ZE, ZF, decide_eq_true_eq, ZG, ZH, ZI, ZJ, ZK, ZL, ZM, ZN, ZO, ZP, ZQ, ZR, ZS, Option.some.injEq, exists_eq_left', ZT, ZU, ZV, ZW, ZX, ZY, true_and, and_true, true_or, or_true, false_or, or_false, ite_true, ite_false, cond_true, cond_false, ZZ, Qa, if_true, if_false, decide_true, decide_false, Qb, Qc, Qd, Qe, Qf, Qg, Qh, Qi, Qj, Qk, Ql, Qm, Qn, Qo, Qp, rb0, rb1, rb2, rb3, rb4, tf0, tf1, tf2, tf3, tf4], by simp only [↓reduceIte, reduceCtorEq, Za, Zb, Zc, Zd, Ze, Zf, Zg, Zh, Zi, Zj, Zk, Zl, Zm, Zn, Zo, Zp, Zq, Zr, Zs, Zt, Zu, Zv, gval, Zw, Zx, Zy, Zz, ZA, ZB, ZC, ZD, ZE, ZF, decide_eq_true_eq, ZG, ZH, ZI, ZJ, ZK, ZL, ZM, ZN, ZO, ZP, ZQ, ZR, ZS, Option.some.injEq, exists_eq_left', ZT, ZU, ZV, ZW, ZX, ZY, true_and, and_true, true_or, or_true, false_or, or_false, ite_true, ite_false, cond_true, cond_false, ZZ, Qa, if_true, if_false, decide_true, decide_false, Qb, Qc, Qd, Qe, Qf, Qg, Qh, Qi, Qj, Qk, Ql, Qm, Qn, Qo, Qp, rb0, rb1, rb2, rb3, rb4, tf0, tf1, tf2, tf3, tf4], by simp only [↓reduceIte, reduceCtorEq, Za, Zb, Zc, Zd, Ze, Zf, Zg, Zh, Zi, Zj, Zk, Zl, Zm, Zn, Zo, Zp, Zq, Zr, Zs, Zt, Zu, Zv, gval, Zw, Zx, Zy, Zz, ZA, ZB, ZC, ZD, ZE, ZF, decide_eq_true_eq, ZG, ZH, ZI, ZJ, ZK, ZL, ZM, ZN, ZO, ZP, ZQ, ZR, ZS, Option.some.injEq, exists_eq_left', ZT, ZU, ZV, ZW, ZX, ZY, true_and, and_true, true_or, or_true, false_or, or_false, ite_true, ite_false, cond_true, cond_false, ZZ, Qa, if_true, if_false, decide_true, decide_false, Qb, Qc, Qd, Qe, Qf, Qg, Qh, Qi, Qj, Qk, Ql, Qm, Qn, Qo, Qp, rb0, rb1, rb2, rb3, rb4, tf0, tf1, tf2, tf3, tf4]⟩)
              by_cases k3 : m ≤ (n : Int)
              · exact absurd k2 (hz2 m k1 k3)
              · omega
            · simp (disch := (first | omega | rfl | (simp only [Heap.nx_upd, Heap.nx_new]; omega))) only [↓reduceIte, reduceCtorEq, Za, Zb, Zc, Zd, Ze, Zf, Zg, Zh, Zi, Zj, Zk, Zl, Zm, Zn, Zo, Zp, Zq, Zr, Zs, Zt, Zu, Zv, gval, Zw, Zx, Zy, Zz, ZA, ZB, ZC, ZD, ZE, ZF, decide_eq_true_eq, ZG, ZH, ZI, ZJ, ZK, ZL, ZM, ZN, ZO, ZP, ZQ, ZR, ZS, Option.some.injEq, exists_eq_left', ZT, ZU, ZV, ZW, ZX, ZY, true_and, and_true, true_or, or_true, false_or, or_false, ite_true, ite_false, cond_true, cond_false, ZZ, Qa, if_true, if_false, decide_true, decide_false, Qb, Qc, Qd, Qe, Qf, Qg, Qh, Qi, Qj, Qk, Ql, Qm, Qn, Qo, Qp, rb0, rb1, rb2, rb3, rb4, tf0, tf1, tf2, tf3, tf4, Heap.get_upd_ne, Heap.get_new_ne, Heap.get_new_at, overL_one, if_pos, stX_exactN, e0, e1, e8, e9, hc1, hq, c0, c1, n3, n31, hl24, hz, hpe, h22, wn]
              refine hQn _ _ _ (by omega) ⟨n + 1, true, rfl, by omega, rfl, by simp only [↓reduceIte, reduceCtorEq, Za, Zb, Zc, Zd, Ze, Zf, Zg, Zh, Zi, Zj, Zk, Zl, Zm, Zn, Zo, Zp, Zq, Zr, Zs, Zt, Zu, Zv, gval, Zw, Zx, Zy, Zz, ZA, ZB, ZC, ZD, ZE, ZF, decide_eq_true_eq, ZG, ZH, ZI, ZJ, ZK, ZL, ZM, ZN, ZO, ZP, ZQ, ZR, ZS, Option.some.injEq, exists_eq_left', ZT, ZU, ZV, ZW, ZX, ZY, true_and, and_true, true_or, or_true, false_or, or_false, ite_true, ite_false, cond_true, cond_false, ZZ, Qa, if_true, if_false, decide_true, decide_false, Qb, Qc, Qd, Qe, Qf, Qg, Qh, Qi, Qj, Qk, Ql, Qm, Qn, Qo, Qp, rb0, rb1, rb2, rb3, rb4, tf0, tf1, tf2, tf3, tf4, e0], by simp only [↓reduceIte, reduceCtorEq, Za, Zb, Zc, Zd, Ze, Zf, Zg, Zh, Zi, Zj, Zk, Zl, Zm, Zn, Zo, Zp, Zq, Zr, Zs, Zt, Zu, Zv, gval, Zw, Zx, Zy, Zz, ZA, ZB, ZC, ZD, ZE, ZF, decide_eq_true_eq, ZG, ZH, ZI, ZJ, ZK, ZL, ZM, ZN, ZO, ZP, ZQ, ZR, ZS, Option.some.injEq, exists_eq_left', ZT, ZU, ZV, ZW, ZX, ZY, true_and, and_true, true_or, or_true, false_or, or_false, ite_true, ite_false, cond_true, cond_false, ZZ, Qa, if_true, if_false, decide_true, decide_false, Qb, Qc, Qd, Qe, Qf, Qg, Qh, Qi, Qj, Qk, Ql, Qm, Qn, Qo, Qp, rb0, rb1, rb2, rb3, rb4, tf0, tf1, tf2, tf3, tf4, e1], by simp only [↓reduceIte, reduceCtorEq, Za, Zb, Zc, Zd, Ze, Zf, Zg, Zh, Zi, Zj, Zk, Zl, Zm, Zn, Zo, Zp, Zq, Zr, Zs, Zt, Zu, Zv, gval, Zw, Zx, Zy, Zz, ZA, ZB, ZC, ZD, ZE, ZF, decide_eq_true_eq, ZG, ZH, ZI, ZJ, ZK, ZL, ZM, ZN, ZO, ZP, ZQ, ZR, ZS, Option.some.injEq, exists_eq_left', ZT, ZU, ZV, ZW, ZX, ZY, true_and, and_true, true_or, or_true, false_or, or_false, ite_true, ite_false, cond_true, cond_false, ZZ, Qa, if_true, if_false, decide_true, decide_false, Qb, Qc, Qd, Qe, Qf, Qg, Qh, Qi, Qj, Qk, Ql, Qm, Qn, Qo, Qp, rb0, rb1, rb2, rb3, rb4, tf0, tf1, tf2, tf3, tf4], by simp only [↓reduceIte, reduceCtorEq, Za, Zb, Zc, Zd, Ze, Zf, Zg, Zh, Zi, Zj, Zk, Zl, Zm, Zn, Zo, Zp, Zq, Zr, Zs, Zt, Zu, Zv, gval, Zw, Zx, Zy, Zz, ZA, ZB, ZC, ZD, ZE, ZF, decide_eq_true_eq, ZG, ZH, ZI, ZJ, ZK, ZL, ZM, ZN, ZO, ZP, ZQ, ZR, ZS, Option.some.injEq, exists_eq_left', ZT, ZU, ZV, ZW, ZX, ZY, true_and, and_true, true_or, or_true, false_or, or_false, ite_true, ite_false, cond_true, cond_false, ZZ, Qa, if_true, if_false, decide_true, decide_false, Qb, Qc, Qd, Qe, Qf, Qg, Qh, Qi, Qj, Qk, Ql, Qm, Qn, Qo, Qp, rb0, rb1, rb2, rb3, rb4, tf0, tf1, tf2, tf3, tf4]; rfl, ⟨fun _ => ⟨_, hkid, by omega⟩, fun _ => rfl⟩, fun m k1 k2 => ?_⟩
              by_cases e : m = (n : Int) + 1
              · rw [e]; exact h22
              · exact hz2 m k1 (by omega)
          · simp (disch := (first | omega | rfl | (simp only [Heap.nx_upd, Heap.nx_new]; omega))) only [↓reduceIte, reduceCtorEq, Za, Zb, Zc, Zd, Ze, Zf, Zg, Zh, Zi, Zj, Zk, Zl, Zm, Zn, Zo, Zp, Zq, Zr, Zs, Zt, Zu, Zv, gval, Zw, Zx, Zy, Zz, ZA, ZB, ZC, ZD, ZE, ZF, decide_eq_true_eq, ZG, ZH, ZI, ZJ, ZK, ZL, ZM, ZN, ZO, ZP, ZQ, ZR, ZS, Option.some.injEq, exists_eq_left', ZT, ZU, ZV, ZW, ZX, ZY, true_and, and_true, true_or, or_true, false_or, or_false, ite_true, ite_false, cond_true, cond_false, ZZ, Qa, if_true, if_false, decide_true, decide_false, Qb, Qc, Qd, Qe, Qf, Qg, Qh, Qi, Qj, Qk, Ql, Qm, Qn, Qo, Qp, rb0, rb1, rb2, rb3, rb4, tf0, tf1, tf2, tf3, tf4, Heap.get_upd_ne, Heap.get_new_ne, Heap.get_new_at, overL_one, if_pos, stX_exactN, e0, e1, e8, e9, hc1, hq, c0, c1, n3, n31, hl24, hz, hpe, wn]
            exact hskip hpe _ (by simp only [↓reduceIte, reduceCtorEq, Za, Zb, Zc, Zd, Ze, Zf, Zg, Zh, Zi, Zj, Zk, Zl, Zm, Zn, Zo, Zp, Zq, Zr, Zs, Zt, Zu, Zv, gval, Zw, Zx, Zy, Zz, ZA, ZB, ZC, ZD, ZE, ZF, decide_eq_true_eq, ZG, ZH, ZI, ZJ, ZK, ZL, ZM, ZN, ZO, ZP, ZQ, ZR, ZS, Option.some.injEq, exists_eq_left', ZT, ZU, ZV, ZW, ZX, ZY, true_and, and_true, true_or, or_true, false_or, or_false, ite_true, ite_false, cond_true, cond_false, ZZ, Qa, if_true, if_false, decide_true, decide_false, Qb, Qc, Qd, Qe, Qf, Qg, Qh, Qi, Qj, Qk, Ql, Qm, Qn, Qo, Qp, rb0, rb1, rb2, rb3, rb4, tf0, tf1, tf2, tf3, tf4, e0]) (by simp only [↓reduceIte, reduceCtorEq, Za, Zb, Zc, Zd, Ze, Zf, Zg, Zh, Zi, Zj, Zk, Zl, Zm, Zn, Zo, Zp, Zq, Zr, Zs, Zt, Zu, Zv, gval, Zw, Zx, Zy, Zz, ZA, ZB, ZC, ZD, ZE, ZF, decide_eq_true_eq, ZG, ZH, ZI, ZJ, ZK, ZL, ZM, ZN, ZO, ZP, ZQ, ZR, ZS, Option.some.injEq, exists_eq_left', ZT, ZU, ZV, ZW, ZX, ZY, true_and, and_true, true_or, or_true, false_or, or_false, ite_true, ite_false, cond_true, cond_false, ZZ, Qa, if_true, if_false, decide_true, decide_false, Qb, Qc, Qd, Qe, Qf, Qg, Qh, Qi, Qj, Qk, Ql, Qm, Qn, Qo, Qp, rb0, rb1, rb2, rb3, rb4, tf0, tf1, tf2, tf3, tf4, e1]) (by simp only [↓reduceIte, reduceCtorEq, Za, Zb, Zc, Zd, Ze, Zf, Zg, Zh, Zi, Zj, Zk, Zl, Zm, Zn, Zo, Zp, Zq, Zr, Zs, Zt, Zu, Zv, gval, Zw, Zx, Zy, Zz, ZA, ZB, ZC, ZD, ZE, ZF, decide_eq_true_eq, ZG, ZH, ZI, ZJ, ZK, ZL, ZM, ZN, ZO, ZP, ZQ, ZR, ZS, Option.some.injEq, exists_eq_left', ZT, ZU, ZV, ZW, ZX, ZY, true_and, and_true, true_or, or_true, false_or, or_false, ite_true, ite_false, cond_true, cond_false, ZZ, Qa, if_true, if_false, decide_true, decide_false, Qb, Qc, Qd, Qe, Qf, Qg, Qh, Qi, Qj, Qk, Ql, Qm, Qn, Qo, Qp, rb0, rb1, rb2, rb3, rb4, tf0, tf1, tf2, tf3, tf4, e8]) (by simp only [↓reduceIte, reduceCtorEq, Za, Zb, Zc, Zd, Ze, Zf, Zg, Zh, Zi, Zj, Zk, Zl, Zm, Zn, Zo, Zp, Zq, Zr, Zs, Zt, Zu, Zv, gval, Zw, Zx, Zy, Zz, ZA, ZB, ZC, ZD, ZE, ZF, decide_eq_true_eq, ZG, ZH, ZI, ZJ, ZK, ZL, ZM, ZN, ZO, ZP, ZQ, ZR, ZS, Option.some.injEq, exists_eq_left', ZT, ZU, ZV, ZW, ZX, ZY, true_and, and_true, true_or, or_true, false_or, or_false, ite_true, ite_false, cond_true, cond_false, ZZ, Qa, if_true, if_false, decide_true, decide_false, Qb, Qc, Qd, Qe, Qf, Qg, Qh, Qi, Qj, Qk, Ql, Qm, Qn, Qo, Qp, rb0, rb1, rb2, rb3, rb4, tf0, tf1, tf2, tf3, tf4])
      · obtain rfl : n = 8 := by omega
        simp (disch := (first | omega | rfl | (simp only [Heap.nx_upd, Heap.nx_new]; omega))) only [↓reduceIte, reduceCtorEq, Za, Zb, Zc, Zd, Ze, Zf, Zg, Zh, Zi, Zj, Zk, Zl, Zm, Zn, Zo, Zp, Zq, Zr, Zs, Zt, Zu, Zv, gval, Zw, Zx, Zy, Zz, ZA, ZB, ZC, ZD, ZE, ZF, decide_eq_true_eq, ZG, ZH, ZI, ZJ, ZK, ZL, ZM, ZN, ZO, ZP, ZQ, ZR, ZS, Option.some.injEq, exists_eq_left', ZT, ZU, ZV, ZW, ZX, ZY, true_and, and_true, true_or, or_true, false_or, or_false, ite_true, ite_false, cond_true, cond_false, ZZ, Qa, if_true, if_false, decide_true, decide_false, Qb, Qc, Qd, Qe, Qf, Qg, Qh, Qi, Qj, Qk, Ql, Qm, Qn, Qo, Qp, rb0, rb1, rb2, rb3, rb4, tf0, tf1, tf2, tf3, tf4, Heap.get_upd_ne, Heap.get_new_ne, Heap.get_new_at, overL_one, if_pos, stX_exactN, e9]
        exact hQx _ _ _ (by simp) (.inl ⟨rfl, rfl, some', by simp only [↓reduceIte, reduceCtorEq, Za, Zb, Zc, Zd, Ze, Zf, Zg, Zh, Zi, Zj, Zk, Zl, Zm, Zn, Zo, Zp, Zq, Zr, Zs, Zt, Zu, Zv, gval, Zw, Zx, Zy, Zz, ZA, ZB, ZC, ZD, ZE, ZF, decide_eq_true_eq, ZG, ZH, ZI, ZJ, ZK, ZL, ZM, ZN, ZO, ZP, ZQ, ZR, ZS, Option.some.injEq, exists_eq_left', ZT, ZU, ZV, ZW, ZX, ZY, true_and, and_true, true_or, or_true, false_or, or_false, ite_true, ite_false, cond_true, cond_false, ZZ, Qa, if_true, if_false, decide_true, decide_false, Qb, Qc, Qd, Qe, Qf, Qg, Qh, Qi, Qj, Qk, Ql, Qm, Qn, Qo, Qp, rb0, rb1, rb2, rb3, rb4, tf0, tf1, tf2, tf3, tf4, e8], hsm.trans ⟨fun ⟨m, k1, k2⟩ => ⟨m, k1⟩, fun ⟨m, k1⟩ => ⟨m, k1, by have := k1.2.1; omega⟩⟩, fun m k1 => hz2 m k1 (by have := k1.2.1; omega)⟩)
    · refine ⟨0, false, rfl, by omega, rfl, by simp only [↓reduceIte, reduceCtorEq, Za, Zb, Zc, Zd, Ze, Zf, Zg, Zh, Zi, Zj, Zk, Zl, Zm, Zn, Zo, Zp, Zq, Zr, Zs, Zt, Zu, Zv, gval, Zw, Zx, Zy, Zz, ZA, ZB, ZC, ZD, ZE, ZF, decide_eq_true_eq, ZG, ZH, ZI, ZJ, ZK, ZL, ZM, ZN, ZO, ZP, ZQ, ZR, ZS, Option.some.injEq, exists_eq_left', ZT, ZU, ZV, ZW, ZX, ZY, true_and, and_true, true_or, or_true, false_or, or_false, ite_true, ite_false, cond_true, cond_false, ZZ, Qa, if_true, if_false, decide_true, decide_false, Qb, Qc, Qd, Qe, Qf, Qg, Qh, Qi, Qj, Qk, Ql, Qm, Qn, Qo, Qp, rb0, rb1, rb2, rb3, rb4, tf0, tf1, tf2, tf3, tf4], by simp only [↓reduceIte, reduceCtorEq, Za, Zb, Zc, Zd, Ze, Zf, Zg, Zh, Zi, Zj, Zk, Zl, Zm, Zn, Zo, Zp, Zq, Zr, Zs, Zt, Zu, Zv, gval, Zw, Zx, Zy, Zz, ZA, ZB, ZC, ZD, ZE, ZF, decide_eq_true_eq, ZG, ZH, ZI, ZJ, ZK, ZL, ZM, ZN, ZO, ZP, ZQ, ZR, ZS, Option.some.injEq, exists_eq_left', ZT, ZU, ZV, ZW, ZX, ZY, true_and, and_true, true_or, or_true, false_or, or_false, ite_true, ite_false, cond_true, cond_false, ZZ, Qa, if_true, if_false, decide_true, decide_false, Qb, Qc, Qd, Qe, Qf, Qg, Qh, Qi, Qj, Qk, Ql, Qm, Qn, Qo, Qp, rb0, rb1, rb2, rb3, rb4, tf0, tf1, tf2, tf3, tf4], by simp only [↓reduceIte, reduceCtorEq, Za, Zb, Zc, Zd, Ze, Zf, Zg, Zh, Zi, Zj, Zk, Zl, Zm, Zn, Zo, Zp, Zq, Zr, Zs, Zt, Zu, Zv, gval, Zw, Zx, Zy, Zz, ZA, ZB, ZC, ZD, ZE, ZF, decide_eq_true_eq, ZG, ZH, ZI, ZJ, ZK, ZL, ZM, ZN, ZO, ZP, ZQ, ZR, ZS, Option.some.injEq, exists_eq_left', ZT, ZU, ZV, ZW, ZX, ZY, true_and, and_true, true_or, or_true, false_or, or_false, ite_true, ite_false, cond_true, cond_false, ZZ, Qa, if_true, if_false, decide_true, decide_false, Qb, Qc, Qd, Qe, Qf, Qg, Qh, Qi, Qj, Qk, Ql, Qm, Qn, Qo, Qp, rb0, rb1, rb2, rb3, rb4, tf0, tf1, tf2, tf3, tf4], by simp only [↓reduceIte, reduceCtorEq, Za, Zb, Zc, Zd, Ze, Zf, Zg, Zh, Zi, Zj, Zk, Zl, Zm, Zn, Zo, Zp, Zq, Zr, Zs, Zt, Zu, Zv, gval, Zw, Zx, Zy, Zz, ZA, ZB, ZC, ZD, ZE, ZF, decide_eq_true_eq, ZG, ZH, ZI, ZJ, ZK, ZL, ZM, ZN, ZO, ZP, ZQ, ZR, ZS, Option.some.injEq, exists_eq_left', ZT, ZU, ZV, ZW, ZX, ZY, true_and, and_true, true_or, or_true, false_or, or_false, ite_true, ite_false, cond_true, cond_false, ZZ, Qa, if_true, if_false, decide_true, decide_false, Qb, Qc, Qd, Qe, Qf, Qg, Qh, Qi, Qj, Qk, Ql, Qm, Qn, Qo, Qp, rb0, rb1, rb2, rb3, rb4, tf0, tf1, tf2, tf3, tf4], ⟨fun h => (by cases h), fun ⟨m, k1, k2⟩ => by have := k1.1; omega⟩, fun m k1 k2 => by have := k1.1; omega⟩
    · rintro ex e h2 - (⟨rfl, rfl, some', e8, hsm, hz2⟩ | ⟨rfl, n, hd, rfl, e4, e5, e6, e7⟩)
      · cases some' with
        | false =>
          simp only [↓reduceIte, reduceCtorEq, Za, Zb, Zc, Zd, Ze, Zf, Zg, Zh, Zi, Zj, Zk, Zl, Zm, Zn, Zo, Zp, Zq, Zr, Zs, Zt, Zu, Zv, gval, Zw, Zx, Zy, Zz, ZA, ZB, ZC, ZD, ZE, ZF, decide_eq_true_eq, ZG, ZH, ZI, ZJ, ZK, ZL, ZM, ZN, ZO, ZP, ZQ, ZR, ZS, Option.some.injEq, exists_eq_left', ZT, ZU, ZV, ZW, ZX, ZY, true_and, and_true, true_or, or_true, false_or, or_false, ite_true, ite_false, cond_true, cond_false, ZZ, Qa, if_true, if_false, decide_true, decide_false, Qb, Qc, Qd, Qe, Qf, Qg, Qh, Qi, Qj, Qk, Ql, Qm, Qn, Qo, Qp, rb0, rb1, rb2, rb3, rb4, tf0, tf1, tf2, tf3, tf4, e8]
          exact hnone hl fun m k => by have := hsm.2 ⟨m, k⟩; cases this
        | true =>
          simp only [↓reduceIte, reduceCtorEq, Za, Zb, Zc, Zd, Ze, Zf, Zg, Zh, Zi, Zj, Zk, Zl, Zm, Zn, Zo, Zp, Zq, Zr, Zs, Zt, Zu, Zv, gval, Zw, Zx, Zy, Zz, ZA, ZB, ZC, ZD, ZE, ZF, decide_eq_true_eq, ZG, ZH, ZI, ZJ, ZK, ZL, ZM, ZN, ZO, ZP, ZQ, ZR, ZS, Option.some.injEq, exists_eq_left', ZT, ZU, ZV, ZW, ZX, ZY, true_and, and_true, true_or, or_true, false_or, or_false, ite_true, ite_false, cond_true, cond_false, ZZ, Qa, if_true, if_false, decide_true, decide_false, Qb, Qc, Qd, Qe, Qf, Qg, Qh, Qi, Qj, Qk, Ql, Qm, Qn, Qo, Qp, rb0, rb1, rb2, rb3, rb4, tf0, tf1, tf2, tf3, tf4, e8]
          exact hlive hl (hsm.1 rfl) hz2
      · simp only [↓reduceIte, reduceCtorEq, Za, Zb, Zc, Zd, Ze, Zf, Zg, Zh, Zi, Zj, Zk, Zl, Zm, Zn, Zo, Zp, Zq, Zr, Zs, Zt, Zu, Zv, gval, Zw, Zx, Zy, Zz, ZA, ZB, ZC, ZD, ZE, ZF, decide_eq_true_eq, ZG, ZH, ZI, ZJ, ZK, ZL, ZM, ZN, ZO, ZP, ZQ, ZR, ZS, Option.some.injEq, exists_eq_left', ZT, ZU, ZV, ZW, ZX, ZY, true_and, and_true, true_or, or_true, false_or, or_false, ite_true, ite_false, cond_true, cond_false, ZZ, Qa, if_true, if_false, decide_true, decide_false, Qb, Qc, Qd, Qe, Qf, Qg, Qh, Qi, Qj, Qk, Ql, Qm, Qn, Qo, Qp, rb0, rb1, rb2, rb3, rb4, tf0, tf1, tf2, tf3, tf4, e4, e5, e6, e7]
        exact hok n hl hd
end Go.Proofs.Ytmmjeifdgfolmaa
end
