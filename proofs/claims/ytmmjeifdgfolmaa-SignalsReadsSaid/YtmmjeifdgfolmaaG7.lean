/- Lemmas of the claim: the machine of the proof and the walks of the program. Conditions: as each says. -/
import Derived.Test.YtmmjeifdgfolmaaG6
import Derived.Test.YtmmjeifdgfolmaaG5
import Derived.Test.YtmmjeifdgfolmaaG4
section
/- The answer's signals: Decode. Conditions: the words lie as the rule names. -/
namespace Go.Proofs.Ytmmjeifdgfolmaa
open Go.AM Go.AM.SigRead
open Nat renaming reduceBEq → Za, reduceEqDiff → Zb, reduceAdd → Zc, reduceSub → Zd, reduceMul → Ze, reduceLT → Zf, reduceLeDiff → Zg, reduceDiv → Zh, reduceMod → Zi, reducePow → Zj, blt_eq → ZF, zero_add → Qc, add_zero → Qd
open Int renaming reduceAdd → Zk, reduceSub → Zl, reduceMul → Zm, reduceLT → Zn, reduceLE → Zo, reduceEq → Zp, reduceNe → Zq, reduceNeg → Zr, reduceToNat → Zs, reduceDiv → Zt, reduceMod → Zu, reducePow → Zv, cast_ofNat_Int → Zw, toNat_natCast → Qb
open List renaming set_cons_zero → Zx, set_cons_succ → Zy, map_toArray → Zz, cons_append → ZA, nil_append → ZB, append_nil → ZC, all_cons → ZD, all_nil → ZE, getElem?_cons_zero → ZJ, getElem?_cons_succ → ZK, length_cons → ZL, length_nil → ZM, map_cons → ZN, map_nil → ZO, isEmpty_nil → Qe, any_cons → Qf, any_nil → Qg, drop_zero → Qk, drop_succ_cons → Ql, take_succ_cons → Qm, take_zero → Qn, take_nil → Qo, drop_nil → Qp
open Bool renaming and_true → ZG, true_and → ZH, and_self → ZI, not_true → ZT, not_false → ZU, true_eq_false → ZZ, false_eq_true → Qa, or_false → Qh, false_or → Qi, and_eq_true → Qj
open Option renaming map_some → ZP, map_none → ZQ, bind_some → ZR, getD_some → ZS, isNone_some → ZV, isNone_none → ZW, isSome_some → ZX, isSome_none → ZY
set_option linter.unusedSimpArgs false
variable {sp : Special} {h : Heap} {R : Out → Heap → Prop}
theorem Ro.keep {h' : Heap} {lo : Nat} {v : Value} {l : List Int} (x : Ro h lo v l) (hk : ∀ b, b < lo → h'.get b = h.get b) : Ro h' lo v l := by
  obtain ⟨a, c, e1, e2, e3⟩ := x.is
  refine ⟨a, c, e1, e2, e3.imp id ?_⟩
  rintro ⟨b', off, X, g1, g2, g3, g4, g5⟩
  exact ⟨b', off, X, g1, g2, by rw [hk b' g1]; exact g3, g4, g5⟩
theorem Ro.words {lo : Nat} {v : Value} {l : List Int} (x : Ro h lo v l) (hlo : lo ≤ h.nx) : Words h 0 v l := by
  obtain ⟨a, c, e1, e2, e3⟩ := x.is
  refine ⟨a, c, e1, e3.imp id ?_⟩
  rintro ⟨b', off, X, g1, g2, g3, g4, g5⟩
  exact ⟨b', off, X, _, by omega, g2, g3, g4, g5⟩
theorem mask_bits {p : Int} (h : 0 ≤ p) : ∃ P : Nat, mask p = P ∧ ∀ j, P.testBit j = (decide (1 ≤ j ∧ j ≤ 15) && p.toNat.testBit (j - 1 + 1)) := by
  refine ⟨p.toNat / 2 ^ 1 % 2 ^ 15 * 2 ^ 1, ?_, fun j => ?_⟩
  · unfold mask; omega
  · rw [Nat.testBit_mul_two_pow, Nat.testBit_mod_two_pow, Nat.testBit_div_two_pow]
    by_cases h1 : 1 ≤ j
    · by_cases h2 : j ≤ 15
      · have : j - 1 < 15 := by omega
        simp [h1, h2, this]
      · have : ¬ j - 1 < 15 := by omega
        simp [h1, h2, this]
    · simp [h1]
set_option maxRecDepth 100000 in
theorem rdecode_spec (h0 : (sp 49).isNone = true) (h1 : (sp 60).isNone = true) (h2 : (sp 62).isNone = true) (h3 : (sp 61).isNone = true) (h4 : (sp 35).isNone = true) {v : Value} {w : List Int} (hv : Ro h h.nx v w) (hw : ∀ y ∈ w, 0 ≤ y ∧ y < 18446744073709551616) (hl : w.length ≤ 100000000)
    (hno : ∀ h', (¬ ∃ l, runK one 8 w = some (l, [])) → h.nx ≤ h'.nx → (∀ b, b < h.nx → h'.get b = h.get b) → R (.ret (.tuple #[.pointer none, .int .i64 101])) h')
    (hok : ∀ h' b, (∃ l, runK one 8 w = some (l, [])) → h.nx ≤ h'.nx → (∀ b, b < h.nx → h'.get b = h.get b) → R (.ret (.tuple #[.pointer (some ⟨b, 0, none⟩), .int .i64 0])) h') :
    WF Try.prog 0 sp 49 [v] h R := by
  refine wf_fn (fn := Try.f49) h0 rfl (by kernel_rfl) rfl ?_
  have hw0 : ∀ y ∈ w, 0 ≤ y := fun y hy => (hw y hy).1
  simp only [↓reduceIte, reduceCtorEq, Za, Zb, Zc, Zd, Ze, Zf, Zg, Zh, Zi, Zj, Zk, Zl, Zm, Zn, Zo, Zp, Zq, Zr, Zs, Zt, Zu, Zv, gval, Zw, Zx, Zy, Zz, ZA, ZB, ZC, ZD, ZE, ZF, decide_eq_true_eq, ZG, ZH, ZI, ZJ, ZK, ZL, ZM, ZN, ZO, ZP, ZQ, ZR, ZS, Option.some.injEq, exists_eq_left', ZT, ZU, ZV, ZW, ZX, ZY, true_and, and_true, true_or, or_true, false_or, or_false, ite_true, ite_false, cond_true, cond_false, ZZ, Qa, if_true, if_false, decide_true, decide_false, Qb, Qc, Qd, Qe, Qf, Qg, Qh, Qi, Qj, Qk, Ql, Qm, Qn, Qo, Qp, rb0, rb1, rb2, rb3, rb4, tf0, tf1, tf2, tf3, tf4, Try.f49]
  refine runC_of (rnew_spec h1 h2 fun h1' b hb1 hb2 hb3 hb4 => ?_)
  simp only [↓reduceIte, reduceCtorEq, Za, Zb, Zc, Zd, Ze, Zf, Zg, Zh, Zi, Zj, Zk, Zl, Zm, Zn, Zo, Zp, Zq, Zr, Zs, Zt, Zu, Zv, gval, Zw, Zx, Zy, Zz, ZA, ZB, ZC, ZD, ZE, ZF, decide_eq_true_eq, ZG, ZH, ZI, ZJ, ZK, ZL, ZM, ZN, ZO, ZP, ZQ, ZR, ZS, Option.some.injEq, exists_eq_left', ZT, ZU, ZV, ZW, ZX, ZY, true_and, and_true, true_or, or_true, false_or, or_false, ite_true, ite_false, cond_true, cond_false, ZZ, Qa, if_true, if_false, decide_true, decide_false, Qb, Qc, Qd, Qe, Qf, Qg, Qh, Qi, Qj, Qk, Ql, Qm, Qn, Qo, Qp, rb0, rb1, rb2, rb3, rb4, tf0, tf1, tf2, tf3, tf4]
  refine run_loop2 rfl (fun n e h2 => ∃ (i : Nat) (rs : List SRec) (r : List Int) (t0 : Value) (L : List Value), n = 8 - i ∧ i ≤ 8 ∧ runK loose i w = some (rs, r) ∧ Ro h2 h.nx t0 r ∧ e.at 0 = v ∧ e.at 5 = t0 ∧ e.at 4 = .pointer (some ⟨b, 0, none⟩) ∧ e.at 6 = .int .i64 i ∧ h2.get b = some (cellsB L .exact) ∧ L.length = 264 ∧
      b < h2.nx ∧ (∀ b', b' < h.nx → h2.get b' = h.get b') ∧ (∀ k x, rs[k]? = some x → RRecAt h2 (b + 1) L k x) ∧ (∀ k, i ≤ k → k < 8 → RefAt L (k * 33) (fun _ => 18446744073709551615) (fun _ => false) false 0 (.slice none 0 0)))
    (fun ex e h2 => (ex = .exit 0 ∧ ∃ (rs : List SRec) (r : List Int) (L : List Value), runK loose 8 w = some (rs, r) ∧ e.at 0 = v ∧ e.at 4 = .pointer (some ⟨b, 0, none⟩) ∧ h2.get b = some (cellsB L .exact) ∧ L.length = 264 ∧
      b < h2.nx ∧ (∀ b', b' < h.nx → h2.get b' = h.get b') ∧ (∀ k x, rs[k]? = some x → RRecAt h2 (b + 1) L k x)) ∨
      (ex = .ret ∧ e.at 2 = .pointer none ∧ e.at 3 = .int .i64 101 ∧ (¬ ∃ l, runK one 8 w = some (l, [])) ∧ h.nx ≤ h2.nx ∧ (∀ b', b' < h.nx → h2.get b' = h.get b'))) ?_ 8 _ _ ?_ ?_
  · rintro n e h2 ⟨i, rs, r, t0, L, rfl, hi, hrun, hro, e0, e5, e4, e6, hb, hL, hbn, hk, hrec, hfr⟩ Q' hQn hQx
    by_cases hc : i < 8
    · have hc1 : (i : Int) < 8 := by omega
      have stop : loose r = none → ¬ ∃ l, runK one 8 w = some (l, []) := fun hn ⟨l, hl⟩ => by
        have := runK_loose hw0 _ _ _ hl
        rw [runK_stop hrun hn 8 hc] at this; cases this
      have hnx : h.nx ≤ h2.nx := by omega
      obtain ⟨o, ho⟩ : ∃ o, i * 33 = o := ⟨_, rfl⟩
      have hor : o + 33 ≤ 264 := by omega
      have hwi : wrapF .i64 ((i : Int) + 1) = (i : Int) + 1 := wrapI (by omega) (by omega)
      have fin : ∀ (e' : Env) (h4 : Heap) (L3 : List Value) (x : SRec) (r' : List Int) (t' : Value), e'.at 0 = v → e'.at 4 = .pointer (some ⟨b, 0, none⟩) → e'.at 5 = t' → e'.at 6 = .int .i64 ((i : Int) + 1) → loose r = some (x, r') → Ro h4 h.nx t' r' → h4.get b = some (cellsB L3 .exact) → L3.length = 264 → h2.nx ≤ h4.nx →
          (∀ b', b' < h2.nx → b' ≠ b → h4.get b' = h2.get b') → (∀ j, (j < o ∨ o + 33 ≤ j) → L3[j]? = L[j]?) → RRecAt h4 (b + 1) L3 i x → Q' .normal e' h4 := by
        intro e' h4 L3 x r' t' f0 f4 f5 f6 hlo hro' hb4 hL4 hn4 hk4 hL3 hnew
        refine hQn _ _ _ (by omega) ⟨i + 1, _, r', t', L3, rfl, by omega, runK_succ hrun hlo, hro', f0, f5, f4, f6, hb4, hL4, by omega, fun b' hb' => ?_, fun k y hy => ?_, fun k hk1 hk2 => ?_⟩
        · rw [hk4 b' (by omega) (by omega)]; exact hk b' hb'
        · rw [List.getElem?_append] at hy
          have hcnt := runK_count i hrun
          split at hy
          · rename_i hlt
            exact (hrec k y hy).of hn4 (fun b' q1 q2 => hk4 b' q2 (by omega)) (fun j q1 q2 => hL3 j (by omega))
          · have hki : k = i := by
              have := (List.getElem?_eq_some_iff.1 hy).1
              simp only [List.length_cons, List.length_nil] at this
              omega
            subst hki
            rw [hcnt, Nat.sub_self] at hy
            simp only [List.getElem?_cons_zero, Option.some.injEq] at hy
            subst hy
            exact hnew
        · exact (hfr k (by omega) hk2).of fun j q1 q2 => hL3 j (by omega)
      obtain ⟨a, c, rfl, hac, hx⟩ := hro.is
      by_cases h17 : r.length < 17
      · have h17' : (r.length : Int) < 17 := by omega
        simp (disch := (first | omega | rfl | (simp only [Heap.nx_upd, Heap.nx_new]; omega))) only [↓reduceIte, reduceCtorEq, Za, Zb, Zc, Zd, Ze, Zf, Zg, Zh, Zi, Zj, Zk, Zl, Zm, Zn, Zo, Zp, Zq, Zr, Zs, Zt, Zu, Zv, gval, Zw, Zx, Zy, Zz, ZA, ZB, ZC, ZD, ZE, ZF, decide_eq_true_eq, ZG, ZH, ZI, ZJ, ZK, ZL, ZM, ZN, ZO, ZP, ZQ, ZR, ZS, Option.some.injEq, exists_eq_left', ZT, ZU, ZV, ZW, ZX, ZY, true_and, and_true, true_or, or_true, false_or, or_false, ite_true, ite_false, cond_true, cond_false, ZZ, Qa, if_true, if_false, decide_true, decide_false, Qb, Qc, Qd, Qe, Qf, Qg, Qh, Qi, Qj, Qk, Ql, Qm, Qn, Qo, Qp, rb0, rb1, rb2, rb3, rb4, tf0, tf1, tf2, tf3, tf4, Heap.get_upd_ne, Heap.get_new_ne, Heap.get_new_at, overL_one, if_pos, stX_exactN, e0, e4, e5, e6, hc1, h17']
        exact hQx _ _ _ (by simp) (.inr ⟨rfl, by simp only [↓reduceIte, reduceCtorEq, Za, Zb, Zc, Zd, Ze, Zf, Zg, Zh, Zi, Zj, Zk, Zl, Zm, Zn, Zo, Zp, Zq, Zr, Zs, Zt, Zu, Zv, gval, Zw, Zx, Zy, Zz, ZA, ZB, ZC, ZD, ZE, ZF, decide_eq_true_eq, ZG, ZH, ZI, ZJ, ZK, ZL, ZM, ZN, ZO, ZP, ZQ, ZR, ZS, Option.some.injEq, exists_eq_left', ZT, ZU, ZV, ZW, ZX, ZY, true_and, and_true, true_or, or_true, false_or, or_false, ite_true, ite_false, cond_true, cond_false, ZZ, Qa, if_true, if_false, decide_true, decide_false, Qb, Qc, Qd, Qe, Qf, Qg, Qh, Qi, Qj, Qk, Ql, Qm, Qn, Qo, Qp, rb0, rb1, rb2, rb3, rb4, tf0, tf1, tf2, tf3, tf4], by simp only [↓reduceIte, reduceCtorEq, Za, Zb, Zc, Zd, Ze, Zf, Zg, Zh, Zi, Zj, Zk, Zl, Zm, Zn, Zo, Zp, Zq, Zr, Zs, Zt, Zu, Zv, gval, Zw, Zx, Zy, Zz, ZA, ZB, ZC, ZD, ZE, ZF, decide_eq_true_eq, ZG, ZH, ZI, ZJ, ZK, ZL, ZM, ZN, ZO, ZP, ZQ, ZR, ZS, Option.some.injEq, exists_eq_left', ZT, ZU, ZV, ZW, ZX, ZY, true_and, and_true, true_or, or_true, false_or, or_false, ite_true, ite_false, cond_true, cond_false, ZZ, Qa, if_true, if_false, decide_true, decide_false, Qb, Qc, Qd, Qe, Qf, Qg, Qh, Qi, Qj, Qk, Ql, Qm, Qn, Qo, Qp, rb0, rb1, rb2, rb3, rb4, tf0, tf1, tf2, tf3, tf4], stop (by unfold loose; rw [if_pos h17]), hnx, hk⟩)
      · have h17' : ¬ (r.length : Int) < 17 := by omega
        rcases hx with hx | ⟨bw, off, X, hbw, rfl, hX, hXl, hXi⟩
        · omega
        have hXr : ∀ k, k < r.length → X[off + k]? = some (.int .u64 r[k]!) := fun k hk => by
          rw [hXi k hk, List.getElem?_eq_getElem hk, getElem!_pos r k hk]; rfl
        have hrw : ∀ y ∈ r, 0 ≤ y ∧ y < 18446744073709551616 := fun y hy => by
          obtain ⟨cc, q1, q2⟩ := runK_len hw0 _ _ _ hrun
          exact hw y (by rw [q1]; simp [hy])
        have hrn : ∀ k, k < r.length → 0 ≤ r[k]! ∧ r[k]! < 18446744073709551616 := fun k hk => by
          rw [getElem!_pos r k hk]; exact hrw _ (List.getElem_mem _)
        have hbb : bw ≠ b := by omega
        simp (disch := (first | omega | rfl | (simp only [Heap.nx_upd, Heap.nx_new]; omega))) only [↓reduceIte, reduceCtorEq, Za, Zb, Zc, Zd, Ze, Zf, Zg, Zh, Zi, Zj, Zk, Zl, Zm, Zn, Zo, Zp, Zq, Zr, Zs, Zt, Zu, Zv, gval, Zw, Zx, Zy, Zz, ZA, ZB, ZC, ZD, ZE, ZF, decide_eq_true_eq, ZG, ZH, ZI, ZJ, ZK, ZL, ZM, ZN, ZO, ZP, ZQ, ZR, ZS, Option.some.injEq, exists_eq_left', ZT, ZU, ZV, ZW, ZX, ZY, true_and, and_true, true_or, or_true, false_or, or_false, ite_true, ite_false, cond_true, cond_false, ZZ, Qa, if_true, if_false, decide_true, decide_false, Qb, Qc, Qd, Qe, Qf, Qg, Qh, Qi, Qj, Qk, Ql, Qm, Qn, Qo, Qp, rb0, rb1, rb2, rb3, rb4, tf0, tf1, tf2, tf3, tf4, Heap.get_upd_ne, Heap.get_new_ne, Heap.get_new_at, overL_one, if_pos, stX_exactN, e0, e4, e5, e6, hc1, h17', ho]
        refine run_loop2 rfl (fun n e' h3 => ∃ (j : Nat) (L' : List Value), n = 15 - j ∧ j ≤ 15 ∧ e'.at 0 = v ∧ e'.at 4 = .pointer (some ⟨b, 0, none⟩) ∧ e'.at 5 = .slice (some ⟨bw, off, none⟩) r.length c ∧ e'.at 6 = .int .i64 i ∧ e'.at 7 = .pointer (some ⟨b, o, none⟩) ∧ e'.at 8 = .int .i64 j ∧
            h3.get b = some (cellsB L' .exact) ∧ L'.length = 264 ∧ (∀ k, L'[k]? = if o ≤ k ∧ k < o + j then some (.int .u64 r[k - o]!) else if o + 15 ≤ k ∧ k < o + 15 + j then some (.bool (r[15]!.toNat.testBit (k - (o + 15) + 1))) else L[k]?) ∧ h3.nx = h2.nx ∧ (∀ b', b' ≠ b → h3.get b' = h2.get b'))
          (fun ex e' h3 => ex = .exit 2 ∧ ∃ (L' : List Value), e'.at 0 = v ∧ e'.at 4 = .pointer (some ⟨b, 0, none⟩) ∧ e'.at 5 = .slice (some ⟨bw, off, none⟩) r.length c ∧ e'.at 6 = .int .i64 i ∧ e'.at 7 = .pointer (some ⟨b, o, none⟩) ∧
            h3.get b = some (cellsB L' .exact) ∧ L'.length = 264 ∧ (∀ k, L'[k]? = if o ≤ k ∧ k < o + 15 then some (.int .u64 r[k - o]!) else if o + 15 ≤ k ∧ k < o + 15 + 15 then some (.bool (r[15]!.toNat.testBit (k - (o + 15) + 1))) else L[k]?) ∧ h3.nx = h2.nx ∧ (∀ b', b' ≠ b → h3.get b' = h2.get b')) ?_ 15 _ _ ?_ ?_
        · rintro n e' h3 ⟨j, L', rfl, hj, f0, f4, f5, f6, f7, f8, hb3, hL3, hLg, hn3, hk3⟩ Q2 hQn2 hQx2
          by_cases hjc : j < 15
          · have hj1 : (j : Int) < 15 := by omega
            simp (disch := (first | omega | rfl | (simp only [Heap.nx_upd, Heap.nx_new]; omega))) only [↓reduceIte, reduceCtorEq, Za, Zb, Zc, Zd, Ze, Zf, Zg, Zh, Zi, Zj, Zk, Zl, Zm, Zn, Zo, Zp, Zq, Zr, Zs, Zt, Zu, Zv, gval, Zw, Zx, Zy, Zz, ZA, ZB, ZC, ZD, ZE, ZF, decide_eq_true_eq, ZG, ZH, ZI, ZJ, ZK, ZL, ZM, ZN, ZO, ZP, ZQ, ZR, ZS, Option.some.injEq, exists_eq_left', ZT, ZU, ZV, ZW, ZX, ZY, true_and, and_true, true_or, or_true, false_or, or_false, ite_true, ite_false, cond_true, cond_false, ZZ, Qa, if_true, if_false, decide_true, decide_false, Qb, Qc, Qd, Qe, Qf, Qg, Qh, Qi, Qj, Qk, Ql, Qm, Qn, Qo, Qp, rb0, rb1, rb2, rb3, rb4, tf0, tf1, tf2, tf3, tf4, Heap.get_upd_ne, Heap.get_new_ne, Heap.get_new_at, overL_one, if_pos, stX_exactN, f8, hj1]
            refine run_draw (ps := []) (by kernel_rfl) (by kernel_rfl) ?_
            have hX3 : h3.get bw = some (cellsB X .ro) := (hk3 bw hbb).trans hX
            have hXj := hXr j (by omega)
            have hX15 := hXr 15 (by omega)
            have hjl : j < r.length := by omega
            have hjl' : (j : Int) < (r.length : Int) := by omega
            simp (disch := (first | omega | rfl | (simp only [Heap.nx_upd, Heap.nx_new]; omega))) only [↓reduceIte, reduceCtorEq, Za, Zb, Zc, Zd, Ze, Zf, Zg, Zh, Zi, Zj, Zk, Zl, Zm, Zn, Zo, Zp, Zq, Zr, Zs, Zt, Zu, Zv, gval, Zw, Zx, Zy, Zz, ZA, ZB, ZC, ZD, ZE, ZF, decide_eq_true_eq, ZG, ZH, ZI, ZJ, ZK, ZL, ZM, ZN, ZO, ZP, ZQ, ZR, ZS, Option.some.injEq, exists_eq_left', ZT, ZU, ZV, ZW, ZX, ZY, true_and, and_true, true_or, or_true, false_or, or_false, ite_true, ite_false, cond_true, cond_false, ZZ, Qa, if_true, if_false, decide_true, decide_false, Qb, Qc, Qd, Qe, Qf, Qg, Qh, Qi, Qj, Qk, Ql, Qm, Qn, Qo, Qp, rb0, rb1, rb2, rb3, rb4, tf0, tf1, tf2, tf3, tf4, Heap.get_upd_ne, Heap.get_new_ne, Heap.get_new_at, overL_one, if_pos, stX_exactN, f5, f7, f8, hX3, hXj, hjl', hb3, hL3, Nat.mul_one]
            refine run_draw (ps := [(4, 7)]) (by kernel_rfl) (by kernel_rfl) ?_
            obtain ⟨L4, hL4⟩ : ∃ L4, L'.set (o + j) (.int .u64 r[j]!) = L4 := ⟨_, rfl⟩
            have hL4l : L4.length = 264 := by rw [← hL4, List.length_set, hL3]
            have h15r : 15 < r.length := by omega
            have h15r' : (15 : Int) < (r.length : Int) := by omega
            have hwj : wrapF .i64 ((j : Int) + 1) = (j : Int) + 1 := wrapI (by omega) (by omega)
            have hwu : wrapF .u64 ((j : Int) + 1) = (j : Int) + 1 := wrapU (by omega) (by omega)
            have h15n := hrn 15 h15r
            have hshr : r[15]!.fdiv (2 ^ (min ((j : Int) + 1).toNat IntKind.u64.bits)) = ((shrN r[15]!.toNat (j + 1) : Nat) : Int) := by
              have := shr_u64 (a := r[15]!) (s := (j : Int) + 1) h15n.1 (by omega) (by omega)
              rwa [show ((j : Int) + 1).toNat = j + 1 by omega] at this ⊢
            have hsl := shrN_le r[15]!.toNat (j + 1)
            have hand : IntKind.u64.wrap ((BitVec.ofInt IntKind.u64.bits ((shrN r[15]!.toNat (j + 1) : Nat) : Int) &&& BitVec.ofInt IntKind.u64.bits 1).toNat : Int) = ((shrN r[15]!.toNat (j + 1) &&& 1 : Nat) : Int) := by
              rw [and_u64 (by omega) (by omega) (by omega) (by omega), Int.toNat_natCast]; rfl
            have hX4 : (h3.upd b (cellsB L4 .exact)).get bw = some (cellsB X .ro) := by simp (disch := (first | omega | rfl | (simp only [Heap.nx_upd, Heap.nx_new]; omega))) only [Heap.get_upd_ne, Heap.get_new_ne, Heap.get_new_at, Heap.get_upd_same, Heap.get_new_same, Heap.nx_upd, Heap.nx_new]; exact hX3
            rw [hL4]
            simp (disch := (first | omega | rfl | (simp only [Heap.nx_upd, Heap.nx_new]; omega))) only [↓reduceIte, reduceCtorEq, Za, Zb, Zc, Zd, Ze, Zf, Zg, Zh, Zi, Zj, Zk, Zl, Zm, Zn, Zo, Zp, Zq, Zr, Zs, Zt, Zu, Zv, gval, Zw, Zx, Zy, Zz, ZA, ZB, ZC, ZD, ZE, ZF, decide_eq_true_eq, ZG, ZH, ZI, ZJ, ZK, ZL, ZM, ZN, ZO, ZP, ZQ, ZR, ZS, Option.some.injEq, exists_eq_left', ZT, ZU, ZV, ZW, ZX, ZY, true_and, and_true, true_or, or_true, false_or, or_false, ite_true, ite_false, cond_true, cond_false, ZZ, Qa, if_true, if_false, decide_true, decide_false, Qb, Qc, Qd, Qe, Qf, Qg, Qh, Qi, Qj, Qk, Ql, Qm, Qn, Qo, Qp, rb0, rb1, rb2, rb3, rb4, tf0, tf1, tf2, tf3, tf4, Heap.get_upd_ne, Heap.get_new_ne, Heap.get_new_at, overL_one, if_pos, stX_exactN, f5, f7, f8, hX4, hX15, h15r', hL4l, Nat.mul_one, hwj, hwu, hshr, hand, bit_eq]
            refine hQn2 _ _ _ (by omega) ⟨j + 1, _, rfl, by omega, ?_, ?_, ?_, ?_, ?_, ?_, Heap.get_upd_same _ _ _, by rw [List.length_set, hL4l], fun k => ?_, hn3, fun b' hb' => by rw [Heap.get_upd_ne _ _ hb']; exact hk3 b' hb'⟩
            · simp only [↓reduceIte, reduceCtorEq, Za, Zb, Zc, Zd, Ze, Zf, Zg, Zh, Zi, Zj, Zk, Zl, Zm, Zn, Zo, Zp, Zq, Zr, Zs, Zt, Zu, Zv, gval, Zw, Zx, Zy, Zz, ZA, ZB, ZC, ZD, ZE, ZF, decide_eq_true_eq, ZG, ZH, ZI, ZJ, ZK, ZL, ZM, ZN, ZO, ZP, ZQ, ZR, ZS, Option.some.injEq, exists_eq_left', ZT, ZU, ZV, ZW, ZX, ZY, true_and, and_true, true_or, or_true, false_or, or_false, ite_true, ite_false, cond_true, cond_false, ZZ, Qa, if_true, if_false, decide_true, decide_false, Qb, Qc, Qd, Qe, Qf, Qg, Qh, Qi, Qj, Qk, Ql, Qm, Qn, Qo, Qp, rb0, rb1, rb2, rb3, rb4, tf0, tf1, tf2, tf3, tf4, f0]
            · simp only [↓reduceIte, reduceCtorEq, Za, Zb, Zc, Zd, Ze, Zf, Zg, Zh, Zi, Zj, Zk, Zl, Zm, Zn, Zo, Zp, Zq, Zr, Zs, Zt, Zu, Zv, gval, Zw, Zx, Zy, Zz, ZA, ZB, ZC, ZD, ZE, ZF, decide_eq_true_eq, ZG, ZH, ZI, ZJ, ZK, ZL, ZM, ZN, ZO, ZP, ZQ, ZR, ZS, Option.some.injEq, exists_eq_left', ZT, ZU, ZV, ZW, ZX, ZY, true_and, and_true, true_or, or_true, false_or, or_false, ite_true, ite_false, cond_true, cond_false, ZZ, Qa, if_true, if_false, decide_true, decide_false, Qb, Qc, Qd, Qe, Qf, Qg, Qh, Qi, Qj, Qk, Ql, Qm, Qn, Qo, Qp, rb0, rb1, rb2, rb3, rb4, tf0, tf1, tf2, tf3, tf4, f4]
            · simp only [↓reduceIte, reduceCtorEq, Za, Zb, Zc, Zd, Ze, Zf, Zg, Zh, Zi, Zj, Zk, Zl, Zm, Zn, Zo, Zp, Zq, Zr, Zs, Zt, Zu, Zv, gval, Zw, Zx, Zy, Zz, ZA, ZB, ZC, ZD, ZE, ZF, decide_eq_true_eq, ZG, ZH, ZI, ZJ, ZK, ZL, ZM, ZN, ZO, ZP, ZQ, ZR, ZS, Option.some.injEq, exists_eq_left', ZT, ZU, ZV, ZW, ZX, ZY, true_and, and_true, true_or, or_true, false_or, or_false, ite_true, ite_false, cond_true, cond_false, ZZ, Qa, if_true, if_false, decide_true, decide_false, Qb, Qc, Qd, Qe, Qf, Qg, Qh, Qi, Qj, Qk, Ql, Qm, Qn, Qo, Qp, rb0, rb1, rb2, rb3, rb4, tf0, tf1, tf2, tf3, tf4, f5]
            · simp only [↓reduceIte, reduceCtorEq, Za, Zb, Zc, Zd, Ze, Zf, Zg, Zh, Zi, Zj, Zk, Zl, Zm, Zn, Zo, Zp, Zq, Zr, Zs, Zt, Zu, Zv, gval, Zw, Zx, Zy, Zz, ZA, ZB, ZC, ZD, ZE, ZF, decide_eq_true_eq, ZG, ZH, ZI, ZJ, ZK, ZL, ZM, ZN, ZO, ZP, ZQ, ZR, ZS, Option.some.injEq, exists_eq_left', ZT, ZU, ZV, ZW, ZX, ZY, true_and, and_true, true_or, or_true, false_or, or_false, ite_true, ite_false, cond_true, cond_false, ZZ, Qa, if_true, if_false, decide_true, decide_false, Qb, Qc, Qd, Qe, Qf, Qg, Qh, Qi, Qj, Qk, Ql, Qm, Qn, Qo, Qp, rb0, rb1, rb2, rb3, rb4, tf0, tf1, tf2, tf3, tf4, f6]
            · simp only [↓reduceIte, reduceCtorEq, Za, Zb, Zc, Zd, Ze, Zf, Zg, Zh, Zi, Zj, Zk, Zl, Zm, Zn, Zo, Zp, Zq, Zr, Zs, Zt, Zu, Zv, gval, Zw, Zx, Zy, Zz, ZA, ZB, ZC, ZD, ZE, ZF, decide_eq_true_eq, ZG, ZH, ZI, ZJ, ZK, ZL, ZM, ZN, ZO, ZP, ZQ, ZR, ZS, Option.some.injEq, exists_eq_left', ZT, ZU, ZV, ZW, ZX, ZY, true_and, and_true, true_or, or_true, false_or, or_false, ite_true, ite_false, cond_true, cond_false, ZZ, Qa, if_true, if_false, decide_true, decide_false, Qb, Qc, Qd, Qe, Qf, Qg, Qh, Qi, Qj, Qk, Ql, Qm, Qn, Qo, Qp, rb0, rb1, rb2, rb3, rb4, tf0, tf1, tf2, tf3, tf4, f7]
            · simp only [↓reduceIte, reduceCtorEq, Za, Zb, Zc, Zd, Ze, Zf, Zg, Zh, Zi, Zj, Zk, Zl, Zm, Zn, Zo, Zp, Zq, Zr, Zs, Zt, Zu, Zv, gval, Zw, Zx, Zy, Zz, ZA, ZB, ZC, ZD, ZE, ZF, decide_eq_true_eq, ZG, ZH, ZI, ZJ, ZK, ZL, ZM, ZN, ZO, ZP, ZQ, ZR, ZS, Option.some.injEq, exists_eq_left', ZT, ZU, ZV, ZW, ZX, ZY, true_and, and_true, true_or, or_true, false_or, or_false, ite_true, ite_false, cond_true, cond_false, ZZ, Qa, if_true, if_false, decide_true, decide_false, Qb, Qc, Qd, Qe, Qf, Qg, Qh, Qi, Qj, Qk, Ql, Qm, Qn, Qo, Qp, rb0, rb1, rb2, rb3, rb4, tf0, tf1, tf2, tf3, tf4]
              rfl
            · rw [set_get (by omega), ← hL4, set_get (by omega), hLg]
              by_cases z1 : k = o + 15 + j
              · subst z1
                rw [if_pos rfl, if_neg (by omega), if_pos (by omega), show o + 15 + j - (o + 15) + 1 = j + 1 by omega]
              · rw [if_neg z1]
                by_cases z2 : k = o + j
                · subst z2
                  rw [if_pos rfl, if_pos (by omega), show o + j - o = j by omega]
                · rw [if_neg z2]
                  by_cases z3 : o ≤ k ∧ k < o + j
                  · rw [if_pos z3, if_pos (by omega)]
                  · rw [if_neg z3]
                    have z5 : ¬ (o ≤ k ∧ k < o + (j + 1)) := by omega
                    by_cases z4 : o + 15 ≤ k ∧ k < o + 15 + j
                    · have z6 : o + 15 ≤ k ∧ k < o + 15 + (j + 1) := by omega
                      rw [if_pos z4, if_neg z5, if_pos z6]
                    · have z6 : ¬ (o + 15 ≤ k ∧ k < o + 15 + (j + 1)) := by omega
                      rw [if_neg z4, if_neg z5, if_neg z6]
          · obtain rfl : j = 15 := by omega
            simp (disch := (first | omega | rfl | (simp only [Heap.nx_upd, Heap.nx_new]; omega))) only [↓reduceIte, reduceCtorEq, Za, Zb, Zc, Zd, Ze, Zf, Zg, Zh, Zi, Zj, Zk, Zl, Zm, Zn, Zo, Zp, Zq, Zr, Zs, Zt, Zu, Zv, gval, Zw, Zx, Zy, Zz, ZA, ZB, ZC, ZD, ZE, ZF, decide_eq_true_eq, ZG, ZH, ZI, ZJ, ZK, ZL, ZM, ZN, ZO, ZP, ZQ, ZR, ZS, Option.some.injEq, exists_eq_left', ZT, ZU, ZV, ZW, ZX, ZY, true_and, and_true, true_or, or_true, false_or, or_false, ite_true, ite_false, cond_true, cond_false, ZZ, Qa, if_true, if_false, decide_true, decide_false, Qb, Qc, Qd, Qe, Qf, Qg, Qh, Qi, Qj, Qk, Ql, Qm, Qn, Qo, Qp, rb0, rb1, rb2, rb3, rb4, tf0, tf1, tf2, tf3, tf4, Heap.get_upd_ne, Heap.get_new_ne, Heap.get_new_at, overL_one, if_pos, stX_exactN, f8]
            exact hQx2 _ _ _ (by simp) ⟨rfl, L', by simp only [↓reduceIte, reduceCtorEq, Za, Zb, Zc, Zd, Ze, Zf, Zg, Zh, Zi, Zj, Zk, Zl, Zm, Zn, Zo, Zp, Zq, Zr, Zs, Zt, Zu, Zv, gval, Zw, Zx, Zy, Zz, ZA, ZB, ZC, ZD, ZE, ZF, decide_eq_true_eq, ZG, ZH, ZI, ZJ, ZK, ZL, ZM, ZN, ZO, ZP, ZQ, ZR, ZS, Option.some.injEq, exists_eq_left', ZT, ZU, ZV, ZW, ZX, ZY, true_and, and_true, true_or, or_true, false_or, or_false, ite_true, ite_false, cond_true, cond_false, ZZ, Qa, if_true, if_false, decide_true, decide_false, Qb, Qc, Qd, Qe, Qf, Qg, Qh, Qi, Qj, Qk, Ql, Qm, Qn, Qo, Qp, rb0, rb1, rb2, rb3, rb4, tf0, tf1, tf2, tf3, tf4, f0], by simp only [↓reduceIte, reduceCtorEq, Za, Zb, Zc, Zd, Ze, Zf, Zg, Zh, Zi, Zj, Zk, Zl, Zm, Zn, Zo, Zp, Zq, Zr, Zs, Zt, Zu, Zv, gval, Zw, Zx, Zy, Zz, ZA, ZB, ZC, ZD, ZE, ZF, decide_eq_true_eq, ZG, ZH, ZI, ZJ, ZK, ZL, ZM, ZN, ZO, ZP, ZQ, ZR, ZS, Option.some.injEq, exists_eq_left', ZT, ZU, ZV, ZW, ZX, ZY, true_and, and_true, true_or, or_true, false_or, or_false, ite_true, ite_false, cond_true, cond_false, ZZ, Qa, if_true, if_false, decide_true, decide_false, Qb, Qc, Qd, Qe, Qf, Qg, Qh, Qi, Qj, Qk, Ql, Qm, Qn, Qo, Qp, rb0, rb1, rb2, rb3, rb4, tf0, tf1, tf2, tf3, tf4, f4], by simp only [↓reduceIte, reduceCtorEq, Za, Zb, Zc, Zd, Ze, Zf, Zg, Zh, Zi, Zj, Zk, Zl, Zm, Zn, Zo, Zp, Zq, Zr, Zs, Zt, Zu, Zv, gval, Zw, Zx, Zy, Zz, ZA, ZB, ZC, ZD, ZE, ZF, decide_eq_true_eq, ZG, ZH, ZI, ZJ, ZK, ZL, ZM, ZN, ZO, ZP, ZQ, ZR, ZS, Option.some.injEq, exists_eq_left', ZT, ZU, ZV, ZW, ZX, ZY, true_and, and_true, true_or, or_true, false_or, or_false, ite_true, ite_false, cond_true, cond_false, ZZ, Qa, if_true, if_false, decide_true, decide_false, Qb, Qc, Qd, Qe, Qf, Qg, Qh, Qi, Qj, Qk, Ql, Qm, Qn, Qo, Qp, rb0, rb1, rb2, rb3, rb4, tf0, tf1, tf2, tf3, tf4, f5], by simp only [↓reduceIte, reduceCtorEq, Za, Zb, Zc, Zd, Ze, Zf, Zg, Zh, Zi, Zj, Zk, Zl, Zm, Zn, Zo, Zp, Zq, Zr, Zs, Zt, Zu, Zv, gval, Zw, Zx, Zy, Zz, ZA, ZB, ZC, ZD, ZE, ZF, decide_eq_true_eq, ZG, ZH, ZI, ZJ, ZK, ZL, ZM, ZN, ZO, ZP, ZQ, ZR, ZS, Option.some.injEq, exists_eq_left', ZT, ZU, ZV, ZW, ZX, ZY, true_and, and_true, true_or, or_true, false_or, or_false, ite_true, ite_false, cond_true, cond_false, ZZ, Qa, if_true, if_false, decide_true, decide_false, Qb, Qc, Qd, Qe, Qf, Qg, Qh, Qi, Qj, Qk, Ql, Qm, Qn, Qo, Qp, rb0, rb1, rb2, rb3, rb4, tf0, tf1, tf2, tf3, tf4, f6], by simp only [↓reduceIte, reduceCtorEq, Za, Zb, Zc, Zd, Ze, Zf, Zg, Zh, Zi, Zj, Zk, Zl, Zm, Zn, Zo, Zp, Zq, Zr, Zs, Zt, Zu, Zv, gval, Zw, Zx, Zy, Zz, ZA, ZB, ZC, ZD, ZE, ZF, decide_eq_true_eq, ZG, ZH, ZI, ZJ, ZK, ZL, ZM, ZN, ZO, ZP, ZQ, ZR, ZS, Option.some.injEq, exists_eq_left', ZT, ZU, ZV, ZW, ZX, ZY, true_and, and_true, true_or, or_true, false_or, or_false, ite_true, ite_false, cond_true, cond_false, ZZ, Qa, if_true, if_false, decide_true, decide_false, Qb, Qc, Qd, Qe, Qf, Qg, Qh, Qi, Qj, Qk, Ql, Qm, Qn, Qo, Qp, rb0, rb1, rb2, rb3, rb4, tf0, tf1, tf2, tf3, tf4, f7], hb3, hL3, hLg, hn3, hk3⟩
        · refine ⟨0, L, rfl, by omega, ?_, ?_, ?_, ?_, ?_, ?_, hb, hL, fun k => ?_, rfl, fun _ _ => rfl⟩
          · simp only [↓reduceIte, reduceCtorEq, Za, Zb, Zc, Zd, Ze, Zf, Zg, Zh, Zi, Zj, Zk, Zl, Zm, Zn, Zo, Zp, Zq, Zr, Zs, Zt, Zu, Zv, gval, Zw, Zx, Zy, Zz, ZA, ZB, ZC, ZD, ZE, ZF, decide_eq_true_eq, ZG, ZH, ZI, ZJ, ZK, ZL, ZM, ZN, ZO, ZP, ZQ, ZR, ZS, Option.some.injEq, exists_eq_left', ZT, ZU, ZV, ZW, ZX, ZY, true_and, and_true, true_or, or_true, false_or, or_false, ite_true, ite_false, cond_true, cond_false, ZZ, Qa, if_true, if_false, decide_true, decide_false, Qb, Qc, Qd, Qe, Qf, Qg, Qh, Qi, Qj, Qk, Ql, Qm, Qn, Qo, Qp, rb0, rb1, rb2, rb3, rb4, tf0, tf1, tf2, tf3, tf4, e0]
          · simp only [↓reduceIte, reduceCtorEq, Za, Zb, Zc, Zd, Ze, Zf, Zg, Zh, Zi, Zj, Zk, Zl, Zm, Zn, Zo, Zp, Zq, Zr, Zs, Zt, Zu, Zv, gval, Zw, Zx, Zy, Zz, ZA, ZB, ZC, ZD, ZE, ZF, decide_eq_true_eq, ZG, ZH, ZI, ZJ, ZK, ZL, ZM, ZN, ZO, ZP, ZQ, ZR, ZS, Option.some.injEq, exists_eq_left', ZT, ZU, ZV, ZW, ZX, ZY, true_and, and_true, true_or, or_true, false_or, or_false, ite_true, ite_false, cond_true, cond_false, ZZ, Qa, if_true, if_false, decide_true, decide_false, Qb, Qc, Qd, Qe, Qf, Qg, Qh, Qi, Qj, Qk, Ql, Qm, Qn, Qo, Qp, rb0, rb1, rb2, rb3, rb4, tf0, tf1, tf2, tf3, tf4, e4]
          · simp only [↓reduceIte, reduceCtorEq, Za, Zb, Zc, Zd, Ze, Zf, Zg, Zh, Zi, Zj, Zk, Zl, Zm, Zn, Zo, Zp, Zq, Zr, Zs, Zt, Zu, Zv, gval, Zw, Zx, Zy, Zz, ZA, ZB, ZC, ZD, ZE, ZF, decide_eq_true_eq, ZG, ZH, ZI, ZJ, ZK, ZL, ZM, ZN, ZO, ZP, ZQ, ZR, ZS, Option.some.injEq, exists_eq_left', ZT, ZU, ZV, ZW, ZX, ZY, true_and, and_true, true_or, or_true, false_or, or_false, ite_true, ite_false, cond_true, cond_false, ZZ, Qa, if_true, if_false, decide_true, decide_false, Qb, Qc, Qd, Qe, Qf, Qg, Qh, Qi, Qj, Qk, Ql, Qm, Qn, Qo, Qp, rb0, rb1, rb2, rb3, rb4, tf0, tf1, tf2, tf3, tf4, e5]
          · simp only [↓reduceIte, reduceCtorEq, Za, Zb, Zc, Zd, Ze, Zf, Zg, Zh, Zi, Zj, Zk, Zl, Zm, Zn, Zo, Zp, Zq, Zr, Zs, Zt, Zu, Zv, gval, Zw, Zx, Zy, Zz, ZA, ZB, ZC, ZD, ZE, ZF, decide_eq_true_eq, ZG, ZH, ZI, ZJ, ZK, ZL, ZM, ZN, ZO, ZP, ZQ, ZR, ZS, Option.some.injEq, exists_eq_left', ZT, ZU, ZV, ZW, ZX, ZY, true_and, and_true, true_or, or_true, false_or, or_false, ite_true, ite_false, cond_true, cond_false, ZZ, Qa, if_true, if_false, decide_true, decide_false, Qb, Qc, Qd, Qe, Qf, Qg, Qh, Qi, Qj, Qk, Ql, Qm, Qn, Qo, Qp, rb0, rb1, rb2, rb3, rb4, tf0, tf1, tf2, tf3, tf4, e6]
          · simp only [↓reduceIte, reduceCtorEq, Za, Zb, Zc, Zd, Ze, Zf, Zg, Zh, Zi, Zj, Zk, Zl, Zm, Zn, Zo, Zp, Zq, Zr, Zs, Zt, Zu, Zv, gval, Zw, Zx, Zy, Zz, ZA, ZB, ZC, ZD, ZE, ZF, decide_eq_true_eq, ZG, ZH, ZI, ZJ, ZK, ZL, ZM, ZN, ZO, ZP, ZQ, ZR, ZS, Option.some.injEq, exists_eq_left', ZT, ZU, ZV, ZW, ZX, ZY, true_and, and_true, true_or, or_true, false_or, or_false, ite_true, ite_false, cond_true, cond_false, ZZ, Qa, if_true, if_false, decide_true, decide_false, Qb, Qc, Qd, Qe, Qf, Qg, Qh, Qi, Qj, Qk, Ql, Qm, Qn, Qo, Qp, rb0, rb1, rb2, rb3, rb4, tf0, tf1, tf2, tf3, tf4]
          · simp only [↓reduceIte, reduceCtorEq, Za, Zb, Zc, Zd, Ze, Zf, Zg, Zh, Zi, Zj, Zk, Zl, Zm, Zn, Zo, Zp, Zq, Zr, Zs, Zt, Zu, Zv, gval, Zw, Zx, Zy, Zz, ZA, ZB, ZC, ZD, ZE, ZF, decide_eq_true_eq, ZG, ZH, ZI, ZJ, ZK, ZL, ZM, ZN, ZO, ZP, ZQ, ZR, ZS, Option.some.injEq, exists_eq_left', ZT, ZU, ZV, ZW, ZX, ZY, true_and, and_true, true_or, or_true, false_or, or_false, ite_true, ite_false, cond_true, cond_false, ZZ, Qa, if_true, if_false, decide_true, decide_false, Qb, Qc, Qd, Qe, Qf, Qg, Qh, Qi, Qj, Qk, Ql, Qm, Qn, Qo, Qp, rb0, rb1, rb2, rb3, rb4, tf0, tf1, tf2, tf3, tf4]
          · rw [if_neg (by omega), if_neg (by omega)]
        · rintro ex e' h3 - ⟨rfl, L', f0, f4, f5, f6, f7, hb3, hL3, hLg, hn3, hk3⟩
          obtain ⟨p, hp⟩ : ∃ p, r[15]! = p := ⟨_, rfl⟩
          obtain ⟨q, hq⟩ : ∃ q, r[16]! = q := ⟨_, rfl⟩
          obtain ⟨y8, hy8⟩ : ∃ y, r[8]! = y := ⟨_, rfl⟩
          have hX3 : h3.get bw = some (cellsB X .ro) := (hk3 bw hbb).trans hX
          have hX16 : X[off + 16]? = some (.int .u64 q) := by rw [hXr 16 (by omega), hq]
          have h16' : (16 : Int) < (r.length : Int) := by omega
          have hp0 := hrn 15 (by omega)
          rw [hp] at hp0
          obtain ⟨L1, hL1⟩ : ∃ L1, L'.set (o + 30) (.bool (decide (q = 1))) = L1 := ⟨_, rfl⟩
          have hL1l : L1.length = 264 := by rw [← hL1, List.length_set, hL3]
          have hL1g : ∀ k, L1[k]? = if k = o + 30 then some (.bool (decide (q = 1))) else L'[k]? := fun k => by rw [← hL1, set_get (by omega)]
          have h8 : L1[o + 8]? = some (.int .u64 y8) := by
            rw [hL1g, if_neg (by omega), hLg, if_pos (by omega), show o + 8 - o = 8 by omega, hy8]
          have h30 : L1[o + 30]? = some (.bool (decide (q = 1))) := by rw [hL1g, if_pos rfl]
          have hx0 := hfr i (Nat.le_refl _) hc
          rw [ho] at hx0
          have hcell : ∀ (L3 : List Value), (∀ k, o ≤ k → k < o + 31 → L3[k]? = L1[k]?) → ∀ pc stk, L3[o + 31]? = some (.int .i64 pc) → L3[o + 32]? = some stk → RefAt L3 (i * 33) (fun k => r[k]!) (fun k => p.toNat.testBit (k + 1)) (decide (q = 1)) pc stk := by
            intro L3 z pc stk z1 z2
            rw [ho]
            refine ⟨fun k hk => ?_, fun k hk => ?_, ?_, z1, z2⟩
            · rw [z _ (by omega) (by omega), hL1g, if_neg (by omega), hLg, if_pos (by omega), show o + k - o = k by omega]
            · rw [z _ (by omega) (by omega), hL1g, if_neg (by omega), hLg, if_neg (by omega), if_pos (by omega), show o + 15 + k - (o + 15) + 1 = k + 1 by omega, hp]
            · rw [z _ (by omega) (by omega), h30]
          have hout : ∀ k, (k < o ∨ o + 33 ≤ k) → L1[k]? = L[k]? := fun k hk => by
            rw [hL1g, if_neg (by omega), hLg, if_neg (by omega), if_neg (by omega)]
          have h3132 : L1[o + 31]? = some (.int .i64 0) ∧ L1[o + 32]? = some (.slice none 0 0) := by
            refine ⟨?_, ?_⟩
            · rw [hL1g, if_neg (by omega), hLg, if_neg (by omega), if_neg (by omega)]; exact hx0.pc
            · rw [hL1g, if_neg (by omega), hLg, if_neg (by omega), if_neg (by omega)]; exact hx0.stk
          have hH15 : (r.take 15).length = 15 ∧ ∀ j, j < 15 → (r.take 15)[j]? = some r[j]! := by
            refine ⟨by rw [List.length_take]; omega, fun j hj => ?_⟩
            rw [List.getElem?_take, if_pos hj, List.getElem?_eq_getElem (by omega), getElem!_pos r j (by omega)]
          obtain ⟨P, hP1, hP2⟩ := mask_bits hp0.1
          have hX4 : (h3.upd b (cellsB L1 .exact)).get bw = some (cellsB X .ro) := by simp (disch := (first | omega | rfl | (simp only [Heap.nx_upd, Heap.nx_new]; omega))) only [Heap.get_upd_ne, Heap.get_new_ne, Heap.get_new_at, Heap.get_upd_same, Heap.get_new_same, Heap.nx_upd, Heap.nx_new]; exact hX3
          have hb4 : (h3.upd b (cellsB L1 .exact)).get b = some (cellsB L1 .exact) := Heap.get_upd_same _ _ _
          have hkp : ∀ b', b' < h.nx → (h3.upd b (cellsB L1 .exact)).get b' = h.get b' := fun b' hb' => by
            rw [Heap.get_upd_ne _ _ (by omega), hk3 b' (by omega)]; exact hk b' hb'
          have hloose : loose r = if y8 ≠ 18446744073709551615 then none else if q ≠ 1 then some (⟨r.take 15, mask p, false, 0, []⟩, r.drop 17) else tail (r.take 15) (mask p) (r.drop 17) := by
            unfold loose; rw [if_neg h17, hy8, hp, hq]
          have hst : ∀ e' : Env, e'.at 2 = .pointer none → e'.at 3 = .int .i64 101 → loose r = none → Q' .ret e' (h3.upd b (cellsB L1 .exact)) := fun e' z1 z2 z3 =>
            hQx _ _ _ (by simp) (.inr ⟨rfl, z1, z2, stop z3, by rw [Heap.nx_upd]; omega, hkp⟩)
          have hs17 := slS_from (k := .i64) (l := 17) (off := off) hX4 (show 17 ≤ r.length by omega) hac
          have hro1 := ro_drop (h := h3.upd b (cellsB L1 .exact)) (lo := h.nx) (n := 17) hbw hX4 hXl hXi hac (by omega)
          simp (disch := (first | omega | rfl | (simp only [Heap.nx_upd, Heap.nx_new]; omega))) only [↓reduceIte, reduceCtorEq, Za, Zb, Zc, Zd, Ze, Zf, Zg, Zh, Zi, Zj, Zk, Zl, Zm, Zn, Zo, Zp, Zq, Zr, Zs, Zt, Zu, Zv, gval, Zw, Zx, Zy, Zz, ZA, ZB, ZC, ZD, ZE, ZF, decide_eq_true_eq, ZG, ZH, ZI, ZJ, ZK, ZL, ZM, ZN, ZO, ZP, ZQ, ZR, ZS, Option.some.injEq, exists_eq_left', ZT, ZU, ZV, ZW, ZX, ZY, true_and, and_true, true_or, or_true, false_or, or_false, ite_true, ite_false, cond_true, cond_false, ZZ, Qa, if_true, if_false, decide_true, decide_false, Qb, Qc, Qd, Qe, Qf, Qg, Qh, Qi, Qj, Qk, Ql, Qm, Qn, Qo, Qp, rb0, rb1, rb2, rb3, rb4, tf0, tf1, tf2, tf3, tf4, Heap.get_upd_ne, Heap.get_new_ne, Heap.get_new_at, overL_one, if_pos, stX_exactN, f5, f7, hX3, hX16, h16', hb3, hL3, Nat.mul_one, hL1]
          rw [show (17 : Int) = ((17 : Nat) : Int) from rfl, hs17]
          by_cases c1 : y8 = 18446744073709551615
          · by_cases c2 : q = 1
            · have c2' : decide (q = 1) = true := decide_eq_true c2
              rw [c2'] at h30
              have hd : (r.drop 17).length = r.length - 17 := List.length_drop
              have hl2 : loose r = tail (r.take 15) (mask p) (r.drop 17) := by rw [hloose, if_neg (by simpa using c1), if_neg (by simpa using c2)]
              by_cases d1 : r.length - 17 < 2
              · have d1' : ((r.length - 17 : Nat) : Int) < 2 := by omega
                simp (disch := (first | omega | rfl | (simp only [Heap.nx_upd, Heap.nx_new]; omega))) only [↓reduceIte, reduceCtorEq, Za, Zb, Zc, Zd, Ze, Zf, Zg, Zh, Zi, Zj, Zk, Zl, Zm, Zn, Zo, Zp, Zq, Zr, Zs, Zt, Zu, Zv, gval, Zw, Zx, Zy, Zz, ZA, ZB, ZC, ZD, ZE, ZF, decide_eq_true_eq, ZG, ZH, ZI, ZJ, ZK, ZL, ZM, ZN, ZO, ZP, ZQ, ZR, ZS, Option.some.injEq, exists_eq_left', ZT, ZU, ZV, ZW, ZX, ZY, true_and, and_true, true_or, or_true, false_or, or_false, ite_true, ite_false, cond_true, cond_false, ZZ, Qa, if_true, if_false, decide_true, decide_false, Qb, Qc, Qd, Qe, Qf, Qg, Qh, Qi, Qj, Qk, Ql, Qm, Qn, Qo, Qp, rb0, rb1, rb2, rb3, rb4, tf0, tf1, tf2, tf3, tf4, Heap.get_upd_ne, Heap.get_new_ne, Heap.get_new_at, overL_one, if_pos, stX_exactN, f7, hb4, h8, h30, hL1l, c1, d1']
                exact hst _ (by simp only [↓reduceIte, reduceCtorEq, Za, Zb, Zc, Zd, Ze, Zf, Zg, Zh, Zi, Zj, Zk, Zl, Zm, Zn, Zo, Zp, Zq, Zr, Zs, Zt, Zu, Zv, gval, Zw, Zx, Zy, Zz, ZA, ZB, ZC, ZD, ZE, ZF, decide_eq_true_eq, ZG, ZH, ZI, ZJ, ZK, ZL, ZM, ZN, ZO, ZP, ZQ, ZR, ZS, Option.some.injEq, exists_eq_left', ZT, ZU, ZV, ZW, ZX, ZY, true_and, and_true, true_or, or_true, false_or, or_false, ite_true, ite_false, cond_true, cond_false, ZZ, Qa, if_true, if_false, decide_true, decide_false, Qb, Qc, Qd, Qe, Qf, Qg, Qh, Qi, Qj, Qk, Ql, Qm, Qn, Qo, Qp, rb0, rb1, rb2, rb3, rb4, tf0, tf1, tf2, tf3, tf4]) (by simp only [↓reduceIte, reduceCtorEq, Za, Zb, Zc, Zd, Ze, Zf, Zg, Zh, Zi, Zj, Zk, Zl, Zm, Zn, Zo, Zp, Zq, Zr, Zs, Zt, Zu, Zv, gval, Zw, Zx, Zy, Zz, ZA, ZB, ZC, ZD, ZE, ZF, decide_eq_true_eq, ZG, ZH, ZI, ZJ, ZK, ZL, ZM, ZN, ZO, ZP, ZQ, ZR, ZS, Option.some.injEq, exists_eq_left', ZT, ZU, ZV, ZW, ZX, ZY, true_and, and_true, true_or, or_true, false_or, or_false, ite_true, ite_false, cond_true, cond_false, ZZ, Qa, if_true, if_false, decide_true, decide_false, Qb, Qc, Qd, Qe, Qf, Qg, Qh, Qi, Qj, Qk, Ql, Qm, Qn, Qo, Qp, rb0, rb1, rb2, rb3, rb4, tf0, tf1, tf2, tf3, tf4]) (by rw [hl2]; unfold tail; rw [if_pos (.inl (by omega))])
              have d1' : ¬ ((r.length - 17 : Nat) : Int) < 2 := by omega
              have hc17 : ¬ c = 17 := by omega
              obtain ⟨a0, ha0⟩ : ∃ y, r[17]? = some y := ⟨_, List.getElem?_eq_getElem (by omega)⟩
              obtain ⟨a1, ha1⟩ : ∃ y, r[18]? = some y := ⟨_, List.getElem?_eq_getElem (by omega)⟩
              have hX17 : X[off + 17 + 0]? = some (.int .u64 a0) := by rw [Nat.add_assoc, hXi 17 (by omega), ha0]; rfl
              have hX17' : X[off + 17]? = some (.int .u64 a0) := hX17
              have hX18 : X[off + 17 + 1]? = some (.int .u64 a1) := by rw [Nat.add_assoc, hXi 18 (by omega), ha1]; rfl
              have d2 : 0 < r.length - 17 := by omega
              have d3 : 1 < r.length - 17 := by omega
              have hb0 := hrw a0 (List.mem_of_getElem? ha0)
              have hb1' := hrw a1 (List.mem_of_getElem? ha1)
              have g17 : (r.drop 17)[0]! = a0 := by rw [List.getElem!_eq_getElem?_getD, List.getElem?_drop, ha0]; rfl
              have g18 : (r.drop 17)[1]! = a1 := by rw [List.getElem!_eq_getElem?_getD, List.getElem?_drop, ha1]; rfl
              have htl : tail (r.take 15) (mask p) (r.drop 17) = if 1048576 < a0 ∨ 32 < a1 ∨ ((r.length - 17 : Nat) : Int) - 2 < a1 then none else some (⟨r.take 15, mask p, true, a0, ((r.drop 17).drop 2).take a1.toNat⟩, (r.drop 17).drop (2 + a1.toNat)) := by
                unfold tail
                rw [hd, g17, g18]
                by_cases z : 1048576 < a0 ∨ 32 < a1 ∨ ((r.length - 17 : Nat) : Int) - 2 < a1
                · rw [if_pos (.inr z), if_pos z]
                · rw [if_neg (by rintro (z' | z'); exact d1 z'; exact z z'), if_neg z]
              by_cases d4 : 1048576 < a0
              · simp (disch := (first | omega | rfl | (simp only [Heap.nx_upd, Heap.nx_new]; omega))) only [↓reduceIte, reduceCtorEq, Za, Zb, Zc, Zd, Ze, Zf, Zg, Zh, Zi, Zj, Zk, Zl, Zm, Zn, Zo, Zp, Zq, Zr, Zs, Zt, Zu, Zv, gval, Zw, Zx, Zy, Zz, ZA, ZB, ZC, ZD, ZE, ZF, decide_eq_true_eq, ZG, ZH, ZI, ZJ, ZK, ZL, ZM, ZN, ZO, ZP, ZQ, ZR, ZS, Option.some.injEq, exists_eq_left', ZT, ZU, ZV, ZW, ZX, ZY, true_and, and_true, true_or, or_true, false_or, or_false, ite_true, ite_false, cond_true, cond_false, ZZ, Qa, if_true, if_false, decide_true, decide_false, Qb, Qc, Qd, Qe, Qf, Qg, Qh, Qi, Qj, Qk, Ql, Qm, Qn, Qo, Qp, rb0, rb1, rb2, rb3, rb4, tf0, tf1, tf2, tf3, tf4, Heap.get_upd_ne, Heap.get_new_ne, Heap.get_new_at, overL_one, if_pos, stX_exactN, f7, hb4, h8, h30, hL1l, c1, d1', hc17, if_neg, hX4, hX17, hX17', d2, d3, d4]
                exact hst _ (by simp only [↓reduceIte, reduceCtorEq, Za, Zb, Zc, Zd, Ze, Zf, Zg, Zh, Zi, Zj, Zk, Zl, Zm, Zn, Zo, Zp, Zq, Zr, Zs, Zt, Zu, Zv, gval, Zw, Zx, Zy, Zz, ZA, ZB, ZC, ZD, ZE, ZF, decide_eq_true_eq, ZG, ZH, ZI, ZJ, ZK, ZL, ZM, ZN, ZO, ZP, ZQ, ZR, ZS, Option.some.injEq, exists_eq_left', ZT, ZU, ZV, ZW, ZX, ZY, true_and, and_true, true_or, or_true, false_or, or_false, ite_true, ite_false, cond_true, cond_false, ZZ, Qa, if_true, if_false, decide_true, decide_false, Qb, Qc, Qd, Qe, Qf, Qg, Qh, Qi, Qj, Qk, Ql, Qm, Qn, Qo, Qp, rb0, rb1, rb2, rb3, rb4, tf0, tf1, tf2, tf3, tf4]) (by simp only [↓reduceIte, reduceCtorEq, Za, Zb, Zc, Zd, Ze, Zf, Zg, Zh, Zi, Zj, Zk, Zl, Zm, Zn, Zo, Zp, Zq, Zr, Zs, Zt, Zu, Zv, gval, Zw, Zx, Zy, Zz, ZA, ZB, ZC, ZD, ZE, ZF, decide_eq_true_eq, ZG, ZH, ZI, ZJ, ZK, ZL, ZM, ZN, ZO, ZP, ZQ, ZR, ZS, Option.some.injEq, exists_eq_left', ZT, ZU, ZV, ZW, ZX, ZY, true_and, and_true, true_or, or_true, false_or, or_false, ite_true, ite_false, cond_true, cond_false, ZZ, Qa, if_true, if_false, decide_true, decide_false, Qb, Qc, Qd, Qe, Qf, Qg, Qh, Qi, Qj, Qk, Ql, Qm, Qn, Qo, Qp, rb0, rb1, rb2, rb3, rb4, tf0, tf1, tf2, tf3, tf4]) (by rw [hl2, htl, if_pos (.inl d4)])
              by_cases d5 : 32 < a1
              · simp (disch := (first | omega | rfl | (simp only [Heap.nx_upd, Heap.nx_new]; omega))) only [↓reduceIte, reduceCtorEq, Za, Zb, Zc, Zd, Ze, Zf, Zg, Zh, Zi, Zj, Zk, Zl, Zm, Zn, Zo, Zp, Zq, Zr, Zs, Zt, Zu, Zv, gval, Zw, Zx, Zy, Zz, ZA, ZB, ZC, ZD, ZE, ZF, decide_eq_true_eq, ZG, ZH, ZI, ZJ, ZK, ZL, ZM, ZN, ZO, ZP, ZQ, ZR, ZS, Option.some.injEq, exists_eq_left', ZT, ZU, ZV, ZW, ZX, ZY, true_and, and_true, true_or, or_true, false_or, or_false, ite_true, ite_false, cond_true, cond_false, ZZ, Qa, if_true, if_false, decide_true, decide_false, Qb, Qc, Qd, Qe, Qf, Qg, Qh, Qi, Qj, Qk, Ql, Qm, Qn, Qo, Qp, rb0, rb1, rb2, rb3, rb4, tf0, tf1, tf2, tf3, tf4, Heap.get_upd_ne, Heap.get_new_ne, Heap.get_new_at, overL_one, if_pos, stX_exactN, f7, hb4, h8, h30, hL1l, c1, d1', hc17, if_neg, hX4, hX17, hX17', hX18, d2, d3, d4, d5]
                exact hst _ (by simp only [↓reduceIte, reduceCtorEq, Za, Zb, Zc, Zd, Ze, Zf, Zg, Zh, Zi, Zj, Zk, Zl, Zm, Zn, Zo, Zp, Zq, Zr, Zs, Zt, Zu, Zv, gval, Zw, Zx, Zy, Zz, ZA, ZB, ZC, ZD, ZE, ZF, decide_eq_true_eq, ZG, ZH, ZI, ZJ, ZK, ZL, ZM, ZN, ZO, ZP, ZQ, ZR, ZS, Option.some.injEq, exists_eq_left', ZT, ZU, ZV, ZW, ZX, ZY, true_and, and_true, true_or, or_true, false_or, or_false, ite_true, ite_false, cond_true, cond_false, ZZ, Qa, if_true, if_false, decide_true, decide_false, Qb, Qc, Qd, Qe, Qf, Qg, Qh, Qi, Qj, Qk, Ql, Qm, Qn, Qo, Qp, rb0, rb1, rb2, rb3, rb4, tf0, tf1, tf2, tf3, tf4]) (by simp only [↓reduceIte, reduceCtorEq, Za, Zb, Zc, Zd, Ze, Zf, Zg, Zh, Zi, Zj, Zk, Zl, Zm, Zn, Zo, Zp, Zq, Zr, Zs, Zt, Zu, Zv, gval, Zw, Zx, Zy, Zz, ZA, ZB, ZC, ZD, ZE, ZF, decide_eq_true_eq, ZG, ZH, ZI, ZJ, ZK, ZL, ZM, ZN, ZO, ZP, ZQ, ZR, ZS, Option.some.injEq, exists_eq_left', ZT, ZU, ZV, ZW, ZX, ZY, true_and, and_true, true_or, or_true, false_or, or_false, ite_true, ite_false, cond_true, cond_false, ZZ, Qa, if_true, if_false, decide_true, decide_false, Qb, Qc, Qd, Qe, Qf, Qg, Qh, Qi, Qj, Qk, Ql, Qm, Qn, Qo, Qp, rb0, rb1, rb2, rb3, rb4, tf0, tf1, tf2, tf3, tf4]) (by rw [hl2, htl, if_pos (.inr (.inl d5))])
              have hrl : r.length ≤ 100000000 := by
                obtain ⟨cc, q1, q2⟩ := runK_len hw0 _ _ _ hrun
                have := congrArg List.length q1
                rw [List.length_append] at this; omega
              have hw2 : wrapF .i64 (((r.length - 17 : Nat) : Int) - 2) = ((r.length - 17 : Nat) : Int) - 2 := wrapI (by omega) (by omega)
              by_cases d6 : ((r.length - 17 : Nat) : Int) - 2 < a1
              · simp (disch := (first | omega | rfl | (simp only [Heap.nx_upd, Heap.nx_new]; omega))) only [↓reduceIte, reduceCtorEq, Za, Zb, Zc, Zd, Ze, Zf, Zg, Zh, Zi, Zj, Zk, Zl, Zm, Zn, Zo, Zp, Zq, Zr, Zs, Zt, Zu, Zv, gval, Zw, Zx, Zy, Zz, ZA, ZB, ZC, ZD, ZE, ZF, decide_eq_true_eq, ZG, ZH, ZI, ZJ, ZK, ZL, ZM, ZN, ZO, ZP, ZQ, ZR, ZS, Option.some.injEq, exists_eq_left', ZT, ZU, ZV, ZW, ZX, ZY, true_and, and_true, true_or, or_true, false_or, or_false, ite_true, ite_false, cond_true, cond_false, ZZ, Qa, if_true, if_false, decide_true, decide_false, Qb, Qc, Qd, Qe, Qf, Qg, Qh, Qi, Qj, Qk, Ql, Qm, Qn, Qo, Qp, rb0, rb1, rb2, rb3, rb4, tf0, tf1, tf2, tf3, tf4, Heap.get_upd_ne, Heap.get_new_ne, Heap.get_new_at, overL_one, if_pos, stX_exactN, f7, hb4, h8, h30, hL1l, c1, d1', hc17, if_neg, hX4, hX17, hX17', hX18, d2, d3, d4, d5, wrapI, hw2, d6]
                exact hst _ (by simp only [↓reduceIte, reduceCtorEq, Za, Zb, Zc, Zd, Ze, Zf, Zg, Zh, Zi, Zj, Zk, Zl, Zm, Zn, Zo, Zp, Zq, Zr, Zs, Zt, Zu, Zv, gval, Zw, Zx, Zy, Zz, ZA, ZB, ZC, ZD, ZE, ZF, decide_eq_true_eq, ZG, ZH, ZI, ZJ, ZK, ZL, ZM, ZN, ZO, ZP, ZQ, ZR, ZS, Option.some.injEq, exists_eq_left', ZT, ZU, ZV, ZW, ZX, ZY, true_and, and_true, true_or, or_true, false_or, or_false, ite_true, ite_false, cond_true, cond_false, ZZ, Qa, if_true, if_false, decide_true, decide_false, Qb, Qc, Qd, Qe, Qf, Qg, Qh, Qi, Qj, Qk, Ql, Qm, Qn, Qo, Qp, rb0, rb1, rb2, rb3, rb4, tf0, tf1, tf2, tf3, tf4]) (by simp only [↓reduceIte, reduceCtorEq, Za, Zb, Zc, Zd, Ze, Zf, Zg, Zh, Zi, Zj, Zk, Zl, Zm, Zn, Zo, Zp, Zq, Zr, Zs, Zt, Zu, Zv, gval, Zw, Zx, Zy, Zz, ZA, ZB, ZC, ZD, ZE, ZF, decide_eq_true_eq, ZG, ZH, ZI, ZJ, ZK, ZL, ZM, ZN, ZO, ZP, ZQ, ZR, ZS, Option.some.injEq, exists_eq_left', ZT, ZU, ZV, ZW, ZX, ZY, true_and, and_true, true_or, or_true, false_or, or_false, ite_true, ite_false, cond_true, cond_false, ZZ, Qa, if_true, if_false, decide_true, decide_false, Qb, Qc, Qd, Qe, Qf, Qg, Qh, Qi, Qj, Qk, Ql, Qm, Qn, Qo, Qp, rb0, rb1, rb2, rb3, rb4, tf0, tf1, tf2, tf3, tf4]) (by rw [hl2, htl, if_pos (.inr (.inr d6))])
              simp (disch := (first | omega | rfl | (simp only [Heap.nx_upd, Heap.nx_new]; omega))) only [↓reduceIte, reduceCtorEq, Za, Zb, Zc, Zd, Ze, Zf, Zg, Zh, Zi, Zj, Zk, Zl, Zm, Zn, Zo, Zp, Zq, Zr, Zs, Zt, Zu, Zv, gval, Zw, Zx, Zy, Zz, ZA, ZB, ZC, ZD, ZE, ZF, decide_eq_true_eq, ZG, ZH, ZI, ZJ, ZK, ZL, ZM, ZN, ZO, ZP, ZQ, ZR, ZS, Option.some.injEq, exists_eq_left', ZT, ZU, ZV, ZW, ZX, ZY, true_and, and_true, true_or, or_true, false_or, or_false, ite_true, ite_false, cond_true, cond_false, ZZ, Qa, if_true, if_false, decide_true, decide_false, Qb, Qc, Qd, Qe, Qf, Qg, Qh, Qi, Qj, Qk, Ql, Qm, Qn, Qo, Qp, rb0, rb1, rb2, rb3, rb4, tf0, tf1, tf2, tf3, tf4, Heap.get_upd_ne, Heap.get_new_ne, Heap.get_new_at, overL_one, if_pos, stX_exactN, f7, hb4, h8, h30, hL1l, c1, d1', hc17, if_neg, hX4, hX17, hX17', hX18, d2, d3, d4, d5, wrapI, hw2, d6]
              refine run_draw (ps := [(4, 7), (3, 8), (4, 8), (3, 9), (4, 9)]) (by kernel_rfl) (by kernel_rfl) ?_
              have e2a : (2 + a1 : Int) = ((2 + a1.toNat : Nat) : Int) := by omega
              have hmid : slS (some 1) (some ⟨bw, off + 17, none⟩) (r.length - 17) (c - 17) (some (.int .i64 2)) (some (.int .i64 (2 + a1))) none (h3.upd b (cellsB L1 .exact)).get = ret (.slice (some (if c - 17 = 2 then ⟨bw, off + 17, none⟩ else ⟨bw, off + 17 + 2, none⟩)) a1.toNat (c - 17 - 2)) := by
                have := slS_mid (k := .i64) (k' := .i64) (n := r.length - 17) (off := off + 17) (c := c - 17) (l := 2) (hi := 2 + a1.toNat) hX4 (by omega) (by omega)
                rw [e2a, show a1.toNat = 2 + a1.toNat - 2 by omega]
                rw [show 2 + (2 + a1.toNat - 2) = 2 + a1.toNat by omega]
                exact this
              simp (disch := (first | omega | rfl | (simp only [Heap.nx_upd, Heap.nx_new]; omega))) only [↓reduceIte, reduceCtorEq, Za, Zb, Zc, Zd, Ze, Zf, Zg, Zh, Zi, Zj, Zk, Zl, Zm, Zn, Zo, Zp, Zq, Zr, Zs, Zt, Zu, Zv, gval, Zw, Zx, Zy, Zz, ZA, ZB, ZC, ZD, ZE, ZF, decide_eq_true_eq, ZG, ZH, ZI, ZJ, ZK, ZL, ZM, ZN, ZO, ZP, ZQ, ZR, ZS, Option.some.injEq, exists_eq_left', ZT, ZU, ZV, ZW, ZX, ZY, true_and, and_true, true_or, or_true, false_or, or_false, ite_true, ite_false, cond_true, cond_false, ZZ, Qa, if_true, if_false, decide_true, decide_false, Qb, Qc, Qd, Qe, Qf, Qg, Qh, Qi, Qj, Qk, Ql, Qm, Qn, Qo, Qp, rb0, rb1, rb2, rb3, rb4, tf0, tf1, tf2, tf3, tf4, Heap.get_upd_ne, Heap.get_new_ne, Heap.get_new_at, overL_one, if_pos, stX_exactN, f7, hb4, hc17, if_neg, hX4, hX17, hX17', wrapI, hmid]
              have hstl : (((r.drop 17).drop 2).take a1.toNat).length = a1.toNat := by rw [List.length_take, List.length_drop, hd]; omega
              have hwst : Words (h3.upd b (cellsB L1 .exact)) 0 (.slice (some (if c - 17 = 2 then ⟨bw, off + 17, none⟩ else ⟨bw, off + 17 + 2, none⟩)) a1.toNat (c - 17 - 2)) (((r.drop 17).drop 2).take a1.toNat) := by
                refine ⟨_, c - 17 - 2, by rw [hstl], ?_⟩
                by_cases e : c - 17 = 2
                · left; omega
                · right
                  refine ⟨bw, off + 17 + 2, X, .ro, ⟨Nat.zero_le _, by simp (disch := (first | omega | rfl | (simp only [Heap.nx_upd, Heap.nx_new]; omega))) only [Heap.get_upd_ne, Heap.get_new_ne, Heap.get_new_at, Heap.get_upd_same, Heap.get_new_same, Heap.nx_upd, Heap.nx_new]; omega⟩, by rw [if_neg e], hX4, by omega, fun j hj => ?_⟩
                  rw [hstl] at hj
                  rw [show off + 17 + 2 + j = off + (19 + j) by omega, hXi (19 + j) (by omega), List.getElem?_take, if_pos hj, List.getElem?_drop, List.getElem?_drop, show 17 + (2 + j) = 19 + j by omega]
              obtain ⟨st, hst'⟩ : ∃ st, ((r.drop 17).drop 2).take a1.toNat = st := ⟨_, rfl⟩
              have hro2 := fun (h5 : Heap) (hX5 : h5.get bw = some (cellsB X .ro)) => ro_drop (h := h5) (lo := h.nx) (b := bw) (off := off + 17) (c := c - 17) (n := 2 + a1.toNat) (r := r.drop 17) hbw hX5 (by rw [hd]; omega) (fun j hj => by rw [hd] at hj; rw [Nat.add_assoc, hXi (17 + j) (by omega), List.getElem?_drop]) (by rw [hd]; omega) (by rw [hd]; omega)
              simp only [hd] at hro2
              have hfrm := fun (g : Nat → Option Blk) (hg : g bw = some (cellsB X .ro)) => slS_from (k := .i64) (n := r.length - 17) (off := off + 17) (c := c - 17) (l := 2 + a1.toNat) hg (by omega) (by omega)
              simp only [← e2a] at hfrm
              rw [hst'] at hwst hstl
              have hl3 : loose r = some (⟨r.take 15, mask p, true, a0, st⟩, (r.drop 17).drop (2 + a1.toNat)) := by
                rw [hl2, htl, if_neg (by rintro (h | h | h) <;> omega), hst']
              have hov2 : ∀ (s : Value) (k : Nat), (overL L1 (o + 31) [.int .i64 a0, s])[k]? = if k = o + 31 then some (.int .i64 a0) else if k = o + 32 then some s else L1[k]? := by
                intro s k
                rw [overC_get (by simp only [List.length_cons, List.length_nil]; omega)]
                simp only [List.length_cons, List.length_nil]
                by_cases z1 : k = o + 31
                · subst z1; rw [if_pos (by omega), if_pos rfl, Nat.sub_self]; rfl
                · by_cases z2 : k = o + 32
                  · subst z2; rw [if_pos (by omega), if_neg z1, if_pos rfl, show o + 32 - (o + 31) = 1 by omega]; rfl
                  · rw [if_neg (by omega), if_neg z1, if_neg z2]
              have hov3 : ∀ s : Value, (overL L1 (o + 31) [.int .i64 a0, s]).length = 264 := fun s => by
                rw [length_overC (by simp only [List.length_cons, List.length_nil]; omega), hL1l]
              rw [← hstl] at hwst ⊢
              have hw3a : wrapF .i64 (2 + a1) = 2 + a1 := wrapI (by omega) (by omega)
              by_cases hz : st.length = 0
              · rw [show aAppend Try.prog #[47, 47] (.slice none 0 0) (.slice (some (if c - 17 = 2 then ⟨bw, off + 17, none⟩ else ⟨bw, off + 17 + 2, none⟩)) st.length (c - 17 - 2)) (h3.upd b (cellsB L1 .exact)).get h3.nx = ret (.slice none 0 0) by
                  rw [hz, aAppend_unf (appT_ok app_47_47) none 0 0 0 _ _ _ rfl (by omega) (firstL_zero _ _ _ _ _)]; rfl]
                have hX5 : (h3.upd b (cellsB (overL L1 (o + 31) [.int .i64 a0, .slice none 0 0]) .exact)).get bw = some (cellsB X .ro) := by simp (disch := (first | omega | rfl | (simp only [Heap.nx_upd, Heap.nx_new]; omega))) only [Heap.get_upd_ne, Heap.get_new_ne, Heap.get_new_at, Heap.get_upd_same, Heap.get_new_same, Heap.nx_upd, Heap.nx_new]; exact hX3
                simp (disch := (first | omega | rfl | (simp only [Heap.nx_upd, Heap.nx_new]; omega))) only [↓reduceIte, reduceCtorEq, Za, Zb, Zc, Zd, Ze, Zf, Zg, Zh, Zi, Zj, Zk, Zl, Zm, Zn, Zo, Zp, Zq, Zr, Zs, Zt, Zu, Zv, gval, Zw, Zx, Zy, Zz, ZA, ZB, ZC, ZD, ZE, ZF, decide_eq_true_eq, ZG, ZH, ZI, ZJ, ZK, ZL, ZM, ZN, ZO, ZP, ZQ, ZR, ZS, Option.some.injEq, exists_eq_left', ZT, ZU, ZV, ZW, ZX, ZY, true_and, and_true, true_or, or_true, false_or, or_false, ite_true, ite_false, cond_true, cond_false, ZZ, Qa, if_true, if_false, decide_true, decide_false, Qb, Qc, Qd, Qe, Qf, Qg, Qh, Qi, Qj, Qk, Ql, Qm, Qn, Qo, Qp, rb0, rb1, rb2, rb3, rb4, tf0, tf1, tf2, tf3, tf4, Heap.get_upd_ne, Heap.get_new_ne, Heap.get_new_at, overL_one, if_pos, stX_exactN, f7, hb4, hL1l, nbeq_ne, Heap.upd_upd, hw3a, hfrm _ hX5, f6, hwi]
                refine fin _ _ (overL L1 (o + 31) [.int .i64 a0, .slice none 0 0]) ⟨r.take 15, mask p, true, a0, st⟩ ((r.drop 17).drop (2 + a1.toNat)) _ ?_ ?_ ?_ ?_ hl3 (hro2 _ hX5) (Heap.get_upd_same _ _ _) (hov3 _) (by rw [Heap.nx_upd]; omega) (fun b' z1 z2 => by rw [Heap.get_upd_ne _ _ z2]; exact hk3 b' z2)
                  (fun k hk => by rw [hov2, if_neg (by omega), if_neg (by omega)]; exact hout k hk)
                  ⟨_, _, _, c2' ▸ hcell _ (fun k z1 z2 => by rw [hov2, if_neg (by omega), if_neg (by omega)]) a0 _ (by rw [hov2, if_pos rfl]) (by rw [hov2, if_neg (by omega), if_pos rfl]), hH15.1, hH15.2, ⟨P, hP1, hP2⟩, fun _ => ⟨⟨none, 0, by rw [hz], .inl hz⟩, by show st.length ≤ 32; omega, hb0.1, by show a0 ≤ 1048576; omega⟩⟩
                · simp only [↓reduceIte, reduceCtorEq, Za, Zb, Zc, Zd, Ze, Zf, Zg, Zh, Zi, Zj, Zk, Zl, Zm, Zn, Zo, Zp, Zq, Zr, Zs, Zt, Zu, Zv, gval, Zw, Zx, Zy, Zz, ZA, ZB, ZC, ZD, ZE, ZF, decide_eq_true_eq, ZG, ZH, ZI, ZJ, ZK, ZL, ZM, ZN, ZO, ZP, ZQ, ZR, ZS, Option.some.injEq, exists_eq_left', ZT, ZU, ZV, ZW, ZX, ZY, true_and, and_true, true_or, or_true, false_or, or_false, ite_true, ite_false, cond_true, cond_false, ZZ, Qa, if_true, if_false, decide_true, decide_false, Qb, Qc, Qd, Qe, Qf, Qg, Qh, Qi, Qj, Qk, Ql, Qm, Qn, Qo, Qp, rb0, rb1, rb2, rb3, rb4, tf0, tf1, tf2, tf3, tf4, f0]
                · simp only [↓reduceIte, reduceCtorEq, Za, Zb, Zc, Zd, Ze, Zf, Zg, Zh, Zi, Zj, Zk, Zl, Zm, Zn, Zo, Zp, Zq, Zr, Zs, Zt, Zu, Zv, gval, Zw, Zx, Zy, Zz, ZA, ZB, ZC, ZD, ZE, ZF, decide_eq_true_eq, ZG, ZH, ZI, ZJ, ZK, ZL, ZM, ZN, ZO, ZP, ZQ, ZR, ZS, Option.some.injEq, exists_eq_left', ZT, ZU, ZV, ZW, ZX, ZY, true_and, and_true, true_or, or_true, false_or, or_false, ite_true, ite_false, cond_true, cond_false, ZZ, Qa, if_true, if_false, decide_true, decide_false, Qb, Qc, Qd, Qe, Qf, Qg, Qh, Qi, Qj, Qk, Ql, Qm, Qn, Qo, Qp, rb0, rb1, rb2, rb3, rb4, tf0, tf1, tf2, tf3, tf4, f4]
                · simp only [↓reduceIte, reduceCtorEq, Za, Zb, Zc, Zd, Ze, Zf, Zg, Zh, Zi, Zj, Zk, Zl, Zm, Zn, Zo, Zp, Zq, Zr, Zs, Zt, Zu, Zv, gval, Zw, Zx, Zy, Zz, ZA, ZB, ZC, ZD, ZE, ZF, decide_eq_true_eq, ZG, ZH, ZI, ZJ, ZK, ZL, ZM, ZN, ZO, ZP, ZQ, ZR, ZS, Option.some.injEq, exists_eq_left', ZT, ZU, ZV, ZW, ZX, ZY, true_and, and_true, true_or, or_true, false_or, or_false, ite_true, ite_false, cond_true, cond_false, ZZ, Qa, if_true, if_false, decide_true, decide_false, Qb, Qc, Qd, Qe, Qf, Qg, Qh, Qi, Qj, Qk, Ql, Qm, Qn, Qo, Qp, rb0, rb1, rb2, rb3, rb4, tf0, tf1, tf2, tf3, tf4]
                · simp only [↓reduceIte, reduceCtorEq, Za, Zb, Zc, Zd, Ze, Zf, Zg, Zh, Zi, Zj, Zk, Zl, Zm, Zn, Zo, Zp, Zq, Zr, Zs, Zt, Zu, Zv, gval, Zw, Zx, Zy, Zz, ZA, ZB, ZC, ZD, ZE, ZF, decide_eq_true_eq, ZG, ZH, ZI, ZJ, ZK, ZL, ZM, ZN, ZO, ZP, ZQ, ZR, ZS, Option.some.injEq, exists_eq_left', ZT, ZU, ZV, ZW, ZX, ZY, true_and, and_true, true_or, or_true, false_or, or_false, ite_true, ite_false, cond_true, cond_false, ZZ, Qa, if_true, if_false, decide_true, decide_false, Qb, Qc, Qd, Qe, Qf, Qg, Qh, Qi, Qj, Qk, Ql, Qm, Qn, Qo, Qp, rb0, rb1, rb2, rb3, rb4, tf0, tf1, tf2, tf3, tf4]
              · rw [aAppend_nil app_47_47 st.length _ _ _ rfl hz (by omega) hwst.first]
                have hX5 : (((h3.upd b (cellsB L1 .exact)).new (cellsB (u64s st) (.loose 1))).upd b (cellsB (overL L1 (o + 31) [.int .i64 a0, .slice (some ⟨h3.nx, 0, none⟩) st.length st.length]) .exact)).get bw = some (cellsB X .ro) := by simp (disch := (first | omega | rfl | (simp only [Heap.nx_upd, Heap.nx_new]; omega))) only [Heap.get_upd_ne, Heap.get_new_ne, Heap.get_new_at, Heap.get_upd_same, Heap.get_new_same, Heap.nx_upd, Heap.nx_new]; exact hX3
                simp (disch := (first | omega | rfl | (simp only [Heap.nx_upd, Heap.nx_new]; omega))) only [↓reduceIte, reduceCtorEq, Za, Zb, Zc, Zd, Ze, Zf, Zg, Zh, Zi, Zj, Zk, Zl, Zm, Zn, Zo, Zp, Zq, Zr, Zs, Zt, Zu, Zv, gval, Zw, Zx, Zy, Zz, ZA, ZB, ZC, ZD, ZE, ZF, decide_eq_true_eq, ZG, ZH, ZI, ZJ, ZK, ZL, ZM, ZN, ZO, ZP, ZQ, ZR, ZS, Option.some.injEq, exists_eq_left', ZT, ZU, ZV, ZW, ZX, ZY, true_and, and_true, true_or, or_true, false_or, or_false, ite_true, ite_false, cond_true, cond_false, ZZ, Qa, if_true, if_false, decide_true, decide_false, Qb, Qc, Qd, Qe, Qf, Qg, Qh, Qi, Qj, Qk, Ql, Qm, Qn, Qo, Qp, rb0, rb1, rb2, rb3, rb4, tf0, tf1, tf2, tf3, tf4, Heap.get_upd_ne, Heap.get_new_ne, Heap.get_new_at, overL_one, if_pos, stX_exactN, f7, hb4, hL1l, nbeq_ne, hw3a, hfrm _ hX5, f6, hwi]
                refine fin _ _ (overL L1 (o + 31) [.int .i64 a0, .slice (some ⟨h3.nx, 0, none⟩) st.length st.length]) ⟨r.take 15, mask p, true, a0, st⟩ ((r.drop 17).drop (2 + a1.toNat)) _ ?_ ?_ ?_ ?_ hl3 (hro2 _ hX5) (Heap.get_upd_same _ _ _) (hov3 _) (by rw [Heap.nx_upd, Heap.nx_new, Heap.nx_upd]; omega) (fun b' z1 z2 => by rw [Heap.get_upd_ne _ _ z2, Heap.get_new_ne _ _ (by rw [Heap.nx_upd]; omega), Heap.get_upd_ne _ _ z2]; exact hk3 b' z2)
                  (fun k hk => by rw [hov2, if_neg (by omega), if_neg (by omega)]; exact hout k hk)
                  ⟨_, _, _, c2' ▸ hcell _ (fun k z1 z2 => by rw [hov2, if_neg (by omega), if_neg (by omega)]) a0 _ (by rw [hov2, if_pos rfl]) (by rw [hov2, if_neg (by omega), if_pos rfl]), hH15.1, hH15.2, ⟨P, hP1, hP2⟩, fun _ => ⟨⟨_, _, rfl, .inr ⟨h3.nx, 0, u64s st, .loose 1, ⟨by omega, by rw [Heap.nx_upd, Heap.nx_new, Heap.nx_upd]; omega⟩, rfl, by rw [Heap.get_upd_ne _ _ (by omega), Heap.get_new_at _ (by rw [Heap.nx_upd]; omega)], by simp, fun j hj => by rw [Nat.zero_add, List.getElem?_map]⟩⟩, by show st.length ≤ 32; omega, hb0.1, by show a0 ≤ 1048576; omega⟩⟩
                · simp only [↓reduceIte, reduceCtorEq, Za, Zb, Zc, Zd, Ze, Zf, Zg, Zh, Zi, Zj, Zk, Zl, Zm, Zn, Zo, Zp, Zq, Zr, Zs, Zt, Zu, Zv, gval, Zw, Zx, Zy, Zz, ZA, ZB, ZC, ZD, ZE, ZF, decide_eq_true_eq, ZG, ZH, ZI, ZJ, ZK, ZL, ZM, ZN, ZO, ZP, ZQ, ZR, ZS, Option.some.injEq, exists_eq_left', ZT, ZU, ZV, ZW, ZX, ZY, true_and, and_true, true_or, or_true, false_or, or_false, ite_true, ite_false, cond_true, cond_false, ZZ, Qa, if_true, if_false, decide_true, decide_false, Qb, Qc, Qd, Qe, Qf, Qg, Qh, Qi, Qj, Qk, Ql, Qm, Qn, Qo, Qp, rb0, rb1, rb2, rb3, rb4, tf0, tf1, tf2, tf3, tf4, f0]
                · simp only [↓reduceIte, reduceCtorEq, Za, Zb, Zc, Zd, Ze, Zf, Zg, Zh, Zi, Zj, Zk, Zl, Zm, Zn, Zo, Zp, Zq, Zr, Zs, Zt, Zu, Zv, gval, Zw, Zx, Zy, Zz, ZA, ZB, ZC, ZD, ZE, ZF, decide_eq_true_eq, ZG, ZH, ZI, ZJ, ZK, ZL, ZM, ZN, ZO, ZP, ZQ, ZR, ZS, Option.some.injEq, exists_eq_left', ZT, ZU, ZV, ZW, ZX, ZY, true_and, and_true, true_or, or_true, false_or, or_false, ite_true, ite_false, cond_true, cond_false, ZZ, Qa, if_true, if_false, decide_true, decide_false, Qb, Qc, Qd, Qe, Qf, Qg, Qh, Qi, Qj, Qk, Ql, Qm, Qn, Qo, Qp, rb0, rb1, rb2, rb3, rb4, tf0, tf1, tf2, tf3, tf4, f4]
                · simp only [↓reduceIte, reduceCtorEq, Za, Zb, Zc, Zd, Ze, Zf, Zg, Zh, Zi, Zj, Zk, Zl, Zm, Zn, Zo, Zp, Zq, Zr, Zs, Zt, Zu, Zv, gval, Zw, Zx, Zy, Zz, ZA, ZB, ZC, ZD, ZE, ZF, decide_eq_true_eq, ZG, ZH, ZI, ZJ, ZK, ZL, ZM, ZN, ZO, ZP, ZQ, ZR, ZS, Option.some.injEq, exists_eq_left', ZT, ZU, ZV, ZW, ZX, ZY, true_and, and_true, true_or, or_true, false_or, or_false, ite_true, ite_false, cond_true, cond_false, ZZ, Qa, if_true, if_false, decide_true, decide_false, Qb, Qc, Qd, Qe, Qf, Qg, Qh, Qi, Qj, Qk, Ql, Qm, Qn, Qo, Qp, rb0, rb1, rb2, rb3, rb4, tf0, tf1, tf2, tf3, tf4]
                · simp only [↓reduceIte, reduceCtorEq, Za, Zb, Zc, Zd, Ze, Zf, Zg, Zh, Zi, Zj, Zk, Zl, Zm, Zn, Zo, Zp, Zq, Zr, Zs, Zt, Zu, Zv, gval, Zw, Zx, Zy, Zz, ZA, ZB, ZC, ZD, ZE, ZF, decide_eq_true_eq, ZG, ZH, ZI, ZJ, ZK, ZL, ZM, ZN, ZO, ZP, ZQ, ZR, ZS, Option.some.injEq, exists_eq_left', ZT, ZU, ZV, ZW, ZX, ZY, true_and, and_true, true_or, or_true, false_or, or_false, ite_true, ite_false, cond_true, cond_false, ZZ, Qa, if_true, if_false, decide_true, decide_false, Qb, Qc, Qd, Qe, Qf, Qg, Qh, Qi, Qj, Qk, Ql, Qm, Qn, Qo, Qp, rb0, rb1, rb2, rb3, rb4, tf0, tf1, tf2, tf3, tf4]
            · have c2' : decide (q = 1) = false := decide_eq_false c2
              rw [c2'] at h30
              simp (disch := (first | omega | rfl | (simp only [Heap.nx_upd, Heap.nx_new]; omega))) only [↓reduceIte, reduceCtorEq, Za, Zb, Zc, Zd, Ze, Zf, Zg, Zh, Zi, Zj, Zk, Zl, Zm, Zn, Zo, Zp, Zq, Zr, Zs, Zt, Zu, Zv, gval, Zw, Zx, Zy, Zz, ZA, ZB, ZC, ZD, ZE, ZF, decide_eq_true_eq, ZG, ZH, ZI, ZJ, ZK, ZL, ZM, ZN, ZO, ZP, ZQ, ZR, ZS, Option.some.injEq, exists_eq_left', ZT, ZU, ZV, ZW, ZX, ZY, true_and, and_true, true_or, or_true, false_or, or_false, ite_true, ite_false, cond_true, cond_false, ZZ, Qa, if_true, if_false, decide_true, decide_false, Qb, Qc, Qd, Qe, Qf, Qg, Qh, Qi, Qj, Qk, Ql, Qm, Qn, Qo, Qp, rb0, rb1, rb2, rb3, rb4, tf0, tf1, tf2, tf3, tf4, Heap.get_upd_ne, Heap.get_new_ne, Heap.get_new_at, overL_one, if_pos, stX_exactN, f6, f7, hb4, h8, h30, hL1l, c1, hwi]
              refine fin _ _ L1 ⟨r.take 15, mask p, false, 0, []⟩ (r.drop 17) _ ?_ ?_ ?_ ?_ (by rw [hloose, if_neg (by simpa using c1), if_pos c2]) hro1 hb4 hL1l (by rw [Heap.nx_upd]; omega) (fun b' z1 z2 => by rw [Heap.get_upd_ne _ _ z2]; exact hk3 b' z2) hout
                ⟨_, _, _, c2' ▸ hcell L1 (fun _ _ _ => rfl) 0 _ h3132.1 h3132.2, hH15.1, hH15.2, ⟨P, hP1, hP2⟩, fun z => by cases z⟩
              · simp only [↓reduceIte, reduceCtorEq, Za, Zb, Zc, Zd, Ze, Zf, Zg, Zh, Zi, Zj, Zk, Zl, Zm, Zn, Zo, Zp, Zq, Zr, Zs, Zt, Zu, Zv, gval, Zw, Zx, Zy, Zz, ZA, ZB, ZC, ZD, ZE, ZF, decide_eq_true_eq, ZG, ZH, ZI, ZJ, ZK, ZL, ZM, ZN, ZO, ZP, ZQ, ZR, ZS, Option.some.injEq, exists_eq_left', ZT, ZU, ZV, ZW, ZX, ZY, true_and, and_true, true_or, or_true, false_or, or_false, ite_true, ite_false, cond_true, cond_false, ZZ, Qa, if_true, if_false, decide_true, decide_false, Qb, Qc, Qd, Qe, Qf, Qg, Qh, Qi, Qj, Qk, Ql, Qm, Qn, Qo, Qp, rb0, rb1, rb2, rb3, rb4, tf0, tf1, tf2, tf3, tf4, f0]
              · simp only [↓reduceIte, reduceCtorEq, Za, Zb, Zc, Zd, Ze, Zf, Zg, Zh, Zi, Zj, Zk, Zl, Zm, Zn, Zo, Zp, Zq, Zr, Zs, Zt, Zu, Zv, gval, Zw, Zx, Zy, Zz, ZA, ZB, ZC, ZD, ZE, ZF, decide_eq_true_eq, ZG, ZH, ZI, ZJ, ZK, ZL, ZM, ZN, ZO, ZP, ZQ, ZR, ZS, Option.some.injEq, exists_eq_left', ZT, ZU, ZV, ZW, ZX, ZY, true_and, and_true, true_or, or_true, false_or, or_false, ite_true, ite_false, cond_true, cond_false, ZZ, Qa, if_true, if_false, decide_true, decide_false, Qb, Qc, Qd, Qe, Qf, Qg, Qh, Qi, Qj, Qk, Ql, Qm, Qn, Qo, Qp, rb0, rb1, rb2, rb3, rb4, tf0, tf1, tf2, tf3, tf4, f4]
              · simp only [↓reduceIte, reduceCtorEq, Za, Zb, Zc, Zd, Ze, Zf, Zg, Zh, Zi, Zj, Zk, Zl, Zm, Zn, Zo, Zp, Zq, Zr, Zs, Zt, Zu, Zv, gval, Zw, Zx, Zy, Zz, ZA, ZB, ZC, ZD, ZE, ZF, decide_eq_true_eq, ZG, ZH, ZI, ZJ, ZK, ZL, ZM, ZN, ZO, ZP, ZQ, ZR, ZS, Option.some.injEq, exists_eq_left', ZT, ZU, ZV, ZW, ZX, ZY, true_and, and_true, true_or, or_true, false_or, or_false, ite_true, ite_false, cond_true, cond_false, ZZ, Qa, if_true, if_false, decide_true, decide_false, Qb, Qc, Qd, Qe, Qf, Qg, Qh, Qi, Qj, Qk, Ql, Qm, Qn, Qo, Qp, rb0, rb1, rb2, rb3, rb4, tf0, tf1, tf2, tf3, tf4]
              · simp only [↓reduceIte, reduceCtorEq, Za, Zb, Zc, Zd, Ze, Zf, Zg, Zh, Zi, Zj, Zk, Zl, Zm, Zn, Zo, Zp, Zq, Zr, Zs, Zt, Zu, Zv, gval, Zw, Zx, Zy, Zz, ZA, ZB, ZC, ZD, ZE, ZF, decide_eq_true_eq, ZG, ZH, ZI, ZJ, ZK, ZL, ZM, ZN, ZO, ZP, ZQ, ZR, ZS, Option.some.injEq, exists_eq_left', ZT, ZU, ZV, ZW, ZX, ZY, true_and, and_true, true_or, or_true, false_or, or_false, ite_true, ite_false, cond_true, cond_false, ZZ, Qa, if_true, if_false, decide_true, decide_false, Qb, Qc, Qd, Qe, Qf, Qg, Qh, Qi, Qj, Qk, Ql, Qm, Qn, Qo, Qp, rb0, rb1, rb2, rb3, rb4, tf0, tf1, tf2, tf3, tf4]
          · simp (disch := (first | omega | rfl | (simp only [Heap.nx_upd, Heap.nx_new]; omega))) only [↓reduceIte, reduceCtorEq, Za, Zb, Zc, Zd, Ze, Zf, Zg, Zh, Zi, Zj, Zk, Zl, Zm, Zn, Zo, Zp, Zq, Zr, Zs, Zt, Zu, Zv, gval, Zw, Zx, Zy, Zz, ZA, ZB, ZC, ZD, ZE, ZF, decide_eq_true_eq, ZG, ZH, ZI, ZJ, ZK, ZL, ZM, ZN, ZO, ZP, ZQ, ZR, ZS, Option.some.injEq, exists_eq_left', ZT, ZU, ZV, ZW, ZX, ZY, true_and, and_true, true_or, or_true, false_or, or_false, ite_true, ite_false, cond_true, cond_false, ZZ, Qa, if_true, if_false, decide_true, decide_false, Qb, Qc, Qd, Qe, Qf, Qg, Qh, Qi, Qj, Qk, Ql, Qm, Qn, Qo, Qp, rb0, rb1, rb2, rb3, rb4, tf0, tf1, tf2, tf3, tf4, Heap.get_upd_ne, Heap.get_new_ne, Heap.get_new_at, overL_one, if_pos, stX_exactN, f7, hb4, h8, hL1l, c1]
            exact hst _ (by simp only [↓reduceIte, reduceCtorEq, Za, Zb, Zc, Zd, Ze, Zf, Zg, Zh, Zi, Zj, Zk, Zl, Zm, Zn, Zo, Zp, Zq, Zr, Zs, Zt, Zu, Zv, gval, Zw, Zx, Zy, Zz, ZA, ZB, ZC, ZD, ZE, ZF, decide_eq_true_eq, ZG, ZH, ZI, ZJ, ZK, ZL, ZM, ZN, ZO, ZP, ZQ, ZR, ZS, Option.some.injEq, exists_eq_left', ZT, ZU, ZV, ZW, ZX, ZY, true_and, and_true, true_or, or_true, false_or, or_false, ite_true, ite_false, cond_true, cond_false, ZZ, Qa, if_true, if_false, decide_true, decide_false, Qb, Qc, Qd, Qe, Qf, Qg, Qh, Qi, Qj, Qk, Ql, Qm, Qn, Qo, Qp, rb0, rb1, rb2, rb3, rb4, tf0, tf1, tf2, tf3, tf4]) (by simp only [↓reduceIte, reduceCtorEq, Za, Zb, Zc, Zd, Ze, Zf, Zg, Zh, Zi, Zj, Zk, Zl, Zm, Zn, Zo, Zp, Zq, Zr, Zs, Zt, Zu, Zv, gval, Zw, Zx, Zy, Zz, ZA, ZB, ZC, ZD, ZE, ZF, decide_eq_true_eq, ZG, ZH, ZI, ZJ, ZK, ZL, ZM, ZN, ZO, ZP, ZQ, ZR, ZS, Option.some.injEq, exists_eq_left', ZT, ZU, ZV, ZW, ZX, ZY, true_and, and_true, true_or, or_true, false_or, or_false, ite_true, ite_false, cond_true, cond_false, ZZ, Qa, if_true, if_false, decide_true, decide_false, Qb, Qc, Qd, Qe, Qf, Qg, Qh, Qi, Qj, Qk, Ql, Qm, Qn, Qo, Qp, rb0, rb1, rb2, rb3, rb4, tf0, tf1, tf2, tf3, tf4]) (by rw [hloose, if_pos c1])
    · obtain rfl : i = 8 := by omega
      simp (disch := (first | omega | rfl | (simp only [Heap.nx_upd, Heap.nx_new]; omega))) only [↓reduceIte, reduceCtorEq, Za, Zb, Zc, Zd, Ze, Zf, Zg, Zh, Zi, Zj, Zk, Zl, Zm, Zn, Zo, Zp, Zq, Zr, Zs, Zt, Zu, Zv, gval, Zw, Zx, Zy, Zz, ZA, ZB, ZC, ZD, ZE, ZF, decide_eq_true_eq, ZG, ZH, ZI, ZJ, ZK, ZL, ZM, ZN, ZO, ZP, ZQ, ZR, ZS, Option.some.injEq, exists_eq_left', ZT, ZU, ZV, ZW, ZX, ZY, true_and, and_true, true_or, or_true, false_or, or_false, ite_true, ite_false, cond_true, cond_false, ZZ, Qa, if_true, if_false, decide_true, decide_false, Qb, Qc, Qd, Qe, Qf, Qg, Qh, Qi, Qj, Qk, Ql, Qm, Qn, Qo, Qp, rb0, rb1, rb2, rb3, rb4, tf0, tf1, tf2, tf3, tf4, Heap.get_upd_ne, Heap.get_new_ne, Heap.get_new_at, overL_one, if_pos, stX_exactN, e6]
      exact hQx _ _ _ (by simp) (.inl ⟨rfl, rs, r, L, hrun, by simp only [↓reduceIte, reduceCtorEq, Za, Zb, Zc, Zd, Ze, Zf, Zg, Zh, Zi, Zj, Zk, Zl, Zm, Zn, Zo, Zp, Zq, Zr, Zs, Zt, Zu, Zv, gval, Zw, Zx, Zy, Zz, ZA, ZB, ZC, ZD, ZE, ZF, decide_eq_true_eq, ZG, ZH, ZI, ZJ, ZK, ZL, ZM, ZN, ZO, ZP, ZQ, ZR, ZS, Option.some.injEq, exists_eq_left', ZT, ZU, ZV, ZW, ZX, ZY, true_and, and_true, true_or, or_true, false_or, or_false, ite_true, ite_false, cond_true, cond_false, ZZ, Qa, if_true, if_false, decide_true, decide_false, Qb, Qc, Qd, Qe, Qf, Qg, Qh, Qi, Qj, Qk, Ql, Qm, Qn, Qo, Qp, rb0, rb1, rb2, rb3, rb4, tf0, tf1, tf2, tf3, tf4, e0], by simp only [↓reduceIte, reduceCtorEq, Za, Zb, Zc, Zd, Ze, Zf, Zg, Zh, Zi, Zj, Zk, Zl, Zm, Zn, Zo, Zp, Zq, Zr, Zs, Zt, Zu, Zv, gval, Zw, Zx, Zy, Zz, ZA, ZB, ZC, ZD, ZE, ZF, decide_eq_true_eq, ZG, ZH, ZI, ZJ, ZK, ZL, ZM, ZN, ZO, ZP, ZQ, ZR, ZS, Option.some.injEq, exists_eq_left', ZT, ZU, ZV, ZW, ZX, ZY, true_and, and_true, true_or, or_true, false_or, or_false, ite_true, ite_false, cond_true, cond_false, ZZ, Qa, if_true, if_false, decide_true, decide_false, Qb, Qc, Qd, Qe, Qf, Qg, Qh, Qi, Qj, Qk, Ql, Qm, Qn, Qo, Qp, rb0, rb1, rb2, rb3, rb4, tf0, tf1, tf2, tf3, tf4, e4], hb, hL, hbn, hk, hrec⟩)
  · refine ⟨0, [], w, v, newRL, rfl, by omega, rfl, hv.keep hb4, ?_, ?_, ?_, ?_, hb3, rfl, hb2, hb4, fun k x hx => by simp at hx, fun k _ hk => newRL_at hk⟩
    · simp only [↓reduceIte, reduceCtorEq, Za, Zb, Zc, Zd, Ze, Zf, Zg, Zh, Zi, Zj, Zk, Zl, Zm, Zn, Zo, Zp, Zq, Zr, Zs, Zt, Zu, Zv, gval, Zw, Zx, Zy, Zz, ZA, ZB, ZC, ZD, ZE, ZF, decide_eq_true_eq, ZG, ZH, ZI, ZJ, ZK, ZL, ZM, ZN, ZO, ZP, ZQ, ZR, ZS, Option.some.injEq, exists_eq_left', ZT, ZU, ZV, ZW, ZX, ZY, true_and, and_true, true_or, or_true, false_or, or_false, ite_true, ite_false, cond_true, cond_false, ZZ, Qa, if_true, if_false, decide_true, decide_false, Qb, Qc, Qd, Qe, Qf, Qg, Qh, Qi, Qj, Qk, Ql, Qm, Qn, Qo, Qp, rb0, rb1, rb2, rb3, rb4, tf0, tf1, tf2, tf3, tf4]
    · simp only [↓reduceIte, reduceCtorEq, Za, Zb, Zc, Zd, Ze, Zf, Zg, Zh, Zi, Zj, Zk, Zl, Zm, Zn, Zo, Zp, Zq, Zr, Zs, Zt, Zu, Zv, gval, Zw, Zx, Zy, Zz, ZA, ZB, ZC, ZD, ZE, ZF, decide_eq_true_eq, ZG, ZH, ZI, ZJ, ZK, ZL, ZM, ZN, ZO, ZP, ZQ, ZR, ZS, Option.some.injEq, exists_eq_left', ZT, ZU, ZV, ZW, ZX, ZY, true_and, and_true, true_or, or_true, false_or, or_false, ite_true, ite_false, cond_true, cond_false, ZZ, Qa, if_true, if_false, decide_true, decide_false, Qb, Qc, Qd, Qe, Qf, Qg, Qh, Qi, Qj, Qk, Ql, Qm, Qn, Qo, Qp, rb0, rb1, rb2, rb3, rb4, tf0, tf1, tf2, tf3, tf4]
    · simp only [↓reduceIte, reduceCtorEq, Za, Zb, Zc, Zd, Ze, Zf, Zg, Zh, Zi, Zj, Zk, Zl, Zm, Zn, Zo, Zp, Zq, Zr, Zs, Zt, Zu, Zv, gval, Zw, Zx, Zy, Zz, ZA, ZB, ZC, ZD, ZE, ZF, decide_eq_true_eq, ZG, ZH, ZI, ZJ, ZK, ZL, ZM, ZN, ZO, ZP, ZQ, ZR, ZS, Option.some.injEq, exists_eq_left', ZT, ZU, ZV, ZW, ZX, ZY, true_and, and_true, true_or, or_true, false_or, or_false, ite_true, ite_false, cond_true, cond_false, ZZ, Qa, if_true, if_false, decide_true, decide_false, Qb, Qc, Qd, Qe, Qf, Qg, Qh, Qi, Qj, Qk, Ql, Qm, Qn, Qo, Qp, rb0, rb1, rb2, rb3, rb4, tf0, tf1, tf2, tf3, tf4]
    · simp only [↓reduceIte, reduceCtorEq, Za, Zb, Zc, Zd, Ze, Zf, Zg, Zh, Zi, Zj, Zk, Zl, Zm, Zn, Zo, Zp, Zq, Zr, Zs, Zt, Zu, Zv, gval, Zw, Zx, Zy, Zz, ZA, ZB, ZC, ZD, ZE, ZF, decide_eq_true_eq, ZG, ZH, ZI, ZJ, ZK, ZL, ZM, ZN, ZO, ZP, ZQ, ZR, ZS, Option.some.injEq, exists_eq_left', ZT, ZU, ZV, ZW, ZX, ZY, true_and, and_true, true_or, or_true, false_or, or_false, ite_true, ite_false, cond_true, cond_false, ZZ, Qa, if_true, if_false, decide_true, decide_false, Qb, Qc, Qd, Qe, Qf, Qg, Qh, Qi, Qj, Qk, Ql, Qm, Qn, Qo, Qp, rb0, rb1, rb2, rb3, rb4, tf0, tf1, tf2, tf3, tf4]
  · rintro ex e h2 - (⟨rfl, rs, r, L, hrun, e0, e4, hb, hL, hbn, hk, hrec⟩ | ⟨rfl, e2, e3, hn, hnx, hk⟩)
    · simp only [↓reduceIte, reduceCtorEq, Za, Zb, Zc, Zd, Ze, Zf, Zg, Zh, Zi, Zj, Zk, Zl, Zm, Zn, Zo, Zp, Zq, Zr, Zs, Zt, Zu, Zv, gval, Zw, Zx, Zy, Zz, ZA, ZB, ZC, ZD, ZE, ZF, decide_eq_true_eq, ZG, ZH, ZI, ZJ, ZK, ZL, ZM, ZN, ZO, ZP, ZQ, ZR, ZS, Option.some.injEq, exists_eq_left', ZT, ZU, ZV, ZW, ZX, ZY, true_and, and_true, true_or, or_true, false_or, or_false, ite_true, ite_false, cond_true, cond_false, ZZ, Qa, if_true, if_false, decide_true, decide_false, Qb, Qc, Qd, Qe, Qf, Qg, Qh, Qi, Qj, Qk, Ql, Qm, Qn, Qo, Qp, rb0, rb1, rb2, rb3, rb4, tf0, tf1, tf2, tf3, tf4, e0, e4]
      refine runC_of (rencode_spec h3 hb hbn hL (runK_count 8 hrun) hrec fun h5 ve hwe hn5 hk5 => ?_)
      simp only [↓reduceIte, reduceCtorEq, Za, Zb, Zc, Zd, Ze, Zf, Zg, Zh, Zi, Zj, Zk, Zl, Zm, Zn, Zo, Zp, Zq, Zr, Zs, Zt, Zu, Zv, gval, Zw, Zx, Zy, Zz, ZA, ZB, ZC, ZD, ZE, ZF, decide_eq_true_eq, ZG, ZH, ZI, ZJ, ZK, ZL, ZM, ZN, ZO, ZP, ZQ, ZR, ZS, Option.some.injEq, exists_eq_left', ZT, ZU, ZV, ZW, ZX, ZY, true_and, and_true, true_or, or_true, false_or, or_false, ite_true, ite_false, cond_true, cond_false, ZZ, Qa, if_true, if_false, decide_true, decide_false, Qb, Qc, Qd, Qe, Qf, Qg, Qh, Qi, Qj, Qk, Ql, Qm, Qn, Qo, Qp, rb0, rb1, rb2, rb3, rb4, tf0, tf1, tf2, tf3, tf4, e0]
      have hwv : Words h5 0 v w := (hv.keep (h' := h5) (fun b' hb' => by rw [hk5 b' (by omega), hk b' hb'])).words (by omega)
      refine runC_of (words_spec h4 hwe hwv (fun t ht => ?_) ?_)
      · have hiff : t = true ↔ ∃ l, runK one 8 w = some (l, []) := by
          rw [ht, reads_iff hw0]
          constructor
          · exact fun q => ⟨rs, r, hrun, q⟩
          · rintro ⟨l', r', q1, q2⟩
            rw [hrun] at q1
            simp only [Option.some.injEq, Prod.mk.injEq] at q1
            rw [q1.1]; exact q2
        have hkk : ∀ b', b' < h.nx → h5.get b' = h.get b' := fun b' hb' => by rw [hk5 b' (by omega), hk b' hb']
        cases t with
        | true =>
          simp only [↓reduceIte, reduceCtorEq, Za, Zb, Zc, Zd, Ze, Zf, Zg, Zh, Zi, Zj, Zk, Zl, Zm, Zn, Zo, Zp, Zq, Zr, Zs, Zt, Zu, Zv, gval, Zw, Zx, Zy, Zz, ZA, ZB, ZC, ZD, ZE, ZF, decide_eq_true_eq, ZG, ZH, ZI, ZJ, ZK, ZL, ZM, ZN, ZO, ZP, ZQ, ZR, ZS, Option.some.injEq, exists_eq_left', ZT, ZU, ZV, ZW, ZX, ZY, true_and, and_true, true_or, or_true, false_or, or_false, ite_true, ite_false, cond_true, cond_false, ZZ, Qa, if_true, if_false, decide_true, decide_false, Qb, Qc, Qd, Qe, Qf, Qg, Qh, Qi, Qj, Qk, Ql, Qm, Qn, Qo, Qp, rb0, rb1, rb2, rb3, rb4, tf0, tf1, tf2, tf3, tf4, e4]
          exact hok h5 b (hiff.1 rfl) (by omega) hkk
        | false =>
          simp only [↓reduceIte, reduceCtorEq, Za, Zb, Zc, Zd, Ze, Zf, Zg, Zh, Zi, Zj, Zk, Zl, Zm, Zn, Zo, Zp, Zq, Zr, Zs, Zt, Zu, Zv, gval, Zw, Zx, Zy, Zz, ZA, ZB, ZC, ZD, ZE, ZF, decide_eq_true_eq, ZG, ZH, ZI, ZJ, ZK, ZL, ZM, ZN, ZO, ZP, ZQ, ZR, ZS, Option.some.injEq, exists_eq_left', ZT, ZU, ZV, ZW, ZX, ZY, true_and, and_true, true_or, or_true, false_or, or_false, ite_true, ite_false, cond_true, cond_false, ZZ, Qa, if_true, if_false, decide_true, decide_false, Qb, Qc, Qd, Qe, Qf, Qg, Qh, Qi, Qj, Qk, Ql, Qm, Qn, Qo, Qp, rb0, rb1, rb2, rb3, rb4, tf0, tf1, tf2, tf3, tf4]
          exact hno h5 (fun q => by have := hiff.2 q; cases this) (by omega) hkk
      · obtain ⟨cc, q1, q2⟩ := runK_len hw0 _ _ _ hrun
        have := congrArg List.length q1
        rw [List.length_append] at this
        omega
    · simp only [↓reduceIte, reduceCtorEq, Za, Zb, Zc, Zd, Ze, Zf, Zg, Zh, Zi, Zj, Zk, Zl, Zm, Zn, Zo, Zp, Zq, Zr, Zs, Zt, Zu, Zv, gval, Zw, Zx, Zy, Zz, ZA, ZB, ZC, ZD, ZE, ZF, decide_eq_true_eq, ZG, ZH, ZI, ZJ, ZK, ZL, ZM, ZN, ZO, ZP, ZQ, ZR, ZS, Option.some.injEq, exists_eq_left', ZT, ZU, ZV, ZW, ZX, ZY, true_and, and_true, true_or, or_true, false_or, or_false, ite_true, ite_false, cond_true, cond_false, ZZ, Qa, if_true, if_false, decide_true, decide_false, Qb, Qc, Qd, Qe, Qf, Qg, Qh, Qi, Qj, Qk, Ql, Qm, Qn, Qo, Qp, rb0, rb1, rb2, rb3, rb4, tf0, tf1, tf2, tf3, tf4, e2, e3]
      exact hno h2 hn hnx hk
end Go.Proofs.Ytmmjeifdgfolmaa
end
section
/- Signals: chapter 20's examples, run once. No condition. -/
namespace Go.Proofs.Ytmmjeifdgfolmaa
open Go.AM
set_option maxRecDepth 100000 in
theorem awake20_run : isTrue (clA 27 [] noHeap) = true := by kernel_rfl
noncomputable abbrev sp20 : Special := spAt 27
theorem sp20_ok : SpecOk Try.prog 0 sp20 := spAt_ok clA_ok awake20_run
theorem awake20 (h : Heap) (R : Out → Heap → Prop) (hR : R (.ret (.bool true)) h) : WF Try.prog 0 sp20 27 [] h R := by
  refine ⟨.ret (.bool true), h, ⟨1, fun fu d h1 h2 => ?_⟩, hR⟩
  obtain ⟨d, rfl⟩ : ∃ k, d = k + 1 := ⟨d - 1, by omega⟩
  rfl
end Go.Proofs.Ytmmjeifdgfolmaa
end
section
/- SignalsReads: the law's own steps. Conditions: the words lie as the rule names. -/
namespace Go.Proofs.Ytmmjeifdgfolmaa
open Go.AM Go.AM.SigRead
open Nat renaming reduceBEq → Za, reduceEqDiff → Zb, reduceAdd → Zc, reduceSub → Zd, reduceMul → Ze, reduceLT → Zf, reduceLeDiff → Zg, reduceDiv → Zh, reduceMod → Zi, reducePow → Zj, blt_eq → ZF, zero_add → Qc, add_zero → Qd
open Int renaming reduceAdd → Zk, reduceSub → Zl, reduceMul → Zm, reduceLT → Zn, reduceLE → Zo, reduceEq → Zp, reduceNe → Zq, reduceNeg → Zr, reduceToNat → Zs, reduceDiv → Zt, reduceMod → Zu, reducePow → Zv, cast_ofNat_Int → Zw, toNat_natCast → Qb
open List renaming set_cons_zero → Zx, set_cons_succ → Zy, map_toArray → Zz, cons_append → ZA, nil_append → ZB, append_nil → ZC, all_cons → ZD, all_nil → ZE, getElem?_cons_zero → ZJ, getElem?_cons_succ → ZK, length_cons → ZL, length_nil → ZM, map_cons → ZN, map_nil → ZO, isEmpty_nil → Qe, any_cons → Qf, any_nil → Qg, drop_zero → Qk, drop_succ_cons → Ql, take_succ_cons → Qm, take_zero → Qn, take_nil → Qo, drop_nil → Qp
open Bool renaming and_true → ZG, true_and → ZH, and_self → ZI, not_true → ZT, not_false → ZU, true_eq_false → ZZ, false_eq_true → Qa, or_false → Qh, false_or → Qi, and_eq_true → Qj
open Option renaming map_some → ZP, map_none → ZQ, bind_some → ZR, getD_some → ZS, isNone_some → ZV, isNone_none → ZW, isSome_some → ZX, isSome_none → ZY
set_option linter.unusedSimpArgs false
variable {sp : Special} {h : Heap} {R : Out → Heap → Prop}
set_option maxRecDepth 100000 in
theorem reads_walk (h11 : (sp 11).isNone = true) (h23 : (sp 23).isNone = true) (h35 : (sp 35).isNone = true) (h47 : (sp 47).isNone = true) (h48 : (sp 48).isNone = true) (h49 : (sp 49).isNone = true) (h51 : (sp 51).isNone = true) (h56 : (sp 56).isNone = true) (h60 : (sp 60).isNone = true) (h61 : (sp 61).isNone = true) (h62 : (sp 62).isNone = true)
    (haw : ∀ (h : Heap) (R : Out → Heap → Prop), R (.ret (.bool true)) h → WF Try.prog 0 sp 27 [] h R) {v : Value} {w : List Int} (hv : Ro h h.nx v w) (hw : ∀ y ∈ w, 0 ≤ y ∧ y < 18446744073709551616) (hR : ∀ h, R (.ret (.bool true)) h) :
    WF Try.prog 0 sp 11 [v] h R := by
  refine wf_fn (fn := Try.f11) h11 rfl (by kernel_rfl) rfl ?_
  obtain ⟨a, c, rfl, _⟩ := hv.is
  by_cases hc : 2000 < w.length
  · have hc1 : (2000 : Int) < (w.length : Int) := by omega
    simp only [↓reduceIte, reduceCtorEq, Za, Zb, Zc, Zd, Ze, Zf, Zg, Zh, Zi, Zj, Zk, Zl, Zm, Zn, Zo, Zp, Zq, Zr, Zs, Zt, Zu, Zv, gval, Zw, Zx, Zy, Zz, ZA, ZB, ZC, ZD, ZE, ZF, decide_eq_true_eq, ZG, ZH, ZI, ZJ, ZK, ZL, ZM, ZN, ZO, ZP, ZQ, ZR, ZS, Option.some.injEq, exists_eq_left', ZT, ZU, ZV, ZW, ZX, ZY, true_and, and_true, true_or, or_true, false_or, or_false, ite_true, ite_false, cond_true, cond_false, ZZ, Qa, if_true, if_false, decide_true, decide_false, Qb, Qc, Qd, Qe, Qf, Qg, Qh, Qi, Qj, Qk, Ql, Qm, Qn, Qo, Qp, rb0, rb1, rb2, rb3, rb4, tf0, tf1, tf2, tf3, tf4, Try.f11, hc1]
    refine runC_of (haw _ _ ?_)
    simp only [↓reduceIte, reduceCtorEq, Za, Zb, Zc, Zd, Ze, Zf, Zg, Zh, Zi, Zj, Zk, Zl, Zm, Zn, Zo, Zp, Zq, Zr, Zs, Zt, Zu, Zv, gval, Zw, Zx, Zy, Zz, ZA, ZB, ZC, ZD, ZE, ZF, decide_eq_true_eq, ZG, ZH, ZI, ZJ, ZK, ZL, ZM, ZN, ZO, ZP, ZQ, ZR, ZS, Option.some.injEq, exists_eq_left', ZT, ZU, ZV, ZW, ZX, ZY, true_and, and_true, true_or, or_true, false_or, or_false, ite_true, ite_false, cond_true, cond_false, ZZ, Qa, if_true, if_false, decide_true, decide_false, Qb, Qc, Qd, Qe, Qf, Qg, Qh, Qi, Qj, Qk, Ql, Qm, Qn, Qo, Qp, rb0, rb1, rb2, rb3, rb4, tf0, tf1, tf2, tf3, tf4, hR]
  · have hc1 : ¬ (2000 : Int) < (w.length : Int) := by omega
    simp only [↓reduceIte, reduceCtorEq, Za, Zb, Zc, Zd, Ze, Zf, Zg, Zh, Zi, Zj, Zk, Zl, Zm, Zn, Zo, Zp, Zq, Zr, Zs, Zt, Zu, Zv, gval, Zw, Zx, Zy, Zz, ZA, ZB, ZC, ZD, ZE, ZF, decide_eq_true_eq, ZG, ZH, ZI, ZJ, ZK, ZL, ZM, ZN, ZO, ZP, ZQ, ZR, ZS, Option.some.injEq, exists_eq_left', ZT, ZU, ZV, ZW, ZX, ZY, true_and, and_true, true_or, or_true, false_or, or_false, ite_true, ite_false, cond_true, cond_false, ZZ, Qa, if_true, if_false, decide_true, decide_false, Qb, Qc, Qd, Qe, Qf, Qg, Qh, Qi, Qj, Qk, Ql, Qm, Qn, Qo, Qp, rb0, rb1, rb2, rb3, rb4, tf0, tf1, tf2, tf3, tf4, Try.f11, hc1]
    refine runC_of (decode_spec h48 h23 h51 h56 hv hw (by omega) (fun h1 hno hn1 hk1 => ?_) (fun h1 b L l hrun hb1 hb2 hb3 hL hrec hn1 hk1 => ?_))
    · simp only [↓reduceIte, reduceCtorEq, Za, Zb, Zc, Zd, Ze, Zf, Zg, Zh, Zi, Zj, Zk, Zl, Zm, Zn, Zo, Zp, Zq, Zr, Zs, Zt, Zu, Zv, gval, Zw, Zx, Zy, Zz, ZA, ZB, ZC, ZD, ZE, ZF, decide_eq_true_eq, ZG, ZH, ZI, ZJ, ZK, ZL, ZM, ZN, ZO, ZP, ZQ, ZR, ZS, Option.some.injEq, exists_eq_left', ZT, ZU, ZV, ZW, ZX, ZY, true_and, and_true, true_or, or_true, false_or, or_false, ite_true, ite_false, cond_true, cond_false, ZZ, Qa, if_true, if_false, decide_true, decide_false, Qb, Qc, Qd, Qe, Qf, Qg, Qh, Qi, Qj, Qk, Ql, Qm, Qn, Qo, Qp, rb0, rb1, rb2, rb3, rb4, tf0, tf1, tf2, tf3, tf4]
      have hv1 : Ro h1 h1.nx (.slice a w.length c) w := by
        obtain ⟨a', c', e1, e2, e3⟩ := (hv.keep (h' := h1) hk1).is
        refine ⟨a', c', e1, e2, e3.imp id ?_⟩
        rintro ⟨b', off, X, g1, g2⟩
        exact ⟨b', off, X, by omega, g2⟩
      refine runC_of (rdecode_spec h49 h60 h62 h61 h35 hv1 hw (by omega) (fun h2 _ hn2 hk2 => ?_) (fun h2 b hyes _ _ => absurd hyes hno))
      simp only [↓reduceIte, reduceCtorEq, Za, Zb, Zc, Zd, Ze, Zf, Zg, Zh, Zi, Zj, Zk, Zl, Zm, Zn, Zo, Zp, Zq, Zr, Zs, Zt, Zu, Zv, gval, Zw, Zx, Zy, Zz, ZA, ZB, ZC, ZD, ZE, ZF, decide_eq_true_eq, ZG, ZH, ZI, ZJ, ZK, ZL, ZM, ZN, ZO, ZP, ZQ, ZR, ZS, Option.some.injEq, exists_eq_left', ZT, ZU, ZV, ZW, ZX, ZY, true_and, and_true, true_or, or_true, false_or, or_false, ite_true, ite_false, cond_true, cond_false, ZZ, Qa, if_true, if_false, decide_true, decide_false, Qb, Qc, Qd, Qe, Qf, Qg, Qh, Qi, Qj, Qk, Ql, Qm, Qn, Qo, Qp, rb0, rb1, rb2, rb3, rb4, tf0, tf1, tf2, tf3, tf4, show (true == true) = true from rfl, show (false == false) = true from rfl]
      refine runC_of (haw _ _ ?_)
      simp only [↓reduceIte, reduceCtorEq, Za, Zb, Zc, Zd, Ze, Zf, Zg, Zh, Zi, Zj, Zk, Zl, Zm, Zn, Zo, Zp, Zq, Zr, Zs, Zt, Zu, Zv, gval, Zw, Zx, Zy, Zz, ZA, ZB, ZC, ZD, ZE, ZF, decide_eq_true_eq, ZG, ZH, ZI, ZJ, ZK, ZL, ZM, ZN, ZO, ZP, ZQ, ZR, ZS, Option.some.injEq, exists_eq_left', ZT, ZU, ZV, ZW, ZX, ZY, true_and, and_true, true_or, or_true, false_or, or_false, ite_true, ite_false, cond_true, cond_false, ZZ, Qa, if_true, if_false, decide_true, decide_false, Qb, Qc, Qd, Qe, Qf, Qg, Qh, Qi, Qj, Qk, Ql, Qm, Qn, Qo, Qp, rb0, rb1, rb2, rb3, rb4, tf0, tf1, tf2, tf3, tf4, hR]
    · simp only [↓reduceIte, reduceCtorEq, Za, Zb, Zc, Zd, Ze, Zf, Zg, Zh, Zi, Zj, Zk, Zl, Zm, Zn, Zo, Zp, Zq, Zr, Zs, Zt, Zu, Zv, gval, Zw, Zx, Zy, Zz, ZA, ZB, ZC, ZD, ZE, ZF, decide_eq_true_eq, ZG, ZH, ZI, ZJ, ZK, ZL, ZM, ZN, ZO, ZP, ZQ, ZR, ZS, Option.some.injEq, exists_eq_left', ZT, ZU, ZV, ZW, ZX, ZY, true_and, and_true, true_or, or_true, false_or, or_false, ite_true, ite_false, cond_true, cond_false, ZZ, Qa, if_true, if_false, decide_true, decide_false, Qb, Qc, Qd, Qe, Qf, Qg, Qh, Qi, Qj, Qk, Ql, Qm, Qn, Qo, Qp, rb0, rb1, rb2, rb3, rb4, tf0, tf1, tf2, tf3, tf4]
      have hv1 : Ro h1 h1.nx (.slice a w.length c) w := by
        obtain ⟨a', c', e1, e2, e3⟩ := (hv.keep (h' := h1) hk1).is
        refine ⟨a', c', e1, e2, e3.imp id ?_⟩
        rintro ⟨b', off, X, g1, g2⟩
        exact ⟨b', off, X, by omega, g2⟩
      refine runC_of (rdecode_spec h49 h60 h62 h61 h35 hv1 hw (by omega) (fun h2 hno _ _ => absurd ⟨l, hrun⟩ hno) (fun h2 b' _ hn2 hk2 => ?_))
      simp only [↓reduceIte, reduceCtorEq, Za, Zb, Zc, Zd, Ze, Zf, Zg, Zh, Zi, Zj, Zk, Zl, Zm, Zn, Zo, Zp, Zq, Zr, Zs, Zt, Zu, Zv, gval, Zw, Zx, Zy, Zz, ZA, ZB, ZC, ZD, ZE, ZF, decide_eq_true_eq, ZG, ZH, ZI, ZJ, ZK, ZL, ZM, ZN, ZO, ZP, ZQ, ZR, ZS, Option.some.injEq, exists_eq_left', ZT, ZU, ZV, ZW, ZX, ZY, true_and, and_true, true_or, or_true, false_or, or_false, ite_true, ite_false, cond_true, cond_false, ZZ, Qa, if_true, if_false, decide_true, decide_false, Qb, Qc, Qd, Qe, Qf, Qg, Qh, Qi, Qj, Qk, Ql, Qm, Qn, Qo, Qp, rb0, rb1, rb2, rb3, rb4, tf0, tf1, tf2, tf3, tf4, show (true == true) = true from rfl, show (false == false) = true from rfl]
      refine runC_of (encode_spec h47 (lo := b + 1) ((hk2 b hb2).trans hb3) (by omega) hL (runK_count 8 hrun) (fun k x hx => (hrec k x hx).of hn2 (fun b' _ q => hk2 b' q) (fun _ _ _ => rfl)) fun h3 ve hwe hn3 hk3 => ?_)
      rw [reads_enc (fun y hy => (hw y hy).1) hrun] at hwe
      simp only [↓reduceIte, reduceCtorEq, Za, Zb, Zc, Zd, Ze, Zf, Zg, Zh, Zi, Zj, Zk, Zl, Zm, Zn, Zo, Zp, Zq, Zr, Zs, Zt, Zu, Zv, gval, Zw, Zx, Zy, Zz, ZA, ZB, ZC, ZD, ZE, ZF, decide_eq_true_eq, ZG, ZH, ZI, ZJ, ZK, ZL, ZM, ZN, ZO, ZP, ZQ, ZR, ZS, Option.some.injEq, exists_eq_left', ZT, ZU, ZV, ZW, ZX, ZY, true_and, and_true, true_or, or_true, false_or, or_false, ite_true, ite_false, cond_true, cond_false, ZZ, Qa, if_true, if_false, decide_true, decide_false, Qb, Qc, Qd, Qe, Qf, Qg, Qh, Qi, Qj, Qk, Ql, Qm, Qn, Qo, Qp, rb0, rb1, rb2, rb3, rb4, tf0, tf1, tf2, tf3, tf4]
      have hwv : Words h3 0 (.slice a w.length c) w := (hv.keep (h' := h3) (fun b' hb' => by rw [hk3 b' (by omega), hk2 b' (by omega), hk1 b' hb'])).words (by omega)
      refine runC_of (words_spec h35 hwe hwv (fun t ht => ?_) (by omega))
      obtain rfl : t = true := ht.2 rfl
      simp only [↓reduceIte, reduceCtorEq, Za, Zb, Zc, Zd, Ze, Zf, Zg, Zh, Zi, Zj, Zk, Zl, Zm, Zn, Zo, Zp, Zq, Zr, Zs, Zt, Zu, Zv, gval, Zw, Zx, Zy, Zz, ZA, ZB, ZC, ZD, ZE, ZF, decide_eq_true_eq, ZG, ZH, ZI, ZJ, ZK, ZL, ZM, ZN, ZO, ZP, ZQ, ZR, ZS, Option.some.injEq, exists_eq_left', ZT, ZU, ZV, ZW, ZX, ZY, true_and, and_true, true_or, or_true, false_or, or_false, ite_true, ite_false, cond_true, cond_false, ZZ, Qa, if_true, if_false, decide_true, decide_false, Qb, Qc, Qd, Qe, Qf, Qg, Qh, Qi, Qj, Qk, Ql, Qm, Qn, Qo, Qp, rb0, rb1, rb2, rb3, rb4, tf0, tf1, tf2, tf3, tf4]
      refine runC_of (haw _ _ ?_)
      simp only [↓reduceIte, reduceCtorEq, Za, Zb, Zc, Zd, Ze, Zf, Zg, Zh, Zi, Zj, Zk, Zl, Zm, Zn, Zo, Zp, Zq, Zr, Zs, Zt, Zu, Zv, gval, Zw, Zx, Zy, Zz, ZA, ZB, ZC, ZD, ZE, ZF, decide_eq_true_eq, ZG, ZH, ZI, ZJ, ZK, ZL, ZM, ZN, ZO, ZP, ZQ, ZR, ZS, Option.some.injEq, exists_eq_left', ZT, ZU, ZV, ZW, ZX, ZY, true_and, and_true, true_or, or_true, false_or, or_false, ite_true, ite_false, cond_true, cond_false, ZZ, Qa, if_true, if_false, decide_true, decide_false, Qb, Qc, Qd, Qe, Qf, Qg, Qh, Qi, Qj, Qk, Ql, Qm, Qn, Qo, Qp, rb0, rb1, rb2, rb3, rb4, tf0, tf1, tf2, tf3, tf4, hR]
end Go.Proofs.Ytmmjeifdgfolmaa
end
