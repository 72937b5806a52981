/- Lemmas of the claim: the machine of the proof and the walks of the program. Conditions: as each says. -/
import Derived.Test.YtmadjdgipfdnkaaDoorG5
import Derived.Test.YtmadjdgipfdnkaaDoorG4
section
/- Bitmaps of one word: New, Of, in, Mark, Take, Left, Words. Conditions: the map lies as the rule names. -/
namespace Go.Proofs.YtmadjdgipfdnkaaDoor
open Go.AM
open Nat renaming reduceBEq → Za, reduceEqDiff → Zb, reduceAdd → Zc, reduceSub → Zd, reduceMul → Ze, reduceLT → Zf, reduceLeDiff → Zg, reduceDiv → Zh, reduceMod → Zi, reducePow → Zj, blt_eq → ZF, zero_add → Qc, add_zero → Qd
open Int renaming reduceAdd → Zk, reduceSub → Zl, reduceMul → Zm, reduceLT → Zn, reduceLE → Zo, reduceEq → Zp, reduceNe → Zq, reduceNeg → Zr, reduceToNat → Zs, reduceDiv → Zt, reduceMod → Zu, reducePow → Zv, cast_ofNat_Int → Zw, toNat_natCast → Qb
open List renaming set_cons_zero → Zx, set_cons_succ → Zy, map_toArray → Zz, cons_append → ZA, nil_append → ZB, append_nil → ZC, all_cons → ZD, all_nil → ZE, getElem?_cons_zero → ZJ, getElem?_cons_succ → ZK, length_cons → ZL, length_nil → ZM, map_cons → ZN, map_nil → ZO, isEmpty_nil → Qe, any_cons → Qf, any_nil → Qg, drop_zero → Qk, drop_succ_cons → Ql, take_succ_cons → Qm, take_zero → Qn, take_nil → Qo, drop_nil → Qp
open Bool renaming and_true → ZG, true_and → ZH, and_self → ZI, not_true → ZT, not_false → ZU, true_eq_false → ZZ, false_eq_true → Qa, or_false → Qh, false_or → Qi, and_eq_true → Qj
open Option renaming map_some → ZP, map_none → ZQ, bind_some → ZR, getD_some → ZS, isNone_some → ZV, isNone_none → ZW, isSome_some → ZX, isSome_none → ZY
set_option linter.unusedSimpArgs false
variable {sp : Special} {h : Heap} {R : Out → Heap → Prop}
structure MapAt (h : Heap) (p lb n w : Nat) : Prop where
  m : h.get p = some (cellsB [.int .i64 n, .slice (some ⟨lb, 0, none⟩) 1 1] .exact)
  l : h.get lb = some (cellsB [.int .u64 w] .exact)
  n1 : 1 ≤ n
  n2 : n < 64
  w : w < bitN n
theorem MapAt.lt {p lb n w : Nat} (x : MapAt h p lb n w) : w < 18446744073709551616 := Nat.lt_trans x.w (bitN_lt x.n2)
theorem MapAt.keep {h' : Heap} {p lb n w : Nat} (x : MapAt h p lb n w) (h1 : h'.get p = h.get p) (h2 : h'.get lb = h.get lb) : MapAt h' p lb n w := ⟨h1.trans x.m, h2.trans x.l, x.n1, x.n2, x.w⟩
theorem MapAt.ne {p lb n w : Nat} (x : MapAt h p lb n w) : p ≠ lb := fun e => by
  have := x.m
  rw [e, x.l] at this
  unfold cellsB at this
  injection this with this
  injection this with _ e _
  cases e
set_option maxRecDepth 100000 in
theorem min_spec (h59 : (sp 59).isNone = true) {p lb n w : Nat} (m : MapAt h p lb n w) {i : Int} (hR : R (.ret (.bool (decide (0 ≤ i ∧ i < n)))) h) : WF Tryd.prog 1 sp 59 [.pointer (some ⟨p, 0, none⟩), .int .i64 i] h R := by
  refine wf_fn (fn := Tryd.f59) h59 rfl (by kernel_rfl) rfl ?_
  by_cases c1 : 0 ≤ i
  · by_cases c2 : i < n
    · simp only [↓reduceIte, reduceCtorEq, Za, Zb, Zc, Zd, Ze, Zf, Zg, Zh, Zi, Zj, Zk, Zl, Zm, Zn, Zo, Zp, Zq, Zr, Zs, Zt, Zu, Zv, gval, Zw, Zx, Zy, Zz, ZA, ZB, ZC, ZD, ZE, ZF, decide_eq_true_eq, ZG, ZH, ZI, ZJ, ZK, ZL, ZM, ZN, ZO, ZP, ZQ, ZR, ZS, Option.some.injEq, exists_eq_left', ZT, ZU, ZV, ZW, ZX, ZY, true_and, and_true, true_or, or_true, false_or, or_false, ite_true, ite_false, cond_true, cond_false, ZZ, Qa, if_true, if_false, decide_true, decide_false, Qb, Qc, Qd, Qe, Qf, Qg, Qh, Qi, Qj, Qk, Ql, Qm, Qn, Qo, Qp, rb0, rb1, rb2, rb3, rb4, tf0, tf1, tf2, tf3, tf4, Tryd.f59, c1, c2, m.m]
      rw [decide_eq_true ⟨c1, c2⟩] at hR
      exact hR
    · simp only [↓reduceIte, reduceCtorEq, Za, Zb, Zc, Zd, Ze, Zf, Zg, Zh, Zi, Zj, Zk, Zl, Zm, Zn, Zo, Zp, Zq, Zr, Zs, Zt, Zu, Zv, gval, Zw, Zx, Zy, Zz, ZA, ZB, ZC, ZD, ZE, ZF, decide_eq_true_eq, ZG, ZH, ZI, ZJ, ZK, ZL, ZM, ZN, ZO, ZP, ZQ, ZR, ZS, Option.some.injEq, exists_eq_left', ZT, ZU, ZV, ZW, ZX, ZY, true_and, and_true, true_or, or_true, false_or, or_false, ite_true, ite_false, cond_true, cond_false, ZZ, Qa, if_true, if_false, decide_true, decide_false, Qb, Qc, Qd, Qe, Qf, Qg, Qh, Qi, Qj, Qk, Ql, Qm, Qn, Qo, Qp, rb0, rb1, rb2, rb3, rb4, tf0, tf1, tf2, tf3, tf4, Tryd.f59, c1, c2, m.m]
      rw [decide_eq_false (fun h => c2 h.2)] at hR
      exact hR
  · simp only [↓reduceIte, reduceCtorEq, Za, Zb, Zc, Zd, Ze, Zf, Zg, Zh, Zi, Zj, Zk, Zl, Zm, Zn, Zo, Zp, Zq, Zr, Zs, Zt, Zu, Zv, gval, Zw, Zx, Zy, Zz, ZA, ZB, ZC, ZD, ZE, ZF, decide_eq_true_eq, ZG, ZH, ZI, ZJ, ZK, ZL, ZM, ZN, ZO, ZP, ZQ, ZR, ZS, Option.some.injEq, exists_eq_left', ZT, ZU, ZV, ZW, ZX, ZY, true_and, and_true, true_or, or_true, false_or, or_false, ite_true, ite_false, cond_true, cond_false, ZZ, Qa, if_true, if_false, decide_true, decide_false, Qb, Qc, Qd, Qe, Qf, Qg, Qh, Qi, Qj, Qk, Ql, Qm, Qn, Qo, Qp, rb0, rb1, rb2, rb3, rb4, tf0, tf1, tf2, tf3, tf4, Tryd.f59, c1, m.m, runG_undef]
    rw [decide_eq_false (fun h => c1 h.1)] at hR
    exact hR
set_option maxRecDepth 100000 in
theorem mnew_spec (h69 : (sp 69).isNone = true) {n : Nat} (h1 : 1 ≤ n) (h2 : n < 64) (hR : ∀ h', h'.nx = h.nx + 2 → MapAt h' (h.nx + 1) h.nx n 0 → (∀ b, b < h.nx → h'.get b = h.get b) → R (.ret (.pointer (some ⟨h.nx + 1, 0, none⟩))) h') : WF Tryd.prog 1 sp 69 [.int .i64 n] h R := by
  refine wf_fn (fn := Tryd.f69) h69 rfl (by kernel_rfl) rfl ?_
  have c1 : ¬ (n : Int) < 1 := by omega
  have c2 : ¬ (1024 : Int) < (n : Int) := by omega
  have w1 : wrapF .i64 ((n : Int) + 63) = ((n + 63 : Nat) : Int) := by rw [wrapI (by omega) (by omega)]; omega
  have w2 : ((n + 63 : Nat) : Int).tdiv 64 = 1 := by rw [Int.tdiv_eq_ediv_of_nonneg (by omega)]; omega
  have w3 : wrapF .i64 1 = 1 := wrapI (by omega) (by omega)
  have hrow : mkRow [Value.int .u64 0] 1 = cellsB [.int .u64 ((0 : Nat) : Int)] .exact := mkRow_eq _ _ (by omega)
  simp only [↓reduceIte, reduceCtorEq, Za, Zb, Zc, Zd, Ze, Zf, Zg, Zh, Zi, Zj, Zk, Zl, Zm, Zn, Zo, Zp, Zq, Zr, Zs, Zt, Zu, Zv, gval, Zw, Zx, Zy, Zz, ZA, ZB, ZC, ZD, ZE, ZF, decide_eq_true_eq, ZG, ZH, ZI, ZJ, ZK, ZL, ZM, ZN, ZO, ZP, ZQ, ZR, ZS, Option.some.injEq, exists_eq_left', ZT, ZU, ZV, ZW, ZX, ZY, true_and, and_true, true_or, or_true, false_or, or_false, ite_true, ite_false, cond_true, cond_false, ZZ, Qa, if_true, if_false, decide_true, decide_false, Qb, Qc, Qd, Qe, Qf, Qg, Qh, Qi, Qj, Qk, Ql, Qm, Qn, Qo, Qp, rb0, rb1, rb2, rb3, rb4, tf0, tf1, tf2, tf3, tf4, Tryd.f69, c1, c2, w1, w2, w3, hrow]
  refine hR _ (by rw [Heap.nx_new, Heap.nx_new]) ⟨?_, ?_, h1, h2, Nat.two_pow_pos _⟩ fun b hb => ?_
  · rw [Heap.get_new_at _ (by rw [Heap.nx_new]; omega)]
  · rw [Heap.get_new_ne _ _ (by rw [Heap.nx_new]; omega), Heap.get_new_same]; rfl
  · rw [Heap.get_new_ne _ _ (by rw [Heap.nx_new]; omega), Heap.get_new_ne _ _ (by omega)]
set_option maxRecDepth 100000 in
theorem mof_spec (h55 : (sp 55).isNone = true) (h69 : (sp 69).isNone = true) {n w : Nat} (h1 : 1 ≤ n) (h2 : n < 64) (hw : w < bitN n) {b off c : Nat} {X : List Value} {k : Kind} (hX : h.get b = some (cellsB X k)) (hXw : X[off]? = some (.int .u64 (w : Int))) (hbn : b < h.nx)
    (hR : ∀ h', h'.nx = h.nx + 2 → MapAt h' (h.nx + 1) h.nx n w → (∀ b, b < h.nx → h'.get b = h.get b) → R (.ret (.tuple #[.pointer (some ⟨h.nx + 1, 0, none⟩), .int .i64 0])) h') : WF Tryd.prog 1 sp 55 [.int .i64 n, .slice (some ⟨b, off, none⟩) 1 c] h R := by
  refine wf_fn (fn := Tryd.f55) h55 rfl (by kernel_rfl) rfl ?_
  simp only [↓reduceIte, reduceCtorEq, Za, Zb, Zc, Zd, Ze, Zf, Zg, Zh, Zi, Zj, Zk, Zl, Zm, Zn, Zo, Zp, Zq, Zr, Zs, Zt, Zu, Zv, gval, Zw, Zx, Zy, Zz, ZA, ZB, ZC, ZD, ZE, ZF, decide_eq_true_eq, ZG, ZH, ZI, ZJ, ZK, ZL, ZM, ZN, ZO, ZP, ZQ, ZR, ZS, Option.some.injEq, exists_eq_left', ZT, ZU, ZV, ZW, ZX, ZY, true_and, and_true, true_or, or_true, false_or, or_false, ite_true, ite_false, cond_true, cond_false, ZZ, Qa, if_true, if_false, decide_true, decide_false, Qb, Qc, Qd, Qe, Qf, Qg, Qh, Qi, Qj, Qk, Ql, Qm, Qn, Qo, Qp, rb0, rb1, rb2, rb3, rb4, tf0, tf1, tf2, tf3, tf4, Tryd.f55]
  refine runC_of (mnew_spec h69 h1 h2 fun h3 n3 m3 k3 => ?_)
  have hX3 := (k3 b hbn).trans hX
  simp (disch := (first | omega | rfl | (simp only [Heap.nx_upd, Heap.nx_new]; omega))) only [↓reduceIte, reduceCtorEq, Za, Zb, Zc, Zd, Ze, Zf, Zg, Zh, Zi, Zj, Zk, Zl, Zm, Zn, Zo, Zp, Zq, Zr, Zs, Zt, Zu, Zv, gval, Zw, Zx, Zy, Zz, ZA, ZB, ZC, ZD, ZE, ZF, decide_eq_true_eq, ZG, ZH, ZI, ZJ, ZK, ZL, ZM, ZN, ZO, ZP, ZQ, ZR, ZS, Option.some.injEq, exists_eq_left', ZT, ZU, ZV, ZW, ZX, ZY, true_and, and_true, true_or, or_true, false_or, or_false, ite_true, ite_false, cond_true, cond_false, ZZ, Qa, if_true, if_false, decide_true, decide_false, Qb, Qc, Qd, Qe, Qf, Qg, Qh, Qi, Qj, Qk, Ql, Qm, Qn, Qo, Qp, rb0, rb1, rb2, rb3, rb4, tf0, tf1, tf2, tf3, tf4, Heap.get_upd_ne, Heap.get_new_ne, Heap.get_new_at, overL_one, if_pos, stX_exactN, m3.m, show ((1 : Int) == 1) = true from rfl]
  refine Run.loop rfl ?_
  have hlX : off < X.length := by
    by_cases q : off < X.length
    · exact q
    · rw [List.getElem?_eq_none (by omega)] at hXw; cases hXw
  have z1 : wrapF .i64 1 = 1 := wrapI (by omega) (by omega)
  simp (disch := (first | omega | rfl | (simp only [Heap.nx_upd, Heap.nx_new]; omega))) only [↓reduceIte, reduceCtorEq, Za, Zb, Zc, Zd, Ze, Zf, Zg, Zh, Zi, Zj, Zk, Zl, Zm, Zn, Zo, Zp, Zq, Zr, Zs, Zt, Zu, Zv, gval, Zw, Zx, Zy, Zz, ZA, ZB, ZC, ZD, ZE, ZF, decide_eq_true_eq, ZG, ZH, ZI, ZJ, ZK, ZL, ZM, ZN, ZO, ZP, ZQ, ZR, ZS, Option.some.injEq, exists_eq_left', ZT, ZU, ZV, ZW, ZX, ZY, true_and, and_true, true_or, or_true, false_or, or_false, ite_true, ite_false, cond_true, cond_false, ZZ, Qa, if_true, if_false, decide_true, decide_false, Qb, Qc, Qd, Qe, Qf, Qg, Qh, Qi, Qj, Qk, Ql, Qm, Qn, Qo, Qp, rb0, rb1, rb2, rb3, rb4, tf0, tf1, tf2, tf3, tf4, Heap.get_upd_ne, Heap.get_new_ne, Heap.get_new_at, overL_one, if_pos, stX_exactN, m3.m, m3.l, hX3, hXw, hlX, Nat.mul_one, z1]
  refine Run.loop rfl ?_
  obtain ⟨h4, hh4⟩ : ∃ h4, h3.upd h.nx (cellsB [.int .u64 (w : Int)] .exact) = h4 := ⟨_, rfl⟩
  have m4 : MapAt h4 (h.nx + 1) h.nx n w := ⟨by rw [← hh4, Heap.get_upd_ne _ _ (by omega)]; exact m3.m, by rw [← hh4, Heap.get_upd_same], h1, h2, hw⟩
  have n4 : h4.nx = h.nx + 2 := by rw [← hh4, Heap.nx_upd, n3]
  have k4 : ∀ b, b < h.nx → h4.get b = h.get b := fun b hb => by rw [← hh4, Heap.get_upd_ne _ _ (by omega)]; exact k3 b hb
  have hm : (n : Int).tmod 64 = n := by rw [Int.tmod_eq_emod_of_nonneg (by omega)]; omega
  have e1 : wrapF .i64 (n : Int) = n := wrapI (by omega) (by omega)
  have c1 : (0 : Int) < (n : Int) := by omega
  have c0 : (0 : Int) ≤ (n : Int) := by omega
  have hsh : ((w : Int)).fdiv (2 ^ (min n IntKind.u64.bits)) = 0 := by
    rw [shr_nat (by omega) h2, Int.toNat_natCast]
    unfold shrN
    rw [Nat.shiftRight_eq_div_pow, Nat.div_eq_of_lt (show w < 2 ^ n from hw)]; rfl
  have z2 : wrapF .i64 0 = 0 := wrapI (by omega) (by omega)
  rw [hh4]
  have q11 : ¬ (1 : Int) < 1 := by decide
  simp (disch := (first | omega | rfl | (simp only [Heap.nx_upd, Heap.nx_new]; omega))) only [↓reduceIte, reduceCtorEq, Za, Zb, Zc, Zd, Ze, Zf, Zg, Zh, Zi, Zj, Zk, Zl, Zm, Zn, Zo, Zp, Zq, Zr, Zs, Zt, Zu, Zv, gval, Zw, Zx, Zy, Zz, ZA, ZB, ZC, ZD, ZE, ZF, decide_eq_true_eq, ZG, ZH, ZI, ZJ, ZK, ZL, ZM, ZN, ZO, ZP, ZQ, ZR, ZS, Option.some.injEq, exists_eq_left', ZT, ZU, ZV, ZW, ZX, ZY, true_and, and_true, true_or, or_true, false_or, or_false, ite_true, ite_false, cond_true, cond_false, ZZ, Qa, if_true, if_false, decide_true, decide_false, Qb, Qc, Qd, Qe, Qf, Qg, Qh, Qi, Qj, Qk, Ql, Qm, Qn, Qo, Qp, rb0, rb1, rb2, rb3, rb4, tf0, tf1, tf2, tf3, tf4, Heap.get_upd_ne, Heap.get_new_ne, Heap.get_new_at, overL_one, if_pos, stX_exactN, hm, e1, z1, q11]
  refine run_draw (ps := [(6, 11)]) (by kernel_rfl) (by kernel_rfl) ?_
  simp (disch := (first | omega | rfl | (simp only [Heap.nx_upd, Heap.nx_new]; omega))) only [↓reduceIte, reduceCtorEq, Za, Zb, Zc, Zd, Ze, Zf, Zg, Zh, Zi, Zj, Zk, Zl, Zm, Zn, Zo, Zp, Zq, Zr, Zs, Zt, Zu, Zv, gval, Zw, Zx, Zy, Zz, ZA, ZB, ZC, ZD, ZE, ZF, decide_eq_true_eq, ZG, ZH, ZI, ZJ, ZK, ZL, ZM, ZN, ZO, ZP, ZQ, ZR, ZS, Option.some.injEq, exists_eq_left', ZT, ZU, ZV, ZW, ZX, ZY, true_and, and_true, true_or, or_true, false_or, or_false, ite_true, ite_false, cond_true, cond_false, ZZ, Qa, if_true, if_false, decide_true, decide_false, Qb, Qc, Qd, Qe, Qf, Qg, Qh, Qi, Qj, Qk, Ql, Qm, Qn, Qo, Qp, rb0, rb1, rb2, rb3, rb4, tf0, tf1, tf2, tf3, tf4, Heap.get_upd_ne, Heap.get_new_ne, Heap.get_new_at, overL_one, if_pos, stX_exactN, m4.m, m4.l, c1, c0, hsh, z2, show ((0 : Int) == 0) = true from rfl, Nat.mul_one]
  exact hR h4 n4 m4 k4
theorem with_bit {w n i : Nat} (hw : w < bitN n) (hi : i < n) : w ||| bitN i < bitN n := Nat.or_lt_two_pow hw (Nat.pow_lt_pow_right (by omega) hi)
theorem without_le (a b : Nat) : without a b ≤ a % 18446744073709551616 := by
  unfold without
  rw [BitVec.toNat_and, BitVec.toNat_ofNat]
  exact Nat.and_le_left
theorem without_bit {w n : Nat} (b : Nat) (hw : w < bitN n) (hn : n < 64) : without w b < bitN n := by
  have h1 := without_le w b
  have h2 := bitN_lt hn
  rw [Nat.mod_eq_of_lt (Nat.lt_trans hw h2)] at h1
  exact Nat.lt_of_le_of_lt h1 hw
def markW (w i : Nat) (on : Bool) : Nat := cond on (w ||| bitN i) (without w (bitN i))
theorem markW_lt {w n i : Nat} {on : Bool} (hw : w < bitN n) (hi : i < n) (hn : n < 64) : markW w i on < bitN n := by
  cases on with
  | true => exact with_bit hw hi
  | false => exact without_bit _ hw hn
set_option maxRecDepth 100000 in
theorem mark_spec (pl : Plain sp) {p lb n w i : Nat} (m : MapAt h p lb n w) (hi : i < n) {on : Bool} (hR : MapAt (h.upd lb (cellsB [.int .u64 (markW w i on : Nat)] .exact)) p lb n (markW w i on) → R (.ret (.int .i64 0)) (h.upd lb (cellsB [.int .u64 (markW w i on : Nat)] .exact))) :
    WF Tryd.prog 1 sp 42 [.pointer (some ⟨p, 0, none⟩), .int .i64 i, .bool on] h R := by
  refine wf_fn (fn := Tryd.f42) pl.p42 rfl (by kernel_rfl) rfl ?_
  have hn2 := m.n2
  simp only [↓reduceIte, reduceCtorEq, Za, Zb, Zc, Zd, Ze, Zf, Zg, Zh, Zi, Zj, Zk, Zl, Zm, Zn, Zo, Zp, Zq, Zr, Zs, Zt, Zu, Zv, gval, Zw, Zx, Zy, Zz, ZA, ZB, ZC, ZD, ZE, ZF, decide_eq_true_eq, ZG, ZH, ZI, ZJ, ZK, ZL, ZM, ZN, ZO, ZP, ZQ, ZR, ZS, Option.some.injEq, exists_eq_left', ZT, ZU, ZV, ZW, ZX, ZY, true_and, and_true, true_or, or_true, false_or, or_false, ite_true, ite_false, cond_true, cond_false, ZZ, Qa, if_true, if_false, decide_true, decide_false, Qb, Qc, Qd, Qe, Qf, Qg, Qh, Qi, Qj, Qk, Ql, Qm, Qn, Qo, Qp, rb0, rb1, rb2, rb3, rb4, tf0, tf1, tf2, tf3, tf4, Tryd.f42]
  refine runC_of (min_spec pl.p59 m ?_)
  rw [decide_eq_true (show 0 ≤ (i : Int) ∧ (i : Int) < n by omega)]
  simp only [↓reduceIte, reduceCtorEq, Za, Zb, Zc, Zd, Ze, Zf, Zg, Zh, Zi, Zj, Zk, Zl, Zm, Zn, Zo, Zp, Zq, Zr, Zs, Zt, Zu, Zv, gval, Zw, Zx, Zy, Zz, ZA, ZB, ZC, ZD, ZE, ZF, decide_eq_true_eq, ZG, ZH, ZI, ZJ, ZK, ZL, ZM, ZN, ZO, ZP, ZQ, ZR, ZS, Option.some.injEq, exists_eq_left', ZT, ZU, ZV, ZW, ZX, ZY, true_and, and_true, true_or, or_true, false_or, or_false, ite_true, ite_false, cond_true, cond_false, ZZ, Qa, if_true, if_false, decide_true, decide_false, Qb, Qc, Qd, Qe, Qf, Qg, Qh, Qi, Qj, Qk, Ql, Qm, Qn, Qo, Qp, rb0, rb1, rb2, rb3, rb4, tf0, tf1, tf2, tf3, tf4]
  have hq : (i : Int).tdiv 64 = 0 := by rw [Int.tdiv_eq_ediv_of_nonneg (by omega)]; omega
  have hr : (i : Int).tmod 64 = i := by rw [Int.tmod_eq_emod_of_nonneg (by omega)]; omega
  have z0 : wrapF .i64 0 = 0 := wrapI (by omega) (by omega)
  have zi : wrapF .i64 (i : Int) = i := wrapI (by omega) (by omega)
  refine run_draw (ps := [(3, 17), (5, 17)]) (by kernel_rfl) (by kernel_rfl) ?_
  simp (disch := (first | omega | rfl | (simp only [Heap.nx_upd, Heap.nx_new]; omega))) only [↓reduceIte, reduceCtorEq, Za, Zb, Zc, Zd, Ze, Zf, Zg, Zh, Zi, Zj, Zk, Zl, Zm, Zn, Zo, Zp, Zq, Zr, Zs, Zt, Zu, Zv, gval, Zw, Zx, Zy, Zz, ZA, ZB, ZC, ZD, ZE, ZF, decide_eq_true_eq, ZG, ZH, ZI, ZJ, ZK, ZL, ZM, ZN, ZO, ZP, ZQ, ZR, ZS, Option.some.injEq, exists_eq_left', ZT, ZU, ZV, ZW, ZX, ZY, true_and, and_true, true_or, or_true, false_or, or_false, ite_true, ite_false, cond_true, cond_false, ZZ, Qa, if_true, if_false, decide_true, decide_false, Qb, Qc, Qd, Qe, Qf, Qg, Qh, Qi, Qj, Qk, Ql, Qm, Qn, Qo, Qp, rb0, rb1, rb2, rb3, rb4, tf0, tf1, tf2, tf3, tf4, Heap.get_upd_ne, Heap.get_new_ne, Heap.get_new_at, overL_one, if_pos, stX_exactN, m.m, m.l, hq, hr, z0, zi, Nat.mul_one]
  refine runCR_of (set_spec pl.p60 m.lt (by omega) ?_)
  simp (disch := (first | omega | rfl | (simp only [Heap.nx_upd, Heap.nx_new]; omega))) only [↓reduceIte, reduceCtorEq, Za, Zb, Zc, Zd, Ze, Zf, Zg, Zh, Zi, Zj, Zk, Zl, Zm, Zn, Zo, Zp, Zq, Zr, Zs, Zt, Zu, Zv, gval, Zw, Zx, Zy, Zz, ZA, ZB, ZC, ZD, ZE, ZF, decide_eq_true_eq, ZG, ZH, ZI, ZJ, ZK, ZL, ZM, ZN, ZO, ZP, ZQ, ZR, ZS, Option.some.injEq, exists_eq_left', ZT, ZU, ZV, ZW, ZX, ZY, true_and, and_true, true_or, or_true, false_or, or_false, ite_true, ite_false, cond_true, cond_false, ZZ, Qa, if_true, if_false, decide_true, decide_false, Qb, Qc, Qd, Qe, Qf, Qg, Qh, Qi, Qj, Qk, Ql, Qm, Qn, Qo, Qp, rb0, rb1, rb2, rb3, rb4, tf0, tf1, tf2, tf3, tf4, Heap.get_upd_ne, Heap.get_new_ne, Heap.get_new_at, overL_one, if_pos, stX_exactN, m.m, m.l, hq, hr, z0, zi, Nat.mul_one]
  exact hR ⟨by rw [Heap.get_upd_ne _ _ m.ne]; exact m.m, by rw [Heap.get_upd_same], m.n1, m.n2, markW_lt m.w hi m.n2⟩
set_option maxRecDepth 100000 in
theorem take_spec (pl : Plain sp) (ht : h.get 0 = some (tabBlk .u8 tab)) {p lb n w : Nat} (m : MapAt h p lb n w)
    (hno : ¬ lowZ w < n → R (.ret (.int .i64 (-1))) h)
    (hok : lowZ w < n → MapAt (h.upd lb (cellsB [.int .u64 (markW w (lowZ w) true : Nat)] .exact)) p lb n (markW w (lowZ w) true) → R (.ret (.int .i64 (lowZ w))) (h.upd lb (cellsB [.int .u64 (markW w (lowZ w) true : Nat)] .exact))) :
    WF Tryd.prog 1 sp 37 [.pointer (some ⟨p, 0, none⟩)] h R := by
  refine wf_fn (fn := Tryd.f37) pl.p37 rfl (by kernel_rfl) rfl ?_
  have hn2 := m.n2
  have hwl : w < 18446744073709551615 := by have := m.w; have : bitN n ≤ 2 ^ 63 := Nat.pow_le_pow_right (by omega) (by omega); omega
  have hl := (lowZ_spec hwl).1
  simp (disch := (first | omega | rfl | (simp only [Heap.nx_upd, Heap.nx_new]; omega))) only [↓reduceIte, reduceCtorEq, Za, Zb, Zc, Zd, Ze, Zf, Zg, Zh, Zi, Zj, Zk, Zl, Zm, Zn, Zo, Zp, Zq, Zr, Zs, Zt, Zu, Zv, gval, Zw, Zx, Zy, Zz, ZA, ZB, ZC, ZD, ZE, ZF, decide_eq_true_eq, ZG, ZH, ZI, ZJ, ZK, ZL, ZM, ZN, ZO, ZP, ZQ, ZR, ZS, Option.some.injEq, exists_eq_left', ZT, ZU, ZV, ZW, ZX, ZY, true_and, and_true, true_or, or_true, false_or, or_false, ite_true, ite_false, cond_true, cond_false, ZZ, Qa, if_true, if_false, decide_true, decide_false, Qb, Qc, Qd, Qe, Qf, Qg, Qh, Qi, Qj, Qk, Ql, Qm, Qn, Qo, Qp, rb0, rb1, rb2, rb3, rb4, tf0, tf1, tf2, tf3, tf4, Heap.get_upd_ne, Heap.get_new_ne, Heap.get_new_at, overL_one, if_pos, stX_exactN, Tryd.f37, m.m, m.l]
  refine Run.loop rfl ?_
  simp (disch := (first | omega | rfl | (simp only [Heap.nx_upd, Heap.nx_new]; omega))) only [↓reduceIte, reduceCtorEq, Za, Zb, Zc, Zd, Ze, Zf, Zg, Zh, Zi, Zj, Zk, Zl, Zm, Zn, Zo, Zp, Zq, Zr, Zs, Zt, Zu, Zv, gval, Zw, Zx, Zy, Zz, ZA, ZB, ZC, ZD, ZE, ZF, decide_eq_true_eq, ZG, ZH, ZI, ZJ, ZK, ZL, ZM, ZN, ZO, ZP, ZQ, ZR, ZS, Option.some.injEq, exists_eq_left', ZT, ZU, ZV, ZW, ZX, ZY, true_and, and_true, true_or, or_true, false_or, or_false, ite_true, ite_false, cond_true, cond_false, ZZ, Qa, if_true, if_false, decide_true, decide_false, Qb, Qc, Qd, Qe, Qf, Qg, Qh, Qi, Qj, Qk, Ql, Qm, Qn, Qo, Qp, rb0, rb1, rb2, rb3, rb4, tf0, tf1, tf2, tf3, tf4, Heap.get_upd_ne, Heap.get_new_ne, Heap.get_new_at, overL_one, if_pos, stX_exactN, m.l, Nat.mul_one]
  refine runC_of (free_spec pl.p56 pl.p70 ht m.lt ?_)
  have z0 : wrapF .i64 0 = 0 := wrapI (by omega) (by omega)
  have z1 : wrapF .i64 1 = 1 := wrapI (by omega) (by omega)
  have z64 : wrapF .i64 64 = 64 := wrapI (by omega) (by omega)
  have zl : wrapF .i64 (lowZ w : Int) = lowZ w := wrapI (by omega) (by omega)
  have zl' : wrapF .i64 (0 + (lowZ w : Int)) = lowZ w := by rw [Int.zero_add, zl]
  have c64 : (lowZ w : Int) < 64 := by omega
  have q11 : ¬ (1 : Int) < 1 := by decide
  by_cases c : lowZ w < n
  · have c1 : (lowZ w : Int) < (n : Int) := by omega
    simp (disch := (first | omega | rfl | (simp only [Heap.nx_upd, Heap.nx_new]; omega))) only [↓reduceIte, reduceCtorEq, Za, Zb, Zc, Zd, Ze, Zf, Zg, Zh, Zi, Zj, Zk, Zl, Zm, Zn, Zo, Zp, Zq, Zr, Zs, Zt, Zu, Zv, gval, Zw, Zx, Zy, Zz, ZA, ZB, ZC, ZD, ZE, ZF, decide_eq_true_eq, ZG, ZH, ZI, ZJ, ZK, ZL, ZM, ZN, ZO, ZP, ZQ, ZR, ZS, Option.some.injEq, exists_eq_left', ZT, ZU, ZV, ZW, ZX, ZY, true_and, and_true, true_or, or_true, false_or, or_false, ite_true, ite_false, cond_true, cond_false, ZZ, Qa, if_true, if_false, decide_true, decide_false, Qb, Qc, Qd, Qe, Qf, Qg, Qh, Qi, Qj, Qk, Ql, Qm, Qn, Qo, Qp, rb0, rb1, rb2, rb3, rb4, tf0, tf1, tf2, tf3, tf4, Heap.get_upd_ne, Heap.get_new_ne, Heap.get_new_at, overL_one, if_pos, stX_exactN, z0, z64, zl, zl', c64, m.m, c1]
    refine runC_of (mark_spec pl m c fun m2 => ?_)
    simp only [↓reduceIte, reduceCtorEq, Za, Zb, Zc, Zd, Ze, Zf, Zg, Zh, Zi, Zj, Zk, Zl, Zm, Zn, Zo, Zp, Zq, Zr, Zs, Zt, Zu, Zv, gval, Zw, Zx, Zy, Zz, ZA, ZB, ZC, ZD, ZE, ZF, decide_eq_true_eq, ZG, ZH, ZI, ZJ, ZK, ZL, ZM, ZN, ZO, ZP, ZQ, ZR, ZS, Option.some.injEq, exists_eq_left', ZT, ZU, ZV, ZW, ZX, ZY, true_and, and_true, true_or, or_true, false_or, or_false, ite_true, ite_false, cond_true, cond_false, ZZ, Qa, if_true, if_false, decide_true, decide_false, Qb, Qc, Qd, Qe, Qf, Qg, Qh, Qi, Qj, Qk, Ql, Qm, Qn, Qo, Qp, rb0, rb1, rb2, rb3, rb4, tf0, tf1, tf2, tf3, tf4]
    exact hok c m2
  · have c1 : ¬ (lowZ w : Int) < (n : Int) := by omega
    simp (disch := (first | omega | rfl | (simp only [Heap.nx_upd, Heap.nx_new]; omega))) only [↓reduceIte, reduceCtorEq, Za, Zb, Zc, Zd, Ze, Zf, Zg, Zh, Zi, Zj, Zk, Zl, Zm, Zn, Zo, Zp, Zq, Zr, Zs, Zt, Zu, Zv, gval, Zw, Zx, Zy, Zz, ZA, ZB, ZC, ZD, ZE, ZF, decide_eq_true_eq, ZG, ZH, ZI, ZJ, ZK, ZL, ZM, ZN, ZO, ZP, ZQ, ZR, ZS, Option.some.injEq, exists_eq_left', ZT, ZU, ZV, ZW, ZX, ZY, true_and, and_true, true_or, or_true, false_or, or_false, ite_true, ite_false, cond_true, cond_false, ZZ, Qa, if_true, if_false, decide_true, decide_false, Qb, Qc, Qd, Qe, Qf, Qg, Qh, Qi, Qj, Qk, Ql, Qm, Qn, Qo, Qp, rb0, rb1, rb2, rb3, rb4, tf0, tf1, tf2, tf3, tf4, Heap.get_upd_ne, Heap.get_new_ne, Heap.get_new_at, overL_one, if_pos, stX_exactN, z0, z1, z64, zl, zl', c64, m.m, c1]
    refine Run.loop rfl ?_
    simp (disch := (first | omega | rfl | (simp only [Heap.nx_upd, Heap.nx_new]; omega))) only [↓reduceIte, reduceCtorEq, Za, Zb, Zc, Zd, Ze, Zf, Zg, Zh, Zi, Zj, Zk, Zl, Zm, Zn, Zo, Zp, Zq, Zr, Zs, Zt, Zu, Zv, gval, Zw, Zx, Zy, Zz, ZA, ZB, ZC, ZD, ZE, ZF, decide_eq_true_eq, ZG, ZH, ZI, ZJ, ZK, ZL, ZM, ZN, ZO, ZP, ZQ, ZR, ZS, Option.some.injEq, exists_eq_left', ZT, ZU, ZV, ZW, ZX, ZY, true_and, and_true, true_or, or_true, false_or, or_false, ite_true, ite_false, cond_true, cond_false, ZZ, Qa, if_true, if_false, decide_true, decide_false, Qb, Qc, Qd, Qe, Qf, Qg, Qh, Qi, Qj, Qk, Ql, Qm, Qn, Qo, Qp, rb0, rb1, rb2, rb3, rb4, tf0, tf1, tf2, tf3, tf4, Heap.get_upd_ne, Heap.get_new_ne, Heap.get_new_at, overL_one, if_pos, stX_exactN, q11]
    exact hno c
set_option maxRecDepth 100000 in
theorem left_spec (pl : Plain sp) {p lb n w : Nat} (m : MapAt h p lb n w) (hR : R (.ret (.int .i64 ((n : Int) - popc 64 w))) h) :
    WF Tryd.prog 1 sp 41 [.pointer (some ⟨p, 0, none⟩)] h R := by
  refine wf_fn (fn := Tryd.f41) pl.p41 rfl (by kernel_rfl) rfl ?_
  have hn2 := m.n2
  have hp := popc_le 64 w
  simp (disch := (first | omega | rfl | (simp only [Heap.nx_upd, Heap.nx_new]; omega))) only [↓reduceIte, reduceCtorEq, Za, Zb, Zc, Zd, Ze, Zf, Zg, Zh, Zi, Zj, Zk, Zl, Zm, Zn, Zo, Zp, Zq, Zr, Zs, Zt, Zu, Zv, gval, Zw, Zx, Zy, Zz, ZA, ZB, ZC, ZD, ZE, ZF, decide_eq_true_eq, ZG, ZH, ZI, ZJ, ZK, ZL, ZM, ZN, ZO, ZP, ZQ, ZR, ZS, Option.some.injEq, exists_eq_left', ZT, ZU, ZV, ZW, ZX, ZY, true_and, and_true, true_or, or_true, false_or, or_false, ite_true, ite_false, cond_true, cond_false, ZZ, Qa, if_true, if_false, decide_true, decide_false, Qb, Qc, Qd, Qe, Qf, Qg, Qh, Qi, Qj, Qk, Ql, Qm, Qn, Qo, Qp, rb0, rb1, rb2, rb3, rb4, tf0, tf1, tf2, tf3, tf4, Heap.get_upd_ne, Heap.get_new_ne, Heap.get_new_at, overL_one, if_pos, stX_exactN, Tryd.f41, m.m, m.l]
  refine Run.loop rfl ?_
  simp (disch := (first | omega | rfl | (simp only [Heap.nx_upd, Heap.nx_new]; omega))) only [↓reduceIte, reduceCtorEq, Za, Zb, Zc, Zd, Ze, Zf, Zg, Zh, Zi, Zj, Zk, Zl, Zm, Zn, Zo, Zp, Zq, Zr, Zs, Zt, Zu, Zv, gval, Zw, Zx, Zy, Zz, ZA, ZB, ZC, ZD, ZE, ZF, decide_eq_true_eq, ZG, ZH, ZI, ZJ, ZK, ZL, ZM, ZN, ZO, ZP, ZQ, ZR, ZS, Option.some.injEq, exists_eq_left', ZT, ZU, ZV, ZW, ZX, ZY, true_and, and_true, true_or, or_true, false_or, or_false, ite_true, ite_false, cond_true, cond_false, ZZ, Qa, if_true, if_false, decide_true, decide_false, Qb, Qc, Qd, Qe, Qf, Qg, Qh, Qi, Qj, Qk, Ql, Qm, Qn, Qo, Qp, rb0, rb1, rb2, rb3, rb4, tf0, tf1, tf2, tf3, tf4, Heap.get_upd_ne, Heap.get_new_ne, Heap.get_new_at, overL_one, if_pos, stX_exactN, m.l, Nat.mul_one]
  refine runC_of (ones_spec pl.p58 m.lt ?_)
  have z1 : wrapF .i64 1 = 1 := wrapI (by omega) (by omega)
  have zl : wrapF .i64 ((n : Int) - popc 64 w) = (n : Int) - popc 64 w := wrapI (by omega) (by omega)
  have q11 : ¬ (1 : Int) < 1 := by decide
  simp (disch := (first | omega | rfl | (simp only [Heap.nx_upd, Heap.nx_new]; omega))) only [↓reduceIte, reduceCtorEq, Za, Zb, Zc, Zd, Ze, Zf, Zg, Zh, Zi, Zj, Zk, Zl, Zm, Zn, Zo, Zp, Zq, Zr, Zs, Zt, Zu, Zv, gval, Zw, Zx, Zy, Zz, ZA, ZB, ZC, ZD, ZE, ZF, decide_eq_true_eq, ZG, ZH, ZI, ZJ, ZK, ZL, ZM, ZN, ZO, ZP, ZQ, ZR, ZS, Option.some.injEq, exists_eq_left', ZT, ZU, ZV, ZW, ZX, ZY, true_and, and_true, true_or, or_true, false_or, or_false, ite_true, ite_false, cond_true, cond_false, ZZ, Qa, if_true, if_false, decide_true, decide_false, Qb, Qc, Qd, Qe, Qf, Qg, Qh, Qi, Qj, Qk, Ql, Qm, Qn, Qo, Qp, rb0, rb1, rb2, rb3, rb4, tf0, tf1, tf2, tf3, tf4, Heap.get_upd_ne, Heap.get_new_ne, Heap.get_new_at, overL_one, if_pos, stX_exactN, z1, zl]
  refine Run.loop rfl ?_
  simp (disch := (first | omega | rfl | (simp only [Heap.nx_upd, Heap.nx_new]; omega))) only [↓reduceIte, reduceCtorEq, Za, Zb, Zc, Zd, Ze, Zf, Zg, Zh, Zi, Zj, Zk, Zl, Zm, Zn, Zo, Zp, Zq, Zr, Zs, Zt, Zu, Zv, gval, Zw, Zx, Zy, Zz, ZA, ZB, ZC, ZD, ZE, ZF, decide_eq_true_eq, ZG, ZH, ZI, ZJ, ZK, ZL, ZM, ZN, ZO, ZP, ZQ, ZR, ZS, Option.some.injEq, exists_eq_left', ZT, ZU, ZV, ZW, ZX, ZY, true_and, and_true, true_or, or_true, false_or, or_false, ite_true, ite_false, cond_true, cond_false, ZZ, Qa, if_true, if_false, decide_true, decide_false, Qb, Qc, Qd, Qe, Qf, Qg, Qh, Qi, Qj, Qk, Ql, Qm, Qn, Qo, Qp, rb0, rb1, rb2, rb3, rb4, tf0, tf1, tf2, tf3, tf4, Heap.get_upd_ne, Heap.get_new_ne, Heap.get_new_at, overL_one, if_pos, stX_exactN, q11]
  exact hR
theorem bs1_81 (v : Int) (nx : Nat) : effBuildSlice Tryd.prog 81 1 [(0, .int .u64 v)] nx = some ⟨.slice (some ⟨nx, 0, none⟩) 1 1, [], [cellsB [.int .u64 v] .exact]⟩ := by
  rw [u_buildSlice 81 1 nx _ mk_81 (by omega)]; rfl
set_option maxRecDepth 100000 in
theorem mwords_spec (pl : Plain sp) {p lb n w : Nat} (m : MapAt h p lb n w) (hR : ∀ h', h'.nx = h.nx + 2 → h'.get (h.nx + 1) = some (cellsB [.int .u64 w] (.loose 1)) → (∀ b, b < h.nx → h'.get b = h.get b) → R (.ret (.slice (some ⟨h.nx + 1, 0, none⟩) 1 1)) h') :
    WF Tryd.prog 1 sp 57 [.pointer (some ⟨p, 0, none⟩)] h R := by
  refine wf_fn (fn := Tryd.f57) pl.p57 rfl (by kernel_rfl) rfl ?_
  simp (disch := (first | omega | rfl | (simp only [Heap.nx_upd, Heap.nx_new]; omega))) only [↓reduceIte, reduceCtorEq, Za, Zb, Zc, Zd, Ze, Zf, Zg, Zh, Zi, Zj, Zk, Zl, Zm, Zn, Zo, Zp, Zq, Zr, Zs, Zt, Zu, Zv, gval, Zw, Zx, Zy, Zz, ZA, ZB, ZC, ZD, ZE, ZF, decide_eq_true_eq, ZG, ZH, ZI, ZJ, ZK, ZL, ZM, ZN, ZO, ZP, ZQ, ZR, ZS, Option.some.injEq, exists_eq_left', ZT, ZU, ZV, ZW, ZX, ZY, true_and, and_true, true_or, or_true, false_or, or_false, ite_true, ite_false, cond_true, cond_false, ZZ, Qa, if_true, if_false, decide_true, decide_false, Qb, Qc, Qd, Qe, Qf, Qg, Qh, Qi, Qj, Qk, Ql, Qm, Qn, Qo, Qp, rb0, rb1, rb2, rb3, rb4, tf0, tf1, tf2, tf3, tf4, Heap.get_upd_ne, Heap.get_new_ne, Heap.get_new_at, overL_one, if_pos, stX_exactN, Tryd.f57, m.m, m.l]
  refine Run.loop rfl ?_
  have z1 : wrapF .i64 1 = 1 := wrapI (by omega) (by omega)
  have q11 : ¬ (1 : Int) < 1 := by decide
  have happ := aAppend_nil (P := Tryd.prog) app_81_81 1 (.slice (some ⟨h.nx, 0, none⟩) 1 1) (h.new (cellsB [.int .u64 (w : Int)] .exact)).get (h.nx + 1) rfl (by omega) (by omega) (by rw [firstL_slc _ _ _ _ _ _ _ _ _ (Heap.get_new_same _ _) (by simp)])
  simp (disch := (first | omega | rfl | (simp only [Heap.nx_upd, Heap.nx_new]; omega))) only [↓reduceIte, reduceCtorEq, Za, Zb, Zc, Zd, Ze, Zf, Zg, Zh, Zi, Zj, Zk, Zl, Zm, Zn, Zo, Zp, Zq, Zr, Zs, Zt, Zu, Zv, gval, Zw, Zx, Zy, Zz, ZA, ZB, ZC, ZD, ZE, ZF, decide_eq_true_eq, ZG, ZH, ZI, ZJ, ZK, ZL, ZM, ZN, ZO, ZP, ZQ, ZR, ZS, Option.some.injEq, exists_eq_left', ZT, ZU, ZV, ZW, ZX, ZY, true_and, and_true, true_or, or_true, false_or, or_false, ite_true, ite_false, cond_true, cond_false, ZZ, Qa, if_true, if_false, decide_true, decide_false, Qb, Qc, Qd, Qe, Qf, Qg, Qh, Qi, Qj, Qk, Ql, Qm, Qn, Qo, Qp, rb0, rb1, rb2, rb3, rb4, tf0, tf1, tf2, tf3, tf4, Heap.get_upd_ne, Heap.get_new_ne, Heap.get_new_at, overL_one, if_pos, stX_exactN, m.l, Nat.mul_one, bs1_81, happ, z1]
  refine Run.loop rfl ?_
  simp (disch := (first | omega | rfl | (simp only [Heap.nx_upd, Heap.nx_new]; omega))) only [↓reduceIte, reduceCtorEq, Za, Zb, Zc, Zd, Ze, Zf, Zg, Zh, Zi, Zj, Zk, Zl, Zm, Zn, Zo, Zp, Zq, Zr, Zs, Zt, Zu, Zv, gval, Zw, Zx, Zy, Zz, ZA, ZB, ZC, ZD, ZE, ZF, decide_eq_true_eq, ZG, ZH, ZI, ZJ, ZK, ZL, ZM, ZN, ZO, ZP, ZQ, ZR, ZS, Option.some.injEq, exists_eq_left', ZT, ZU, ZV, ZW, ZX, ZY, true_and, and_true, true_or, or_true, false_or, or_false, ite_true, ite_false, cond_true, cond_false, ZZ, Qa, if_true, if_false, decide_true, decide_false, Qb, Qc, Qd, Qe, Qf, Qg, Qh, Qi, Qj, Qk, Ql, Qm, Qn, Qo, Qp, rb0, rb1, rb2, rb3, rb4, tf0, tf1, tf2, tf3, tf4, Heap.get_upd_ne, Heap.get_new_ne, Heap.get_new_at, overL_one, if_pos, stX_exactN, q11]
  refine hR _ (by rw [Heap.nx_new, Heap.nx_new]) (by rw [Heap.get_new_at _ (by rw [Heap.nx_new]; omega)]) fun b hb => ?_
  rw [Heap.get_new_ne _ _ (by rw [Heap.nx_new]; omega), Heap.get_new_ne _ _ (by omega)]
end Go.Proofs.YtmadjdgipfdnkaaDoor
end
section
/- Inodes: maps, keep, Alloc, Left. Conditions: the disk lies as the rule names. -/
namespace Go.Proofs.YtmadjdgipfdnkaaDoor
open Go.AM
open Nat renaming reduceBEq → Za, reduceEqDiff → Zb, reduceAdd → Zc, reduceSub → Zd, reduceMul → Ze, reduceLT → Zf, reduceLeDiff → Zg, reduceDiv → Zh, reduceMod → Zi, reducePow → Zj, blt_eq → ZF, zero_add → Qc, add_zero → Qd
open Int renaming reduceAdd → Zk, reduceSub → Zl, reduceMul → Zm, reduceLT → Zn, reduceLE → Zo, reduceEq → Zp, reduceNe → Zq, reduceNeg → Zr, reduceToNat → Zs, reduceDiv → Zt, reduceMod → Zu, reducePow → Zv, cast_ofNat_Int → Zw, toNat_natCast → Qb
open List renaming set_cons_zero → Zx, set_cons_succ → Zy, map_toArray → Zz, cons_append → ZA, nil_append → ZB, append_nil → ZC, all_cons → ZD, all_nil → ZE, getElem?_cons_zero → ZJ, getElem?_cons_succ → ZK, length_cons → ZL, length_nil → ZM, map_cons → ZN, map_nil → ZO, isEmpty_nil → Qe, any_cons → Qf, any_nil → Qg, drop_zero → Qk, drop_succ_cons → Ql, take_succ_cons → Qm, take_zero → Qn, take_nil → Qo, drop_nil → Qp
open Bool renaming and_true → ZG, true_and → ZH, and_self → ZI, not_true → ZT, not_false → ZU, true_eq_false → ZZ, false_eq_true → Qa, or_false → Qh, false_or → Qi, and_eq_true → Qj
open Option renaming map_some → ZP, map_none → ZQ, bind_some → ZR, getD_some → ZS, isNone_some → ZV, isNone_none → ZW, isSome_some → ZX, isSome_none → ZY
set_option linter.unusedSimpArgs false
variable {sp : Special} {h : Heap} {R : Out → Heap → Prop} {bd bl : Nat} {s : FS}
theorem foot_slc (t : TypeId) (x : Operand) (k : IntKind) (c : Int) (ρ : Operand → Value) : foot (.slice t x (some (.const (.int k c))) none none) ρ = blkOf (ρ x) ++ (blkOf (ρ (.const (.int k c))) ++ []) := rfl
theorem blk_slc (b o n c : Nat) (_ : Option Nat) : blkOf (.slice (some ⟨b, o, none⟩) n c) = [b] := rfl
theorem blk_int (k : IntKind) (c : Int) : blkOf (.int k c) = [] := rfl
set_option maxRecDepth 100000 in
theorem maps_spec (pl : Plain sp) (f : Fs h bd bl s)
    (hR : ∀ h' pa la pb lb, Fs h' bd bl s → MapAt h' pa la 32 s.a → MapAt h' pb lb s.n s.b → h.nx ≤ la ∧ la < pa ∧ pa < lb ∧ lb < pb ∧ pb < h'.nx → (∀ b', b' < h.nx → b' ≠ bd → h'.get b' = h.get b') → R (.ret (.tuple #[.pointer (some ⟨pa, 0, none⟩), .pointer (some ⟨pb, 0, none⟩), .int .i64 0])) h') :
    WF Tryd.prog 1 sp 36 [.iface 23 (.pointer (some ⟨bd, 0, none⟩))] h R := by
  refine wf_fn (fn := Tryd.f36) pl.p36 rfl (by kernel_rfl) rfl ?_
  have n1 := f.wf.n1
  have n2 := f.wf.n2
  simp only [↓reduceIte, reduceCtorEq, Za, Zb, Zc, Zd, Ze, Zf, Zg, Zh, Zi, Zj, Zk, Zl, Zm, Zn, Zo, Zp, Zq, Zr, Zs, Zt, Zu, Zv, gval, Zw, Zx, Zy, Zz, ZA, ZB, ZC, ZD, ZE, ZF, decide_eq_true_eq, ZG, ZH, ZI, ZJ, ZK, ZL, ZM, ZN, ZO, ZP, ZQ, ZR, ZS, Option.some.injEq, exists_eq_left', ZT, ZU, ZV, ZW, ZX, ZY, true_and, and_true, true_or, or_true, false_or, or_false, ite_true, ite_false, cond_true, cond_false, ZZ, Qa, if_true, if_false, decide_true, decide_false, Qb, Qc, Qd, Qe, Qf, Qg, Qh, Qi, Qj, Qk, Ql, Qm, Qn, Qo, Qp, rb0, rb1, rb2, rb3, rb4, tf0, tf1, tf2, tf3, tf4, Tryd.f36]
  refine runC_of (fget_spec pl f (b := 0) (by omega) fun h1 m1 g1 f1 k1 => ?_)
  have hrl : (u64s (rowD s.D 0)).length = 32 := by rw [List.length_map, rowD_len]
  have r1 : (u64s (rowD s.D 0))[1]? = some (.int .u64 (s.n : Int)) := by rw [List.getElem?_map, rowD_get (by omega)]; rfl
  have r2 : (u64s (rowD s.D 0))[2]? = some (.int .u64 ((s.a : Nat) : Int)) := by rw [List.getElem?_map, rowD_get (by omega)]; rfl
  have r3 : (u64s (rowD s.D 0))[3]? = some (.int .u64 ((s.b : Nat) : Int)) := by rw [List.getElem?_map, rowD_get (by omega)]; rfl
  have w1 : wrapF .i64 (s.n : Int) = s.n := wrapI (by omega) (by omega)
  have c1 : ¬ (s.n : Int) < 1 := by omega
  have c2 : ¬ (1024 : Int) < (s.n : Int) := by omega
  have hsl : slS (some 1) (some ⟨h.nx, 0, none⟩) 32 32 (some (.int .i64 2)) (some (.int .i64 3)) none h1.get = ret (.slice (some ⟨h.nx, 2, none⟩) 1 30) := slS_mid_loose (k := .i64) (k' := .i64) (off := 0) (n := 32) (c := 32) (l := 2) (hi := 3) g1 (by rw [hrl]) (by omega) (by omega)
  simp (disch := (first | omega | rfl | (simp only [Heap.nx_upd, Heap.nx_new]; omega))) only [↓reduceIte, reduceCtorEq, Za, Zb, Zc, Zd, Ze, Zf, Zg, Zh, Zi, Zj, Zk, Zl, Zm, Zn, Zo, Zp, Zq, Zr, Zs, Zt, Zu, Zv, gval, Zw, Zx, Zy, Zz, ZA, ZB, ZC, ZD, ZE, ZF, decide_eq_true_eq, ZG, ZH, ZI, ZJ, ZK, ZL, ZM, ZN, ZO, ZP, ZQ, ZR, ZS, Option.some.injEq, exists_eq_left', ZT, ZU, ZV, ZW, ZX, ZY, true_and, and_true, true_or, or_true, false_or, or_false, ite_true, ite_false, cond_true, cond_false, ZZ, Qa, if_true, if_false, decide_true, decide_false, Qb, Qc, Qd, Qe, Qf, Qg, Qh, Qi, Qj, Qk, Ql, Qm, Qn, Qo, Qp, rb0, rb1, rb2, rb3, rb4, tf0, tf1, tf2, tf3, tf4, Heap.get_upd_ne, Heap.get_new_ne, Heap.get_new_at, overL_one, if_pos, stX_exactN, show ((0 : Int) == 0) = true from rfl, g1, hrl, r1, w1, c1, c2, hsl]
  refine runC_of (mof_spec pl.p55 pl.p69 (n := 32) (w := s.a) (by omega) (by omega) f.wf.a g1 r2 (by omega) fun h2 m2 a2 k2 => ?_)
  have g2 : h2.get h.nx = some (cellsB (u64s (rowD s.D 0)) (.loose 1)) := (k2 _ (by omega)).trans g1
  have hsl2 : slS (some 1) (some ⟨h.nx, 0, none⟩) 32 32 (some (.int .i64 3)) (some (.int .i64 4)) none h2.get = ret (.slice (some ⟨h.nx, 3, none⟩) 1 29) := slS_mid_loose (k := .i64) (k' := .i64) (off := 0) (n := 32) (c := 32) (l := 3) (hi := 4) g2 (by rw [hrl]) (by omega) (by omega)
  have w2 : wrapF .i64 ((s.n : Int) + 63) = ((s.n + 63 : Nat) : Int) := by rw [wrapI (by omega) (by omega)]; omega
  have w3 : ((s.n + 63 : Nat) : Int).tdiv 64 = 1 := by rw [Int.tdiv_eq_ediv_of_nonneg (by omega)]; omega
  have w4 : wrapF .i64 1 = 1 := wrapI (by omega) (by omega)
  have w5 : wrapF .i64 (3 + 1) = 4 := wrapI (by omega) (by omega)
  have w6 : wrapF .i64 4 = 4 := wrapI (by omega) (by omega)
  simp (disch := (first | omega | rfl | (simp only [Heap.nx_upd, Heap.nx_new]; omega))) only [↓reduceIte, reduceCtorEq, Za, Zb, Zc, Zd, Ze, Zf, Zg, Zh, Zi, Zj, Zk, Zl, Zm, Zn, Zo, Zp, Zq, Zr, Zs, Zt, Zu, Zv, gval, Zw, Zx, Zy, Zz, ZA, ZB, ZC, ZD, ZE, ZF, decide_eq_true_eq, ZG, ZH, ZI, ZJ, ZK, ZL, ZM, ZN, ZO, ZP, ZQ, ZR, ZS, Option.some.injEq, exists_eq_left', ZT, ZU, ZV, ZW, ZX, ZY, true_and, and_true, true_or, or_true, false_or, or_false, ite_true, ite_false, cond_true, cond_false, ZZ, Qa, if_true, if_false, decide_true, decide_false, Qb, Qc, Qd, Qe, Qf, Qg, Qh, Qi, Qj, Qk, Ql, Qm, Qn, Qo, Qp, rb0, rb1, rb2, rb3, rb4, tf0, tf1, tf2, tf3, tf4, Heap.get_upd_ne, Heap.get_new_ne, Heap.get_new_at, overL_one, if_pos, stX_exactN, w2, w3, w4, w5, w6, hsl2]
  refine runC_of (mof_spec pl.p55 pl.p69 (n := s.n) (w := s.b) (by omega) (by omega) f.wf.b g2 r3 (by omega) fun h3 m3 a3 k3 => ?_)
  simp (disch := (first | omega | rfl | (simp only [Heap.nx_upd, Heap.nx_new]; omega))) only [↓reduceIte, reduceCtorEq, Za, Zb, Zc, Zd, Ze, Zf, Zg, Zh, Zi, Zj, Zk, Zl, Zm, Zn, Zo, Zp, Zq, Zr, Zs, Zt, Zu, Zv, gval, Zw, Zx, Zy, Zz, ZA, ZB, ZC, ZD, ZE, ZF, decide_eq_true_eq, ZG, ZH, ZI, ZJ, ZK, ZL, ZM, ZN, ZO, ZP, ZQ, ZR, ZS, Option.some.injEq, exists_eq_left', ZT, ZU, ZV, ZW, ZX, ZY, true_and, and_true, true_or, or_true, false_or, or_false, ite_true, ite_false, cond_true, cond_false, ZZ, Qa, if_true, if_false, decide_true, decide_false, Qb, Qc, Qd, Qe, Qf, Qg, Qh, Qi, Qj, Qk, Ql, Qm, Qn, Qo, Qp, rb0, rb1, rb2, rb3, rb4, tf0, tf1, tf2, tf3, tf4, Heap.get_upd_ne, Heap.get_new_ne, Heap.get_new_at, overL_one, if_pos, stX_exactN, show ((0 : Int) == 0) = true from rfl]
  have q1 := f.d.bd_lt
  have q2 := f.d.bl_lt
  exact hR h3 _ _ _ _ (f1.keep (by omega) (by rw [k3 _ (by omega), k2 _ (by omega)]) (by rw [k3 _ (by omega), k2 _ (by omega)])) (a2.keep (k3 _ (by omega)) (k3 _ (by omega))) a3 (by omega) (fun b' h1' h2' => by rw [k3 _ (by omega), k2 _ (by omega)]; exact k1 b' h1' h2')
set_option maxRecDepth 100000 in
theorem keep_spec (pl : Plain sp) (f : Fs h bd bl s) {pa la pb lb a b : Nat} (ma : MapAt h pa la 32 a) (mb : MapAt h pb lb s.n b) (hlt : pa < h.nx ∧ la < h.nx ∧ pb < h.nx ∧ lb < h.nx) (hne : pa ≠ bd ∧ la ≠ bd ∧ pb ≠ bd ∧ lb ≠ bd)
    (hR : ∀ h', Fs h' bd bl (s.maps a b) → h.nx ≤ h'.nx → (∀ b', b' < h.nx → b' ≠ bd → b' ≠ bl → h'.get b' = h.get b') → R (.ret (.int .i64 0)) h') :
    WF Tryd.prog 1 sp 38 [.iface 23 (.pointer (some ⟨bd, 0, none⟩)), .pointer (some ⟨pa, 0, none⟩), .pointer (some ⟨pb, 0, none⟩)] h R := by
  refine wf_fn (fn := Tryd.f38) pl.p38 rfl (by kernel_rfl) rfl ?_
  have n1 := f.wf.n1
  have n2 := f.wf.n2
  have q1 := f.d.bd_lt
  have q2 := f.d.bl_lt
  simp only [↓reduceIte, reduceCtorEq, Za, Zb, Zc, Zd, Ze, Zf, Zg, Zh, Zi, Zj, Zk, Zl, Zm, Zn, Zo, Zp, Zq, Zr, Zs, Zt, Zu, Zv, gval, Zw, Zx, Zy, Zz, ZA, ZB, ZC, ZD, ZE, ZF, decide_eq_true_eq, ZG, ZH, ZI, ZJ, ZK, ZL, ZM, ZN, ZO, ZP, ZQ, ZR, ZS, Option.some.injEq, exists_eq_left', ZT, ZU, ZV, ZW, ZX, ZY, true_and, and_true, true_or, or_true, false_or, or_false, ite_true, ite_false, cond_true, cond_false, ZZ, Qa, if_true, if_false, decide_true, decide_false, Qb, Qc, Qd, Qe, Qf, Qg, Qh, Qi, Qj, Qk, Ql, Qm, Qn, Qo, Qp, rb0, rb1, rb2, rb3, rb4, tf0, tf1, tf2, tf3, tf4, Tryd.f38]
  refine runC_of (fget_spec pl f (b := 0) (by omega) fun h1 m1 g1 f1 k1 => ?_)
  have hrl : (u64s (rowD s.D 0)).length = 32 := by rw [List.length_map, rowD_len]
  have ma1 : MapAt h1 pa la 32 a := ma.keep (k1 _ (by omega) (by omega)) (k1 _ (by omega) (by omega))
  have mb1 : MapAt h1 pb lb s.n b := mb.keep (k1 _ (by omega) (by omega)) (k1 _ (by omega) (by omega))
  have hsl : slS (some 1) (some ⟨h.nx, 0, none⟩) 32 32 (some (.int .i64 2)) none none h1.get = ret (.slice (some ⟨h.nx, 2, none⟩) 30 30) := slS_loose (k := .i64) (off := 0) (n := 32) (c := 32) (l := 2) g1 (by rw [hrl]) (by omega) (by omega)
  simp (disch := (first | omega | rfl | (simp only [Heap.nx_upd, Heap.nx_new]; omega))) only [↓reduceIte, reduceCtorEq, Za, Zb, Zc, Zd, Ze, Zf, Zg, Zh, Zi, Zj, Zk, Zl, Zm, Zn, Zo, Zp, Zq, Zr, Zs, Zt, Zu, Zv, gval, Zw, Zx, Zy, Zz, ZA, ZB, ZC, ZD, ZE, ZF, decide_eq_true_eq, ZG, ZH, ZI, ZJ, ZK, ZL, ZM, ZN, ZO, ZP, ZQ, ZR, ZS, Option.some.injEq, exists_eq_left', ZT, ZU, ZV, ZW, ZX, ZY, true_and, and_true, true_or, or_true, false_or, or_false, ite_true, ite_false, cond_true, cond_false, ZZ, Qa, if_true, if_false, decide_true, decide_false, Qb, Qc, Qd, Qe, Qf, Qg, Qh, Qi, Qj, Qk, Ql, Qm, Qn, Qo, Qp, rb0, rb1, rb2, rb3, rb4, tf0, tf1, tf2, tf3, tf4, Heap.get_upd_ne, Heap.get_new_ne, Heap.get_new_at, overL_one, if_pos, stX_exactN, show ((0 : Int) == 0) = true from rfl]
  refine run_draw (ps := [(1, 3)]) (by kernel_rfl) (by kernel_rfl) ?_
  simp (disch := (first | omega | rfl | (simp only [Heap.nx_upd, Heap.nx_new]; omega))) only [↓reduceIte, reduceCtorEq, Za, Zb, Zc, Zd, Ze, Zf, Zg, Zh, Zi, Zj, Zk, Zl, Zm, Zn, Zo, Zp, Zq, Zr, Zs, Zt, Zu, Zv, gval, Zw, Zx, Zy, Zz, ZA, ZB, ZC, ZD, ZE, ZF, decide_eq_true_eq, ZG, ZH, ZI, ZJ, ZK, ZL, ZM, ZN, ZO, ZP, ZQ, ZR, ZS, Option.some.injEq, exists_eq_left', ZT, ZU, ZV, ZW, ZX, ZY, true_and, and_true, true_or, or_true, false_or, or_false, ite_true, ite_false, cond_true, cond_false, ZZ, Qa, if_true, if_false, decide_true, decide_false, Qb, Qc, Qd, Qe, Qf, Qg, Qh, Qi, Qj, Qk, Ql, Qm, Qn, Qo, Qp, rb0, rb1, rb2, rb3, rb4, tf0, tf1, tf2, tf3, tf4, Heap.get_upd_ne, Heap.get_new_ne, Heap.get_new_at, overL_one, if_pos, stX_exactN, hsl]
  refine runCR_of (mwords_spec pl ma1 fun h2 m2 g2 k2 => ?_)
  have gx2 : h2.get h.nx = some (cellsB (u64s (rowD s.D 0)) (.loose 1)) := (k2 _ (by omega)).trans g1
  have hcp := aCopy_at (P := Tryd.prog) (ts := #[81, 81]) (dt := 81) (st := 81) rfl (s := 1) (by kernel_rfl) (b := h.nx) (off := 2) (dn := 30) (c := 30) (n := 1) (x := .slice (some ⟨h1.nx + 1, 0, none⟩) 1 1) (g := h2.get) (L := u64s (rowD s.D 0)) (cells := [.int .u64 a]) (k := .loose 1) rfl
    (firstL_slc _ 1 1 (h1.nx + 1) 0 _ _ _ _ g2 (by simp)) gx2 (by simp) (by rw [hrl]; show 2 + 1 ≤ 32; omega)
  rw [overL_one _ (by rw [hrl]; omega)] at hcp
  have hs12 : sameB (h1.get h.nx) (h2.get h.nx) = true := sameB_of (k2 _ (by omega)).symm
  simp (disch := (first | omega | rfl | (simp only [Heap.nx_upd, Heap.nx_new]; omega))) only [↓reduceIte, reduceCtorEq, Za, Zb, Zc, Zd, Ze, Zf, Zg, Zh, Zi, Zj, Zk, Zl, Zm, Zn, Zo, Zp, Zq, Zr, Zs, Zt, Zu, Zv, gval, Zw, Zx, Zy, Zz, ZA, ZB, ZC, ZD, ZE, ZF, decide_eq_true_eq, ZG, ZH, ZI, ZJ, ZK, ZL, ZM, ZN, ZO, ZP, ZQ, ZR, ZS, Option.some.injEq, exists_eq_left', ZT, ZU, ZV, ZW, ZX, ZY, true_and, and_true, true_or, or_true, false_or, or_false, ite_true, ite_false, cond_true, cond_false, ZZ, Qa, if_true, if_false, decide_true, decide_false, Qb, Qc, Qd, Qe, Qf, Qg, Qh, Qi, Qj, Qk, Ql, Qm, Qn, Qo, Qp, rb0, rb1, rb2, rb3, rb4, tf0, tf1, tf2, tf3, tf4, Heap.get_upd_ne, Heap.get_new_ne, Heap.get_new_at, overL_one, if_pos, stX_exactN, hcp, foot_slc, blk_slc, blk_int, List.append_nil, List.all_cons, List.all_nil, hs12, Bool.and_true, true_and]
  obtain ⟨h3, hh3⟩ : ∃ h3, h2.upd h.nx (cellsB ((u64s (rowD s.D 0)).set 2 (.int .u64 a)) (.loose 1)) = h3 := ⟨_, rfl⟩
  have n3 : h3.nx = h2.nx := by rw [← hh3, Heap.nx_upd]
  have g3 : h3.get h.nx = some (cellsB ((u64s (rowD s.D 0)).set 2 (.int .u64 a)) (.loose 1)) := by rw [← hh3, Heap.get_upd_same]
  have k3 : ∀ b', b' ≠ h.nx → h3.get b' = h2.get b' := fun b' hb' => by rw [← hh3, Heap.get_upd_ne _ _ hb']
  have hrl3 : ((u64s (rowD s.D 0)).set 2 (.int .u64 (a : Int))).length = 32 := by rw [List.length_set, hrl]
  have mb3 : MapAt h3 pb lb s.n b := mb1.keep (by rw [k3 _ (by omega), k2 _ (by omega)]) (by rw [k3 _ (by omega), k2 _ (by omega)])
  rw [hh3]
  have hsl2 : slS (some 1) (some ⟨h.nx, 0, none⟩) 32 32 (some (.int .i64 3)) none none h3.get = ret (.slice (some ⟨h.nx, 3, none⟩) 29 29) := slS_loose (k := .i64) (off := 0) (n := 32) (c := 32) (l := 3) g3 (by rw [hrl3]) (by omega) (by omega)
  refine run_draw (ps := [(1, 3)]) (by kernel_rfl) (by kernel_rfl) ?_
  simp (disch := (first | omega | rfl | (simp only [Heap.nx_upd, Heap.nx_new]; omega))) only [↓reduceIte, reduceCtorEq, Za, Zb, Zc, Zd, Ze, Zf, Zg, Zh, Zi, Zj, Zk, Zl, Zm, Zn, Zo, Zp, Zq, Zr, Zs, Zt, Zu, Zv, gval, Zw, Zx, Zy, Zz, ZA, ZB, ZC, ZD, ZE, ZF, decide_eq_true_eq, ZG, ZH, ZI, ZJ, ZK, ZL, ZM, ZN, ZO, ZP, ZQ, ZR, ZS, Option.some.injEq, exists_eq_left', ZT, ZU, ZV, ZW, ZX, ZY, true_and, and_true, true_or, or_true, false_or, or_false, ite_true, ite_false, cond_true, cond_false, ZZ, Qa, if_true, if_false, decide_true, decide_false, Qb, Qc, Qd, Qe, Qf, Qg, Qh, Qi, Qj, Qk, Ql, Qm, Qn, Qo, Qp, rb0, rb1, rb2, rb3, rb4, tf0, tf1, tf2, tf3, tf4, Heap.get_upd_ne, Heap.get_new_ne, Heap.get_new_at, overL_one, if_pos, stX_exactN, hsl2]
  refine runCR_of (mwords_spec pl mb3 fun h4 m4 g4 k4 => ?_)
  have gx4 : h4.get h.nx = some (cellsB ((u64s (rowD s.D 0)).set 2 (.int .u64 a)) (.loose 1)) := (k4 _ (by omega)).trans g3
  have hcp2 := aCopy_at (P := Tryd.prog) (ts := #[81, 81]) (dt := 81) (st := 81) rfl (s := 1) (by kernel_rfl) (b := h.nx) (off := 3) (dn := 29) (c := 29) (n := 1) (x := .slice (some ⟨h3.nx + 1, 0, none⟩) 1 1) (g := h4.get) (L := (u64s (rowD s.D 0)).set 2 (.int .u64 a)) (cells := [.int .u64 b]) (k := .loose 1) rfl
    (firstL_slc _ 1 1 (h3.nx + 1) 0 _ _ _ _ g4 (by simp)) gx4 (by simp) (by rw [hrl3]; show 3 + 1 ≤ 32; omega)
  rw [overL_one _ (by rw [hrl3]; omega)] at hcp2
  have hs34 : sameB (h3.get h.nx) (h4.get h.nx) = true := sameB_of (k4 _ (by omega)).symm
  simp (disch := (first | omega | rfl | (simp only [Heap.nx_upd, Heap.nx_new]; omega))) only [↓reduceIte, reduceCtorEq, Za, Zb, Zc, Zd, Ze, Zf, Zg, Zh, Zi, Zj, Zk, Zl, Zm, Zn, Zo, Zp, Zq, Zr, Zs, Zt, Zu, Zv, gval, Zw, Zx, Zy, Zz, ZA, ZB, ZC, ZD, ZE, ZF, decide_eq_true_eq, ZG, ZH, ZI, ZJ, ZK, ZL, ZM, ZN, ZO, ZP, ZQ, ZR, ZS, Option.some.injEq, exists_eq_left', ZT, ZU, ZV, ZW, ZX, ZY, true_and, and_true, true_or, or_true, false_or, or_false, ite_true, ite_false, cond_true, cond_false, ZZ, Qa, if_true, if_false, decide_true, decide_false, Qb, Qc, Qd, Qe, Qf, Qg, Qh, Qi, Qj, Qk, Ql, Qm, Qn, Qo, Qp, rb0, rb1, rb2, rb3, rb4, tf0, tf1, tf2, tf3, tf4, Heap.get_upd_ne, Heap.get_new_ne, Heap.get_new_at, overL_one, if_pos, stX_exactN, hcp2, foot_slc, blk_slc, blk_int, List.append_nil, List.all_cons, List.all_nil, hs34, Bool.and_true, true_and, u_invoke, invK_iface, inv_put]
  obtain ⟨h5, hh5⟩ : ∃ h5, h4.upd h.nx (cellsB (((u64s (rowD s.D 0)).set 2 (.int .u64 a)).set 3 (.int .u64 b)) (.loose 1)) = h5 := ⟨_, rfl⟩
  have n5 : h5.nx = h4.nx := by rw [← hh5, Heap.nx_upd]
  have g5 : h5.get h.nx = some (cellsB (((u64s (rowD s.D 0)).set 2 (.int .u64 a)).set 3 (.int .u64 b)) (.loose 1)) := by rw [← hh5, Heap.get_upd_same]
  have k5 : ∀ b', b' ≠ h.nx → h5.get b' = h4.get b' := fun b' hb' => by rw [← hh5, Heap.get_upd_ne _ _ hb']
  rw [hh5]
  have k15 : ∀ b', b' < h.nx → h5.get b' = h1.get b' := fun b' hb' => by rw [k5 _ (by omega), k4 _ (by omega), k3 _ (by omega), k2 _ (by omega)]
  have hrow : ((u64s (rowD s.D 0)).set 2 (.int .u64 (a : Int))).set 3 (.int .u64 (b : Int)) = u64s (rowD (s.maps a b).D 0) := by
    apply List.ext_getElem?
    intro j
    rw [List.getElem?_set, List.getElem?_set, hrl3, hrl]
    by_cases hj : j < 32
    · have e : (u64s (rowD (s.maps a b).D 0))[j]? = some (.int .u64 ((s.maps a b).D 0 j)) := by rw [List.getElem?_map, rowD_get hj]; rfl
      rw [e]
      by_cases e3 : 3 = j
      · subst e3; rfl
      · rw [if_neg e3]
        by_cases e2 : 2 = j
        · subst e2; rfl
        · rw [if_neg e2, List.getElem?_map, rowD_get hj]
          show some (Value.int .u64 (s.D 0 j)) = _
          unfold FS.D
          rw [if_pos rfl, if_pos rfl, if_neg (Ne.symm e2), if_neg (Ne.symm e3), if_neg (Ne.symm e2), if_neg (Ne.symm e3)]; rfl
    · rw [if_neg (by omega), if_neg (by omega), List.getElem?_eq_none (by rw [hrl]; omega), List.getElem?_eq_none (by rw [List.length_map, rowD_len]; omega)]
  rw [hrow] at g5
  have f5 : Fs h5 bd bl s := f1.keep (by omega) (k15 _ q1) (k15 _ q2)
  refine runC_of (fmput_spec pl f5 (a := a) (b := b) ma.w mb.w g5 (off := 0) (by rw [List.drop_zero, List.take_of_length_le (by rw [List.length_map, rowD_len]; omega)]) (fun h6 n6 f6 k6 => ?_) (by omega))
  simp only [↓reduceIte, reduceCtorEq, Za, Zb, Zc, Zd, Ze, Zf, Zg, Zh, Zi, Zj, Zk, Zl, Zm, Zn, Zo, Zp, Zq, Zr, Zs, Zt, Zu, Zv, gval, Zw, Zx, Zy, Zz, ZA, ZB, ZC, ZD, ZE, ZF, decide_eq_true_eq, ZG, ZH, ZI, ZJ, ZK, ZL, ZM, ZN, ZO, ZP, ZQ, ZR, ZS, Option.some.injEq, exists_eq_left', ZT, ZU, ZV, ZW, ZX, ZY, true_and, and_true, true_or, or_true, false_or, or_false, ite_true, ite_false, cond_true, cond_false, ZZ, Qa, if_true, if_false, decide_true, decide_false, Qb, Qc, Qd, Qe, Qf, Qg, Qh, Qi, Qj, Qk, Ql, Qm, Qn, Qo, Qp, rb0, rb1, rb2, rb3, rb4, tf0, tf1, tf2, tf3, tf4]
  exact hR h6 f6 (by omega) fun b' w1 w2 w3 => by rw [k6 _ w2 w3, k15 _ w1, k1 _ w1 w2]
end Go.Proofs.YtmadjdgipfdnkaaDoor
end
section
/- What Resize does to a file system. No condition. -/
namespace Go.Proofs.YtmadjdgipfdnkaaDoor
open Go.AM
open Nat renaming reduceBEq → Za, reduceEqDiff → Zb, reduceAdd → Zc, reduceSub → Zd, reduceMul → Ze, reduceLT → Zf, reduceLeDiff → Zg, reduceDiv → Zh, reduceMod → Zi, reducePow → Zj, blt_eq → ZF, zero_add → Qc, add_zero → Qd
open Int renaming reduceAdd → Zk, reduceSub → Zl, reduceMul → Zm, reduceLT → Zn, reduceLE → Zo, reduceEq → Zp, reduceNe → Zq, reduceNeg → Zr, reduceToNat → Zs, reduceDiv → Zt, reduceMod → Zu, reducePow → Zv, cast_ofNat_Int → Zw, toNat_natCast → Qb
open List renaming set_cons_zero → Zx, set_cons_succ → Zy, map_toArray → Zz, cons_append → ZA, nil_append → ZB, append_nil → ZC, all_cons → ZD, all_nil → ZE, getElem?_cons_zero → ZJ, getElem?_cons_succ → ZK, length_cons → ZL, length_nil → ZM, map_cons → ZN, map_nil → ZO, isEmpty_nil → Qe, any_cons → Qf, any_nil → Qg, drop_zero → Qk, drop_succ_cons → Ql, take_succ_cons → Qm, take_zero → Qn, take_nil → Qo, drop_nil → Qp
open Bool renaming and_true → ZG, true_and → ZH, and_self → ZI, not_true → ZT, not_false → ZU, true_eq_false → ZZ, false_eq_true → Qa, or_false → Qh, false_or → Qi, and_eq_true → Qj
open Option renaming map_some → ZP, map_none → ZQ, bind_some → ZR, getD_some → ZS, isNone_some → ZV, isNone_none → ZW, isSome_some → ZX, isSome_none → ZY
set_option linter.unusedSimpArgs false
theorem popc_mono (p : Nat) : ∀ k, popc k p ≤ popc (k + 1) p := by
  intro k
  induction k generalizing p with
  | zero => exact Nat.zero_le _
  | succ k ih =>
    show p % 2 + popc k (p / 2) ≤ p % 2 + popc (k + 1) (p / 2)
    have := ih (p / 2)
    omega
theorem popc_mono' (p k m : Nat) : popc k p ≤ popc (k + m) p := by
  induction m with
  | zero => exact Nat.le_refl _
  | succ m ih => exact Nat.le_trans ih (popc_mono p (k + m))
theorem popc_full : ∀ (k p : Nat), (∀ j, j < k → p.testBit j = true) → popc k p = k
  | 0, _, _ => rfl
  | k + 1, p, h => by
    show p % 2 + popc k (p / 2) = k + 1
    have h0 := h 0 (by omega)
    rw [Nat.testBit_zero, decide_eq_true_eq] at h0
    rw [popc_full k (p / 2) fun j hj => by rw [Nat.testBit_div_two]; exact h (j + 1) (by omega), h0]
    omega
theorem lowZ_lt {p n : Nat} (hn : n < 64) (hp : p < bitN n) (h : popc 64 p < n) : lowZ p < n := by
  have hw : p < 18446744073709551615 := by have : bitN n ≤ 2 ^ 63 := Nat.pow_le_pow_right (by omega) (by omega); omega
  obtain ⟨_, _, h3⟩ := lowZ_spec hw
  by_cases c : lowZ p < n
  · exact c
  · have h1 := popc_full n p fun j hj => h3 j (by omega)
    have h2 := popc_mono' p n (64 - n)
    rw [show n + (64 - n) = 64 by omega] at h2
    omega
theorem popc_diff : ∀ (k p q j : Nat), (∀ i, q.testBit i = (p.testBit i || decide (i = j))) → p.testBit j = false → j < k → popc k q = popc k p + 1
  | 0, _, _, _, _, _, h => absurd h (by omega)
  | k + 1, p, q, 0, h, h0, _ => by
    show q % 2 + popc k (q / 2) = p % 2 + popc k (p / 2) + 1
    have a := h 0
    rw [Nat.testBit_zero, Nat.testBit_zero] at a
    rw [Nat.testBit_zero, decide_eq_false_iff_not] at h0
    have e : q / 2 = p / 2 := by
      apply Nat.eq_of_testBit_eq
      intro i
      rw [Nat.testBit_div_two, Nat.testBit_div_two, h (i + 1), decide_eq_false (by omega), Bool.or_false]
    rw [e]
    have : q % 2 = 1 := by
      simp at a; exact a
    omega
  | k + 1, p, q, j + 1, h, h0, hj => by
    show q % 2 + popc k (q / 2) = p % 2 + popc k (p / 2) + 1
    have a := h 0
    rw [Nat.testBit_zero, Nat.testBit_zero, decide_eq_false (show ¬ 0 = j + 1 by omega), Bool.or_false, decide_eq_decide] at a
    have ih := popc_diff k (p / 2) (q / 2) j (fun i => by rw [Nat.testBit_div_two, Nat.testBit_div_two, h (i + 1)]; congr 1; rw [decide_eq_decide]; omega) (by rw [Nat.testBit_div_two]; exact h0) (by omega)
    rw [ih]
    have e : q % 2 = p % 2 := by omega
    omega
theorem popc_with {p j : Nat} (hj : j < 64) (h : p.testBit j = false) : popc 64 (p ||| bitN j) = popc 64 p + 1 :=
  popc_diff 64 p _ j (fun i => by rw [testBit_with]; congr 1; rw [decide_eq_decide]; exact ⟨Eq.symm, Eq.symm⟩) h hj
def needN (n : Nat) : Nat := (n + 31) / 32
def updN (x : Nat → Int) (j : Nat) (v : Int) : Nat → Int := fun k => if k = j then v else x k
structure Rz where
  b : Nat
  dat : Nat → Nat → Int
  x : Nat → Int
def Rz.grow1 (k : Nat) (g : Rz) : Rz := ⟨markW g.b (lowZ g.b) true, fun b' => if b' = lowZ g.b then fun _ => 0 else g.dat b', updN g.x (3 + k) (lowZ g.b)⟩
def Rz.grow (k0 : Nat) : Nat → Rz → Rz
  | 0, g => g
  | m + 1, g => (Rz.grow k0 m g).grow1 (k0 + m)
def Rz.shr1 (k : Nat) (g : Rz) : Rz := ⟨markW g.b (g.x (3 + k)).toNat false, g.dat, updN g.x (3 + k) 0⟩
def Rz.shr (k0 : Nat) : Nat → Rz → Rz
  | 0, g => g
  | m + 1, g => (Rz.shr k0 m g).shr1 (k0 + m)
def FS.size (s : FS) (i : Nat) : Nat := (s.ino i 2).toNat
def FS.rz (s : FS) (i size : Nat) : Rz := Rz.shr (needN size) (needN (s.size i) - needN size) (Rz.grow (needN (s.size i)) (needN size - needN (s.size i)) ⟨s.b, s.dat, s.ino i⟩)
def FS.cut (s : FS) (i size : Nat) (g : Rz) : Nat → Nat → Int := if size < s.size i ∧ 0 < size % 32 then fun b' => if b' = (g.x (3 + (needN size - 1))).toNat then fun k => if k < size % 32 then g.dat b' k else 0 else g.dat b' else g.dat
def FS.resize (s : FS) (i size : Nat) : FS := ⟨s.n, s.a, (s.rz i size).b, fun i' => if i' = i then updN (s.rz i size).x 2 size else s.ino i', s.cut i size (s.rz i size)⟩
structure FS.Ino (s : FS) (i : Nat) : Prop where
  sz : s.ino i 2 ≤ 192
  bl : ∀ k, k < needN (s.size i) → 12 ≤ s.ino i (3 + k) ∧ s.ino i (3 + k) < s.n
def FS.Low (s : FS) : Prop := ∀ j, j < 12 → s.b.testBit j = true
structure RzOk (n : Nat) (g : Rz) : Prop where
  b : g.b < bitN n
  low : ∀ j, j < 12 → g.b.testBit j = true
  dat : ∀ i j, 0 ≤ g.dat i j ∧ g.dat i j < 18446744073709551616
  x : ∀ j, 0 ≤ g.x j ∧ g.x j < 9223372036854775808
theorem lowZ_ge {b : Nat} (hb : b < 18446744073709551615) (h : ∀ j, j < 12 → b.testBit j = true) : 12 ≤ lowZ b := by
  obtain ⟨_, h2, _⟩ := lowZ_spec hb
  by_cases c : 12 ≤ lowZ b
  · exact c
  · rw [h _ (by omega)] at h2; cases h2
theorem bitN_small {b n : Nat} (hb : b < bitN n) (hn : n ≤ 60) : b < 18446744073709551615 := by
  have : bitN n ≤ 2 ^ 60 := Nat.pow_le_pow_right (by omega) hn
  omega
theorem RzOk.grow1 {n k : Nat} {g : Rz} (hn : n ≤ 60) (o : RzOk n g) (hl : lowZ g.b < n) : RzOk n (g.grow1 k) := by
  refine ⟨?_, fun j hj => ?_, fun i j => ?_, fun j => ?_⟩
  · show markW g.b (lowZ g.b) true < bitN n
    exact markW_lt (on := true) o.b hl (by omega)
  · show (g.b ||| bitN (lowZ g.b)).testBit j = true
    rw [testBit_with, o.low j hj, Bool.true_or]
  · show 0 ≤ (if i = lowZ g.b then fun _ => (0 : Int) else g.dat i) j ∧ (if i = lowZ g.b then fun _ => (0 : Int) else g.dat i) j < _
    split
    · show (0 : Int) ≤ 0 ∧ (0 : Int) < _
      omega
    · exact o.dat i j
  · show 0 ≤ updN g.x (3 + k) (lowZ g.b) j ∧ updN g.x (3 + k) (lowZ g.b) j < _
    unfold updN
    split
    · omega
    · exact o.x j
theorem RzOk.shr1 {n k : Nat} {g : Rz} (hn : n ≤ 60) (o : RzOk n g) (hl : 12 ≤ g.x (3 + k) ∧ g.x (3 + k) < n) : RzOk n (g.shr1 k) := by
  refine ⟨?_, fun j hj => ?_, o.dat, fun j => ?_⟩
  · show markW g.b (g.x (3 + k)).toNat false < bitN n
    exact markW_lt (on := false) o.b (by omega) (by omega)
  · show (without g.b (bitN (g.x (3 + k)).toNat)).testBit j = true
    rw [testBit_drop (by have := bitN_small o.b hn; omega), o.low j hj, decide_eq_false (by omega)]; rfl
  · show 0 ≤ updN g.x (3 + k) 0 j ∧ updN g.x (3 + k) 0 j < _
    unfold updN
    split
    · omega
    · exact o.x j
theorem popc_grow {n : Nat} {g : Rz} {k0 : Nat} (hn : n ≤ 60) (o : RzOk n g) (m : Nat) (h : popc 64 g.b + m ≤ n) : RzOk n (g.grow k0 m) ∧ popc 64 (g.grow k0 m).b = popc 64 g.b + m := by
  induction m with
  | zero => exact ⟨o, by rw [Nat.add_zero, Rz.grow]⟩
  | succ m ih =>
    obtain ⟨o1, h1⟩ := ih (by omega)
    have hl : lowZ (Rz.grow k0 m g).b < n := lowZ_lt (by omega) o1.b (by omega)
    obtain ⟨s1, s2, _⟩ := lowZ_spec (bitN_small o1.b hn)
    have e := popc_with s1 s2
    have e2 : (Rz.grow k0 (m + 1) g).b = (Rz.grow k0 m g).b ||| bitN (lowZ (Rz.grow k0 m g).b) := rfl
    rw [e2, e, h1]
    exact ⟨o1.grow1 hn hl, by omega⟩
theorem grow_x {g : Rz} {k0 : Nat} : ∀ m j, (j < 3 + k0 ∨ 3 + k0 + m ≤ j) → (g.grow k0 m).x j = g.x j
  | 0, _, _ => rfl
  | m + 1, j, h => by
    show updN (Rz.grow k0 m g).x (3 + (k0 + m)) _ j = _
    unfold updN
    rw [if_neg (by omega)]
    exact grow_x m j (by omega)
theorem shr_x {g : Rz} {k0 : Nat} : ∀ m j, (j < 3 + k0 ∨ 3 + k0 + m ≤ j) → (g.shr k0 m).x j = g.x j
  | 0, _, _ => rfl
  | m + 1, j, h => by
    show updN (Rz.shr k0 m g).x (3 + (k0 + m)) _ j = _
    unfold updN
    rw [if_neg (by omega)]
    exact shr_x m j (by omega)
theorem shr_ok {n : Nat} {g : Rz} {k0 : Nat} (hn : n ≤ 60) (o : RzOk n g) : ∀ m, (∀ k, k0 ≤ k → k < k0 + m → 12 ≤ g.x (3 + k) ∧ g.x (3 + k) < n) → RzOk n (g.shr k0 m)
  | 0, _ => o
  | m + 1, h => by
    have ih := shr_ok (k0 := k0) hn o m fun k h1 h2 => h k h1 (by omega)
    refine ih.shr1 hn ?_
    rw [shr_x m (3 + (k0 + m)) (by omega)]
    exact h _ (by omega) (by omega)
theorem shr_dat {g : Rz} {k0 : Nat} : ∀ m, (g.shr k0 m).dat = g.dat
  | 0 => rfl
  | m + 1 => shr_dat m
end Go.Proofs.YtmadjdgipfdnkaaDoor
end
section
/- Inodes: Resize. Conditions: the disk lies as the rule names. -/
namespace Go.Proofs.YtmadjdgipfdnkaaDoor
open Go.AM
open Nat renaming reduceBEq → Za, reduceEqDiff → Zb, reduceAdd → Zc, reduceSub → Zd, reduceMul → Ze, reduceLT → Zf, reduceLeDiff → Zg, reduceDiv → Zh, reduceMod → Zi, reducePow → Zj, blt_eq → ZF, zero_add → Qc, add_zero → Qd
open Int renaming reduceAdd → Zk, reduceSub → Zl, reduceMul → Zm, reduceLT → Zn, reduceLE → Zo, reduceEq → Zp, reduceNe → Zq, reduceNeg → Zr, reduceToNat → Zs, reduceDiv → Zt, reduceMod → Zu, reducePow → Zv, cast_ofNat_Int → Zw, toNat_natCast → Qb
open List renaming set_cons_zero → Zx, set_cons_succ → Zy, map_toArray → Zz, cons_append → ZA, nil_append → ZB, append_nil → ZC, all_cons → ZD, all_nil → ZE, getElem?_cons_zero → ZJ, getElem?_cons_succ → ZK, length_cons → ZL, length_nil → ZM, map_cons → ZN, map_nil → ZO, isEmpty_nil → Qe, any_cons → Qf, any_nil → Qg, drop_zero → Qk, drop_succ_cons → Ql, take_succ_cons → Qm, take_zero → Qn, take_nil → Qo, drop_nil → Qp
open Bool renaming and_true → ZG, true_and → ZH, and_self → ZI, not_true → ZT, not_false → ZU, true_eq_false → ZZ, false_eq_true → Qa, or_false → Qh, false_or → Qi, and_eq_true → Qj
open Option renaming map_some → ZP, map_none → ZQ, bind_some → ZR, getD_some → ZS, isNone_some → ZV, isNone_none → ZW, isSome_some → ZX, isSome_none → ZY
set_option linter.unusedSimpArgs false
variable {sp : Special} {h : Heap} {R : Out → Heap → Prop} {bd bl : Nat} {s : FS}
theorem popc_small : ∀ (k n p : Nat), p < bitN n → popc k p ≤ n
  | 0, _, _, _ => Nat.zero_le _
  | k + 1, 0, p, h => by
    have : p = 0 := by unfold bitN at h; omega
    subst this
    have := popc_small k 0 0 (by unfold bitN; omega)
    show 0 % 2 + popc k (0 / 2) ≤ 0
    rw [show 0 / 2 = 0 from rfl]; omega
  | k + 1, n + 1, p, h => by
    have := popc_small k n (p / 2) (by unfold bitN at h ⊢; rw [Nat.pow_succ] at h; omega)
    show p % 2 + popc k (p / 2) ≤ n + 1
    omega
set_option maxRecDepth 100000 in
theorem need_spec (pl : Plain sp) {n : Nat} (hn : n ≤ 1000) (hR : R (.ret (.int .i64 (needN n))) h) : WF Tryd.prog 1 sp 40 [.int .i64 n] h R := by
  refine wf_fn (fn := Tryd.f40) pl.p40 rfl (by kernel_rfl) rfl ?_
  have w1 : wrapF .i64 ((n : Int) + 32) = ((n + 32 : Nat) : Int) := by rw [wrapI (by omega) (by omega)]; omega
  have w2 : wrapF .i64 (((n + 32 : Nat) : Int) - 1) = ((n + 31 : Nat) : Int) := by rw [wrapI (by omega) (by omega)]; omega
  have w3 : ((n + 31 : Nat) : Int).tdiv 32 = (needN n : Int) := by rw [Int.tdiv_eq_ediv_of_nonneg (by omega)]; unfold needN; omega
  have w4 : wrapF .i64 (needN n : Int) = needN n := by unfold needN; exact wrapI (by omega) (by omega)
  simp only [↓reduceIte, reduceCtorEq, Za, Zb, Zc, Zd, Ze, Zf, Zg, Zh, Zi, Zj, Zk, Zl, Zm, Zn, Zo, Zp, Zq, Zr, Zs, Zt, Zu, Zv, gval, Zw, Zx, Zy, Zz, ZA, ZB, ZC, ZD, ZE, ZF, decide_eq_true_eq, ZG, ZH, ZI, ZJ, ZK, ZL, ZM, ZN, ZO, ZP, ZQ, ZR, ZS, Option.some.injEq, exists_eq_left', ZT, ZU, ZV, ZW, ZX, ZY, true_and, and_true, true_or, or_true, false_or, or_false, ite_true, ite_false, cond_true, cond_false, ZZ, Qa, if_true, if_false, decide_true, decide_false, Qb, Qc, Qd, Qe, Qf, Qg, Qh, Qi, Qj, Qk, Ql, Qm, Qn, Qo, Qp, rb0, rb1, rb2, rb3, rb4, tf0, tf1, tf2, tf3, tf4, Tryd.f40, w1, w2, w3, w4]
  exact hR
theorem ino_set {x : Nat → Int} {j : Nat} (v : Int) (hj : j < 9) : (i64s (row9 x)).set j (.int .i64 v) = i64s (row9 (updN x j v)) := by
  apply List.ext_getElem?
  intro k
  rw [List.getElem?_set, List.length_map, row9_len]
  by_cases hk : k < 9
  · rw [List.getElem?_map, List.getElem?_map, row9_get hk, row9_get hk]
    unfold updN
    by_cases e : j = k
    · subst e
      rw [if_pos rfl, if_pos hj, if_pos rfl]; rfl
    · rw [if_neg e, if_neg (Ne.symm e)]
  · rw [if_neg (by omega), List.getElem?_map, List.getElem?_map, List.getElem?_eq_none (by rw [row9_len]; omega), List.getElem?_eq_none (by rw [row9_len]; omega)]
theorem nil_put (b : Nat) : effNil Tryd.prog (.func (.method "Put") #[.iface 23 (.pointer (some ⟨b, 0, none⟩))] #[]) = ret (.func (.method "Put") #[.iface 23 (.pointer (some ⟨b, 0, none⟩))] #[]) := by kernel_rfl
theorem repeatL_one (v : Value) (n : Nat) : repeatL [v] n = List.replicate n v := by
  induction n with
  | zero => rfl
  | succ n ih => rw [List.replicate_succ, ← ih]; rfl
theorem clear81 {b off n c : Nat} {g : Nat → Option Blk} {L : List Value} (hb : g b = some (cellsB L (.loose 1))) (hn : n ≠ 0) (hl : off + n ≤ L.length) : aClear Tryd.prog #[81] (.slice (some ⟨b, off, none⟩) n c) g = some ⟨undef, [(b, cellsB (overL L off (List.replicate n (.int .u64 0))) (.loose 1))], []⟩ := by
  have hr : (List.replicate n (Value.int .u64 0)).length = n := List.length_replicate
  have hlo : (overL L off (List.replicate n (Value.int .u64 0))).length = L.length := by unfold overL; simp only [List.length_append, List.length_take, List.length_drop, hr]; omega
  unfold aClear
  simp only [show Tryd.prog.underlying 81 = some (.slice 84) from by kernel_rfl, show zeroL Tryd.prog 84 = some [.int .u64 0] from by kernel_rfl, hb, if_neg hn]
  unfold cellsB
  simp only [repeatL_one, List.length_singleton, Nat.mul_one]
  rw [if_pos hl, storeL_ofList _ _ _ (by rw [hr]; exact hl), hlo]
structure Mid (h : Heap) (bd bl : Nat) (s : FS) (p pa la pb lb : Nat) (g : Rz) : Prop where
  f : Fs h bd bl ⟨s.n, s.a, s.b, s.ino, g.dat⟩
  x : h.get p = some (cellsB (i64s (row9 g.x)) .exact)
  ma : MapAt h pa la 32 s.a
  mb : MapAt h pb lb s.n g.b
  t : h.get 0 = some (tabBlk .u8 tab)
  ok : RzOk s.n g
theorem zrow : mkRow [Value.int .u64 0] 32 = cellsB (u64s ((List.range 32).map fun _ => 0)) .exact := mkRow_eq _ _ (by omega)
set_option maxRecDepth 100000 in
theorem fresize_spec (pl : Plain sp) (ht : h.get 0 = some (tabBlk .u8 tab)) (f : Fs h bd bl s) (hz : bd ≠ 0 ∧ bl ≠ 0) {i : Nat} (hi : i < 32) (ho : s.Ino i) (hlow : s.Low) {size : Int}
    (hR1 : size < 0 → ∀ h', Fs h' bd bl s → h.nx ≤ h'.nx → (∀ b', b' < h.nx → b' ≠ bd → b' ≠ bl → h'.get b' = h.get b') → R (.ret (.int .i64 101)) h')
    (hR2 : 192 < size → ∀ h', Fs h' bd bl s → h.nx ≤ h'.nx → (∀ b', b' < h.nx → b' ≠ bd → b' ≠ bl → h'.get b' = h.get b') → R (.ret (.int .i64 27)) h')
    (hR3 : ∀ sz : Nat, size = sz → sz ≤ 192 → s.n < popc 64 s.b + (needN sz - needN (s.size i)) → ∀ h', Fs h' bd bl s → h.nx ≤ h'.nx → (∀ b', b' < h.nx → b' ≠ bd → b' ≠ bl → h'.get b' = h.get b') → R (.ret (.int .i64 28)) h')
    (hR4 : ∀ sz : Nat, size = sz → sz ≤ 192 → popc 64 s.b + (needN sz - needN (s.size i)) ≤ s.n → ∀ h', Fs h' bd bl (s.resize i sz) → h.nx ≤ h'.nx → (∀ b', b' < h.nx → b' ≠ bd → b' ≠ bl → h'.get b' = h.get b') → R (.ret (.int .i64 0)) h') :
    WF Tryd.prog 1 sp 15 [.iface 23 (.pointer (some ⟨bd, 0, none⟩)), .int .i64 i, .int .i64 size] h R := by
  refine wf_fn (fn := Tryd.f15) pl.p15 rfl (by kernel_rfl) rfl ?_
  have n1 := f.wf.n1
  have n2 := f.wf.n2
  have q1 := f.d.bd_lt
  have q2 := f.d.bl_lt
  simp only [↓reduceIte, reduceCtorEq, Za, Zb, Zc, Zd, Ze, Zf, Zg, Zh, Zi, Zj, Zk, Zl, Zm, Zn, Zo, Zp, Zq, Zr, Zs, Zt, Zu, Zv, gval, Zw, Zx, Zy, Zz, ZA, ZB, ZC, ZD, ZE, ZF, decide_eq_true_eq, ZG, ZH, ZI, ZJ, ZK, ZL, ZM, ZN, ZO, ZP, ZQ, ZR, ZS, Option.some.injEq, exists_eq_left', ZT, ZU, ZV, ZW, ZX, ZY, true_and, and_true, true_or, or_true, false_or, or_false, ite_true, ite_false, cond_true, cond_false, ZZ, Qa, if_true, if_false, decide_true, decide_false, Qb, Qc, Qd, Qe, Qf, Qg, Qh, Qi, Qj, Qk, Ql, Qm, Qn, Qo, Qp, rb0, rb1, rb2, rb3, rb4, tf0, tf1, tf2, tf3, tf4, Tryd.f15]
  refine runC_of (figet_spec pl f hi fun h1 m1 f1 k1 => ?_)
  have hwl : (i64s (row9 (s.ino i))).length = 9 := by rw [List.length_map, row9_len]
  have n32 : needN 192 = 6 := rfl
  simp (disch := (first | omega | rfl | (simp only [Heap.nx_upd, Heap.nx_new]; omega))) only [↓reduceIte, reduceCtorEq, Za, Zb, Zc, Zd, Ze, Zf, Zg, Zh, Zi, Zj, Zk, Zl, Zm, Zn, Zo, Zp, Zq, Zr, Zs, Zt, Zu, Zv, gval, Zw, Zx, Zy, Zz, ZA, ZB, ZC, ZD, ZE, ZF, decide_eq_true_eq, ZG, ZH, ZI, ZJ, ZK, ZL, ZM, ZN, ZO, ZP, ZQ, ZR, ZS, Option.some.injEq, exists_eq_left', ZT, ZU, ZV, ZW, ZX, ZY, true_and, and_true, true_or, or_true, false_or, or_false, ite_true, ite_false, cond_true, cond_false, ZZ, Qa, if_true, if_false, decide_true, decide_false, Qb, Qc, Qd, Qe, Qf, Qg, Qh, Qi, Qj, Qk, Ql, Qm, Qn, Qo, Qp, rb0, rb1, rb2, rb3, rb4, tf0, tf1, tf2, tf3, tf4, Heap.get_upd_ne, Heap.get_new_ne, Heap.get_new_at, overL_one, if_pos, stX_exactN, hwl]
  rw [overL_nine rfl hwl, Heap.upd_new]
  obtain ⟨h2, hh2⟩ : ∃ h2, h1.new (cellsB (i64s (row9 (s.ino i))) .exact) = h2 := ⟨_, rfl⟩
  have n2' : h2.nx = h1.nx + 1 := by rw [← hh2, Heap.nx_new]
  have g2 : h2.get h1.nx = some (cellsB (i64s (row9 (s.ino i))) .exact) := by rw [← hh2, Heap.get_new_same]
  have k2 : ∀ b', b' < h1.nx → h2.get b' = h1.get b' := fun b' hb' => by rw [← hh2, Heap.get_new_ne _ _ (by omega)]
  have f2 : Fs h2 bd bl s := f1.keep (by omega) (k2 _ (by omega)) (k2 _ (by omega))
  have k12 : ∀ b', b' < h.nx → b' ≠ bd → b' ≠ bl → h2.get b' = h.get b' := fun b' w1 w2 _ => by rw [k2 _ (by omega), k1 _ w1 w2]
  rw [hh2]
  by_cases c1 : size < 0
  · simp (disch := (first | omega | rfl | (simp only [Heap.nx_upd, Heap.nx_new]; omega))) only [↓reduceIte, reduceCtorEq, Za, Zb, Zc, Zd, Ze, Zf, Zg, Zh, Zi, Zj, Zk, Zl, Zm, Zn, Zo, Zp, Zq, Zr, Zs, Zt, Zu, Zv, gval, Zw, Zx, Zy, Zz, ZA, ZB, ZC, ZD, ZE, ZF, decide_eq_true_eq, ZG, ZH, ZI, ZJ, ZK, ZL, ZM, ZN, ZO, ZP, ZQ, ZR, ZS, Option.some.injEq, exists_eq_left', ZT, ZU, ZV, ZW, ZX, ZY, true_and, and_true, true_or, or_true, false_or, or_false, ite_true, ite_false, cond_true, cond_false, ZZ, Qa, if_true, if_false, decide_true, decide_false, Qb, Qc, Qd, Qe, Qf, Qg, Qh, Qi, Qj, Qk, Ql, Qm, Qn, Qo, Qp, rb0, rb1, rb2, rb3, rb4, tf0, tf1, tf2, tf3, tf4, Heap.get_upd_ne, Heap.get_new_ne, Heap.get_new_at, overL_one, if_pos, stX_exactN, c1, show ((0 : Int) == 0) = true from rfl]
    exact hR1 c1 h2 f2 (by omega) k12
  by_cases c2 : 192 < size
  · simp (disch := (first | omega | rfl | (simp only [Heap.nx_upd, Heap.nx_new]; omega))) only [↓reduceIte, reduceCtorEq, Za, Zb, Zc, Zd, Ze, Zf, Zg, Zh, Zi, Zj, Zk, Zl, Zm, Zn, Zo, Zp, Zq, Zr, Zs, Zt, Zu, Zv, gval, Zw, Zx, Zy, Zz, ZA, ZB, ZC, ZD, ZE, ZF, decide_eq_true_eq, ZG, ZH, ZI, ZJ, ZK, ZL, ZM, ZN, ZO, ZP, ZQ, ZR, ZS, Option.some.injEq, exists_eq_left', ZT, ZU, ZV, ZW, ZX, ZY, true_and, and_true, true_or, or_true, false_or, or_false, ite_true, ite_false, cond_true, cond_false, ZZ, Qa, if_true, if_false, decide_true, decide_false, Qb, Qc, Qd, Qe, Qf, Qg, Qh, Qi, Qj, Qk, Ql, Qm, Qn, Qo, Qp, rb0, rb1, rb2, rb3, rb4, tf0, tf1, tf2, tf3, tf4, Heap.get_upd_ne, Heap.get_new_ne, Heap.get_new_at, overL_one, if_pos, stX_exactN, c1, c2, show ((0 : Int) == 0) = true from rfl]
    exact hR2 c2 h2 f2 (by omega) k12
  obtain ⟨sz, rfl⟩ : ∃ sz : Nat, size = sz := ⟨size.toNat, by omega⟩
  have hsz : sz ≤ 192 := by omega
  simp (disch := (first | omega | rfl | (simp only [Heap.nx_upd, Heap.nx_new]; omega))) only [↓reduceIte, reduceCtorEq, Za, Zb, Zc, Zd, Ze, Zf, Zg, Zh, Zi, Zj, Zk, Zl, Zm, Zn, Zo, Zp, Zq, Zr, Zs, Zt, Zu, Zv, gval, Zw, Zx, Zy, Zz, ZA, ZB, ZC, ZD, ZE, ZF, decide_eq_true_eq, ZG, ZH, ZI, ZJ, ZK, ZL, ZM, ZN, ZO, ZP, ZQ, ZR, ZS, Option.some.injEq, exists_eq_left', ZT, ZU, ZV, ZW, ZX, ZY, true_and, and_true, true_or, or_true, false_or, or_false, ite_true, ite_false, cond_true, cond_false, ZZ, Qa, if_true, if_false, decide_true, decide_false, Qb, Qc, Qd, Qe, Qf, Qg, Qh, Qi, Qj, Qk, Ql, Qm, Qn, Qo, Qp, rb0, rb1, rb2, rb3, rb4, tf0, tf1, tf2, tf3, tf4, Heap.get_upd_ne, Heap.get_new_ne, Heap.get_new_at, overL_one, if_pos, stX_exactN, c1, c2, show ((0 : Int) == 0) = true from rfl]
  refine runC_of (maps_spec pl f2 fun h3 pa la pb lb f3 ma mb hab k3 => ?_)
  have g3 : h3.get h1.nx = some (cellsB (i64s (row9 (s.ino i))) .exact) := (k3 _ (by omega) (by omega)).trans g2
  have hs0 : s.ino i 2 = (s.size i : Int) := by unfold FS.size; have := (f.wf.ino i 2).1; omega
  have hcur : s.size i ≤ 192 := by have := ho.sz; omega
  have x2 : (i64s (row9 (s.ino i)))[2]? = some (.int .i64 (s.size i : Int)) := by rw [List.getElem?_map, row9_get (by omega), ← hs0]; rfl
  simp (disch := (first | omega | rfl | (simp only [Heap.nx_upd, Heap.nx_new]; omega))) only [↓reduceIte, reduceCtorEq, Za, Zb, Zc, Zd, Ze, Zf, Zg, Zh, Zi, Zj, Zk, Zl, Zm, Zn, Zo, Zp, Zq, Zr, Zs, Zt, Zu, Zv, gval, Zw, Zx, Zy, Zz, ZA, ZB, ZC, ZD, ZE, ZF, decide_eq_true_eq, ZG, ZH, ZI, ZJ, ZK, ZL, ZM, ZN, ZO, ZP, ZQ, ZR, ZS, Option.some.injEq, exists_eq_left', ZT, ZU, ZV, ZW, ZX, ZY, true_and, and_true, true_or, or_true, false_or, or_false, ite_true, ite_false, cond_true, cond_false, ZZ, Qa, if_true, if_false, decide_true, decide_false, Qb, Qc, Qd, Qe, Qf, Qg, Qh, Qi, Qj, Qk, Ql, Qm, Qn, Qo, Qp, rb0, rb1, rb2, rb3, rb4, tf0, tf1, tf2, tf3, tf4, Heap.get_upd_ne, Heap.get_new_ne, Heap.get_new_at, overL_one, if_pos, stX_exactN, show ((0 : Int) == 0) = true from rfl, g3, x2]
  refine runC_of (need_spec pl (by omega) ?_)
  simp (disch := (first | omega | rfl | (simp only [Heap.nx_upd, Heap.nx_new]; omega))) only [↓reduceIte, reduceCtorEq, Za, Zb, Zc, Zd, Ze, Zf, Zg, Zh, Zi, Zj, Zk, Zl, Zm, Zn, Zo, Zp, Zq, Zr, Zs, Zt, Zu, Zv, gval, Zw, Zx, Zy, Zz, ZA, ZB, ZC, ZD, ZE, ZF, decide_eq_true_eq, ZG, ZH, ZI, ZJ, ZK, ZL, ZM, ZN, ZO, ZP, ZQ, ZR, ZS, Option.some.injEq, exists_eq_left', ZT, ZU, ZV, ZW, ZX, ZY, true_and, and_true, true_or, or_true, false_or, or_false, ite_true, ite_false, cond_true, cond_false, ZZ, Qa, if_true, if_false, decide_true, decide_false, Qb, Qc, Qd, Qe, Qf, Qg, Qh, Qi, Qj, Qk, Ql, Qm, Qn, Qo, Qp, rb0, rb1, rb2, rb3, rb4, tf0, tf1, tf2, tf3, tf4, Heap.get_upd_ne, Heap.get_new_ne, Heap.get_new_at, overL_one, if_pos, stX_exactN]
  refine runC_of (need_spec pl (by omega) ?_)
  have hd6 : needN sz ≤ 6 := by unfold needN; omega
  have hc6 : needN (s.size i) ≤ 6 := by unfold needN; omega
  have wd : wrapF .i64 ((needN sz : Int) - (needN (s.size i) : Int)) = (needN sz : Int) - (needN (s.size i) : Int) := wrapI (by omega) (by omega)
  simp (disch := (first | omega | rfl | (simp only [Heap.nx_upd, Heap.nx_new]; omega))) only [↓reduceIte, reduceCtorEq, Za, Zb, Zc, Zd, Ze, Zf, Zg, Zh, Zi, Zj, Zk, Zl, Zm, Zn, Zo, Zp, Zq, Zr, Zs, Zt, Zu, Zv, gval, Zw, Zx, Zy, Zz, ZA, ZB, ZC, ZD, ZE, ZF, decide_eq_true_eq, ZG, ZH, ZI, ZJ, ZK, ZL, ZM, ZN, ZO, ZP, ZQ, ZR, ZS, Option.some.injEq, exists_eq_left', ZT, ZU, ZV, ZW, ZX, ZY, true_and, and_true, true_or, or_true, false_or, or_false, ite_true, ite_false, cond_true, cond_false, ZZ, Qa, if_true, if_false, decide_true, decide_false, Qb, Qc, Qd, Qe, Qf, Qg, Qh, Qi, Qj, Qk, Ql, Qm, Qn, Qo, Qp, rb0, rb1, rb2, rb3, rb4, tf0, tf1, tf2, tf3, tf4, Heap.get_upd_ne, Heap.get_new_ne, Heap.get_new_at, overL_one, if_pos, stX_exactN, wd]
  refine runC_of (left_spec pl mb ?_)
  have hpn := popc_small 64 s.n s.b f.wf.b
  by_cases c3 : s.n < popc 64 s.b + (needN sz - needN (s.size i))
  · have c3' : (s.n : Int) - (popc 64 s.b : Int) < (needN sz : Int) - (needN (s.size i) : Int) := by omega
    simp (disch := (first | omega | rfl | (simp only [Heap.nx_upd, Heap.nx_new]; omega))) only [↓reduceIte, reduceCtorEq, Za, Zb, Zc, Zd, Ze, Zf, Zg, Zh, Zi, Zj, Zk, Zl, Zm, Zn, Zo, Zp, Zq, Zr, Zs, Zt, Zu, Zv, gval, Zw, Zx, Zy, Zz, ZA, ZB, ZC, ZD, ZE, ZF, decide_eq_true_eq, ZG, ZH, ZI, ZJ, ZK, ZL, ZM, ZN, ZO, ZP, ZQ, ZR, ZS, Option.some.injEq, exists_eq_left', ZT, ZU, ZV, ZW, ZX, ZY, true_and, and_true, true_or, or_true, false_or, or_false, ite_true, ite_false, cond_true, cond_false, ZZ, Qa, if_true, if_false, decide_true, decide_false, Qb, Qc, Qd, Qe, Qf, Qg, Qh, Qi, Qj, Qk, Ql, Qm, Qn, Qo, Qp, rb0, rb1, rb2, rb3, rb4, tf0, tf1, tf2, tf3, tf4, Heap.get_upd_ne, Heap.get_new_ne, Heap.get_new_at, overL_one, if_pos, stX_exactN, c3']
    exact hR3 sz rfl hsz c3 h3 f3 (by omega) fun b' w1 w2 w3 => by rw [k3 _ (by omega) w2, k12 _ w1 w2 w3]
  · have c3' : ¬ (s.n : Int) - (popc 64 s.b : Int) < (needN sz : Int) - (needN (s.size i) : Int) := by omega
    simp (disch := (first | omega | rfl | (simp only [Heap.nx_upd, Heap.nx_new]; omega))) only [↓reduceIte, reduceCtorEq, Za, Zb, Zc, Zd, Ze, Zf, Zg, Zh, Zi, Zj, Zk, Zl, Zm, Zn, Zo, Zp, Zq, Zr, Zs, Zt, Zu, Zv, gval, Zw, Zx, Zy, Zz, ZA, ZB, ZC, ZD, ZE, ZF, decide_eq_true_eq, ZG, ZH, ZI, ZJ, ZK, ZL, ZM, ZN, ZO, ZP, ZQ, ZR, ZS, Option.some.injEq, exists_eq_left', ZT, ZU, ZV, ZW, ZX, ZY, true_and, and_true, true_or, or_true, false_or, or_false, ite_true, ite_false, cond_true, cond_false, ZZ, Qa, if_true, if_false, decide_true, decide_false, Qb, Qc, Qd, Qe, Qf, Qg, Qh, Qi, Qj, Qk, Ql, Qm, Qn, Qo, Qp, rb0, rb1, rb2, rb3, rb4, tf0, tf1, tf2, tf3, tf4, Heap.get_upd_ne, Heap.get_new_ne, Heap.get_new_at, overL_one, if_pos, stX_exactN, c3']
    generalize hc0 : needN (s.size i) = c0 at *
    generalize hw0 : needN sz = w0 at *
    generalize hp : h1.nx = p at *
    obtain ⟨a1, a2, a3, a4, a5⟩ := hab
    have hpl : p < la := by omega
    have hph : h.nx ≤ p := by omega
    have hbit := bitN_small f.wf.b n2
    have hg0 : RzOk s.n ⟨s.b, s.dat, s.ino i⟩ := ⟨f.wf.b, hlow, f.wf.dat, f.wf.ino i⟩
    have hgr : ∀ m, m ≤ w0 - c0 → RzOk s.n (Rz.grow c0 m ⟨s.b, s.dat, s.ino i⟩) ∧ popc 64 (Rz.grow c0 m ⟨s.b, s.dat, s.ino i⟩).b = popc 64 s.b + m := fun m hm => popc_grow n2 hg0 m (by show popc 64 s.b + m ≤ s.n; omega)
    have hM3 : Mid h3 bd bl s p pa la pb lb ⟨s.b, s.dat, s.ino i⟩ := ⟨f3, g3, ma, mb, by rw [k3 _ (by omega) (Ne.symm hz.1), k12 _ (by omega) (Ne.symm hz.1) (Ne.symm hz.2)]; exact ht, hg0⟩
    have hk3 : ∀ b', b' < h.nx → b' ≠ bd → b' ≠ bl → h3.get b' = h.get b' := fun b' w1 w2 w3 => by rw [k3 _ (by omega) w2, k12 _ w1 w2 w3]
    refine run_loop2 rfl (fun n' e h' => ∃ m : Nat, n' = w0 - c0 - m ∧ m ≤ w0 - c0 ∧ e.at 0 = .iface 23 (.pointer (some ⟨bd, 0, none⟩)) ∧ e.at 1 = .int .i64 i ∧ e.at 2 = .int .i64 sz ∧ e.at 7 = .pointer (some ⟨p, 0, none⟩) ∧ e.at 9 = .pointer (some ⟨pa, 0, none⟩) ∧ e.at 10 = .pointer (some ⟨pb, 0, none⟩) ∧ e.at 11 = .int .i64 c0 ∧ e.at 12 = .int .i64 w0 ∧ e.at 13 = .int .i64 ((c0 + m : Nat) : Int) ∧
        Mid h' bd bl s p pa la pb lb (Rz.grow c0 m ⟨s.b, s.dat, s.ino i⟩) ∧ h3.nx ≤ h'.nx ∧ ∀ b', b' < h.nx → b' ≠ bd → b' ≠ bl → h'.get b' = h.get b')
      (fun ex e h' => ex = .exit 1 ∧ e.at 0 = .iface 23 (.pointer (some ⟨bd, 0, none⟩)) ∧ e.at 1 = .int .i64 i ∧ e.at 2 = .int .i64 sz ∧ e.at 7 = .pointer (some ⟨p, 0, none⟩) ∧ e.at 9 = .pointer (some ⟨pa, 0, none⟩) ∧ e.at 10 = .pointer (some ⟨pb, 0, none⟩) ∧ e.at 11 = .int .i64 c0 ∧ e.at 12 = .int .i64 w0 ∧
        Mid h' bd bl s p pa la pb lb (Rz.grow c0 (w0 - c0) ⟨s.b, s.dat, s.ino i⟩) ∧ h3.nx ≤ h'.nx ∧ ∀ b', b' < h.nx → b' ≠ bd → b' ≠ bl → h'.get b' = h.get b') ?_ (w0 - c0) _ _ ?_ ?_
    · rintro n' e h4 ⟨m, rfl, hm, e0, e1, e2, e7, e9, e10, e11, e12, e13, M, hn4, hk4⟩ Q' hQn hQx
      by_cases hc : m < w0 - c0
      · have d1 : ((c0 + m : Nat) : Int) < (w0 : Int) := by omega
        obtain ⟨o, hpop⟩ := hgr m hm
        generalize hg : Rz.grow c0 m ⟨s.b, s.dat, s.ino i⟩ = g at *
        have hl : lowZ g.b < s.n := lowZ_lt (by omega) o.b (by omega)
        have hl12 := lowZ_ge (bitN_small o.b n2) o.low
        simp (disch := (first | omega | rfl | (simp only [Heap.nx_upd, Heap.nx_new]; omega))) only [↓reduceIte, reduceCtorEq, Za, Zb, Zc, Zd, Ze, Zf, Zg, Zh, Zi, Zj, Zk, Zl, Zm, Zn, Zo, Zp, Zq, Zr, Zs, Zt, Zu, Zv, gval, Zw, Zx, Zy, Zz, ZA, ZB, ZC, ZD, ZE, ZF, decide_eq_true_eq, ZG, ZH, ZI, ZJ, ZK, ZL, ZM, ZN, ZO, ZP, ZQ, ZR, ZS, Option.some.injEq, exists_eq_left', ZT, ZU, ZV, ZW, ZX, ZY, true_and, and_true, true_or, or_true, false_or, or_false, ite_true, ite_false, cond_true, cond_false, ZZ, Qa, if_true, if_false, decide_true, decide_false, Qb, Qc, Qd, Qe, Qf, Qg, Qh, Qi, Qj, Qk, Ql, Qm, Qn, Qo, Qp, rb0, rb1, rb2, rb3, rb4, tf0, tf1, tf2, tf3, tf4, Heap.get_upd_ne, Heap.get_new_ne, Heap.get_new_at, overL_one, if_pos, stX_exactN, e0, e7, e10, e12, e13, d1]
        refine runC_of (take_spec pl M.t M.mb (fun q => absurd hl q) fun _ mb5 => ?_)
        have lx : ∀ x : Nat → Int, (i64s (row9 x)).length = 9 := fun x => by rw [List.length_map, row9_len]
        have hj : 3 + (c0 + m) < 9 := by omega
        have hj1 : 3 + (c0 + m) + 1 ≤ 9 := by omega
        have hset : overL (i64s (row9 g.x)) (3 + (c0 + m)) [Value.int .i64 (lowZ g.b : Int)] = i64s (row9 (updN g.x (3 + (c0 + m)) (lowZ g.b))) := (overL_one _ (by rw [lx]; exact hj)).trans (ino_set _ hj)
        have gx : (i64s (row9 (updN g.x (3 + (c0 + m)) (lowZ g.b))))[3 + (c0 + m)]? = some (.int .i64 (lowZ g.b : Int)) := by
          rw [List.getElem?_map, row9_get hj]
          unfold updN
          rw [if_pos rfl]; rfl
        have hplb : p ≠ lb := by omega
        simp (disch := (first | omega | rfl | (simp only [Heap.nx_upd, Heap.nx_new]; omega))) only [↓reduceIte, reduceCtorEq, Za, Zb, Zc, Zd, Ze, Zf, Zg, Zh, Zi, Zj, Zk, Zl, Zm, Zn, Zo, Zp, Zq, Zr, Zs, Zt, Zu, Zv, gval, Zw, Zx, Zy, Zz, ZA, ZB, ZC, ZD, ZE, ZF, decide_eq_true_eq, ZG, ZH, ZI, ZJ, ZK, ZL, ZM, ZN, ZO, ZP, ZQ, ZR, ZS, Option.some.injEq, exists_eq_left', ZT, ZU, ZV, ZW, ZX, ZY, true_and, and_true, true_or, or_true, false_or, or_false, ite_true, ite_false, cond_true, cond_false, ZZ, Qa, if_true, if_false, decide_true, decide_false, Qb, Qc, Qd, Qe, Qf, Qg, Qh, Qi, Qj, Qk, Ql, Qm, Qn, Qo, Qp, rb0, rb1, rb2, rb3, rb4, tf0, tf1, tf2, tf3, tf4, Heap.get_upd_ne, Heap.get_new_ne, Heap.get_new_at, overL_one, if_pos, stX_exactN, e7, e13, M.x, lx, hj, hj1, hset, Nat.mul_one]
        obtain ⟨h5, hh5⟩ : ∃ h5, (h4.upd lb (cellsB [.int .u64 ((markW g.b (lowZ g.b) true : Nat) : Int)] .exact)).upd p (cellsB (i64s (row9 (updN g.x (3 + (c0 + m)) (lowZ g.b)))) .exact) = h5 := ⟨_, rfl⟩
        have n5 : h5.nx = h4.nx := by rw [← hh5, Heap.nx_upd, Heap.nx_upd]
        have g5 : h5.get p = some (cellsB (i64s (row9 (updN g.x (3 + (c0 + m)) (lowZ g.b)))) .exact) := by rw [← hh5, Heap.get_upd_same]
        have k5 : ∀ b', b' ≠ p → b' ≠ lb → h5.get b' = h4.get b' := fun b' w1 w2 => by rw [← hh5, Heap.get_upd_ne _ _ w1, Heap.get_upd_ne _ _ w2]
        have kl5 : h5.get lb = some (cellsB [.int .u64 ((markW g.b (lowZ g.b) true : Nat) : Int)] .exact) := by rw [← hh5, Heap.get_upd_ne _ _ (Ne.symm hplb), Heap.get_upd_same]
        rw [hh5]
        refine run_draw (ps := [(4, 5)]) (by kernel_rfl) (by kernel_rfl) ?_
        simp (disch := (first | omega | rfl | (simp only [Heap.nx_upd, Heap.nx_new]; omega))) only [↓reduceIte, reduceCtorEq, Za, Zb, Zc, Zd, Ze, Zf, Zg, Zh, Zi, Zj, Zk, Zl, Zm, Zn, Zo, Zp, Zq, Zr, Zs, Zt, Zu, Zv, gval, Zw, Zx, Zy, Zz, ZA, ZB, ZC, ZD, ZE, ZF, decide_eq_true_eq, ZG, ZH, ZI, ZJ, ZK, ZL, ZM, ZN, ZO, ZP, ZQ, ZR, ZS, Option.some.injEq, exists_eq_left', ZT, ZU, ZV, ZW, ZX, ZY, true_and, and_true, true_or, or_true, false_or, or_false, ite_true, ite_false, cond_true, cond_false, ZZ, Qa, if_true, if_false, decide_true, decide_false, Qb, Qc, Qd, Qe, Qf, Qg, Qh, Qi, Qj, Qk, Ql, Qm, Qn, Qo, Qp, rb0, rb1, rb2, rb3, rb4, tf0, tf1, tf2, tf3, tf4, Heap.get_upd_ne, Heap.get_new_ne, Heap.get_new_at, overL_one, if_pos, stX_exactN, e0, e7, e13, g5, lx, hj, gx, zrow, Nat.mul_one, nbeq_ne, nil_put, u_invoke, invK_iface, inv_put]
        obtain ⟨h6, hh6⟩ : ∃ h6, h5.new (cellsB (u64s ((List.range 32).map fun _ => 0)) .exact) = h6 := ⟨_, rfl⟩
        have n6 : h6.nx = h5.nx + 1 := by rw [← hh6, Heap.nx_new]
        have g6 : h6.get h5.nx = some (cellsB (u64s ((List.range 32).map fun _ => 0)) .exact) := by rw [← hh6, Heap.get_new_same]
        have k6 : ∀ b', b' < h5.nx → h6.get b' = h5.get b' := fun b' hb' => by rw [← hh6, Heap.get_new_ne _ _ (by omega)]
        rw [hh6]
        have k46 : ∀ b', b' < h4.nx → b' ≠ p → b' ≠ lb → h6.get b' = h4.get b' := fun b' w1 w2 w3 => by rw [k6 _ (by omega), k5 _ w2 w3]
        have f6 : Fs h6 bd bl ⟨s.n, s.a, s.b, s.ino, g.dat⟩ := M.f.keep (by omega) (k46 _ M.f.d.bd_lt (by omega) (by omega)) (k46 _ M.f.d.bl_lt (by omega) (by omega))
        refine runCR_of (fbput_spec pl f6 hl12 (b := lowZ g.b) hl g6 (off := 0) (w := fun _ => 0) (by rw [List.drop_zero, List.take_of_length_le (by simp)]) (fun j => by show (0 : Int) ≤ 0 ∧ (0 : Int) < _; omega) (fun h7 n7 f7 k7 => ?_) (by omega))
        have wn : wrapF .i64 (((c0 + m : Nat) : Int) + 1) = ((c0 + (m + 1) : Nat) : Int) := by rw [wrapI (by omega) (by omega)]; omega
        have hpb5 : p.beq h5.nx = false := nbeq_ne (by omega)
        simp (disch := (first | omega | rfl | (simp only [Heap.nx_upd, Heap.nx_new]; omega))) only [↓reduceIte, reduceCtorEq, Za, Zb, Zc, Zd, Ze, Zf, Zg, Zh, Zi, Zj, Zk, Zl, Zm, Zn, Zo, Zp, Zq, Zr, Zs, Zt, Zu, Zv, gval, Zw, Zx, Zy, Zz, ZA, ZB, ZC, ZD, ZE, ZF, decide_eq_true_eq, ZG, ZH, ZI, ZJ, ZK, ZL, ZM, ZN, ZO, ZP, ZQ, ZR, ZS, Option.some.injEq, exists_eq_left', ZT, ZU, ZV, ZW, ZX, ZY, true_and, and_true, true_or, or_true, false_or, or_false, ite_true, ite_false, cond_true, cond_false, ZZ, Qa, if_true, if_false, decide_true, decide_false, Qb, Qc, Qd, Qe, Qf, Qg, Qh, Qi, Qj, Qk, Ql, Qm, Qn, Qo, Qp, rb0, rb1, rb2, rb3, rb4, tf0, tf1, tf2, tf3, tf4, Heap.get_upd_ne, Heap.get_new_ne, Heap.get_new_at, overL_one, if_pos, stX_exactN, e0, e7, e13, wn, hpb5, Bool.not_false, true_and, show ((0 : Int) == 0) = true from rfl]
        have hk7 : ∀ b', b' ≠ p → b' ≠ lb → b' < h4.nx → b' ≠ bd → b' ≠ bl → h7.get b' = h4.get b' := fun b' w1 w2 w3 w4 w5 => by rw [k7 _ w4 w5, k46 _ w3 w1 w2]
        refine hQn _ _ _ (by omega) ⟨m + 1, rfl, by omega, by simp only [at_put, at_args, Nat.reduceBEq, cond_true, cond_false, List.getElem?_cons_zero, List.getElem?_cons_succ, Option.getD_some, Nat.add_zero, Int.cast_ofNat_Int, e0], by simp only [at_put, at_args, Nat.reduceBEq, cond_true, cond_false, List.getElem?_cons_zero, List.getElem?_cons_succ, Option.getD_some, Nat.add_zero, Int.cast_ofNat_Int, e1], by simp only [at_put, at_args, Nat.reduceBEq, cond_true, cond_false, List.getElem?_cons_zero, List.getElem?_cons_succ, Option.getD_some, Nat.add_zero, Int.cast_ofNat_Int, e2], by simp only [at_put, at_args, Nat.reduceBEq, cond_true, cond_false, List.getElem?_cons_zero, List.getElem?_cons_succ, Option.getD_some, Nat.add_zero, Int.cast_ofNat_Int, e7], by simp only [at_put, at_args, Nat.reduceBEq, cond_true, cond_false, List.getElem?_cons_zero, List.getElem?_cons_succ, Option.getD_some, Nat.add_zero, Int.cast_ofNat_Int, e9], by simp only [at_put, at_args, Nat.reduceBEq, cond_true, cond_false, List.getElem?_cons_zero, List.getElem?_cons_succ, Option.getD_some, Nat.add_zero, Int.cast_ofNat_Int, e10], by simp only [at_put, at_args, Nat.reduceBEq, cond_true, cond_false, List.getElem?_cons_zero, List.getElem?_cons_succ, Option.getD_some, Nat.add_zero, Int.cast_ofNat_Int, e11], by simp only [at_put, at_args, Nat.reduceBEq, cond_true, cond_false, List.getElem?_cons_zero, List.getElem?_cons_succ, Option.getD_some, Nat.add_zero, Int.cast_ofNat_Int, e12], by simp only [at_put, at_args, Nat.reduceBEq, cond_true, cond_false, List.getElem?_cons_zero, List.getElem?_cons_succ, Option.getD_some, Nat.add_zero, Int.cast_ofNat_Int], ?_, by omega, fun b' w1 w2 w3 => by rw [hk7 _ (by omega) (by omega) (by omega) w2 w3, hk4 _ w1 w2 w3]⟩
        have hgs : Rz.grow c0 (m + 1) ⟨s.b, s.dat, s.ino i⟩ = g.grow1 (c0 + m) := by rw [← hg]; rfl
        rw [hgs]
        refine ⟨f7, ?_, M.ma.keep (hk7 _ (by omega) (by omega) (by omega) (by omega) (by omega)) (hk7 _ (by omega) (by omega) (by omega) (by omega) (by omega)), ⟨?_, ?_, M.mb.n1, M.mb.n2, by show markW g.b (lowZ g.b) true < _; exact markW_lt (on := true) o.b hl (by omega)⟩, ?_, o.grow1 n2 hl⟩
        · rw [k7 _ (by omega) (by omega), k6 _ (by omega)]; exact g5
        · rw [hk7 _ (by omega) (by omega) (by omega) (by omega) (by omega)]; exact M.mb.m
        · rw [k7 _ (by omega) (by omega), k6 _ (by omega)]; exact kl5
        · rw [hk7 _ (by omega) (by omega) (by omega) (Ne.symm hz.1) (Ne.symm hz.2)]; exact M.t
      · have hm0 : m = w0 - c0 := by omega
        subst hm0
        have d1 : ¬ ((c0 + (w0 - c0) : Nat) : Int) < (w0 : Int) := by omega
        simp (disch := (first | omega | rfl | (simp only [Heap.nx_upd, Heap.nx_new]; omega))) only [↓reduceIte, reduceCtorEq, Za, Zb, Zc, Zd, Ze, Zf, Zg, Zh, Zi, Zj, Zk, Zl, Zm, Zn, Zo, Zp, Zq, Zr, Zs, Zt, Zu, Zv, gval, Zw, Zx, Zy, Zz, ZA, ZB, ZC, ZD, ZE, ZF, decide_eq_true_eq, ZG, ZH, ZI, ZJ, ZK, ZL, ZM, ZN, ZO, ZP, ZQ, ZR, ZS, Option.some.injEq, exists_eq_left', ZT, ZU, ZV, ZW, ZX, ZY, true_and, and_true, true_or, or_true, false_or, or_false, ite_true, ite_false, cond_true, cond_false, ZZ, Qa, if_true, if_false, decide_true, decide_false, Qb, Qc, Qd, Qe, Qf, Qg, Qh, Qi, Qj, Qk, Ql, Qm, Qn, Qo, Qp, rb0, rb1, rb2, rb3, rb4, tf0, tf1, tf2, tf3, tf4, Heap.get_upd_ne, Heap.get_new_ne, Heap.get_new_at, overL_one, if_pos, stX_exactN, e12, e13, d1]
        exact hQx _ _ _ (by simp) ⟨rfl, by simp only [at_put, at_args, Nat.reduceBEq, cond_true, cond_false, List.getElem?_cons_zero, List.getElem?_cons_succ, Option.getD_some, Nat.add_zero, Int.cast_ofNat_Int, e0], by simp only [at_put, at_args, Nat.reduceBEq, cond_true, cond_false, List.getElem?_cons_zero, List.getElem?_cons_succ, Option.getD_some, Nat.add_zero, Int.cast_ofNat_Int, e1], by simp only [at_put, at_args, Nat.reduceBEq, cond_true, cond_false, List.getElem?_cons_zero, List.getElem?_cons_succ, Option.getD_some, Nat.add_zero, Int.cast_ofNat_Int, e2], by simp only [at_put, at_args, Nat.reduceBEq, cond_true, cond_false, List.getElem?_cons_zero, List.getElem?_cons_succ, Option.getD_some, Nat.add_zero, Int.cast_ofNat_Int, e7], by simp only [at_put, at_args, Nat.reduceBEq, cond_true, cond_false, List.getElem?_cons_zero, List.getElem?_cons_succ, Option.getD_some, Nat.add_zero, Int.cast_ofNat_Int, e9], by simp only [at_put, at_args, Nat.reduceBEq, cond_true, cond_false, List.getElem?_cons_zero, List.getElem?_cons_succ, Option.getD_some, Nat.add_zero, Int.cast_ofNat_Int, e10], by simp only [at_put, at_args, Nat.reduceBEq, cond_true, cond_false, List.getElem?_cons_zero, List.getElem?_cons_succ, Option.getD_some, Nat.add_zero, Int.cast_ofNat_Int, e11], by simp only [at_put, at_args, Nat.reduceBEq, cond_true, cond_false, List.getElem?_cons_zero, List.getElem?_cons_succ, Option.getD_some, Nat.add_zero, Int.cast_ofNat_Int, e12], M, hn4, hk4⟩
    · exact ⟨0, rfl, by omega, by simp only [at_put, at_args, Nat.reduceBEq, cond_true, cond_false, List.getElem?_cons_zero, List.getElem?_cons_succ, Option.getD_some, Nat.add_zero, Int.cast_ofNat_Int], by simp only [at_put, at_args, Nat.reduceBEq, cond_true, cond_false, List.getElem?_cons_zero, List.getElem?_cons_succ, Option.getD_some, Nat.add_zero, Int.cast_ofNat_Int], by simp only [at_put, at_args, Nat.reduceBEq, cond_true, cond_false, List.getElem?_cons_zero, List.getElem?_cons_succ, Option.getD_some, Nat.add_zero, Int.cast_ofNat_Int], by simp only [at_put, at_args, Nat.reduceBEq, cond_true, cond_false, List.getElem?_cons_zero, List.getElem?_cons_succ, Option.getD_some, Nat.add_zero, Int.cast_ofNat_Int], by simp only [at_put, at_args, Nat.reduceBEq, cond_true, cond_false, List.getElem?_cons_zero, List.getElem?_cons_succ, Option.getD_some, Nat.add_zero, Int.cast_ofNat_Int], by simp only [at_put, at_args, Nat.reduceBEq, cond_true, cond_false, List.getElem?_cons_zero, List.getElem?_cons_succ, Option.getD_some, Nat.add_zero, Int.cast_ofNat_Int], by simp only [at_put, at_args, Nat.reduceBEq, cond_true, cond_false, List.getElem?_cons_zero, List.getElem?_cons_succ, Option.getD_some, Nat.add_zero, Int.cast_ofNat_Int], by simp only [at_put, at_args, Nat.reduceBEq, cond_true, cond_false, List.getElem?_cons_zero, List.getElem?_cons_succ, Option.getD_some, Nat.add_zero, Int.cast_ofNat_Int], by simp only [at_put, at_args, Nat.reduceBEq, cond_true, cond_false, List.getElem?_cons_zero, List.getElem?_cons_succ, Option.getD_some, Nat.add_zero, Int.cast_ofNat_Int], hM3, Nat.le_refl _, hk3⟩
    · rintro ex e h4 - ⟨rfl, e0, e1, e2, e7, e9, e10, e11, e12, M, hn4, hk4⟩
      obtain ⟨og, -⟩ := hgr (w0 - c0) (Nat.le_refl _)
      generalize hg : Rz.grow c0 (w0 - c0) ⟨s.b, s.dat, s.ino i⟩ = g at *
      have lx : ∀ x : Nat → Int, (i64s (row9 x)).length = 9 := fun x => by rw [List.length_map, row9_len]
      have hgx : ∀ k, w0 ≤ k → k < w0 + (c0 - w0) → 12 ≤ g.x (3 + k) ∧ g.x (3 + k) < s.n := fun k w1 w2 => by
        have : g.x (3 + k) = s.ino i (3 + k) := by
          rw [← hg, grow_x _ _ (by omega)]
        rw [this]
        exact ho.bl k (by rw [hc0]; omega)
      simp only [↓reduceIte, reduceCtorEq, Za, Zb, Zc, Zd, Ze, Zf, Zg, Zh, Zi, Zj, Zk, Zl, Zm, Zn, Zo, Zp, Zq, Zr, Zs, Zt, Zu, Zv, gval, Zw, Zx, Zy, Zz, ZA, ZB, ZC, ZD, ZE, ZF, decide_eq_true_eq, ZG, ZH, ZI, ZJ, ZK, ZL, ZM, ZN, ZO, ZP, ZQ, ZR, ZS, Option.some.injEq, exists_eq_left', ZT, ZU, ZV, ZW, ZX, ZY, true_and, and_true, true_or, or_true, false_or, or_false, ite_true, ite_false, cond_true, cond_false, ZZ, Qa, if_true, if_false, decide_true, decide_false, Qb, Qc, Qd, Qe, Qf, Qg, Qh, Qi, Qj, Qk, Ql, Qm, Qn, Qo, Qp, rb0, rb1, rb2, rb3, rb4, tf0, tf1, tf2, tf3, tf4, e12]
      refine run_loop2 rfl (fun n' e h' => ∃ m : Nat, n' = c0 - w0 - m ∧ m ≤ c0 - w0 ∧ e.at 0 = .iface 23 (.pointer (some ⟨bd, 0, none⟩)) ∧ e.at 1 = .int .i64 i ∧ e.at 2 = .int .i64 sz ∧ e.at 7 = .pointer (some ⟨p, 0, none⟩) ∧ e.at 9 = .pointer (some ⟨pa, 0, none⟩) ∧ e.at 10 = .pointer (some ⟨pb, 0, none⟩) ∧ e.at 11 = .int .i64 c0 ∧ e.at 12 = .int .i64 w0 ∧ e.at 15 = .int .i64 ((w0 + m : Nat) : Int) ∧
          Mid h' bd bl s p pa la pb lb (Rz.shr w0 m g) ∧ h3.nx ≤ h'.nx ∧ ∀ b', b' < h.nx → b' ≠ bd → b' ≠ bl → h'.get b' = h.get b')
        (fun ex e h' => ex = .exit 3 ∧ e.at 0 = .iface 23 (.pointer (some ⟨bd, 0, none⟩)) ∧ e.at 1 = .int .i64 i ∧ e.at 2 = .int .i64 sz ∧ e.at 7 = .pointer (some ⟨p, 0, none⟩) ∧ e.at 9 = .pointer (some ⟨pa, 0, none⟩) ∧ e.at 10 = .pointer (some ⟨pb, 0, none⟩) ∧ e.at 12 = .int .i64 w0 ∧
          Mid h' bd bl s p pa la pb lb (Rz.shr w0 (c0 - w0) g) ∧ h3.nx ≤ h'.nx ∧ ∀ b', b' < h.nx → b' ≠ bd → b' ≠ bl → h'.get b' = h.get b') ?_ (c0 - w0) _ _ ?_ ?_
      · rintro n' e h5 ⟨m, rfl, hm, e0, e1, e2, e7, e9, e10, e11, e12, e15, M, hn5, hk5⟩ Q' hQn hQx
        by_cases hc : m < c0 - w0
        · have d1 : ((w0 + m : Nat) : Int) < (c0 : Int) := by omega
          have hj : 3 + (w0 + m) < 9 := by omega
          have hj1 : 3 + (w0 + m) + 1 ≤ 9 := by omega
          have hv : 12 ≤ (Rz.shr w0 m g).x (3 + (w0 + m)) ∧ (Rz.shr w0 m g).x (3 + (w0 + m)) < s.n := by
            rw [shr_x m _ (by omega)]
            exact hgx _ (by omega) (by omega)
          have o := M.ok
          have hgs : Rz.shr w0 (m + 1) g = (Rz.shr w0 m g).shr1 (w0 + m) := rfl
          generalize Rz.shr w0 m g = g2 at *
          obtain ⟨v, hvv⟩ : ∃ v : Nat, g2.x (3 + (w0 + m)) = v := ⟨(g2.x (3 + (w0 + m))).toNat, by omega⟩
          have gx : (i64s (row9 g2.x))[3 + (w0 + m)]? = some (.int .i64 (v : Int)) := by
            rw [List.getElem?_map, row9_get hj, hvv]; rfl
          have hset : overL (i64s (row9 g2.x)) (3 + (w0 + m)) [Value.int .i64 0] = i64s (row9 (updN g2.x (3 + (w0 + m)) 0)) := (overL_one _ (by rw [lx]; exact hj)).trans (ino_set _ hj)
          have hplb : p ≠ lb := by omega
          have hplb' : lb ≠ p := by omega
          simp (disch := (first | omega | rfl | (simp only [Heap.nx_upd, Heap.nx_new]; omega))) only [↓reduceIte, reduceCtorEq, Za, Zb, Zc, Zd, Ze, Zf, Zg, Zh, Zi, Zj, Zk, Zl, Zm, Zn, Zo, Zp, Zq, Zr, Zs, Zt, Zu, Zv, gval, Zw, Zx, Zy, Zz, ZA, ZB, ZC, ZD, ZE, ZF, decide_eq_true_eq, ZG, ZH, ZI, ZJ, ZK, ZL, ZM, ZN, ZO, ZP, ZQ, ZR, ZS, Option.some.injEq, exists_eq_left', ZT, ZU, ZV, ZW, ZX, ZY, true_and, and_true, true_or, or_true, false_or, or_false, ite_true, ite_false, cond_true, cond_false, ZZ, Qa, if_true, if_false, decide_true, decide_false, Qb, Qc, Qd, Qe, Qf, Qg, Qh, Qi, Qj, Qk, Ql, Qm, Qn, Qo, Qp, rb0, rb1, rb2, rb3, rb4, tf0, tf1, tf2, tf3, tf4, Heap.get_upd_ne, Heap.get_new_ne, Heap.get_new_at, overL_one, if_pos, stX_exactN, e0, e7, e10, e11, e15, d1, M.x, lx, hj, gx, Nat.mul_one]
          refine runC_of (mark_spec pl M.mb (i := v) (by omega) fun mb6 => ?_)
          have wn : wrapF .i64 (((w0 + m : Nat) : Int) + 1) = ((w0 + (m + 1) : Nat) : Int) := by rw [wrapI (by omega) (by omega)]; omega
          simp (disch := (first | omega | rfl | (simp only [Heap.nx_upd, Heap.nx_new]; omega))) only [↓reduceIte, reduceCtorEq, Za, Zb, Zc, Zd, Ze, Zf, Zg, Zh, Zi, Zj, Zk, Zl, Zm, Zn, Zo, Zp, Zq, Zr, Zs, Zt, Zu, Zv, gval, Zw, Zx, Zy, Zz, ZA, ZB, ZC, ZD, ZE, ZF, decide_eq_true_eq, ZG, ZH, ZI, ZJ, ZK, ZL, ZM, ZN, ZO, ZP, ZQ, ZR, ZS, Option.some.injEq, exists_eq_left', ZT, ZU, ZV, ZW, ZX, ZY, true_and, and_true, true_or, or_true, false_or, or_false, ite_true, ite_false, cond_true, cond_false, ZZ, Qa, if_true, if_false, decide_true, decide_false, Qb, Qc, Qd, Qe, Qf, Qg, Qh, Qi, Qj, Qk, Ql, Qm, Qn, Qo, Qp, rb0, rb1, rb2, rb3, rb4, tf0, tf1, tf2, tf3, tf4, Heap.get_upd_ne, Heap.get_new_ne, Heap.get_new_at, overL_one, if_pos, stX_exactN, e7, e15, M.x, lx, hj, hj1, hset, wn, Nat.mul_one]
          refine hQn _ _ _ (by omega) ⟨m + 1, rfl, by omega, by simp only [at_put, at_args, Nat.reduceBEq, cond_true, cond_false, List.getElem?_cons_zero, List.getElem?_cons_succ, Option.getD_some, Nat.add_zero, Int.cast_ofNat_Int, e0], by simp only [at_put, at_args, Nat.reduceBEq, cond_true, cond_false, List.getElem?_cons_zero, List.getElem?_cons_succ, Option.getD_some, Nat.add_zero, Int.cast_ofNat_Int, e1], by simp only [at_put, at_args, Nat.reduceBEq, cond_true, cond_false, List.getElem?_cons_zero, List.getElem?_cons_succ, Option.getD_some, Nat.add_zero, Int.cast_ofNat_Int, e2], by simp only [at_put, at_args, Nat.reduceBEq, cond_true, cond_false, List.getElem?_cons_zero, List.getElem?_cons_succ, Option.getD_some, Nat.add_zero, Int.cast_ofNat_Int, e7], by simp only [at_put, at_args, Nat.reduceBEq, cond_true, cond_false, List.getElem?_cons_zero, List.getElem?_cons_succ, Option.getD_some, Nat.add_zero, Int.cast_ofNat_Int, e9], by simp only [at_put, at_args, Nat.reduceBEq, cond_true, cond_false, List.getElem?_cons_zero, List.getElem?_cons_succ, Option.getD_some, Nat.add_zero, Int.cast_ofNat_Int, e10], by simp only [at_put, at_args, Nat.reduceBEq, cond_true, cond_false, List.getElem?_cons_zero, List.getElem?_cons_succ, Option.getD_some, Nat.add_zero, Int.cast_ofNat_Int, e11], by simp only [at_put, at_args, Nat.reduceBEq, cond_true, cond_false, List.getElem?_cons_zero, List.getElem?_cons_succ, Option.getD_some, Nat.add_zero, Int.cast_ofNat_Int, e12], by simp only [at_put, at_args, Nat.reduceBEq, cond_true, cond_false, List.getElem?_cons_zero, List.getElem?_cons_succ, Option.getD_some, Nat.add_zero, Int.cast_ofNat_Int], ?_, by rw [Heap.nx_upd, Heap.nx_upd]; omega, fun b' w1 w2 w3 => by rw [Heap.get_upd_ne _ _ (by omega), Heap.get_upd_ne _ _ (by omega), hk5 _ w1 w2 w3]⟩
          rw [hgs]
          have kk : ∀ b', b' ≠ p → b' ≠ lb → ((h5.upd lb (cellsB [.int .u64 ((markW g2.b v false : Nat) : Int)] .exact)).upd p (cellsB (i64s (row9 (updN g2.x (3 + (w0 + m)) 0))) .exact)).get b' = h5.get b' := fun b' w1 w2 => by rw [Heap.get_upd_ne _ _ w1, Heap.get_upd_ne _ _ w2]
          have hmk : (g2.shr1 (w0 + m)).b = markW g2.b v false := by
            show markW g2.b (g2.x (3 + (w0 + m))).toNat false = _
            rw [hvv, Int.toNat_natCast]
          refine ⟨M.f.keep (by rw [Heap.nx_upd, Heap.nx_upd]; omega) (kk _ (by omega) (by omega)) (kk _ (by omega) (by omega)), Heap.get_upd_same _ _ _, M.ma.keep (kk _ (by omega) (by omega)) (kk _ (by omega) (by omega)), ⟨?_, ?_, M.mb.n1, M.mb.n2, ?_⟩, ?_, o.shr1 n2 hv⟩
          · rw [kk _ (by omega) (by omega)]; exact M.mb.m
          · rw [Heap.get_upd_ne _ _ hplb', Heap.get_upd_same, hmk]
          · rw [hmk]; exact markW_lt (on := false) o.b (by omega) (by omega)
          · rw [kk _ (by omega) (by omega)]; exact M.t
        · have hm0 : m = c0 - w0 := by omega
          subst hm0
          have d1 : ¬ ((w0 + (c0 - w0) : Nat) : Int) < (c0 : Int) := by omega
          simp (disch := (first | omega | rfl | (simp only [Heap.nx_upd, Heap.nx_new]; omega))) only [↓reduceIte, reduceCtorEq, Za, Zb, Zc, Zd, Ze, Zf, Zg, Zh, Zi, Zj, Zk, Zl, Zm, Zn, Zo, Zp, Zq, Zr, Zs, Zt, Zu, Zv, gval, Zw, Zx, Zy, Zz, ZA, ZB, ZC, ZD, ZE, ZF, decide_eq_true_eq, ZG, ZH, ZI, ZJ, ZK, ZL, ZM, ZN, ZO, ZP, ZQ, ZR, ZS, Option.some.injEq, exists_eq_left', ZT, ZU, ZV, ZW, ZX, ZY, true_and, and_true, true_or, or_true, false_or, or_false, ite_true, ite_false, cond_true, cond_false, ZZ, Qa, if_true, if_false, decide_true, decide_false, Qb, Qc, Qd, Qe, Qf, Qg, Qh, Qi, Qj, Qk, Ql, Qm, Qn, Qo, Qp, rb0, rb1, rb2, rb3, rb4, tf0, tf1, tf2, tf3, tf4, Heap.get_upd_ne, Heap.get_new_ne, Heap.get_new_at, overL_one, if_pos, stX_exactN, e11, e15, d1]
          exact hQx _ _ _ (by simp) ⟨rfl, by simp only [at_put, at_args, Nat.reduceBEq, cond_true, cond_false, List.getElem?_cons_zero, List.getElem?_cons_succ, Option.getD_some, Nat.add_zero, Int.cast_ofNat_Int, e0], by simp only [at_put, at_args, Nat.reduceBEq, cond_true, cond_false, List.getElem?_cons_zero, List.getElem?_cons_succ, Option.getD_some, Nat.add_zero, Int.cast_ofNat_Int, e1], by simp only [at_put, at_args, Nat.reduceBEq, cond_true, cond_false, List.getElem?_cons_zero, List.getElem?_cons_succ, Option.getD_some, Nat.add_zero, Int.cast_ofNat_Int, e2], by simp only [at_put, at_args, Nat.reduceBEq, cond_true, cond_false, List.getElem?_cons_zero, List.getElem?_cons_succ, Option.getD_some, Nat.add_zero, Int.cast_ofNat_Int, e7], by simp only [at_put, at_args, Nat.reduceBEq, cond_true, cond_false, List.getElem?_cons_zero, List.getElem?_cons_succ, Option.getD_some, Nat.add_zero, Int.cast_ofNat_Int, e9], by simp only [at_put, at_args, Nat.reduceBEq, cond_true, cond_false, List.getElem?_cons_zero, List.getElem?_cons_succ, Option.getD_some, Nat.add_zero, Int.cast_ofNat_Int, e10], by simp only [at_put, at_args, Nat.reduceBEq, cond_true, cond_false, List.getElem?_cons_zero, List.getElem?_cons_succ, Option.getD_some, Nat.add_zero, Int.cast_ofNat_Int, e12], M, hn5, hk5⟩
      · exact ⟨0, rfl, by omega, by simp only [at_put, at_args, Nat.reduceBEq, cond_true, cond_false, List.getElem?_cons_zero, List.getElem?_cons_succ, Option.getD_some, Nat.add_zero, Int.cast_ofNat_Int, e0], by simp only [at_put, at_args, Nat.reduceBEq, cond_true, cond_false, List.getElem?_cons_zero, List.getElem?_cons_succ, Option.getD_some, Nat.add_zero, Int.cast_ofNat_Int, e1], by simp only [at_put, at_args, Nat.reduceBEq, cond_true, cond_false, List.getElem?_cons_zero, List.getElem?_cons_succ, Option.getD_some, Nat.add_zero, Int.cast_ofNat_Int, e2], by simp only [at_put, at_args, Nat.reduceBEq, cond_true, cond_false, List.getElem?_cons_zero, List.getElem?_cons_succ, Option.getD_some, Nat.add_zero, Int.cast_ofNat_Int, e7], by simp only [at_put, at_args, Nat.reduceBEq, cond_true, cond_false, List.getElem?_cons_zero, List.getElem?_cons_succ, Option.getD_some, Nat.add_zero, Int.cast_ofNat_Int, e9], by simp only [at_put, at_args, Nat.reduceBEq, cond_true, cond_false, List.getElem?_cons_zero, List.getElem?_cons_succ, Option.getD_some, Nat.add_zero, Int.cast_ofNat_Int, e10], by simp only [at_put, at_args, Nat.reduceBEq, cond_true, cond_false, List.getElem?_cons_zero, List.getElem?_cons_succ, Option.getD_some, Nat.add_zero, Int.cast_ofNat_Int, e11], by simp only [at_put, at_args, Nat.reduceBEq, cond_true, cond_false, List.getElem?_cons_zero, List.getElem?_cons_succ, Option.getD_some, Nat.add_zero, Int.cast_ofNat_Int, e12], by simp only [at_put, at_args, Nat.reduceBEq, cond_true, cond_false, List.getElem?_cons_zero, List.getElem?_cons_succ, Option.getD_some, Nat.add_zero, Int.cast_ofNat_Int], M, hn4, hk4⟩
      · rintro ex e h5 - ⟨rfl, e0, e1, e2, e7, e9, e10, e12, M, hn5, hk5⟩
        have hsz0 : (Rz.shr w0 (c0 - w0) g).x 2 = (s.size i : Int) := by rw [shr_x _ _ (by omega), ← hg, grow_x _ _ (by omega)]; exact hs0
        have hrz : s.rz i sz = Rz.shr w0 (c0 - w0) g := by
          unfold FS.rz
          rw [hc0, hw0, hg]
        have hxw : 0 < w0 → sz < s.size i → (Rz.shr w0 (c0 - w0) g).x (3 + (w0 - 1)) = s.ino i (3 + (w0 - 1)) := fun w1 w2 => by
          rw [shr_x _ _ (by omega), ← hg, show w0 - c0 = 0 by rw [← hw0, ← hc0]; unfold needN; omega]; rfl
        have hres : s.resize i sz = ⟨s.n, s.a, (Rz.shr w0 (c0 - w0) g).b, fun i' => if i' = i then updN (Rz.shr w0 (c0 - w0) g).x 2 sz else s.ino i', s.cut i sz (Rz.shr w0 (c0 - w0) g)⟩ := by
          unfold FS.resize
          rw [hrz]
        generalize Rz.shr w0 (c0 - w0) g = g3 at *
        have x2 : (i64s (row9 g3.x))[2]? = some (.int .i64 (s.size i : Int)) := by rw [List.getElem?_map, row9_get (by omega), hsz0]; rfl
        have wr : (sz : Int).tmod 32 = ((sz % 32 : Nat) : Int) := by rw [Int.tmod_eq_emod_of_nonneg (by omega)]; omega
        have wr2 : wrapF .i64 ((sz % 32 : Nat) : Int) = ((sz % 32 : Nat) : Int) := wrapI (by omega) (by omega)
        have hset : overL (i64s (row9 g3.x)) 2 [Value.int .i64 (sz : Int)] = i64s (row9 (updN g3.x 2 sz)) := (overL_one _ (by rw [lx]; omega)).trans (ino_set _ (by omega))
        have hxv : ∀ j, 0 ≤ updN g3.x 2 sz j ∧ updN g3.x 2 sz j < 9223372036854775808 := fun j => by
          unfold updN
          split
          · omega
          · exact M.ok.x j
        simp (disch := (first | omega | rfl | (simp only [Heap.nx_upd, Heap.nx_new]; omega))) only [↓reduceIte, reduceCtorEq, Za, Zb, Zc, Zd, Ze, Zf, Zg, Zh, Zi, Zj, Zk, Zl, Zm, Zn, Zo, Zp, Zq, Zr, Zs, Zt, Zu, Zv, gval, Zw, Zx, Zy, Zz, ZA, ZB, ZC, ZD, ZE, ZF, decide_eq_true_eq, ZG, ZH, ZI, ZJ, ZK, ZL, ZM, ZN, ZO, ZP, ZQ, ZR, ZS, Option.some.injEq, exists_eq_left', ZT, ZU, ZV, ZW, ZX, ZY, true_and, and_true, true_or, or_true, false_or, or_false, ite_true, ite_false, cond_true, cond_false, ZZ, Qa, if_true, if_false, decide_true, decide_false, Qb, Qc, Qd, Qe, Qf, Qg, Qh, Qi, Qj, Qk, Ql, Qm, Qn, Qo, Qp, rb0, rb1, rb2, rb3, rb4, tf0, tf1, tf2, tf3, tf4, Heap.get_upd_ne, Heap.get_new_ne, Heap.get_new_at, overL_one, if_pos, stX_exactN, e2, e7, M.x, lx, x2, wr, wr2]
        have l39 : 2 + 1 ≤ 9 := by omega
        have ht9 : (i64s (row9 (updN g3.x 2 sz))).take 9 = i64s (row9 (updN g3.x 2 sz)) := List.take_of_length_le (by rw [lx]; omega)
        by_cases c4 : sz < s.size i
        · have c4' : (sz : Int) < (s.size i : Int) := by omega
          by_cases c5 : 0 < sz % 32
          · have c5' : (0 : Int) < ((sz % 32 : Nat) : Int) := by omega
            have hw1 : 0 < w0 := by rw [← hw0]; unfold needN; omega
            have hj : 3 + (w0 - 1) < 9 := by omega
            have hv := ho.bl (w0 - 1) (by rw [hc0, ← hc0, ← hw0]; unfold needN; omega)
            rw [← hxw hw1 c4] at hv
            obtain ⟨v, hvv⟩ : ∃ v : Nat, g3.x (3 + (w0 - 1)) = v := ⟨(g3.x (3 + (w0 - 1))).toNat, by omega⟩
            rw [hvv] at hv
            have gx : (i64s (row9 g3.x))[3 + (w0 - 1)]? = some (.int .i64 (v : Int)) := by
              rw [List.getElem?_map, row9_get hj, hvv]; rfl
            have wm : wrapF .i64 ((w0 : Int) - 1) = ((w0 - 1 : Nat) : Int) := by rw [wrapI (by omega) (by omega)]; omega
            simp (disch := (first | omega | rfl | (simp only [Heap.nx_upd, Heap.nx_new]; omega))) only [↓reduceIte, reduceCtorEq, Za, Zb, Zc, Zd, Ze, Zf, Zg, Zh, Zi, Zj, Zk, Zl, Zm, Zn, Zo, Zp, Zq, Zr, Zs, Zt, Zu, Zv, gval, Zw, Zx, Zy, Zz, ZA, ZB, ZC, ZD, ZE, ZF, decide_eq_true_eq, ZG, ZH, ZI, ZJ, ZK, ZL, ZM, ZN, ZO, ZP, ZQ, ZR, ZS, Option.some.injEq, exists_eq_left', ZT, ZU, ZV, ZW, ZX, ZY, true_and, and_true, true_or, or_true, false_or, or_false, ite_true, ite_false, cond_true, cond_false, ZZ, Qa, if_true, if_false, decide_true, decide_false, Qb, Qc, Qd, Qe, Qf, Qg, Qh, Qi, Qj, Qk, Ql, Qm, Qn, Qo, Qp, rb0, rb1, rb2, rb3, rb4, tf0, tf1, tf2, tf3, tf4, Heap.get_upd_ne, Heap.get_new_ne, Heap.get_new_at, overL_one, if_pos, stX_exactN, e0, e2, e7, e12, c4', c5', wm, M.x, lx, hj, gx, Nat.mul_one]
            refine runC_of (fget_spec pl M.f (b := v) (by show v < s.n; omega) fun h6 n6 g6 f6 k6 => ?_)
            obtain ⟨r, hr⟩ : ∃ r, sz % 32 = r := ⟨_, rfl⟩
            have hr32 : r < 32 := by omega
            have hrow : rowD (FS.D ⟨s.n, s.a, s.b, s.ino, g3.dat⟩) v = (List.range 32).map (g3.dat v) := by
              unfold rowD
              refine List.map_congr_left fun k _ => ?_
              unfold FS.D
              rw [if_neg (by omega), if_neg (by omega)]
            rw [hrow] at g6
            have hl32 : (u64s ((List.range 32).map (g3.dat v))).length = 32 := by simp
            have hsl : slS (some 1) (some ⟨h5.nx, 0, none⟩) 32 32 (some (.int .i64 (r : Int))) none none h6.get = ret (.slice (some ⟨h5.nx, r, none⟩) (32 - r) (32 - r)) := by
              have := slS_loose (k := .i64) (off := 0) (n := 32) (c := 32) (l := r) g6 (by rw [hl32]) (by omega) (by omega)
              rwa [Nat.zero_add] at this
            have hclr := clear81 (off := r) (n := 32 - r) (c := 32 - r) g6 (by omega) (by rw [hl32]; omega)
            have hov : overL (u64s ((List.range 32).map (g3.dat v))) r (List.replicate (32 - r) (.int .u64 0)) = u64s ((List.range 32).map fun k => if k < r then g3.dat v k else 0) := by
              apply List.ext_getElem?
              intro k
              rw [overC_get (by rw [List.length_replicate, hl32]; omega), List.length_replicate]
              by_cases hk : k < 32
              · have e2 : (u64s ((List.range 32).map fun k => if k < r then g3.dat v k else 0))[k]? = some (.int .u64 (if k < r then g3.dat v k else 0)) := by rw [List.getElem?_map, List.getElem?_map, List.getElem?_range hk]; rfl
                rw [e2]
                by_cases hkr : k < r
                · rw [if_neg (by omega), if_pos hkr, List.getElem?_map, List.getElem?_map, List.getElem?_range hk]; rfl
                · rw [if_pos (by omega), if_neg hkr, List.getElem?_replicate, if_pos (by omega)]
              · rw [if_neg (by omega), List.getElem?_eq_none (by simp; omega), List.getElem?_eq_none (by simp; omega)]
            rw [hov] at hclr
            rw [hr]
            simp (disch := (first | omega | rfl | (simp only [Heap.nx_upd, Heap.nx_new]; omega))) only [↓reduceIte, reduceCtorEq, Za, Zb, Zc, Zd, Ze, Zf, Zg, Zh, Zi, Zj, Zk, Zl, Zm, Zn, Zo, Zp, Zq, Zr, Zs, Zt, Zu, Zv, gval, Zw, Zx, Zy, Zz, ZA, ZB, ZC, ZD, ZE, ZF, decide_eq_true_eq, ZG, ZH, ZI, ZJ, ZK, ZL, ZM, ZN, ZO, ZP, ZQ, ZR, ZS, Option.some.injEq, exists_eq_left', ZT, ZU, ZV, ZW, ZX, ZY, true_and, and_true, true_or, or_true, false_or, or_false, ite_true, ite_false, cond_true, cond_false, ZZ, Qa, if_true, if_false, decide_true, decide_false, Qb, Qc, Qd, Qe, Qf, Qg, Qh, Qi, Qj, Qk, Ql, Qm, Qn, Qo, Qp, rb0, rb1, rb2, rb3, rb4, tf0, tf1, tf2, tf3, tf4, Heap.get_upd_ne, Heap.get_new_ne, Heap.get_new_at, overL_one, if_pos, stX_exactN, hsl, hclr, show ((0 : Int) == 0) = true from rfl]
            obtain ⟨h7, hh7⟩ : ∃ h7, h6.upd h5.nx (cellsB (u64s ((List.range 32).map fun k => if k < r then g3.dat v k else 0)) (.loose 1)) = h7 := ⟨_, rfl⟩
            have n7 : h7.nx = h5.nx + 1 := by rw [← hh7, Heap.nx_upd, n6]
            have g7 : h7.get h5.nx = some (cellsB (u64s ((List.range 32).map fun k => if k < r then g3.dat v k else 0)) (.loose 1)) := by rw [← hh7, Heap.get_upd_same]
            have k7 : ∀ b', b' < h5.nx → b' ≠ bd → h7.get b' = h5.get b' := fun b' w1 w2 => by rw [← hh7, Heap.get_upd_ne _ _ (by omega), k6 _ w1 w2]
            rw [hh7]
            have X7 := (k7 p (by omega) (by omega)).trans M.x
            have f7 : Fs h7 bd bl ⟨s.n, s.a, s.b, s.ino, g3.dat⟩ := f6.keep (by omega) (by rw [← hh7, Heap.get_upd_ne _ _ (by omega)]) (by rw [← hh7, Heap.get_upd_ne _ _ (by omega)])
            refine run_draw (ps := []) (by kernel_rfl) (by kernel_rfl) ?_
            simp (disch := (first | omega | rfl | (simp only [Heap.nx_upd, Heap.nx_new]; omega))) only [↓reduceIte, reduceCtorEq, Za, Zb, Zc, Zd, Ze, Zf, Zg, Zh, Zi, Zj, Zk, Zl, Zm, Zn, Zo, Zp, Zq, Zr, Zs, Zt, Zu, Zv, gval, Zw, Zx, Zy, Zz, ZA, ZB, ZC, ZD, ZE, ZF, decide_eq_true_eq, ZG, ZH, ZI, ZJ, ZK, ZL, ZM, ZN, ZO, ZP, ZQ, ZR, ZS, Option.some.injEq, exists_eq_left', ZT, ZU, ZV, ZW, ZX, ZY, true_and, and_true, true_or, or_true, false_or, or_false, ite_true, ite_false, cond_true, cond_false, ZZ, Qa, if_true, if_false, decide_true, decide_false, Qb, Qc, Qd, Qe, Qf, Qg, Qh, Qi, Qj, Qk, Ql, Qm, Qn, Qo, Qp, rb0, rb1, rb2, rb3, rb4, tf0, tf1, tf2, tf3, tf4, Heap.get_upd_ne, Heap.get_new_ne, Heap.get_new_at, overL_one, if_pos, stX_exactN, e0, e7, e12, wm, X7, lx, hj, gx, Nat.mul_one, nil_put, u_invoke, invK_iface, inv_put]
            have hwr : ∀ j, 0 ≤ (if j < r then g3.dat v j else 0) ∧ (if j < r then g3.dat v j else 0) < 18446744073709551616 := fun j => by
              split
              · exact M.ok.dat v j
              · omega
            refine runCR_of (fbput_spec pl f7 (b := v) (by omega) (by show v < s.n; omega) g7 (off := 0) (w := fun k => if k < r then g3.dat v k else 0) (by rw [List.drop_zero, List.take_of_length_le (by simp)]) hwr (fun h8 n8 f8 k8 => ?_) (by omega))
            have k58 : ∀ b', b' < h5.nx → b' ≠ bd → b' ≠ bl → h8.get b' = h5.get b' := fun b' w1 w2 w3 => by rw [k8 _ w2 w3, k7 _ w1 w2]
            have X8 := (k58 p (by omega) (by omega) (by omega)).trans M.x
            have hk8 : ∀ b', b' < h.nx → b' ≠ bd → b' ≠ bl → h8.get b' = h.get b' := fun b' w1 w2 w3 => by rw [k58 _ (by omega) w2 w3, hk5 _ w1 w2 w3]
            have hn8 : h3.nx ≤ h8.nx := by omega
            simp (disch := (first | omega | rfl | (simp only [Heap.nx_upd, Heap.nx_new]; omega))) only [↓reduceIte, reduceCtorEq, Za, Zb, Zc, Zd, Ze, Zf, Zg, Zh, Zi, Zj, Zk, Zl, Zm, Zn, Zo, Zp, Zq, Zr, Zs, Zt, Zu, Zv, gval, Zw, Zx, Zy, Zz, ZA, ZB, ZC, ZD, ZE, ZF, decide_eq_true_eq, ZG, ZH, ZI, ZJ, ZK, ZL, ZM, ZN, ZO, ZP, ZQ, ZR, ZS, Option.some.injEq, exists_eq_left', ZT, ZU, ZV, ZW, ZX, ZY, true_and, and_true, true_or, or_true, false_or, or_false, ite_true, ite_false, cond_true, cond_false, ZZ, Qa, if_true, if_false, decide_true, decide_false, Qb, Qc, Qd, Qe, Qf, Qg, Qh, Qi, Qj, Qk, Ql, Qm, Qn, Qo, Qp, rb0, rb1, rb2, rb3, rb4, tf0, tf1, tf2, tf3, tf4, Heap.get_upd_ne, Heap.get_new_ne, Heap.get_new_at, overL_one, if_pos, stX_exactN, e0, e1, e2, e7, e9, e10, X8, lx, hset, l39, show ((0 : Int) == 0) = true from rfl]
            obtain ⟨h9, hh9⟩ : ∃ h9, h8.upd p (cellsB (i64s (row9 (updN g3.x 2 sz))) .exact) = h9 := ⟨_, rfl⟩
            have n9 : h9.nx = h8.nx := by rw [← hh9, Heap.nx_upd]
            have g9 : h9.get p = some (cellsB (i64s (row9 (updN g3.x 2 sz))) .exact) := by rw [← hh9, Heap.get_upd_same]
            have k9 : ∀ b', b' ≠ p → h9.get b' = h8.get b' := fun b' hb' => by rw [← hh9, Heap.get_upd_ne _ _ hb']
            rw [hh9]
            have f9 : Fs h9 bd bl ⟨s.n, s.a, s.b, s.ino, fun b' => if b' = v then (fun k => if k < r then g3.dat v k else 0) else g3.dat b'⟩ := (f8).keep (by omega) (k9 _ (by omega)) (k9 _ (by omega))
            refine runC_of (keep_spec pl f9 (a := s.a) (b := g3.b) ((M.ma.keep (k58 _ (by omega) (by omega) (by omega)) (k58 _ (by omega) (by omega) (by omega))).keep (k9 _ (by omega)) (k9 _ (by omega))) ((M.mb.keep (k58 _ (by omega) (by omega) (by omega)) (k58 _ (by omega) (by omega) (by omega))).keep (k9 _ (by omega)) (k9 _ (by omega))) (by have := hn8; omega) (by omega) fun h10 f10 n10 k10 => ?_)
            have g10 : h10.get p = some (cellsB (i64s (row9 (updN g3.x 2 sz))) .exact) := (k10 _ (by omega) (by omega) (by omega)).trans g9
            simp (disch := (first | omega | rfl | (simp only [Heap.nx_upd, Heap.nx_new]; omega))) only [↓reduceIte, reduceCtorEq, Za, Zb, Zc, Zd, Ze, Zf, Zg, Zh, Zi, Zj, Zk, Zl, Zm, Zn, Zo, Zp, Zq, Zr, Zs, Zt, Zu, Zv, gval, Zw, Zx, Zy, Zz, ZA, ZB, ZC, ZD, ZE, ZF, decide_eq_true_eq, ZG, ZH, ZI, ZJ, ZK, ZL, ZM, ZN, ZO, ZP, ZQ, ZR, ZS, Option.some.injEq, exists_eq_left', ZT, ZU, ZV, ZW, ZX, ZY, true_and, and_true, true_or, or_true, false_or, or_false, ite_true, ite_false, cond_true, cond_false, ZZ, Qa, if_true, if_false, decide_true, decide_false, Qb, Qc, Qd, Qe, Qf, Qg, Qh, Qi, Qj, Qk, Ql, Qm, Qn, Qo, Qp, rb0, rb1, rb2, rb3, rb4, tf0, tf1, tf2, tf3, tf4, Heap.get_upd_ne, Heap.get_new_ne, Heap.get_new_at, overL_one, if_pos, stX_exactN, e0, e1, e7, g10, lx, ht9, show ((0 : Int) == 0) = true from rfl]
            refine runC_of (fiput_spec pl f10 hi hxv fun h11 n11 f11 k11 => ?_)
            simp only [↓reduceIte, reduceCtorEq, Za, Zb, Zc, Zd, Ze, Zf, Zg, Zh, Zi, Zj, Zk, Zl, Zm, Zn, Zo, Zp, Zq, Zr, Zs, Zt, Zu, Zv, gval, Zw, Zx, Zy, Zz, ZA, ZB, ZC, ZD, ZE, ZF, decide_eq_true_eq, ZG, ZH, ZI, ZJ, ZK, ZL, ZM, ZN, ZO, ZP, ZQ, ZR, ZS, Option.some.injEq, exists_eq_left', ZT, ZU, ZV, ZW, ZX, ZY, true_and, and_true, true_or, or_true, false_or, or_false, ite_true, ite_false, cond_true, cond_false, ZZ, Qa, if_true, if_false, decide_true, decide_false, Qb, Qc, Qd, Qe, Qf, Qg, Qh, Qi, Qj, Qk, Ql, Qm, Qn, Qo, Qp, rb0, rb1, rb2, rb3, rb4, tf0, tf1, tf2, tf3, tf4]
            refine hR4 sz rfl hsz (by omega) h11 ?_ (by have := hn8; omega) fun b' w1 w2 w3 => by rw [k11 _ (by have := hn8; omega) w2 w3, k10 _ (by have := hn8; omega) w2 w3, k9 _ (by omega), hk8 _ w1 w2 w3]
            rw [hres]
            have hcut : s.cut i sz g3 = fun b' => if b' = v then (fun k => if k < r then g3.dat v k else 0) else g3.dat b' := by
                          unfold FS.cut
                          rw [if_pos ⟨c4, by omega⟩, hw0, hvv, Int.toNat_natCast, hr]
                          funext b'
                          by_cases e : b' = v
                          · rw [if_pos e, if_pos e, e]
                          · rw [if_neg e, if_neg e]
            rw [hcut]
            exact f11
          · have c5' : ¬ (0 : Int) < ((sz % 32 : Nat) : Int) := by omega
            have hX := M.x
            simp (disch := (first | omega | rfl | (simp only [Heap.nx_upd, Heap.nx_new]; omega))) only [↓reduceIte, reduceCtorEq, Za, Zb, Zc, Zd, Ze, Zf, Zg, Zh, Zi, Zj, Zk, Zl, Zm, Zn, Zo, Zp, Zq, Zr, Zs, Zt, Zu, Zv, gval, Zw, Zx, Zy, Zz, ZA, ZB, ZC, ZD, ZE, ZF, decide_eq_true_eq, ZG, ZH, ZI, ZJ, ZK, ZL, ZM, ZN, ZO, ZP, ZQ, ZR, ZS, Option.some.injEq, exists_eq_left', ZT, ZU, ZV, ZW, ZX, ZY, true_and, and_true, true_or, or_true, false_or, or_false, ite_true, ite_false, cond_true, cond_false, ZZ, Qa, if_true, if_false, decide_true, decide_false, Qb, Qc, Qd, Qe, Qf, Qg, Qh, Qi, Qj, Qk, Ql, Qm, Qn, Qo, Qp, rb0, rb1, rb2, rb3, rb4, tf0, tf1, tf2, tf3, tf4, Heap.get_upd_ne, Heap.get_new_ne, Heap.get_new_at, overL_one, if_pos, stX_exactN, e0, e1, e2, e7, e9, e10, hX, lx, hset, l39, c4', c5']
            obtain ⟨h9, hh9⟩ : ∃ h9, h5.upd p (cellsB (i64s (row9 (updN g3.x 2 sz))) .exact) = h9 := ⟨_, rfl⟩
            have n9 : h9.nx = h5.nx := by rw [← hh9, Heap.nx_upd]
            have g9 : h9.get p = some (cellsB (i64s (row9 (updN g3.x 2 sz))) .exact) := by rw [← hh9, Heap.get_upd_same]
            have k9 : ∀ b', b' ≠ p → h9.get b' = h5.get b' := fun b' hb' => by rw [← hh9, Heap.get_upd_ne _ _ hb']
            rw [hh9]
            have f9 : Fs h9 bd bl ⟨s.n, s.a, s.b, s.ino, g3.dat⟩ := (M.f).keep (by omega) (k9 _ (by omega)) (k9 _ (by omega))
            refine runC_of (keep_spec pl f9 (a := s.a) (b := g3.b) ((M.ma).keep (k9 _ (by omega)) (k9 _ (by omega))) ((M.mb).keep (k9 _ (by omega)) (k9 _ (by omega))) (by have := hn5; omega) (by omega) fun h10 f10 n10 k10 => ?_)
            have g10 : h10.get p = some (cellsB (i64s (row9 (updN g3.x 2 sz))) .exact) := (k10 _ (by omega) (by omega) (by omega)).trans g9
            simp (disch := (first | omega | rfl | (simp only [Heap.nx_upd, Heap.nx_new]; omega))) only [↓reduceIte, reduceCtorEq, Za, Zb, Zc, Zd, Ze, Zf, Zg, Zh, Zi, Zj, Zk, Zl, Zm, Zn, Zo, Zp, Zq, Zr, Zs, Zt, Zu, Zv, gval, Zw, Zx, Zy, Zz, ZA, ZB, ZC, ZD, ZE, ZF, decide_eq_true_eq, ZG, ZH, ZI, ZJ, ZK, ZL, ZM, ZN, ZO, ZP, ZQ, ZR, ZS, Option.some.injEq, exists_eq_left', ZT, ZU, ZV, ZW, ZX, ZY, true_and, and_true, true_or, or_true, false_or, or_false, ite_true, ite_false, cond_true, cond_false, ZZ, Qa, if_true, if_false, decide_true, decide_false, Qb, Qc, Qd, Qe, Qf, Qg, Qh, Qi, Qj, Qk, Ql, Qm, Qn, Qo, Qp, rb0, rb1, rb2, rb3, rb4, tf0, tf1, tf2, tf3, tf4, Heap.get_upd_ne, Heap.get_new_ne, Heap.get_new_at, overL_one, if_pos, stX_exactN, e0, e1, e7, g10, lx, ht9, show ((0 : Int) == 0) = true from rfl]
            refine runC_of (fiput_spec pl f10 hi hxv fun h11 n11 f11 k11 => ?_)
            simp only [↓reduceIte, reduceCtorEq, Za, Zb, Zc, Zd, Ze, Zf, Zg, Zh, Zi, Zj, Zk, Zl, Zm, Zn, Zo, Zp, Zq, Zr, Zs, Zt, Zu, Zv, gval, Zw, Zx, Zy, Zz, ZA, ZB, ZC, ZD, ZE, ZF, decide_eq_true_eq, ZG, ZH, ZI, ZJ, ZK, ZL, ZM, ZN, ZO, ZP, ZQ, ZR, ZS, Option.some.injEq, exists_eq_left', ZT, ZU, ZV, ZW, ZX, ZY, true_and, and_true, true_or, or_true, false_or, or_false, ite_true, ite_false, cond_true, cond_false, ZZ, Qa, if_true, if_false, decide_true, decide_false, Qb, Qc, Qd, Qe, Qf, Qg, Qh, Qi, Qj, Qk, Ql, Qm, Qn, Qo, Qp, rb0, rb1, rb2, rb3, rb4, tf0, tf1, tf2, tf3, tf4]
            refine hR4 sz rfl hsz (by omega) h11 ?_ (by have := hn5; omega) fun b' w1 w2 w3 => by rw [k11 _ (by have := hn5; omega) w2 w3, k10 _ (by have := hn5; omega) w2 w3, k9 _ (by omega), hk5 _ w1 w2 w3]
            rw [hres]
            have hcut : s.cut i sz g3 = g3.dat := by unfold FS.cut; rw [if_neg (by omega)]
            rw [hcut]
            exact f11
        · have c4' : ¬ (sz : Int) < (s.size i : Int) := by omega
          have hX := M.x
          simp (disch := (first | omega | rfl | (simp only [Heap.nx_upd, Heap.nx_new]; omega))) only [↓reduceIte, reduceCtorEq, Za, Zb, Zc, Zd, Ze, Zf, Zg, Zh, Zi, Zj, Zk, Zl, Zm, Zn, Zo, Zp, Zq, Zr, Zs, Zt, Zu, Zv, gval, Zw, Zx, Zy, Zz, ZA, ZB, ZC, ZD, ZE, ZF, decide_eq_true_eq, ZG, ZH, ZI, ZJ, ZK, ZL, ZM, ZN, ZO, ZP, ZQ, ZR, ZS, Option.some.injEq, exists_eq_left', ZT, ZU, ZV, ZW, ZX, ZY, true_and, and_true, true_or, or_true, false_or, or_false, ite_true, ite_false, cond_true, cond_false, ZZ, Qa, if_true, if_false, decide_true, decide_false, Qb, Qc, Qd, Qe, Qf, Qg, Qh, Qi, Qj, Qk, Ql, Qm, Qn, Qo, Qp, rb0, rb1, rb2, rb3, rb4, tf0, tf1, tf2, tf3, tf4, Heap.get_upd_ne, Heap.get_new_ne, Heap.get_new_at, overL_one, if_pos, stX_exactN, e0, e1, e2, e7, e9, e10, hX, lx, hset, l39, c4', runG_undef]
          obtain ⟨h9, hh9⟩ : ∃ h9, h5.upd p (cellsB (i64s (row9 (updN g3.x 2 sz))) .exact) = h9 := ⟨_, rfl⟩
          have n9 : h9.nx = h5.nx := by rw [← hh9, Heap.nx_upd]
          have g9 : h9.get p = some (cellsB (i64s (row9 (updN g3.x 2 sz))) .exact) := by rw [← hh9, Heap.get_upd_same]
          have k9 : ∀ b', b' ≠ p → h9.get b' = h5.get b' := fun b' hb' => by rw [← hh9, Heap.get_upd_ne _ _ hb']
          rw [hh9]
          have f9 : Fs h9 bd bl ⟨s.n, s.a, s.b, s.ino, g3.dat⟩ := (M.f).keep (by omega) (k9 _ (by omega)) (k9 _ (by omega))
          refine runC_of (keep_spec pl f9 (a := s.a) (b := g3.b) ((M.ma).keep (k9 _ (by omega)) (k9 _ (by omega))) ((M.mb).keep (k9 _ (by omega)) (k9 _ (by omega))) (by have := hn5; omega) (by omega) fun h10 f10 n10 k10 => ?_)
          have g10 : h10.get p = some (cellsB (i64s (row9 (updN g3.x 2 sz))) .exact) := (k10 _ (by omega) (by omega) (by omega)).trans g9
          simp (disch := (first | omega | rfl | (simp only [Heap.nx_upd, Heap.nx_new]; omega))) only [↓reduceIte, reduceCtorEq, Za, Zb, Zc, Zd, Ze, Zf, Zg, Zh, Zi, Zj, Zk, Zl, Zm, Zn, Zo, Zp, Zq, Zr, Zs, Zt, Zu, Zv, gval, Zw, Zx, Zy, Zz, ZA, ZB, ZC, ZD, ZE, ZF, decide_eq_true_eq, ZG, ZH, ZI, ZJ, ZK, ZL, ZM, ZN, ZO, ZP, ZQ, ZR, ZS, Option.some.injEq, exists_eq_left', ZT, ZU, ZV, ZW, ZX, ZY, true_and, and_true, true_or, or_true, false_or, or_false, ite_true, ite_false, cond_true, cond_false, ZZ, Qa, if_true, if_false, decide_true, decide_false, Qb, Qc, Qd, Qe, Qf, Qg, Qh, Qi, Qj, Qk, Ql, Qm, Qn, Qo, Qp, rb0, rb1, rb2, rb3, rb4, tf0, tf1, tf2, tf3, tf4, Heap.get_upd_ne, Heap.get_new_ne, Heap.get_new_at, overL_one, if_pos, stX_exactN, e0, e1, e7, g10, lx, ht9, show ((0 : Int) == 0) = true from rfl]
          refine runC_of (fiput_spec pl f10 hi hxv fun h11 n11 f11 k11 => ?_)
          simp only [↓reduceIte, reduceCtorEq, Za, Zb, Zc, Zd, Ze, Zf, Zg, Zh, Zi, Zj, Zk, Zl, Zm, Zn, Zo, Zp, Zq, Zr, Zs, Zt, Zu, Zv, gval, Zw, Zx, Zy, Zz, ZA, ZB, ZC, ZD, ZE, ZF, decide_eq_true_eq, ZG, ZH, ZI, ZJ, ZK, ZL, ZM, ZN, ZO, ZP, ZQ, ZR, ZS, Option.some.injEq, exists_eq_left', ZT, ZU, ZV, ZW, ZX, ZY, true_and, and_true, true_or, or_true, false_or, or_false, ite_true, ite_false, cond_true, cond_false, ZZ, Qa, if_true, if_false, decide_true, decide_false, Qb, Qc, Qd, Qe, Qf, Qg, Qh, Qi, Qj, Qk, Ql, Qm, Qn, Qo, Qp, rb0, rb1, rb2, rb3, rb4, tf0, tf1, tf2, tf3, tf4]
          refine hR4 sz rfl hsz (by omega) h11 ?_ (by have := hn5; omega) fun b' w1 w2 w3 => by rw [k11 _ (by have := hn5; omega) w2 w3, k10 _ (by have := hn5; omega) w2 w3, k9 _ (by omega), hk5 _ w1 w2 w3]
          rw [hres]
          have hcut : s.cut i sz g3 = g3.dat := by unfold FS.cut; rw [if_neg (by omega)]
          rw [hcut]
          exact f11
end Go.Proofs.YtmadjdgipfdnkaaDoor
end
section
/- Inodes: Alloc, Left, Free. Conditions: the disk lies as the rule names. -/
namespace Go.Proofs.YtmadjdgipfdnkaaDoor
open Go.AM
open Nat renaming reduceBEq → Za, reduceEqDiff → Zb, reduceAdd → Zc, reduceSub → Zd, reduceMul → Ze, reduceLT → Zf, reduceLeDiff → Zg, reduceDiv → Zh, reduceMod → Zi, reducePow → Zj, blt_eq → ZF, zero_add → Qc, add_zero → Qd
open Int renaming reduceAdd → Zk, reduceSub → Zl, reduceMul → Zm, reduceLT → Zn, reduceLE → Zo, reduceEq → Zp, reduceNe → Zq, reduceNeg → Zr, reduceToNat → Zs, reduceDiv → Zt, reduceMod → Zu, reducePow → Zv, cast_ofNat_Int → Zw, toNat_natCast → Qb
open List renaming set_cons_zero → Zx, set_cons_succ → Zy, map_toArray → Zz, cons_append → ZA, nil_append → ZB, append_nil → ZC, all_cons → ZD, all_nil → ZE, getElem?_cons_zero → ZJ, getElem?_cons_succ → ZK, length_cons → ZL, length_nil → ZM, map_cons → ZN, map_nil → ZO, isEmpty_nil → Qe, any_cons → Qf, any_nil → Qg, drop_zero → Qk, drop_succ_cons → Ql, take_succ_cons → Qm, take_zero → Qn, take_nil → Qo, drop_nil → Qp
open Bool renaming and_true → ZG, true_and → ZH, and_self → ZI, not_true → ZT, not_false → ZU, true_eq_false → ZZ, false_eq_true → Qa, or_false → Qh, false_or → Qi, and_eq_true → Qj
open Option renaming map_some → ZP, map_none → ZQ, bind_some → ZR, getD_some → ZS, isNone_some → ZV, isNone_none → ZW, isSome_some → ZX, isSome_none → ZY
set_option linter.unusedSimpArgs false
variable {sp : Special} {h : Heap} {R : Out → Heap → Prop} {bd bl : Nat} {s : FS}
def inoK (k : Int) : Nat → Int := fun j => if j = 0 then k else 0
def FS.alloc (s : FS) (k : Int) : FS := (s.maps (markW s.a (lowZ s.a) true) s.b).putI (lowZ s.a) (inoK k)
end Go.Proofs.YtmadjdgipfdnkaaDoor
end
section
/- Texts and rows of bytes of this program. Conditions: as each rule says. -/
namespace Go.Proofs.YtmadjdgipfdnkaaDoor
open Go.AM
open Nat renaming reduceBEq → Za, reduceEqDiff → Zb, reduceAdd → Zc, reduceSub → Zd, reduceMul → Ze, reduceLT → Zf, reduceLeDiff → Zg, reduceDiv → Zh, reduceMod → Zi, reducePow → Zj, blt_eq → ZF, zero_add → Qc, add_zero → Qd
open Int renaming reduceAdd → Zk, reduceSub → Zl, reduceMul → Zm, reduceLT → Zn, reduceLE → Zo, reduceEq → Zp, reduceNe → Zq, reduceNeg → Zr, reduceToNat → Zs, reduceDiv → Zt, reduceMod → Zu, reducePow → Zv, cast_ofNat_Int → Zw, toNat_natCast → Qb
open List renaming set_cons_zero → Zx, set_cons_succ → Zy, map_toArray → Zz, cons_append → ZA, nil_append → ZB, append_nil → ZC, all_cons → ZD, all_nil → ZE, getElem?_cons_zero → ZJ, getElem?_cons_succ → ZK, length_cons → ZL, length_nil → ZM, map_cons → ZN, map_nil → ZO, isEmpty_nil → Qe, any_cons → Qf, any_nil → Qg, drop_zero → Qk, drop_succ_cons → Ql, take_succ_cons → Qm, take_zero → Qn, take_nil → Qo, drop_nil → Qp
open Bool renaming and_true → ZG, true_and → ZH, and_self → ZI, not_true → ZT, not_false → ZU, true_eq_false → ZZ, false_eq_true → Qa, or_false → Qh, false_or → Qi, and_eq_true → Qj
open Option renaming map_some → ZP, map_none → ZQ, bind_some → ZR, getD_some → ZS, isNone_some → ZV, isNone_none → ZW, isSome_some → ZX, isSome_none → ZY
set_option linter.unusedSimpArgs false
variable {sp : Special} {h : Heap} {R : Out → Heap → Prop}
set_option maxRecDepth 100000 in
theorem st34 : ∃ i, Tryd.prog.info? 5 = some i ∧ i.size = 1 ∧ i.bytes = 1 ∧ Tryd.prog.underlying 34 = some (.slice 5) ∧ zeroL Tryd.prog 5 = some [.int .u8 0] := ⟨_, rfl, rfl, rfl, rfl, rfl⟩
theorem appB_unf (base : Option Addr) (m : Nat) {b : Nat} {v : Int} {g : Nat → Option Blk} (nx : Nat) (hb : g b = some (cellsB [.int .u8 v] .exact)) (hm : m ≤ 1000) {old : List Value} (hold : firstL g 1 m (.slice base m m) = some old) (hk : base = none ∨ ∃ b0 L, base = some ⟨b0, 0, none⟩ ∧ g b0 = some (cellsB L (.own 5)) ∧ L.length = m) :
    ∃ wr, aAppend Tryd.prog #[34, 34] (.slice base m m) (.slice (some ⟨b, 0, none⟩) 1 1) g nx = some ⟨.slice (some ⟨nx, 0, none⟩) (m + 1) (m + 1), wr, [cellsB (old ++ [.int .u8 v]) (.own 5)]⟩ ∧ (wr = [] ∨ ∃ b0 L, base = some ⟨b0, 0, none⟩ ∧ g b0 = some (cellsB L (.own 5)) ∧ wr = [(b0, .dead)]) := by
  obtain ⟨i, hi, hs, hby, hu, hz⟩ := st34
  have hnew : firstL g 1 1 (.slice (some ⟨b, 0, none⟩) 1 1) = some [.int .u8 v] := by rw [firstL_slc _ _ _ _ _ _ _ _ _ hb (by simp)]; rfl
  unfold aAppend
  simp only [hu, hi, hz, lenV]
  rw [if_neg (by rw [hs, hby]; simp; omega), hs]
  simp only [hnew, hold]
  rw [if_neg (by omega)]
  rcases hk with rfl | ⟨b0, L, rfl, hb0, hL⟩
  · exact ⟨[], rfl, .inl rfl⟩
  · simp only [hb0]
    unfold cellsB maybeRoom
    simp only [hL, Nat.mul_one, Nat.zero_add, and_self, if_true]
    exact ⟨_, rfl, .inr ⟨b0, L, rfl, by rw [hb0]; unfold cellsB; rw [hL], rfl⟩⟩
structure BAt (h : Heap) (lo : Nat) (v : Value) (l : List UInt8) : Prop where
  is : (v = .slice none 0 0 ∧ l = []) ∨ ∃ b, lo ≤ b ∧ b < h.nx ∧ v = .slice (some ⟨b, 0, none⟩) l.length l.length ∧ h.get b = some (cellsB (u8s l) (.own 5))
theorem BAt.keep {h' : Heap} {lo : Nat} {v : Value} {l : List UInt8} (x : BAt h lo v l) (hn : h.nx ≤ h'.nx) (hk : ∀ b, lo ≤ b → b < h.nx → h'.get b = h.get b) : BAt h' lo v l := by
  rcases x.is with ⟨h1, h2⟩ | ⟨b, h1, h2, h3, h4⟩
  · exact ⟨.inl ⟨h1, h2⟩⟩
  · exact ⟨.inr ⟨b, h1, by omega, h3, (hk b h1 h2).trans h4⟩⟩
theorem bs1_34 (v : Int) (nx : Nat) : effBuildSlice Tryd.prog 34 1 [(0, .int .u8 v)] nx = some ⟨.slice (some ⟨nx, 0, none⟩) 1 1, [], [cellsB [.int .u8 v] .exact]⟩ := by
  rw [u_buildSlice 34 1 nx _ mk_34 (by omega)]; rfl
theorem growB {lo : Nat} {v : Value} {l : List UInt8} (g : BAt h lo v l) (hlo : lo ≤ h.nx) (x : UInt8) (hsz : l.length ≤ 1000) :
    ∃ E h3 w, aAppend Tryd.prog #[34, 34] v (.slice (some ⟨h.nx, 0, none⟩) 1 1) (h.new (cellsB [.int .u8 x.toNat] .exact)).get (h.nx + 1) = some E ∧ E.val = w ∧ (h.new (cellsB [.int .u8 x.toNat] .exact)).apply E = h3 ∧ BAt h3 lo w (l ++ [x]) ∧ h.nx ≤ h3.nx ∧ (∀ b', b' < lo → h3.get b' = h.get b') ∧ ∀ b', b' < h.nx → (∀ L, h.get b' ≠ some (cellsB L (.own 5))) → h3.get b' = h.get b' := by
  obtain ⟨h2, hh2⟩ : ∃ h2, h.new (cellsB [.int .u8 x.toNat] .exact) = h2 := ⟨_, rfl⟩
  have n2 : h2.nx = h.nx + 1 := by rw [← hh2, Heap.nx_new]
  have g2 : h2.get h.nx = some (cellsB [.int .u8 x.toNat] .exact) := by rw [← hh2, Heap.get_new_same]
  have k2 : ∀ b', b' < h.nx → h2.get b' = h.get b' := fun b' hb' => by rw [← hh2, Heap.get_new_ne _ _ (by omega)]
  rw [hh2, ← n2]
  rcases g.is with ⟨rfl, rfl⟩ | ⟨b, h1, h3, rfl, h5⟩
  · obtain ⟨wr, e1, e2⟩ := appB_unf none 0 h2.nx g2 (by omega) (old := []) rfl (.inl rfl)
    rcases e2 with rfl | ⟨b0, L, e, _⟩
    · refine ⟨_, _, _, e1, rfl, rfl, ⟨.inr ⟨h2.nx, by omega, ?_, rfl, ?_⟩⟩, ?_, fun b' hb' => ?_, fun b' hb' hk => ?_⟩
      · rw [Heap.apply_nw, Heap.nx_new]; omega
      · rw [Heap.apply_nw, Heap.get_new_same]; rfl
      · rw [Heap.apply_nw, Heap.nx_new]; omega
      · rw [Heap.apply_nw, Heap.get_new_ne _ _ (by omega), k2 _ (by omega)]
      · rw [Heap.apply_nw, Heap.get_new_ne _ _ (by omega), k2 _ (by omega)]
    · cases e
  · have h5' := (k2 b h3).trans h5
    obtain ⟨wr, e1, e2⟩ := appB_unf (some ⟨b, 0, none⟩) l.length h2.nx g2 hsz (old := u8s l) (by rw [firstL_slc _ _ _ _ _ _ _ _ _ h5' (by rw [u8s_len]; omega), List.drop_zero, List.take_of_length_le (by rw [u8s_len]; omega)]) (.inr ⟨b, _, rfl, h5', u8s_len l⟩)
    have hw : u8s (l ++ [x]) = u8s l ++ [.int .u8 x.toNat] := by unfold u8s; rw [List.map_append]; rfl
    rcases e2 with rfl | ⟨b0, L, e, _, rfl⟩
    · refine ⟨_, _, _, e1, rfl, rfl, ⟨.inr ⟨h2.nx, by omega, ?_, by simp, ?_⟩⟩, ?_, fun b' hb' => ?_, fun b' hb' hk => ?_⟩
      · rw [Heap.apply_nw, Heap.nx_new]; omega
      · rw [Heap.apply_nw, Heap.get_new_same, hw]
      · rw [Heap.apply_nw, Heap.nx_new]; omega
      · rw [Heap.apply_nw, Heap.get_new_ne _ _ (by omega), k2 _ (by omega)]
      · rw [Heap.apply_nw, Heap.get_new_ne _ _ (by omega), k2 _ (by omega)]
    · cases e
      refine ⟨_, _, _, e1, rfl, rfl, ⟨.inr ⟨h2.nx, by omega, ?_, by simp, ?_⟩⟩, ?_, fun b' hb' => ?_, fun b' hb' hk => ?_⟩
      · rw [Heap.apply_wr_nw, Heap.nx_new, Heap.nx_upd]; omega
      · rw [Heap.apply_wr_nw, Heap.get_new_at _ (by rw [Heap.nx_upd]; omega), hw]
      · rw [Heap.apply_wr_nw, Heap.nx_new, Heap.nx_upd]; omega
      · rw [Heap.apply_wr_nw, Heap.get_new_ne _ _ (by rw [Heap.nx_upd]; omega), Heap.get_upd_ne _ _ (by omega), k2 _ (by omega)]
      · rw [Heap.apply_wr_nw, Heap.get_new_ne _ _ (by rw [Heap.nx_upd]; omega), Heap.get_upd_ne _ _ (fun e => hk _ (by rw [e]; exact h5)), k2 _ (by omega)]
theorem conv_bytes {lo : Nat} {v : Value} {l : List UInt8} (x : BAt h lo v l) : effConv Tryd.prog 34 9 v h.get h.nx = ret (.string (mkS l)) := by
  obtain ⟨i, hi, hs, hby, hu, hz⟩ := st34
  rcases x.is with ⟨rfl, rfl⟩ | ⟨b, _, _, rfl, h4⟩
  · unfold effConv
    simp only [hu, show Tryd.prog.underlying 9 = some .string from by kernel_rfl, show Tryd.prog.underlying 5 = some (.int .u8) from by kernel_rfl]
    rfl
  · unfold effConv
    simp only [hu, show Tryd.prog.underlying 9 = some .string from by kernel_rfl, show Tryd.prog.underlying 5 = some (.int .u8) from by kernel_rfl, bytes_at h4, Option.bind_some]
theorem str_neq (x y : Operand) (l : List UInt8) (g : Nat → Option Blk) : effBin Tryd.prog .neq 9 x y (.string (mkS l)) (.string (mkS [])) g = ret (.bool (decide (l ≠ []))) := by
  rw [effBin_str]
  cases l with
  | nil => rfl
  | cons b l => rfl
theorem str_eql (x y : Operand) (l : List UInt8) (g : Nat → Option Blk) : effBin Tryd.prog .eql 9 x y (.string (mkS l)) (.string (mkS [])) g = ret (.bool (decide (l = []))) := by
  rw [effBin_str]
  cases l with
  | nil => rfl
  | cons b l => rfl
end Go.Proofs.YtmadjdgipfdnkaaDoor
end
section
/- Directories: the Builder. Conditions: as each rule says. -/
namespace Go.Proofs.YtmadjdgipfdnkaaDoor
open Go.AM
open Nat renaming reduceBEq → Za, reduceEqDiff → Zb, reduceAdd → Zc, reduceSub → Zd, reduceMul → Ze, reduceLT → Zf, reduceLeDiff → Zg, reduceDiv → Zh, reduceMod → Zi, reducePow → Zj, blt_eq → ZF, zero_add → Qc, add_zero → Qd
open Int renaming reduceAdd → Zk, reduceSub → Zl, reduceMul → Zm, reduceLT → Zn, reduceLE → Zo, reduceEq → Zp, reduceNe → Zq, reduceNeg → Zr, reduceToNat → Zs, reduceDiv → Zt, reduceMod → Zu, reducePow → Zv, cast_ofNat_Int → Zw, toNat_natCast → Qb
open List renaming set_cons_zero → Zx, set_cons_succ → Zy, map_toArray → Zz, cons_append → ZA, nil_append → ZB, append_nil → ZC, all_cons → ZD, all_nil → ZE, getElem?_cons_zero → ZJ, getElem?_cons_succ → ZK, length_cons → ZL, length_nil → ZM, map_cons → ZN, map_nil → ZO, isEmpty_nil → Qe, any_cons → Qf, any_nil → Qg, drop_zero → Qk, drop_succ_cons → Ql, take_succ_cons → Qm, take_zero → Qn, take_nil → Qo, drop_nil → Qp
open Bool renaming and_true → ZG, true_and → ZH, and_self → ZI, not_true → ZT, not_false → ZU, true_eq_false → ZZ, false_eq_true → Qa, or_false → Qh, false_or → Qi, and_eq_true → Qj
open Option renaming map_some → ZP, map_none → ZQ, bind_some → ZR, getD_some → ZS, isNone_some → ZV, isNone_none → ZW, isSome_some → ZX, isSome_none → ZY
set_option linter.unusedSimpArgs false
variable {h : Heap} {R : Out → Heap → Prop}
theorem stX_bld (b off : Nat) (v : Value) (l : List Value) (t : TypeId) : stX b off (some [v]) (some 1) (some (cellsB l (.bld t))) = if off < l.length then some ⟨undef, [(b, cellsB (l.set off v) (.bld t))], []⟩ else none := stX_one b off v l (.bld t) (by intro h; cases h)
structure Bu (h : Heap) (lo : Nat) (v : Value) (l : List UInt8) : Prop where
  is : (v = .slice none 0 0 ∧ l = []) ∨ (l ≠ [] ∧ ∃ b, lo ≤ b ∧ b < h.nx ∧ v = .slice (some ⟨b, 0, none⟩) l.length l.length ∧ h.get b = some (cellsB (u8s l) (.own 5)))
theorem Bu.keep {h' : Heap} {lo : Nat} {v : Value} {l : List UInt8} (x : Bu h lo v l) (hn : h.nx ≤ h'.nx) (hk : ∀ b, lo ≤ b → b < h.nx → h.get b = some (cellsB (u8s l) (.own 5)) → h'.get b = h.get b) : Bu h' lo v l := by
  rcases x.is with h1 | ⟨h0, b, h1, h2, h3, h4⟩
  · exact ⟨.inl h1⟩
  · exact ⟨.inr ⟨h0, b, h1, by omega, h3, (hk b h1 h2 h4).trans h4⟩⟩
theorem Bu.slc {lo : Nat} {v : Value} {l : List UInt8} (x : Bu h lo v l) : ∃ a, v = .slice a l.length l.length := by
  rcases x.is with ⟨rfl, rfl⟩ | ⟨_, b, _, _, rfl, _⟩ <;> exact ⟨_, rfl⟩
set_option maxRecDepth 100000 in
theorem appU {xt : TypeId} (hxt : xt = 9 ∨ xt = 34) {base : Option Addr} {m : Nat} {x : Value} {l : List UInt8} {g : Nat → Option Blk} (nx : Nat) (hn : lenV x = some l.length) (hf : firstL g 1 l.length x = some (u8s l)) (hm : m + l.length ≤ 1000) {old : List Value} (hold : firstL g 1 m (.slice base m m) = some old)
    (hk : base = none ∧ m = 0 ∨ ∃ b0 L, base = some ⟨b0, 0, none⟩ ∧ g b0 = some (cellsB L (.own 5)) ∧ L.length = m) :
    ∃ wr nw a, aAppend Tryd.prog #[34, xt] (.slice base m m) x g nx = some ⟨.slice a (m + l.length) (m + l.length), wr, nw⟩ ∧
      (l = [] ∧ a = base ∧ nw = [] ∧ (wr = [] ∨ ∃ b0, base = some ⟨b0, 0, none⟩ ∧ ∃ x, g b0 = some x ∧ wr = [(b0, x)]) ∨ l ≠ [] ∧ a = some ⟨nx, 0, none⟩ ∧ nw = [cellsB (old ++ u8s l) (.own 5)] ∧ (wr = [] ∨ ∃ b0 L, base = some ⟨b0, 0, none⟩ ∧ g b0 = some (cellsB L (.own 5)) ∧ wr = [(b0, .dead)])) := by
  obtain ⟨i, hi, hs, hby, hu, hz⟩ := st34
  have hlen : (u8s l).length = l.length := u8s_len l
  have hu9 : ∃ k, Tryd.prog.underlying xt = some k ∧ ∀ q, k ≠ .int q := by
    rcases hxt with rfl | rfl
    · exact ⟨.string, by kernel_rfl, fun q e => by cases e⟩
    · exact ⟨_, hu, fun q e => by cases e⟩
  obtain ⟨k, hk1, hk2⟩ := hu9
  by_cases c : l = []
  · subst c
    rcases hk with ⟨rfl, rfl⟩ | ⟨b0, L, rfl, hb0, hL⟩
    · refine ⟨[], [], none, ?_, .inl ⟨rfl, rfl, rfl, .inl rfl⟩⟩
      unfold aAppend
      simp only [hu, hk1, hi, hz, hn]
      cases k <;> first | exact absurd rfl (hk2 _) | skip
      all_goals
        try simp only
        rw [if_neg (by rw [hs, hby]; simp <;> omega), hs]
        simp only [hf, hold]
        rfl
    · refine ⟨[(b0, cellsB L (.own 5))], [], _, ?_, .inl ⟨rfl, rfl, rfl, .inr ⟨b0, rfl, _, hb0, rfl⟩⟩⟩
      unfold aAppend
      simp only [hu, hk1, hi, hz, hn]
      cases k <;> first | exact absurd rfl (hk2 _) | skip
      all_goals
        try simp only
        rw [if_neg (by rw [hs, hby]; simp <;> omega), hs]
        simp only [hf, hold]
        rw [if_pos (by simp)]
        simp only [hb0]
        unfold cellsB
        simp only [List.length_nil, Nat.add_zero, Nat.zero_add, Nat.mul_one]
        rw [if_pos (by omega)]; rfl
  · have hl0 : 0 < l.length := List.length_pos_iff.2 c
    rcases hk with ⟨rfl, rfl⟩ | ⟨b0, L, rfl, hb0, hL⟩
    · refine ⟨[], [cellsB (old ++ u8s l) (.own 5)], some ⟨nx, 0, none⟩, ?_, .inr ⟨c, rfl, rfl, .inl rfl⟩⟩
      unfold aAppend
      simp only [hu, hk1, hi, hz, hn]
      cases k <;> first | exact absurd rfl (hk2 _) | skip
      all_goals
        try simp only
        rw [if_neg (by rw [hs, hby]; simp <;> omega), hs]
        simp only [hf, hold]
        rw [if_neg (by omega)]; rfl
    · refine ⟨[(b0, .dead)], [cellsB (old ++ u8s l) (.own 5)], some ⟨nx, 0, none⟩, ?_, .inr ⟨c, rfl, rfl, .inr ⟨b0, L, rfl, hb0, rfl⟩⟩⟩
      unfold aAppend
      simp only [hu, hk1, hi, hz, hn]
      cases k <;> first | exact absurd rfl (hk2 _) | skip
      all_goals
        try simp only
        rw [if_neg (by rw [hs, hby]; simp <;> omega), hs]
        simp only [hf, hold]
        rw [if_neg (by omega)]
        simp only [hb0]
        unfold cellsB maybeRoom
        simp only [hL, Nat.mul_one, Nat.zero_add, and_self, if_true]
theorem growU {xt : TypeId} (hxt : xt = 9 ∨ xt = 34) {lo : Nat} {v x : Value} {B l : List UInt8} (g : Bu h lo v B) (hlo : lo ≤ h.nx) (hn : lenV x = some l.length) (hf : firstL h.get 1 l.length x = some (u8s l)) (hm : B.length + l.length ≤ 1000) :
    ∃ E h3 a, aAppend Tryd.prog #[34, xt] v x h.get h.nx = some E ∧ E.val = .slice a (B ++ l).length (B ++ l).length ∧ h.apply E = h3 ∧ Bu h3 lo (.slice a (B ++ l).length (B ++ l).length) (B ++ l) ∧ h.nx ≤ h3.nx ∧ (∀ b', b' < lo → h3.get b' = h.get b') ∧ ∀ b', b' < h.nx → (∀ L, h.get b' ≠ some (cellsB L (.own 5))) → h3.get b' = h.get b' := by
  have hlen : (B ++ l).length = B.length + l.length := List.length_append
  rcases g.is with ⟨rfl, rfl⟩ | ⟨h0, b, h1, h2, rfl, h4⟩
  · obtain ⟨wr, nw, a, e1, e2⟩ := appU hxt (base := none) (m := 0) h.nx hn hf (by simpa using hm) (old := []) rfl (.inl ⟨rfl, rfl⟩)
    rw [Nat.zero_add] at e1
    rcases e2 with ⟨rfl, rfl, rfl, e3⟩ | ⟨c, rfl, rfl, e3⟩
    · rcases e3 with rfl | ⟨b0, e, _⟩
      · exact ⟨_, h, none, e1, rfl, by rfl, ⟨.inl ⟨rfl, rfl⟩⟩, Nat.le_refl _, fun _ _ => rfl, fun _ _ _ => rfl⟩
      · cases e
    · rcases e3 with rfl | ⟨b0, L, e, _⟩
      · refine ⟨_, _, _, e1, rfl, rfl, ⟨.inr ⟨c, h.nx, hlo, ?_, rfl, ?_⟩⟩, ?_, fun b' hb' => ?_, fun b' hb' _ => ?_⟩
        · rw [Heap.apply_nw, Heap.nx_new]; omega
        · rw [Heap.apply_nw, Heap.get_new_same]; rfl
        · rw [Heap.apply_nw, Heap.nx_new]; omega
        · rw [Heap.apply_nw, Heap.get_new_ne _ _ (by omega)]
        · rw [Heap.apply_nw, Heap.get_new_ne _ _ (by omega)]
      · cases e
  · have hBl : (u8s B).length = B.length := u8s_len B
    obtain ⟨wr, nw, a, e1, e2⟩ := appU hxt (base := some ⟨b, 0, none⟩) (m := B.length) h.nx hn hf hm (old := u8s B) (by rw [firstL_slc _ _ _ _ _ _ _ _ _ h4 (by omega), List.drop_zero, List.take_of_length_le (by omega)]) (.inr ⟨b, _, rfl, h4, hBl⟩)
    rw [← hlen] at e1
    rcases e2 with ⟨rfl, rfl, rfl, e3⟩ | ⟨c, rfl, rfl, e3⟩
    · rw [List.append_nil] at e1 ⊢
      rcases e3 with rfl | ⟨b0, e, x0, hx0, rfl⟩
      · exact ⟨_, h, _, e1, rfl, by rfl, ⟨.inr ⟨h0, b, h1, h2, rfl, h4⟩⟩, Nat.le_refl _, fun _ _ => rfl, fun _ _ _ => rfl⟩
      · cases e
        have hh : ∀ b', (h.upd b x0).get b' = h.get b' := fun b' => by
          by_cases e : b' = b
          · rw [e, Heap.get_upd_same, hx0]
          · rw [Heap.get_upd_ne _ _ e]
        exact ⟨_, _, _, e1, rfl, by rw [Heap.apply_wr], ⟨.inr ⟨h0, b, h1, by rw [Heap.nx_upd]; exact h2, rfl, (hh b).trans h4⟩⟩, by rw [Heap.nx_upd]; exact Nat.le_refl _, fun _ _ => hh _, fun _ _ _ => hh _⟩
    · have hne : B ++ l ≠ [] := fun e => c (List.append_eq_nil_iff.1 e).2
      have hw : u8s (B ++ l) = u8s B ++ u8s l := List.map_append
      rcases e3 with rfl | ⟨b0, L, e, _, rfl⟩
      · refine ⟨_, _, _, e1, rfl, rfl, ⟨.inr ⟨hne, h.nx, hlo, ?_, rfl, ?_⟩⟩, ?_, fun b' hb' => ?_, fun b' hb' _ => ?_⟩
        · rw [Heap.apply_nw, Heap.nx_new]; omega
        · rw [Heap.apply_nw, Heap.get_new_same, hw]
        · rw [Heap.apply_nw, Heap.nx_new]; omega
        · rw [Heap.apply_nw, Heap.get_new_ne _ _ (by omega)]
        · rw [Heap.apply_nw, Heap.get_new_ne _ _ (by omega)]
      · cases e
        refine ⟨_, _, _, e1, rfl, rfl, ⟨.inr ⟨hne, h.nx, hlo, ?_, rfl, ?_⟩⟩, ?_, fun b' hb' => ?_, fun b' hb' hk => ?_⟩
        · rw [Heap.apply_wr_nw, Heap.nx_new, Heap.nx_upd]; omega
        · rw [Heap.apply_wr_nw, Heap.get_new_at _ (by rw [Heap.nx_upd]; omega), hw]
        · rw [Heap.apply_wr_nw, Heap.nx_new, Heap.nx_upd]; omega
        · rw [Heap.apply_wr_nw, Heap.get_new_ne _ _ (by rw [Heap.nx_upd]; omega), Heap.get_upd_ne _ _ (by omega)]
        · rw [Heap.apply_wr_nw, Heap.get_new_ne _ _ (by rw [Heap.nx_upd]; omega), Heap.get_upd_ne _ _ (fun e => hk _ (by rw [e]; exact h4))]
structure Bld (h : Heap) (b lo : Nat) (B : List UInt8) : Prop where
  is : ∃ a v, h.get b = some (cellsB [.pointer a, v] (.bld 124)) ∧ (a = none ∨ a = some ⟨b, 0, none⟩) ∧ Bu h lo v B
  lt : b < lo
  le : lo ≤ h.nx
theorem Bld.keep {h' : Heap} {b lo : Nat} {B : List UInt8} (x : Bld h b lo B) (hn : h.nx ≤ h'.nx) (hb : h'.get b = h.get b) (hk : ∀ b', lo ≤ b' → b' < h.nx → h.get b' = some (cellsB (u8s B) (.own 5)) → h'.get b' = h.get b') : Bld h' b lo B := by
  obtain ⟨a, v, h1, h2, h3⟩ := x.is
  exact ⟨⟨a, v, hb.trans h1, h2, h3.keep hn hk⟩, x.lt, by have := x.le; omega⟩
set_option maxRecDepth 100000 in
theorem cc_wf {b lo : Nat} {B : List UInt8} (x : Bld h b lo B)
    (hR : ∀ h' v, h'.nx = h.nx → h'.get b = some (cellsB [.pointer (some ⟨b, 0, none⟩), v] (.bld 124)) → Bu h' lo v B → (∀ b', b' ≠ b → h'.get b' = h.get b') → R (.ret (.tuple #[])) h') : WF Tryd.prog 1 sp16 73 [.pointer (some ⟨b, 0, none⟩)] h R := by
  obtain ⟨a, v, g, ha, hv⟩ := x.is
  rcases ha with rfl | rfl
  · refine ⟨.ret (.tuple #[]), h.upd b (cellsB [.pointer (some ⟨b, 0, none⟩), v] (.bld 124)), ⟨1, fun fu d h1 h2 => ?_⟩, ?_⟩
    · obtain ⟨d, rfl⟩ : ∃ k, d = k + 1 := ⟨d - 1, by omega⟩
      show ccF (Tryd.laysRepeat_ren.t 72) (acall Tryd.prog 1 sp16 fu d) [.pointer (some ⟨b, 0, none⟩)] h = _
      unfold ccF
      simp only [g, cellsB]
      rfl
    · exact hR _ v (Heap.nx_upd _ _ _) (Heap.get_upd_same _ _ _) (hv.keep (by rw [Heap.nx_upd]; exact Nat.le_refl _) fun b' h1 _ _ => Heap.get_upd_ne _ _ (by have := x.lt; omega)) fun b' hb' => Heap.get_upd_ne _ _ hb'
  · refine ⟨.ret (.tuple #[]), h, ⟨1, fun fu d h1 h2 => ?_⟩, hR h v rfl g hv fun _ _ => rfl⟩
    obtain ⟨d, rfl⟩ : ∃ k, d = k + 1 := ⟨d - 1, by omega⟩
    show ccF (Tryd.laysRepeat_ren.t 72) (acall Tryd.prog 1 sp16 fu d) [.pointer (some ⟨b, 0, none⟩)] h = _
    unfold ccF
    simp only [g, cellsB]
    show cond (Nat.beq b b && Nat.beq 0 0) (some (Out.ret (.tuple #[]), h)) none = _
    rw [Nat.beq_refl]; rfl
set_option maxRecDepth 100000 in
theorem ws_wf {b lo : Nat} {B l : List UInt8} (x : Bld h b lo B) (hm : B.length + l.length ≤ 1000)
    (hR : ∀ h', Bld h' b lo (B ++ l) → h.nx ≤ h'.nx → (∀ b', b' < lo → b' ≠ b → h'.get b' = h.get b') → (∀ b', b' < h.nx → b' ≠ b → (∀ L, h.get b' ≠ some (cellsB L (.own 5))) → h'.get b' = h.get b') → R (.ret (.tuple #[.int .i64 l.length, .nilIface])) h') :
    WF Tryd.prog 1 sp16 63 [.pointer (some ⟨b, 0, none⟩), .string (mkS l)] h R := by
  refine wf_fn (fn := Tryd.f63) rfl rfl (by kernel_rfl) rfl ?_
  have xl := x.lt
  have xe := x.le
  simp only [↓reduceIte, reduceCtorEq, Za, Zb, Zc, Zd, Ze, Zf, Zg, Zh, Zi, Zj, Zk, Zl, Zm, Zn, Zo, Zp, Zq, Zr, Zs, Zt, Zu, Zv, gval, Zw, Zx, Zy, Zz, ZA, ZB, ZC, ZD, ZE, ZF, decide_eq_true_eq, ZG, ZH, ZI, ZJ, ZK, ZL, ZM, ZN, ZO, ZP, ZQ, ZR, ZS, Option.some.injEq, exists_eq_left', ZT, ZU, ZV, ZW, ZX, ZY, true_and, and_true, true_or, or_true, false_or, or_false, ite_true, ite_false, cond_true, cond_false, ZZ, Qa, if_true, if_false, decide_true, decide_false, Qb, Qc, Qd, Qe, Qf, Qg, Qh, Qi, Qj, Qk, Ql, Qm, Qn, Qo, Qp, rb0, rb1, rb2, rb3, rb4, tf0, tf1, tf2, tf3, tf4, Tryd.f63]
  refine runC_of (cc_wf x fun h1 v n1 g1 v1 k1 => ?_)
  obtain ⟨E, h3, a, a1, a2, a3, a4, a5, a6, a7⟩ := growU (.inl rfl) v1 (by omega) (x := .string (mkS l)) (l := l) rfl (by exact firstL_str h1.get (mkS l)) hm
  have g3 : h3.get b = some (cellsB [.pointer (some ⟨b, 0, none⟩), v] (.bld 124)) := (a6 b xl).trans g1
  simp (disch := (first | omega | rfl | (simp only [Heap.nx_upd, Heap.nx_new]; omega))) only [↓reduceIte, reduceCtorEq, Za, Zb, Zc, Zd, Ze, Zf, Zg, Zh, Zi, Zj, Zk, Zl, Zm, Zn, Zo, Zp, Zq, Zr, Zs, Zt, Zu, Zv, gval, Zw, Zx, Zy, Zz, ZA, ZB, ZC, ZD, ZE, ZF, decide_eq_true_eq, ZG, ZH, ZI, ZJ, ZK, ZL, ZM, ZN, ZO, ZP, ZQ, ZR, ZS, Option.some.injEq, exists_eq_left', ZT, ZU, ZV, ZW, ZX, ZY, true_and, and_true, true_or, or_true, false_or, or_false, ite_true, ite_false, cond_true, cond_false, ZZ, Qa, if_true, if_false, decide_true, decide_false, Qb, Qc, Qd, Qe, Qf, Qg, Qh, Qi, Qj, Qk, Ql, Qm, Qn, Qo, Qp, rb0, rb1, rb2, rb3, rb4, tf0, tf1, tf2, tf3, tf4, Heap.get_upd_ne, Heap.get_new_ne, Heap.get_new_at, overL_one, if_pos, stX_exactN, g1, a1, a2, a3, g3, stX_bld, mkS_size]
  refine hR _ ⟨⟨_, _, Heap.get_upd_same _ _ _, .inr rfl, a4.keep (by rw [Heap.nx_upd]; exact Nat.le_refl _) fun b' h1 _ _ => Heap.get_upd_ne _ _ (by omega)⟩, xl, by rw [Heap.nx_upd]; omega⟩ (by rw [Heap.nx_upd]; omega) (fun b' h1 h2 => ?_) fun b' h1 h2 h4 => ?_
  · rw [Heap.get_upd_ne _ _ h2, a6 b' h1, k1 _ h2]
  · rw [Heap.get_upd_ne _ _ h2, a7 b' (by omega) (fun L => by rw [k1 _ h2]; exact h4 L), k1 _ h2]
set_option maxRecDepth 100000 in
theorem wb_wf {b lo : Nat} {B : List UInt8} {c : UInt8} (x : Bld h b lo B) (hm : B.length + 1 ≤ 1000)
    (hR : ∀ h', Bld h' b lo (B ++ [c]) → h.nx ≤ h'.nx → (∀ b', b' < lo → b' ≠ b → h'.get b' = h.get b') → (∀ b', b' < h.nx → b' ≠ b → (∀ L, h.get b' ≠ some (cellsB L (.own 5))) → h'.get b' = h.get b') → R (.ret .nilIface) h') :
    WF Tryd.prog 1 sp16 65 [.pointer (some ⟨b, 0, none⟩), .int .u8 c.toNat] h R := by
  refine wf_fn (fn := Tryd.f65) rfl rfl (by kernel_rfl) rfl ?_
  have xl := x.lt
  have xe := x.le
  simp only [↓reduceIte, reduceCtorEq, Za, Zb, Zc, Zd, Ze, Zf, Zg, Zh, Zi, Zj, Zk, Zl, Zm, Zn, Zo, Zp, Zq, Zr, Zs, Zt, Zu, Zv, gval, Zw, Zx, Zy, Zz, ZA, ZB, ZC, ZD, ZE, ZF, decide_eq_true_eq, ZG, ZH, ZI, ZJ, ZK, ZL, ZM, ZN, ZO, ZP, ZQ, ZR, ZS, Option.some.injEq, exists_eq_left', ZT, ZU, ZV, ZW, ZX, ZY, true_and, and_true, true_or, or_true, false_or, or_false, ite_true, ite_false, cond_true, cond_false, ZZ, Qa, if_true, if_false, decide_true, decide_false, Qb, Qc, Qd, Qe, Qf, Qg, Qh, Qi, Qj, Qk, Ql, Qm, Qn, Qo, Qp, rb0, rb1, rb2, rb3, rb4, tf0, tf1, tf2, tf3, tf4, Tryd.f65]
  refine runC_of (cc_wf x fun h1 v n1 g1 v1 k1 => ?_)
  obtain ⟨h2, hh2⟩ : ∃ h2, h1.new (cellsB [.int .u8 c.toNat] .exact) = h2 := ⟨_, rfl⟩
  have n2 : h2.nx = h1.nx + 1 := by rw [← hh2, Heap.nx_new]
  have k2 : ∀ b', b' < h1.nx → h2.get b' = h1.get b' := fun b' hb' => by rw [← hh2, Heap.get_new_ne _ _ (by omega)]
  have g2 : h2.get h1.nx = some (cellsB [.int .u8 c.toNat] .exact) := by rw [← hh2, Heap.get_new_same]
  obtain ⟨E, h3, a, a1, a2, a3, a4, a5, a6, a7⟩ := growU (.inr rfl) (v1.keep (h' := h2) (by omega) fun b' _ h2 _ => k2 b' h2) (by omega) (x := .slice (some ⟨h1.nx, 0, none⟩) 1 1) (l := [c]) rfl (by rw [show [c].length = 1 from rfl, firstL_slc _ _ _ _ _ _ _ _ _ g2 (by simp)]; rfl) hm
  have g3 : h3.get b = some (cellsB [.pointer (some ⟨b, 0, none⟩), v] (.bld 124)) := (a6 b xl).trans ((k2 b (by omega)).trans g1)
  simp (disch := (first | omega | rfl | (simp only [Heap.nx_upd, Heap.nx_new]; omega))) only [↓reduceIte, reduceCtorEq, Za, Zb, Zc, Zd, Ze, Zf, Zg, Zh, Zi, Zj, Zk, Zl, Zm, Zn, Zo, Zp, Zq, Zr, Zs, Zt, Zu, Zv, gval, Zw, Zx, Zy, Zz, ZA, ZB, ZC, ZD, ZE, ZF, decide_eq_true_eq, ZG, ZH, ZI, ZJ, ZK, ZL, ZM, ZN, ZO, ZP, ZQ, ZR, ZS, Option.some.injEq, exists_eq_left', ZT, ZU, ZV, ZW, ZX, ZY, true_and, and_true, true_or, or_true, false_or, or_false, ite_true, ite_false, cond_true, cond_false, ZZ, Qa, if_true, if_false, decide_true, decide_false, Qb, Qc, Qd, Qe, Qf, Qg, Qh, Qi, Qj, Qk, Ql, Qm, Qn, Qo, Qp, rb0, rb1, rb2, rb3, rb4, tf0, tf1, tf2, tf3, tf4, Heap.get_upd_ne, Heap.get_new_ne, Heap.get_new_at, overL_one, if_pos, stX_exactN, g1, bs1_34, hh2, a1, a2, a3, g3, stX_bld]
  refine hR _ ⟨⟨_, _, Heap.get_upd_same _ _ _, .inr rfl, a4.keep (by rw [Heap.nx_upd]; exact Nat.le_refl _) fun b' h1 _ _ => Heap.get_upd_ne _ _ (by omega)⟩, xl, by rw [Heap.nx_upd]; omega⟩ (by rw [Heap.nx_upd]; omega) (fun b' h1 h2 => ?_) fun b' h1 h2 h4 => ?_
  · rw [Heap.get_upd_ne _ _ h2, a6 b' h1, k2 _ (by omega), k1 _ h2]
  · rw [Heap.get_upd_ne _ _ h2, a7 b' (by omega) (fun L => by rw [k2 _ (by omega), k1 _ h2]; exact h4 L), k2 _ (by omega), k1 _ h2]
theorem byL_u8s : ∀ l : List UInt8, byL (u8s l) = some l
  | [] => rfl
  | b :: l => by
    show cond (Nat.blt b.toNat 256) ((byL (u8s l)).map _) none = _
    have hb := b.toNat_lt
    rw [byL_u8s l, show Nat.blt b.toNat 256 = true by rw [Nat.blt_eq]; exact hb]
    show some (_ :: l) = _
    congr 1
    congr 1
    apply UInt8.toNat_inj.1
    simp
set_option maxRecDepth 100000 in
theorem bstr_wf {b lo : Nat} {B : List UInt8} (x : Bld h b lo B) (hB : B.length ≤ 1000)
    (hR : ∀ h' a v, h'.nx = h.nx → h'.get b = some (cellsB [a, .slice v B.length B.length] (.bld 124)) → (∀ b', b' < lo → h'.get b' = h.get b') → R (.ret (.string (mkS B))) h') : WF Tryd.prog 1 sp16 66 [.pointer (some ⟨b, 0, none⟩)] h R := by
  obtain ⟨a, v, g, ha, hv⟩ := x.is
  have xl := x.lt
  rcases hv.is with ⟨rfl, rfl⟩ | ⟨h0, g0, h1, h2, rfl, h4⟩
  · refine ⟨.ret (.string (mkS [])), h, ⟨1, fun fu d h1 h2 => ?_⟩, hR h _ _ rfl g fun _ _ => rfl⟩
    obtain ⟨d, rfl⟩ : ∃ k, d = k + 1 := ⟨d - 1, by omega⟩
    show stF (Tryd.laysRepeat_ren.t 72) (Tryd.laysRepeat_ren.t 5) (acall Tryd.prog 1 sp16 fu d) [.pointer (some ⟨b, 0, none⟩)] h = _
    unfold stF
    simp only [g, cellsB]
    rfl
  · refine ⟨.ret (.string (mkS B)), h.upd g0 .dead, ⟨1, fun fu d h1 h2 => ?_⟩, hR _ _ _ (Heap.nx_upd _ _ _) ((Heap.get_upd_ne _ _ (by omega)).trans g) fun b' hb' => Heap.get_upd_ne _ _ (by omega)⟩
    obtain ⟨d, rfl⟩ : ∃ k, d = k + 1 := ⟨d - 1, by omega⟩
    show stF (Tryd.laysRepeat_ren.t 72) (Tryd.laysRepeat_ren.t 5) (acall Tryd.prog 1 sp16 fu d) [.pointer (some ⟨b, 0, none⟩)] h = _
    unfold stF
    simp only [g, cellsB]
    have hl0 : 1 ≤ B.length := List.length_pos_iff.2 h0
    have e1 : (Nat.beq 0 0 && Nat.ble 1 B.length && Nat.ble B.length B.length && Nat.ble B.length 1000000) = true := by
      simp only [Bool.and_eq_true, Nat.ble_eq]
      exact ⟨⟨⟨rfl, hl0⟩, Nat.le_refl _⟩, by omega⟩
    show cond (Nat.beq 0 0 && Nat.ble 1 B.length && Nat.ble B.length B.length && Nat.ble B.length 1000000) (match h.get g0 with
        | some (.cells ys mm (.own t')) => cond (Nat.beq t' 5 && Nat.ble B.length mm) (match byL (loadL ys 0 B.length) with
          | some bs => some ((Out.ret (.string ⟨bs.toArray⟩), Heap.mk (h.t.set g0 .dead) h.nx) : Out × Heap)
          | none => none) none
        | _ => none) none = _
    rw [e1, cond_true, h4]
    unfold cellsB
    simp only
    rw [loadL_ofList _ _ _ (by rw [u8s_len]; omega), List.drop_zero, List.take_of_length_le (by rw [u8s_len]; exact Nat.le_refl _), byL_u8s, u8s_len]
    have e2 : (Nat.beq 5 5 && Nat.ble B.length B.length) = true := by
      simp only [Bool.and_eq_true, Nat.ble_eq]
      exact ⟨rfl, Nat.le_refl _⟩
    rw [e2]; rfl
set_option maxRecDepth 100000 in
theorem blen_wf {b n c : Nat} {a : Value} {v : Option Addr} (g : h.get b = some (cellsB [a, .slice v n c] (.bld 124))) (hR : R (.ret (.int .i64 n)) h) : WF Tryd.prog 1 sp16 67 [.pointer (some ⟨b, 0, none⟩)] h R := by
  refine wf_fn (fn := Tryd.f67) rfl rfl (by kernel_rfl) rfl ?_
  simp only [↓reduceIte, reduceCtorEq, Za, Zb, Zc, Zd, Ze, Zf, Zg, Zh, Zi, Zj, Zk, Zl, Zm, Zn, Zo, Zp, Zq, Zr, Zs, Zt, Zu, Zv, gval, Zw, Zx, Zy, Zz, ZA, ZB, ZC, ZD, ZE, ZF, decide_eq_true_eq, ZG, ZH, ZI, ZJ, ZK, ZL, ZM, ZN, ZO, ZP, ZQ, ZR, ZS, Option.some.injEq, exists_eq_left', ZT, ZU, ZV, ZW, ZX, ZY, true_and, and_true, true_or, or_true, false_or, or_false, ite_true, ite_false, cond_true, cond_false, ZZ, Qa, if_true, if_false, decide_true, decide_false, Qb, Qc, Qd, Qe, Qf, Qg, Qh, Qi, Qj, Qk, Ql, Qm, Qn, Qo, Qp, rb0, rb1, rb2, rb3, rb4, tf0, tf1, tf2, tf3, tf4, Tryd.f67, g]
  exact hR
theorem repB_one (c : UInt8) : ∀ n, repB [c] n = List.replicate n c
  | 0 => rfl
  | n + 1 => by
    show [c] ++ repB [c] n = _
    rw [repB_one c n]; rfl
theorem rep_wf {c : UInt8} {n : Nat} (hn : n ≤ 1000000) (hR : R (.ret (.string (mkS (List.replicate n c)))) h) : WF Tryd.prog 1 sp16 64 [.string (mkS [c]), .int .i64 n] h R := by
  refine ⟨_, h, ⟨1, fun fu d h1 h2 => ?_⟩, hR⟩
  obtain ⟨d, rfl⟩ : ∃ k, d = k + 1 := ⟨d - 1, by omega⟩
  show pureF repV (acall Tryd.prog 1 sp16 fu d) [.string (mkS [c]), .int .i64 n] h = _
  have e : (Nat.ble n 1000000 && Nat.ble (mkS [c]).size 1000000) = true := by
    simp only [Bool.and_eq_true, Nat.ble_eq]
    exact ⟨hn, by rw [mkS_size]; exact (by decide : 1 ≤ 1000000)⟩
  show Option.map _ (cond (Nat.ble n 1000000 && Nat.ble (mkS [c]).size 1000000) _ _) = _
  rw [e]
  show some (Out.ret (.string ⟨(repB [c] n).toArray⟩), h) = _
  rw [repB_one]
end Go.Proofs.YtmadjdgipfdnkaaDoor
end
section
/- Inodes: Read. Conditions: the disk lies as the rule names. -/
namespace Go.Proofs.YtmadjdgipfdnkaaDoor
open Go.AM
open Nat renaming reduceBEq → Za, reduceEqDiff → Zb, reduceAdd → Zc, reduceSub → Zd, reduceMul → Ze, reduceLT → Zf, reduceLeDiff → Zg, reduceDiv → Zh, reduceMod → Zi, reducePow → Zj, blt_eq → ZF, zero_add → Qc, add_zero → Qd
open Int renaming reduceAdd → Zk, reduceSub → Zl, reduceMul → Zm, reduceLT → Zn, reduceLE → Zo, reduceEq → Zp, reduceNe → Zq, reduceNeg → Zr, reduceToNat → Zs, reduceDiv → Zt, reduceMod → Zu, reducePow → Zv, cast_ofNat_Int → Zw, toNat_natCast → Qb
open List renaming set_cons_zero → Zx, set_cons_succ → Zy, map_toArray → Zz, cons_append → ZA, nil_append → ZB, append_nil → ZC, all_cons → ZD, all_nil → ZE, getElem?_cons_zero → ZJ, getElem?_cons_succ → ZK, length_cons → ZL, length_nil → ZM, map_cons → ZN, map_nil → ZO, isEmpty_nil → Qe, any_cons → Qf, any_nil → Qg, drop_zero → Qk, drop_succ_cons → Ql, take_succ_cons → Qm, take_zero → Qn, take_nil → Qo, drop_nil → Qp
open Bool renaming and_true → ZG, true_and → ZH, and_self → ZI, not_true → ZT, not_false → ZU, true_eq_false → ZZ, false_eq_true → Qa, or_false → Qh, false_or → Qi, and_eq_true → Qj
open Option renaming map_some → ZP, map_none → ZQ, bind_some → ZR, getD_some → ZS, isNone_some → ZV, isNone_none → ZW, isSome_some → ZX, isSome_none → ZY
set_option linter.unusedSimpArgs false
variable {sp : Special} {h : Heap} {R : Out → Heap → Prop} {bd bl : Nat} {s : FS}
def FS.byteAt (s : FS) (i p : Nat) : UInt8 := UInt8.ofNat (s.dat (s.ino i (3 + p / 32)).toNat (p % 32)).toNat
def FS.text (s : FS) (i o e : Nat) : List UInt8 := (List.range (e - o)).map fun j => s.byteAt i (o + j)
theorem text_len {i o e : Nat} : (s.text i o e).length = e - o := by unfold FS.text; simp
theorem text_nil {i o e : Nat} (h : e ≤ o) : s.text i o e = [] := by unfold FS.text; rw [show e - o = 0 by omega]; rfl
theorem text_succ {i o p : Nat} (h : o ≤ p) : s.text i o (p + 1) = s.text i o p ++ [s.byteAt i p] := by
  unfold FS.text
  rw [show p + 1 - o = p - o + 1 by omega, List.range_succ, List.map_append]
  congr 1
  show [s.byteAt i (o + (p - o))] = _
  rw [show o + (p - o) = p by omega]
def endR (z o m : Nat) : Nat := if (m : Int) < (z : Int) - (o : Int) then o + m else z
theorem wrap8 {v : Int} (h0 : 0 ≤ v) : wrapF .u8 v = ((UInt8.ofNat v.toNat).toNat : Int) := by
  rw [wrapF_eq]
  unfold IntKind.wrap IntKind.signed IntKind.bits
  simp only [Bool.false_and, Bool.false_eq_true, if_false]
  rw [UInt8.toNat_ofNat']
  show v % 256 = ((v.toNat % 256 : Nat) : Int)
  omega
theorem figet_any (pl : Plain sp) (f : Fs h bd bl s) {i : Int}
    (hno : ¬ (0 ≤ i ∧ i < 32) → ∀ h', Fs h' bd bl s → h.nx ≤ h'.nx → (∀ b', b' < h.nx → b' ≠ bd → h'.get b' = h.get b') → R (.ret (.tuple #[.agg (i64s (row9 fun _ => 0)).toArray, .int .i64 101])) h')
    (hok : ∀ k : Nat, i = k → k < 32 → ∀ h', Fs h' bd bl s → h.nx ≤ h'.nx → (∀ b', b' < h.nx → b' ≠ bd → h'.get b' = h.get b') → R (.ret (.tuple #[.agg (i64s (row9 (s.ino k))).toArray, .int .i64 0])) h') :
    WF Tryd.prog 1 sp 18 [.iface 23 (.pointer (some ⟨bd, 0, none⟩)), .int .i64 i] h R := by
  by_cases hi : 0 ≤ i ∧ i < 32
  · obtain ⟨k, rfl⟩ : ∃ k : Nat, i = k := ⟨i.toNat, by omega⟩
    exact figet_spec pl f (by omega) fun h' n' f' k' => hok k rfl (by omega) h' f' n' k'
  · exact iget_none pl.p18 pl.p43 hi fun h' n' k' => hno hi h' (f.keep n' (k' _ f.d.bd_lt) (k' _ f.d.bl_lt)) n' fun b' h1 _ => k' b' h1
set_option maxRecDepth 100000 in
set_option maxHeartbeats 1000000 in
theorem fread_spec (pl : Plain sp) (f : Fs h bd bl s) {i off n : Int} (ho : ∀ k : Nat, i = k → k < 32 → s.Ino k) (hob : -9223372036854775808 ≤ off ∧ off < 9223372036854775808) (hnb : -9223372036854775808 ≤ n ∧ n < 9223372036854775808)
    (hbad : ¬ (0 ≤ i ∧ i < 32) ∨ off < 0 ∨ n < 0 → ∀ h', Fs h' bd bl s → h.nx ≤ h'.nx → (∀ b', b' < h.nx → b' ≠ bd → h'.get b' = h.get b') → R (.ret (.tuple #[.string (mkS []), .int .i64 101])) h')
    (hok : ∀ k o m : Nat, i = k → k < 32 → off = o → n = m → ∀ h', Fs h' bd bl s → h.nx ≤ h'.nx → (∀ b', b' < h.nx → b' ≠ bd → h'.get b' = h.get b') → R (.ret (.tuple #[.string (mkS (s.text k o (endR (s.size k) o m))), .int .i64 0])) h') :
    WF Tryd.prog 1 sp 16 [.iface 23 (.pointer (some ⟨bd, 0, none⟩)), .int .i64 i, .int .i64 off, .int .i64 n] h R := by
  refine wf_fn (fn := Tryd.f16) pl.p16 rfl (by kernel_rfl) rfl ?_
  have n1 := f.wf.n1
  have n2 := f.wf.n2
  have q1 := f.d.bd_lt
  have q2 := f.d.bl_lt
  simp only [Tryd.f16]
  generalize hlab : Code.label 0 = c0
  simp only [↓reduceIte, reduceCtorEq, Za, Zb, Zc, Zd, Ze, Zf, Zg, Zh, Zi, Zj, Zk, Zl, Zm, Zn, Zo, Zp, Zq, Zr, Zs, Zt, Zu, Zv, gval, Zw, Zx, Zy, Zz, ZA, ZB, ZC, ZD, ZE, ZF, decide_eq_true_eq, ZG, ZH, ZI, ZJ, ZK, ZL, ZM, ZN, ZO, ZP, ZQ, ZR, ZS, Option.some.injEq, exists_eq_left', ZT, ZU, ZV, ZW, ZX, ZY, true_and, and_true, true_or, or_true, false_or, or_false, ite_true, ite_false, cond_true, cond_false, ZZ, Qa, if_true, if_false, decide_true, decide_false, Qb, Qc, Qd, Qe, Qf, Qg, Qh, Qi, Qj, Qk, Ql, Qm, Qn, Qo, Qp, rb0, rb1, rb2, rb3, rb4, tf0, tf1, tf2, tf3, tf4]
  refine runC_of (figet_any pl f (fun hi h1 f1 m1 k1 => ?_) fun k e hk h1 f1 m1 k1 => ?_)
  · have hwl : (i64s (row9 fun _ => 0)).length = 9 := by rw [List.length_map, row9_len]
    simp (disch := (first | omega | rfl | (simp only [Heap.nx_upd, Heap.nx_new]; omega))) only [↓reduceIte, reduceCtorEq, Za, Zb, Zc, Zd, Ze, Zf, Zg, Zh, Zi, Zj, Zk, Zl, Zm, Zn, Zo, Zp, Zq, Zr, Zs, Zt, Zu, Zv, gval, Zw, Zx, Zy, Zz, ZA, ZB, ZC, ZD, ZE, ZF, decide_eq_true_eq, ZG, ZH, ZI, ZJ, ZK, ZL, ZM, ZN, ZO, ZP, ZQ, ZR, ZS, Option.some.injEq, exists_eq_left', ZT, ZU, ZV, ZW, ZX, ZY, true_and, and_true, true_or, or_true, false_or, or_false, ite_true, ite_false, cond_true, cond_false, ZZ, Qa, if_true, if_false, decide_true, decide_false, Qb, Qc, Qd, Qe, Qf, Qg, Qh, Qi, Qj, Qk, Ql, Qm, Qn, Qo, Qp, rb0, rb1, rb2, rb3, rb4, tf0, tf1, tf2, tf3, tf4, Heap.get_upd_ne, Heap.get_new_ne, Heap.get_new_at, overL_one, if_pos, stX_exactN, hwl]
    rw [overL_nine rfl hwl, Heap.upd_new]
    simp (disch := (first | omega | rfl | (simp only [Heap.nx_upd, Heap.nx_new]; omega))) only [↓reduceIte, reduceCtorEq, Za, Zb, Zc, Zd, Ze, Zf, Zg, Zh, Zi, Zj, Zk, Zl, Zm, Zn, Zo, Zp, Zq, Zr, Zs, Zt, Zu, Zv, gval, Zw, Zx, Zy, Zz, ZA, ZB, ZC, ZD, ZE, ZF, decide_eq_true_eq, ZG, ZH, ZI, ZJ, ZK, ZL, ZM, ZN, ZO, ZP, ZQ, ZR, ZS, Option.some.injEq, exists_eq_left', ZT, ZU, ZV, ZW, ZX, ZY, true_and, and_true, true_or, or_true, false_or, or_false, ite_true, ite_false, cond_true, cond_false, ZZ, Qa, if_true, if_false, decide_true, decide_false, Qb, Qc, Qd, Qe, Qf, Qg, Qh, Qi, Qj, Qk, Ql, Qm, Qn, Qo, Qp, rb0, rb1, rb2, rb3, rb4, tf0, tf1, tf2, tf3, tf4, Heap.get_upd_ne, Heap.get_new_ne, Heap.get_new_at, overL_one, if_pos, stX_exactN, show ((101 : Int) == 0) = false from rfl, runG_undef]
    exact hbad (.inl hi) _ (f1.keep (by rw [Heap.nx_new]; omega) (by rw [Heap.get_new_ne _ _ (by omega)]) (by rw [Heap.get_new_ne _ _ (by omega)])) (by rw [Heap.nx_new]; omega) fun b' w1 w2 => by rw [Heap.get_new_ne _ _ (by omega)]; exact k1 b' w1 w2
  · subst e
    have hwl : (i64s (row9 (s.ino k))).length = 9 := by rw [List.length_map, row9_len]
    simp (disch := (first | omega | rfl | (simp only [Heap.nx_upd, Heap.nx_new]; omega))) only [↓reduceIte, reduceCtorEq, Za, Zb, Zc, Zd, Ze, Zf, Zg, Zh, Zi, Zj, Zk, Zl, Zm, Zn, Zo, Zp, Zq, Zr, Zs, Zt, Zu, Zv, gval, Zw, Zx, Zy, Zz, ZA, ZB, ZC, ZD, ZE, ZF, decide_eq_true_eq, ZG, ZH, ZI, ZJ, ZK, ZL, ZM, ZN, ZO, ZP, ZQ, ZR, ZS, Option.some.injEq, exists_eq_left', ZT, ZU, ZV, ZW, ZX, ZY, true_and, and_true, true_or, or_true, false_or, or_false, ite_true, ite_false, cond_true, cond_false, ZZ, Qa, if_true, if_false, decide_true, decide_false, Qb, Qc, Qd, Qe, Qf, Qg, Qh, Qi, Qj, Qk, Ql, Qm, Qn, Qo, Qp, rb0, rb1, rb2, rb3, rb4, tf0, tf1, tf2, tf3, tf4, Heap.get_upd_ne, Heap.get_new_ne, Heap.get_new_at, overL_one, if_pos, stX_exactN, hwl]
    rw [overL_nine rfl hwl, Heap.upd_new]
    obtain ⟨h2, hh2⟩ : ∃ h2, h1.new (cellsB (i64s (row9 (s.ino k))) .exact) = h2 := ⟨_, rfl⟩
    have n2' : h2.nx = h1.nx + 1 := by rw [← hh2, Heap.nx_new]
    have g2 : h2.get h1.nx = some (cellsB (i64s (row9 (s.ino k))) .exact) := by rw [← hh2, Heap.get_new_same]
    have k2 : ∀ b', b' < h1.nx → h2.get b' = h1.get b' := fun b' hb' => by rw [← hh2, Heap.get_new_ne _ _ (by omega)]
    have f2 : Fs h2 bd bl s := f1.keep (by omega) (k2 _ (by omega)) (k2 _ (by omega))
    rw [hh2]
    have k12 : ∀ b', b' < h.nx → b' ≠ bd → h2.get b' = h.get b' := fun b' w1 w2 => by rw [k2 _ (by omega)]; exact k1 b' w1 w2
    have hok2 := ho k rfl hk
    by_cases c1 : off < 0
    · simp (disch := (first | omega | rfl | (simp only [Heap.nx_upd, Heap.nx_new]; omega))) only [↓reduceIte, reduceCtorEq, Za, Zb, Zc, Zd, Ze, Zf, Zg, Zh, Zi, Zj, Zk, Zl, Zm, Zn, Zo, Zp, Zq, Zr, Zs, Zt, Zu, Zv, gval, Zw, Zx, Zy, Zz, ZA, ZB, ZC, ZD, ZE, ZF, decide_eq_true_eq, ZG, ZH, ZI, ZJ, ZK, ZL, ZM, ZN, ZO, ZP, ZQ, ZR, ZS, Option.some.injEq, exists_eq_left', ZT, ZU, ZV, ZW, ZX, ZY, true_and, and_true, true_or, or_true, false_or, or_false, ite_true, ite_false, cond_true, cond_false, ZZ, Qa, if_true, if_false, decide_true, decide_false, Qb, Qc, Qd, Qe, Qf, Qg, Qh, Qi, Qj, Qk, Ql, Qm, Qn, Qo, Qp, rb0, rb1, rb2, rb3, rb4, tf0, tf1, tf2, tf3, tf4, Heap.get_upd_ne, Heap.get_new_ne, Heap.get_new_at, overL_one, if_pos, stX_exactN, c1, show ((0 : Int) == 0) = true from rfl, runG_undef]
      exact hbad (.inr (.inl c1)) h2 f2 (by omega) k12
    by_cases c2 : n < 0
    · simp (disch := (first | omega | rfl | (simp only [Heap.nx_upd, Heap.nx_new]; omega))) only [↓reduceIte, reduceCtorEq, Za, Zb, Zc, Zd, Ze, Zf, Zg, Zh, Zi, Zj, Zk, Zl, Zm, Zn, Zo, Zp, Zq, Zr, Zs, Zt, Zu, Zv, gval, Zw, Zx, Zy, Zz, ZA, ZB, ZC, ZD, ZE, ZF, decide_eq_true_eq, ZG, ZH, ZI, ZJ, ZK, ZL, ZM, ZN, ZO, ZP, ZQ, ZR, ZS, Option.some.injEq, exists_eq_left', ZT, ZU, ZV, ZW, ZX, ZY, true_and, and_true, true_or, or_true, false_or, or_false, ite_true, ite_false, cond_true, cond_false, ZZ, Qa, if_true, if_false, decide_true, decide_false, Qb, Qc, Qd, Qe, Qf, Qg, Qh, Qi, Qj, Qk, Ql, Qm, Qn, Qo, Qp, rb0, rb1, rb2, rb3, rb4, tf0, tf1, tf2, tf3, tf4, Heap.get_upd_ne, Heap.get_new_ne, Heap.get_new_at, overL_one, if_pos, stX_exactN, c1, c2, show ((0 : Int) == 0) = true from rfl]
      exact hbad (.inr (.inr c2)) h2 f2 (by omega) k12
    obtain ⟨o, rfl⟩ : ∃ o : Nat, off = o := ⟨off.toNat, by omega⟩
    obtain ⟨m, rfl⟩ : ∃ m : Nat, n = m := ⟨n.toNat, by omega⟩
    have hs0 : s.ino k 2 = (s.size k : Int) := by unfold FS.size; have := (f.wf.ino k 2).1; omega
    have hcur : s.size k ≤ 192 := by have := hok2.sz; omega
    have lx : ∀ x : Nat → Int, (i64s (row9 x)).length = 9 := fun x => by rw [List.length_map, row9_len]
    have x2 : (i64s (row9 (s.ino k)))[2]? = some (.int .i64 (s.size k : Int)) := by rw [List.getElem?_map, row9_get (by omega), ← hs0]; rfl
    have wsub : wrapF .i64 ((s.size k : Int) - (o : Int)) = (s.size k : Int) - (o : Int) := wrapI (by omega) (by omega)
    obtain ⟨E, hE⟩ : ∃ E, endR (s.size k) o m = E := ⟨_, rfl⟩
    have hEl : o ≤ E → E ≤ s.size k := fun q => by rw [← hE] at q ⊢; unfold endR at q ⊢; split <;> omega
    by_cases c3 : (m : Int) < (s.size k : Int) - (o : Int)
    · have hEE : E = o + m := by rw [← hE]; unfold endR; rw [if_pos c3]
      have wadd : wrapF .i64 ((o : Int) + (m : Int)) = ((E : Nat) : Int) := by rw [wrapI (by omega) (by omega)]; omega
      simp (disch := (first | omega | rfl | (simp only [Heap.nx_upd, Heap.nx_new]; omega))) only [↓reduceIte, reduceCtorEq, Za, Zb, Zc, Zd, Ze, Zf, Zg, Zh, Zi, Zj, Zk, Zl, Zm, Zn, Zo, Zp, Zq, Zr, Zs, Zt, Zu, Zv, gval, Zw, Zx, Zy, Zz, ZA, ZB, ZC, ZD, ZE, ZF, decide_eq_true_eq, ZG, ZH, ZI, ZJ, ZK, ZL, ZM, ZN, ZO, ZP, ZQ, ZR, ZS, Option.some.injEq, exists_eq_left', ZT, ZU, ZV, ZW, ZX, ZY, true_and, and_true, true_or, or_true, false_or, or_false, ite_true, ite_false, cond_true, cond_false, ZZ, Qa, if_true, if_false, decide_true, decide_false, Qb, Qc, Qd, Qe, Qf, Qg, Qh, Qi, Qj, Qk, Ql, Qm, Qn, Qo, Qp, rb0, rb1, rb2, rb3, rb4, tf0, tf1, tf2, tf3, tf4, Heap.get_upd_ne, Heap.get_new_ne, Heap.get_new_at, overL_one, if_pos, stX_exactN, c1, c2, show ((0 : Int) == 0) = true from rfl, g2, x2, lx, wsub, c3, wadd]
      subst hlab
      rw [run_label, ← run_skip, ← run_seq]
      refine run_scope2 (l := 0) (by kernel_rfl) (fun N e h' => ∃ (p : Nat) (v : Value), N = E - p ∧ o ≤ p ∧ (p ≤ E ∨ p = o) ∧ e.at 0 = .iface 23 (.pointer (some ⟨bd, 0, none⟩)) ∧ e.at 10 = .pointer (some ⟨h1.nx, 0, none⟩) ∧ e.at 12 = v ∧ e.at 13 = .int .i64 E ∧ e.at 14 = .int .i64 p ∧ BAt h' h2.nx v (s.text k o p) ∧ Fs h' bd bl s ∧ h'.get h1.nx = some (cellsB (i64s (row9 (s.ino k))) .exact) ∧ h2.nx ≤ h'.nx ∧ ∀ b', b' < h.nx → b' ≠ bd → h'.get b' = h.get b')
        (fun ex e h' => ex = .ret ∧ e.at 8 = .string (mkS (s.text k o E)) ∧ e.at 9 = .int .i64 0 ∧ Fs h' bd bl s ∧ h2.nx ≤ h'.nx ∧ ∀ b', b' < h.nx → b' ≠ bd → h'.get b' = h.get b') ?_ (E - o) _ _ ?_ ?_
      · rintro N e h3 ⟨p, v, rfl, hop, hpE, e0, e10, e12, e13, e14, hv, f3, g3, hn3, hk3⟩ Q' hQn hQx
        by_cases hc : p < E
        · have hEs := hEl (by omega)
          have c5 : ¬ (E : Int) ≤ (p : Int) := by omega
          have hq : (p : Int).tdiv 32 = ((p / 32 : Nat) : Int) := by rw [Int.tdiv_eq_ediv_of_nonneg (by omega)]; omega
          have hm : (p : Int).tmod 32 = ((p % 32 : Nat) : Int) := by rw [Int.tmod_eq_emod_of_nonneg (by omega)]; omega
          have wq : wrapF .i64 ((p / 32 : Nat) : Int) = ((p / 32 : Nat) : Int) := wrapI (by omega) (by omega)
          have wm : wrapF .i64 ((p % 32 : Nat) : Int) = ((p % 32 : Nat) : Int) := wrapI (by omega) (by omega)
          have hj : 3 + p / 32 < 9 := by omega
          have hj6 : p / 32 < 6 := by omega
          have hbl := hok2.bl (p / 32) (by unfold needN; omega)
          obtain ⟨bk, hbk⟩ : ∃ bk : Nat, s.ino k (3 + p / 32) = bk := ⟨(s.ino k (3 + p / 32)).toNat, by omega⟩
          rw [hbk] at hbl
          have gx : (i64s (row9 (s.ino k)))[3 + p / 32]? = some (.int .i64 (bk : Int)) := by rw [List.getElem?_map, row9_get hj, hbk]; rfl
          simp (disch := (first | omega | rfl | (simp only [Heap.nx_upd, Heap.nx_new]; omega))) only [↓reduceIte, reduceCtorEq, Za, Zb, Zc, Zd, Ze, Zf, Zg, Zh, Zi, Zj, Zk, Zl, Zm, Zn, Zo, Zp, Zq, Zr, Zs, Zt, Zu, Zv, gval, Zw, Zx, Zy, Zz, ZA, ZB, ZC, ZD, ZE, ZF, decide_eq_true_eq, ZG, ZH, ZI, ZJ, ZK, ZL, ZM, ZN, ZO, ZP, ZQ, ZR, ZS, Option.some.injEq, exists_eq_left', ZT, ZU, ZV, ZW, ZX, ZY, true_and, and_true, true_or, or_true, false_or, or_false, ite_true, ite_false, cond_true, cond_false, ZZ, Qa, if_true, if_false, decide_true, decide_false, Qb, Qc, Qd, Qe, Qf, Qg, Qh, Qi, Qj, Qk, Ql, Qm, Qn, Qo, Qp, rb0, rb1, rb2, rb3, rb4, tf0, tf1, tf2, tf3, tf4, Heap.get_upd_ne, Heap.get_new_ne, Heap.get_new_at, overL_one, if_pos, stX_exactN, e0, e10, e12, e13, e14, c5, hq, wq, g3, lx, hj, gx, Nat.mul_one]
          refine runC_of (fget_spec pl f3 (b := bk) (by omega) fun h4 n4 g4 f4 k4 => ?_)
          have hrow : rowD s.D bk = (List.range 32).map (s.dat bk) := by
            unfold rowD
            refine List.map_congr_left fun t _ => ?_
            unfold FS.D
            rw [if_neg (by omega), if_neg (by omega)]
          rw [hrow] at g4
          have hl32 : (u64s ((List.range 32).map (s.dat bk))).length = 32 := by simp
          simp (disch := (first | omega | rfl | (simp only [Heap.nx_upd, Heap.nx_new]; omega))) only [↓reduceIte, reduceCtorEq, Za, Zb, Zc, Zd, Ze, Zf, Zg, Zh, Zi, Zj, Zk, Zl, Zm, Zn, Zo, Zp, Zq, Zr, Zs, Zt, Zu, Zv, gval, Zw, Zx, Zy, Zz, ZA, ZB, ZC, ZD, ZE, ZF, decide_eq_true_eq, ZG, ZH, ZI, ZJ, ZK, ZL, ZM, ZN, ZO, ZP, ZQ, ZR, ZS, Option.some.injEq, exists_eq_left', ZT, ZU, ZV, ZW, ZX, ZY, true_and, and_true, true_or, or_true, false_or, or_false, ite_true, ite_false, cond_true, cond_false, ZZ, Qa, if_true, if_false, decide_true, decide_false, Qb, Qc, Qd, Qe, Qf, Qg, Qh, Qi, Qj, Qk, Ql, Qm, Qn, Qo, Qp, rb0, rb1, rb2, rb3, rb4, tf0, tf1, tf2, tf3, tf4, Heap.get_upd_ne, Heap.get_new_ne, Heap.get_new_at, overL_one, if_pos, stX_exactN, hm, wm, e14, show ((0 : Int) == 0) = true from rfl]
          have v4 : BAt h4 h2.nx v (s.text k o p) := hv.keep (by omega) fun b' w1 w2 => k4 _ w2 (by omega)
          refine run_loop2 rfl (fun N e h' => ∃ (t p' : Nat) (v : Value), N = 32 - t ∧ t ≤ 32 ∧ p % 32 ≤ t ∧ p' + p % 32 = p + t ∧ p' ≤ E ∧ e.at 0 = .iface 23 (.pointer (some ⟨bd, 0, none⟩)) ∧ e.at 10 = .pointer (some ⟨h1.nx, 0, none⟩) ∧ e.at 12 = v ∧ e.at 13 = .int .i64 E ∧ e.at 14 = .int .i64 p' ∧ e.at 15 = .slice (some ⟨h3.nx, 0, none⟩) 32 32 ∧ e.at 16 = .int .i64 t ∧ BAt h' h2.nx v (s.text k o p') ∧ (∀ b', b' < h2.nx → h'.get b' = h4.get b') ∧ h'.get h3.nx = some (cellsB (u64s ((List.range 32).map (s.dat bk))) (.loose 1)) ∧ h4.nx ≤ h'.nx)
            (fun ex e h' => ex = .exit 0 ∧ ∃ (p' : Nat) (v : Value), p < p' ∧ p' ≤ E ∧ e.at 0 = .iface 23 (.pointer (some ⟨bd, 0, none⟩)) ∧ e.at 10 = .pointer (some ⟨h1.nx, 0, none⟩) ∧ e.at 12 = v ∧ e.at 13 = .int .i64 E ∧ e.at 14 = .int .i64 p' ∧ BAt h' h2.nx v (s.text k o p') ∧ (∀ b', b' < h2.nx → h'.get b' = h4.get b') ∧ h4.nx ≤ h'.nx) ?_ (32 - p % 32) _ _ ?_ ?_
          · rintro N e h5 ⟨t, p', v, rfl, ht, hpt, hpp, hpE', i0, i10, i12, i13, i14, i15, i16, hv5, hk5, g5, hn5⟩ Q2 hQn2 hQx2
            by_cases d1 : t < 32
            · have d1' : (t : Int) < 32 := by omega
              by_cases d2 : p' < E
              · have d2' : (p' : Int) < (E : Int) := by omega
                have wt : (u64s ((List.range 32).map (s.dat bk)))[t]? = some (.int .u64 (s.dat bk t)) := by rw [List.getElem?_map, List.getElem?_map, List.getElem?_range d1]; rfl
                have hby : s.byteAt k p' = UInt8.ofNat (s.dat bk t).toNat := by
                  unfold FS.byteAt
                  rw [show p' / 32 = p / 32 by omega, hbk, Int.toNat_natCast, show p' % 32 = t by omega]
                have w8 : wrapF .u8 (s.dat bk t) = ((s.byteAt k p').toNat : Int) := by rw [hby]; exact wrap8 (f.wf.dat bk t).1
                obtain ⟨Ef, h6, vw, a1, a2, a3, a4, a5, a6, a7⟩ := growB hv5 (by omega) (s.byteAt k p') (by rw [text_len]; omega)
                have wp1 : wrapF .i64 ((p' : Int) + 1) = ((p' + 1 : Nat) : Int) := by rw [wrapI (by omega) (by omega)]; omega
                have wt1 : wrapF .i64 ((t : Int) + 1) = ((t + 1 : Nat) : Int) := by rw [wrapI (by omega) (by omega)]; omega
                simp (disch := (first | omega | rfl | (simp only [Heap.nx_upd, Heap.nx_new]; omega))) only [↓reduceIte, reduceCtorEq, Za, Zb, Zc, Zd, Ze, Zf, Zg, Zh, Zi, Zj, Zk, Zl, Zm, Zn, Zo, Zp, Zq, Zr, Zs, Zt, Zu, Zv, gval, Zw, Zx, Zy, Zz, ZA, ZB, ZC, ZD, ZE, ZF, decide_eq_true_eq, ZG, ZH, ZI, ZJ, ZK, ZL, ZM, ZN, ZO, ZP, ZQ, ZR, ZS, Option.some.injEq, exists_eq_left', ZT, ZU, ZV, ZW, ZX, ZY, true_and, and_true, true_or, or_true, false_or, or_false, ite_true, ite_false, cond_true, cond_false, ZZ, Qa, if_true, if_false, decide_true, decide_false, Qb, Qc, Qd, Qe, Qf, Qg, Qh, Qi, Qj, Qk, Ql, Qm, Qn, Qo, Qp, rb0, rb1, rb2, rb3, rb4, tf0, tf1, tf2, tf3, tf4, Heap.get_upd_ne, Heap.get_new_ne, Heap.get_new_at, overL_one, if_pos, stX_exactN, i12, i13, i14, i15, i16, d1', d2', g5, wt, hl32, w8, bs1_34, a1, a2, a3, wp1, wt1, Nat.mul_one, Nat.zero_add]
                refine hQn2 _ _ _ (by omega) ⟨t + 1, p' + 1, vw, rfl, by omega, by omega, by omega, by omega, by simp only [at_put, at_args, Nat.reduceBEq, cond_true, cond_false, List.getElem?_cons_zero, List.getElem?_cons_succ, Option.getD_some, Nat.add_zero, Int.cast_ofNat_Int, i0], by simp only [at_put, at_args, Nat.reduceBEq, cond_true, cond_false, List.getElem?_cons_zero, List.getElem?_cons_succ, Option.getD_some, Nat.add_zero, Int.cast_ofNat_Int, i10], by simp only [at_put, at_args, Nat.reduceBEq, cond_true, cond_false, List.getElem?_cons_zero, List.getElem?_cons_succ, Option.getD_some, Nat.add_zero, Int.cast_ofNat_Int], by simp only [at_put, at_args, Nat.reduceBEq, cond_true, cond_false, List.getElem?_cons_zero, List.getElem?_cons_succ, Option.getD_some, Nat.add_zero, Int.cast_ofNat_Int, i13], by simp only [at_put, at_args, Nat.reduceBEq, cond_true, cond_false, List.getElem?_cons_zero, List.getElem?_cons_succ, Option.getD_some, Nat.add_zero, Int.cast_ofNat_Int], by simp only [at_put, at_args, Nat.reduceBEq, cond_true, cond_false, List.getElem?_cons_zero, List.getElem?_cons_succ, Option.getD_some, Nat.add_zero, Int.cast_ofNat_Int, i15], by simp only [at_put, at_args, Nat.reduceBEq, cond_true, cond_false, List.getElem?_cons_zero, List.getElem?_cons_succ, Option.getD_some, Nat.add_zero, Int.cast_ofNat_Int], ?_, fun b' hb' => by rw [a6 _ hb']; exact hk5 b' hb', ?_, by omega⟩
                · rw [text_succ (by omega)]; exact a4
                · rw [a7 h3.nx (by omega) (fun L e => by rw [g5] at e; unfold cellsB at e; injection e with e; injection e with _ _ e; cases e)]; exact g5
              · have d2' : ¬ (p' : Int) < (E : Int) := by omega
                simp (disch := (first | omega | rfl | (simp only [Heap.nx_upd, Heap.nx_new]; omega))) only [↓reduceIte, reduceCtorEq, Za, Zb, Zc, Zd, Ze, Zf, Zg, Zh, Zi, Zj, Zk, Zl, Zm, Zn, Zo, Zp, Zq, Zr, Zs, Zt, Zu, Zv, gval, Zw, Zx, Zy, Zz, ZA, ZB, ZC, ZD, ZE, ZF, decide_eq_true_eq, ZG, ZH, ZI, ZJ, ZK, ZL, ZM, ZN, ZO, ZP, ZQ, ZR, ZS, Option.some.injEq, exists_eq_left', ZT, ZU, ZV, ZW, ZX, ZY, true_and, and_true, true_or, or_true, false_or, or_false, ite_true, ite_false, cond_true, cond_false, ZZ, Qa, if_true, if_false, decide_true, decide_false, Qb, Qc, Qd, Qe, Qf, Qg, Qh, Qi, Qj, Qk, Ql, Qm, Qn, Qo, Qp, rb0, rb1, rb2, rb3, rb4, tf0, tf1, tf2, tf3, tf4, Heap.get_upd_ne, Heap.get_new_ne, Heap.get_new_at, overL_one, if_pos, stX_exactN, i13, i14, i16, d1', d2']
                exact hQx2 _ _ _ (by simp) ⟨rfl, p', v, by omega, hpE', by simp only [at_put, at_args, Nat.reduceBEq, cond_true, cond_false, List.getElem?_cons_zero, List.getElem?_cons_succ, Option.getD_some, Nat.add_zero, Int.cast_ofNat_Int, i0], by simp only [at_put, at_args, Nat.reduceBEq, cond_true, cond_false, List.getElem?_cons_zero, List.getElem?_cons_succ, Option.getD_some, Nat.add_zero, Int.cast_ofNat_Int, i10], by simp only [at_put, at_args, Nat.reduceBEq, cond_true, cond_false, List.getElem?_cons_zero, List.getElem?_cons_succ, Option.getD_some, Nat.add_zero, Int.cast_ofNat_Int, i12], by simp only [at_put, at_args, Nat.reduceBEq, cond_true, cond_false, List.getElem?_cons_zero, List.getElem?_cons_succ, Option.getD_some, Nat.add_zero, Int.cast_ofNat_Int, i13], by simp only [at_put, at_args, Nat.reduceBEq, cond_true, cond_false, List.getElem?_cons_zero, List.getElem?_cons_succ, Option.getD_some, Nat.add_zero, Int.cast_ofNat_Int, i14], hv5, hk5, hn5⟩
            · have d1' : ¬ (t : Int) < 32 := by omega
              simp (disch := (first | omega | rfl | (simp only [Heap.nx_upd, Heap.nx_new]; omega))) only [↓reduceIte, reduceCtorEq, Za, Zb, Zc, Zd, Ze, Zf, Zg, Zh, Zi, Zj, Zk, Zl, Zm, Zn, Zo, Zp, Zq, Zr, Zs, Zt, Zu, Zv, gval, Zw, Zx, Zy, Zz, ZA, ZB, ZC, ZD, ZE, ZF, decide_eq_true_eq, ZG, ZH, ZI, ZJ, ZK, ZL, ZM, ZN, ZO, ZP, ZQ, ZR, ZS, Option.some.injEq, exists_eq_left', ZT, ZU, ZV, ZW, ZX, ZY, true_and, and_true, true_or, or_true, false_or, or_false, ite_true, ite_false, cond_true, cond_false, ZZ, Qa, if_true, if_false, decide_true, decide_false, Qb, Qc, Qd, Qe, Qf, Qg, Qh, Qi, Qj, Qk, Ql, Qm, Qn, Qo, Qp, rb0, rb1, rb2, rb3, rb4, tf0, tf1, tf2, tf3, tf4, Heap.get_upd_ne, Heap.get_new_ne, Heap.get_new_at, overL_one, if_pos, stX_exactN, i13, i14, i16, d1', runG_undef]
              exact hQx2 _ _ _ (by simp) ⟨rfl, p', v, by omega, hpE', by simp only [at_put, at_args, Nat.reduceBEq, cond_true, cond_false, List.getElem?_cons_zero, List.getElem?_cons_succ, Option.getD_some, Nat.add_zero, Int.cast_ofNat_Int, i0], by simp only [at_put, at_args, Nat.reduceBEq, cond_true, cond_false, List.getElem?_cons_zero, List.getElem?_cons_succ, Option.getD_some, Nat.add_zero, Int.cast_ofNat_Int, i10], by simp only [at_put, at_args, Nat.reduceBEq, cond_true, cond_false, List.getElem?_cons_zero, List.getElem?_cons_succ, Option.getD_some, Nat.add_zero, Int.cast_ofNat_Int, i12], by simp only [at_put, at_args, Nat.reduceBEq, cond_true, cond_false, List.getElem?_cons_zero, List.getElem?_cons_succ, Option.getD_some, Nat.add_zero, Int.cast_ofNat_Int, i13], by simp only [at_put, at_args, Nat.reduceBEq, cond_true, cond_false, List.getElem?_cons_zero, List.getElem?_cons_succ, Option.getD_some, Nat.add_zero, Int.cast_ofNat_Int, i14], hv5, hk5, hn5⟩
          · exact ⟨p % 32, p, v, rfl, by omega, by omega, by omega, by omega, by simp only [at_put, at_args, Nat.reduceBEq, cond_true, cond_false, List.getElem?_cons_zero, List.getElem?_cons_succ, Option.getD_some, Nat.add_zero, Int.cast_ofNat_Int, e0], by simp only [at_put, at_args, Nat.reduceBEq, cond_true, cond_false, List.getElem?_cons_zero, List.getElem?_cons_succ, Option.getD_some, Nat.add_zero, Int.cast_ofNat_Int, e10], by simp only [at_put, at_args, Nat.reduceBEq, cond_true, cond_false, List.getElem?_cons_zero, List.getElem?_cons_succ, Option.getD_some, Nat.add_zero, Int.cast_ofNat_Int, e12], by simp only [at_put, at_args, Nat.reduceBEq, cond_true, cond_false, List.getElem?_cons_zero, List.getElem?_cons_succ, Option.getD_some, Nat.add_zero, Int.cast_ofNat_Int, e13], by simp only [at_put, at_args, Nat.reduceBEq, cond_true, cond_false, List.getElem?_cons_zero, List.getElem?_cons_succ, Option.getD_some, Nat.add_zero, Int.cast_ofNat_Int, e14], by simp only [at_put, at_args, Nat.reduceBEq, cond_true, cond_false, List.getElem?_cons_zero, List.getElem?_cons_succ, Option.getD_some, Nat.add_zero, Int.cast_ofNat_Int], by simp only [at_put, at_args, Nat.reduceBEq, cond_true, cond_false, List.getElem?_cons_zero, List.getElem?_cons_succ, Option.getD_some, Nat.add_zero, Int.cast_ofNat_Int], v4, fun _ _ => rfl, g4, Nat.le_refl _⟩
          · rintro ex e h5 - ⟨rfl, p', v, hp1, hp2, i0, i10, i12, i13, i14, hv5, hk5, hn5⟩
            simp only [↓reduceIte, reduceCtorEq, Za, Zb, Zc, Zd, Ze, Zf, Zg, Zh, Zi, Zj, Zk, Zl, Zm, Zn, Zo, Zp, Zq, Zr, Zs, Zt, Zu, Zv, gval, Zw, Zx, Zy, Zz, ZA, ZB, ZC, ZD, ZE, ZF, decide_eq_true_eq, ZG, ZH, ZI, ZJ, ZK, ZL, ZM, ZN, ZO, ZP, ZQ, ZR, ZS, Option.some.injEq, exists_eq_left', ZT, ZU, ZV, ZW, ZX, ZY, true_and, and_true, true_or, or_true, false_or, or_false, ite_true, ite_false, cond_true, cond_false, ZZ, Qa, if_true, if_false, decide_true, decide_false, Qb, Qc, Qd, Qe, Qf, Qg, Qh, Qi, Qj, Qk, Ql, Qm, Qn, Qo, Qp, rb0, rb1, rb2, rb3, rb4, tf0, tf1, tf2, tf3, tf4]
            refine hQn _ _ _ (by omega) ⟨p', v, rfl, by omega, .inl hp2, i0, i10, i12, i13, i14, hv5, f4.keep hn5 (hk5 _ (by omega)) (hk5 _ (by omega)), ?_, by omega, fun b' w1 w2 => ?_⟩
            · rw [hk5 _ (by omega), k4 _ (by omega) (by omega)]; exact g3
            · rw [hk5 _ (by omega), k4 _ (by omega) w2]; exact hk3 b' w1 w2
        · have c5 : (E : Int) ≤ (p : Int) := by omega
          have htx : s.text k o p = s.text k o E := by
            rcases hpE with q | q
            · rw [show p = E by omega]
            · rw [text_nil (by omega), text_nil (by omega)]
          have hcv := conv_bytes hv
          rw [htx] at hcv
          simp (disch := (first | omega | rfl | (simp only [Heap.nx_upd, Heap.nx_new]; omega))) only [↓reduceIte, reduceCtorEq, Za, Zb, Zc, Zd, Ze, Zf, Zg, Zh, Zi, Zj, Zk, Zl, Zm, Zn, Zo, Zp, Zq, Zr, Zs, Zt, Zu, Zv, gval, Zw, Zx, Zy, Zz, ZA, ZB, ZC, ZD, ZE, ZF, decide_eq_true_eq, ZG, ZH, ZI, ZJ, ZK, ZL, ZM, ZN, ZO, ZP, ZQ, ZR, ZS, Option.some.injEq, exists_eq_left', ZT, ZU, ZV, ZW, ZX, ZY, true_and, and_true, true_or, or_true, false_or, or_false, ite_true, ite_false, cond_true, cond_false, ZZ, Qa, if_true, if_false, decide_true, decide_false, Qb, Qc, Qd, Qe, Qf, Qg, Qh, Qi, Qj, Qk, Ql, Qm, Qn, Qo, Qp, rb0, rb1, rb2, rb3, rb4, tf0, tf1, tf2, tf3, tf4, Heap.get_upd_ne, Heap.get_new_ne, Heap.get_new_at, overL_one, if_pos, stX_exactN, e0, e10, e12, e13, e14, c5, hcv]
          exact hQx _ _ _ (fun l => by simp) ⟨rfl, by simp only [at_put, at_args, Nat.reduceBEq, cond_true, cond_false, List.getElem?_cons_zero, List.getElem?_cons_succ, Option.getD_some, Nat.add_zero, Int.cast_ofNat_Int], by simp only [at_put, at_args, Nat.reduceBEq, cond_true, cond_false, List.getElem?_cons_zero, List.getElem?_cons_succ, Option.getD_some, Nat.add_zero, Int.cast_ofNat_Int], f3, hn3, hk3⟩
      · exact ⟨o, _, rfl, Nat.le_refl _, .inr rfl, by simp only [at_put, at_args, Nat.reduceBEq, cond_true, cond_false, List.getElem?_cons_zero, List.getElem?_cons_succ, Option.getD_some, Nat.add_zero, Int.cast_ofNat_Int], by simp only [at_put, at_args, Nat.reduceBEq, cond_true, cond_false, List.getElem?_cons_zero, List.getElem?_cons_succ, Option.getD_some, Nat.add_zero, Int.cast_ofNat_Int], by simp only [at_put, at_args, Nat.reduceBEq, cond_true, cond_false, List.getElem?_cons_zero, List.getElem?_cons_succ, Option.getD_some, Nat.add_zero, Int.cast_ofNat_Int], by simp only [at_put, at_args, Nat.reduceBEq, cond_true, cond_false, List.getElem?_cons_zero, List.getElem?_cons_succ, Option.getD_some, Nat.add_zero, Int.cast_ofNat_Int]; try rw [hEE], by simp only [at_put, at_args, Nat.reduceBEq, cond_true, cond_false, List.getElem?_cons_zero, List.getElem?_cons_succ, Option.getD_some, Nat.add_zero, Int.cast_ofNat_Int], ⟨.inl ⟨rfl, text_nil (Nat.le_refl _)⟩⟩, f2, g2, Nat.le_refl _, k12⟩
      · rintro ex e h3 - ⟨rfl, e8, e9, f3, hn3, hk3⟩
        simp only [↓reduceIte, reduceCtorEq, Za, Zb, Zc, Zd, Ze, Zf, Zg, Zh, Zi, Zj, Zk, Zl, Zm, Zn, Zo, Zp, Zq, Zr, Zs, Zt, Zu, Zv, gval, Zw, Zx, Zy, Zz, ZA, ZB, ZC, ZD, ZE, ZF, decide_eq_true_eq, ZG, ZH, ZI, ZJ, ZK, ZL, ZM, ZN, ZO, ZP, ZQ, ZR, ZS, Option.some.injEq, exists_eq_left', ZT, ZU, ZV, ZW, ZX, ZY, true_and, and_true, true_or, or_true, false_or, or_false, ite_true, ite_false, cond_true, cond_false, ZZ, Qa, if_true, if_false, decide_true, decide_false, Qb, Qc, Qd, Qe, Qf, Qg, Qh, Qi, Qj, Qk, Ql, Qm, Qn, Qo, Qp, rb0, rb1, rb2, rb3, rb4, tf0, tf1, tf2, tf3, tf4, e8, e9]
        rw [← hE]
        exact hok k o m rfl hk rfl rfl h3 f3 (by omega) hk3
    · have hEE : E = s.size k := by rw [← hE]; unfold endR; rw [if_neg c3]
      simp (disch := (first | omega | rfl | (simp only [Heap.nx_upd, Heap.nx_new]; omega))) only [↓reduceIte, reduceCtorEq, Za, Zb, Zc, Zd, Ze, Zf, Zg, Zh, Zi, Zj, Zk, Zl, Zm, Zn, Zo, Zp, Zq, Zr, Zs, Zt, Zu, Zv, gval, Zw, Zx, Zy, Zz, ZA, ZB, ZC, ZD, ZE, ZF, decide_eq_true_eq, ZG, ZH, ZI, ZJ, ZK, ZL, ZM, ZN, ZO, ZP, ZQ, ZR, ZS, Option.some.injEq, exists_eq_left', ZT, ZU, ZV, ZW, ZX, ZY, true_and, and_true, true_or, or_true, false_or, or_false, ite_true, ite_false, cond_true, cond_false, ZZ, Qa, if_true, if_false, decide_true, decide_false, Qb, Qc, Qd, Qe, Qf, Qg, Qh, Qi, Qj, Qk, Ql, Qm, Qn, Qo, Qp, rb0, rb1, rb2, rb3, rb4, tf0, tf1, tf2, tf3, tf4, Heap.get_upd_ne, Heap.get_new_ne, Heap.get_new_at, overL_one, if_pos, stX_exactN, c1, c2, show ((0 : Int) == 0) = true from rfl, g2, x2, lx, wsub, c3]
      subst hlab
      rw [run_label, ← run_skip, ← run_seq]
      refine run_scope2 (l := 0) (by kernel_rfl) (fun N e h' => ∃ (p : Nat) (v : Value), N = E - p ∧ o ≤ p ∧ (p ≤ E ∨ p = o) ∧ e.at 0 = .iface 23 (.pointer (some ⟨bd, 0, none⟩)) ∧ e.at 10 = .pointer (some ⟨h1.nx, 0, none⟩) ∧ e.at 12 = v ∧ e.at 13 = .int .i64 E ∧ e.at 14 = .int .i64 p ∧ BAt h' h2.nx v (s.text k o p) ∧ Fs h' bd bl s ∧ h'.get h1.nx = some (cellsB (i64s (row9 (s.ino k))) .exact) ∧ h2.nx ≤ h'.nx ∧ ∀ b', b' < h.nx → b' ≠ bd → h'.get b' = h.get b')
        (fun ex e h' => ex = .ret ∧ e.at 8 = .string (mkS (s.text k o E)) ∧ e.at 9 = .int .i64 0 ∧ Fs h' bd bl s ∧ h2.nx ≤ h'.nx ∧ ∀ b', b' < h.nx → b' ≠ bd → h'.get b' = h.get b') ?_ (E - o) _ _ ?_ ?_
      · rintro N e h3 ⟨p, v, rfl, hop, hpE, e0, e10, e12, e13, e14, hv, f3, g3, hn3, hk3⟩ Q' hQn hQx
        by_cases hc : p < E
        · have hEs := hEl (by omega)
          have c5 : ¬ (E : Int) ≤ (p : Int) := by omega
          have hq : (p : Int).tdiv 32 = ((p / 32 : Nat) : Int) := by rw [Int.tdiv_eq_ediv_of_nonneg (by omega)]; omega
          have hm : (p : Int).tmod 32 = ((p % 32 : Nat) : Int) := by rw [Int.tmod_eq_emod_of_nonneg (by omega)]; omega
          have wq : wrapF .i64 ((p / 32 : Nat) : Int) = ((p / 32 : Nat) : Int) := wrapI (by omega) (by omega)
          have wm : wrapF .i64 ((p % 32 : Nat) : Int) = ((p % 32 : Nat) : Int) := wrapI (by omega) (by omega)
          have hj : 3 + p / 32 < 9 := by omega
          have hj6 : p / 32 < 6 := by omega
          have hbl := hok2.bl (p / 32) (by unfold needN; omega)
          obtain ⟨bk, hbk⟩ : ∃ bk : Nat, s.ino k (3 + p / 32) = bk := ⟨(s.ino k (3 + p / 32)).toNat, by omega⟩
          rw [hbk] at hbl
          have gx : (i64s (row9 (s.ino k)))[3 + p / 32]? = some (.int .i64 (bk : Int)) := by rw [List.getElem?_map, row9_get hj, hbk]; rfl
          simp (disch := (first | omega | rfl | (simp only [Heap.nx_upd, Heap.nx_new]; omega))) only [↓reduceIte, reduceCtorEq, Za, Zb, Zc, Zd, Ze, Zf, Zg, Zh, Zi, Zj, Zk, Zl, Zm, Zn, Zo, Zp, Zq, Zr, Zs, Zt, Zu, Zv, gval, Zw, Zx, Zy, Zz, ZA, ZB, ZC, ZD, ZE, ZF, decide_eq_true_eq, ZG, ZH, ZI, ZJ, ZK, ZL, ZM, ZN, ZO, ZP, ZQ, ZR, ZS, Option.some.injEq, exists_eq_left', ZT, ZU, ZV, ZW, ZX, ZY, true_and, and_true, true_or, or_true, false_or, or_false, ite_true, ite_false, cond_true, cond_false, ZZ, Qa, if_true, if_false, decide_true, decide_false, Qb, Qc, Qd, Qe, Qf, Qg, Qh, Qi, Qj, Qk, Ql, Qm, Qn, Qo, Qp, rb0, rb1, rb2, rb3, rb4, tf0, tf1, tf2, tf3, tf4, Heap.get_upd_ne, Heap.get_new_ne, Heap.get_new_at, overL_one, if_pos, stX_exactN, e0, e10, e12, e13, e14, c5, hq, wq, g3, lx, hj, gx, Nat.mul_one]
          refine runC_of (fget_spec pl f3 (b := bk) (by omega) fun h4 n4 g4 f4 k4 => ?_)
          have hrow : rowD s.D bk = (List.range 32).map (s.dat bk) := by
            unfold rowD
            refine List.map_congr_left fun t _ => ?_
            unfold FS.D
            rw [if_neg (by omega), if_neg (by omega)]
          rw [hrow] at g4
          have hl32 : (u64s ((List.range 32).map (s.dat bk))).length = 32 := by simp
          simp (disch := (first | omega | rfl | (simp only [Heap.nx_upd, Heap.nx_new]; omega))) only [↓reduceIte, reduceCtorEq, Za, Zb, Zc, Zd, Ze, Zf, Zg, Zh, Zi, Zj, Zk, Zl, Zm, Zn, Zo, Zp, Zq, Zr, Zs, Zt, Zu, Zv, gval, Zw, Zx, Zy, Zz, ZA, ZB, ZC, ZD, ZE, ZF, decide_eq_true_eq, ZG, ZH, ZI, ZJ, ZK, ZL, ZM, ZN, ZO, ZP, ZQ, ZR, ZS, Option.some.injEq, exists_eq_left', ZT, ZU, ZV, ZW, ZX, ZY, true_and, and_true, true_or, or_true, false_or, or_false, ite_true, ite_false, cond_true, cond_false, ZZ, Qa, if_true, if_false, decide_true, decide_false, Qb, Qc, Qd, Qe, Qf, Qg, Qh, Qi, Qj, Qk, Ql, Qm, Qn, Qo, Qp, rb0, rb1, rb2, rb3, rb4, tf0, tf1, tf2, tf3, tf4, Heap.get_upd_ne, Heap.get_new_ne, Heap.get_new_at, overL_one, if_pos, stX_exactN, hm, wm, e14, show ((0 : Int) == 0) = true from rfl]
          have v4 : BAt h4 h2.nx v (s.text k o p) := hv.keep (by omega) fun b' w1 w2 => k4 _ w2 (by omega)
          refine run_loop2 rfl (fun N e h' => ∃ (t p' : Nat) (v : Value), N = 32 - t ∧ t ≤ 32 ∧ p % 32 ≤ t ∧ p' + p % 32 = p + t ∧ p' ≤ E ∧ e.at 0 = .iface 23 (.pointer (some ⟨bd, 0, none⟩)) ∧ e.at 10 = .pointer (some ⟨h1.nx, 0, none⟩) ∧ e.at 12 = v ∧ e.at 13 = .int .i64 E ∧ e.at 14 = .int .i64 p' ∧ e.at 15 = .slice (some ⟨h3.nx, 0, none⟩) 32 32 ∧ e.at 16 = .int .i64 t ∧ BAt h' h2.nx v (s.text k o p') ∧ (∀ b', b' < h2.nx → h'.get b' = h4.get b') ∧ h'.get h3.nx = some (cellsB (u64s ((List.range 32).map (s.dat bk))) (.loose 1)) ∧ h4.nx ≤ h'.nx)
            (fun ex e h' => ex = .exit 0 ∧ ∃ (p' : Nat) (v : Value), p < p' ∧ p' ≤ E ∧ e.at 0 = .iface 23 (.pointer (some ⟨bd, 0, none⟩)) ∧ e.at 10 = .pointer (some ⟨h1.nx, 0, none⟩) ∧ e.at 12 = v ∧ e.at 13 = .int .i64 E ∧ e.at 14 = .int .i64 p' ∧ BAt h' h2.nx v (s.text k o p') ∧ (∀ b', b' < h2.nx → h'.get b' = h4.get b') ∧ h4.nx ≤ h'.nx) ?_ (32 - p % 32) _ _ ?_ ?_
          · rintro N e h5 ⟨t, p', v, rfl, ht, hpt, hpp, hpE', i0, i10, i12, i13, i14, i15, i16, hv5, hk5, g5, hn5⟩ Q2 hQn2 hQx2
            by_cases d1 : t < 32
            · have d1' : (t : Int) < 32 := by omega
              by_cases d2 : p' < E
              · have d2' : (p' : Int) < (E : Int) := by omega
                have wt : (u64s ((List.range 32).map (s.dat bk)))[t]? = some (.int .u64 (s.dat bk t)) := by rw [List.getElem?_map, List.getElem?_map, List.getElem?_range d1]; rfl
                have hby : s.byteAt k p' = UInt8.ofNat (s.dat bk t).toNat := by
                  unfold FS.byteAt
                  rw [show p' / 32 = p / 32 by omega, hbk, Int.toNat_natCast, show p' % 32 = t by omega]
                have w8 : wrapF .u8 (s.dat bk t) = ((s.byteAt k p').toNat : Int) := by rw [hby]; exact wrap8 (f.wf.dat bk t).1
                obtain ⟨Ef, h6, vw, a1, a2, a3, a4, a5, a6, a7⟩ := growB hv5 (by omega) (s.byteAt k p') (by rw [text_len]; omega)
                have wp1 : wrapF .i64 ((p' : Int) + 1) = ((p' + 1 : Nat) : Int) := by rw [wrapI (by omega) (by omega)]; omega
                have wt1 : wrapF .i64 ((t : Int) + 1) = ((t + 1 : Nat) : Int) := by rw [wrapI (by omega) (by omega)]; omega
                simp (disch := (first | omega | rfl | (simp only [Heap.nx_upd, Heap.nx_new]; omega))) only [↓reduceIte, reduceCtorEq, Za, Zb, Zc, Zd, Ze, Zf, Zg, Zh, Zi, Zj, Zk, Zl, Zm, Zn, Zo, Zp, Zq, Zr, Zs, Zt, Zu, Zv, gval, Zw, Zx, Zy, Zz, ZA, ZB, ZC, ZD, ZE, ZF, decide_eq_true_eq, ZG, ZH, ZI, ZJ, ZK, ZL, ZM, ZN, ZO, ZP, ZQ, ZR, ZS, Option.some.injEq, exists_eq_left', ZT, ZU, ZV, ZW, ZX, ZY, true_and, and_true, true_or, or_true, false_or, or_false, ite_true, ite_false, cond_true, cond_false, ZZ, Qa, if_true, if_false, decide_true, decide_false, Qb, Qc, Qd, Qe, Qf, Qg, Qh, Qi, Qj, Qk, Ql, Qm, Qn, Qo, Qp, rb0, rb1, rb2, rb3, rb4, tf0, tf1, tf2, tf3, tf4, Heap.get_upd_ne, Heap.get_new_ne, Heap.get_new_at, overL_one, if_pos, stX_exactN, i12, i13, i14, i15, i16, d1', d2', g5, wt, hl32, w8, bs1_34, a1, a2, a3, wp1, wt1, Nat.mul_one, Nat.zero_add]
                refine hQn2 _ _ _ (by omega) ⟨t + 1, p' + 1, vw, rfl, by omega, by omega, by omega, by omega, by simp only [at_put, at_args, Nat.reduceBEq, cond_true, cond_false, List.getElem?_cons_zero, List.getElem?_cons_succ, Option.getD_some, Nat.add_zero, Int.cast_ofNat_Int, i0], by simp only [at_put, at_args, Nat.reduceBEq, cond_true, cond_false, List.getElem?_cons_zero, List.getElem?_cons_succ, Option.getD_some, Nat.add_zero, Int.cast_ofNat_Int, i10], by simp only [at_put, at_args, Nat.reduceBEq, cond_true, cond_false, List.getElem?_cons_zero, List.getElem?_cons_succ, Option.getD_some, Nat.add_zero, Int.cast_ofNat_Int], by simp only [at_put, at_args, Nat.reduceBEq, cond_true, cond_false, List.getElem?_cons_zero, List.getElem?_cons_succ, Option.getD_some, Nat.add_zero, Int.cast_ofNat_Int, i13], by simp only [at_put, at_args, Nat.reduceBEq, cond_true, cond_false, List.getElem?_cons_zero, List.getElem?_cons_succ, Option.getD_some, Nat.add_zero, Int.cast_ofNat_Int], by simp only [at_put, at_args, Nat.reduceBEq, cond_true, cond_false, List.getElem?_cons_zero, List.getElem?_cons_succ, Option.getD_some, Nat.add_zero, Int.cast_ofNat_Int, i15], by simp only [at_put, at_args, Nat.reduceBEq, cond_true, cond_false, List.getElem?_cons_zero, List.getElem?_cons_succ, Option.getD_some, Nat.add_zero, Int.cast_ofNat_Int], ?_, fun b' hb' => by rw [a6 _ hb']; exact hk5 b' hb', ?_, by omega⟩
                · rw [text_succ (by omega)]; exact a4
                · rw [a7 h3.nx (by omega) (fun L e => by rw [g5] at e; unfold cellsB at e; injection e with e; injection e with _ _ e; cases e)]; exact g5
              · have d2' : ¬ (p' : Int) < (E : Int) := by omega
                simp (disch := (first | omega | rfl | (simp only [Heap.nx_upd, Heap.nx_new]; omega))) only [↓reduceIte, reduceCtorEq, Za, Zb, Zc, Zd, Ze, Zf, Zg, Zh, Zi, Zj, Zk, Zl, Zm, Zn, Zo, Zp, Zq, Zr, Zs, Zt, Zu, Zv, gval, Zw, Zx, Zy, Zz, ZA, ZB, ZC, ZD, ZE, ZF, decide_eq_true_eq, ZG, ZH, ZI, ZJ, ZK, ZL, ZM, ZN, ZO, ZP, ZQ, ZR, ZS, Option.some.injEq, exists_eq_left', ZT, ZU, ZV, ZW, ZX, ZY, true_and, and_true, true_or, or_true, false_or, or_false, ite_true, ite_false, cond_true, cond_false, ZZ, Qa, if_true, if_false, decide_true, decide_false, Qb, Qc, Qd, Qe, Qf, Qg, Qh, Qi, Qj, Qk, Ql, Qm, Qn, Qo, Qp, rb0, rb1, rb2, rb3, rb4, tf0, tf1, tf2, tf3, tf4, Heap.get_upd_ne, Heap.get_new_ne, Heap.get_new_at, overL_one, if_pos, stX_exactN, i13, i14, i16, d1', d2']
                exact hQx2 _ _ _ (by simp) ⟨rfl, p', v, by omega, hpE', by simp only [at_put, at_args, Nat.reduceBEq, cond_true, cond_false, List.getElem?_cons_zero, List.getElem?_cons_succ, Option.getD_some, Nat.add_zero, Int.cast_ofNat_Int, i0], by simp only [at_put, at_args, Nat.reduceBEq, cond_true, cond_false, List.getElem?_cons_zero, List.getElem?_cons_succ, Option.getD_some, Nat.add_zero, Int.cast_ofNat_Int, i10], by simp only [at_put, at_args, Nat.reduceBEq, cond_true, cond_false, List.getElem?_cons_zero, List.getElem?_cons_succ, Option.getD_some, Nat.add_zero, Int.cast_ofNat_Int, i12], by simp only [at_put, at_args, Nat.reduceBEq, cond_true, cond_false, List.getElem?_cons_zero, List.getElem?_cons_succ, Option.getD_some, Nat.add_zero, Int.cast_ofNat_Int, i13], by simp only [at_put, at_args, Nat.reduceBEq, cond_true, cond_false, List.getElem?_cons_zero, List.getElem?_cons_succ, Option.getD_some, Nat.add_zero, Int.cast_ofNat_Int, i14], hv5, hk5, hn5⟩
            · have d1' : ¬ (t : Int) < 32 := by omega
              simp (disch := (first | omega | rfl | (simp only [Heap.nx_upd, Heap.nx_new]; omega))) only [↓reduceIte, reduceCtorEq, Za, Zb, Zc, Zd, Ze, Zf, Zg, Zh, Zi, Zj, Zk, Zl, Zm, Zn, Zo, Zp, Zq, Zr, Zs, Zt, Zu, Zv, gval, Zw, Zx, Zy, Zz, ZA, ZB, ZC, ZD, ZE, ZF, decide_eq_true_eq, ZG, ZH, ZI, ZJ, ZK, ZL, ZM, ZN, ZO, ZP, ZQ, ZR, ZS, Option.some.injEq, exists_eq_left', ZT, ZU, ZV, ZW, ZX, ZY, true_and, and_true, true_or, or_true, false_or, or_false, ite_true, ite_false, cond_true, cond_false, ZZ, Qa, if_true, if_false, decide_true, decide_false, Qb, Qc, Qd, Qe, Qf, Qg, Qh, Qi, Qj, Qk, Ql, Qm, Qn, Qo, Qp, rb0, rb1, rb2, rb3, rb4, tf0, tf1, tf2, tf3, tf4, Heap.get_upd_ne, Heap.get_new_ne, Heap.get_new_at, overL_one, if_pos, stX_exactN, i13, i14, i16, d1', runG_undef]
              exact hQx2 _ _ _ (by simp) ⟨rfl, p', v, by omega, hpE', by simp only [at_put, at_args, Nat.reduceBEq, cond_true, cond_false, List.getElem?_cons_zero, List.getElem?_cons_succ, Option.getD_some, Nat.add_zero, Int.cast_ofNat_Int, i0], by simp only [at_put, at_args, Nat.reduceBEq, cond_true, cond_false, List.getElem?_cons_zero, List.getElem?_cons_succ, Option.getD_some, Nat.add_zero, Int.cast_ofNat_Int, i10], by simp only [at_put, at_args, Nat.reduceBEq, cond_true, cond_false, List.getElem?_cons_zero, List.getElem?_cons_succ, Option.getD_some, Nat.add_zero, Int.cast_ofNat_Int, i12], by simp only [at_put, at_args, Nat.reduceBEq, cond_true, cond_false, List.getElem?_cons_zero, List.getElem?_cons_succ, Option.getD_some, Nat.add_zero, Int.cast_ofNat_Int, i13], by simp only [at_put, at_args, Nat.reduceBEq, cond_true, cond_false, List.getElem?_cons_zero, List.getElem?_cons_succ, Option.getD_some, Nat.add_zero, Int.cast_ofNat_Int, i14], hv5, hk5, hn5⟩
          · exact ⟨p % 32, p, v, rfl, by omega, by omega, by omega, by omega, by simp only [at_put, at_args, Nat.reduceBEq, cond_true, cond_false, List.getElem?_cons_zero, List.getElem?_cons_succ, Option.getD_some, Nat.add_zero, Int.cast_ofNat_Int, e0], by simp only [at_put, at_args, Nat.reduceBEq, cond_true, cond_false, List.getElem?_cons_zero, List.getElem?_cons_succ, Option.getD_some, Nat.add_zero, Int.cast_ofNat_Int, e10], by simp only [at_put, at_args, Nat.reduceBEq, cond_true, cond_false, List.getElem?_cons_zero, List.getElem?_cons_succ, Option.getD_some, Nat.add_zero, Int.cast_ofNat_Int, e12], by simp only [at_put, at_args, Nat.reduceBEq, cond_true, cond_false, List.getElem?_cons_zero, List.getElem?_cons_succ, Option.getD_some, Nat.add_zero, Int.cast_ofNat_Int, e13], by simp only [at_put, at_args, Nat.reduceBEq, cond_true, cond_false, List.getElem?_cons_zero, List.getElem?_cons_succ, Option.getD_some, Nat.add_zero, Int.cast_ofNat_Int, e14], by simp only [at_put, at_args, Nat.reduceBEq, cond_true, cond_false, List.getElem?_cons_zero, List.getElem?_cons_succ, Option.getD_some, Nat.add_zero, Int.cast_ofNat_Int], by simp only [at_put, at_args, Nat.reduceBEq, cond_true, cond_false, List.getElem?_cons_zero, List.getElem?_cons_succ, Option.getD_some, Nat.add_zero, Int.cast_ofNat_Int], v4, fun _ _ => rfl, g4, Nat.le_refl _⟩
          · rintro ex e h5 - ⟨rfl, p', v, hp1, hp2, i0, i10, i12, i13, i14, hv5, hk5, hn5⟩
            simp only [↓reduceIte, reduceCtorEq, Za, Zb, Zc, Zd, Ze, Zf, Zg, Zh, Zi, Zj, Zk, Zl, Zm, Zn, Zo, Zp, Zq, Zr, Zs, Zt, Zu, Zv, gval, Zw, Zx, Zy, Zz, ZA, ZB, ZC, ZD, ZE, ZF, decide_eq_true_eq, ZG, ZH, ZI, ZJ, ZK, ZL, ZM, ZN, ZO, ZP, ZQ, ZR, ZS, Option.some.injEq, exists_eq_left', ZT, ZU, ZV, ZW, ZX, ZY, true_and, and_true, true_or, or_true, false_or, or_false, ite_true, ite_false, cond_true, cond_false, ZZ, Qa, if_true, if_false, decide_true, decide_false, Qb, Qc, Qd, Qe, Qf, Qg, Qh, Qi, Qj, Qk, Ql, Qm, Qn, Qo, Qp, rb0, rb1, rb2, rb3, rb4, tf0, tf1, tf2, tf3, tf4]
            refine hQn _ _ _ (by omega) ⟨p', v, rfl, by omega, .inl hp2, i0, i10, i12, i13, i14, hv5, f4.keep hn5 (hk5 _ (by omega)) (hk5 _ (by omega)), ?_, by omega, fun b' w1 w2 => ?_⟩
            · rw [hk5 _ (by omega), k4 _ (by omega) (by omega)]; exact g3
            · rw [hk5 _ (by omega), k4 _ (by omega) w2]; exact hk3 b' w1 w2
        · have c5 : (E : Int) ≤ (p : Int) := by omega
          have htx : s.text k o p = s.text k o E := by
            rcases hpE with q | q
            · rw [show p = E by omega]
            · rw [text_nil (by omega), text_nil (by omega)]
          have hcv := conv_bytes hv
          rw [htx] at hcv
          simp (disch := (first | omega | rfl | (simp only [Heap.nx_upd, Heap.nx_new]; omega))) only [↓reduceIte, reduceCtorEq, Za, Zb, Zc, Zd, Ze, Zf, Zg, Zh, Zi, Zj, Zk, Zl, Zm, Zn, Zo, Zp, Zq, Zr, Zs, Zt, Zu, Zv, gval, Zw, Zx, Zy, Zz, ZA, ZB, ZC, ZD, ZE, ZF, decide_eq_true_eq, ZG, ZH, ZI, ZJ, ZK, ZL, ZM, ZN, ZO, ZP, ZQ, ZR, ZS, Option.some.injEq, exists_eq_left', ZT, ZU, ZV, ZW, ZX, ZY, true_and, and_true, true_or, or_true, false_or, or_false, ite_true, ite_false, cond_true, cond_false, ZZ, Qa, if_true, if_false, decide_true, decide_false, Qb, Qc, Qd, Qe, Qf, Qg, Qh, Qi, Qj, Qk, Ql, Qm, Qn, Qo, Qp, rb0, rb1, rb2, rb3, rb4, tf0, tf1, tf2, tf3, tf4, Heap.get_upd_ne, Heap.get_new_ne, Heap.get_new_at, overL_one, if_pos, stX_exactN, e0, e10, e12, e13, e14, c5, hcv]
          exact hQx _ _ _ (fun l => by simp) ⟨rfl, by simp only [at_put, at_args, Nat.reduceBEq, cond_true, cond_false, List.getElem?_cons_zero, List.getElem?_cons_succ, Option.getD_some, Nat.add_zero, Int.cast_ofNat_Int], by simp only [at_put, at_args, Nat.reduceBEq, cond_true, cond_false, List.getElem?_cons_zero, List.getElem?_cons_succ, Option.getD_some, Nat.add_zero, Int.cast_ofNat_Int], f3, hn3, hk3⟩
      · exact ⟨o, _, rfl, Nat.le_refl _, .inr rfl, by simp only [at_put, at_args, Nat.reduceBEq, cond_true, cond_false, List.getElem?_cons_zero, List.getElem?_cons_succ, Option.getD_some, Nat.add_zero, Int.cast_ofNat_Int], by simp only [at_put, at_args, Nat.reduceBEq, cond_true, cond_false, List.getElem?_cons_zero, List.getElem?_cons_succ, Option.getD_some, Nat.add_zero, Int.cast_ofNat_Int], by simp only [at_put, at_args, Nat.reduceBEq, cond_true, cond_false, List.getElem?_cons_zero, List.getElem?_cons_succ, Option.getD_some, Nat.add_zero, Int.cast_ofNat_Int], by simp only [at_put, at_args, Nat.reduceBEq, cond_true, cond_false, List.getElem?_cons_zero, List.getElem?_cons_succ, Option.getD_some, Nat.add_zero, Int.cast_ofNat_Int]; try rw [hEE], by simp only [at_put, at_args, Nat.reduceBEq, cond_true, cond_false, List.getElem?_cons_zero, List.getElem?_cons_succ, Option.getD_some, Nat.add_zero, Int.cast_ofNat_Int], ⟨.inl ⟨rfl, text_nil (Nat.le_refl _)⟩⟩, f2, g2, Nat.le_refl _, k12⟩
      · rintro ex e h3 - ⟨rfl, e8, e9, f3, hn3, hk3⟩
        simp only [↓reduceIte, reduceCtorEq, Za, Zb, Zc, Zd, Ze, Zf, Zg, Zh, Zi, Zj, Zk, Zl, Zm, Zn, Zo, Zp, Zq, Zr, Zs, Zt, Zu, Zv, gval, Zw, Zx, Zy, Zz, ZA, ZB, ZC, ZD, ZE, ZF, decide_eq_true_eq, ZG, ZH, ZI, ZJ, ZK, ZL, ZM, ZN, ZO, ZP, ZQ, ZR, ZS, Option.some.injEq, exists_eq_left', ZT, ZU, ZV, ZW, ZX, ZY, true_and, and_true, true_or, or_true, false_or, or_false, ite_true, ite_false, cond_true, cond_false, ZZ, Qa, if_true, if_false, decide_true, decide_false, Qb, Qc, Qd, Qe, Qf, Qg, Qh, Qi, Qj, Qk, Ql, Qm, Qn, Qo, Qp, rb0, rb1, rb2, rb3, rb4, tf0, tf1, tf2, tf3, tf4, e8, e9]
        rw [← hE]
        exact hok k o m rfl hk rfl rfl h3 f3 (by omega) hk3
end Go.Proofs.YtmadjdgipfdnkaaDoor
end
