/- Lemmas of the claim: the machine of the proof and the walks of the program. Conditions: as each says. -/
import Derived.Test.YtmmjeifdgfolmaaG5
section
/- The answer's processes: Decode. Conditions: the words lie as the rule names. -/
namespace Go.Proofs.Ytmmjeifdgfolmaa
open Go.AM
open Nat renaming reduceBEq → Za, reduceEqDiff → Zb, reduceAdd → Zc, reduceSub → Zd, reduceMul → Ze, reduceLT → Zf, reduceLeDiff → Zg, reduceDiv → Zh, reduceMod → Zi, reducePow → Zj, blt_eq → ZF, zero_add → Qc, add_zero → Qd
open Int renaming reduceAdd → Zk, reduceSub → Zl, reduceMul → Zm, reduceLT → Zn, reduceLE → Zo, reduceEq → Zp, reduceNe → Zq, reduceNeg → Zr, reduceToNat → Zs, reduceDiv → Zt, reduceMod → Zu, reducePow → Zv, cast_ofNat_Int → Zw, toNat_natCast → Qb
open List renaming set_cons_zero → Zx, set_cons_succ → Zy, map_toArray → Zz, cons_append → ZA, nil_append → ZB, append_nil → ZC, all_cons → ZD, all_nil → ZE, getElem?_cons_zero → ZJ, getElem?_cons_succ → ZK, length_cons → ZL, length_nil → ZM, map_cons → ZN, map_nil → ZO, isEmpty_nil → Qe, any_cons → Qf, any_nil → Qg, drop_zero → Qk, drop_succ_cons → Ql, take_succ_cons → Qm, take_zero → Qn, take_nil → Qo, drop_nil → Qp
open Bool renaming and_true → ZG, true_and → ZH, and_self → ZI, not_true → ZT, not_false → ZU, true_eq_false → ZZ, false_eq_true → Qa, or_false → Qh, false_or → Qi, and_eq_true → Qj
open Option renaming map_some → ZP, map_none → ZQ, bind_some → ZR, getD_some → ZS, isNone_some → ZV, isNone_none → ZW, isSome_some → ZX, isSome_none → ZY
set_option linter.unusedSimpArgs false
variable {sp : Special} {h : Heap} {R : Out → Heap → Prop}
set_option maxRecDepth 100000 in
theorem p_fields : ∃ f0 f1 f2 : Field, Try.prog.underlying 69 = some (.struct #[f0, f1, f2]) ∧ f0.type = 3 ∧ f0.offset = 0 ∧ f1.type = 3 ∧ f1.offset = 1 ∧ f2.type = 3 ∧ f2.offset = 2 ∧ f0.name = "Is" ∧ f1.name = "Parent" ∧ f2.name = "Status" ∧ Try.prog.underlying 3 = some (.int .i64) := ⟨_, _, _, rfl, rfl, rfl, rfl, rfl, rfl, rfl, rfl, rfl, rfl, rfl⟩
theorem eq69 (x y : Operand) (a b c : Int) (g : Nat → Option Blk) : effBin Try.prog .eql 69 x y (.agg #[.int .i64 a, .int .i64 b, .int .i64 c]) (.agg #[.int .i64 0, .int .i64 0, .int .i64 0]) g = ret (.bool ((a == 0) && ((b == 0) && (c == 0)))) := by
  obtain ⟨f0, f1, f2, hu, e1, e2, e3, e4, e5, e6, n0, n1, n2, h3⟩ := p_fields
  have t3 : tyA Try.prog 3 = some false := by kernel_rfl
  have hne : f0 ≠ f1 ∧ f0 ≠ f2 ∧ f1 ≠ f2 := ⟨fun e => by rw [e, n1] at n0; revert n0; decide, fun e => by rw [e, n2] at n0; revert n0; decide, fun e => by rw [e, n2] at n1; revert n1; decide⟩
  refine (eff_eq2 (r := (a == 0) && ((b == 0) && (c == 0))) ?_ rfl rfl (by kernel_rfl) ?_).1
  · unfold eqArr; rw [hu]
  · have := ep_struct2 (d := 9999) (t := 69) (xs := #[.int .i64 a, .int .i64 b, .int .i64 c]) (ys := #[.int .i64 0, .int .i64 0, .int .i64 0]) (fun f => if f.offset = 0 then a == 0 else if f.offset = 1 then b == 0 else c == 0) hu (by kernel_rfl) (by
        intro f hf
        simp only [List.mem_cons, List.not_mem_nil, or_false] at hf
        rcases hf with rfl | rfl | rfl
        · rw [n0]; decide
        · rw [n1]; decide
        · rw [n2]; decide) (by
        intro f hf
        simp only [List.mem_cons, List.not_mem_nil, or_false] at hf
        rcases hf with rfl | rfl | rfl
        · rw [e1, e2]; exact ⟨_, _, ep_part_one t3 rfl, ep_part_one t3 rfl, ep_int2 h3⟩
        · rw [e3, e4]; exact ⟨_, _, ep_part_one t3 rfl, ep_part_one t3 rfl, ep_int2 h3⟩
        · rw [e5, e6]; exact ⟨_, _, ep_part_one t3 rfl, ep_part_one t3 rfl, ep_int2 h3⟩)
    rw [this]
    simp [e2, e4, e6]
def okb (W : List Int) (m : Int) : Bool :=
  if stI W m = 0 then (paI W m == 0) && (suI W m == 0)
  else if stI W m = 1 then (decide (paI W m = 0) || decide (stI W (paI W m) ≠ 0)) && decide (suI W m = 0)
  else (decide (paI W m = 0) || decide (stI W (paI W m) ≠ 0)) && (decide (1 ≤ paI W m ∧ paI W m ≤ 8) && decide (stI W (paI W m) = 1))
def accR (W : List Int) : Prop := W.length = 24 ∧ (∀ m : Int, 1 ≤ m → m < 9 → stW W m ≤ 2 ∧ paW W m ≤ 8) ∧ ∀ m : Int, 1 ≤ m → m < 9 → okb W m = true ∧ rootQ (paI W) 9 m = true
noncomputable def partR (W : List Int) (n : Nat) : List Value := (wI W).take (3 * n) ++ repeatL [.int .i64 0, .int .i64 0, .int .i64 0] (8 - n)
theorem partR_len {W : List Int} (hW : W.length = 24) {n : Nat} (hn : n ≤ 8) : (partR W n).length = 24 := by
  unfold partR
  rw [List.length_append, List.length_take, wI_len, length_repeatL]
  simp only [List.length_cons, List.length_nil]; omega
theorem partR_set {W : List Int} (hW : W.length = 24) {n : Nat} (hn : n < 8) : overL (partR W n) (n * 3) [.int .i64 (stI W ((n : Int) + 1)), .int .i64 (paI W ((n : Int) + 1)), .int .i64 (suI W ((n : Int) + 1))] = partR W (n + 1) := by
  obtain ⟨m, hm⟩ : ∃ m, 8 - n = m + 1 := ⟨8 - n - 1, by omega⟩
  have hA : ((wI W).take (3 * n)).length = n * 3 := by rw [List.length_take, wI_len]; omega
  have ht : (wI W).take (3 * (n + 1)) = (wI W).take (3 * n) ++ [.int .i64 (stI W ((n : Int) + 1)), .int .i64 (paI W ((n : Int) + 1)), .int .i64 (suI W ((n : Int) + 1))] := by
    have hl : (wI W).length = 24 := by rw [wI_len, hW]
    have c0 := wI_st hW hn
    have c1 := wI_pa hW hn
    have c2 := wI_su hW hn
    rw [List.getElem?_eq_getElem (by omega)] at c0 c1 c2
    simp only [Option.some.injEq] at c0 c1 c2
    rw [show 3 * (n + 1) = n * 3 + 1 + 1 + 1 by omega, show 3 * n = n * 3 by omega, List.take_succ_eq_append_getElem (by omega), List.take_succ_eq_append_getElem (by omega), List.take_succ_eq_append_getElem (by omega)]
    have c2' : (wI W)[n * 3 + 1 + 1] = .int .i64 (suI W ((n : Int) + 1)) := c2
    rw [c0, c1, c2']
    simp only [List.append_assoc, List.cons_append, List.nil_append]
  unfold partR
  rw [hm, ht, show 8 - (n + 1) = m by omega, ← hA]
  show overL ((wI W).take (3 * n) ++ ([.int .i64 0, .int .i64 0, .int .i64 0] ++ repeatL [.int .i64 0, .int .i64 0, .int .i64 0] m)) _ _ = _
  rw [← List.append_assoc]
  exact overL_mid _ _ _ _ rfl
theorem partR_full {W : List Int} (hW : W.length = 24) : partR W 8 = wI W := by
  unfold partR
  rw [List.take_of_length_le (by rw [wI_len]; omega)]
  show wI W ++ [] = _
  rw [List.append_nil]
set_option maxRecDepth 100000 in
theorem rpdecode_spec (h34 : (sp 34).isNone = true) (h35 : (sp 35).isNone = true) (h40 : (sp 40).isNone = true) (h43 : (sp 43).isNone = true) (h58 : (sp 58).isNone = true) (h59 : (sp 59).isNone = true) {v : Value} {W : List Int} (hv : Ro h h.nx v W) (hw : ∀ y ∈ W, 0 ≤ y ∧ y < 18446744073709551616)
    (hno : ∀ h', ¬ accR W → h.nx ≤ h'.nx → (∀ b, b < h.nx → h'.get b = h.get b) → R (.ret (.tuple #[.pointer none, .int .i64 101])) h')
    (hok : ∀ h' b, accR W → h.nx ≤ h'.nx → (∀ b, b < h.nx → h'.get b = h.get b) → R (.ret (.tuple #[.pointer (some ⟨b, 0, none⟩), .int .i64 0])) h') :
    WF Try.prog 0 sp 34 [v] h R := by
  refine wf_fn (fn := Try.f34) h34 rfl (by kernel_rfl) rfl ?_
  obtain ⟨a, c, rfl, hac, hx⟩ := hv.is
  by_cases h24 : W.length = 24
  case neg =>
    have h24' : ¬ (W.length : Int) = 24 := by omega
    simp only [↓reduceIte, reduceCtorEq, Za, Zb, Zc, Zd, Ze, Zf, Zg, Zh, Zi, Zj, Zk, Zl, Zm, Zn, Zo, Zp, Zq, Zr, Zs, Zt, Zu, Zv, gval, Zw, Zx, Zy, Zz, ZA, ZB, ZC, ZD, ZE, ZF, decide_eq_true_eq, ZG, ZH, ZI, ZJ, ZK, ZL, ZM, ZN, ZO, ZP, ZQ, ZR, ZS, Option.some.injEq, exists_eq_left', ZT, ZU, ZV, ZW, ZX, ZY, true_and, and_true, true_or, or_true, false_or, or_false, ite_true, ite_false, cond_true, cond_false, ZZ, Qa, if_true, if_false, decide_true, decide_false, Qb, Qc, Qd, Qe, Qf, Qg, Qh, Qi, Qj, Qk, Ql, Qm, Qn, Qo, Qp, rb0, rb1, rb2, rb3, rb4, tf0, tf1, tf2, tf3, tf4, Try.f34, h24']
    exact hno h (fun ha => h24 ha.1) (Nat.le_refl _) (fun _ _ => rfl)
  have h24' : (W.length : Int) = 24 := by omega
  rcases hx with hx | ⟨bw, off, X, hbw, rfl, hX, hXl, hXi⟩
  · omega
  have hXr : ∀ k : Nat, k < 24 → X[off + k]? = some (.int .u64 W[k]!) := fun k hk => by
    rw [hXi k (by omega), List.getElem?_eq_getElem (by omega), getElem!_pos W k (by omega)]; rfl
  have hm : ∀ k : Nat, k < 24 → (0 : Int) ≤ W[k]! ∧ W[k]! < 18446744073709551616 := fun k hk => by rw [getElem!_pos W k (by omega)]; exact hw _ (List.getElem_mem _)
  simp (disch := (first | omega | rfl | (simp only [Heap.nx_upd, Heap.nx_new]; omega))) only [↓reduceIte, reduceCtorEq, Za, Zb, Zc, Zd, Ze, Zf, Zg, Zh, Zi, Zj, Zk, Zl, Zm, Zn, Zo, Zp, Zq, Zr, Zs, Zt, Zu, Zv, gval, Zw, Zx, Zy, Zz, ZA, ZB, ZC, ZD, ZE, ZF, decide_eq_true_eq, ZG, ZH, ZI, ZJ, ZK, ZL, ZM, ZN, ZO, ZP, ZQ, ZR, ZS, Option.some.injEq, exists_eq_left', ZT, ZU, ZV, ZW, ZX, ZY, true_and, and_true, true_or, or_true, false_or, or_false, ite_true, ite_false, cond_true, cond_false, ZZ, Qa, if_true, if_false, decide_true, decide_false, Qb, Qc, Qd, Qe, Qf, Qg, Qh, Qi, Qj, Qk, Ql, Qm, Qn, Qo, Qp, rb0, rb1, rb2, rb3, rb4, tf0, tf1, tf2, tf3, tf4, Heap.get_upd_ne, Heap.get_new_ne, Heap.get_new_at, overL_one, if_pos, stX_exactN, Try.f34, h24']
  obtain ⟨h1, hh1⟩ : ∃ h1, h.new (cellsB (repeatL [.int .i64 0, .int .i64 0, .int .i64 0] 8) .exact) = h1 := ⟨_, rfl⟩
  have n1 : h1.nx = h.nx + 1 := by rw [← hh1, Heap.nx_new]
  have g1 : h1.get h.nx = some (cellsB (partR W 0) .exact) := by rw [← hh1, Heap.get_new_same]; rfl
  have k1 : ∀ b, b < h.nx → h1.get b = h.get b := fun b hb => by rw [← hh1, Heap.get_new_ne _ _ (by omega)]
  rw [hh1]
  refine run_loop2 rfl (fun m e h2 => ∃ n : Nat, m = 8 - n ∧ n ≤ 8 ∧ e.at 0 = .slice (some ⟨bw, off, none⟩) W.length c ∧ e.at 4 = .pointer (some ⟨h.nx, 0, none⟩) ∧ e.at 5 = .int .i64 n ∧ h2.get h.nx = some (cellsB (partR W n) .exact) ∧ h2.nx = h1.nx ∧ (∀ b, b < h.nx → h2.get b = h.get b) ∧ ∀ m : Int, 1 ≤ m → m ≤ n → stW W m ≤ 2 ∧ paW W m ≤ 8)
    (fun ex e h2 => h2.nx = h1.nx ∧ (∀ b, b < h.nx → h2.get b = h.get b) ∧ ((ex = .exit 0 ∧ e.at 0 = .slice (some ⟨bw, off, none⟩) W.length c ∧ e.at 4 = .pointer (some ⟨h.nx, 0, none⟩) ∧ h2.get h.nx = some (cellsB (wI W) .exact) ∧ ∀ m : Int, 1 ≤ m → m < 9 → stW W m ≤ 2 ∧ paW W m ≤ 8) ∨ (ex = .ret ∧ e.at 2 = .pointer none ∧ e.at 3 = .int .i64 101 ∧ ¬ accR W))) ?_ 8 _ _ ?_ ?_
  · rintro m e h2 ⟨n, rfl, hn8, e0, e4, e5, hg, hn2, hk2, hv2⟩ Q' hQn hQx
    by_cases hc : n < 8
    · have hc' : (n : Int) < 8 := by omega
      have w1 : wrapF .i64 (3 * (n : Int)) = ((3 * n : Nat) : Int) := by rw [wrapI (by omega) (by omega)]; omega
      have w2 : wrapF .i64 (((3 * n : Nat) : Int) + 3) = ((3 * n + 3 : Nat) : Int) := by rw [wrapI (by omega) (by omega)]; omega
      have wn : wrapF .i64 ((n : Int) + 1) = (n : Int) + 1 := wrapI (by omega) (by omega)
      have hX2 : h2.get bw = some (cellsB X .ro) := (hk2 bw hbw).trans hX
      have hmid := slS_mid (k := .i64) (k' := .i64) (n := W.length) (off := off) (c := c) (l := 3 * n) (hi := 3 * n + 3) hX2 (by omega) (by omega)
      rw [show 3 * n + 3 - 3 * n = 3 by omega] at hmid
      have hcn : ¬ c = 3 * n := by omega
      rw [if_neg hcn] at hmid
      have s1 : (3 * ((n : Int) + 1) - 3).toNat = 3 * n := by omega
      have s2 : (3 * ((n : Int) + 1) - 2).toNat = 3 * n + 1 := by omega
      have s3 : (3 * ((n : Int) + 1) - 1).toNat = 3 * n + 2 := by omega
      have x0 : X[off + 3 * n]? = some (.int .u64 (stW W ((n : Int) + 1))) := by unfold stW; rw [s1]; exact hXr _ (by omega)
      have x1 : X[off + 3 * n + 1]? = some (.int .u64 (paW W ((n : Int) + 1))) := by unfold paW; rw [s2, Nat.add_assoc]; exact hXr _ (by omega)
      have x2 : X[off + 3 * n + 2]? = some (.int .u64 (suW W ((n : Int) + 1))) := by unfold suW; rw [s3, Nat.add_assoc]; exact hXr _ (by omega)
      have hbad : ¬ (stW W ((n : Int) + 1) ≤ 2 ∧ paW W ((n : Int) + 1) ≤ 8) → ¬ accR W := fun q ha => q (ha.2.1 _ (by omega) (by omega))
      by_cases c1 : 2 < stW W ((n : Int) + 1)
      · simp (disch := (first | omega | rfl | (simp only [Heap.nx_upd, Heap.nx_new]; omega))) only [↓reduceIte, reduceCtorEq, Za, Zb, Zc, Zd, Ze, Zf, Zg, Zh, Zi, Zj, Zk, Zl, Zm, Zn, Zo, Zp, Zq, Zr, Zs, Zt, Zu, Zv, gval, Zw, Zx, Zy, Zz, ZA, ZB, ZC, ZD, ZE, ZF, decide_eq_true_eq, ZG, ZH, ZI, ZJ, ZK, ZL, ZM, ZN, ZO, ZP, ZQ, ZR, ZS, Option.some.injEq, exists_eq_left', ZT, ZU, ZV, ZW, ZX, ZY, true_and, and_true, true_or, or_true, false_or, or_false, ite_true, ite_false, cond_true, cond_false, ZZ, Qa, if_true, if_false, decide_true, decide_false, Qb, Qc, Qd, Qe, Qf, Qg, Qh, Qi, Qj, Qk, Ql, Qm, Qn, Qo, Qp, rb0, rb1, rb2, rb3, rb4, tf0, tf1, tf2, tf3, tf4, Heap.get_upd_ne, Heap.get_new_ne, Heap.get_new_at, overL_one, if_pos, stX_exactN, e0, e4, e5, hc', w1, w2, hmid, hX2, x0, c1]
        exact hQx _ _ _ (by simp) ⟨hn2, hk2, .inr ⟨rfl, by simp only [↓reduceIte, reduceCtorEq, Za, Zb, Zc, Zd, Ze, Zf, Zg, Zh, Zi, Zj, Zk, Zl, Zm, Zn, Zo, Zp, Zq, Zr, Zs, Zt, Zu, Zv, gval, Zw, Zx, Zy, Zz, ZA, ZB, ZC, ZD, ZE, ZF, decide_eq_true_eq, ZG, ZH, ZI, ZJ, ZK, ZL, ZM, ZN, ZO, ZP, ZQ, ZR, ZS, Option.some.injEq, exists_eq_left', ZT, ZU, ZV, ZW, ZX, ZY, true_and, and_true, true_or, or_true, false_or, or_false, ite_true, ite_false, cond_true, cond_false, ZZ, Qa, if_true, if_false, decide_true, decide_false, Qb, Qc, Qd, Qe, Qf, Qg, Qh, Qi, Qj, Qk, Ql, Qm, Qn, Qo, Qp, rb0, rb1, rb2, rb3, rb4, tf0, tf1, tf2, tf3, tf4], by simp only [↓reduceIte, reduceCtorEq, Za, Zb, Zc, Zd, Ze, Zf, Zg, Zh, Zi, Zj, Zk, Zl, Zm, Zn, Zo, Zp, Zq, Zr, Zs, Zt, Zu, Zv, gval, Zw, Zx, Zy, Zz, ZA, ZB, ZC, ZD, ZE, ZF, decide_eq_true_eq, ZG, ZH, ZI, ZJ, ZK, ZL, ZM, ZN, ZO, ZP, ZQ, ZR, ZS, Option.some.injEq, exists_eq_left', ZT, ZU, ZV, ZW, ZX, ZY, true_and, and_true, true_or, or_true, false_or, or_false, ite_true, ite_false, cond_true, cond_false, ZZ, Qa, if_true, if_false, decide_true, decide_false, Qb, Qc, Qd, Qe, Qf, Qg, Qh, Qi, Qj, Qk, Ql, Qm, Qn, Qo, Qp, rb0, rb1, rb2, rb3, rb4, tf0, tf1, tf2, tf3, tf4], hbad (by omega)⟩⟩
      by_cases c2 : 8 < paW W ((n : Int) + 1)
      · simp (disch := (first | omega | rfl | (simp only [Heap.nx_upd, Heap.nx_new]; omega))) only [↓reduceIte, reduceCtorEq, Za, Zb, Zc, Zd, Ze, Zf, Zg, Zh, Zi, Zj, Zk, Zl, Zm, Zn, Zo, Zp, Zq, Zr, Zs, Zt, Zu, Zv, gval, Zw, Zx, Zy, Zz, ZA, ZB, ZC, ZD, ZE, ZF, decide_eq_true_eq, ZG, ZH, ZI, ZJ, ZK, ZL, ZM, ZN, ZO, ZP, ZQ, ZR, ZS, Option.some.injEq, exists_eq_left', ZT, ZU, ZV, ZW, ZX, ZY, true_and, and_true, true_or, or_true, false_or, or_false, ite_true, ite_false, cond_true, cond_false, ZZ, Qa, if_true, if_false, decide_true, decide_false, Qb, Qc, Qd, Qe, Qf, Qg, Qh, Qi, Qj, Qk, Ql, Qm, Qn, Qo, Qp, rb0, rb1, rb2, rb3, rb4, tf0, tf1, tf2, tf3, tf4, Heap.get_upd_ne, Heap.get_new_ne, Heap.get_new_at, overL_one, if_pos, stX_exactN, e0, e4, e5, hc', w1, w2, hmid, hX2, x0, x1, c1, c2]
        exact hQx _ _ _ (by simp) ⟨hn2, hk2, .inr ⟨rfl, by simp only [↓reduceIte, reduceCtorEq, Za, Zb, Zc, Zd, Ze, Zf, Zg, Zh, Zi, Zj, Zk, Zl, Zm, Zn, Zo, Zp, Zq, Zr, Zs, Zt, Zu, Zv, gval, Zw, Zx, Zy, Zz, ZA, ZB, ZC, ZD, ZE, ZF, decide_eq_true_eq, ZG, ZH, ZI, ZJ, ZK, ZL, ZM, ZN, ZO, ZP, ZQ, ZR, ZS, Option.some.injEq, exists_eq_left', ZT, ZU, ZV, ZW, ZX, ZY, true_and, and_true, true_or, or_true, false_or, or_false, ite_true, ite_false, cond_true, cond_false, ZZ, Qa, if_true, if_false, decide_true, decide_false, Qb, Qc, Qd, Qe, Qf, Qg, Qh, Qi, Qj, Qk, Ql, Qm, Qn, Qo, Qp, rb0, rb1, rb2, rb3, rb4, tf0, tf1, tf2, tf3, tf4], by simp only [↓reduceIte, reduceCtorEq, Za, Zb, Zc, Zd, Ze, Zf, Zg, Zh, Zi, Zj, Zk, Zl, Zm, Zn, Zo, Zp, Zq, Zr, Zs, Zt, Zu, Zv, gval, Zw, Zx, Zy, Zz, ZA, ZB, ZC, ZD, ZE, ZF, decide_eq_true_eq, ZG, ZH, ZI, ZJ, ZK, ZL, ZM, ZN, ZO, ZP, ZQ, ZR, ZS, Option.some.injEq, exists_eq_left', ZT, ZU, ZV, ZW, ZX, ZY, true_and, and_true, true_or, or_true, false_or, or_false, ite_true, ite_false, cond_true, cond_false, ZZ, Qa, if_true, if_false, decide_true, decide_false, Qb, Qc, Qd, Qe, Qf, Qg, Qh, Qi, Qj, Qk, Ql, Qm, Qn, Qo, Qp, rb0, rb1, rb2, rb3, rb4, tf0, tf1, tf2, tf3, tf4], hbad (by omega)⟩⟩
      simp (disch := (first | omega | rfl | (simp only [Heap.nx_upd, Heap.nx_new]; omega))) only [↓reduceIte, reduceCtorEq, Za, Zb, Zc, Zd, Ze, Zf, Zg, Zh, Zi, Zj, Zk, Zl, Zm, Zn, Zo, Zp, Zq, Zr, Zs, Zt, Zu, Zv, gval, Zw, Zx, Zy, Zz, ZA, ZB, ZC, ZD, ZE, ZF, decide_eq_true_eq, ZG, ZH, ZI, ZJ, ZK, ZL, ZM, ZN, ZO, ZP, ZQ, ZR, ZS, Option.some.injEq, exists_eq_left', ZT, ZU, ZV, ZW, ZX, ZY, true_and, and_true, true_or, or_true, false_or, or_false, ite_true, ite_false, cond_true, cond_false, ZZ, Qa, if_true, if_false, decide_true, decide_false, Qb, Qc, Qd, Qe, Qf, Qg, Qh, Qi, Qj, Qk, Ql, Qm, Qn, Qo, Qp, rb0, rb1, rb2, rb3, rb4, tf0, tf1, tf2, tf3, tf4, Heap.get_upd_ne, Heap.get_new_ne, Heap.get_new_at, overL_one, if_pos, stX_exactN, e0, e4, e5, hc', w1, w2, hmid, hX2, x0, x1, c1, c2]
      refine run_draw (ps := [(5, 8), (4, 9), (5, 9), (5, 12), (9, 12), (4, 13), (5, 13), (8, 13), (9, 13)]) (by kernel_rfl) (by kernel_rfl) ?_
      have hpl := partR_len h24 hn8
      have hn3 : n * 3 + 3 ≤ 24 := by omega
      have hps := partR_set h24 hc
      unfold stI paI suI at hps
      simp (disch := (first | omega | rfl | (simp only [Heap.nx_upd, Heap.nx_new]; omega))) only [↓reduceIte, reduceCtorEq, Za, Zb, Zc, Zd, Ze, Zf, Zg, Zh, Zi, Zj, Zk, Zl, Zm, Zn, Zo, Zp, Zq, Zr, Zs, Zt, Zu, Zv, gval, Zw, Zx, Zy, Zz, ZA, ZB, ZC, ZD, ZE, ZF, decide_eq_true_eq, ZG, ZH, ZI, ZJ, ZK, ZL, ZM, ZN, ZO, ZP, ZQ, ZR, ZS, Option.some.injEq, exists_eq_left', ZT, ZU, ZV, ZW, ZX, ZY, true_and, and_true, true_or, or_true, false_or, or_false, ite_true, ite_false, cond_true, cond_false, ZZ, Qa, if_true, if_false, decide_true, decide_false, Qb, Qc, Qd, Qe, Qf, Qg, Qh, Qi, Qj, Qk, Ql, Qm, Qn, Qo, Qp, rb0, rb1, rb2, rb3, rb4, tf0, tf1, tf2, tf3, tf4, Heap.get_upd_ne, Heap.get_new_ne, Heap.get_new_at, overL_one, if_pos, stX_exactN, e0, e4, e5, hX2, x0, x1, x2, hg, hpl, hn3, nbeq_ne, hps, wn]
      refine hQn _ _ _ (by omega) ⟨n + 1, rfl, by omega, ?_, ?_, ?_, Heap.get_upd_same _ _ _, by rw [Heap.nx_upd]; exact hn2, fun b hb => by rw [Heap.get_upd_ne _ _ (by omega)]; exact hk2 b hb, fun m q1 q2 => ?_⟩
      · simp only [↓reduceIte, reduceCtorEq, Za, Zb, Zc, Zd, Ze, Zf, Zg, Zh, Zi, Zj, Zk, Zl, Zm, Zn, Zo, Zp, Zq, Zr, Zs, Zt, Zu, Zv, gval, Zw, Zx, Zy, Zz, ZA, ZB, ZC, ZD, ZE, ZF, decide_eq_true_eq, ZG, ZH, ZI, ZJ, ZK, ZL, ZM, ZN, ZO, ZP, ZQ, ZR, ZS, Option.some.injEq, exists_eq_left', ZT, ZU, ZV, ZW, ZX, ZY, true_and, and_true, true_or, or_true, false_or, or_false, ite_true, ite_false, cond_true, cond_false, ZZ, Qa, if_true, if_false, decide_true, decide_false, Qb, Qc, Qd, Qe, Qf, Qg, Qh, Qi, Qj, Qk, Ql, Qm, Qn, Qo, Qp, rb0, rb1, rb2, rb3, rb4, tf0, tf1, tf2, tf3, tf4, e0]
      · simp only [↓reduceIte, reduceCtorEq, Za, Zb, Zc, Zd, Ze, Zf, Zg, Zh, Zi, Zj, Zk, Zl, Zm, Zn, Zo, Zp, Zq, Zr, Zs, Zt, Zu, Zv, gval, Zw, Zx, Zy, Zz, ZA, ZB, ZC, ZD, ZE, ZF, decide_eq_true_eq, ZG, ZH, ZI, ZJ, ZK, ZL, ZM, ZN, ZO, ZP, ZQ, ZR, ZS, Option.some.injEq, exists_eq_left', ZT, ZU, ZV, ZW, ZX, ZY, true_and, and_true, true_or, or_true, false_or, or_false, ite_true, ite_false, cond_true, cond_false, ZZ, Qa, if_true, if_false, decide_true, decide_false, Qb, Qc, Qd, Qe, Qf, Qg, Qh, Qi, Qj, Qk, Ql, Qm, Qn, Qo, Qp, rb0, rb1, rb2, rb3, rb4, tf0, tf1, tf2, tf3, tf4, e4]
      · simp only [↓reduceIte, reduceCtorEq, Za, Zb, Zc, Zd, Ze, Zf, Zg, Zh, Zi, Zj, Zk, Zl, Zm, Zn, Zo, Zp, Zq, Zr, Zs, Zt, Zu, Zv, gval, Zw, Zx, Zy, Zz, ZA, ZB, ZC, ZD, ZE, ZF, decide_eq_true_eq, ZG, ZH, ZI, ZJ, ZK, ZL, ZM, ZN, ZO, ZP, ZQ, ZR, ZS, Option.some.injEq, exists_eq_left', ZT, ZU, ZV, ZW, ZX, ZY, true_and, and_true, true_or, or_true, false_or, or_false, ite_true, ite_false, cond_true, cond_false, ZZ, Qa, if_true, if_false, decide_true, decide_false, Qb, Qc, Qd, Qe, Qf, Qg, Qh, Qi, Qj, Qk, Ql, Qm, Qn, Qo, Qp, rb0, rb1, rb2, rb3, rb4, tf0, tf1, tf2, tf3, tf4]
        rfl
      · by_cases q : m ≤ n
        · exact hv2 m q1 q
        · obtain rfl : m = (n : Int) + 1 := by omega
          exact ⟨by omega, by omega⟩
    · obtain rfl : n = 8 := by omega
      simp (disch := (first | omega | rfl | (simp only [Heap.nx_upd, Heap.nx_new]; omega))) only [↓reduceIte, reduceCtorEq, Za, Zb, Zc, Zd, Ze, Zf, Zg, Zh, Zi, Zj, Zk, Zl, Zm, Zn, Zo, Zp, Zq, Zr, Zs, Zt, Zu, Zv, gval, Zw, Zx, Zy, Zz, ZA, ZB, ZC, ZD, ZE, ZF, decide_eq_true_eq, ZG, ZH, ZI, ZJ, ZK, ZL, ZM, ZN, ZO, ZP, ZQ, ZR, ZS, Option.some.injEq, exists_eq_left', ZT, ZU, ZV, ZW, ZX, ZY, true_and, and_true, true_or, or_true, false_or, or_false, ite_true, ite_false, cond_true, cond_false, ZZ, Qa, if_true, if_false, decide_true, decide_false, Qb, Qc, Qd, Qe, Qf, Qg, Qh, Qi, Qj, Qk, Ql, Qm, Qn, Qo, Qp, rb0, rb1, rb2, rb3, rb4, tf0, tf1, tf2, tf3, tf4, Heap.get_upd_ne, Heap.get_new_ne, Heap.get_new_at, overL_one, if_pos, stX_exactN, e5]
      exact hQx _ _ _ (by simp) ⟨hn2, hk2, .inl ⟨rfl, by simp only [↓reduceIte, reduceCtorEq, Za, Zb, Zc, Zd, Ze, Zf, Zg, Zh, Zi, Zj, Zk, Zl, Zm, Zn, Zo, Zp, Zq, Zr, Zs, Zt, Zu, Zv, gval, Zw, Zx, Zy, Zz, ZA, ZB, ZC, ZD, ZE, ZF, decide_eq_true_eq, ZG, ZH, ZI, ZJ, ZK, ZL, ZM, ZN, ZO, ZP, ZQ, ZR, ZS, Option.some.injEq, exists_eq_left', ZT, ZU, ZV, ZW, ZX, ZY, true_and, and_true, true_or, or_true, false_or, or_false, ite_true, ite_false, cond_true, cond_false, ZZ, Qa, if_true, if_false, decide_true, decide_false, Qb, Qc, Qd, Qe, Qf, Qg, Qh, Qi, Qj, Qk, Ql, Qm, Qn, Qo, Qp, rb0, rb1, rb2, rb3, rb4, tf0, tf1, tf2, tf3, tf4, e0], by simp only [↓reduceIte, reduceCtorEq, Za, Zb, Zc, Zd, Ze, Zf, Zg, Zh, Zi, Zj, Zk, Zl, Zm, Zn, Zo, Zp, Zq, Zr, Zs, Zt, Zu, Zv, gval, Zw, Zx, Zy, Zz, ZA, ZB, ZC, ZD, ZE, ZF, decide_eq_true_eq, ZG, ZH, ZI, ZJ, ZK, ZL, ZM, ZN, ZO, ZP, ZQ, ZR, ZS, Option.some.injEq, exists_eq_left', ZT, ZU, ZV, ZW, ZX, ZY, true_and, and_true, true_or, or_true, false_or, or_false, ite_true, ite_false, cond_true, cond_false, ZZ, Qa, if_true, if_false, decide_true, decide_false, Qb, Qc, Qd, Qe, Qf, Qg, Qh, Qi, Qj, Qk, Ql, Qm, Qn, Qo, Qp, rb0, rb1, rb2, rb3, rb4, tf0, tf1, tf2, tf3, tf4, e4], by rw [partR_full h24] at hg; exact hg, fun m q1 q2 => hv2 m q1 (by omega)⟩⟩
  · refine ⟨0, rfl, by omega, ?_, ?_, ?_, g1, rfl, k1, fun m q1 q2 => by omega⟩
    · simp only [↓reduceIte, reduceCtorEq, Za, Zb, Zc, Zd, Ze, Zf, Zg, Zh, Zi, Zj, Zk, Zl, Zm, Zn, Zo, Zp, Zq, Zr, Zs, Zt, Zu, Zv, gval, Zw, Zx, Zy, Zz, ZA, ZB, ZC, ZD, ZE, ZF, decide_eq_true_eq, ZG, ZH, ZI, ZJ, ZK, ZL, ZM, ZN, ZO, ZP, ZQ, ZR, ZS, Option.some.injEq, exists_eq_left', ZT, ZU, ZV, ZW, ZX, ZY, true_and, and_true, true_or, or_true, false_or, or_false, ite_true, ite_false, cond_true, cond_false, ZZ, Qa, if_true, if_false, decide_true, decide_false, Qb, Qc, Qd, Qe, Qf, Qg, Qh, Qi, Qj, Qk, Ql, Qm, Qn, Qo, Qp, rb0, rb1, rb2, rb3, rb4, tf0, tf1, tf2, tf3, tf4]
    · simp only [↓reduceIte, reduceCtorEq, Za, Zb, Zc, Zd, Ze, Zf, Zg, Zh, Zi, Zj, Zk, Zl, Zm, Zn, Zo, Zp, Zq, Zr, Zs, Zt, Zu, Zv, gval, Zw, Zx, Zy, Zz, ZA, ZB, ZC, ZD, ZE, ZF, decide_eq_true_eq, ZG, ZH, ZI, ZJ, ZK, ZL, ZM, ZN, ZO, ZP, ZQ, ZR, ZS, Option.some.injEq, exists_eq_left', ZT, ZU, ZV, ZW, ZX, ZY, true_and, and_true, true_or, or_true, false_or, or_false, ite_true, ite_false, cond_true, cond_false, ZZ, Qa, if_true, if_false, decide_true, decide_false, Qb, Qc, Qd, Qe, Qf, Qg, Qh, Qi, Qj, Qk, Ql, Qm, Qn, Qo, Qp, rb0, rb1, rb2, rb3, rb4, tf0, tf1, tf2, tf3, tf4]
    · simp only [↓reduceIte, reduceCtorEq, Za, Zb, Zc, Zd, Ze, Zf, Zg, Zh, Zi, Zj, Zk, Zl, Zm, Zn, Zo, Zp, Zq, Zr, Zs, Zt, Zu, Zv, gval, Zw, Zx, Zy, Zz, ZA, ZB, ZC, ZD, ZE, ZF, decide_eq_true_eq, ZG, ZH, ZI, ZJ, ZK, ZL, ZM, ZN, ZO, ZP, ZQ, ZR, ZS, Option.some.injEq, exists_eq_left', ZT, ZU, ZV, ZW, ZX, ZY, true_and, and_true, true_or, or_true, false_or, or_false, ite_true, ite_false, cond_true, cond_false, ZZ, Qa, if_true, if_false, decide_true, decide_false, Qb, Qc, Qd, Qe, Qf, Qg, Qh, Qi, Qj, Qk, Ql, Qm, Qn, Qo, Qp, rb0, rb1, rb2, rb3, rb4, tf0, tf1, tf2, tf3, tf4]
  · rintro ex e h2 - ⟨hn2, hk2, ⟨rfl, e0, e4, hg, hval⟩ | ⟨rfl, e2, e3, hna⟩⟩
    · simp only [↓reduceIte, reduceCtorEq, Za, Zb, Zc, Zd, Ze, Zf, Zg, Zh, Zi, Zj, Zk, Zl, Zm, Zn, Zo, Zp, Zq, Zr, Zs, Zt, Zu, Zv, gval, Zw, Zx, Zy, Zz, ZA, ZB, ZC, ZD, ZE, ZF, decide_eq_true_eq, ZG, ZH, ZI, ZJ, ZK, ZL, ZM, ZN, ZO, ZP, ZQ, ZR, ZS, Option.some.injEq, exists_eq_left', ZT, ZU, ZV, ZW, ZX, ZY, true_and, and_true, true_or, or_true, false_or, or_false, ite_true, ite_false, cond_true, cond_false, ZZ, Qa, if_true, if_false, decide_true, decide_false, Qb, Qc, Qd, Qe, Qf, Qg, Qh, Qi, Qj, Qk, Ql, Qm, Qn, Qo, Qp, rb0, rb1, rb2, rb3, rb4, tf0, tf1, tf2, tf3, tf4]
      have hl : (wI W).length = 24 := by rw [wI_len, h24]
      have hst : ∀ m : Int, 1 ≤ m → m < 9 → stI W m = stW W m ∧ 0 ≤ stI W m ∧ stI W m ≤ 2 := fun m q1 q2 => by
        have b1 := (hm (3 * m - 3).toNat (by omega)).1
        have b2 := (hval m q1 q2).1
        have b1 : 0 ≤ stW W m := b1
        have : stI W m = stW W m := by unfold stI; exact wrapI (by omega) (by omega)
        omega
      have hpa : ∀ m : Int, 1 ≤ m → m < 9 → 0 ≤ paI W m ∧ paI W m ≤ 8 := fun m q1 q2 => by
        have b1 := (hm (3 * m - 2).toNat (by omega)).1
        have b2 := (hval m q1 q2).2
        have b1 : 0 ≤ paW W m := b1
        have : paI W m = paW W m := by unfold paI; exact wrapI (by omega) (by omega)
        omega
      refine run_loop2 rfl (fun m e h3 => ∃ i : Nat, m = 8 - i ∧ i ≤ 8 ∧ e.at 0 = .slice (some ⟨bw, off, none⟩) W.length c ∧ e.at 4 = .pointer (some ⟨h.nx, 0, none⟩) ∧ e.at 7 = .int .i64 i ∧ h3.get h.nx = some (cellsB (wI W) .exact) ∧ h.nx < h3.nx ∧ (∀ b, b < h.nx → h3.get b = h.get b) ∧ ∀ m : Int, 1 ≤ m → m ≤ i → okb W m = true ∧ rootQ (paI W) 9 m = true)
        (fun ex e h3 => h.nx < h3.nx ∧ (∀ b, b < h.nx → h3.get b = h.get b) ∧ ((ex = .exit 2 ∧ e.at 0 = .slice (some ⟨bw, off, none⟩) W.length c ∧ e.at 4 = .pointer (some ⟨h.nx, 0, none⟩) ∧ h3.get h.nx = some (cellsB (wI W) .exact) ∧ ∀ m : Int, 1 ≤ m → m < 9 → okb W m = true ∧ rootQ (paI W) 9 m = true) ∨ (ex = .ret ∧ e.at 2 = .pointer none ∧ e.at 3 = .int .i64 101 ∧ ¬ accR W))) ?_ 8 _ _ ?_ ?_
      · rintro m e h3 ⟨i, rfl, hi8, f0, f4, f7, fg, fn, fk, fok⟩ Q' hQn hQx
        by_cases hc : i < 8
        · have hc' : (i : Int) < 8 := by omega
          have wi : wrapF .i64 ((i : Int) + 1) = (i : Int) + 1 := wrapI (by omega) (by omega)
          have hA3 : ((wI W).drop (i * 3)).take 3 = [.int .i64 (stI W ((i : Int) + 1)), .int .i64 (paI W ((i : Int) + 1)), .int .i64 (suI W ((i : Int) + 1))] := by
            apply List.ext_getElem?
            intro j
            match j with
            | 0 => rw [List.getElem?_take, if_pos (by omega), List.getElem?_drop, Nat.add_zero, wI_st h24 hc]; rfl
            | 1 => rw [List.getElem?_take, if_pos (by omega), List.getElem?_drop, wI_pa h24 hc]; rfl
            | 2 => rw [List.getElem?_take, if_pos (by omega), List.getElem?_drop, wI_su h24 hc]; rfl
            | j + 3 => rw [List.getElem?_take, if_neg (by omega)]; rfl
          have hi3 : i * 3 + 3 ≤ 24 := by omega
          obtain ⟨s, hs⟩ : ∃ s, stI W ((i : Int) + 1) = s := ⟨_, rfl⟩
          obtain ⟨p, hp⟩ : ∃ p, paI W ((i : Int) + 1) = p := ⟨_, rfl⟩
          obtain ⟨u, hu⟩ : ∃ u, suI W ((i : Int) + 1) = u := ⟨_, rfl⟩
          have hs2 := hst ((i : Int) + 1) (by omega) (by omega)
          have hp8 := hpa ((i : Int) + 1) (by omega) (by omega)
          rw [hs] at hs2
          rw [hp] at hp8
          rw [hs, hp, hu] at hA3
          simp (disch := (first | omega | rfl | (simp only [Heap.nx_upd, Heap.nx_new]; omega))) only [↓reduceIte, reduceCtorEq, Za, Zb, Zc, Zd, Ze, Zf, Zg, Zh, Zi, Zj, Zk, Zl, Zm, Zn, Zo, Zp, Zq, Zr, Zs, Zt, Zu, Zv, gval, Zw, Zx, Zy, Zz, ZA, ZB, ZC, ZD, ZE, ZF, decide_eq_true_eq, ZG, ZH, ZI, ZJ, ZK, ZL, ZM, ZN, ZO, ZP, ZQ, ZR, ZS, Option.some.injEq, exists_eq_left', ZT, ZU, ZV, ZW, ZX, ZY, true_and, and_true, true_or, or_true, false_or, or_false, ite_true, ite_false, cond_true, cond_false, ZZ, Qa, if_true, if_false, decide_true, decide_false, Qb, Qc, Qd, Qe, Qf, Qg, Qh, Qi, Qj, Qk, Ql, Qm, Qn, Qo, Qp, rb0, rb1, rb2, rb3, rb4, tf0, tf1, tf2, tf3, tf4, Heap.get_upd_ne, Heap.get_new_ne, Heap.get_new_at, overL_one, if_pos, stX_exactN, f0, f4, f7, hc', fg, hl, hA3, hi3]
          obtain ⟨h4, hh4⟩ : ∃ h4, (h3.new (cellsB [.int .i64 0, .int .i64 0, .int .i64 0] .exact)).upd h3.nx (cellsB [.int .i64 s, .int .i64 p, .int .i64 u] .exact) = h4 := ⟨_, rfl⟩
          have n4 : h4.nx = h3.nx + 1 := by rw [← hh4, Heap.nx_upd, Heap.nx_new]
          have g4 : h4.get h3.nx = some (cellsB [.int .i64 s, .int .i64 p, .int .i64 u] .exact) := by rw [← hh4, Heap.get_upd_same]
          have k4 : ∀ b, b < h3.nx → h4.get b = h3.get b := fun b hb => by rw [← hh4, Heap.get_upd_ne _ _ (by omega), Heap.get_new_ne _ _ (by omega)]
          have fg4 : h4.get h.nx = some (cellsB (wI W) .exact) := (k4 _ fn).trans fg
          have fk4 : ∀ b, b < h.nx → h4.get b = h.get b := fun b hb => (k4 b (by omega)).trans (fk b hb)
          rw [hh4]
          obtain ⟨okp, hokp⟩ : ∃ okp, (decide (p = 0) || decide (stI W p ≠ 0)) = okp := ⟨_, rfl⟩
          refine run_join (fun ex e' h' => ex = .normal ∧ h' = h4 ∧ e'.at 0 = .slice (some ⟨bw, off, none⟩) W.length c ∧ e'.at 4 = .pointer (some ⟨h.nx, 0, none⟩) ∧ e'.at 7 = .int .i64 i ∧ e'.at 8 = .pointer (some ⟨h3.nx, 0, none⟩) ∧ e'.at 9 = .bool okp) (fun Q2 hQ2 => ?_) ?_
          · refine run_draw (ps := []) (by kernel_rfl) (by kernel_rfl) ?_
            by_cases hp0 : p = 0
            · have : okp = true := by rw [← hokp, decide_eq_true hp0]; rfl
              subst this
              simp (disch := (first | omega | rfl | (simp only [Heap.nx_upd, Heap.nx_new]; omega))) only [↓reduceIte, reduceCtorEq, Za, Zb, Zc, Zd, Ze, Zf, Zg, Zh, Zi, Zj, Zk, Zl, Zm, Zn, Zo, Zp, Zq, Zr, Zs, Zt, Zu, Zv, gval, Zw, Zx, Zy, Zz, ZA, ZB, ZC, ZD, ZE, ZF, decide_eq_true_eq, ZG, ZH, ZI, ZJ, ZK, ZL, ZM, ZN, ZO, ZP, ZQ, ZR, ZS, Option.some.injEq, exists_eq_left', ZT, ZU, ZV, ZW, ZX, ZY, true_and, and_true, true_or, or_true, false_or, or_false, ite_true, ite_false, cond_true, cond_false, ZZ, Qa, if_true, if_false, decide_true, decide_false, Qb, Qc, Qd, Qe, Qf, Qg, Qh, Qi, Qj, Qk, Ql, Qm, Qn, Qo, Qp, rb0, rb1, rb2, rb3, rb4, tf0, tf1, tf2, tf3, tf4, Heap.get_upd_ne, Heap.get_new_ne, Heap.get_new_at, overL_one, if_pos, stX_exactN, f4, g4, hp0]
              exact hQ2 _ _ _ ⟨rfl, rfl, by simp only [↓reduceIte, reduceCtorEq, Za, Zb, Zc, Zd, Ze, Zf, Zg, Zh, Zi, Zj, Zk, Zl, Zm, Zn, Zo, Zp, Zq, Zr, Zs, Zt, Zu, Zv, gval, Zw, Zx, Zy, Zz, ZA, ZB, ZC, ZD, ZE, ZF, decide_eq_true_eq, ZG, ZH, ZI, ZJ, ZK, ZL, ZM, ZN, ZO, ZP, ZQ, ZR, ZS, Option.some.injEq, exists_eq_left', ZT, ZU, ZV, ZW, ZX, ZY, true_and, and_true, true_or, or_true, false_or, or_false, ite_true, ite_false, cond_true, cond_false, ZZ, Qa, if_true, if_false, decide_true, decide_false, Qb, Qc, Qd, Qe, Qf, Qg, Qh, Qi, Qj, Qk, Ql, Qm, Qn, Qo, Qp, rb0, rb1, rb2, rb3, rb4, tf0, tf1, tf2, tf3, tf4, f0], by simp only [↓reduceIte, reduceCtorEq, Za, Zb, Zc, Zd, Ze, Zf, Zg, Zh, Zi, Zj, Zk, Zl, Zm, Zn, Zo, Zp, Zq, Zr, Zs, Zt, Zu, Zv, gval, Zw, Zx, Zy, Zz, ZA, ZB, ZC, ZD, ZE, ZF, decide_eq_true_eq, ZG, ZH, ZI, ZJ, ZK, ZL, ZM, ZN, ZO, ZP, ZQ, ZR, ZS, Option.some.injEq, exists_eq_left', ZT, ZU, ZV, ZW, ZX, ZY, true_and, and_true, true_or, or_true, false_or, or_false, ite_true, ite_false, cond_true, cond_false, ZZ, Qa, if_true, if_false, decide_true, decide_false, Qb, Qc, Qd, Qe, Qf, Qg, Qh, Qi, Qj, Qk, Ql, Qm, Qn, Qo, Qp, rb0, rb1, rb2, rb3, rb4, tf0, tf1, tf2, tf3, tf4, f4], by simp only [↓reduceIte, reduceCtorEq, Za, Zb, Zc, Zd, Ze, Zf, Zg, Zh, Zi, Zj, Zk, Zl, Zm, Zn, Zo, Zp, Zq, Zr, Zs, Zt, Zu, Zv, gval, Zw, Zx, Zy, Zz, ZA, ZB, ZC, ZD, ZE, ZF, decide_eq_true_eq, ZG, ZH, ZI, ZJ, ZK, ZL, ZM, ZN, ZO, ZP, ZQ, ZR, ZS, Option.some.injEq, exists_eq_left', ZT, ZU, ZV, ZW, ZX, ZY, true_and, and_true, true_or, or_true, false_or, or_false, ite_true, ite_false, cond_true, cond_false, ZZ, Qa, if_true, if_false, decide_true, decide_false, Qb, Qc, Qd, Qe, Qf, Qg, Qh, Qi, Qj, Qk, Ql, Qm, Qn, Qo, Qp, rb0, rb1, rb2, rb3, rb4, tf0, tf1, tf2, tf3, tf4, f7], by simp only [↓reduceIte, reduceCtorEq, Za, Zb, Zc, Zd, Ze, Zf, Zg, Zh, Zi, Zj, Zk, Zl, Zm, Zn, Zo, Zp, Zq, Zr, Zs, Zt, Zu, Zv, gval, Zw, Zx, Zy, Zz, ZA, ZB, ZC, ZD, ZE, ZF, decide_eq_true_eq, ZG, ZH, ZI, ZJ, ZK, ZL, ZM, ZN, ZO, ZP, ZQ, ZR, ZS, Option.some.injEq, exists_eq_left', ZT, ZU, ZV, ZW, ZX, ZY, true_and, and_true, true_or, or_true, false_or, or_false, ite_true, ite_false, cond_true, cond_false, ZZ, Qa, if_true, if_false, decide_true, decide_false, Qb, Qc, Qd, Qe, Qf, Qg, Qh, Qi, Qj, Qk, Ql, Qm, Qn, Qo, Qp, rb0, rb1, rb2, rb3, rb4, tf0, tf1, tf2, tf3, tf4], by simp only [↓reduceIte, reduceCtorEq, Za, Zb, Zc, Zd, Ze, Zf, Zg, Zh, Zi, Zj, Zk, Zl, Zm, Zn, Zo, Zp, Zq, Zr, Zs, Zt, Zu, Zv, gval, Zw, Zx, Zy, Zz, ZA, ZB, ZC, ZD, ZE, ZF, decide_eq_true_eq, ZG, ZH, ZI, ZJ, ZK, ZL, ZM, ZN, ZO, ZP, ZQ, ZR, ZS, Option.some.injEq, exists_eq_left', ZT, ZU, ZV, ZW, ZX, ZY, true_and, and_true, true_or, or_true, false_or, or_false, ite_true, ite_false, cond_true, cond_false, ZZ, Qa, if_true, if_false, decide_true, decide_false, Qb, Qc, Qd, Qe, Qf, Qg, Qh, Qi, Qj, Qk, Ql, Qm, Qn, Qo, Qp, rb0, rb1, rb2, rb3, rb4, tf0, tf1, tf2, tf3, tf4]⟩
            · obtain ⟨q, hq⟩ : ∃ q : Nat, p = (q : Int) + 1 := ⟨(p - 1).toNat, by omega⟩
              have wq : wrapF .i64 (p - 1) = (q : Int) := by rw [wrapI (by omega) (by omega)]; omega
              have cq := wI_st h24 (i := q) (by omega)
              rw [← hq] at cq
              have hq8 : (q : Int) < 8 := by omega
              have hq3 : q * 3 < 24 := by omega
              by_cases hz : stI W p = 0
              · have : okp = false := by rw [← hokp, decide_eq_false hp0, decide_eq_false (by simpa using hz)]; rfl
                subst this
                simp (disch := (first | omega | rfl | (simp only [Heap.nx_upd, Heap.nx_new]; omega))) only [↓reduceIte, reduceCtorEq, Za, Zb, Zc, Zd, Ze, Zf, Zg, Zh, Zi, Zj, Zk, Zl, Zm, Zn, Zo, Zp, Zq, Zr, Zs, Zt, Zu, Zv, gval, Zw, Zx, Zy, Zz, ZA, ZB, ZC, ZD, ZE, ZF, decide_eq_true_eq, ZG, ZH, ZI, ZJ, ZK, ZL, ZM, ZN, ZO, ZP, ZQ, ZR, ZS, Option.some.injEq, exists_eq_left', ZT, ZU, ZV, ZW, ZX, ZY, true_and, and_true, true_or, or_true, false_or, or_false, ite_true, ite_false, cond_true, cond_false, ZZ, Qa, if_true, if_false, decide_true, decide_false, Qb, Qc, Qd, Qe, Qf, Qg, Qh, Qi, Qj, Qk, Ql, Qm, Qn, Qo, Qp, rb0, rb1, rb2, rb3, rb4, tf0, tf1, tf2, tf3, tf4, Heap.get_upd_ne, Heap.get_new_ne, Heap.get_new_at, overL_one, if_pos, stX_exactN, f4, g4, hp0, wq, fg4, cq, hq8, hq3, hl, hz]
                exact hQ2 _ _ _ ⟨rfl, rfl, by simp only [↓reduceIte, reduceCtorEq, Za, Zb, Zc, Zd, Ze, Zf, Zg, Zh, Zi, Zj, Zk, Zl, Zm, Zn, Zo, Zp, Zq, Zr, Zs, Zt, Zu, Zv, gval, Zw, Zx, Zy, Zz, ZA, ZB, ZC, ZD, ZE, ZF, decide_eq_true_eq, ZG, ZH, ZI, ZJ, ZK, ZL, ZM, ZN, ZO, ZP, ZQ, ZR, ZS, Option.some.injEq, exists_eq_left', ZT, ZU, ZV, ZW, ZX, ZY, true_and, and_true, true_or, or_true, false_or, or_false, ite_true, ite_false, cond_true, cond_false, ZZ, Qa, if_true, if_false, decide_true, decide_false, Qb, Qc, Qd, Qe, Qf, Qg, Qh, Qi, Qj, Qk, Ql, Qm, Qn, Qo, Qp, rb0, rb1, rb2, rb3, rb4, tf0, tf1, tf2, tf3, tf4, f0], by simp only [↓reduceIte, reduceCtorEq, Za, Zb, Zc, Zd, Ze, Zf, Zg, Zh, Zi, Zj, Zk, Zl, Zm, Zn, Zo, Zp, Zq, Zr, Zs, Zt, Zu, Zv, gval, Zw, Zx, Zy, Zz, ZA, ZB, ZC, ZD, ZE, ZF, decide_eq_true_eq, ZG, ZH, ZI, ZJ, ZK, ZL, ZM, ZN, ZO, ZP, ZQ, ZR, ZS, Option.some.injEq, exists_eq_left', ZT, ZU, ZV, ZW, ZX, ZY, true_and, and_true, true_or, or_true, false_or, or_false, ite_true, ite_false, cond_true, cond_false, ZZ, Qa, if_true, if_false, decide_true, decide_false, Qb, Qc, Qd, Qe, Qf, Qg, Qh, Qi, Qj, Qk, Ql, Qm, Qn, Qo, Qp, rb0, rb1, rb2, rb3, rb4, tf0, tf1, tf2, tf3, tf4, f4], by simp only [↓reduceIte, reduceCtorEq, Za, Zb, Zc, Zd, Ze, Zf, Zg, Zh, Zi, Zj, Zk, Zl, Zm, Zn, Zo, Zp, Zq, Zr, Zs, Zt, Zu, Zv, gval, Zw, Zx, Zy, Zz, ZA, ZB, ZC, ZD, ZE, ZF, decide_eq_true_eq, ZG, ZH, ZI, ZJ, ZK, ZL, ZM, ZN, ZO, ZP, ZQ, ZR, ZS, Option.some.injEq, exists_eq_left', ZT, ZU, ZV, ZW, ZX, ZY, true_and, and_true, true_or, or_true, false_or, or_false, ite_true, ite_false, cond_true, cond_false, ZZ, Qa, if_true, if_false, decide_true, decide_false, Qb, Qc, Qd, Qe, Qf, Qg, Qh, Qi, Qj, Qk, Ql, Qm, Qn, Qo, Qp, rb0, rb1, rb2, rb3, rb4, tf0, tf1, tf2, tf3, tf4, f7], by simp only [↓reduceIte, reduceCtorEq, Za, Zb, Zc, Zd, Ze, Zf, Zg, Zh, Zi, Zj, Zk, Zl, Zm, Zn, Zo, Zp, Zq, Zr, Zs, Zt, Zu, Zv, gval, Zw, Zx, Zy, Zz, ZA, ZB, ZC, ZD, ZE, ZF, decide_eq_true_eq, ZG, ZH, ZI, ZJ, ZK, ZL, ZM, ZN, ZO, ZP, ZQ, ZR, ZS, Option.some.injEq, exists_eq_left', ZT, ZU, ZV, ZW, ZX, ZY, true_and, and_true, true_or, or_true, false_or, or_false, ite_true, ite_false, cond_true, cond_false, ZZ, Qa, if_true, if_false, decide_true, decide_false, Qb, Qc, Qd, Qe, Qf, Qg, Qh, Qi, Qj, Qk, Ql, Qm, Qn, Qo, Qp, rb0, rb1, rb2, rb3, rb4, tf0, tf1, tf2, tf3, tf4], by simp only [↓reduceIte, reduceCtorEq, Za, Zb, Zc, Zd, Ze, Zf, Zg, Zh, Zi, Zj, Zk, Zl, Zm, Zn, Zo, Zp, Zq, Zr, Zs, Zt, Zu, Zv, gval, Zw, Zx, Zy, Zz, ZA, ZB, ZC, ZD, ZE, ZF, decide_eq_true_eq, ZG, ZH, ZI, ZJ, ZK, ZL, ZM, ZN, ZO, ZP, ZQ, ZR, ZS, Option.some.injEq, exists_eq_left', ZT, ZU, ZV, ZW, ZX, ZY, true_and, and_true, true_or, or_true, false_or, or_false, ite_true, ite_false, cond_true, cond_false, ZZ, Qa, if_true, if_false, decide_true, decide_false, Qb, Qc, Qd, Qe, Qf, Qg, Qh, Qi, Qj, Qk, Ql, Qm, Qn, Qo, Qp, rb0, rb1, rb2, rb3, rb4, tf0, tf1, tf2, tf3, tf4]⟩
              · have : okp = true := by rw [← hokp, decide_eq_true (show stI W p ≠ 0 from hz), Bool.or_true]
                subst this
                simp (disch := (first | omega | rfl | (simp only [Heap.nx_upd, Heap.nx_new]; omega))) only [↓reduceIte, reduceCtorEq, Za, Zb, Zc, Zd, Ze, Zf, Zg, Zh, Zi, Zj, Zk, Zl, Zm, Zn, Zo, Zp, Zq, Zr, Zs, Zt, Zu, Zv, gval, Zw, Zx, Zy, Zz, ZA, ZB, ZC, ZD, ZE, ZF, decide_eq_true_eq, ZG, ZH, ZI, ZJ, ZK, ZL, ZM, ZN, ZO, ZP, ZQ, ZR, ZS, Option.some.injEq, exists_eq_left', ZT, ZU, ZV, ZW, ZX, ZY, true_and, and_true, true_or, or_true, false_or, or_false, ite_true, ite_false, cond_true, cond_false, ZZ, Qa, if_true, if_false, decide_true, decide_false, Qb, Qc, Qd, Qe, Qf, Qg, Qh, Qi, Qj, Qk, Ql, Qm, Qn, Qo, Qp, rb0, rb1, rb2, rb3, rb4, tf0, tf1, tf2, tf3, tf4, Heap.get_upd_ne, Heap.get_new_ne, Heap.get_new_at, overL_one, if_pos, stX_exactN, f4, g4, hp0, wq, fg4, cq, hq8, hq3, hl, hz]
                exact hQ2 _ _ _ ⟨rfl, rfl, by simp only [↓reduceIte, reduceCtorEq, Za, Zb, Zc, Zd, Ze, Zf, Zg, Zh, Zi, Zj, Zk, Zl, Zm, Zn, Zo, Zp, Zq, Zr, Zs, Zt, Zu, Zv, gval, Zw, Zx, Zy, Zz, ZA, ZB, ZC, ZD, ZE, ZF, decide_eq_true_eq, ZG, ZH, ZI, ZJ, ZK, ZL, ZM, ZN, ZO, ZP, ZQ, ZR, ZS, Option.some.injEq, exists_eq_left', ZT, ZU, ZV, ZW, ZX, ZY, true_and, and_true, true_or, or_true, false_or, or_false, ite_true, ite_false, cond_true, cond_false, ZZ, Qa, if_true, if_false, decide_true, decide_false, Qb, Qc, Qd, Qe, Qf, Qg, Qh, Qi, Qj, Qk, Ql, Qm, Qn, Qo, Qp, rb0, rb1, rb2, rb3, rb4, tf0, tf1, tf2, tf3, tf4, f0], by simp only [↓reduceIte, reduceCtorEq, Za, Zb, Zc, Zd, Ze, Zf, Zg, Zh, Zi, Zj, Zk, Zl, Zm, Zn, Zo, Zp, Zq, Zr, Zs, Zt, Zu, Zv, gval, Zw, Zx, Zy, Zz, ZA, ZB, ZC, ZD, ZE, ZF, decide_eq_true_eq, ZG, ZH, ZI, ZJ, ZK, ZL, ZM, ZN, ZO, ZP, ZQ, ZR, ZS, Option.some.injEq, exists_eq_left', ZT, ZU, ZV, ZW, ZX, ZY, true_and, and_true, true_or, or_true, false_or, or_false, ite_true, ite_false, cond_true, cond_false, ZZ, Qa, if_true, if_false, decide_true, decide_false, Qb, Qc, Qd, Qe, Qf, Qg, Qh, Qi, Qj, Qk, Ql, Qm, Qn, Qo, Qp, rb0, rb1, rb2, rb3, rb4, tf0, tf1, tf2, tf3, tf4, f4], by simp only [↓reduceIte, reduceCtorEq, Za, Zb, Zc, Zd, Ze, Zf, Zg, Zh, Zi, Zj, Zk, Zl, Zm, Zn, Zo, Zp, Zq, Zr, Zs, Zt, Zu, Zv, gval, Zw, Zx, Zy, Zz, ZA, ZB, ZC, ZD, ZE, ZF, decide_eq_true_eq, ZG, ZH, ZI, ZJ, ZK, ZL, ZM, ZN, ZO, ZP, ZQ, ZR, ZS, Option.some.injEq, exists_eq_left', ZT, ZU, ZV, ZW, ZX, ZY, true_and, and_true, true_or, or_true, false_or, or_false, ite_true, ite_false, cond_true, cond_false, ZZ, Qa, if_true, if_false, decide_true, decide_false, Qb, Qc, Qd, Qe, Qf, Qg, Qh, Qi, Qj, Qk, Ql, Qm, Qn, Qo, Qp, rb0, rb1, rb2, rb3, rb4, tf0, tf1, tf2, tf3, tf4, f7], by simp only [↓reduceIte, reduceCtorEq, Za, Zb, Zc, Zd, Ze, Zf, Zg, Zh, Zi, Zj, Zk, Zl, Zm, Zn, Zo, Zp, Zq, Zr, Zs, Zt, Zu, Zv, gval, Zw, Zx, Zy, Zz, ZA, ZB, ZC, ZD, ZE, ZF, decide_eq_true_eq, ZG, ZH, ZI, ZJ, ZK, ZL, ZM, ZN, ZO, ZP, ZQ, ZR, ZS, Option.some.injEq, exists_eq_left', ZT, ZU, ZV, ZW, ZX, ZY, true_and, and_true, true_or, or_true, false_or, or_false, ite_true, ite_false, cond_true, cond_false, ZZ, Qa, if_true, if_false, decide_true, decide_false, Qb, Qc, Qd, Qe, Qf, Qg, Qh, Qi, Qj, Qk, Ql, Qm, Qn, Qo, Qp, rb0, rb1, rb2, rb3, rb4, tf0, tf1, tf2, tf3, tf4], by simp only [↓reduceIte, reduceCtorEq, Za, Zb, Zc, Zd, Ze, Zf, Zg, Zh, Zi, Zj, Zk, Zl, Zm, Zn, Zo, Zp, Zq, Zr, Zs, Zt, Zu, Zv, gval, Zw, Zx, Zy, Zz, ZA, ZB, ZC, ZD, ZE, ZF, decide_eq_true_eq, ZG, ZH, ZI, ZJ, ZK, ZL, ZM, ZN, ZO, ZP, ZQ, ZR, ZS, Option.some.injEq, exists_eq_left', ZT, ZU, ZV, ZW, ZX, ZY, true_and, and_true, true_or, or_true, false_or, or_false, ite_true, ite_false, cond_true, cond_false, ZZ, Qa, if_true, if_false, decide_true, decide_false, Qb, Qc, Qd, Qe, Qf, Qg, Qh, Qi, Qj, Qk, Ql, Qm, Qn, Qo, Qp, rb0, rb1, rb2, rb3, rb4, tf0, tf1, tf2, tf3, tf4]⟩
          · rintro ex e' h' ⟨rfl, rfl, e0, e4, e7, e8, e9⟩
            refine .xseq (.seq ?_)
            refine run_join (fun ex e2 h2 => ex = .normal ∧ h2 = h' ∧ e2.at 0 = .slice (some ⟨bw, off, none⟩) W.length c ∧ e2.at 4 = .pointer (some ⟨h.nx, 0, none⟩) ∧ e2.at 7 = .int .i64 i ∧ e2.at 9 = .bool (okb W ((i : Int) + 1))) (fun Q2 hQ2 => ?_) ?_
            · have hokb : okb W ((i : Int) + 1) = (if s = 0 then (p == 0) && (u == 0) else if s = 1 then okp && decide (u = 0) else okp && (decide (1 ≤ p ∧ p ≤ 8) && decide (stI W p = 1))) := by
                unfold okb
                rw [hs, hp, hu, hokp]
              have h3s : ([Value.int .i64 s, .int .i64 p, .int .i64 u] : List Value).length = 3 := rfl
              by_cases c0 : s = 0
              · subst c0
                rw [if_pos rfl] at hokb
                simp (disch := (first | omega | rfl | (simp only [Heap.nx_upd, Heap.nx_new]; omega))) only [↓reduceIte, reduceCtorEq, Za, Zb, Zc, Zd, Ze, Zf, Zg, Zh, Zi, Zj, Zk, Zl, Zm, Zn, Zo, Zp, Zq, Zr, Zs, Zt, Zu, Zv, gval, Zw, Zx, Zy, Zz, ZA, ZB, ZC, ZD, ZE, ZF, decide_eq_true_eq, ZG, ZH, ZI, ZJ, ZK, ZL, ZM, ZN, ZO, ZP, ZQ, ZR, ZS, Option.some.injEq, exists_eq_left', ZT, ZU, ZV, ZW, ZX, ZY, true_and, and_true, true_or, or_true, false_or, or_false, ite_true, ite_false, cond_true, cond_false, ZZ, Qa, if_true, if_false, decide_true, decide_false, Qb, Qc, Qd, Qe, Qf, Qg, Qh, Qi, Qj, Qk, Ql, Qm, Qn, Qo, Qp, rb0, rb1, rb2, rb3, rb4, tf0, tf1, tf2, tf3, tf4, Heap.get_upd_ne, Heap.get_new_ne, Heap.get_new_at, overL_one, if_pos, stX_exactN, e8, g4, eq69, beq_self_eq_true]
                exact hQ2 _ _ _ ⟨rfl, rfl, by simp only [↓reduceIte, reduceCtorEq, Za, Zb, Zc, Zd, Ze, Zf, Zg, Zh, Zi, Zj, Zk, Zl, Zm, Zn, Zo, Zp, Zq, Zr, Zs, Zt, Zu, Zv, gval, Zw, Zx, Zy, Zz, ZA, ZB, ZC, ZD, ZE, ZF, decide_eq_true_eq, ZG, ZH, ZI, ZJ, ZK, ZL, ZM, ZN, ZO, ZP, ZQ, ZR, ZS, Option.some.injEq, exists_eq_left', ZT, ZU, ZV, ZW, ZX, ZY, true_and, and_true, true_or, or_true, false_or, or_false, ite_true, ite_false, cond_true, cond_false, ZZ, Qa, if_true, if_false, decide_true, decide_false, Qb, Qc, Qd, Qe, Qf, Qg, Qh, Qi, Qj, Qk, Ql, Qm, Qn, Qo, Qp, rb0, rb1, rb2, rb3, rb4, tf0, tf1, tf2, tf3, tf4, e0], by simp only [↓reduceIte, reduceCtorEq, Za, Zb, Zc, Zd, Ze, Zf, Zg, Zh, Zi, Zj, Zk, Zl, Zm, Zn, Zo, Zp, Zq, Zr, Zs, Zt, Zu, Zv, gval, Zw, Zx, Zy, Zz, ZA, ZB, ZC, ZD, ZE, ZF, decide_eq_true_eq, ZG, ZH, ZI, ZJ, ZK, ZL, ZM, ZN, ZO, ZP, ZQ, ZR, ZS, Option.some.injEq, exists_eq_left', ZT, ZU, ZV, ZW, ZX, ZY, true_and, and_true, true_or, or_true, false_or, or_false, ite_true, ite_false, cond_true, cond_false, ZZ, Qa, if_true, if_false, decide_true, decide_false, Qb, Qc, Qd, Qe, Qf, Qg, Qh, Qi, Qj, Qk, Ql, Qm, Qn, Qo, Qp, rb0, rb1, rb2, rb3, rb4, tf0, tf1, tf2, tf3, tf4, e4], by simp only [↓reduceIte, reduceCtorEq, Za, Zb, Zc, Zd, Ze, Zf, Zg, Zh, Zi, Zj, Zk, Zl, Zm, Zn, Zo, Zp, Zq, Zr, Zs, Zt, Zu, Zv, gval, Zw, Zx, Zy, Zz, ZA, ZB, ZC, ZD, ZE, ZF, decide_eq_true_eq, ZG, ZH, ZI, ZJ, ZK, ZL, ZM, ZN, ZO, ZP, ZQ, ZR, ZS, Option.some.injEq, exists_eq_left', ZT, ZU, ZV, ZW, ZX, ZY, true_and, and_true, true_or, or_true, false_or, or_false, ite_true, ite_false, cond_true, cond_false, ZZ, Qa, if_true, if_false, decide_true, decide_false, Qb, Qc, Qd, Qe, Qf, Qg, Qh, Qi, Qj, Qk, Ql, Qm, Qn, Qo, Qp, rb0, rb1, rb2, rb3, rb4, tf0, tf1, tf2, tf3, tf4, e7], by simp only [↓reduceIte, reduceCtorEq, Za, Zb, Zc, Zd, Ze, Zf, Zg, Zh, Zi, Zj, Zk, Zl, Zm, Zn, Zo, Zp, Zq, Zr, Zs, Zt, Zu, Zv, gval, Zw, Zx, Zy, Zz, ZA, ZB, ZC, ZD, ZE, ZF, decide_eq_true_eq, ZG, ZH, ZI, ZJ, ZK, ZL, ZM, ZN, ZO, ZP, ZQ, ZR, ZS, Option.some.injEq, exists_eq_left', ZT, ZU, ZV, ZW, ZX, ZY, true_and, and_true, true_or, or_true, false_or, or_false, ite_true, ite_false, cond_true, cond_false, ZZ, Qa, if_true, if_false, decide_true, decide_false, Qb, Qc, Qd, Qe, Qf, Qg, Qh, Qi, Qj, Qk, Ql, Qm, Qn, Qo, Qp, rb0, rb1, rb2, rb3, rb4, tf0, tf1, tf2, tf3, tf4, hokb]⟩
              · rw [if_neg c0] at hokb
                by_cases c1 : s = 1
                · subst c1
                  rw [if_pos rfl] at hokb
                  cases okp with
                  | true =>
                    simp (disch := (first | omega | rfl | (simp only [Heap.nx_upd, Heap.nx_new]; omega))) only [↓reduceIte, reduceCtorEq, Za, Zb, Zc, Zd, Ze, Zf, Zg, Zh, Zi, Zj, Zk, Zl, Zm, Zn, Zo, Zp, Zq, Zr, Zs, Zt, Zu, Zv, gval, Zw, Zx, Zy, Zz, ZA, ZB, ZC, ZD, ZE, ZF, decide_eq_true_eq, ZG, ZH, ZI, ZJ, ZK, ZL, ZM, ZN, ZO, ZP, ZQ, ZR, ZS, Option.some.injEq, exists_eq_left', ZT, ZU, ZV, ZW, ZX, ZY, true_and, and_true, true_or, or_true, false_or, or_false, ite_true, ite_false, cond_true, cond_false, ZZ, Qa, if_true, if_false, decide_true, decide_false, Qb, Qc, Qd, Qe, Qf, Qg, Qh, Qi, Qj, Qk, Ql, Qm, Qn, Qo, Qp, rb0, rb1, rb2, rb3, rb4, tf0, tf1, tf2, tf3, tf4, Heap.get_upd_ne, Heap.get_new_ne, Heap.get_new_at, overL_one, if_pos, stX_exactN, e8, g4, e9]
                    exact hQ2 _ _ _ ⟨rfl, rfl, by simp only [↓reduceIte, reduceCtorEq, Za, Zb, Zc, Zd, Ze, Zf, Zg, Zh, Zi, Zj, Zk, Zl, Zm, Zn, Zo, Zp, Zq, Zr, Zs, Zt, Zu, Zv, gval, Zw, Zx, Zy, Zz, ZA, ZB, ZC, ZD, ZE, ZF, decide_eq_true_eq, ZG, ZH, ZI, ZJ, ZK, ZL, ZM, ZN, ZO, ZP, ZQ, ZR, ZS, Option.some.injEq, exists_eq_left', ZT, ZU, ZV, ZW, ZX, ZY, true_and, and_true, true_or, or_true, false_or, or_false, ite_true, ite_false, cond_true, cond_false, ZZ, Qa, if_true, if_false, decide_true, decide_false, Qb, Qc, Qd, Qe, Qf, Qg, Qh, Qi, Qj, Qk, Ql, Qm, Qn, Qo, Qp, rb0, rb1, rb2, rb3, rb4, tf0, tf1, tf2, tf3, tf4, e0], by simp only [↓reduceIte, reduceCtorEq, Za, Zb, Zc, Zd, Ze, Zf, Zg, Zh, Zi, Zj, Zk, Zl, Zm, Zn, Zo, Zp, Zq, Zr, Zs, Zt, Zu, Zv, gval, Zw, Zx, Zy, Zz, ZA, ZB, ZC, ZD, ZE, ZF, decide_eq_true_eq, ZG, ZH, ZI, ZJ, ZK, ZL, ZM, ZN, ZO, ZP, ZQ, ZR, ZS, Option.some.injEq, exists_eq_left', ZT, ZU, ZV, ZW, ZX, ZY, true_and, and_true, true_or, or_true, false_or, or_false, ite_true, ite_false, cond_true, cond_false, ZZ, Qa, if_true, if_false, decide_true, decide_false, Qb, Qc, Qd, Qe, Qf, Qg, Qh, Qi, Qj, Qk, Ql, Qm, Qn, Qo, Qp, rb0, rb1, rb2, rb3, rb4, tf0, tf1, tf2, tf3, tf4, e4], by simp only [↓reduceIte, reduceCtorEq, Za, Zb, Zc, Zd, Ze, Zf, Zg, Zh, Zi, Zj, Zk, Zl, Zm, Zn, Zo, Zp, Zq, Zr, Zs, Zt, Zu, Zv, gval, Zw, Zx, Zy, Zz, ZA, ZB, ZC, ZD, ZE, ZF, decide_eq_true_eq, ZG, ZH, ZI, ZJ, ZK, ZL, ZM, ZN, ZO, ZP, ZQ, ZR, ZS, Option.some.injEq, exists_eq_left', ZT, ZU, ZV, ZW, ZX, ZY, true_and, and_true, true_or, or_true, false_or, or_false, ite_true, ite_false, cond_true, cond_false, ZZ, Qa, if_true, if_false, decide_true, decide_false, Qb, Qc, Qd, Qe, Qf, Qg, Qh, Qi, Qj, Qk, Ql, Qm, Qn, Qo, Qp, rb0, rb1, rb2, rb3, rb4, tf0, tf1, tf2, tf3, tf4, e7], by simp only [↓reduceIte, reduceCtorEq, Za, Zb, Zc, Zd, Ze, Zf, Zg, Zh, Zi, Zj, Zk, Zl, Zm, Zn, Zo, Zp, Zq, Zr, Zs, Zt, Zu, Zv, gval, Zw, Zx, Zy, Zz, ZA, ZB, ZC, ZD, ZE, ZF, decide_eq_true_eq, ZG, ZH, ZI, ZJ, ZK, ZL, ZM, ZN, ZO, ZP, ZQ, ZR, ZS, Option.some.injEq, exists_eq_left', ZT, ZU, ZV, ZW, ZX, ZY, true_and, and_true, true_or, or_true, false_or, or_false, ite_true, ite_false, cond_true, cond_false, ZZ, Qa, if_true, if_false, decide_true, decide_false, Qb, Qc, Qd, Qe, Qf, Qg, Qh, Qi, Qj, Qk, Ql, Qm, Qn, Qo, Qp, rb0, rb1, rb2, rb3, rb4, tf0, tf1, tf2, tf3, tf4, hokb]⟩
                  | false =>
                    rw [Bool.false_and] at hokb
                    simp (disch := (first | omega | rfl | (simp only [Heap.nx_upd, Heap.nx_new]; omega))) only [↓reduceIte, reduceCtorEq, Za, Zb, Zc, Zd, Ze, Zf, Zg, Zh, Zi, Zj, Zk, Zl, Zm, Zn, Zo, Zp, Zq, Zr, Zs, Zt, Zu, Zv, gval, Zw, Zx, Zy, Zz, ZA, ZB, ZC, ZD, ZE, ZF, decide_eq_true_eq, ZG, ZH, ZI, ZJ, ZK, ZL, ZM, ZN, ZO, ZP, ZQ, ZR, ZS, Option.some.injEq, exists_eq_left', ZT, ZU, ZV, ZW, ZX, ZY, true_and, and_true, true_or, or_true, false_or, or_false, ite_true, ite_false, cond_true, cond_false, ZZ, Qa, if_true, if_false, decide_true, decide_false, Qb, Qc, Qd, Qe, Qf, Qg, Qh, Qi, Qj, Qk, Ql, Qm, Qn, Qo, Qp, rb0, rb1, rb2, rb3, rb4, tf0, tf1, tf2, tf3, tf4, Heap.get_upd_ne, Heap.get_new_ne, Heap.get_new_at, overL_one, if_pos, stX_exactN, e8, g4, e9]
                    exact hQ2 _ _ _ ⟨rfl, rfl, by simp only [↓reduceIte, reduceCtorEq, Za, Zb, Zc, Zd, Ze, Zf, Zg, Zh, Zi, Zj, Zk, Zl, Zm, Zn, Zo, Zp, Zq, Zr, Zs, Zt, Zu, Zv, gval, Zw, Zx, Zy, Zz, ZA, ZB, ZC, ZD, ZE, ZF, decide_eq_true_eq, ZG, ZH, ZI, ZJ, ZK, ZL, ZM, ZN, ZO, ZP, ZQ, ZR, ZS, Option.some.injEq, exists_eq_left', ZT, ZU, ZV, ZW, ZX, ZY, true_and, and_true, true_or, or_true, false_or, or_false, ite_true, ite_false, cond_true, cond_false, ZZ, Qa, if_true, if_false, decide_true, decide_false, Qb, Qc, Qd, Qe, Qf, Qg, Qh, Qi, Qj, Qk, Ql, Qm, Qn, Qo, Qp, rb0, rb1, rb2, rb3, rb4, tf0, tf1, tf2, tf3, tf4, e0], by simp only [↓reduceIte, reduceCtorEq, Za, Zb, Zc, Zd, Ze, Zf, Zg, Zh, Zi, Zj, Zk, Zl, Zm, Zn, Zo, Zp, Zq, Zr, Zs, Zt, Zu, Zv, gval, Zw, Zx, Zy, Zz, ZA, ZB, ZC, ZD, ZE, ZF, decide_eq_true_eq, ZG, ZH, ZI, ZJ, ZK, ZL, ZM, ZN, ZO, ZP, ZQ, ZR, ZS, Option.some.injEq, exists_eq_left', ZT, ZU, ZV, ZW, ZX, ZY, true_and, and_true, true_or, or_true, false_or, or_false, ite_true, ite_false, cond_true, cond_false, ZZ, Qa, if_true, if_false, decide_true, decide_false, Qb, Qc, Qd, Qe, Qf, Qg, Qh, Qi, Qj, Qk, Ql, Qm, Qn, Qo, Qp, rb0, rb1, rb2, rb3, rb4, tf0, tf1, tf2, tf3, tf4, e4], by simp only [↓reduceIte, reduceCtorEq, Za, Zb, Zc, Zd, Ze, Zf, Zg, Zh, Zi, Zj, Zk, Zl, Zm, Zn, Zo, Zp, Zq, Zr, Zs, Zt, Zu, Zv, gval, Zw, Zx, Zy, Zz, ZA, ZB, ZC, ZD, ZE, ZF, decide_eq_true_eq, ZG, ZH, ZI, ZJ, ZK, ZL, ZM, ZN, ZO, ZP, ZQ, ZR, ZS, Option.some.injEq, exists_eq_left', ZT, ZU, ZV, ZW, ZX, ZY, true_and, and_true, true_or, or_true, false_or, or_false, ite_true, ite_false, cond_true, cond_false, ZZ, Qa, if_true, if_false, decide_true, decide_false, Qb, Qc, Qd, Qe, Qf, Qg, Qh, Qi, Qj, Qk, Ql, Qm, Qn, Qo, Qp, rb0, rb1, rb2, rb3, rb4, tf0, tf1, tf2, tf3, tf4, e7], by simp only [↓reduceIte, reduceCtorEq, Za, Zb, Zc, Zd, Ze, Zf, Zg, Zh, Zi, Zj, Zk, Zl, Zm, Zn, Zo, Zp, Zq, Zr, Zs, Zt, Zu, Zv, gval, Zw, Zx, Zy, Zz, ZA, ZB, ZC, ZD, ZE, ZF, decide_eq_true_eq, ZG, ZH, ZI, ZJ, ZK, ZL, ZM, ZN, ZO, ZP, ZQ, ZR, ZS, Option.some.injEq, exists_eq_left', ZT, ZU, ZV, ZW, ZX, ZY, true_and, and_true, true_or, or_true, false_or, or_false, ite_true, ite_false, cond_true, cond_false, ZZ, Qa, if_true, if_false, decide_true, decide_false, Qb, Qc, Qd, Qe, Qf, Qg, Qh, Qi, Qj, Qk, Ql, Qm, Qn, Qo, Qp, rb0, rb1, rb2, rb3, rb4, tf0, tf1, tf2, tf3, tf4, hokb]⟩
                · rw [if_neg c1] at hokb
                  obtain rfl : s = 2 := by omega
                  cases okp with
                  | true =>
                    simp (disch := (first | omega | rfl | (simp only [Heap.nx_upd, Heap.nx_new]; omega))) only [↓reduceIte, reduceCtorEq, Za, Zb, Zc, Zd, Ze, Zf, Zg, Zh, Zi, Zj, Zk, Zl, Zm, Zn, Zo, Zp, Zq, Zr, Zs, Zt, Zu, Zv, gval, Zw, Zx, Zy, Zz, ZA, ZB, ZC, ZD, ZE, ZF, decide_eq_true_eq, ZG, ZH, ZI, ZJ, ZK, ZL, ZM, ZN, ZO, ZP, ZQ, ZR, ZS, Option.some.injEq, exists_eq_left', ZT, ZU, ZV, ZW, ZX, ZY, true_and, and_true, true_or, or_true, false_or, or_false, ite_true, ite_false, cond_true, cond_false, ZZ, Qa, if_true, if_false, decide_true, decide_false, Qb, Qc, Qd, Qe, Qf, Qg, Qh, Qi, Qj, Qk, Ql, Qm, Qn, Qo, Qp, rb0, rb1, rb2, rb3, rb4, tf0, tf1, tf2, tf3, tf4, Heap.get_upd_ne, Heap.get_new_ne, Heap.get_new_at, overL_one, if_pos, stX_exactN, e8, g4, e9, e4]
                    refine runC_of (rlive_spec h40 h59 h24 fg4 ?_)
                    simp only [↓reduceIte, reduceCtorEq, Za, Zb, Zc, Zd, Ze, Zf, Zg, Zh, Zi, Zj, Zk, Zl, Zm, Zn, Zo, Zp, Zq, Zr, Zs, Zt, Zu, Zv, gval, Zw, Zx, Zy, Zz, ZA, ZB, ZC, ZD, ZE, ZF, decide_eq_true_eq, ZG, ZH, ZI, ZJ, ZK, ZL, ZM, ZN, ZO, ZP, ZQ, ZR, ZS, Option.some.injEq, exists_eq_left', ZT, ZU, ZV, ZW, ZX, ZY, true_and, and_true, true_or, or_true, false_or, or_false, ite_true, ite_false, cond_true, cond_false, ZZ, Qa, if_true, if_false, decide_true, decide_false, Qb, Qc, Qd, Qe, Qf, Qg, Qh, Qi, Qj, Qk, Ql, Qm, Qn, Qo, Qp, rb0, rb1, rb2, rb3, rb4, tf0, tf1, tf2, tf3, tf4]
                    exact hQ2 _ _ _ ⟨rfl, rfl, by simp only [↓reduceIte, reduceCtorEq, Za, Zb, Zc, Zd, Ze, Zf, Zg, Zh, Zi, Zj, Zk, Zl, Zm, Zn, Zo, Zp, Zq, Zr, Zs, Zt, Zu, Zv, gval, Zw, Zx, Zy, Zz, ZA, ZB, ZC, ZD, ZE, ZF, decide_eq_true_eq, ZG, ZH, ZI, ZJ, ZK, ZL, ZM, ZN, ZO, ZP, ZQ, ZR, ZS, Option.some.injEq, exists_eq_left', ZT, ZU, ZV, ZW, ZX, ZY, true_and, and_true, true_or, or_true, false_or, or_false, ite_true, ite_false, cond_true, cond_false, ZZ, Qa, if_true, if_false, decide_true, decide_false, Qb, Qc, Qd, Qe, Qf, Qg, Qh, Qi, Qj, Qk, Ql, Qm, Qn, Qo, Qp, rb0, rb1, rb2, rb3, rb4, tf0, tf1, tf2, tf3, tf4, e0], by simp only [↓reduceIte, reduceCtorEq, Za, Zb, Zc, Zd, Ze, Zf, Zg, Zh, Zi, Zj, Zk, Zl, Zm, Zn, Zo, Zp, Zq, Zr, Zs, Zt, Zu, Zv, gval, Zw, Zx, Zy, Zz, ZA, ZB, ZC, ZD, ZE, ZF, decide_eq_true_eq, ZG, ZH, ZI, ZJ, ZK, ZL, ZM, ZN, ZO, ZP, ZQ, ZR, ZS, Option.some.injEq, exists_eq_left', ZT, ZU, ZV, ZW, ZX, ZY, true_and, and_true, true_or, or_true, false_or, or_false, ite_true, ite_false, cond_true, cond_false, ZZ, Qa, if_true, if_false, decide_true, decide_false, Qb, Qc, Qd, Qe, Qf, Qg, Qh, Qi, Qj, Qk, Ql, Qm, Qn, Qo, Qp, rb0, rb1, rb2, rb3, rb4, tf0, tf1, tf2, tf3, tf4, e4], by simp only [↓reduceIte, reduceCtorEq, Za, Zb, Zc, Zd, Ze, Zf, Zg, Zh, Zi, Zj, Zk, Zl, Zm, Zn, Zo, Zp, Zq, Zr, Zs, Zt, Zu, Zv, gval, Zw, Zx, Zy, Zz, ZA, ZB, ZC, ZD, ZE, ZF, decide_eq_true_eq, ZG, ZH, ZI, ZJ, ZK, ZL, ZM, ZN, ZO, ZP, ZQ, ZR, ZS, Option.some.injEq, exists_eq_left', ZT, ZU, ZV, ZW, ZX, ZY, true_and, and_true, true_or, or_true, false_or, or_false, ite_true, ite_false, cond_true, cond_false, ZZ, Qa, if_true, if_false, decide_true, decide_false, Qb, Qc, Qd, Qe, Qf, Qg, Qh, Qi, Qj, Qk, Ql, Qm, Qn, Qo, Qp, rb0, rb1, rb2, rb3, rb4, tf0, tf1, tf2, tf3, tf4, e7], by simp only [↓reduceIte, reduceCtorEq, Za, Zb, Zc, Zd, Ze, Zf, Zg, Zh, Zi, Zj, Zk, Zl, Zm, Zn, Zo, Zp, Zq, Zr, Zs, Zt, Zu, Zv, gval, Zw, Zx, Zy, Zz, ZA, ZB, ZC, ZD, ZE, ZF, decide_eq_true_eq, ZG, ZH, ZI, ZJ, ZK, ZL, ZM, ZN, ZO, ZP, ZQ, ZR, ZS, Option.some.injEq, exists_eq_left', ZT, ZU, ZV, ZW, ZX, ZY, true_and, and_true, true_or, or_true, false_or, or_false, ite_true, ite_false, cond_true, cond_false, ZZ, Qa, if_true, if_false, decide_true, decide_false, Qb, Qc, Qd, Qe, Qf, Qg, Qh, Qi, Qj, Qk, Ql, Qm, Qn, Qo, Qp, rb0, rb1, rb2, rb3, rb4, tf0, tf1, tf2, tf3, tf4, hokb]⟩
                  | false =>
                    rw [Bool.false_and] at hokb
                    simp (disch := (first | omega | rfl | (simp only [Heap.nx_upd, Heap.nx_new]; omega))) only [↓reduceIte, reduceCtorEq, Za, Zb, Zc, Zd, Ze, Zf, Zg, Zh, Zi, Zj, Zk, Zl, Zm, Zn, Zo, Zp, Zq, Zr, Zs, Zt, Zu, Zv, gval, Zw, Zx, Zy, Zz, ZA, ZB, ZC, ZD, ZE, ZF, decide_eq_true_eq, ZG, ZH, ZI, ZJ, ZK, ZL, ZM, ZN, ZO, ZP, ZQ, ZR, ZS, Option.some.injEq, exists_eq_left', ZT, ZU, ZV, ZW, ZX, ZY, true_and, and_true, true_or, or_true, false_or, or_false, ite_true, ite_false, cond_true, cond_false, ZZ, Qa, if_true, if_false, decide_true, decide_false, Qb, Qc, Qd, Qe, Qf, Qg, Qh, Qi, Qj, Qk, Ql, Qm, Qn, Qo, Qp, rb0, rb1, rb2, rb3, rb4, tf0, tf1, tf2, tf3, tf4, Heap.get_upd_ne, Heap.get_new_ne, Heap.get_new_at, overL_one, if_pos, stX_exactN, e8, g4, e9, e4]
                    exact hQ2 _ _ _ ⟨rfl, rfl, by simp only [↓reduceIte, reduceCtorEq, Za, Zb, Zc, Zd, Ze, Zf, Zg, Zh, Zi, Zj, Zk, Zl, Zm, Zn, Zo, Zp, Zq, Zr, Zs, Zt, Zu, Zv, gval, Zw, Zx, Zy, Zz, ZA, ZB, ZC, ZD, ZE, ZF, decide_eq_true_eq, ZG, ZH, ZI, ZJ, ZK, ZL, ZM, ZN, ZO, ZP, ZQ, ZR, ZS, Option.some.injEq, exists_eq_left', ZT, ZU, ZV, ZW, ZX, ZY, true_and, and_true, true_or, or_true, false_or, or_false, ite_true, ite_false, cond_true, cond_false, ZZ, Qa, if_true, if_false, decide_true, decide_false, Qb, Qc, Qd, Qe, Qf, Qg, Qh, Qi, Qj, Qk, Ql, Qm, Qn, Qo, Qp, rb0, rb1, rb2, rb3, rb4, tf0, tf1, tf2, tf3, tf4, e0], by simp only [↓reduceIte, reduceCtorEq, Za, Zb, Zc, Zd, Ze, Zf, Zg, Zh, Zi, Zj, Zk, Zl, Zm, Zn, Zo, Zp, Zq, Zr, Zs, Zt, Zu, Zv, gval, Zw, Zx, Zy, Zz, ZA, ZB, ZC, ZD, ZE, ZF, decide_eq_true_eq, ZG, ZH, ZI, ZJ, ZK, ZL, ZM, ZN, ZO, ZP, ZQ, ZR, ZS, Option.some.injEq, exists_eq_left', ZT, ZU, ZV, ZW, ZX, ZY, true_and, and_true, true_or, or_true, false_or, or_false, ite_true, ite_false, cond_true, cond_false, ZZ, Qa, if_true, if_false, decide_true, decide_false, Qb, Qc, Qd, Qe, Qf, Qg, Qh, Qi, Qj, Qk, Ql, Qm, Qn, Qo, Qp, rb0, rb1, rb2, rb3, rb4, tf0, tf1, tf2, tf3, tf4, e4], by simp only [↓reduceIte, reduceCtorEq, Za, Zb, Zc, Zd, Ze, Zf, Zg, Zh, Zi, Zj, Zk, Zl, Zm, Zn, Zo, Zp, Zq, Zr, Zs, Zt, Zu, Zv, gval, Zw, Zx, Zy, Zz, ZA, ZB, ZC, ZD, ZE, ZF, decide_eq_true_eq, ZG, ZH, ZI, ZJ, ZK, ZL, ZM, ZN, ZO, ZP, ZQ, ZR, ZS, Option.some.injEq, exists_eq_left', ZT, ZU, ZV, ZW, ZX, ZY, true_and, and_true, true_or, or_true, false_or, or_false, ite_true, ite_false, cond_true, cond_false, ZZ, Qa, if_true, if_false, decide_true, decide_false, Qb, Qc, Qd, Qe, Qf, Qg, Qh, Qi, Qj, Qk, Ql, Qm, Qn, Qo, Qp, rb0, rb1, rb2, rb3, rb4, tf0, tf1, tf2, tf3, tf4, e7], by simp only [↓reduceIte, reduceCtorEq, Za, Zb, Zc, Zd, Ze, Zf, Zg, Zh, Zi, Zj, Zk, Zl, Zm, Zn, Zo, Zp, Zq, Zr, Zs, Zt, Zu, Zv, gval, Zw, Zx, Zy, Zz, ZA, ZB, ZC, ZD, ZE, ZF, decide_eq_true_eq, ZG, ZH, ZI, ZJ, ZK, ZL, ZM, ZN, ZO, ZP, ZQ, ZR, ZS, Option.some.injEq, exists_eq_left', ZT, ZU, ZV, ZW, ZX, ZY, true_and, and_true, true_or, or_true, false_or, or_false, ite_true, ite_false, cond_true, cond_false, ZZ, Qa, if_true, if_false, decide_true, decide_false, Qb, Qc, Qd, Qe, Qf, Qg, Qh, Qi, Qj, Qk, Ql, Qm, Qn, Qo, Qp, rb0, rb1, rb2, rb3, rb4, tf0, tf1, tf2, tf3, tf4, hokb]⟩
            · rintro ex e2 h2 ⟨rfl, rfl, y0, y4, y7, y9⟩
              cases hB : okb W ((i : Int) + 1) with
              | false =>
                rw [hB] at y9
                simp only [↓reduceIte, reduceCtorEq, Za, Zb, Zc, Zd, Ze, Zf, Zg, Zh, Zi, Zj, Zk, Zl, Zm, Zn, Zo, Zp, Zq, Zr, Zs, Zt, Zu, Zv, gval, Zw, Zx, Zy, Zz, ZA, ZB, ZC, ZD, ZE, ZF, decide_eq_true_eq, ZG, ZH, ZI, ZJ, ZK, ZL, ZM, ZN, ZO, ZP, ZQ, ZR, ZS, Option.some.injEq, exists_eq_left', ZT, ZU, ZV, ZW, ZX, ZY, true_and, and_true, true_or, or_true, false_or, or_false, ite_true, ite_false, cond_true, cond_false, ZZ, Qa, if_true, if_false, decide_true, decide_false, Qb, Qc, Qd, Qe, Qf, Qg, Qh, Qi, Qj, Qk, Ql, Qm, Qn, Qo, Qp, rb0, rb1, rb2, rb3, rb4, tf0, tf1, tf2, tf3, tf4, y9]
                exact hQx _ _ _ (by simp) ⟨by omega, fk4, .inr ⟨rfl, by simp only [↓reduceIte, reduceCtorEq, Za, Zb, Zc, Zd, Ze, Zf, Zg, Zh, Zi, Zj, Zk, Zl, Zm, Zn, Zo, Zp, Zq, Zr, Zs, Zt, Zu, Zv, gval, Zw, Zx, Zy, Zz, ZA, ZB, ZC, ZD, ZE, ZF, decide_eq_true_eq, ZG, ZH, ZI, ZJ, ZK, ZL, ZM, ZN, ZO, ZP, ZQ, ZR, ZS, Option.some.injEq, exists_eq_left', ZT, ZU, ZV, ZW, ZX, ZY, true_and, and_true, true_or, or_true, false_or, or_false, ite_true, ite_false, cond_true, cond_false, ZZ, Qa, if_true, if_false, decide_true, decide_false, Qb, Qc, Qd, Qe, Qf, Qg, Qh, Qi, Qj, Qk, Ql, Qm, Qn, Qo, Qp, rb0, rb1, rb2, rb3, rb4, tf0, tf1, tf2, tf3, tf4], by simp only [↓reduceIte, reduceCtorEq, Za, Zb, Zc, Zd, Ze, Zf, Zg, Zh, Zi, Zj, Zk, Zl, Zm, Zn, Zo, Zp, Zq, Zr, Zs, Zt, Zu, Zv, gval, Zw, Zx, Zy, Zz, ZA, ZB, ZC, ZD, ZE, ZF, decide_eq_true_eq, ZG, ZH, ZI, ZJ, ZK, ZL, ZM, ZN, ZO, ZP, ZQ, ZR, ZS, Option.some.injEq, exists_eq_left', ZT, ZU, ZV, ZW, ZX, ZY, true_and, and_true, true_or, or_true, false_or, or_false, ite_true, ite_false, cond_true, cond_false, ZZ, Qa, if_true, if_false, decide_true, decide_false, Qb, Qc, Qd, Qe, Qf, Qg, Qh, Qi, Qj, Qk, Ql, Qm, Qn, Qo, Qp, rb0, rb1, rb2, rb3, rb4, tf0, tf1, tf2, tf3, tf4], fun ha => by have := (ha.2.2 ((i : Int) + 1) (by omega) (by omega)).1; rw [hB] at this; cases this⟩⟩
              | true =>
                rw [hB] at y9
                simp only [↓reduceIte, reduceCtorEq, Za, Zb, Zc, Zd, Ze, Zf, Zg, Zh, Zi, Zj, Zk, Zl, Zm, Zn, Zo, Zp, Zq, Zr, Zs, Zt, Zu, Zv, gval, Zw, Zx, Zy, Zz, ZA, ZB, ZC, ZD, ZE, ZF, decide_eq_true_eq, ZG, ZH, ZI, ZJ, ZK, ZL, ZM, ZN, ZO, ZP, ZQ, ZR, ZS, Option.some.injEq, exists_eq_left', ZT, ZU, ZV, ZW, ZX, ZY, true_and, and_true, true_or, or_true, false_or, or_false, ite_true, ite_false, cond_true, cond_false, ZZ, Qa, if_true, if_false, decide_true, decide_false, Qb, Qc, Qd, Qe, Qf, Qg, Qh, Qi, Qj, Qk, Ql, Qm, Qn, Qo, Qp, rb0, rb1, rb2, rb3, rb4, tf0, tf1, tf2, tf3, tf4, y9, y4, y7, wi]
                refine runC_of (root_spec h58 h24 hpa fg4 (by omega) ?_)
                cases hr : rootQ (paI W) 9 ((i : Int) + 1) with
                | false =>
                  simp only [↓reduceIte, reduceCtorEq, Za, Zb, Zc, Zd, Ze, Zf, Zg, Zh, Zi, Zj, Zk, Zl, Zm, Zn, Zo, Zp, Zq, Zr, Zs, Zt, Zu, Zv, gval, Zw, Zx, Zy, Zz, ZA, ZB, ZC, ZD, ZE, ZF, decide_eq_true_eq, ZG, ZH, ZI, ZJ, ZK, ZL, ZM, ZN, ZO, ZP, ZQ, ZR, ZS, Option.some.injEq, exists_eq_left', ZT, ZU, ZV, ZW, ZX, ZY, true_and, and_true, true_or, or_true, false_or, or_false, ite_true, ite_false, cond_true, cond_false, ZZ, Qa, if_true, if_false, decide_true, decide_false, Qb, Qc, Qd, Qe, Qf, Qg, Qh, Qi, Qj, Qk, Ql, Qm, Qn, Qo, Qp, rb0, rb1, rb2, rb3, rb4, tf0, tf1, tf2, tf3, tf4]
                  exact hQx _ _ _ (by simp) ⟨by omega, fk4, .inr ⟨rfl, by simp only [↓reduceIte, reduceCtorEq, Za, Zb, Zc, Zd, Ze, Zf, Zg, Zh, Zi, Zj, Zk, Zl, Zm, Zn, Zo, Zp, Zq, Zr, Zs, Zt, Zu, Zv, gval, Zw, Zx, Zy, Zz, ZA, ZB, ZC, ZD, ZE, ZF, decide_eq_true_eq, ZG, ZH, ZI, ZJ, ZK, ZL, ZM, ZN, ZO, ZP, ZQ, ZR, ZS, Option.some.injEq, exists_eq_left', ZT, ZU, ZV, ZW, ZX, ZY, true_and, and_true, true_or, or_true, false_or, or_false, ite_true, ite_false, cond_true, cond_false, ZZ, Qa, if_true, if_false, decide_true, decide_false, Qb, Qc, Qd, Qe, Qf, Qg, Qh, Qi, Qj, Qk, Ql, Qm, Qn, Qo, Qp, rb0, rb1, rb2, rb3, rb4, tf0, tf1, tf2, tf3, tf4], by simp only [↓reduceIte, reduceCtorEq, Za, Zb, Zc, Zd, Ze, Zf, Zg, Zh, Zi, Zj, Zk, Zl, Zm, Zn, Zo, Zp, Zq, Zr, Zs, Zt, Zu, Zv, gval, Zw, Zx, Zy, Zz, ZA, ZB, ZC, ZD, ZE, ZF, decide_eq_true_eq, ZG, ZH, ZI, ZJ, ZK, ZL, ZM, ZN, ZO, ZP, ZQ, ZR, ZS, Option.some.injEq, exists_eq_left', ZT, ZU, ZV, ZW, ZX, ZY, true_and, and_true, true_or, or_true, false_or, or_false, ite_true, ite_false, cond_true, cond_false, ZZ, Qa, if_true, if_false, decide_true, decide_false, Qb, Qc, Qd, Qe, Qf, Qg, Qh, Qi, Qj, Qk, Ql, Qm, Qn, Qo, Qp, rb0, rb1, rb2, rb3, rb4, tf0, tf1, tf2, tf3, tf4], fun ha => by have := (ha.2.2 ((i : Int) + 1) (by omega) (by omega)).2; rw [hr] at this; cases this⟩⟩
                | true =>
                  simp only [↓reduceIte, reduceCtorEq, Za, Zb, Zc, Zd, Ze, Zf, Zg, Zh, Zi, Zj, Zk, Zl, Zm, Zn, Zo, Zp, Zq, Zr, Zs, Zt, Zu, Zv, gval, Zw, Zx, Zy, Zz, ZA, ZB, ZC, ZD, ZE, ZF, decide_eq_true_eq, ZG, ZH, ZI, ZJ, ZK, ZL, ZM, ZN, ZO, ZP, ZQ, ZR, ZS, Option.some.injEq, exists_eq_left', ZT, ZU, ZV, ZW, ZX, ZY, true_and, and_true, true_or, or_true, false_or, or_false, ite_true, ite_false, cond_true, cond_false, ZZ, Qa, if_true, if_false, decide_true, decide_false, Qb, Qc, Qd, Qe, Qf, Qg, Qh, Qi, Qj, Qk, Ql, Qm, Qn, Qo, Qp, rb0, rb1, rb2, rb3, rb4, tf0, tf1, tf2, tf3, tf4, y7, wi]
                  refine hQn _ _ _ (by omega) ⟨i + 1, rfl, by omega, ?_, ?_, ?_, fg4, by omega, fk4, fun m q1 q2 => ?_⟩
                  · simp only [↓reduceIte, reduceCtorEq, Za, Zb, Zc, Zd, Ze, Zf, Zg, Zh, Zi, Zj, Zk, Zl, Zm, Zn, Zo, Zp, Zq, Zr, Zs, Zt, Zu, Zv, gval, Zw, Zx, Zy, Zz, ZA, ZB, ZC, ZD, ZE, ZF, decide_eq_true_eq, ZG, ZH, ZI, ZJ, ZK, ZL, ZM, ZN, ZO, ZP, ZQ, ZR, ZS, Option.some.injEq, exists_eq_left', ZT, ZU, ZV, ZW, ZX, ZY, true_and, and_true, true_or, or_true, false_or, or_false, ite_true, ite_false, cond_true, cond_false, ZZ, Qa, if_true, if_false, decide_true, decide_false, Qb, Qc, Qd, Qe, Qf, Qg, Qh, Qi, Qj, Qk, Ql, Qm, Qn, Qo, Qp, rb0, rb1, rb2, rb3, rb4, tf0, tf1, tf2, tf3, tf4, y0]
                  · simp only [↓reduceIte, reduceCtorEq, Za, Zb, Zc, Zd, Ze, Zf, Zg, Zh, Zi, Zj, Zk, Zl, Zm, Zn, Zo, Zp, Zq, Zr, Zs, Zt, Zu, Zv, gval, Zw, Zx, Zy, Zz, ZA, ZB, ZC, ZD, ZE, ZF, decide_eq_true_eq, ZG, ZH, ZI, ZJ, ZK, ZL, ZM, ZN, ZO, ZP, ZQ, ZR, ZS, Option.some.injEq, exists_eq_left', ZT, ZU, ZV, ZW, ZX, ZY, true_and, and_true, true_or, or_true, false_or, or_false, ite_true, ite_false, cond_true, cond_false, ZZ, Qa, if_true, if_false, decide_true, decide_false, Qb, Qc, Qd, Qe, Qf, Qg, Qh, Qi, Qj, Qk, Ql, Qm, Qn, Qo, Qp, rb0, rb1, rb2, rb3, rb4, tf0, tf1, tf2, tf3, tf4, y4]
                  · simp only [↓reduceIte, reduceCtorEq, Za, Zb, Zc, Zd, Ze, Zf, Zg, Zh, Zi, Zj, Zk, Zl, Zm, Zn, Zo, Zp, Zq, Zr, Zs, Zt, Zu, Zv, gval, Zw, Zx, Zy, Zz, ZA, ZB, ZC, ZD, ZE, ZF, decide_eq_true_eq, ZG, ZH, ZI, ZJ, ZK, ZL, ZM, ZN, ZO, ZP, ZQ, ZR, ZS, Option.some.injEq, exists_eq_left', ZT, ZU, ZV, ZW, ZX, ZY, true_and, and_true, true_or, or_true, false_or, or_false, ite_true, ite_false, cond_true, cond_false, ZZ, Qa, if_true, if_false, decide_true, decide_false, Qb, Qc, Qd, Qe, Qf, Qg, Qh, Qi, Qj, Qk, Ql, Qm, Qn, Qo, Qp, rb0, rb1, rb2, rb3, rb4, tf0, tf1, tf2, tf3, tf4]
                    rfl
                  · by_cases q : m ≤ i
                    · exact fok m q1 q
                    · obtain rfl : m = (i : Int) + 1 := by omega
                      exact ⟨hB, hr⟩
        · obtain rfl : i = 8 := by omega
          simp (disch := (first | omega | rfl | (simp only [Heap.nx_upd, Heap.nx_new]; omega))) only [↓reduceIte, reduceCtorEq, Za, Zb, Zc, Zd, Ze, Zf, Zg, Zh, Zi, Zj, Zk, Zl, Zm, Zn, Zo, Zp, Zq, Zr, Zs, Zt, Zu, Zv, gval, Zw, Zx, Zy, Zz, ZA, ZB, ZC, ZD, ZE, ZF, decide_eq_true_eq, ZG, ZH, ZI, ZJ, ZK, ZL, ZM, ZN, ZO, ZP, ZQ, ZR, ZS, Option.some.injEq, exists_eq_left', ZT, ZU, ZV, ZW, ZX, ZY, true_and, and_true, true_or, or_true, false_or, or_false, ite_true, ite_false, cond_true, cond_false, ZZ, Qa, if_true, if_false, decide_true, decide_false, Qb, Qc, Qd, Qe, Qf, Qg, Qh, Qi, Qj, Qk, Ql, Qm, Qn, Qo, Qp, rb0, rb1, rb2, rb3, rb4, tf0, tf1, tf2, tf3, tf4, Heap.get_upd_ne, Heap.get_new_ne, Heap.get_new_at, overL_one, if_pos, stX_exactN, f7]
          exact hQx _ _ _ (by simp) ⟨fn, fk, .inl ⟨rfl, by simp only [↓reduceIte, reduceCtorEq, Za, Zb, Zc, Zd, Ze, Zf, Zg, Zh, Zi, Zj, Zk, Zl, Zm, Zn, Zo, Zp, Zq, Zr, Zs, Zt, Zu, Zv, gval, Zw, Zx, Zy, Zz, ZA, ZB, ZC, ZD, ZE, ZF, decide_eq_true_eq, ZG, ZH, ZI, ZJ, ZK, ZL, ZM, ZN, ZO, ZP, ZQ, ZR, ZS, Option.some.injEq, exists_eq_left', ZT, ZU, ZV, ZW, ZX, ZY, true_and, and_true, true_or, or_true, false_or, or_false, ite_true, ite_false, cond_true, cond_false, ZZ, Qa, if_true, if_false, decide_true, decide_false, Qb, Qc, Qd, Qe, Qf, Qg, Qh, Qi, Qj, Qk, Ql, Qm, Qn, Qo, Qp, rb0, rb1, rb2, rb3, rb4, tf0, tf1, tf2, tf3, tf4, f0], by simp only [↓reduceIte, reduceCtorEq, Za, Zb, Zc, Zd, Ze, Zf, Zg, Zh, Zi, Zj, Zk, Zl, Zm, Zn, Zo, Zp, Zq, Zr, Zs, Zt, Zu, Zv, gval, Zw, Zx, Zy, Zz, ZA, ZB, ZC, ZD, ZE, ZF, decide_eq_true_eq, ZG, ZH, ZI, ZJ, ZK, ZL, ZM, ZN, ZO, ZP, ZQ, ZR, ZS, Option.some.injEq, exists_eq_left', ZT, ZU, ZV, ZW, ZX, ZY, true_and, and_true, true_or, or_true, false_or, or_false, ite_true, ite_false, cond_true, cond_false, ZZ, Qa, if_true, if_false, decide_true, decide_false, Qb, Qc, Qd, Qe, Qf, Qg, Qh, Qi, Qj, Qk, Ql, Qm, Qn, Qo, Qp, rb0, rb1, rb2, rb3, rb4, tf0, tf1, tf2, tf3, tf4, f4], fg, fun m q1 q2 => fok m q1 (by omega)⟩⟩
      · refine ⟨0, rfl, by omega, ?_, ?_, ?_, hg, by omega, hk2, fun m q1 q2 => by omega⟩
        · simp only [↓reduceIte, reduceCtorEq, Za, Zb, Zc, Zd, Ze, Zf, Zg, Zh, Zi, Zj, Zk, Zl, Zm, Zn, Zo, Zp, Zq, Zr, Zs, Zt, Zu, Zv, gval, Zw, Zx, Zy, Zz, ZA, ZB, ZC, ZD, ZE, ZF, decide_eq_true_eq, ZG, ZH, ZI, ZJ, ZK, ZL, ZM, ZN, ZO, ZP, ZQ, ZR, ZS, Option.some.injEq, exists_eq_left', ZT, ZU, ZV, ZW, ZX, ZY, true_and, and_true, true_or, or_true, false_or, or_false, ite_true, ite_false, cond_true, cond_false, ZZ, Qa, if_true, if_false, decide_true, decide_false, Qb, Qc, Qd, Qe, Qf, Qg, Qh, Qi, Qj, Qk, Ql, Qm, Qn, Qo, Qp, rb0, rb1, rb2, rb3, rb4, tf0, tf1, tf2, tf3, tf4, e0]
        · simp only [↓reduceIte, reduceCtorEq, Za, Zb, Zc, Zd, Ze, Zf, Zg, Zh, Zi, Zj, Zk, Zl, Zm, Zn, Zo, Zp, Zq, Zr, Zs, Zt, Zu, Zv, gval, Zw, Zx, Zy, Zz, ZA, ZB, ZC, ZD, ZE, ZF, decide_eq_true_eq, ZG, ZH, ZI, ZJ, ZK, ZL, ZM, ZN, ZO, ZP, ZQ, ZR, ZS, Option.some.injEq, exists_eq_left', ZT, ZU, ZV, ZW, ZX, ZY, true_and, and_true, true_or, or_true, false_or, or_false, ite_true, ite_false, cond_true, cond_false, ZZ, Qa, if_true, if_false, decide_true, decide_false, Qb, Qc, Qd, Qe, Qf, Qg, Qh, Qi, Qj, Qk, Ql, Qm, Qn, Qo, Qp, rb0, rb1, rb2, rb3, rb4, tf0, tf1, tf2, tf3, tf4, e4]
        · simp only [↓reduceIte, reduceCtorEq, Za, Zb, Zc, Zd, Ze, Zf, Zg, Zh, Zi, Zj, Zk, Zl, Zm, Zn, Zo, Zp, Zq, Zr, Zs, Zt, Zu, Zv, gval, Zw, Zx, Zy, Zz, ZA, ZB, ZC, ZD, ZE, ZF, decide_eq_true_eq, ZG, ZH, ZI, ZJ, ZK, ZL, ZM, ZN, ZO, ZP, ZQ, ZR, ZS, Option.some.injEq, exists_eq_left', ZT, ZU, ZV, ZW, ZX, ZY, true_and, and_true, true_or, or_true, false_or, or_false, ite_true, ite_false, cond_true, cond_false, ZZ, Qa, if_true, if_false, decide_true, decide_false, Qb, Qc, Qd, Qe, Qf, Qg, Qh, Qi, Qj, Qk, Ql, Qm, Qn, Qo, Qp, rb0, rb1, rb2, rb3, rb4, tf0, tf1, tf2, tf3, tf4]
      · rintro ex e h3 - ⟨fn, fk, ⟨rfl, f0, f4, fg, fok⟩ | ⟨rfl, e2, e3, hna⟩⟩
        · simp only [↓reduceIte, reduceCtorEq, Za, Zb, Zc, Zd, Ze, Zf, Zg, Zh, Zi, Zj, Zk, Zl, Zm, Zn, Zo, Zp, Zq, Zr, Zs, Zt, Zu, Zv, gval, Zw, Zx, Zy, Zz, ZA, ZB, ZC, ZD, ZE, ZF, decide_eq_true_eq, ZG, ZH, ZI, ZJ, ZK, ZL, ZM, ZN, ZO, ZP, ZQ, ZR, ZS, Option.some.injEq, exists_eq_left', ZT, ZU, ZV, ZW, ZX, ZY, true_and, and_true, true_or, or_true, false_or, or_false, ite_true, ite_false, cond_true, cond_false, ZZ, Qa, if_true, if_false, decide_true, decide_false, Qb, Qc, Qd, Qe, Qf, Qg, Qh, Qi, Qj, Qk, Ql, Qm, Qn, Qo, Qp, rb0, rb1, rb2, rb3, rb4, tf0, tf1, tf2, tf3, tf4, f4]
          refine runC_of (rpencode_spec h43 h24 hw fg fn fun h5 ve hwe hn5 hk5 => ?_)
          simp only [↓reduceIte, reduceCtorEq, Za, Zb, Zc, Zd, Ze, Zf, Zg, Zh, Zi, Zj, Zk, Zl, Zm, Zn, Zo, Zp, Zq, Zr, Zs, Zt, Zu, Zv, gval, Zw, Zx, Zy, Zz, ZA, ZB, ZC, ZD, ZE, ZF, decide_eq_true_eq, ZG, ZH, ZI, ZJ, ZK, ZL, ZM, ZN, ZO, ZP, ZQ, ZR, ZS, Option.some.injEq, exists_eq_left', ZT, ZU, ZV, ZW, ZX, ZY, true_and, and_true, true_or, or_true, false_or, or_false, ite_true, ite_false, cond_true, cond_false, ZZ, Qa, if_true, if_false, decide_true, decide_false, Qb, Qc, Qd, Qe, Qf, Qg, Qh, Qi, Qj, Qk, Ql, Qm, Qn, Qo, Qp, rb0, rb1, rb2, rb3, rb4, tf0, tf1, tf2, tf3, tf4, f0]
          have hv5 : Ro h5 h.nx (.slice (some ⟨bw, off, none⟩) W.length c) W := hv.keep (h' := h5) fun b' hb' => by rw [hk5 b' (by omega), fk b' hb']
          refine runC_of (words_spec h35 hwe (hv5.words (by omega)) (fun t ht => ?_) (by omega))
          obtain rfl : t = true := ht.2 rfl
          simp only [↓reduceIte, reduceCtorEq, Za, Zb, Zc, Zd, Ze, Zf, Zg, Zh, Zi, Zj, Zk, Zl, Zm, Zn, Zo, Zp, Zq, Zr, Zs, Zt, Zu, Zv, gval, Zw, Zx, Zy, Zz, ZA, ZB, ZC, ZD, ZE, ZF, decide_eq_true_eq, ZG, ZH, ZI, ZJ, ZK, ZL, ZM, ZN, ZO, ZP, ZQ, ZR, ZS, Option.some.injEq, exists_eq_left', ZT, ZU, ZV, ZW, ZX, ZY, true_and, and_true, true_or, or_true, false_or, or_false, ite_true, ite_false, cond_true, cond_false, ZZ, Qa, if_true, if_false, decide_true, decide_false, Qb, Qc, Qd, Qe, Qf, Qg, Qh, Qi, Qj, Qk, Ql, Qm, Qn, Qo, Qp, rb0, rb1, rb2, rb3, rb4, tf0, tf1, tf2, tf3, tf4, f4]
          exact hok h5 _ ⟨h24, hval, fok⟩ (by omega) fun b hb => by rw [hk5 b (by omega), fk b hb]
        · simp only [↓reduceIte, reduceCtorEq, Za, Zb, Zc, Zd, Ze, Zf, Zg, Zh, Zi, Zj, Zk, Zl, Zm, Zn, Zo, Zp, Zq, Zr, Zs, Zt, Zu, Zv, gval, Zw, Zx, Zy, Zz, ZA, ZB, ZC, ZD, ZE, ZF, decide_eq_true_eq, ZG, ZH, ZI, ZJ, ZK, ZL, ZM, ZN, ZO, ZP, ZQ, ZR, ZS, Option.some.injEq, exists_eq_left', ZT, ZU, ZV, ZW, ZX, ZY, true_and, and_true, true_or, or_true, false_or, or_false, ite_true, ite_false, cond_true, cond_false, ZZ, Qa, if_true, if_false, decide_true, decide_false, Qb, Qc, Qd, Qe, Qf, Qg, Qh, Qi, Qj, Qk, Ql, Qm, Qn, Qo, Qp, rb0, rb1, rb2, rb3, rb4, tf0, tf1, tf2, tf3, tf4, e2, e3]
          exact hno h3 hna (by omega) fk
    · simp only [↓reduceIte, reduceCtorEq, Za, Zb, Zc, Zd, Ze, Zf, Zg, Zh, Zi, Zj, Zk, Zl, Zm, Zn, Zo, Zp, Zq, Zr, Zs, Zt, Zu, Zv, gval, Zw, Zx, Zy, Zz, ZA, ZB, ZC, ZD, ZE, ZF, decide_eq_true_eq, ZG, ZH, ZI, ZJ, ZK, ZL, ZM, ZN, ZO, ZP, ZQ, ZR, ZS, Option.some.injEq, exists_eq_left', ZT, ZU, ZV, ZW, ZX, ZY, true_and, and_true, true_or, or_true, false_or, or_false, ite_true, ite_false, cond_true, cond_false, ZZ, Qa, if_true, if_false, decide_true, decide_false, Qb, Qc, Qd, Qe, Qf, Qg, Qh, Qi, Qj, Qk, Ql, Qm, Qn, Qo, Qp, rb0, rb1, rb2, rb3, rb4, tf0, tf1, tf2, tf3, tf4, e2, e3]
      exact hno h2 hna (by omega) hk2
end Go.Proofs.Ytmmjeifdgfolmaa
end
section
/- The program's reading of processes and the answer's are one. Plain Lean. -/
namespace Go.Proofs.Ytmmjeifdgfolmaa
open Go.AM
/-- one step up; from 0 no further. -/
def stepP (pa : Int → Int) (x : Int) : Int := if x = 0 then 0 else pa x
def itP (pa : Int → Int) : Nat → Int → Int
  | 0, x => x
  | k + 1, x => itP pa k (stepP pa x)
theorem itP_zero {pa : Int → Int} : ∀ k, itP pa k 0 = 0
  | 0 => rfl
  | k + 1 => by show itP pa k (stepP pa 0) = 0; unfold stepP; rw [if_pos rfl]; exact itP_zero k
theorem rootQ_it {pa : Int → Int} : ∀ (f : Nat) (x : Int), rootQ pa (f + 1) x = decide (itP pa f x = 0)
  | 0, x => by
    show (if x = 0 then true else false) = decide (x = 0)
    by_cases h : x = 0
    · rw [if_pos h, decide_eq_true h]
    · rw [if_neg h, decide_eq_false h]
  | f + 1, x => by
    show (if x = 0 then true else rootQ pa (f + 1) (pa x)) = decide (itP pa f (stepP pa x) = 0)
    by_cases h : x = 0
    · rw [if_pos h, h]
      unfold stepP
      rw [if_pos rfl, itP_zero, decide_eq_true rfl]
    · rw [if_neg h, rootQ_it f]
      unfold stepP
      rw [if_neg h]
theorem it_succ {pa : Int → Int} : ∀ (k : Nat) (x : Int), itP pa k x = 0 → itP pa (k + 1) x = 0
  | 0, x, h => by
    have h : x = 0 := h
    rw [h]; exact itP_zero 1
  | k + 1, x, h => it_succ k (stepP pa x) h
/-- eight persons: who comes to an end comes to it in eight steps. -/
theorem it_eight {pa : Int → Int} (hpa : ∀ m : Int, 1 ≤ m → m < 9 → 0 ≤ pa m ∧ pa m ≤ 8) {x : Int} (hx : 0 ≤ x ∧ x ≤ 8) {k : Nat} (hk : itP pa k x = 0) : itP pa 8 x = 0 := by
  let S : Nat → List Nat := fun k => (List.range 9).filter fun n => decide (1 ≤ n) && decide (itP pa k n = 0)
  have hst : ∀ n : Nat, 1 ≤ n → n ≤ 8 → ∃ q : Nat, stepP pa n = q ∧ q ≤ 8 := fun n h1 h2 => by
    have := hpa n (by omega) (by omega)
    refine ⟨(pa n).toNat, ?_, by omega⟩
    unfold stepP
    rw [if_neg (by omega)]; omega
  -- if nobody is new at one step, nobody is new later
  have stable : ∀ j, (∀ n : Nat, n ≤ 8 → itP pa (j + 1) n = 0 → itP pa j n = 0) → ∀ m, j ≤ m → ∀ n : Nat, n ≤ 8 → itP pa m n = 0 → itP pa j n = 0 := by
    intro j hj m hm
    induction m with
    | zero => intro n _ h; obtain rfl : j = 0 := by omega
              exact h
    | succ m ih =>
      intro n hn h
      by_cases e : j = m + 1
      · rw [e]; exact h
      · by_cases h0 : n = 0
        · rw [h0]; exact itP_zero j
        · obtain ⟨q, hq, hq8⟩ := hst n (by omega) hn
          have h : itP pa m (stepP pa n) = 0 := h
          rw [hq] at h
          have := ih (by omega) q hq8 h
          refine hj n hn ?_
          show itP pa j (stepP pa n) = 0
          rw [hq]; exact this
  have grow : ∀ j, (∃ i, i ≤ j ∧ ∀ n : Nat, n ≤ 8 → itP pa (i + 1) n = 0 → itP pa i n = 0) ∨ j + 1 ≤ (S (j + 1)).length := by
    intro j
    induction j with
    | zero =>
      by_cases h : ∀ n : Nat, n ≤ 8 → itP pa 1 n = 0 → itP pa 0 n = 0
      · exact .inl ⟨0, Nat.le_refl _, h⟩
      · right
        simp only [Classical.not_forall] at h
        obtain ⟨n, hn, h1, h0⟩ := h
        have := Go.AM.filter_lt (p := fun n => decide (1 ≤ n) && decide (itP pa 1 n = 0)) (q := fun n => decide (1 ≤ n) && decide (itP pa 0 n = 0)) (fun y hy => by
          rw [Bool.and_eq_true, decide_eq_true_eq, decide_eq_true_eq] at hy ⊢
          exact ⟨hy.1, it_succ 0 _ hy.2⟩) (x := n) (by
          rw [Bool.and_eq_true, decide_eq_true_eq, decide_eq_true_eq]
          refine ⟨?_, h1⟩
          rcases Nat.eq_zero_or_pos n with q | q
          · exact absurd (by rw [q]; rfl) h0
          · exact q) (by rw [Bool.and_eq_false_iff]; right; exact decide_eq_false h0) (List.range 9) (List.mem_range.2 (by omega))
        show 1 ≤ (S 1).length
        exact Nat.lt_of_le_of_lt (Nat.zero_le _) this
    | succ j ih =>
      rcases ih with ⟨i, hi, h⟩ | ih
      · exact .inl ⟨i, by omega, h⟩
      · by_cases h : ∀ n : Nat, n ≤ 8 → itP pa (j + 1 + 1) n = 0 → itP pa (j + 1) n = 0
        · exact .inl ⟨j + 1, Nat.le_refl _, h⟩
        · right
          simp only [Classical.not_forall] at h
          obtain ⟨n, hn, h1, h0⟩ := h
          have := Go.AM.filter_lt (p := fun n => decide (1 ≤ n) && decide (itP pa (j + 1 + 1) n = 0)) (q := fun n => decide (1 ≤ n) && decide (itP pa (j + 1) n = 0)) (fun y hy => by
            rw [Bool.and_eq_true, decide_eq_true_eq, decide_eq_true_eq] at hy ⊢
            exact ⟨hy.1, it_succ (j + 1) _ hy.2⟩) (x := n) (by
            rw [Bool.and_eq_true, decide_eq_true_eq, decide_eq_true_eq]
            refine ⟨?_, h1⟩
            rcases Nat.eq_zero_or_pos n with q | q
            · exact absurd (by rw [q]; exact itP_zero _) h0
            · exact q) (by rw [Bool.and_eq_false_iff]; right; exact decide_eq_false h0) (List.range 9) (List.mem_range.2 (by omega))
          show j + 1 + 1 ≤ (S (j + 1 + 1)).length
          exact Nat.lt_of_le_of_lt ih this
  obtain ⟨n, rfl⟩ : ∃ n : Nat, x = n := ⟨x.toNat, by omega⟩
  rcases grow 7 with ⟨i, hi, h⟩ | h
  · have h8 : ∀ m, i ≤ m → itP pa m n = 0 → itP pa 8 n = 0 := fun m hm hz => by
      have h0 := stable i h m hm n (by omega) hz
      have up : ∀ d, itP pa (i + d) n = 0 := fun d => by
        induction d with
        | zero => exact h0
        | succ d ih => exact it_succ _ _ ih
      have := up (8 - i)
      rwa [show i + (8 - i) = 8 by omega] at this
    by_cases hm : i ≤ k
    · exact h8 k hm hk
    · have up : ∀ d, itP pa (k + d) n = 0 := fun d => by
        induction d with
        | zero => exact hk
        | succ d ih => exact it_succ _ _ ih
      have := up (8 - k)
      rwa [show k + (8 - k) = 8 by omega] at this
  · -- all eight
    by_cases hz : itP pa 8 n = 0
    · exact hz
    · exfalso
      by_cases n0 : n = 0
      · exact hz (by rw [n0]; exact itP_zero 8)
      have h1 := Go.AM.filter_lt (p := fun n => decide (1 ≤ n)) (q := fun n => decide (1 ≤ n) && decide (itP pa 8 n = 0)) (fun y hy => by
        rw [Bool.and_eq_true] at hy; exact hy.1) (x := n) (decide_eq_true (by omega)) (by rw [Bool.and_eq_false_iff]; right; exact decide_eq_false hz) (List.range 9) (List.mem_range.2 (by omega))
      have h2 : ((List.range 9).filter fun n => decide (1 ≤ n)).length = 8 := by decide
      rw [h2] at h1
      have h : 8 ≤ ((List.range 9).filter fun n : Nat => decide (1 ≤ n) && decide (itP pa 8 (n : Int) = 0)).length := h
      omega
theorem chain_reach {pa : Int → Int} {ex : Int → Bool} : ∀ (f : Nat) (p : Int), chainQ pa ex f p = true → ∃ k, itP pa k p = 0
  | 0, _, h => by cases h
  | f + 1, p, h => by
    unfold chainQ at h
    by_cases hp : p = 0
    · exact ⟨0, hp⟩
    · rw [if_neg hp] at h
      cases he : ex p with
      | false => rw [he] at h; cases h
      | true =>
        rw [he] at h
        obtain ⟨k, hk⟩ := chain_reach f (pa p) h
        refine ⟨k + 1, ?_⟩
        show itP pa k (stepP pa p) = 0
        unfold stepP
        rw [if_neg hp]; exact hk
theorem reach_up {pa : Int → Int} {m : Int} (hm : m ≠ 0) {k : Nat} (h : itP pa k (pa m) = 0) : itP pa (k + 1) m = 0 := by
  show itP pa k (stepP pa m) = 0
  unfold stepP
  rw [if_neg hm]; exact h
section
variable {W : List Int} (hW : W.length = 24) (hw : ∀ y ∈ W, 0 ≤ y ∧ y < 18446744073709551616)
include hW hw
theorem nn (k : Nat) (hk : k < 24) : (0 : Int) ≤ W[k]! ∧ W[k]! < 18446744073709551616 := by
  rw [getElem!_pos W k (by omega)]; exact hw _ (List.getElem_mem _)
theorem stI_eq {m : Int} (h1 : 1 ≤ m) (h2 : m < 9) (h : stW W m ≤ 2) : stI W m = stW W m ∧ 0 ≤ stW W m := by
  have b1 : 0 ≤ stW W m := (nn hW hw (3 * m - 3).toNat (by omega)).1
  exact ⟨by unfold stI; exact wrapI (by omega) (by omega), b1⟩
theorem paI_eq {m : Int} (h1 : 1 ≤ m) (h2 : m < 9) (h : paW W m ≤ 8) : paI W m = paW W m ∧ 0 ≤ paW W m := by
  have b1 : 0 ≤ paW W m := (nn hW hw (3 * m - 2).toNat (by omega)).1
  exact ⟨by unfold paI; exact wrapI (by omega) (by omega), b1⟩
theorem suI_zero {m : Int} (h1 : 1 ≤ m) (h2 : m < 9) : suI W m = 0 ↔ suW W m = 0 := by
  have b1 : 0 ≤ suW W m ∧ suW W m < 18446744073709551616 := nn hW hw (3 * m - 1).toNat (by omega)
  have := wrapUI b1.1 b1.2
  unfold suI
  constructor
  · intro h; rw [h] at this; rw [← this]; rfl
  · intro h; rw [h]; rfl
end
theorem ex_iff {W : List Int} {m : Int} : exW W 9 m = true ↔ 1 ≤ m ∧ m < 9 ∧ stW W m ≠ 0 := by
  unfold exW
  rw [decide_eq_true_eq]
  constructor
  · rintro ⟨a, b, c⟩; exact ⟨a, by omega, c⟩
  · rintro ⟨a, b, c⟩; exact ⟨a, by omega, c⟩
theorem acc_iff {W : List Int} (hw : ∀ y ∈ W, 0 ≤ y ∧ y < 18446744073709551616) : accW W ↔ accR W := by
  constructor
  · rintro ⟨h24, hok, hri⟩
    have hst := fun (m : Int) (a : 1 ≤ m) (b : m < 9) => stI_eq h24 hw a b (hok m a b).1
    have hpa := fun (m : Int) (a : 1 ≤ m) (b : m < 9) => paI_eq h24 hw a b (hok m a b).2.1
    have hp8 : ∀ m : Int, 1 ≤ m → m < 9 → 0 ≤ paI W m ∧ paI W m ≤ 8 := fun m a b => by
      have := hpa m a b; have := (hok m a b).2.1; omega
    have live : ∀ m : Int, exW W 9 m = true → zW W m = false → chainQ (paI W) (exW W 9) 9 (paI W m) = true := fun m h hz => by
      have := hri m h
      unfold rightW at this
      rw [hz] at this
      exact this
    have zomb : ∀ m : Int, exW W 9 m = true → zW W m = true → exW W 9 (paI W m) = true ∧ zW W (paI W m) = false ∧ paI W m ≠ 0 := fun m h hz => by
      have := hri m h
      unfold rightW at this
      rw [hz] at this
      simp only [if_true, Bool.and_eq_true, Bool.not_eq_true', decide_eq_true_eq] at this
      exact ⟨this.1.1, this.1.2, this.2⟩
    have reach : ∀ m : Int, 1 ≤ m → m < 9 → ∃ k, itP (paI W) k m = 0 := fun m a b => by
      by_cases hs : stW W m = 0
      · have := ((hok m a b).2.2.1 hs).1
        have hp := (hpa m a b).1
        exact ⟨1, reach_up (k := 0) (by omega) (by show paI W m = 0; omega)⟩
      · have hex := ex_iff.2 ⟨a, b, hs⟩
        cases hz : zW W m with
        | false =>
          obtain ⟨k, hk⟩ := chain_reach _ _ (live m hex hz)
          exact ⟨k + 1, reach_up (by omega) hk⟩
        | true =>
          obtain ⟨e1, e2, e3⟩ := zomb m hex hz
          obtain ⟨k, hk⟩ := chain_reach _ _ (live _ e1 e2)
          have := ex_iff.1 e1
          exact ⟨k + 1 + 1, reach_up (by omega) (reach_up e3 hk)⟩
    refine ⟨h24, fun m a b => ⟨(hok m a b).1, (hok m a b).2.1⟩, fun m a b => ⟨?_, ?_⟩⟩
    · have hs := hst m a b
      have ho := hok m a b
      have ho1 : stW W m ≤ 2 := ho.1
      have hp := hpa m a b
      unfold okb
      by_cases s0 : stW W m = 0
      · rw [if_pos (by omega)]
        have z := ho.2.2.1 s0
        have z2 := (suI_zero h24 hw a b).2 z.2
        rw [z2, show paI W m = 0 by omega]; rfl
      · rw [if_neg (by omega)]
        have hex := ex_iff.2 ⟨a, b, s0⟩
        by_cases s1 : stW W m = 1
        · rw [if_pos (by omega), (suI_zero h24 hw a b).2 (ho.2.2.2 s1)]
          have hl := live m hex (by unfold zW; exact decide_eq_false (by omega))
          unfold chainQ at hl
          by_cases p0 : paI W m = 0
          · rw [decide_eq_true p0]; rfl
          · rw [if_neg p0] at hl
            cases he : exW W 9 (paI W m) with
            | false => rw [he] at hl; cases hl
            | true =>
              have q := ex_iff.1 he
              have q2 := hst _ q.1 q.2.1
              rw [decide_eq_true (show stI W (paI W m) ≠ 0 by rw [q2.1]; exact q.2.2), Bool.or_true]; rfl
        · rw [if_neg (by omega)]
          obtain ⟨e1, e2, e3⟩ := zomb m hex (by unfold zW; exact decide_eq_true (by omega))
          have q := ex_iff.1 e1
          have q2 := hst _ q.1 q.2.1
          have q3 := (hok _ q.1 q.2.1).1
          have q4 : stW W (paI W m) ≠ 2 := of_decide_eq_false e2
          rw [decide_eq_true (show stI W (paI W m) ≠ 0 by rw [q2.1]; exact q.2.2), Bool.or_true, decide_eq_true (show 1 ≤ paI W m ∧ paI W m ≤ 8 by omega), decide_eq_true (show stI W (paI W m) = 1 by omega)]; rfl
    · rw [rootQ_it 8]
      obtain ⟨k, hk⟩ := reach m a b
      exact decide_eq_true (it_eight hp8 (by omega) hk)
  · rintro ⟨h24, hv, hok⟩
    have hst := fun (m : Int) (a : 1 ≤ m) (b : m < 9) => stI_eq h24 hw a b (hv m a b).1
    have hpa := fun (m : Int) (a : 1 ≤ m) (b : m < 9) => paI_eq h24 hw a b (hv m a b).2
    have up : ∀ m : Int, 1 ≤ m → m < 9 → stW W m ≠ 0 → paI W m = 0 ∨ (1 ≤ paI W m ∧ paI W m < 9 ∧ stW W (paI W m) ≠ 0) := fun m a b hs => by
      have ho := (hok m a b).1
      have h1 := hst m a b
      have h2 := hpa m a b
      have h3 := (hv m a b).2
      by_cases p0 : paI W m = 0
      · exact .inl p0
      · right
        have h4 := hst (paI W m) (by omega) (by omega)
        refine ⟨by omega, by omega, fun hz => ?_⟩
        unfold okb at ho
        rw [if_neg (by omega), decide_eq_false p0, decide_eq_false (show ¬ stI W (paI W m) ≠ 0 by omega)] at ho
        split at ho <;> simp at ho
    have chain : ∀ (f : Nat) (p : Int), rootQ (paI W) f p = true → (p = 0 ∨ (1 ≤ p ∧ p < 9 ∧ stW W p ≠ 0)) → chainQ (paI W) (exW W 9) f p = true := by
      intro f
      induction f with
      | zero => intro p h _; cases h
      | succ f ih =>
        intro p h hp
        unfold rootQ at h
        unfold chainQ
        by_cases p0 : p = 0
        · rw [if_pos p0]
        · rw [if_neg p0] at h ⊢
          rcases hp with hp | ⟨q1, q2, q3⟩
          · exact absurd hp p0
          · rw [ex_iff.2 ⟨q1, q2, q3⟩]
            exact ih _ h (up p q1 q2 q3)
    refine ⟨h24, fun m a b => ?_, fun m hm => ?_⟩
    · have ho := (hok m a b).1
      have h1 := hst m a b
      have h2 := hpa m a b
      have h3 := hv m a b
      have h4 := suI_zero h24 hw a b
      unfold okb at ho
      refine ⟨h3.1, h3.2, fun s0 => ?_, fun s1 => ?_⟩
      · rw [if_pos (by omega), Bool.and_eq_true, beq_iff_eq, beq_iff_eq] at ho
        exact ⟨by omega, h4.1 ho.2⟩
      · rw [if_neg (by omega), if_pos (by omega), Bool.and_eq_true, decide_eq_true_eq] at ho
        exact h4.1 ho.2
    · obtain ⟨a, b, hs⟩ := ex_iff.1 hm
      have ho := (hok m a b).1
      have h1 := hst m a b
      have h3 := hv m a b
      unfold rightW
      by_cases s2 : stW W m = 2
      · rw [show zW W m = true from decide_eq_true s2]
        unfold okb at ho
        rw [if_neg (by omega), if_neg (by omega), Bool.and_eq_true, Bool.and_eq_true, decide_eq_true_eq, decide_eq_true_eq] at ho
        have q := ho.2
        have h5 := hst (paI W m) q.1.1 (by omega)
        rw [ex_iff.2 ⟨q.1.1, by omega, by omega⟩, show zW W (paI W m) = false from decide_eq_false (by omega), decide_eq_true (show paI W m ≠ 0 by omega)]; rfl
      · rw [show zW W m = false from decide_eq_false s2]
        have hr := (hok m a b).2
        simp only [Bool.false_eq_true, if_false]
        refine chain 9 _ ?_ (up m a b hs)
        rw [rootQ_it 8] at hr ⊢
        have hr : itP (paI W) 7 (stepP (paI W) m) = 0 := of_decide_eq_true hr
        unfold stepP at hr
        rw [if_neg (by omega)] at hr
        exact decide_eq_true (it_succ 7 _ hr)
end Go.Proofs.Ytmmjeifdgfolmaa
end
section
/- ProcsReads: the law's own steps. Conditions: the words lie as the rule names. -/
namespace Go.Proofs.Ytmmjeifdgfolmaa
open Go.AM
open Nat renaming reduceBEq → Za, reduceEqDiff → Zb, reduceAdd → Zc, reduceSub → Zd, reduceMul → Ze, reduceLT → Zf, reduceLeDiff → Zg, reduceDiv → Zh, reduceMod → Zi, reducePow → Zj, blt_eq → ZF, zero_add → Qc, add_zero → Qd
open Int renaming reduceAdd → Zk, reduceSub → Zl, reduceMul → Zm, reduceLT → Zn, reduceLE → Zo, reduceEq → Zp, reduceNe → Zq, reduceNeg → Zr, reduceToNat → Zs, reduceDiv → Zt, reduceMod → Zu, reducePow → Zv, cast_ofNat_Int → Zw, toNat_natCast → Qb
open List renaming set_cons_zero → Zx, set_cons_succ → Zy, map_toArray → Zz, cons_append → ZA, nil_append → ZB, append_nil → ZC, all_cons → ZD, all_nil → ZE, getElem?_cons_zero → ZJ, getElem?_cons_succ → ZK, length_cons → ZL, length_nil → ZM, map_cons → ZN, map_nil → ZO, isEmpty_nil → Qe, any_cons → Qf, any_nil → Qg, drop_zero → Qk, drop_succ_cons → Ql, take_succ_cons → Qm, take_zero → Qn, take_nil → Qo, drop_nil → Qp
open Bool renaming and_true → ZG, true_and → ZH, and_self → ZI, not_true → ZT, not_false → ZU, true_eq_false → ZZ, false_eq_true → Qa, or_false → Qh, false_or → Qi, and_eq_true → Qj
open Option renaming map_some → ZP, map_none → ZQ, bind_some → ZR, getD_some → ZS, isNone_some → ZV, isNone_none → ZW, isSome_some → ZX, isSome_none → ZY
set_option linter.unusedSimpArgs false
variable {sp : Special} {h : Heap} {R : Out → Heap → Prop}
set_option maxRecDepth 100000 in
theorem awake21_run : isTrue (clA 18 [] noHeap) = true := by kernel_rfl
noncomputable abbrev sp21 : Special := spAt 18
theorem sp21_ok : SpecOk Try.prog 0 sp21 := spAt_ok clA_ok awake21_run
theorem awake21 (h : Heap) (R : Out → Heap → Prop) (hR : R (.ret (.bool true)) h) : WF Try.prog 0 sp21 18 [] h R := by
  refine ⟨.ret (.bool true), h, ⟨1, fun fu d h1 h2 => ?_⟩, hR⟩
  obtain ⟨d, rfl⟩ : ∃ k, d = k + 1 := ⟨d - 1, by omega⟩
  rfl
set_option maxRecDepth 100000 in
theorem preads_walk {v : Value} {w : List Int} (hv : Ro h h.nx v w) (hw : ∀ y ∈ w, 0 ≤ y ∧ y < 18446744073709551616) (hR : ∀ h, R (.ret (.bool true)) h) : WFS Try.prog 0 8 [v] h R := by
  refine WFS.of_hwf fun hwf => ?_
  letI : Ds Try.f8.ntmps := ⟨[]⟩
  refine WFS.fn (fn := Try.f8) rfl (by kernel_rfl) rfl ?_
  obtain ⟨a, c, rfl, _⟩ := hv.is
  refine Good.seq (Good.detq Try.mixed sp21_ok (by kernel_rfl) fun Q1 hq => ?_)
  simp only [↓reduceIte, reduceCtorEq, Za, Zb, Zc, Zd, Ze, Zf, Zg, Zh, Zi, Zj, Zk, Zl, Zm, Zn, Zo, Zp, Zq, Zr, Zs, Zt, Zu, Zv, gval, Zw, Zx, Zy, Zz, ZA, ZB, ZC, ZD, ZE, ZF, decide_eq_true_eq, ZG, ZH, ZI, ZJ, ZK, ZL, ZM, ZN, ZO, ZP, ZQ, ZR, ZS, Option.some.injEq, exists_eq_left', ZT, ZU, ZV, ZW, ZX, ZY, true_and, and_true, true_or, or_true, false_or, or_false, ite_true, ite_false, cond_true, cond_false, ZZ, Qa, if_true, if_false, decide_true, decide_false, Qb, Qc, Qd, Qe, Qf, Qg, Qh, Qi, Qj, Qk, Ql, Qm, Qn, Qo, Qp, rb0, rb1, rb2, rb3, rb4, tf0, tf1, tf2, tf3, tf4, Try.f8]
  refine hq _ _ _ ⟨fun _ => ?_, fun h => absurd rfl h⟩
  refine Good.seq (Good.detq Try.mixed sp21_ok (by kernel_rfl) fun Q1 hq => ?_)
  by_cases hc : 1000 < w.length
  · have hc1 : (1000 : Int) < (w.length : Int) := by omega
    simp only [↓reduceIte, reduceCtorEq, Za, Zb, Zc, Zd, Ze, Zf, Zg, Zh, Zi, Zj, Zk, Zl, Zm, Zn, Zo, Zp, Zq, Zr, Zs, Zt, Zu, Zv, gval, Zw, Zx, Zy, Zz, ZA, ZB, ZC, ZD, ZE, ZF, decide_eq_true_eq, ZG, ZH, ZI, ZJ, ZK, ZL, ZM, ZN, ZO, ZP, ZQ, ZR, ZS, Option.some.injEq, exists_eq_left', ZT, ZU, ZV, ZW, ZX, ZY, true_and, and_true, true_or, or_true, false_or, or_false, ite_true, ite_false, cond_true, cond_false, ZZ, Qa, if_true, if_false, decide_true, decide_false, Qb, Qc, Qd, Qe, Qf, Qg, Qh, Qi, Qj, Qk, Ql, Qm, Qn, Qo, Qp, rb0, rb1, rb2, rb3, rb4, tf0, tf1, tf2, tf3, tf4, hc1]
    refine runC_of (awake21 _ _ ?_)
    simp only [↓reduceIte, reduceCtorEq, Za, Zb, Zc, Zd, Ze, Zf, Zg, Zh, Zi, Zj, Zk, Zl, Zm, Zn, Zo, Zp, Zq, Zr, Zs, Zt, Zu, Zv, gval, Zw, Zx, Zy, Zz, ZA, ZB, ZC, ZD, ZE, ZF, decide_eq_true_eq, ZG, ZH, ZI, ZJ, ZK, ZL, ZM, ZN, ZO, ZP, ZQ, ZR, ZS, Option.some.injEq, exists_eq_left', ZT, ZU, ZV, ZW, ZX, ZY, true_and, and_true, true_or, or_true, false_or, or_false, ite_true, ite_false, cond_true, cond_false, ZZ, Qa, if_true, if_false, decide_true, decide_false, Qb, Qc, Qd, Qe, Qf, Qg, Qh, Qi, Qj, Qk, Ql, Qm, Qn, Qo, Qp, rb0, rb1, rb2, rb3, rb4, tf0, tf1, tf2, tf3, tf4]
    refine hq _ _ _ ⟨fun h => (by cases h), fun _ => ?_⟩
    simp only [↓reduceIte, reduceCtorEq, Za, Zb, Zc, Zd, Ze, Zf, Zg, Zh, Zi, Zj, Zk, Zl, Zm, Zn, Zo, Zp, Zq, Zr, Zs, Zt, Zu, Zv, gval, Zw, Zx, Zy, Zz, ZA, ZB, ZC, ZD, ZE, ZF, decide_eq_true_eq, ZG, ZH, ZI, ZJ, ZK, ZL, ZM, ZN, ZO, ZP, ZQ, ZR, ZS, Option.some.injEq, exists_eq_left', ZT, ZU, ZV, ZW, ZX, ZY, true_and, and_true, true_or, or_true, false_or, or_false, ite_true, ite_false, cond_true, cond_false, ZZ, Qa, if_true, if_false, decide_true, decide_false, Qb, Qc, Qd, Qe, Qf, Qg, Qh, Qi, Qj, Qk, Ql, Qm, Qn, Qo, Qp, rb0, rb1, rb2, rb3, rb4, tf0, tf1, tf2, tf3, tf4, Try.f8]
    exact hR _
  · have hc1 : ¬ (1000 : Int) < (w.length : Int) := by omega
    simp only [↓reduceIte, reduceCtorEq, Za, Zb, Zc, Zd, Ze, Zf, Zg, Zh, Zi, Zj, Zk, Zl, Zm, Zn, Zo, Zp, Zq, Zr, Zs, Zt, Zu, Zv, gval, Zw, Zx, Zy, Zz, ZA, ZB, ZC, ZD, ZE, ZF, decide_eq_true_eq, ZG, ZH, ZI, ZJ, ZK, ZL, ZM, ZN, ZO, ZP, ZQ, ZR, ZS, Option.some.injEq, exists_eq_left', ZT, ZU, ZV, ZW, ZX, ZY, true_and, and_true, true_or, or_true, false_or, or_false, ite_true, ite_false, cond_true, cond_false, ZZ, Qa, if_true, if_false, decide_true, decide_false, Qb, Qc, Qd, Qe, Qf, Qg, Qh, Qi, Qj, Qk, Ql, Qm, Qn, Qo, Qp, rb0, rb1, rb2, rb3, rb4, tf0, tf1, tf2, tf3, tf4, hc1]
    refine hq _ _ _ ⟨fun _ => ?_, fun h => absurd rfl h⟩
    refine Good.seq (Good.region (by kernel_rfl) (GoodO.takeq 1 Try.mixed sp21_ok fun Q1 hq => ?_))
    simp only [↓reduceIte, reduceCtorEq, Za, Zb, Zc, Zd, Ze, Zf, Zg, Zh, Zi, Zj, Zk, Zl, Zm, Zn, Zo, Zp, Zq, Zr, Zs, Zt, Zu, Zv, gval, Zw, Zx, Zy, Zz, ZA, ZB, ZC, ZD, ZE, ZF, decide_eq_true_eq, ZG, ZH, ZI, ZJ, ZK, ZL, ZM, ZN, ZO, ZP, ZQ, ZR, ZS, Option.some.injEq, exists_eq_left', ZT, ZU, ZV, ZW, ZX, ZY, true_and, and_true, true_or, or_true, false_or, or_false, ite_true, ite_false, cond_true, cond_false, ZZ, Qa, if_true, if_false, decide_true, decide_false, Qb, Qc, Qd, Qe, Qf, Qg, Qh, Qi, Qj, Qk, Ql, Qm, Qn, Qo, Qp, rb0, rb1, rb2, rb3, rb4, tf0, tf1, tf2, tf3, tf4]
    refine hq _ _ (GoodO.call (f := 33) (args := [.slice a w.length c]) rfl rfl ?_ (R := fun o h' => (o = .ret (.tuple #[.pointer none, .int .i64 101]) ∧ ¬ accW w ∧ h.nx ≤ h'.nx ∧ ∀ b, b < h.nx → h'.get b = h.get b) ∨ ∃ bp r l, o = .ret (.tuple #[.pointer (some ⟨bp, 0, none⟩), .int .i64 0]) ∧ accW w ∧ Tab h' bp r l (zW w) (paI w) (suI w) (exW w 9) ∧ h.nx ≤ h'.nx ∧ ∀ b, b < h.nx → h'.get b = h.get b) ?_ ?_ ?_)
    · simp only [↓reduceIte, reduceCtorEq, Za, Zb, Zc, Zd, Ze, Zf, Zg, Zh, Zi, Zj, Zk, Zl, Zm, Zn, Zo, Zp, Zq, Zr, Zs, Zt, Zu, Zv, gval, Zw, Zx, Zy, Zz, ZA, ZB, ZC, ZD, ZE, ZF, decide_eq_true_eq, ZG, ZH, ZI, ZJ, ZK, ZL, ZM, ZN, ZO, ZP, ZQ, ZR, ZS, Option.some.injEq, exists_eq_left', ZT, ZU, ZV, ZW, ZX, ZY, true_and, and_true, true_or, or_true, false_or, or_false, ite_true, ite_false, cond_true, cond_false, ZZ, Qa, if_true, if_false, decide_true, decide_false, Qb, Qc, Qd, Qe, Qf, Qg, Qh, Qi, Qj, Qk, Ql, Qm, Qn, Qo, Qp, rb0, rb1, rb2, rb3, rb4, tf0, tf1, tf2, tf3, tf4, callee_func]
    · exact pdecode_spec sp21_ok rfl rfl rfl rfl hv hw (fun h' q1 q2 q3 => .inl ⟨rfl, q1, q2, q3⟩) (fun h' bp r l q1 q2 q3 q4 => .inr ⟨bp, r, l, rfl, q1, q2, q3, q4⟩)
    · rintro v h' (⟨e1, _⟩ | ⟨_, _, _, e1, _⟩)
      · cases e1
      · cases e1
    · rintro v h1 (⟨e1, hna, n1, k1⟩ | ⟨bp, r, l, e1, ha, ht, n1, k1⟩)
      · cases e1
        have hv1 : Ro h1 h1.nx (.slice a w.length c) w := by
          obtain ⟨a', c', e1, e2, e3⟩ := (hv.keep (h' := h1) k1).is
          refine ⟨a', c', e1, e2, e3.imp id ?_⟩
          rintro ⟨b', off, X, g1, g2⟩
          exact ⟨b', off, X, by omega, g2⟩
        refine GoodO.takeq 5 Try.mixed sp21_ok fun Q1 hq => ?_
        simp only [↓reduceIte, reduceCtorEq, Za, Zb, Zc, Zd, Ze, Zf, Zg, Zh, Zi, Zj, Zk, Zl, Zm, Zn, Zo, Zp, Zq, Zr, Zs, Zt, Zu, Zv, gval, Zw, Zx, Zy, Zz, ZA, ZB, ZC, ZD, ZE, ZF, decide_eq_true_eq, ZG, ZH, ZI, ZJ, ZK, ZL, ZM, ZN, ZO, ZP, ZQ, ZR, ZS, Option.some.injEq, exists_eq_left', ZT, ZU, ZV, ZW, ZX, ZY, true_and, and_true, true_or, or_true, false_or, or_false, ite_true, ite_false, cond_true, cond_false, ZZ, Qa, if_true, if_false, decide_true, decide_false, Qb, Qc, Qd, Qe, Qf, Qg, Qh, Qi, Qj, Qk, Ql, Qm, Qn, Qo, Qp, rb0, rb1, rb2, rb3, rb4, tf0, tf1, tf2, tf3, tf4]
        refine hq _ _ (GoodO.nil ⟨fun _ => ?_, fun h => absurd rfl h⟩)
        refine Good.detq Try.mixed sp21_ok (by kernel_rfl) fun Q1 hq => ?_
        simp only [↓reduceIte, reduceCtorEq, Za, Zb, Zc, Zd, Ze, Zf, Zg, Zh, Zi, Zj, Zk, Zl, Zm, Zn, Zo, Zp, Zq, Zr, Zs, Zt, Zu, Zv, gval, Zw, Zx, Zy, Zz, ZA, ZB, ZC, ZD, ZE, ZF, decide_eq_true_eq, ZG, ZH, ZI, ZJ, ZK, ZL, ZM, ZN, ZO, ZP, ZQ, ZR, ZS, Option.some.injEq, exists_eq_left', ZT, ZU, ZV, ZW, ZX, ZY, true_and, and_true, true_or, or_true, false_or, or_false, ite_true, ite_false, cond_true, cond_false, ZZ, Qa, if_true, if_false, decide_true, decide_false, Qb, Qc, Qd, Qe, Qf, Qg, Qh, Qi, Qj, Qk, Ql, Qm, Qn, Qo, Qp, rb0, rb1, rb2, rb3, rb4, tf0, tf1, tf2, tf3, tf4]
        refine runC_of (rpdecode_spec rfl rfl rfl rfl rfl rfl hv1 hw (fun h2 _ n2 k2 => ?_) (fun h2 b q _ _ => absurd ((acc_iff hw).2 q) hna))
        simp only [↓reduceIte, reduceCtorEq, Za, Zb, Zc, Zd, Ze, Zf, Zg, Zh, Zi, Zj, Zk, Zl, Zm, Zn, Zo, Zp, Zq, Zr, Zs, Zt, Zu, Zv, gval, Zw, Zx, Zy, Zz, ZA, ZB, ZC, ZD, ZE, ZF, decide_eq_true_eq, ZG, ZH, ZI, ZJ, ZK, ZL, ZM, ZN, ZO, ZP, ZQ, ZR, ZS, Option.some.injEq, exists_eq_left', ZT, ZU, ZV, ZW, ZX, ZY, true_and, and_true, true_or, or_true, false_or, or_false, ite_true, ite_false, cond_true, cond_false, ZZ, Qa, if_true, if_false, decide_true, decide_false, Qb, Qc, Qd, Qe, Qf, Qg, Qh, Qi, Qj, Qk, Ql, Qm, Qn, Qo, Qp, rb0, rb1, rb2, rb3, rb4, tf0, tf1, tf2, tf3, tf4, show (true == true) = true from rfl, show (false == false) = true from rfl]
        refine runC_of (awake21 _ _ ?_)
        simp only [↓reduceIte, reduceCtorEq, Za, Zb, Zc, Zd, Ze, Zf, Zg, Zh, Zi, Zj, Zk, Zl, Zm, Zn, Zo, Zp, Zq, Zr, Zs, Zt, Zu, Zv, gval, Zw, Zx, Zy, Zz, ZA, ZB, ZC, ZD, ZE, ZF, decide_eq_true_eq, ZG, ZH, ZI, ZJ, ZK, ZL, ZM, ZN, ZO, ZP, ZQ, ZR, ZS, Option.some.injEq, exists_eq_left', ZT, ZU, ZV, ZW, ZX, ZY, true_and, and_true, true_or, or_true, false_or, or_false, ite_true, ite_false, cond_true, cond_false, ZZ, Qa, if_true, if_false, decide_true, decide_false, Qb, Qc, Qd, Qe, Qf, Qg, Qh, Qi, Qj, Qk, Ql, Qm, Qn, Qo, Qp, rb0, rb1, rb2, rb3, rb4, tf0, tf1, tf2, tf3, tf4]
        refine hq _ _ _ ?_
        simp only [↓reduceIte, reduceCtorEq, Za, Zb, Zc, Zd, Ze, Zf, Zg, Zh, Zi, Zj, Zk, Zl, Zm, Zn, Zo, Zp, Zq, Zr, Zs, Zt, Zu, Zv, gval, Zw, Zx, Zy, Zz, ZA, ZB, ZC, ZD, ZE, ZF, decide_eq_true_eq, ZG, ZH, ZI, ZJ, ZK, ZL, ZM, ZN, ZO, ZP, ZQ, ZR, ZS, Option.some.injEq, exists_eq_left', ZT, ZU, ZV, ZW, ZX, ZY, true_and, and_true, true_or, or_true, false_or, or_false, ite_true, ite_false, cond_true, cond_false, ZZ, Qa, if_true, if_false, decide_true, decide_false, Qb, Qc, Qd, Qe, Qf, Qg, Qh, Qi, Qj, Qk, Ql, Qm, Qn, Qo, Qp, rb0, rb1, rb2, rb3, rb4, tf0, tf1, tf2, tf3, tf4, Try.f8]
        exact hR _
      · cases e1
        have hv1 : Ro h1 h1.nx (.slice a w.length c) w := by
          obtain ⟨a', c', e1, e2, e3⟩ := (hv.keep (h' := h1) k1).is
          refine ⟨a', c', e1, e2, e3.imp id ?_⟩
          rintro ⟨b', off, X, g1, g2⟩
          exact ⟨b', off, X, by omega, g2⟩
        refine GoodO.takeq 5 Try.mixed sp21_ok fun Q1 hq => ?_
        simp only [↓reduceIte, reduceCtorEq, Za, Zb, Zc, Zd, Ze, Zf, Zg, Zh, Zi, Zj, Zk, Zl, Zm, Zn, Zo, Zp, Zq, Zr, Zs, Zt, Zu, Zv, gval, Zw, Zx, Zy, Zz, ZA, ZB, ZC, ZD, ZE, ZF, decide_eq_true_eq, ZG, ZH, ZI, ZJ, ZK, ZL, ZM, ZN, ZO, ZP, ZQ, ZR, ZS, Option.some.injEq, exists_eq_left', ZT, ZU, ZV, ZW, ZX, ZY, true_and, and_true, true_or, or_true, false_or, or_false, ite_true, ite_false, cond_true, cond_false, ZZ, Qa, if_true, if_false, decide_true, decide_false, Qb, Qc, Qd, Qe, Qf, Qg, Qh, Qi, Qj, Qk, Ql, Qm, Qn, Qo, Qp, rb0, rb1, rb2, rb3, rb4, tf0, tf1, tf2, tf3, tf4]
        refine hq _ _ (GoodO.nil ⟨fun _ => ?_, fun h => absurd rfl h⟩)
        refine Good.of_hwf fun hwf1 => ?_
        refine Good.detq Try.mixed sp21_ok (by kernel_rfl) fun Q1 hq => ?_
        simp only [↓reduceIte, reduceCtorEq, Za, Zb, Zc, Zd, Ze, Zf, Zg, Zh, Zi, Zj, Zk, Zl, Zm, Zn, Zo, Zp, Zq, Zr, Zs, Zt, Zu, Zv, gval, Zw, Zx, Zy, Zz, ZA, ZB, ZC, ZD, ZE, ZF, decide_eq_true_eq, ZG, ZH, ZI, ZJ, ZK, ZL, ZM, ZN, ZO, ZP, ZQ, ZR, ZS, Option.some.injEq, exists_eq_left', ZT, ZU, ZV, ZW, ZX, ZY, true_and, and_true, true_or, or_true, false_or, or_false, ite_true, ite_false, cond_true, cond_false, ZZ, Qa, if_true, if_false, decide_true, decide_false, Qb, Qc, Qd, Qe, Qf, Qg, Qh, Qi, Qj, Qk, Ql, Qm, Qn, Qo, Qp, rb0, rb1, rb2, rb3, rb4, tf0, tf1, tf2, tf3, tf4]
        refine runC_of (rpdecode_spec rfl rfl rfl rfl rfl rfl hv1 hw (fun h2 q _ _ => absurd ((acc_iff hw).1 ha) q) (fun h2 b _ n2 k2 => ?_))
        simp only [↓reduceIte, reduceCtorEq, Za, Zb, Zc, Zd, Ze, Zf, Zg, Zh, Zi, Zj, Zk, Zl, Zm, Zn, Zo, Zp, Zq, Zr, Zs, Zt, Zu, Zv, gval, Zw, Zx, Zy, Zz, ZA, ZB, ZC, ZD, ZE, ZF, decide_eq_true_eq, ZG, ZH, ZI, ZJ, ZK, ZL, ZM, ZN, ZO, ZP, ZQ, ZR, ZS, Option.some.injEq, exists_eq_left', ZT, ZU, ZV, ZW, ZX, ZY, true_and, and_true, true_or, or_true, false_or, or_false, ite_true, ite_false, cond_true, cond_false, ZZ, Qa, if_true, if_false, decide_true, decide_false, Qb, Qc, Qd, Qe, Qf, Qg, Qh, Qi, Qj, Qk, Ql, Qm, Qn, Qo, Qp, rb0, rb1, rb2, rb3, rb4, tf0, tf1, tf2, tf3, tf4, show (true == true) = true from rfl, show (false == false) = true from rfl]
        refine runC_of (pencode_spec rfl ha hw (fun h' hk' => ht.keep fun b x hb => by have := hwf1.lt hb; rw [hk' b (by omega), k2 b this]; exact hb) fun h3 ve hwe n3 k3 => ?_)
        simp only [↓reduceIte, reduceCtorEq, Za, Zb, Zc, Zd, Ze, Zf, Zg, Zh, Zi, Zj, Zk, Zl, Zm, Zn, Zo, Zp, Zq, Zr, Zs, Zt, Zu, Zv, gval, Zw, Zx, Zy, Zz, ZA, ZB, ZC, ZD, ZE, ZF, decide_eq_true_eq, ZG, ZH, ZI, ZJ, ZK, ZL, ZM, ZN, ZO, ZP, ZQ, ZR, ZS, Option.some.injEq, exists_eq_left', ZT, ZU, ZV, ZW, ZX, ZY, true_and, and_true, true_or, or_true, false_or, or_false, ite_true, ite_false, cond_true, cond_false, ZZ, Qa, if_true, if_false, decide_true, decide_false, Qb, Qc, Qd, Qe, Qf, Qg, Qh, Qi, Qj, Qk, Ql, Qm, Qn, Qo, Qp, rb0, rb1, rb2, rb3, rb4, tf0, tf1, tf2, tf3, tf4]
        have hwv : Words h3 0 (.slice a w.length c) w := (hv.keep (h' := h3) (fun b' hb' => by rw [k3 b' (by omega), k2 b' (by omega), k1 b' hb'])).words (by omega)
        refine runC_of (words_spec rfl hwe hwv (fun t ht => ?_) (by omega))
        obtain rfl : t = true := ht.2 rfl
        simp only [↓reduceIte, reduceCtorEq, Za, Zb, Zc, Zd, Ze, Zf, Zg, Zh, Zi, Zj, Zk, Zl, Zm, Zn, Zo, Zp, Zq, Zr, Zs, Zt, Zu, Zv, gval, Zw, Zx, Zy, Zz, ZA, ZB, ZC, ZD, ZE, ZF, decide_eq_true_eq, ZG, ZH, ZI, ZJ, ZK, ZL, ZM, ZN, ZO, ZP, ZQ, ZR, ZS, Option.some.injEq, exists_eq_left', ZT, ZU, ZV, ZW, ZX, ZY, true_and, and_true, true_or, or_true, false_or, or_false, ite_true, ite_false, cond_true, cond_false, ZZ, Qa, if_true, if_false, decide_true, decide_false, Qb, Qc, Qd, Qe, Qf, Qg, Qh, Qi, Qj, Qk, Ql, Qm, Qn, Qo, Qp, rb0, rb1, rb2, rb3, rb4, tf0, tf1, tf2, tf3, tf4]
        refine runC_of (awake21 _ _ ?_)
        simp only [↓reduceIte, reduceCtorEq, Za, Zb, Zc, Zd, Ze, Zf, Zg, Zh, Zi, Zj, Zk, Zl, Zm, Zn, Zo, Zp, Zq, Zr, Zs, Zt, Zu, Zv, gval, Zw, Zx, Zy, Zz, ZA, ZB, ZC, ZD, ZE, ZF, decide_eq_true_eq, ZG, ZH, ZI, ZJ, ZK, ZL, ZM, ZN, ZO, ZP, ZQ, ZR, ZS, Option.some.injEq, exists_eq_left', ZT, ZU, ZV, ZW, ZX, ZY, true_and, and_true, true_or, or_true, false_or, or_false, ite_true, ite_false, cond_true, cond_false, ZZ, Qa, if_true, if_false, decide_true, decide_false, Qb, Qc, Qd, Qe, Qf, Qg, Qh, Qi, Qj, Qk, Ql, Qm, Qn, Qo, Qp, rb0, rb1, rb2, rb3, rb4, tf0, tf1, tf2, tf3, tf4]
        refine hq _ _ _ ?_
        simp only [↓reduceIte, reduceCtorEq, Za, Zb, Zc, Zd, Ze, Zf, Zg, Zh, Zi, Zj, Zk, Zl, Zm, Zn, Zo, Zp, Zq, Zr, Zs, Zt, Zu, Zv, gval, Zw, Zx, Zy, Zz, ZA, ZB, ZC, ZD, ZE, ZF, decide_eq_true_eq, ZG, ZH, ZI, ZJ, ZK, ZL, ZM, ZN, ZO, ZP, ZQ, ZR, ZS, Option.some.injEq, exists_eq_left', ZT, ZU, ZV, ZW, ZX, ZY, true_and, and_true, true_or, or_true, false_or, or_false, ite_true, ite_false, cond_true, cond_false, ZZ, Qa, if_true, if_false, decide_true, decide_false, Qb, Qc, Qd, Qe, Qf, Qg, Qh, Qi, Qj, Qk, Ql, Qm, Qn, Qo, Qp, rb0, rb1, rb2, rb3, rb4, tf0, tf1, tf2, tf3, tf4, Try.f8]
        exact hR _
end Go.Proofs.Ytmmjeifdgfolmaa
end
