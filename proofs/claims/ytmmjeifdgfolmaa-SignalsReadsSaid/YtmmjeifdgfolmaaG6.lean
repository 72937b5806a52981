/- Lemmas of the claim: the machine of the proof and the walks of the program. Conditions: as each says. -/
import Derived.Test.YtmmjeifdgfolmaaG5
import Derived.Test.YtmmjeifdgfolmaaG4
section
/- signals.Decode: one process's words. -/
namespace Go.Proofs.Ytmmjeifdgfolmaa
open Go.AM Go.AM.SigRead
open Nat renaming reduceBEq → Za, reduceEqDiff → Zb, reduceAdd → Zc, reduceSub → Zd, reduceMul → Ze, reduceLT → Zf, reduceLeDiff → Zg, reduceDiv → Zh, reduceMod → Zi, reducePow → Zj, blt_eq → ZF, zero_add → Qc, add_zero → Qd
open Int renaming reduceAdd → Zk, reduceSub → Zl, reduceMul → Zm, reduceLT → Zn, reduceLE → Zo, reduceEq → Zp, reduceNe → Zq, reduceNeg → Zr, reduceToNat → Zs, reduceDiv → Zt, reduceMod → Zu, reducePow → Zv, cast_ofNat_Int → Zw, toNat_natCast → Qb
open List renaming set_cons_zero → Zx, set_cons_succ → Zy, map_toArray → Zz, cons_append → ZA, nil_append → ZB, append_nil → ZC, all_cons → ZD, all_nil → ZE, getElem?_cons_zero → ZJ, getElem?_cons_succ → ZK, length_cons → ZL, length_nil → ZM, map_cons → ZN, map_nil → ZO, isEmpty_nil → Qe, any_cons → Qf, any_nil → Qg, drop_zero → Qk, drop_succ_cons → Ql, take_succ_cons → Qm, take_zero → Qn, take_nil → Qo, drop_nil → Qp
open Bool renaming and_true → ZG, true_and → ZH, and_self → ZI, not_true → ZT, not_false → ZU, true_eq_false → ZZ, false_eq_true → Qa, or_false → Qh, false_or → Qi, and_eq_true → Qj
open Option renaming map_some → ZP, map_none → ZQ, bind_some → ZR, getD_some → ZS, isNone_some → ZV, isNone_none → ZW, isSome_some → ZX, isSome_none → ZY
set_option linter.unusedSimpArgs false
variable {sp : Special} {h : Heap} {R : Out → Heap → Prop}
/-- a record of a process that was read. -/
structure RecAt (h : Heap) (lo : Nat) (L : List Value) (k : Nat) (x : SRec) : Prop where
  is : ∃ H stk, OneAt L (k * 20) H x.p.toNat x.i x.pc stk ∧ 0 ≤ x.p ∧ x.H.length = 15 ∧ (∀ j, j < 15 → x.H[j]? = some (H (j + 1))) ∧ (x.i = true → Words h lo stk x.st ∧ x.st.length ≤ 32 ∧ 0 ≤ x.pc ∧ x.pc ≤ 1048576)
/-- words that are read alone. -/
structure Ro (h : Heap) (lo : Nat) (v : Value) (l : List Int) : Prop where
  is : ∃ a c, v = .slice a l.length c ∧ l.length ≤ c ∧ (l.length = 0 ∨ ∃ b off X, b < lo ∧ a = some ⟨b, off, none⟩ ∧ h.get b = some (cellsB X .ro) ∧ off + l.length ≤ X.length ∧ ∀ i, i < l.length → X[off + i]? = (l[i]?).map (.int .u64 ·))
theorem OneAt.of {L L' : List Value} {o : Nat} {H : Nat → Int} {p : Nat} {inn : Bool} {pc : Int} {stk : Value} (x : OneAt L o H p inn pc stk) (h : ∀ j, o ≤ j → j < o + 20 → L'[j]? = L[j]?) : OneAt L' o H p inn pc stk :=
  ⟨fun k hk => by rw [h _ (by omega) (by omega)]; exact x.hd k hk, by rw [h _ (by omega) (by omega)]; exact x.pend, by rw [h _ (by omega) (by omega)]; exact x.inn, by rw [h _ (by omega) (by omega)]; exact x.pc, by rw [h _ (by omega) (by omega)]; exact x.stk, x.lt⟩
theorem RecAt.of {h' : Heap} {lo : Nat} {L L' : List Value} {k : Nat} {x : SRec} (a : RecAt h lo L k x) (hn : h.nx ≤ h'.nx) (hk : ∀ b, lo ≤ b → b < h.nx → h'.get b = h.get b) (hL : ∀ j, k * 20 ≤ j → j < k * 20 + 20 → L'[j]? = L[j]?) : RecAt h' lo L' k x := by
  obtain ⟨H, stk, g1, g2, g3, g4, g5⟩ := a.is
  exact ⟨H, stk, g1.of hL, g2, g3, g4, fun hi => ⟨(g5 hi).1.keep (Nat.le_refl _) hn hk, (g5 hi).2⟩⟩
theorem ro_drop {lo : Nat} {b off c n : Nat} {X : List Value} {r : List Int} (hb : b < lo) (hX : h.get b = some (cellsB X .ro)) (hXl : off + r.length ≤ X.length) (hXi : ∀ i, i < r.length → X[off + i]? = (r[i]?).map (.int .u64 ·)) (hc : r.length ≤ c) (hn : n ≤ r.length) :
    Ro h lo (.slice (some (if c = n then ⟨b, off, none⟩ else ⟨b, off + n, none⟩)) (r.length - n) (c - n)) (r.drop n) := by
  refine ⟨_, c - n, by rw [List.length_drop], by rw [List.length_drop]; omega, ?_⟩
  by_cases e : c = n
  · left; rw [List.length_drop]; omega
  · right
    refine ⟨b, off + n, X, hb, by rw [if_neg e], hX, by rw [List.length_drop]; omega, fun i hi => ?_⟩
    rw [List.length_drop] at hi
    rw [Nat.add_assoc, hXi (n + i) (by omega), List.getElem?_drop]
set_option maxRecDepth 100000 in
theorem decode_spec (h0 : (sp 48).isNone = true) (h1 : (sp 23).isNone = true) (h2 : (sp 51).isNone = true) (h3 : (sp 56).isNone = true) {v : Value} {w : List Int} (hv : Ro h h.nx v w) (hw : ∀ y ∈ w, 0 ≤ y ∧ y < 18446744073709551616) (hl : w.length ≤ 100000000)
    (hno : ∀ h', (¬ ∃ l, runK one 8 w = some (l, [])) → h.nx ≤ h'.nx → (∀ b, b < h.nx → h'.get b = h.get b) → R (.ret (.tuple #[.pointer none, .int .i64 101])) h')
    (hok : ∀ h' b L l, runK one 8 w = some (l, []) → h.nx ≤ b → b < h'.nx → h'.get b = some (cellsB L .exact) → L.length = 160 → (∀ k x, l[k]? = some x → RecAt h' (b + 1) L k x) → h.nx ≤ h'.nx → (∀ b, b < h.nx → h'.get b = h.get b) → R (.ret (.tuple #[.pointer (some ⟨b, 0, none⟩), .int .i64 0])) h') :
    WF Try.prog 0 sp 48 [v] h R := by
  refine wf_fn (fn := Try.f48) h0 rfl (by kernel_rfl) rfl ?_
  simp only [↓reduceIte, reduceCtorEq, Za, Zb, Zc, Zd, Ze, Zf, Zg, Zh, Zi, Zj, Zk, Zl, Zm, Zn, Zo, Zp, Zq, Zr, Zs, Zt, Zu, Zv, gval, Zw, Zx, Zy, Zz, ZA, ZB, ZC, ZD, ZE, ZF, decide_eq_true_eq, ZG, ZH, ZI, ZJ, ZK, ZL, ZM, ZN, ZO, ZP, ZQ, ZR, ZS, Option.some.injEq, exists_eq_left', ZT, ZU, ZV, ZW, ZX, ZY, true_and, and_true, true_or, or_true, false_or, or_false, ite_true, ite_false, cond_true, cond_false, ZZ, Qa, if_true, if_false, decide_true, decide_false, Qb, Qc, Qd, Qe, Qf, Qg, Qh, Qi, Qj, Qk, Ql, Qm, Qn, Qo, Qp, rb0, rb1, rb2, rb3, rb4, tf0, tf1, tf2, tf3, tf4, Try.f48]
  refine runC_of (new_spec h1 h2 fun h1' b hb1 hb2 hb3 hb4 => ?_)
  simp only [↓reduceIte, reduceCtorEq, Za, Zb, Zc, Zd, Ze, Zf, Zg, Zh, Zi, Zj, Zk, Zl, Zm, Zn, Zo, Zp, Zq, Zr, Zs, Zt, Zu, Zv, gval, Zw, Zx, Zy, Zz, ZA, ZB, ZC, ZD, ZE, ZF, decide_eq_true_eq, ZG, ZH, ZI, ZJ, ZK, ZL, ZM, ZN, ZO, ZP, ZQ, ZR, ZS, Option.some.injEq, exists_eq_left', ZT, ZU, ZV, ZW, ZX, ZY, true_and, and_true, true_or, or_true, false_or, or_false, ite_true, ite_false, cond_true, cond_false, ZZ, Qa, if_true, if_false, decide_true, decide_false, Qb, Qc, Qd, Qe, Qf, Qg, Qh, Qi, Qj, Qk, Ql, Qm, Qn, Qo, Qp, rb0, rb1, rb2, rb3, rb4, tf0, tf1, tf2, tf3, tf4]
  refine run_loop2 rfl (fun n e h2 => ∃ (i : Nat) (rs : List SRec) (r : List Int) (t0 : Value) (L : List Value), n = 8 - i ∧ i ≤ 8 ∧ runK one i w = some (rs, r) ∧ Ro h2 h.nx t0 r ∧ e.at 0 = t0 ∧ e.at 4 = .pointer (some ⟨b, 0, none⟩) ∧ e.at 10 = .int .i64 i ∧ h2.get b = some (cellsB L .exact) ∧ L.length = 160 ∧
      b < h2.nx ∧ (∀ b', b' < h.nx → h2.get b' = h.get b') ∧ (∀ k x, rs[k]? = some x → RecAt h2 (b + 1) L k x) ∧ (∀ k, i ≤ k → k < 8 → OneAt L (k * 20) (fun _ => 18446744073709551615) 0 false 0 (.slice none 0 0)))
    (fun ex e h2 => (ex = .exit 0 ∧ ∃ (rs : List SRec) (r : List Int) (t0 : Value) (L : List Value), runK one 8 w = some (rs, r) ∧ Ro h2 h.nx t0 r ∧ e.at 0 = t0 ∧ e.at 4 = .pointer (some ⟨b, 0, none⟩) ∧ h2.get b = some (cellsB L .exact) ∧ L.length = 160 ∧
      b < h2.nx ∧ (∀ b', b' < h.nx → h2.get b' = h.get b') ∧ (∀ k x, rs[k]? = some x → RecAt h2 (b + 1) L k x)) ∨
      (ex = .ret ∧ e.at 2 = .pointer none ∧ e.at 3 = .int .i64 101 ∧ (¬ ∃ l, runK one 8 w = some (l, [])) ∧ h.nx ≤ h2.nx ∧ (∀ b', b' < h.nx → h2.get b' = h.get b'))) ?_ 8 _ _ ?_ ?_
  · rintro n e h2 ⟨i, rs, r, t0, L, rfl, hi, hrun, hro, e0, e4, e10, hb, hL, hbn, hk, hrec, hfr⟩ Q' hQn hQx
    obtain ⟨a, c, rfl, hac, hx⟩ := hro.is
    by_cases hc : i < 8
    · have hc1 : (i : Int) < 8 := by omega
      have stop : one r = none → ¬ ∃ l, runK one 8 w = some (l, []) := fun hn ⟨l, hl⟩ => by rw [runK_stop hrun hn 8 hc] at hl; cases hl
      have hnx : h.nx ≤ h2.nx := by omega
      by_cases h17 : r.length < 17
      · have h17' : (r.length : Int) < 17 := by omega
        simp (disch := (first | omega | rfl | (simp only [Heap.nx_upd, Heap.nx_new]; omega))) only [↓reduceIte, reduceCtorEq, Za, Zb, Zc, Zd, Ze, Zf, Zg, Zh, Zi, Zj, Zk, Zl, Zm, Zn, Zo, Zp, Zq, Zr, Zs, Zt, Zu, Zv, gval, Zw, Zx, Zy, Zz, ZA, ZB, ZC, ZD, ZE, ZF, decide_eq_true_eq, ZG, ZH, ZI, ZJ, ZK, ZL, ZM, ZN, ZO, ZP, ZQ, ZR, ZS, Option.some.injEq, exists_eq_left', ZT, ZU, ZV, ZW, ZX, ZY, true_and, and_true, true_or, or_true, false_or, or_false, ite_true, ite_false, cond_true, cond_false, ZZ, Qa, if_true, if_false, decide_true, decide_false, Qb, Qc, Qd, Qe, Qf, Qg, Qh, Qi, Qj, Qk, Ql, Qm, Qn, Qo, Qp, rb0, rb1, rb2, rb3, rb4, tf0, tf1, tf2, tf3, tf4, Heap.get_upd_ne, Heap.get_new_ne, Heap.get_new_at, overL_one, if_pos, stX_exactN, e0, e4, e10, hb, hc1, hL, h17', Nat.mul_one]
        exact hQx _ _ _ (by simp) (.inr ⟨rfl, by simp only [↓reduceIte, reduceCtorEq, Za, Zb, Zc, Zd, Ze, Zf, Zg, Zh, Zi, Zj, Zk, Zl, Zm, Zn, Zo, Zp, Zq, Zr, Zs, Zt, Zu, Zv, gval, Zw, Zx, Zy, Zz, ZA, ZB, ZC, ZD, ZE, ZF, decide_eq_true_eq, ZG, ZH, ZI, ZJ, ZK, ZL, ZM, ZN, ZO, ZP, ZQ, ZR, ZS, Option.some.injEq, exists_eq_left', ZT, ZU, ZV, ZW, ZX, ZY, true_and, and_true, true_or, or_true, false_or, or_false, ite_true, ite_false, cond_true, cond_false, ZZ, Qa, if_true, if_false, decide_true, decide_false, Qb, Qc, Qd, Qe, Qf, Qg, Qh, Qi, Qj, Qk, Ql, Qm, Qn, Qo, Qp, rb0, rb1, rb2, rb3, rb4, tf0, tf1, tf2, tf3, tf4], by simp only [↓reduceIte, reduceCtorEq, Za, Zb, Zc, Zd, Ze, Zf, Zg, Zh, Zi, Zj, Zk, Zl, Zm, Zn, Zo, Zp, Zq, Zr, Zs, Zt, Zu, Zv, gval, Zw, Zx, Zy, Zz, ZA, ZB, ZC, ZD, ZE, ZF, decide_eq_true_eq, ZG, ZH, ZI, ZJ, ZK, ZL, ZM, ZN, ZO, ZP, ZQ, ZR, ZS, Option.some.injEq, exists_eq_left', ZT, ZU, ZV, ZW, ZX, ZY, true_and, and_true, true_or, or_true, false_or, or_false, ite_true, ite_false, cond_true, cond_false, ZZ, Qa, if_true, if_false, decide_true, decide_false, Qb, Qc, Qd, Qe, Qf, Qg, Qh, Qi, Qj, Qk, Ql, Qm, Qn, Qo, Qp, rb0, rb1, rb2, rb3, rb4, tf0, tf1, tf2, tf3, tf4], stop (by unfold one; rw [if_pos h17]), hnx, hk⟩)
      · have h17' : ¬ (r.length : Int) < 17 := by omega
        rcases hx with hx | ⟨bw, off, X, hbw, rfl, hX, hXl, hXi⟩
        · omega
        have hmin : Nat.min r.length 15 = 15 := Nat.min_eq_right (by omega)
        have hcp := fun (o : Nat) (ho : o + 15 ≤ L.length) => aCopy_at (P := Try.prog) (ts := #[47, 47]) (dt := 47) (st := 47) rfl (s := 1) (by kernel_rfl) (b := b) (off := o) (dn := 15) (c := 15) (n := r.length) (x := .slice (some ⟨bw, off, none⟩) r.length c) (g := h2.get) (L := L) (cells := (X.drop off).take 15) (k := .exact) rfl
          (by rw [hmin]; exact firstL_slc _ 1 15 bw off _ _ X .ro hX (by omega)) hb (by simp) (by rw [List.length_take, List.length_drop]; omega)
        rw [hmin] at hcp
        have ho16 : i * 20 + 1 + 15 ≤ L.length := by omega
        obtain ⟨p, hp⟩ : ∃ p, r[15]? = some p := ⟨_, List.getElem?_eq_getElem (by omega)⟩
        obtain ⟨q, hq⟩ : ∃ q, r[16]? = some q := ⟨_, List.getElem?_eq_getElem (by omega)⟩
        have hX15 : X[off + 15]? = some (.int .u64 p) := by rw [hXi 15 (by omega), hp]; rfl
        have hX16 : X[off + 16]? = some (.int .u64 q) := by rw [hXi 16 (by omega), hq]; rfl
        have hbb : bw ≠ b := by omega
        have hcl : (List.take 15 (List.drop off X)).length = 15 := by rw [List.length_take, List.length_drop]; omega
        have hLl : (overL L (i * 20 + 1) (List.take 15 (List.drop off X))).length = 160 := by unfold overL; simp only [List.length_append, List.length_take, List.length_drop]; omega
        have hsl := fun (g : Nat → Option Blk) (hg : g bw = some (cellsB X .ro)) => slS_from (k := .i64) (l := 17) (off := off) hg (show 17 ≤ r.length by omega) hac
        simp (disch := (first | omega | rfl | (simp only [Heap.nx_upd, Heap.nx_new]; omega))) only [↓reduceIte, reduceCtorEq, Za, Zb, Zc, Zd, Ze, Zf, Zg, Zh, Zi, Zj, Zk, Zl, Zm, Zn, Zo, Zp, Zq, Zr, Zs, Zt, Zu, Zv, gval, Zw, Zx, Zy, Zz, ZA, ZB, ZC, ZD, ZE, ZF, decide_eq_true_eq, ZG, ZH, ZI, ZJ, ZK, ZL, ZM, ZN, ZO, ZP, ZQ, ZR, ZS, Option.some.injEq, exists_eq_left', ZT, ZU, ZV, ZW, ZX, ZY, true_and, and_true, true_or, or_true, false_or, or_false, ite_true, ite_false, cond_true, cond_false, ZZ, Qa, if_true, if_false, decide_true, decide_false, Qb, Qc, Qd, Qe, Qf, Qg, Qh, Qi, Qj, Qk, Ql, Qm, Qn, Qo, Qp, rb0, rb1, rb2, rb3, rb4, tf0, tf1, tf2, tf3, tf4, Heap.get_upd_ne, Heap.get_new_ne, Heap.get_new_at, overL_one, if_pos, stX_exactN, e0, e4, e10, hb, hc1, hL, h17', Nat.mul_one, slP, hcp _ ho16, hX, hX15, hX16, hLl]
        generalize hL1 : (overL L (i * 20 + 1) (List.take 15 (List.drop off X))).set (i * 20 + 16) (Value.int IntKind.u64 p) = L1
        have hb1 : (h2.upd b (cellsB L1 .exact)).get b = some (cellsB L1 .exact) := by simp (disch := (first | omega | rfl | (simp only [Heap.nx_upd, Heap.nx_new]; omega))) only [Heap.get_upd_ne, Heap.get_new_ne, Heap.get_new_at, Heap.get_upd_same, Heap.get_new_same, Heap.nx_upd, Heap.nx_new]
        have hX1 : (h2.upd b (cellsB L1 .exact)).get bw = some (cellsB X .ro) := by simp (disch := (first | omega | rfl | (simp only [Heap.nx_upd, Heap.nx_new]; omega))) only [Heap.get_upd_ne, Heap.get_new_ne, Heap.get_new_at, Heap.get_upd_same, Heap.get_new_same, Heap.nx_upd, Heap.nx_new]; exact hX
        rw [show (17 : Int) = ((17 : Nat) : Int) from rfl, hsl _ hX1]
        have hL1l : L1.length = 160 := by rw [← hL1, List.length_set, hLl]
        have hL1g : ∀ j, L1[j]? = if j = i * 20 + 16 then some (.int .u64 p) else if i * 20 + 1 ≤ j ∧ j < i * 20 + 16 then X[off + (j - (i * 20 + 1))]? else L[j]? := by
          intro j
          rw [← hL1, set_get (by omega), overC_get (by omega), hcl]
          by_cases e1 : j = i * 20 + 16
          · rw [if_pos e1, if_pos e1]
          · rw [if_neg e1, if_neg e1]
            by_cases e2 : i * 20 + 1 ≤ j ∧ j < i * 20 + 16
            · rw [if_pos (by omega), if_pos e2, List.getElem?_take, if_pos (by omega), List.getElem?_drop]
            · rw [if_neg (by omega), if_neg e2]
        obtain ⟨y8, hy8⟩ : ∃ y, r[8]? = some y := ⟨_, List.getElem?_eq_getElem (by omega)⟩
        have h9 : L1[i * 20 + 9]? = some (.int .u64 y8) := by
          rw [hL1g, if_neg (by omega), if_pos (by omega), show off + (i * 20 + 9 - (i * 20 + 1)) = off + 8 by omega, hXi 8 (by omega), hy8]; rfl
        have h16 : L1[i * 20 + 16]? = some (.int .u64 p) := by rw [hL1g, if_pos rfl]
        have hrw : ∀ y ∈ r, 0 ≤ y ∧ y < 18446744073709551616 := fun y hy => hw y (by rw [← runK_enc (fun v hv => (hw v hv).1) _ _ _ hrun]; simp [hy])
        have hp0 := hrw p (List.mem_of_getElem? hp)
        have hq0 := hrw q (List.mem_of_getElem? hq)
        have g8 : r[8]! = y8 := by rw [List.getElem!_eq_getElem?_getD, hy8]; rfl
        have g15 : r[15]! = p := by rw [List.getElem!_eq_getElem?_getD, hp]; rfl
        have g16 : r[16]! = q := by rw [List.getElem!_eq_getElem?_getD, hq]; rfl
        have hone : one r = if y8 ≠ 18446744073709551615 ∨ p % 2 ≠ 0 ∨ p / 65536 ≠ 0 ∨ 1 < q then none else
            if q = 0 then some (⟨r.take 15, p, false, 0, []⟩, r.drop 17) else tail (r.take 15) p (r.drop 17) := by
          unfold one; rw [if_neg h17, g8, g15, g16]; rfl
        have hkp : ∀ b', b' < h.nx → (h2.upd b (cellsB L1 .exact)).get b' = h.get b' := fun b' hb' => by simp (disch := (first | omega | rfl | (simp only [Heap.nx_upd, Heap.nx_new]; omega))) only [Heap.get_upd_ne, Heap.get_new_ne, Heap.get_new_at, Heap.get_upd_same, Heap.get_new_same, Heap.nx_upd, Heap.nx_new]; exact hk b' hb'
        have hst : ∀ e' : Env, e'.at 2 = .pointer none → e'.at 3 = .int .i64 101 → (y8 ≠ 18446744073709551615 ∨ p % 2 ≠ 0 ∨ p / 65536 ≠ 0 ∨ 1 < q) → Q' .ret e' (h2.upd b (cellsB L1 .exact)) := fun e' h1 h2 h3 =>
          hQx _ _ _ (by simp) (.inr ⟨rfl, h1, h2, stop (by rw [hone, if_pos h3]), by simp (disch := (first | omega | rfl | (simp only [Heap.nx_upd, Heap.nx_new]; omega))) only [Heap.get_upd_ne, Heap.get_new_ne, Heap.get_new_at, Heap.get_upd_same, Heap.get_new_same, Heap.nx_upd, Heap.nx_new]; omega, hkp⟩)
        by_cases c1 : y8 = 18446744073709551615
        · have z2 : ((p.toNat &&& 1 : Nat) : Int) = p % 2 := by rw [Nat.and_one_is_mod]; omega
          have z3 : p.fdiv (2 ^ min 16 IntKind.u64.bits) = p / 65536 := by
            show p.fdiv 65536 = p / 65536
            exact Int.fdiv_eq_ediv_of_nonneg _ (by omega)
          by_cases c2 : p % 2 = 0
          · by_cases c3 : p / 65536 = 0
            · by_cases c4 : 1 < q
              · simp (disch := (first | omega | rfl | (simp only [Heap.nx_upd, Heap.nx_new]; omega))) only [↓reduceIte, reduceCtorEq, Za, Zb, Zc, Zd, Ze, Zf, Zg, Zh, Zi, Zj, Zk, Zl, Zm, Zn, Zo, Zp, Zq, Zr, Zs, Zt, Zu, Zv, gval, Zw, Zx, Zy, Zz, ZA, ZB, ZC, ZD, ZE, ZF, decide_eq_true_eq, ZG, ZH, ZI, ZJ, ZK, ZL, ZM, ZN, ZO, ZP, ZQ, ZR, ZS, Option.some.injEq, exists_eq_left', ZT, ZU, ZV, ZW, ZX, ZY, true_and, and_true, true_or, or_true, false_or, or_false, ite_true, ite_false, cond_true, cond_false, ZZ, Qa, if_true, if_false, decide_true, decide_false, Qb, Qc, Qd, Qe, Qf, Qg, Qh, Qi, Qj, Qk, Ql, Qm, Qn, Qo, Qp, rb0, rb1, rb2, rb3, rb4, tf0, tf1, tf2, tf3, tf4, Heap.get_upd_ne, Heap.get_new_ne, Heap.get_new_at, overL_one, if_pos, stX_exactN, hb1, h9, h16, hL1l, c1, and_u64, hp0.1, hp0.2, z2, c2, z3, c3, c4]
                exact hst _ (by simp only [↓reduceIte, reduceCtorEq, Za, Zb, Zc, Zd, Ze, Zf, Zg, Zh, Zi, Zj, Zk, Zl, Zm, Zn, Zo, Zp, Zq, Zr, Zs, Zt, Zu, Zv, gval, Zw, Zx, Zy, Zz, ZA, ZB, ZC, ZD, ZE, ZF, decide_eq_true_eq, ZG, ZH, ZI, ZJ, ZK, ZL, ZM, ZN, ZO, ZP, ZQ, ZR, ZS, Option.some.injEq, exists_eq_left', ZT, ZU, ZV, ZW, ZX, ZY, true_and, and_true, true_or, or_true, false_or, or_false, ite_true, ite_false, cond_true, cond_false, ZZ, Qa, if_true, if_false, decide_true, decide_false, Qb, Qc, Qd, Qe, Qf, Qg, Qh, Qi, Qj, Qk, Ql, Qm, Qn, Qo, Qp, rb0, rb1, rb2, rb3, rb4, tf0, tf1, tf2, tf3, tf4]) (by simp only [↓reduceIte, reduceCtorEq, Za, Zb, Zc, Zd, Ze, Zf, Zg, Zh, Zi, Zj, Zk, Zl, Zm, Zn, Zo, Zp, Zq, Zr, Zs, Zt, Zu, Zv, gval, Zw, Zx, Zy, Zz, ZA, ZB, ZC, ZD, ZE, ZF, decide_eq_true_eq, ZG, ZH, ZI, ZJ, ZK, ZL, ZM, ZN, ZO, ZP, ZQ, ZR, ZS, Option.some.injEq, exists_eq_left', ZT, ZU, ZV, ZW, ZX, ZY, true_and, and_true, true_or, or_true, false_or, or_false, ite_true, ite_false, cond_true, cond_false, ZZ, Qa, if_true, if_false, decide_true, decide_false, Qb, Qc, Qd, Qe, Qf, Qg, Qh, Qi, Qj, Qk, Ql, Qm, Qn, Qo, Qp, rb0, rb1, rb2, rb3, rb4, tf0, tf1, tf2, tf3, tf4]) (.inr (.inr (.inr c4)))
              · simp (disch := (first | omega | rfl | (simp only [Heap.nx_upd, Heap.nx_new]; omega))) only [↓reduceIte, reduceCtorEq, Za, Zb, Zc, Zd, Ze, Zf, Zg, Zh, Zi, Zj, Zk, Zl, Zm, Zn, Zo, Zp, Zq, Zr, Zs, Zt, Zu, Zv, gval, Zw, Zx, Zy, Zz, ZA, ZB, ZC, ZD, ZE, ZF, decide_eq_true_eq, ZG, ZH, ZI, ZJ, ZK, ZL, ZM, ZN, ZO, ZP, ZQ, ZR, ZS, Option.some.injEq, exists_eq_left', ZT, ZU, ZV, ZW, ZX, ZY, true_and, and_true, true_or, or_true, false_or, or_false, ite_true, ite_false, cond_true, cond_false, ZZ, Qa, if_true, if_false, decide_true, decide_false, Qb, Qc, Qd, Qe, Qf, Qg, Qh, Qi, Qj, Qk, Ql, Qm, Qn, Qo, Qp, rb0, rb1, rb2, rb3, rb4, tf0, tf1, tf2, tf3, tf4, Heap.get_upd_ne, Heap.get_new_ne, Heap.get_new_at, overL_one, if_pos, stX_exactN, hb1, h9, h16, hL1l, c1, and_u64, hp0.1, hp0.2, z2, c2, z3, c3, c4]
                have hro1 := ro_drop (h := h2.upd b (cellsB L1 .exact)) (lo := h.nx) (n := 17) hbw hX1 hXl hXi hac (by omega)
                have hr1 : ∀ k x, rs[k]? = some x → k < i := fun k x hx => by
                  have := (List.getElem?_eq_some_iff.1 hx).1
                  rw [runK_count i hrun] at this; exact this
                have hrec1 : ∀ k x, rs[k]? = some x → RecAt (h2.upd b (cellsB L1 .exact)) (b + 1) L1 k x := fun k x hx => by
                  have hki := hr1 k x hx
                  refine (hrec k x hx).of (by simp (disch := (first | omega | rfl | (simp only [Heap.nx_upd, Heap.nx_new]; omega))) only [Heap.get_upd_ne, Heap.get_new_ne, Heap.get_new_at, Heap.get_upd_same, Heap.get_new_same, Heap.nx_upd, Heap.nx_new]; omega) (fun b' h1 h2 => by simp (disch := (first | omega | rfl | (simp only [Heap.nx_upd, Heap.nx_new]; omega))) only [Heap.get_upd_ne, Heap.get_new_ne, Heap.get_new_at, Heap.get_upd_same, Heap.get_new_same, Heap.nx_upd, Heap.nx_new]) (fun j h1 h2 => ?_)
                  rw [hL1g, if_neg (by omega), if_neg (by omega)]
                have hfr1 : ∀ k, i + 1 ≤ k → k < 8 → OneAt L1 (k * 20) (fun _ => 18446744073709551615) 0 false 0 (.slice none 0 0) := fun k h1 h2 => by
                  refine (hfr k (by omega) h2).of (fun j h1 h2 => ?_)
                  rw [hL1g, if_neg (by omega), if_neg (by omega)]
                have hnew : OneAt L1 (i * 20) (fun j => if j = 0 then 18446744073709551615 else r[j - 1]!) p.toNat false 0 (.slice none 0 0) := by
                  have x0 := hfr i (Nat.le_refl _) hc
                  refine ⟨fun k hk => ?_, ?_, ?_, ?_, ?_, by omega⟩
                  · by_cases e : k = 0
                    · subst e
                      rw [hL1g, if_neg (by omega), if_neg (by omega)]
                      exact x0.hd 0 (by omega)
                    · rw [hL1g, if_neg (by omega), if_pos (by omega), show off + (i * 20 + k - (i * 20 + 1)) = off + (k - 1) by omega, hXi (k - 1) (by omega), if_neg e, List.getElem?_eq_getElem (by omega), getElem!_pos r (k - 1) (by omega)]
                      rfl
                  · rw [h16]; congr 2; omega
                  · rw [hL1g, if_neg (by omega), if_neg (by omega)]; exact x0.inn
                  · rw [hL1g, if_neg (by omega), if_neg (by omega)]; exact x0.pc
                  · rw [hL1g, if_neg (by omega), if_neg (by omega)]; exact x0.stk
                have hH15 : (r.take 15).length = 15 ∧ ∀ j, j < 15 → (r.take 15)[j]? = some (if j + 1 = 0 then (18446744073709551615 : Int) else r[j + 1 - 1]!) := by
                  refine ⟨by rw [List.length_take]; omega, fun j hj => ?_⟩
                  rw [List.getElem?_take, if_pos hj, if_neg (by omega), Nat.add_sub_cancel, List.getElem?_eq_getElem (by omega), getElem!_pos r j (by omega)]
                by_cases c5 : q = 0
                · simp (disch := (first | omega | rfl | (simp only [Heap.nx_upd, Heap.nx_new]; omega))) only [↓reduceIte, reduceCtorEq, Za, Zb, Zc, Zd, Ze, Zf, Zg, Zh, Zi, Zj, Zk, Zl, Zm, Zn, Zo, Zp, Zq, Zr, Zs, Zt, Zu, Zv, gval, Zw, Zx, Zy, Zz, ZA, ZB, ZC, ZD, ZE, ZF, decide_eq_true_eq, ZG, ZH, ZI, ZJ, ZK, ZL, ZM, ZN, ZO, ZP, ZQ, ZR, ZS, Option.some.injEq, exists_eq_left', ZT, ZU, ZV, ZW, ZX, ZY, true_and, and_true, true_or, or_true, false_or, or_false, ite_true, ite_false, cond_true, cond_false, ZZ, Qa, if_true, if_false, decide_true, decide_false, Qb, Qc, Qd, Qe, Qf, Qg, Qh, Qi, Qj, Qk, Ql, Qm, Qn, Qo, Qp, rb0, rb1, rb2, rb3, rb4, tf0, tf1, tf2, tf3, tf4, Heap.get_upd_ne, Heap.get_new_ne, Heap.get_new_at, overL_one, if_pos, stX_exactN, c5, e10, wrapI]
                  have hone' : one r = some (⟨r.take 15, p, false, 0, []⟩, r.drop 17) := by
                    rw [hone, if_neg (by rintro (h | h | h | h) <;> omega), if_pos c5]
                  refine hQn _ _ _ (by omega) ⟨i + 1, _, _, _, L1, rfl, by omega, runK_succ hrun hone', hro1, ?_, ?_, ?_, hb1, hL1l, by simp (disch := (first | omega | rfl | (simp only [Heap.nx_upd, Heap.nx_new]; omega))) only [Heap.get_upd_ne, Heap.get_new_ne, Heap.get_new_at, Heap.get_upd_same, Heap.get_new_same, Heap.nx_upd, Heap.nx_new]; omega, hkp, fun k x hx => ?_, hfr1⟩
                  · simp only [↓reduceIte, reduceCtorEq, Za, Zb, Zc, Zd, Ze, Zf, Zg, Zh, Zi, Zj, Zk, Zl, Zm, Zn, Zo, Zp, Zq, Zr, Zs, Zt, Zu, Zv, gval, Zw, Zx, Zy, Zz, ZA, ZB, ZC, ZD, ZE, ZF, decide_eq_true_eq, ZG, ZH, ZI, ZJ, ZK, ZL, ZM, ZN, ZO, ZP, ZQ, ZR, ZS, Option.some.injEq, exists_eq_left', ZT, ZU, ZV, ZW, ZX, ZY, true_and, and_true, true_or, or_true, false_or, or_false, ite_true, ite_false, cond_true, cond_false, ZZ, Qa, if_true, if_false, decide_true, decide_false, Qb, Qc, Qd, Qe, Qf, Qg, Qh, Qi, Qj, Qk, Ql, Qm, Qn, Qo, Qp, rb0, rb1, rb2, rb3, rb4, tf0, tf1, tf2, tf3, tf4]
                  · simp only [↓reduceIte, reduceCtorEq, Za, Zb, Zc, Zd, Ze, Zf, Zg, Zh, Zi, Zj, Zk, Zl, Zm, Zn, Zo, Zp, Zq, Zr, Zs, Zt, Zu, Zv, gval, Zw, Zx, Zy, Zz, ZA, ZB, ZC, ZD, ZE, ZF, decide_eq_true_eq, ZG, ZH, ZI, ZJ, ZK, ZL, ZM, ZN, ZO, ZP, ZQ, ZR, ZS, Option.some.injEq, exists_eq_left', ZT, ZU, ZV, ZW, ZX, ZY, true_and, and_true, true_or, or_true, false_or, or_false, ite_true, ite_false, cond_true, cond_false, ZZ, Qa, if_true, if_false, decide_true, decide_false, Qb, Qc, Qd, Qe, Qf, Qg, Qh, Qi, Qj, Qk, Ql, Qm, Qn, Qo, Qp, rb0, rb1, rb2, rb3, rb4, tf0, tf1, tf2, tf3, tf4, e4]
                  · simp only [↓reduceIte, reduceCtorEq, Za, Zb, Zc, Zd, Ze, Zf, Zg, Zh, Zi, Zj, Zk, Zl, Zm, Zn, Zo, Zp, Zq, Zr, Zs, Zt, Zu, Zv, gval, Zw, Zx, Zy, Zz, ZA, ZB, ZC, ZD, ZE, ZF, decide_eq_true_eq, ZG, ZH, ZI, ZJ, ZK, ZL, ZM, ZN, ZO, ZP, ZQ, ZR, ZS, Option.some.injEq, exists_eq_left', ZT, ZU, ZV, ZW, ZX, ZY, true_and, and_true, true_or, or_true, false_or, or_false, ite_true, ite_false, cond_true, cond_false, ZZ, Qa, if_true, if_false, decide_true, decide_false, Qb, Qc, Qd, Qe, Qf, Qg, Qh, Qi, Qj, Qk, Ql, Qm, Qn, Qo, Qp, rb0, rb1, rb2, rb3, rb4, tf0, tf1, tf2, tf3, tf4]
                    rfl
                  · rw [List.getElem?_append] at hx
                    split at hx
                    · exact hrec1 k x hx
                    · have hcnt := runK_count i hrun
                      have hki : k = i := by
                        have := (List.getElem?_eq_some_iff.1 hx).1
                        simp only [List.length_cons, List.length_nil] at this
                        omega
                      subst hki
                      rw [hcnt, Nat.sub_self] at hx
                      simp only [List.getElem?_cons_zero, Option.some.injEq] at hx
                      subst hx
                      exact ⟨_, _, hnew, hp0.1, hH15.1, hH15.2, fun h => by simp at h⟩
                · have hone2 : one r = tail (r.take 15) p (r.drop 17) := by rw [hone, if_neg (by rintro (h | h | h | h) <;> omega), if_neg c5]
                  have hd : (r.drop 17).length = r.length - 17 := List.length_drop
                  have hst2 : ∀ e' : Env, e'.at 2 = .pointer none → e'.at 3 = .int .i64 101 → tail (r.take 15) p (r.drop 17) = none → Q' .ret e' (h2.upd b (cellsB L1 .exact)) := fun e' h1 h2 h3 =>
                    hQx _ _ _ (by simp) (.inr ⟨rfl, h1, h2, stop (by rw [hone2, h3]), by simp (disch := (first | omega | rfl | (simp only [Heap.nx_upd, Heap.nx_new]; omega))) only [Heap.get_upd_ne, Heap.get_new_ne, Heap.get_new_at, Heap.get_upd_same, Heap.get_new_same, Heap.nx_upd, Heap.nx_new]; omega, hkp⟩)
                  by_cases d1 : r.length - 17 < 2
                  · have d1' : ((r.length - 17 : Nat) : Int) < 2 := by omega
                    simp (disch := (first | omega | rfl | (simp only [Heap.nx_upd, Heap.nx_new]; omega))) only [↓reduceIte, reduceCtorEq, Za, Zb, Zc, Zd, Ze, Zf, Zg, Zh, Zi, Zj, Zk, Zl, Zm, Zn, Zo, Zp, Zq, Zr, Zs, Zt, Zu, Zv, gval, Zw, Zx, Zy, Zz, ZA, ZB, ZC, ZD, ZE, ZF, decide_eq_true_eq, ZG, ZH, ZI, ZJ, ZK, ZL, ZM, ZN, ZO, ZP, ZQ, ZR, ZS, Option.some.injEq, exists_eq_left', ZT, ZU, ZV, ZW, ZX, ZY, true_and, and_true, true_or, or_true, false_or, or_false, ite_true, ite_false, cond_true, cond_false, ZZ, Qa, if_true, if_false, decide_true, decide_false, Qb, Qc, Qd, Qe, Qf, Qg, Qh, Qi, Qj, Qk, Ql, Qm, Qn, Qo, Qp, rb0, rb1, rb2, rb3, rb4, tf0, tf1, tf2, tf3, tf4, Heap.get_upd_ne, Heap.get_new_ne, Heap.get_new_at, overL_one, if_pos, stX_exactN, c5, d1']
                    exact hst2 _ (by simp only [↓reduceIte, reduceCtorEq, Za, Zb, Zc, Zd, Ze, Zf, Zg, Zh, Zi, Zj, Zk, Zl, Zm, Zn, Zo, Zp, Zq, Zr, Zs, Zt, Zu, Zv, gval, Zw, Zx, Zy, Zz, ZA, ZB, ZC, ZD, ZE, ZF, decide_eq_true_eq, ZG, ZH, ZI, ZJ, ZK, ZL, ZM, ZN, ZO, ZP, ZQ, ZR, ZS, Option.some.injEq, exists_eq_left', ZT, ZU, ZV, ZW, ZX, ZY, true_and, and_true, true_or, or_true, false_or, or_false, ite_true, ite_false, cond_true, cond_false, ZZ, Qa, if_true, if_false, decide_true, decide_false, Qb, Qc, Qd, Qe, Qf, Qg, Qh, Qi, Qj, Qk, Ql, Qm, Qn, Qo, Qp, rb0, rb1, rb2, rb3, rb4, tf0, tf1, tf2, tf3, tf4]) (by simp only [↓reduceIte, reduceCtorEq, Za, Zb, Zc, Zd, Ze, Zf, Zg, Zh, Zi, Zj, Zk, Zl, Zm, Zn, Zo, Zp, Zq, Zr, Zs, Zt, Zu, Zv, gval, Zw, Zx, Zy, Zz, ZA, ZB, ZC, ZD, ZE, ZF, decide_eq_true_eq, ZG, ZH, ZI, ZJ, ZK, ZL, ZM, ZN, ZO, ZP, ZQ, ZR, ZS, Option.some.injEq, exists_eq_left', ZT, ZU, ZV, ZW, ZX, ZY, true_and, and_true, true_or, or_true, false_or, or_false, ite_true, ite_false, cond_true, cond_false, ZZ, Qa, if_true, if_false, decide_true, decide_false, Qb, Qc, Qd, Qe, Qf, Qg, Qh, Qi, Qj, Qk, Ql, Qm, Qn, Qo, Qp, rb0, rb1, rb2, rb3, rb4, tf0, tf1, tf2, tf3, tf4]) (by unfold tail; rw [if_pos (.inl (by omega))])
                  have d1' : ¬ ((r.length - 17 : Nat) : Int) < 2 := by omega
                  have hc17 : ¬ c = 17 := by omega
                  obtain ⟨a0, ha0⟩ : ∃ y, r[17]? = some y := ⟨_, List.getElem?_eq_getElem (by omega)⟩
                  obtain ⟨a1, ha1⟩ : ∃ y, r[18]? = some y := ⟨_, List.getElem?_eq_getElem (by omega)⟩
                  have hX17 : X[off + 17 + 0]? = some (.int .u64 a0) := by rw [Nat.add_assoc, hXi 17 (by omega), ha0]; rfl
                  have hX17' : X[off + 17]? = some (.int .u64 a0) := hX17
                  have hX18 : X[off + 17 + 1]? = some (.int .u64 a1) := by rw [Nat.add_assoc, hXi 18 (by omega), ha1]; rfl
                  have d2 : 0 < r.length - 17 := by omega
                  have d3 : 1 < r.length - 17 := by omega
                  have hb0 := hrw a0 (List.mem_of_getElem? ha0)
                  have hb1' := hrw a1 (List.mem_of_getElem? ha1)
                  have g17 : (r.drop 17)[0]! = a0 := by rw [List.getElem!_eq_getElem?_getD, List.getElem?_drop, ha0]; rfl
                  have g18 : (r.drop 17)[1]! = a1 := by rw [List.getElem!_eq_getElem?_getD, List.getElem?_drop, ha1]; rfl
                  have htl : tail (r.take 15) p (r.drop 17) = if 1048576 < a0 ∨ 32 < a1 ∨ ((r.length - 17 : Nat) : Int) - 2 < a1 then none else some (⟨r.take 15, p, true, a0, ((r.drop 17).drop 2).take a1.toNat⟩, (r.drop 17).drop (2 + a1.toNat)) := by
                    unfold tail
                    rw [hd, g17, g18]
                    by_cases z : 1048576 < a0 ∨ 32 < a1 ∨ ((r.length - 17 : Nat) : Int) - 2 < a1
                    · rw [if_pos (.inr z), if_pos z]
                    · rw [if_neg (by rintro (z' | z'); exact d1 z'; exact z z'), if_neg z]
                  by_cases d4 : 1048576 < a0
                  · simp (disch := (first | omega | rfl | (simp only [Heap.nx_upd, Heap.nx_new]; omega))) only [↓reduceIte, reduceCtorEq, Za, Zb, Zc, Zd, Ze, Zf, Zg, Zh, Zi, Zj, Zk, Zl, Zm, Zn, Zo, Zp, Zq, Zr, Zs, Zt, Zu, Zv, gval, Zw, Zx, Zy, Zz, ZA, ZB, ZC, ZD, ZE, ZF, decide_eq_true_eq, ZG, ZH, ZI, ZJ, ZK, ZL, ZM, ZN, ZO, ZP, ZQ, ZR, ZS, Option.some.injEq, exists_eq_left', ZT, ZU, ZV, ZW, ZX, ZY, true_and, and_true, true_or, or_true, false_or, or_false, ite_true, ite_false, cond_true, cond_false, ZZ, Qa, if_true, if_false, decide_true, decide_false, Qb, Qc, Qd, Qe, Qf, Qg, Qh, Qi, Qj, Qk, Ql, Qm, Qn, Qo, Qp, rb0, rb1, rb2, rb3, rb4, tf0, tf1, tf2, tf3, tf4, Heap.get_upd_ne, Heap.get_new_ne, Heap.get_new_at, overL_one, if_pos, stX_exactN, c5, d1', hc17, if_neg, hX1, hX17, hX17', d2, d3, d4]
                    exact hst2 _ (by simp only [↓reduceIte, reduceCtorEq, Za, Zb, Zc, Zd, Ze, Zf, Zg, Zh, Zi, Zj, Zk, Zl, Zm, Zn, Zo, Zp, Zq, Zr, Zs, Zt, Zu, Zv, gval, Zw, Zx, Zy, Zz, ZA, ZB, ZC, ZD, ZE, ZF, decide_eq_true_eq, ZG, ZH, ZI, ZJ, ZK, ZL, ZM, ZN, ZO, ZP, ZQ, ZR, ZS, Option.some.injEq, exists_eq_left', ZT, ZU, ZV, ZW, ZX, ZY, true_and, and_true, true_or, or_true, false_or, or_false, ite_true, ite_false, cond_true, cond_false, ZZ, Qa, if_true, if_false, decide_true, decide_false, Qb, Qc, Qd, Qe, Qf, Qg, Qh, Qi, Qj, Qk, Ql, Qm, Qn, Qo, Qp, rb0, rb1, rb2, rb3, rb4, tf0, tf1, tf2, tf3, tf4]) (by simp only [↓reduceIte, reduceCtorEq, Za, Zb, Zc, Zd, Ze, Zf, Zg, Zh, Zi, Zj, Zk, Zl, Zm, Zn, Zo, Zp, Zq, Zr, Zs, Zt, Zu, Zv, gval, Zw, Zx, Zy, Zz, ZA, ZB, ZC, ZD, ZE, ZF, decide_eq_true_eq, ZG, ZH, ZI, ZJ, ZK, ZL, ZM, ZN, ZO, ZP, ZQ, ZR, ZS, Option.some.injEq, exists_eq_left', ZT, ZU, ZV, ZW, ZX, ZY, true_and, and_true, true_or, or_true, false_or, or_false, ite_true, ite_false, cond_true, cond_false, ZZ, Qa, if_true, if_false, decide_true, decide_false, Qb, Qc, Qd, Qe, Qf, Qg, Qh, Qi, Qj, Qk, Ql, Qm, Qn, Qo, Qp, rb0, rb1, rb2, rb3, rb4, tf0, tf1, tf2, tf3, tf4]) (by rw [htl, if_pos (.inl d4)])
                  by_cases d5 : 32 < a1
                  · simp (disch := (first | omega | rfl | (simp only [Heap.nx_upd, Heap.nx_new]; omega))) only [↓reduceIte, reduceCtorEq, Za, Zb, Zc, Zd, Ze, Zf, Zg, Zh, Zi, Zj, Zk, Zl, Zm, Zn, Zo, Zp, Zq, Zr, Zs, Zt, Zu, Zv, gval, Zw, Zx, Zy, Zz, ZA, ZB, ZC, ZD, ZE, ZF, decide_eq_true_eq, ZG, ZH, ZI, ZJ, ZK, ZL, ZM, ZN, ZO, ZP, ZQ, ZR, ZS, Option.some.injEq, exists_eq_left', ZT, ZU, ZV, ZW, ZX, ZY, true_and, and_true, true_or, or_true, false_or, or_false, ite_true, ite_false, cond_true, cond_false, ZZ, Qa, if_true, if_false, decide_true, decide_false, Qb, Qc, Qd, Qe, Qf, Qg, Qh, Qi, Qj, Qk, Ql, Qm, Qn, Qo, Qp, rb0, rb1, rb2, rb3, rb4, tf0, tf1, tf2, tf3, tf4, Heap.get_upd_ne, Heap.get_new_ne, Heap.get_new_at, overL_one, if_pos, stX_exactN, c5, d1', hc17, if_neg, hX1, hX17, hX17', hX18, d2, d3, d4, d5]
                    exact hst2 _ (by simp only [↓reduceIte, reduceCtorEq, Za, Zb, Zc, Zd, Ze, Zf, Zg, Zh, Zi, Zj, Zk, Zl, Zm, Zn, Zo, Zp, Zq, Zr, Zs, Zt, Zu, Zv, gval, Zw, Zx, Zy, Zz, ZA, ZB, ZC, ZD, ZE, ZF, decide_eq_true_eq, ZG, ZH, ZI, ZJ, ZK, ZL, ZM, ZN, ZO, ZP, ZQ, ZR, ZS, Option.some.injEq, exists_eq_left', ZT, ZU, ZV, ZW, ZX, ZY, true_and, and_true, true_or, or_true, false_or, or_false, ite_true, ite_false, cond_true, cond_false, ZZ, Qa, if_true, if_false, decide_true, decide_false, Qb, Qc, Qd, Qe, Qf, Qg, Qh, Qi, Qj, Qk, Ql, Qm, Qn, Qo, Qp, rb0, rb1, rb2, rb3, rb4, tf0, tf1, tf2, tf3, tf4]) (by simp only [↓reduceIte, reduceCtorEq, Za, Zb, Zc, Zd, Ze, Zf, Zg, Zh, Zi, Zj, Zk, Zl, Zm, Zn, Zo, Zp, Zq, Zr, Zs, Zt, Zu, Zv, gval, Zw, Zx, Zy, Zz, ZA, ZB, ZC, ZD, ZE, ZF, decide_eq_true_eq, ZG, ZH, ZI, ZJ, ZK, ZL, ZM, ZN, ZO, ZP, ZQ, ZR, ZS, Option.some.injEq, exists_eq_left', ZT, ZU, ZV, ZW, ZX, ZY, true_and, and_true, true_or, or_true, false_or, or_false, ite_true, ite_false, cond_true, cond_false, ZZ, Qa, if_true, if_false, decide_true, decide_false, Qb, Qc, Qd, Qe, Qf, Qg, Qh, Qi, Qj, Qk, Ql, Qm, Qn, Qo, Qp, rb0, rb1, rb2, rb3, rb4, tf0, tf1, tf2, tf3, tf4]) (by rw [htl, if_pos (.inr (.inl d5))])
                  have hrl : r.length ≤ 100000000 := by
                    have := congrArg List.length (runK_enc (fun v hv => (hw v hv).1) _ _ _ hrun)
                    rw [List.length_append] at this; omega
                  have hw2 : wrapF .i64 (((r.length - 17 : Nat) : Int) - 2) = ((r.length - 17 : Nat) : Int) - 2 := wrapI (by omega) (by omega)
                  by_cases d6 : ((r.length - 17 : Nat) : Int) - 2 < a1
                  · simp (disch := (first | omega | rfl | (simp only [Heap.nx_upd, Heap.nx_new]; omega))) only [↓reduceIte, reduceCtorEq, Za, Zb, Zc, Zd, Ze, Zf, Zg, Zh, Zi, Zj, Zk, Zl, Zm, Zn, Zo, Zp, Zq, Zr, Zs, Zt, Zu, Zv, gval, Zw, Zx, Zy, Zz, ZA, ZB, ZC, ZD, ZE, ZF, decide_eq_true_eq, ZG, ZH, ZI, ZJ, ZK, ZL, ZM, ZN, ZO, ZP, ZQ, ZR, ZS, Option.some.injEq, exists_eq_left', ZT, ZU, ZV, ZW, ZX, ZY, true_and, and_true, true_or, or_true, false_or, or_false, ite_true, ite_false, cond_true, cond_false, ZZ, Qa, if_true, if_false, decide_true, decide_false, Qb, Qc, Qd, Qe, Qf, Qg, Qh, Qi, Qj, Qk, Ql, Qm, Qn, Qo, Qp, rb0, rb1, rb2, rb3, rb4, tf0, tf1, tf2, tf3, tf4, Heap.get_upd_ne, Heap.get_new_ne, Heap.get_new_at, overL_one, if_pos, stX_exactN, c5, d1', hc17, if_neg, hX1, hX17, hX17', hX18, d2, d3, d4, d5, wrapI, hw2, d6]
                    exact hst2 _ (by simp only [↓reduceIte, reduceCtorEq, Za, Zb, Zc, Zd, Ze, Zf, Zg, Zh, Zi, Zj, Zk, Zl, Zm, Zn, Zo, Zp, Zq, Zr, Zs, Zt, Zu, Zv, gval, Zw, Zx, Zy, Zz, ZA, ZB, ZC, ZD, ZE, ZF, decide_eq_true_eq, ZG, ZH, ZI, ZJ, ZK, ZL, ZM, ZN, ZO, ZP, ZQ, ZR, ZS, Option.some.injEq, exists_eq_left', ZT, ZU, ZV, ZW, ZX, ZY, true_and, and_true, true_or, or_true, false_or, or_false, ite_true, ite_false, cond_true, cond_false, ZZ, Qa, if_true, if_false, decide_true, decide_false, Qb, Qc, Qd, Qe, Qf, Qg, Qh, Qi, Qj, Qk, Ql, Qm, Qn, Qo, Qp, rb0, rb1, rb2, rb3, rb4, tf0, tf1, tf2, tf3, tf4]) (by simp only [↓reduceIte, reduceCtorEq, Za, Zb, Zc, Zd, Ze, Zf, Zg, Zh, Zi, Zj, Zk, Zl, Zm, Zn, Zo, Zp, Zq, Zr, Zs, Zt, Zu, Zv, gval, Zw, Zx, Zy, Zz, ZA, ZB, ZC, ZD, ZE, ZF, decide_eq_true_eq, ZG, ZH, ZI, ZJ, ZK, ZL, ZM, ZN, ZO, ZP, ZQ, ZR, ZS, Option.some.injEq, exists_eq_left', ZT, ZU, ZV, ZW, ZX, ZY, true_and, and_true, true_or, or_true, false_or, or_false, ite_true, ite_false, cond_true, cond_false, ZZ, Qa, if_true, if_false, decide_true, decide_false, Qb, Qc, Qd, Qe, Qf, Qg, Qh, Qi, Qj, Qk, Ql, Qm, Qn, Qo, Qp, rb0, rb1, rb2, rb3, rb4, tf0, tf1, tf2, tf3, tf4]) (by rw [htl, if_pos (.inr (.inr d6))])
                  · simp (disch := (first | omega | rfl | (simp only [Heap.nx_upd, Heap.nx_new]; omega))) only [↓reduceIte, reduceCtorEq, Za, Zb, Zc, Zd, Ze, Zf, Zg, Zh, Zi, Zj, Zk, Zl, Zm, Zn, Zo, Zp, Zq, Zr, Zs, Zt, Zu, Zv, gval, Zw, Zx, Zy, Zz, ZA, ZB, ZC, ZD, ZE, ZF, decide_eq_true_eq, ZG, ZH, ZI, ZJ, ZK, ZL, ZM, ZN, ZO, ZP, ZQ, ZR, ZS, Option.some.injEq, exists_eq_left', ZT, ZU, ZV, ZW, ZX, ZY, true_and, and_true, true_or, or_true, false_or, or_false, ite_true, ite_false, cond_true, cond_false, ZZ, Qa, if_true, if_false, decide_true, decide_false, Qb, Qc, Qd, Qe, Qf, Qg, Qh, Qi, Qj, Qk, Ql, Qm, Qn, Qo, Qp, rb0, rb1, rb2, rb3, rb4, tf0, tf1, tf2, tf3, tf4, Heap.get_upd_ne, Heap.get_new_ne, Heap.get_new_at, overL_one, if_pos, stX_exactN, c5, d1', hc17, if_neg, hX1, hX17, hX17', hX18, d2, d3, d4, d5, wrapI, hw2, d6]
                    refine run_draw (ps := [(4, 8), (5, 8), (4, 9), (5, 9), (5, 13), (10, 13)]) (by kernel_rfl) (by kernel_rfl) ?_
                    have e2a : (2 + a1 : Int) = ((2 + a1.toNat : Nat) : Int) := by omega
                    have hmid : slS (some 1) (some ⟨bw, off + 17, none⟩) (r.length - 17) (c - 17) (some (.int .i64 2)) (some (.int .i64 (2 + a1))) none (h2.upd b (cellsB L1 .exact)).get = ret (.slice (some (if c - 17 = 2 then ⟨bw, off + 17, none⟩ else ⟨bw, off + 17 + 2, none⟩)) a1.toNat (c - 17 - 2)) := by
                      have := slS_mid (k := .i64) (k' := .i64) (n := r.length - 17) (off := off + 17) (c := c - 17) (l := 2) (hi := 2 + a1.toNat) hX1 (by omega) (by omega)
                      rw [e2a, show a1.toNat = 2 + a1.toNat - 2 by omega]
                      rw [show 2 + (2 + a1.toNat - 2) = 2 + a1.toNat by omega]
                      exact this
                    simp (disch := (first | omega | rfl | (simp only [Heap.nx_upd, Heap.nx_new]; omega))) only [↓reduceIte, reduceCtorEq, Za, Zb, Zc, Zd, Ze, Zf, Zg, Zh, Zi, Zj, Zk, Zl, Zm, Zn, Zo, Zp, Zq, Zr, Zs, Zt, Zu, Zv, gval, Zw, Zx, Zy, Zz, ZA, ZB, ZC, ZD, ZE, ZF, decide_eq_true_eq, ZG, ZH, ZI, ZJ, ZK, ZL, ZM, ZN, ZO, ZP, ZQ, ZR, ZS, Option.some.injEq, exists_eq_left', ZT, ZU, ZV, ZW, ZX, ZY, true_and, and_true, true_or, or_true, false_or, or_false, ite_true, ite_false, cond_true, cond_false, ZZ, Qa, if_true, if_false, decide_true, decide_false, Qb, Qc, Qd, Qe, Qf, Qg, Qh, Qi, Qj, Qk, Ql, Qm, Qn, Qo, Qp, rb0, rb1, rb2, rb3, rb4, tf0, tf1, tf2, tf3, tf4, Heap.get_upd_ne, Heap.get_new_ne, Heap.get_new_at, overL_one, if_pos, stX_exactN, hb1, hc17, if_neg, hX1, hX17, hX17', wrapI, hmid]
                    have hstl : (((r.drop 17).drop 2).take a1.toNat).length = a1.toNat := by rw [List.length_take, List.length_drop, hd]; omega
                    have hwst : Words (h2.upd b (cellsB L1 .exact)) 0 (.slice (some (if c - 17 = 2 then ⟨bw, off + 17, none⟩ else ⟨bw, off + 17 + 2, none⟩)) a1.toNat (c - 17 - 2)) (((r.drop 17).drop 2).take a1.toNat) := by
                      refine ⟨_, c - 17 - 2, by rw [hstl], ?_⟩
                      by_cases e : c - 17 = 2
                      · left; omega
                      · right
                        refine ⟨bw, off + 17 + 2, X, .ro, ⟨Nat.zero_le _, by simp (disch := (first | omega | rfl | (simp only [Heap.nx_upd, Heap.nx_new]; omega))) only [Heap.get_upd_ne, Heap.get_new_ne, Heap.get_new_at, Heap.get_upd_same, Heap.get_new_same, Heap.nx_upd, Heap.nx_new]; omega⟩, by rw [if_neg e], hX1, by omega, fun j hj => ?_⟩
                        rw [hstl] at hj
                        rw [show off + 17 + 2 + j = off + (19 + j) by omega, hXi (19 + j) (by omega), List.getElem?_take, if_pos hj, List.getElem?_drop, List.getElem?_drop, show 17 + (2 + j) = 19 + j by omega]
                    refine runCR_of (clone_spec h3 hwst (by omega) fun h3' v' hn3 hk3 hw3 hs3 => ?_)
                    obtain ⟨a', c', rfl⟩ := hs3
                    have hnu : (h2.upd b (cellsB L1 .exact)).nx = h2.nx := rfl
                    have hb3' : h3'.get b = some (cellsB L1 .exact) := (hk3 b (by rw [hnu]; exact hbn)).trans hb1
                    have hX3 : h3'.get bw = some (cellsB X .ro) := (hk3 bw (by rw [hnu]; omega)).trans hX1
                    have hll : (L1.set (i * 20 + 17) (.bool true)).length = L1.length := List.length_set
                    simp (disch := omega) only [↓reduceIte, reduceCtorEq, Za, Zb, Zc, Zd, Ze, Zf, Zg, Zh, Zi, Zj, Zk, Zl, Zm, Zn, Zo, Zp, Zq, Zr, Zs, Zt, Zu, Zv, gval, Zw, Zx, Zy, Zz, ZA, ZB, ZC, ZD, ZE, ZF, decide_eq_true_eq, ZG, ZH, ZI, ZJ, ZK, ZL, ZM, ZN, ZO, ZP, ZQ, ZR, ZS, Option.some.injEq, exists_eq_left', ZT, ZU, ZV, ZW, ZX, ZY, true_and, and_true, true_or, or_true, false_or, or_false, ite_true, ite_false, cond_true, cond_false, ZZ, Qa, if_true, if_false, decide_true, decide_false, Qb, Qc, Qd, Qe, Qf, Qg, Qh, Qi, Qj, Qk, Ql, Qm, Qn, Qo, Qp, rb0, rb1, rb2, rb3, rb4, tf0, tf1, tf2, tf3, tf4, hb3', hll, hL1l, if_pos, stX_exactN, overL_one, nbeq_ne, hstl]
                    refine ⟨by rw [hX1, hX3]; exact sameB_of rfl, ?_⟩
                    generalize hL2 : overL (L1.set (i * 20 + 17) (Value.bool true)) (i * 20 + 18) [Value.int IntKind.i64 a0, Value.slice a' a1.toNat c'] = L2
                    have hX4 : (h3'.upd b (cellsB L2 .exact)).get bw = some (cellsB X .ro) := by simp (disch := (first | omega | rfl | (simp only [Heap.nx_upd, Heap.nx_new]; omega))) only [Heap.get_upd_ne, Heap.get_new_ne, Heap.get_new_at, Heap.get_upd_same, Heap.get_new_same, Heap.nx_upd, Heap.nx_new]; exact hX3
                    have hfrm := slS_from (k := .i64) (n := r.length - 17) (off := off + 17) (c := c - 17) (l := 2 + a1.toNat) hX4 (by omega) (by omega)
                    rw [← e2a] at hfrm
                    have hwi : wrapF .i64 ((i : Int) + 1) = (i : Int) + 1 := wrapI (by omega) (by omega)
                    simp only [↓reduceIte, reduceCtorEq, Za, Zb, Zc, Zd, Ze, Zf, Zg, Zh, Zi, Zj, Zk, Zl, Zm, Zn, Zo, Zp, Zq, Zr, Zs, Zt, Zu, Zv, gval, Zw, Zx, Zy, Zz, ZA, ZB, ZC, ZD, ZE, ZF, decide_eq_true_eq, ZG, ZH, ZI, ZJ, ZK, ZL, ZM, ZN, ZO, ZP, ZQ, ZR, ZS, Option.some.injEq, exists_eq_left', ZT, ZU, ZV, ZW, ZX, ZY, true_and, and_true, true_or, or_true, false_or, or_false, ite_true, ite_false, cond_true, cond_false, ZZ, Qa, if_true, if_false, decide_true, decide_false, Qb, Qc, Qd, Qe, Qf, Qg, Qh, Qi, Qj, Qk, Ql, Qm, Qn, Qo, Qp, rb0, rb1, rb2, rb3, rb4, tf0, tf1, tf2, tf3, tf4, hfrm, e10, hwi]
                    have hro2 := ro_drop (h := h3'.upd b (cellsB L2 .exact)) (lo := h.nx) (b := bw) (off := off + 17) (c := c - 17) (n := 2 + a1.toNat) (r := r.drop 17) hbw hX4 (by rw [hd]; omega) (fun j hj => by rw [hd] at hj; rw [Nat.add_assoc, hXi (17 + j) (by omega), List.getElem?_drop]) (by rw [hd]; omega) (by rw [hd]; omega)
                    rw [hd] at hro2
                    have hone3 : one r = some (⟨r.take 15, p, true, a0, ((r.drop 17).drop 2).take a1.toNat⟩, (r.drop 17).drop (2 + a1.toNat)) := by
                      rw [hone2, htl, if_neg (by rintro (h | h | h) <;> omega)]
                    refine hQn _ _ _ (by omega) ⟨i + 1, _, _, _, L2, rfl, by omega, runK_succ hrun hone3, hro2, ?_, ?_, ?_, Heap.get_upd_same _ _ _, ?_, ?_, ?_, ?_, ?_⟩
                    · simp only [↓reduceIte, reduceCtorEq, Za, Zb, Zc, Zd, Ze, Zf, Zg, Zh, Zi, Zj, Zk, Zl, Zm, Zn, Zo, Zp, Zq, Zr, Zs, Zt, Zu, Zv, gval, Zw, Zx, Zy, Zz, ZA, ZB, ZC, ZD, ZE, ZF, decide_eq_true_eq, ZG, ZH, ZI, ZJ, ZK, ZL, ZM, ZN, ZO, ZP, ZQ, ZR, ZS, Option.some.injEq, exists_eq_left', ZT, ZU, ZV, ZW, ZX, ZY, true_and, and_true, true_or, or_true, false_or, or_false, ite_true, ite_false, cond_true, cond_false, ZZ, Qa, if_true, if_false, decide_true, decide_false, Qb, Qc, Qd, Qe, Qf, Qg, Qh, Qi, Qj, Qk, Ql, Qm, Qn, Qo, Qp, rb0, rb1, rb2, rb3, rb4, tf0, tf1, tf2, tf3, tf4]
                    · simp only [↓reduceIte, reduceCtorEq, Za, Zb, Zc, Zd, Ze, Zf, Zg, Zh, Zi, Zj, Zk, Zl, Zm, Zn, Zo, Zp, Zq, Zr, Zs, Zt, Zu, Zv, gval, Zw, Zx, Zy, Zz, ZA, ZB, ZC, ZD, ZE, ZF, decide_eq_true_eq, ZG, ZH, ZI, ZJ, ZK, ZL, ZM, ZN, ZO, ZP, ZQ, ZR, ZS, Option.some.injEq, exists_eq_left', ZT, ZU, ZV, ZW, ZX, ZY, true_and, and_true, true_or, or_true, false_or, or_false, ite_true, ite_false, cond_true, cond_false, ZZ, Qa, if_true, if_false, decide_true, decide_false, Qb, Qc, Qd, Qe, Qf, Qg, Qh, Qi, Qj, Qk, Ql, Qm, Qn, Qo, Qp, rb0, rb1, rb2, rb3, rb4, tf0, tf1, tf2, tf3, tf4, e4]
                    · simp only [↓reduceIte, reduceCtorEq, Za, Zb, Zc, Zd, Ze, Zf, Zg, Zh, Zi, Zj, Zk, Zl, Zm, Zn, Zo, Zp, Zq, Zr, Zs, Zt, Zu, Zv, gval, Zw, Zx, Zy, Zz, ZA, ZB, ZC, ZD, ZE, ZF, decide_eq_true_eq, ZG, ZH, ZI, ZJ, ZK, ZL, ZM, ZN, ZO, ZP, ZQ, ZR, ZS, Option.some.injEq, exists_eq_left', ZT, ZU, ZV, ZW, ZX, ZY, true_and, and_true, true_or, or_true, false_or, or_false, ite_true, ite_false, cond_true, cond_false, ZZ, Qa, if_true, if_false, decide_true, decide_false, Qb, Qc, Qd, Qe, Qf, Qg, Qh, Qi, Qj, Qk, Ql, Qm, Qn, Qo, Qp, rb0, rb1, rb2, rb3, rb4, tf0, tf1, tf2, tf3, tf4]
                      rfl
                    · rw [← hL2, length_overC (by simp only [List.length_set, List.length_cons, List.length_nil]; omega), List.length_set, hL1l]
                    · show b < h3'.nx; have : h2.nx ≤ h3'.nx := hn3; omega
                    · intro b' hb'
                      rw [Heap.get_upd_ne _ _ (by omega), hk3 b' (by rw [hnu]; omega)]
                      exact hkp b' hb'
                    · have hL2g : ∀ j, (j < i * 20 + 17 ∨ i * 20 + 20 ≤ j) → L2[j]? = L1[j]? := fun j hj => by
                        rw [← hL2, overC_get (by simp only [List.length_set, List.length_cons, List.length_nil]; omega)]
                        simp only [List.length_cons, List.length_nil]
                        rw [if_neg (by omega), set_get (by omega), if_neg (by omega)]
                      intro k x hx
                      rw [List.getElem?_append] at hx
                      split at hx
                      · have hki := hr1 k x hx
                        refine (hrec1 k x hx).of (by show h2.nx ≤ h3'.nx; exact hn3) (fun b' h1 h2 => ?_) (fun j h1 h2 => hL2g j (by omega))
                        rw [Heap.get_upd_ne _ _ (by omega), hk3 b' h2]
                      · have hcnt := runK_count i hrun
                        have hki : k = i := by
                          have := (List.getElem?_eq_some_iff.1 hx).1
                          simp only [List.length_cons, List.length_nil] at this
                          omega
                        subst hki
                        rw [hcnt, Nat.sub_self] at hx
                        simp only [List.getElem?_cons_zero, Option.some.injEq] at hx
                        subst hx
                        have hsv := hnew.setSaved true a0 (.slice a' a1.toNat c')
                        rw [hL2] at hsv
                        rw [hstl] at hw3
                        exact ⟨_, _, hsv, hp0.1, hH15.1, hH15.2, fun _ => ⟨hw3.keep (by rw [hnu]; omega) (Nat.le_refl _) (fun b' h1 h2 => by rw [Heap.get_upd_ne _ _ (by omega)]), by show (((r.drop 17).drop 2).take a1.toNat).length ≤ 32; omega, hb0.1, by show a0 ≤ 1048576; omega⟩⟩
                    · intro k h1 h2
                      refine (hfr1 k h1 h2).of (fun j h1 h2 => ?_)
                      rw [← hL2, overC_get (by simp only [List.length_set, List.length_cons, List.length_nil]; omega)]
                      simp only [List.length_cons, List.length_nil]
                      rw [if_neg (by omega), set_get (by omega), if_neg (by omega)]
            · simp (disch := (first | omega | rfl | (simp only [Heap.nx_upd, Heap.nx_new]; omega))) only [↓reduceIte, reduceCtorEq, Za, Zb, Zc, Zd, Ze, Zf, Zg, Zh, Zi, Zj, Zk, Zl, Zm, Zn, Zo, Zp, Zq, Zr, Zs, Zt, Zu, Zv, gval, Zw, Zx, Zy, Zz, ZA, ZB, ZC, ZD, ZE, ZF, decide_eq_true_eq, ZG, ZH, ZI, ZJ, ZK, ZL, ZM, ZN, ZO, ZP, ZQ, ZR, ZS, Option.some.injEq, exists_eq_left', ZT, ZU, ZV, ZW, ZX, ZY, true_and, and_true, true_or, or_true, false_or, or_false, ite_true, ite_false, cond_true, cond_false, ZZ, Qa, if_true, if_false, decide_true, decide_false, Qb, Qc, Qd, Qe, Qf, Qg, Qh, Qi, Qj, Qk, Ql, Qm, Qn, Qo, Qp, rb0, rb1, rb2, rb3, rb4, tf0, tf1, tf2, tf3, tf4, Heap.get_upd_ne, Heap.get_new_ne, Heap.get_new_at, overL_one, if_pos, stX_exactN, hb1, h9, h16, hL1l, c1, and_u64, hp0.1, hp0.2, z2, c2, z3, c3]
              exact hst _ (by simp only [↓reduceIte, reduceCtorEq, Za, Zb, Zc, Zd, Ze, Zf, Zg, Zh, Zi, Zj, Zk, Zl, Zm, Zn, Zo, Zp, Zq, Zr, Zs, Zt, Zu, Zv, gval, Zw, Zx, Zy, Zz, ZA, ZB, ZC, ZD, ZE, ZF, decide_eq_true_eq, ZG, ZH, ZI, ZJ, ZK, ZL, ZM, ZN, ZO, ZP, ZQ, ZR, ZS, Option.some.injEq, exists_eq_left', ZT, ZU, ZV, ZW, ZX, ZY, true_and, and_true, true_or, or_true, false_or, or_false, ite_true, ite_false, cond_true, cond_false, ZZ, Qa, if_true, if_false, decide_true, decide_false, Qb, Qc, Qd, Qe, Qf, Qg, Qh, Qi, Qj, Qk, Ql, Qm, Qn, Qo, Qp, rb0, rb1, rb2, rb3, rb4, tf0, tf1, tf2, tf3, tf4]) (by simp only [↓reduceIte, reduceCtorEq, Za, Zb, Zc, Zd, Ze, Zf, Zg, Zh, Zi, Zj, Zk, Zl, Zm, Zn, Zo, Zp, Zq, Zr, Zs, Zt, Zu, Zv, gval, Zw, Zx, Zy, Zz, ZA, ZB, ZC, ZD, ZE, ZF, decide_eq_true_eq, ZG, ZH, ZI, ZJ, ZK, ZL, ZM, ZN, ZO, ZP, ZQ, ZR, ZS, Option.some.injEq, exists_eq_left', ZT, ZU, ZV, ZW, ZX, ZY, true_and, and_true, true_or, or_true, false_or, or_false, ite_true, ite_false, cond_true, cond_false, ZZ, Qa, if_true, if_false, decide_true, decide_false, Qb, Qc, Qd, Qe, Qf, Qg, Qh, Qi, Qj, Qk, Ql, Qm, Qn, Qo, Qp, rb0, rb1, rb2, rb3, rb4, tf0, tf1, tf2, tf3, tf4]) (.inr (.inr (.inl c3)))
          · simp (disch := (first | omega | rfl | (simp only [Heap.nx_upd, Heap.nx_new]; omega))) only [↓reduceIte, reduceCtorEq, Za, Zb, Zc, Zd, Ze, Zf, Zg, Zh, Zi, Zj, Zk, Zl, Zm, Zn, Zo, Zp, Zq, Zr, Zs, Zt, Zu, Zv, gval, Zw, Zx, Zy, Zz, ZA, ZB, ZC, ZD, ZE, ZF, decide_eq_true_eq, ZG, ZH, ZI, ZJ, ZK, ZL, ZM, ZN, ZO, ZP, ZQ, ZR, ZS, Option.some.injEq, exists_eq_left', ZT, ZU, ZV, ZW, ZX, ZY, true_and, and_true, true_or, or_true, false_or, or_false, ite_true, ite_false, cond_true, cond_false, ZZ, Qa, if_true, if_false, decide_true, decide_false, Qb, Qc, Qd, Qe, Qf, Qg, Qh, Qi, Qj, Qk, Ql, Qm, Qn, Qo, Qp, rb0, rb1, rb2, rb3, rb4, tf0, tf1, tf2, tf3, tf4, Heap.get_upd_ne, Heap.get_new_ne, Heap.get_new_at, overL_one, if_pos, stX_exactN, hb1, h9, h16, hL1l, c1, and_u64, hp0.1, hp0.2, z2, c2]
            exact hst _ (by simp only [↓reduceIte, reduceCtorEq, Za, Zb, Zc, Zd, Ze, Zf, Zg, Zh, Zi, Zj, Zk, Zl, Zm, Zn, Zo, Zp, Zq, Zr, Zs, Zt, Zu, Zv, gval, Zw, Zx, Zy, Zz, ZA, ZB, ZC, ZD, ZE, ZF, decide_eq_true_eq, ZG, ZH, ZI, ZJ, ZK, ZL, ZM, ZN, ZO, ZP, ZQ, ZR, ZS, Option.some.injEq, exists_eq_left', ZT, ZU, ZV, ZW, ZX, ZY, true_and, and_true, true_or, or_true, false_or, or_false, ite_true, ite_false, cond_true, cond_false, ZZ, Qa, if_true, if_false, decide_true, decide_false, Qb, Qc, Qd, Qe, Qf, Qg, Qh, Qi, Qj, Qk, Ql, Qm, Qn, Qo, Qp, rb0, rb1, rb2, rb3, rb4, tf0, tf1, tf2, tf3, tf4]) (by simp only [↓reduceIte, reduceCtorEq, Za, Zb, Zc, Zd, Ze, Zf, Zg, Zh, Zi, Zj, Zk, Zl, Zm, Zn, Zo, Zp, Zq, Zr, Zs, Zt, Zu, Zv, gval, Zw, Zx, Zy, Zz, ZA, ZB, ZC, ZD, ZE, ZF, decide_eq_true_eq, ZG, ZH, ZI, ZJ, ZK, ZL, ZM, ZN, ZO, ZP, ZQ, ZR, ZS, Option.some.injEq, exists_eq_left', ZT, ZU, ZV, ZW, ZX, ZY, true_and, and_true, true_or, or_true, false_or, or_false, ite_true, ite_false, cond_true, cond_false, ZZ, Qa, if_true, if_false, decide_true, decide_false, Qb, Qc, Qd, Qe, Qf, Qg, Qh, Qi, Qj, Qk, Ql, Qm, Qn, Qo, Qp, rb0, rb1, rb2, rb3, rb4, tf0, tf1, tf2, tf3, tf4]) (.inr (.inl c2))
        · simp (disch := (first | omega | rfl | (simp only [Heap.nx_upd, Heap.nx_new]; omega))) only [↓reduceIte, reduceCtorEq, Za, Zb, Zc, Zd, Ze, Zf, Zg, Zh, Zi, Zj, Zk, Zl, Zm, Zn, Zo, Zp, Zq, Zr, Zs, Zt, Zu, Zv, gval, Zw, Zx, Zy, Zz, ZA, ZB, ZC, ZD, ZE, ZF, decide_eq_true_eq, ZG, ZH, ZI, ZJ, ZK, ZL, ZM, ZN, ZO, ZP, ZQ, ZR, ZS, Option.some.injEq, exists_eq_left', ZT, ZU, ZV, ZW, ZX, ZY, true_and, and_true, true_or, or_true, false_or, or_false, ite_true, ite_false, cond_true, cond_false, ZZ, Qa, if_true, if_false, decide_true, decide_false, Qb, Qc, Qd, Qe, Qf, Qg, Qh, Qi, Qj, Qk, Ql, Qm, Qn, Qo, Qp, rb0, rb1, rb2, rb3, rb4, tf0, tf1, tf2, tf3, tf4, Heap.get_upd_ne, Heap.get_new_ne, Heap.get_new_at, overL_one, if_pos, stX_exactN, hb1, h9, h16, hL1l, c1]
          exact hst _ (by simp only [↓reduceIte, reduceCtorEq, Za, Zb, Zc, Zd, Ze, Zf, Zg, Zh, Zi, Zj, Zk, Zl, Zm, Zn, Zo, Zp, Zq, Zr, Zs, Zt, Zu, Zv, gval, Zw, Zx, Zy, Zz, ZA, ZB, ZC, ZD, ZE, ZF, decide_eq_true_eq, ZG, ZH, ZI, ZJ, ZK, ZL, ZM, ZN, ZO, ZP, ZQ, ZR, ZS, Option.some.injEq, exists_eq_left', ZT, ZU, ZV, ZW, ZX, ZY, true_and, and_true, true_or, or_true, false_or, or_false, ite_true, ite_false, cond_true, cond_false, ZZ, Qa, if_true, if_false, decide_true, decide_false, Qb, Qc, Qd, Qe, Qf, Qg, Qh, Qi, Qj, Qk, Ql, Qm, Qn, Qo, Qp, rb0, rb1, rb2, rb3, rb4, tf0, tf1, tf2, tf3, tf4]) (by simp only [↓reduceIte, reduceCtorEq, Za, Zb, Zc, Zd, Ze, Zf, Zg, Zh, Zi, Zj, Zk, Zl, Zm, Zn, Zo, Zp, Zq, Zr, Zs, Zt, Zu, Zv, gval, Zw, Zx, Zy, Zz, ZA, ZB, ZC, ZD, ZE, ZF, decide_eq_true_eq, ZG, ZH, ZI, ZJ, ZK, ZL, ZM, ZN, ZO, ZP, ZQ, ZR, ZS, Option.some.injEq, exists_eq_left', ZT, ZU, ZV, ZW, ZX, ZY, true_and, and_true, true_or, or_true, false_or, or_false, ite_true, ite_false, cond_true, cond_false, ZZ, Qa, if_true, if_false, decide_true, decide_false, Qb, Qc, Qd, Qe, Qf, Qg, Qh, Qi, Qj, Qk, Ql, Qm, Qn, Qo, Qp, rb0, rb1, rb2, rb3, rb4, tf0, tf1, tf2, tf3, tf4]) (.inl c1)
    · obtain rfl : i = 8 := by omega
      simp (disch := (first | omega | rfl | (simp only [Heap.nx_upd, Heap.nx_new]; omega))) only [↓reduceIte, reduceCtorEq, Za, Zb, Zc, Zd, Ze, Zf, Zg, Zh, Zi, Zj, Zk, Zl, Zm, Zn, Zo, Zp, Zq, Zr, Zs, Zt, Zu, Zv, gval, Zw, Zx, Zy, Zz, ZA, ZB, ZC, ZD, ZE, ZF, decide_eq_true_eq, ZG, ZH, ZI, ZJ, ZK, ZL, ZM, ZN, ZO, ZP, ZQ, ZR, ZS, Option.some.injEq, exists_eq_left', ZT, ZU, ZV, ZW, ZX, ZY, true_and, and_true, true_or, or_true, false_or, or_false, ite_true, ite_false, cond_true, cond_false, ZZ, Qa, if_true, if_false, decide_true, decide_false, Qb, Qc, Qd, Qe, Qf, Qg, Qh, Qi, Qj, Qk, Ql, Qm, Qn, Qo, Qp, rb0, rb1, rb2, rb3, rb4, tf0, tf1, tf2, tf3, tf4, Heap.get_upd_ne, Heap.get_new_ne, Heap.get_new_at, overL_one, if_pos, stX_exactN, e10]
      exact hQx _ _ _ (by simp) (.inl ⟨rfl, rs, r, _, L, hrun, hro, by simp only [↓reduceIte, reduceCtorEq, Za, Zb, Zc, Zd, Ze, Zf, Zg, Zh, Zi, Zj, Zk, Zl, Zm, Zn, Zo, Zp, Zq, Zr, Zs, Zt, Zu, Zv, gval, Zw, Zx, Zy, Zz, ZA, ZB, ZC, ZD, ZE, ZF, decide_eq_true_eq, ZG, ZH, ZI, ZJ, ZK, ZL, ZM, ZN, ZO, ZP, ZQ, ZR, ZS, Option.some.injEq, exists_eq_left', ZT, ZU, ZV, ZW, ZX, ZY, true_and, and_true, true_or, or_true, false_or, or_false, ite_true, ite_false, cond_true, cond_false, ZZ, Qa, if_true, if_false, decide_true, decide_false, Qb, Qc, Qd, Qe, Qf, Qg, Qh, Qi, Qj, Qk, Ql, Qm, Qn, Qo, Qp, rb0, rb1, rb2, rb3, rb4, tf0, tf1, tf2, tf3, tf4, e0], by simp only [↓reduceIte, reduceCtorEq, Za, Zb, Zc, Zd, Ze, Zf, Zg, Zh, Zi, Zj, Zk, Zl, Zm, Zn, Zo, Zp, Zq, Zr, Zs, Zt, Zu, Zv, gval, Zw, Zx, Zy, Zz, ZA, ZB, ZC, ZD, ZE, ZF, decide_eq_true_eq, ZG, ZH, ZI, ZJ, ZK, ZL, ZM, ZN, ZO, ZP, ZQ, ZR, ZS, Option.some.injEq, exists_eq_left', ZT, ZU, ZV, ZW, ZX, ZY, true_and, and_true, true_or, or_true, false_or, or_false, ite_true, ite_false, cond_true, cond_false, ZZ, Qa, if_true, if_false, decide_true, decide_false, Qb, Qc, Qd, Qe, Qf, Qg, Qh, Qi, Qj, Qk, Ql, Qm, Qn, Qo, Qp, rb0, rb1, rb2, rb3, rb4, tf0, tf1, tf2, tf3, tf4, e4], hb, hL, hbn, hk, hrec⟩)
  · have hro : Ro h1' h.nx v w := by
      obtain ⟨a, c, e1, e2, e3⟩ := hv.is
      refine ⟨a, c, e1, e2, e3.imp id ?_⟩
      rintro ⟨b', off, X, g1, g2, g3, g4, g5⟩
      exact ⟨b', off, X, g1, g2, by rw [hb4 b' g1]; exact g3, g4, g5⟩
    refine ⟨0, [], w, v, newL, rfl, by omega, rfl, hro, ?_, ?_, ?_, hb3, rfl, hb2, hb4, fun k x hx => by simp at hx, fun k _ hk => newL_at hk⟩
    · simp only [↓reduceIte, reduceCtorEq, Za, Zb, Zc, Zd, Ze, Zf, Zg, Zh, Zi, Zj, Zk, Zl, Zm, Zn, Zo, Zp, Zq, Zr, Zs, Zt, Zu, Zv, gval, Zw, Zx, Zy, Zz, ZA, ZB, ZC, ZD, ZE, ZF, decide_eq_true_eq, ZG, ZH, ZI, ZJ, ZK, ZL, ZM, ZN, ZO, ZP, ZQ, ZR, ZS, Option.some.injEq, exists_eq_left', ZT, ZU, ZV, ZW, ZX, ZY, true_and, and_true, true_or, or_true, false_or, or_false, ite_true, ite_false, cond_true, cond_false, ZZ, Qa, if_true, if_false, decide_true, decide_false, Qb, Qc, Qd, Qe, Qf, Qg, Qh, Qi, Qj, Qk, Ql, Qm, Qn, Qo, Qp, rb0, rb1, rb2, rb3, rb4, tf0, tf1, tf2, tf3, tf4]
    · simp only [↓reduceIte, reduceCtorEq, Za, Zb, Zc, Zd, Ze, Zf, Zg, Zh, Zi, Zj, Zk, Zl, Zm, Zn, Zo, Zp, Zq, Zr, Zs, Zt, Zu, Zv, gval, Zw, Zx, Zy, Zz, ZA, ZB, ZC, ZD, ZE, ZF, decide_eq_true_eq, ZG, ZH, ZI, ZJ, ZK, ZL, ZM, ZN, ZO, ZP, ZQ, ZR, ZS, Option.some.injEq, exists_eq_left', ZT, ZU, ZV, ZW, ZX, ZY, true_and, and_true, true_or, or_true, false_or, or_false, ite_true, ite_false, cond_true, cond_false, ZZ, Qa, if_true, if_false, decide_true, decide_false, Qb, Qc, Qd, Qe, Qf, Qg, Qh, Qi, Qj, Qk, Ql, Qm, Qn, Qo, Qp, rb0, rb1, rb2, rb3, rb4, tf0, tf1, tf2, tf3, tf4]
    · simp only [↓reduceIte, reduceCtorEq, Za, Zb, Zc, Zd, Ze, Zf, Zg, Zh, Zi, Zj, Zk, Zl, Zm, Zn, Zo, Zp, Zq, Zr, Zs, Zt, Zu, Zv, gval, Zw, Zx, Zy, Zz, ZA, ZB, ZC, ZD, ZE, ZF, decide_eq_true_eq, ZG, ZH, ZI, ZJ, ZK, ZL, ZM, ZN, ZO, ZP, ZQ, ZR, ZS, Option.some.injEq, exists_eq_left', ZT, ZU, ZV, ZW, ZX, ZY, true_and, and_true, true_or, or_true, false_or, or_false, ite_true, ite_false, cond_true, cond_false, ZZ, Qa, if_true, if_false, decide_true, decide_false, Qb, Qc, Qd, Qe, Qf, Qg, Qh, Qi, Qj, Qk, Ql, Qm, Qn, Qo, Qp, rb0, rb1, rb2, rb3, rb4, tf0, tf1, tf2, tf3, tf4]
  · rintro ex e h2 - (⟨rfl, rs, r, t0, L, hrun, hro, e0, e4, hb, hL, hbn, hk, hrec⟩ | ⟨rfl, e2, e3, hn, hnx, hk⟩)
    · obtain ⟨a, c, rfl, hac, hx⟩ := hro.is
      by_cases hz : r.length = 0
      · have hr0 : r = [] := List.eq_nil_of_length_eq_zero hz
        have hz' : ¬ (0 : Int) < (r.length : Int) := by omega
        simp (disch := (first | omega | rfl | (simp only [Heap.nx_upd, Heap.nx_new]; omega))) only [↓reduceIte, reduceCtorEq, Za, Zb, Zc, Zd, Ze, Zf, Zg, Zh, Zi, Zj, Zk, Zl, Zm, Zn, Zo, Zp, Zq, Zr, Zs, Zt, Zu, Zv, gval, Zw, Zx, Zy, Zz, ZA, ZB, ZC, ZD, ZE, ZF, decide_eq_true_eq, ZG, ZH, ZI, ZJ, ZK, ZL, ZM, ZN, ZO, ZP, ZQ, ZR, ZS, Option.some.injEq, exists_eq_left', ZT, ZU, ZV, ZW, ZX, ZY, true_and, and_true, true_or, or_true, false_or, or_false, ite_true, ite_false, cond_true, cond_false, ZZ, Qa, if_true, if_false, decide_true, decide_false, Qb, Qc, Qd, Qe, Qf, Qg, Qh, Qi, Qj, Qk, Ql, Qm, Qn, Qo, Qp, rb0, rb1, rb2, rb3, rb4, tf0, tf1, tf2, tf3, tf4, Heap.get_upd_ne, Heap.get_new_ne, Heap.get_new_at, overL_one, if_pos, stX_exactN, e0, e4, hz']
        exact hok h2 b L rs (by rw [hrun, hr0]) hb1 hbn hb hL hrec (by omega) hk
      · have hz' : (0 : Int) < (r.length : Int) := by omega
        simp (disch := (first | omega | rfl | (simp only [Heap.nx_upd, Heap.nx_new]; omega))) only [↓reduceIte, reduceCtorEq, Za, Zb, Zc, Zd, Ze, Zf, Zg, Zh, Zi, Zj, Zk, Zl, Zm, Zn, Zo, Zp, Zq, Zr, Zs, Zt, Zu, Zv, gval, Zw, Zx, Zy, Zz, ZA, ZB, ZC, ZD, ZE, ZF, decide_eq_true_eq, ZG, ZH, ZI, ZJ, ZK, ZL, ZM, ZN, ZO, ZP, ZQ, ZR, ZS, Option.some.injEq, exists_eq_left', ZT, ZU, ZV, ZW, ZX, ZY, true_and, and_true, true_or, or_true, false_or, or_false, ite_true, ite_false, cond_true, cond_false, ZZ, Qa, if_true, if_false, decide_true, decide_false, Qb, Qc, Qd, Qe, Qf, Qg, Qh, Qi, Qj, Qk, Ql, Qm, Qn, Qo, Qp, rb0, rb1, rb2, rb3, rb4, tf0, tf1, tf2, tf3, tf4, Heap.get_upd_ne, Heap.get_new_ne, Heap.get_new_at, overL_one, if_pos, stX_exactN, e0, e4, hz']
        exact hno h2 (fun ⟨l, hl⟩ => by rw [hrun] at hl; simp only [Option.some.injEq, Prod.mk.injEq] at hl; exact hz (by rw [hl.2]; rfl)) (by omega) hk
    · simp only [↓reduceIte, reduceCtorEq, Za, Zb, Zc, Zd, Ze, Zf, Zg, Zh, Zi, Zj, Zk, Zl, Zm, Zn, Zo, Zp, Zq, Zr, Zs, Zt, Zu, Zv, gval, Zw, Zx, Zy, Zz, ZA, ZB, ZC, ZD, ZE, ZF, decide_eq_true_eq, ZG, ZH, ZI, ZJ, ZK, ZL, ZM, ZN, ZO, ZP, ZQ, ZR, ZS, Option.some.injEq, exists_eq_left', ZT, ZU, ZV, ZW, ZX, ZY, true_and, and_true, true_or, or_true, false_or, or_false, ite_true, ite_false, cond_true, cond_false, ZZ, Qa, if_true, if_false, decide_true, decide_false, Qb, Qc, Qd, Qe, Qf, Qg, Qh, Qi, Qj, Qk, Ql, Qm, Qn, Qo, Qp, rb0, rb1, rb2, rb3, rb4, tf0, tf1, tf2, tf3, tf4, e2, e3]
      exact hno h2 hn hnx hk
end Go.Proofs.Ytmmjeifdgfolmaa
end
section
/- signals.Encode: all words of a machine. Conditions: its records lie as the rule names. -/
namespace Go.Proofs.Ytmmjeifdgfolmaa
open Go.AM Go.AM.SigRead
open Nat renaming reduceBEq → Za, reduceEqDiff → Zb, reduceAdd → Zc, reduceSub → Zd, reduceMul → Ze, reduceLT → Zf, reduceLeDiff → Zg, reduceDiv → Zh, reduceMod → Zi, reducePow → Zj, blt_eq → ZF, zero_add → Qc, add_zero → Qd
open Int renaming reduceAdd → Zk, reduceSub → Zl, reduceMul → Zm, reduceLT → Zn, reduceLE → Zo, reduceEq → Zp, reduceNe → Zq, reduceNeg → Zr, reduceToNat → Zs, reduceDiv → Zt, reduceMod → Zu, reducePow → Zv, cast_ofNat_Int → Zw, toNat_natCast → Qb
open List renaming set_cons_zero → Zx, set_cons_succ → Zy, map_toArray → Zz, cons_append → ZA, nil_append → ZB, append_nil → ZC, all_cons → ZD, all_nil → ZE, getElem?_cons_zero → ZJ, getElem?_cons_succ → ZK, length_cons → ZL, length_nil → ZM, map_cons → ZN, map_nil → ZO, isEmpty_nil → Qe, any_cons → Qf, any_nil → Qg, drop_zero → Qk, drop_succ_cons → Ql, take_succ_cons → Qm, take_zero → Qn, take_nil → Qo, drop_nil → Qp
open Bool renaming and_true → ZG, true_and → ZH, and_self → ZI, not_true → ZT, not_false → ZU, true_eq_false → ZZ, false_eq_true → Qa, or_false → Qh, false_or → Qi, and_eq_true → Qj
open Option renaming map_some → ZP, map_none → ZQ, bind_some → ZR, getD_some → ZS, isNone_some → ZV, isNone_none → ZW, isSome_some → ZX, isSome_none → ZY
set_option linter.unusedSimpArgs false
variable {sp : Special} {h : Heap} {R : Out → Heap → Prop}
theorem bs1_47 (v : Int) (nx : Nat) : effBuildSlice Try.prog 47 1 [(0, .int .u64 v)] nx = some ⟨.slice (some ⟨nx, 0, none⟩) 1 1, [], [cellsB [.int .u64 v] .exact]⟩ := by
  rw [u_buildSlice 47 1 nx _ mk_47 (by omega)]; rfl
theorem bs3_47 (u v w : Int) (nx : Nat) : effBuildSlice Try.prog 47 3 [(0, .int .u64 u), (1, .int .u64 v), (2, .int .u64 w)] nx = some ⟨.slice (some ⟨nx, 0, none⟩) 3 3, [], [cellsB [.int .u64 u, .int .u64 v, .int .u64 w] .exact]⟩ := by
  rw [u_buildSlice 47 3 nx _ mk_47 (by omega)]; rfl
abbrev u64s (l : List Int) : List Value := l.map (.int .u64 ·)
/-- a row of words that grows. -/
structure Grown (h : Heap) (lo : Nat) (b : Option Nat) (l : List Int) (v : Value) : Prop where
  is : (b = none ∧ v = .slice none 0 0 ∧ l = []) ∨ ∃ b', b = some b' ∧ lo ≤ b' ∧ b' < h.nx ∧ v = .slice (some ⟨b', 0, none⟩) l.length l.length ∧ h.get b' = some (cellsB (u64s l) (.loose 1))
theorem Grown.of {h' : Heap} {lo : Nat} {b : Option Nat} {l : List Int} {v : Value} (x : Grown h lo b l v) (hn : h.nx ≤ h'.nx) (hk : ∀ b', b = some b' → h'.get b' = h.get b') : Grown h' lo b l v := by
  rcases x.is with ⟨h1, h2, h3⟩ | ⟨b', h1, h2, h3, h4, h5⟩
  · exact ⟨.inl ⟨h1, h2, h3⟩⟩
  · exact ⟨.inr ⟨b', h1, h2, by omega, h4, (hk b' h1).trans h5⟩⟩
theorem Grown.lt {lo : Nat} {b : Option Nat} {l : List Int} {v : Value} (x : Grown h lo b l v) : ∀ b', b = some b' → lo ≤ b' ∧ b' < h.nx := by
  intro b' hb'
  rcases x.is with ⟨h1, _, _⟩ | ⟨b'', h1, h2, h3, _, _⟩
  · rw [h1] at hb'; cases hb'
  · rw [h1] at hb'; cases hb'; exact ⟨h2, h3⟩
theorem Grown.ne {lo : Nat} {b : Option Nat} {l : List Int} {v : Value} (x : Grown h lo b l v) {b' : Nat} (hb : b' < lo) : b ≠ some b' := fun e => by
  have := x.lt b' e; omega
theorem Words.first {lo : Nat} {a : Option Addr} {c : Nat} {l : List Int} (x : Words h lo (.slice a l.length c) l) : firstL h.get 1 l.length (.slice a l.length c) = some (u64s l) := by
  obtain ⟨a', c', he, hx⟩ := x.is
  cases he
  rcases hx with hx | ⟨b, off, X, k, h1, rfl, h3, h4, h5⟩
  · rw [hx, List.eq_nil_of_length_eq_zero hx]; rfl
  · rw [firstL_slc _ _ _ _ _ _ _ _ _ h3 (by omega)]
    congr 1
    apply List.ext_getElem?
    intro j
    rw [List.getElem?_take, List.getElem?_map]
    by_cases hj : j < l.length
    · rw [if_pos (by omega), List.getElem?_drop, h5 j hj]
    · rw [if_neg (by omega), List.getElem?_eq_none (by omega)]; rfl
theorem Grown.new {lo : Nat} {b : Option Nat} {l : List Int} {v : Value} (x : Grown h lo b l v) {c : Blk} : Grown (h.new c) lo b l v :=
  x.of (by rw [Heap.nx_new]; omega) fun b' hb' => by rw [Heap.get_new_ne _ _ (by have := x.lt b' hb'; omega)]
theorem Grown.words {lo : Nat} {b : Option Nat} {l : List Int} {v : Value} (x : Grown h lo b l v) : Words h lo v l := by
  rcases x.is with ⟨h1, rfl, rfl⟩ | ⟨b', h1, h2, h3, rfl, h5⟩
  · exact ⟨none, 0, rfl, .inl rfl⟩
  · refine ⟨_, _, rfl, .inr ⟨b', 0, _, _, ⟨h2, h3⟩, rfl, h5, by simp, fun i hi => ?_⟩⟩
    rw [Nat.zero_add, List.getElem?_map]
theorem grow {lo : Nat} {b : Option Nat} {l xs : List Int} {v x : Value} (g : Grown h lo b l v) (hlo : lo ≤ h.nx) (hx : lenV x = some xs.length) (hnew : firstL h.get 1 xs.length x = some (u64s xs)) (hsz : l.length + xs.length ≤ 20000000000) :
    ∃ E h1 b1 w, aAppend Try.prog #[47, 47] v x h.get h.nx = some E ∧ E.val = w ∧ h.apply E = h1 ∧ Grown h1 lo b1 (l ++ xs) w ∧ h.nx ≤ h1.nx ∧ (∀ b', b ≠ some b' → b' < h.nx → h1.get b' = h.get b') ∧ (∀ b', b1 = some b' → b = some b' ∨ h.nx ≤ b') := by
  rcases g.is with ⟨rfl, rfl, rfl⟩ | ⟨b', rfl, h2, h3, rfl, h5⟩
  · cases xs with
    | nil =>
      refine ⟨⟨.slice none 0 0, [], []⟩, h, none, .slice none 0 0, ?_, rfl, rfl, ⟨.inl ⟨rfl, rfl, rfl⟩⟩, ?_, fun b' _ _ => ?_, fun b' hb' => by cases hb'⟩
      · rw [aAppend_unf (appT_ok app_47_47) none 0 0 0 x _ _ hx (by omega) hnew]
        rfl
      · exact Nat.le_refl _
      · rfl
    | cons y ys =>
      refine ⟨_, _, some h.nx, _, aAppend_nil app_47_47 (y :: ys).length x _ _ hx (by simp) (by simp only [List.length_nil] at hsz; omega) hnew, rfl, rfl, ⟨.inr ⟨h.nx, rfl, hlo, ?_, rfl, ?_⟩⟩, ?_, fun b' _ hb' => ?_, fun b' hb' => ?_⟩
      · rw [Heap.apply_nw, Heap.nx_new]; omega
      · rw [Heap.apply_nw, Heap.get_new_same]; rfl
      · rw [Heap.apply_nw, Heap.nx_new]; omega
      · rw [Heap.apply_nw, Heap.get_new_ne _ _ (by omega)]
      · cases hb'; exact .inr (Nat.le_refl _)
  · by_cases hz : xs.length = 0
    · have hxs : xs = [] := List.eq_nil_of_length_eq_zero hz
      subst hxs
      have hlen : (u64s l).length = l.length := by simp
      refine ⟨⟨.slice (some ⟨b', 0, none⟩) l.length l.length, [(b', cellsB (u64s l) (.loose 1))], []⟩, h.upd b' (cellsB (u64s l) (.loose 1)), some b', _, ?_, rfl, rfl, ⟨.inr ⟨b', rfl, h2, ?_, ?_, ?_⟩⟩, ?_, fun b'' hb'' _ => ?_, fun b'' hb'' => .inl hb''⟩
      · rw [aAppend_unf (appT_ok app_47_47) _ l.length l.length 0 x _ _ hx (by simp only [List.length_nil] at hsz; omega) hnew, if_pos (by omega)]
        simp only [h5, cellsB]
        rw [if_pos (by simp)]
        rfl
      · rw [Heap.nx_upd]; exact h3
      · simp
      · rw [Heap.get_upd_same, List.append_nil]
      · exact Nat.le_refl _
      · rw [Heap.get_upd_ne _ _ (fun e => hb'' (by rw [e]))]
    · refine ⟨_, _, some h.nx, _, aAppend_loose app_47_47 b' l.length xs.length x _ _ h5 (by simp) hx hz (by omega) hnew, rfl, rfl, ⟨.inr ⟨h.nx, rfl, hlo, ?_, by simp, ?_⟩⟩, ?_, fun b'' hb'' hn => ?_, fun b'' hb'' => ?_⟩
      · rw [Heap.apply_wr_nw, Heap.nx_new, Heap.nx_upd]; omega
      · rw [Heap.apply_wr_nw, Heap.get_new_at _ (by rw [Heap.nx_upd]; omega)]; simp
      · rw [Heap.apply_wr_nw, Heap.nx_new, Heap.nx_upd]; omega
      · rw [Heap.apply_wr_nw, Heap.get_new_ne _ _ (by rw [Heap.nx_upd]; omega), Heap.get_upd_ne _ _ (fun e => hb'' (by rw [e]))]
      · cases hb''; exact .inr (Nat.le_refl _)
end Go.Proofs.Ytmmjeifdgfolmaa
end
section
/- signals.Encode: all words of a machine. Conditions: its records lie as the rule names. -/
namespace Go.Proofs.Ytmmjeifdgfolmaa
open Go.AM Go.AM.SigRead
open Nat renaming reduceBEq → Za, reduceEqDiff → Zb, reduceAdd → Zc, reduceSub → Zd, reduceMul → Ze, reduceLT → Zf, reduceLeDiff → Zg, reduceDiv → Zh, reduceMod → Zi, reducePow → Zj, blt_eq → ZF, zero_add → Qc, add_zero → Qd
open Int renaming reduceAdd → Zk, reduceSub → Zl, reduceMul → Zm, reduceLT → Zn, reduceLE → Zo, reduceEq → Zp, reduceNe → Zq, reduceNeg → Zr, reduceToNat → Zs, reduceDiv → Zt, reduceMod → Zu, reducePow → Zv, cast_ofNat_Int → Zw, toNat_natCast → Qb
open List renaming set_cons_zero → Zx, set_cons_succ → Zy, map_toArray → Zz, cons_append → ZA, nil_append → ZB, append_nil → ZC, all_cons → ZD, all_nil → ZE, getElem?_cons_zero → ZJ, getElem?_cons_succ → ZK, length_cons → ZL, length_nil → ZM, map_cons → ZN, map_nil → ZO, isEmpty_nil → Qe, any_cons → Qf, any_nil → Qg, drop_zero → Qk, drop_succ_cons → Ql, take_succ_cons → Qm, take_zero → Qn, take_nil → Qo, drop_nil → Qp
open Bool renaming and_true → ZG, true_and → ZH, and_self → ZI, not_true → ZT, not_false → ZU, true_eq_false → ZZ, false_eq_true → Qa, or_false → Qh, false_or → Qi, and_eq_true → Qj
open Option renaming map_some → ZP, map_none → ZQ, bind_some → ZR, getD_some → ZS, isNone_some → ZV, isNone_none → ZW, isSome_some → ZX, isSome_none → ZY
set_option linter.unusedSimpArgs false
variable {sp : Special} {h : Heap} {R : Out → Heap → Prop}
theorem encs_take {l : List SRec} {i : Nat} {x : SRec} (hx : l[i]? = some x) : encs (l.take (i + 1)) = encs (l.take i) ++ enc x := by
  obtain ⟨hi, rfl⟩ := List.getElem?_eq_some_iff.1 hx
  rw [List.take_succ_eq_append_getElem hi, encs_append, encs_one]
theorem overL_all {Z M : List Value} (h : Z.length = M.length) : overL Z 0 M = M := by
  unfold overL
  rw [List.take_zero, Nat.zero_add, List.drop_eq_nil_of_le (by omega), List.nil_append, List.append_nil]
theorem enc_len {x : SRec} (h1 : x.H.length = 15) (h2 : x.st.length ≤ 32) : (enc x).length ≤ 60 := by
  unfold enc
  split <;> simp only [List.length_append, List.length_cons, List.length_nil] <;> omega
set_option maxRecDepth 100000 in
theorem encode_spec (h0 : (sp 47).isNone = true) {b lo : Nat} {L : List Value} {l : List SRec} (hb : h.get b = some (cellsB L .exact)) (hbn : b < h.nx) (hL : L.length = 160) (hl : l.length = 8) (hrec : ∀ k x, l[k]? = some x → RecAt h lo L k x)
    (hR : ∀ h' v, Words h' h.nx v (encs l) → h.nx ≤ h'.nx → (∀ b, b < h.nx → h'.get b = h.get b) → R (.ret v) h') : WF Try.prog 0 sp 47 [.pointer (some ⟨b, 0, none⟩)] h R := by
  refine wf_fn (fn := Try.f47) h0 rfl (by kernel_rfl) rfl ?_
  have ht : L.take 160 = L := by rw [List.take_of_length_le (by omega)]
  simp (disch := (first | omega | rfl | (simp only [Heap.nx_upd, Heap.nx_new]; omega))) only [↓reduceIte, reduceCtorEq, Za, Zb, Zc, Zd, Ze, Zf, Zg, Zh, Zi, Zj, Zk, Zl, Zm, Zn, Zo, Zp, Zq, Zr, Zs, Zt, Zu, Zv, gval, Zw, Zx, Zy, Zz, ZA, ZB, ZC, ZD, ZE, ZF, decide_eq_true_eq, ZG, ZH, ZI, ZJ, ZK, ZL, ZM, ZN, ZO, ZP, ZQ, ZR, ZS, Option.some.injEq, exists_eq_left', ZT, ZU, ZV, ZW, ZX, ZY, true_and, and_true, true_or, or_true, false_or, or_false, ite_true, ite_false, cond_true, cond_false, ZZ, Qa, if_true, if_false, decide_true, decide_false, Qb, Qc, Qd, Qe, Qf, Qg, Qh, Qi, Qj, Qk, Ql, Qm, Qn, Qo, Qp, rb0, rb1, rb2, rb3, rb4, tf0, tf1, tf2, tf3, tf4, Heap.get_upd_ne, Heap.get_new_ne, Heap.get_new_at, overL_one, if_pos, stX_exactN, Try.f47, hb, hL, ht]
  refine run_loop2 rfl (fun n e h2 => ∃ (i : Nat) (o : Option Nat) (v : Value), n = 8 - i ∧ i ≤ 8 ∧ e.at 3 = v ∧ e.at 11 = .agg L.toArray ∧ e.at 12 = .int .i64 i ∧ Grown h2 h.nx o (encs (l.take i)) v ∧ (encs (l.take i)).length ≤ i * 60 ∧ h.nx ≤ h2.nx ∧ (∀ b, b < h.nx → h2.get b = h.get b))
    (fun ex e h2 => ex = .exit 0 ∧ ∃ (o : Option Nat) (v : Value), e.at 3 = v ∧ Grown h2 h.nx o (encs l) v ∧ h.nx ≤ h2.nx ∧ (∀ b, b < h.nx → h2.get b = h.get b)) ?_ 8 _ _ ?_ ?_
  · rintro n e h2 ⟨i, o, v, rfl, hi, e3, e11, e12, hg, hgl, hn, hk⟩ Q' hQn hQx
    by_cases hc : i < 8
    · have hc1 : (i : Int) < 8 := by omega
      obtain ⟨x, hx⟩ : ∃ x, l[i]? = some x := ⟨_, List.getElem?_eq_getElem (by omega)⟩
      obtain ⟨H, stk, g1, g2, g3, g4, g5⟩ := (hrec i x hx).is
      obtain ⟨M, hM⟩ : ∃ M, (L.drop (i * 20)).take 20 = M := ⟨_, rfl⟩
      have hMl : M.length = 20 := by rw [← hM, List.length_take, List.length_drop]; omega
      have hMg : ∀ j, j < 20 → M[j]? = L[i * 20 + j]? := fun j hj => by rw [← hM, List.getElem?_take, if_pos hj, List.getElem?_drop]
      have hov : ∀ Z : List Value, Z.length = 20 → overL Z 0 M = M := fun Z hZ => by rw [overL_all (hZ.trans hMl.symm)]
      have hi140 : i * 20 ≤ 140 := by omega
      simp (disch := (first | omega | rfl | (simp only [Heap.nx_upd, Heap.nx_new]; omega))) only [↓reduceIte, reduceCtorEq, Za, Zb, Zc, Zd, Ze, Zf, Zg, Zh, Zi, Zj, Zk, Zl, Zm, Zn, Zo, Zp, Zq, Zr, Zs, Zt, Zu, Zv, gval, Zw, Zx, Zy, Zz, ZA, ZB, ZC, ZD, ZE, ZF, decide_eq_true_eq, ZG, ZH, ZI, ZJ, ZK, ZL, ZM, ZN, ZO, ZP, ZQ, ZR, ZS, Option.some.injEq, exists_eq_left', ZT, ZU, ZV, ZW, ZX, ZY, true_and, and_true, true_or, or_true, false_or, or_false, ite_true, ite_false, cond_true, cond_false, ZZ, Qa, if_true, if_false, decide_true, decide_false, Qb, Qc, Qd, Qe, Qf, Qg, Qh, Qi, Qj, Qk, Ql, Qm, Qn, Qo, Qp, rb0, rb1, rb2, rb3, rb4, tf0, tf1, tf2, tf3, tf4, Heap.get_upd_ne, Heap.get_new_ne, Heap.get_new_at, overL_one, if_pos, stX_exactN, e3, e11, e12, hc1, hL, u_index _ _ _ arr_99, hM, hMl, hi140]
      rw [hov _ rfl, Heap.upd_new]
      obtain ⟨h3, hh3⟩ : ∃ h3, h2.new (cellsB M .exact) = h3 := ⟨_, rfl⟩
      have hn3 : h3.nx = h2.nx + 1 := by rw [← hh3, Heap.nx_new]
      have hM3 : h3.get h2.nx = some (cellsB M .exact) := by rw [← hh3, Heap.get_new_same]
      have hg3 : Grown h3 h.nx o (encs (l.take i)) v := hg.of (by omega) fun b' hb' => by
        rw [← hh3, Heap.get_new_ne _ _ ?_]
        rcases hg.is with ⟨q1, q2, q3⟩ | ⟨b'', q1, q2, q3, q4, q5⟩
        · rw [q1] at hb'; cases hb'
        · rw [q1] at hb'; cases hb'; omega
      rw [hh3]
      simp (disch := (first | omega | rfl | (simp only [Heap.nx_upd, Heap.nx_new]; omega))) only [↓reduceIte, reduceCtorEq, Za, Zb, Zc, Zd, Ze, Zf, Zg, Zh, Zi, Zj, Zk, Zl, Zm, Zn, Zo, Zp, Zq, Zr, Zs, Zt, Zu, Zv, gval, Zw, Zx, Zy, Zz, ZA, ZB, ZC, ZD, ZE, ZF, decide_eq_true_eq, ZG, ZH, ZI, ZJ, ZK, ZL, ZM, ZN, ZO, ZP, ZQ, ZR, ZS, Option.some.injEq, exists_eq_left', ZT, ZU, ZV, ZW, ZX, ZY, true_and, and_true, true_or, or_true, false_or, or_false, ite_true, ite_false, cond_true, cond_false, ZZ, Qa, if_true, if_false, decide_true, decide_false, Qb, Qc, Qd, Qe, Qf, Qg, Qh, Qi, Qj, Qk, Ql, Qm, Qn, Qo, Qp, rb0, rb1, rb2, rb3, rb4, tf0, tf1, tf2, tf3, tf4, Heap.get_upd_ne, Heap.get_new_ne, Heap.get_new_at, overL_one, if_pos, stX_exactN, slP]
      have hH : (M.drop 1).take (15 * 1) = u64s x.H := by
        apply List.ext_getElem?
        intro j
        rw [List.getElem?_take, List.getElem?_map]
        by_cases hj : j < 15
        · rw [if_pos (by omega), List.getElem?_drop, hMg _ (by omega), g1.hd (1 + j) (by omega), g4 j hj, Nat.add_comm 1 j]; rfl
        · rw [if_neg (by omega), List.getElem?_eq_none (by omega)]; rfl
      have hM16 : M[16]? = some (.int .u64 x.p) := by rw [hMg 16 (by omega), g1.pend]; congr 2; omega
      have hM17 : M[17]? = some (.bool x.i) := by rw [hMg 17 (by omega), g1.inn]
      have hM18 : M[18]? = some (.int .i64 x.pc) := by rw [hMg 18 (by omega), g1.pc]
      have hM19 : M[19]? = some stk := by rw [hMg 19 (by omega), g1.stk]
      have hi60 : i * 60 ≤ 480 := by omega
      obtain ⟨E4, h4, o4, v4, a1, a2, a3, hg4, hn4, hk4, ho4⟩ := grow (xs := x.H) hg3 (by omega) (x := .slice (some ⟨h2.nx, 1, none⟩) 15 15) (by rw [g3]; rfl) (by rw [g3, firstL_slc _ _ _ _ _ _ _ _ _ hM3 (by omega), hH]) (by omega)
      have hne3 : o ≠ some h2.nx := by
        rcases hg.is with ⟨q1, q2, q3⟩ | ⟨b'', q1, q2, q3, q4, q5⟩
        · rw [q1]; simp
        · rw [q1]; intro e; cases e; omega
      have hM4 : h4.get h2.nx = some (cellsB M .exact) := (hk4 _ hne3 (by omega)).trans hM3
      rw [a1]
      have hlt := hg4.lt
      have hnz : o4 ≠ some h2.nx ∧ h2.nx < h4.nx := by
        refine ⟨fun e => ?_, by omega⟩
        rcases ho4 _ e with q | q
        · exact hne3 q
        · omega
      have hx1 := g1.hd
      simp (disch := (first | omega | rfl | (simp only [Heap.nx_upd, Heap.nx_new]; omega))) only [↓reduceIte, reduceCtorEq, Za, Zb, Zc, Zd, Ze, Zf, Zg, Zh, Zi, Zj, Zk, Zl, Zm, Zn, Zo, Zp, Zq, Zr, Zs, Zt, Zu, Zv, gval, Zw, Zx, Zy, Zz, ZA, ZB, ZC, ZD, ZE, ZF, decide_eq_true_eq, ZG, ZH, ZI, ZJ, ZK, ZL, ZM, ZN, ZO, ZP, ZQ, ZR, ZS, Option.some.injEq, exists_eq_left', ZT, ZU, ZV, ZW, ZX, ZY, true_and, and_true, true_or, or_true, false_or, or_false, ite_true, ite_false, cond_true, cond_false, ZZ, Qa, if_true, if_false, decide_true, decide_false, Qb, Qc, Qd, Qe, Qf, Qg, Qh, Qi, Qj, Qk, Ql, Qm, Qn, Qo, Qp, rb0, rb1, rb2, rb3, rb4, tf0, tf1, tf2, tf3, tf4, Heap.get_upd_ne, Heap.get_new_ne, Heap.get_new_at, overL_one, if_pos, stX_exactN, a2, a3, hM4, hMl, hM16, bs1_47]
      obtain ⟨E5, h5, o5, v5, b1, b2, b3, hg5, hn5, hk5, ho5⟩ := grow (h := h4.new (cellsB [.int .u64 x.p] .exact)) (xs := [x.p]) (hg4.new) (by simp (disch := (first | omega | rfl | (simp only [Heap.nx_upd, Heap.nx_new]; omega))) only [Heap.get_upd_ne, Heap.get_new_ne, Heap.get_new_at, Heap.get_upd_same, Heap.get_new_same, Heap.nx_upd, Heap.nx_new]; omega) (x := .slice (some ⟨h4.nx, 0, none⟩) 1 1) rfl (by rw [firstL_slc _ _ _ _ _ _ _ _ _ (Heap.get_new_same _ _) (by simp)]; rfl) (by simp only [List.length_append, List.length_cons, List.length_nil]; omega)
      have hM5 : h5.get h2.nx = some (cellsB M .exact) := by
        rw [hk5 _ hnz.1 (by simp (disch := (first | omega | rfl | (simp only [Heap.nx_upd, Heap.nx_new]; omega))) only [Heap.get_upd_ne, Heap.get_new_ne, Heap.get_new_at, Heap.get_upd_same, Heap.get_new_same, Heap.nx_upd, Heap.nx_new]; omega), Heap.get_new_ne _ _ (by omega), hM4]
      rw [Heap.nx_new] at b1
      rw [b1]
      have hk5' : ∀ b', b' < h.nx → h5.get b' = h.get b' := fun b' hb' => by
        rw [hk5 _ (hg4.ne hb') (by rw [Heap.nx_new]; omega), Heap.get_new_ne _ _ (by omega), hk4 _ (hg3.ne hb') (by omega), ← hh3, Heap.get_new_ne _ _ (by omega), hk b' hb']
      rw [Heap.nx_new] at hn5
      have hi2 : (i : Int) + 1 < 9223372036854775808 := by omega
      have hwi : wrapF .i64 ((i : Int) + 1) = (i : Int) + 1 := wrapI (by omega) (by omega)
      cases hxi : x.i with
      | false =>
        rw [hxi] at hM17
        simp (disch := (first | omega | rfl | (simp only [Heap.nx_upd, Heap.nx_new]; omega))) only [↓reduceIte, reduceCtorEq, Za, Zb, Zc, Zd, Ze, Zf, Zg, Zh, Zi, Zj, Zk, Zl, Zm, Zn, Zo, Zp, Zq, Zr, Zs, Zt, Zu, Zv, gval, Zw, Zx, Zy, Zz, ZA, ZB, ZC, ZD, ZE, ZF, decide_eq_true_eq, ZG, ZH, ZI, ZJ, ZK, ZL, ZM, ZN, ZO, ZP, ZQ, ZR, ZS, Option.some.injEq, exists_eq_left', ZT, ZU, ZV, ZW, ZX, ZY, true_and, and_true, true_or, or_true, false_or, or_false, ite_true, ite_false, cond_true, cond_false, ZZ, Qa, if_true, if_false, decide_true, decide_false, Qb, Qc, Qd, Qe, Qf, Qg, Qh, Qi, Qj, Qk, Ql, Qm, Qn, Qo, Qp, rb0, rb1, rb2, rb3, rb4, tf0, tf1, tf2, tf3, tf4, Heap.get_upd_ne, Heap.get_new_ne, Heap.get_new_at, overL_one, if_pos, stX_exactN, b2, b3, hM5, hMl, hM17, bs1_47]
        obtain ⟨E6, h6, o6, v6, c1, c2, c3, hg6, hn6, hk6, ho6⟩ := grow (h := h5.new (cellsB [.int .u64 0] .exact)) (xs := [0]) (hg5.new) (by simp (disch := (first | omega | rfl | (simp only [Heap.nx_upd, Heap.nx_new]; omega))) only [Heap.get_upd_ne, Heap.get_new_ne, Heap.get_new_at, Heap.get_upd_same, Heap.get_new_same, Heap.nx_upd, Heap.nx_new]; omega) (x := .slice (some ⟨h5.nx, 0, none⟩) 1 1) rfl (by rw [firstL_slc _ _ _ _ _ _ _ _ _ (Heap.get_new_same _ _) (by simp)]; rfl) (by simp only [List.length_append, List.length_cons, List.length_nil]; omega)
        rw [Heap.nx_new] at c1
        rw [c1]
        simp (disch := (first | omega | rfl | (simp only [Heap.nx_upd, Heap.nx_new]; omega))) only [↓reduceIte, reduceCtorEq, Za, Zb, Zc, Zd, Ze, Zf, Zg, Zh, Zi, Zj, Zk, Zl, Zm, Zn, Zo, Zp, Zq, Zr, Zs, Zt, Zu, Zv, gval, Zw, Zx, Zy, Zz, ZA, ZB, ZC, ZD, ZE, ZF, decide_eq_true_eq, ZG, ZH, ZI, ZJ, ZK, ZL, ZM, ZN, ZO, ZP, ZQ, ZR, ZS, Option.some.injEq, exists_eq_left', ZT, ZU, ZV, ZW, ZX, ZY, true_and, and_true, true_or, or_true, false_or, or_false, ite_true, ite_false, cond_true, cond_false, ZZ, Qa, if_true, if_false, decide_true, decide_false, Qb, Qc, Qd, Qe, Qf, Qg, Qh, Qi, Qj, Qk, Ql, Qm, Qn, Qo, Qp, rb0, rb1, rb2, rb3, rb4, tf0, tf1, tf2, tf3, tf4, Heap.get_upd_ne, Heap.get_new_ne, Heap.get_new_at, overL_one, if_pos, stX_exactN, c2, c3, e12, hwi]
        have hen : enc x = x.H ++ [x.p] ++ [0] := by unfold enc; rw [hxi]; simp
        refine hQn _ _ _ (by omega) ⟨i + 1, o6, v6, rfl, by omega, ?_, ?_, ?_, ?_, ?_, by rw [Heap.nx_new] at hn6; omega, fun b' hb' => ?_⟩
        · simp only [↓reduceIte, reduceCtorEq, Za, Zb, Zc, Zd, Ze, Zf, Zg, Zh, Zi, Zj, Zk, Zl, Zm, Zn, Zo, Zp, Zq, Zr, Zs, Zt, Zu, Zv, gval, Zw, Zx, Zy, Zz, ZA, ZB, ZC, ZD, ZE, ZF, decide_eq_true_eq, ZG, ZH, ZI, ZJ, ZK, ZL, ZM, ZN, ZO, ZP, ZQ, ZR, ZS, Option.some.injEq, exists_eq_left', ZT, ZU, ZV, ZW, ZX, ZY, true_and, and_true, true_or, or_true, false_or, or_false, ite_true, ite_false, cond_true, cond_false, ZZ, Qa, if_true, if_false, decide_true, decide_false, Qb, Qc, Qd, Qe, Qf, Qg, Qh, Qi, Qj, Qk, Ql, Qm, Qn, Qo, Qp, rb0, rb1, rb2, rb3, rb4, tf0, tf1, tf2, tf3, tf4]
        · simp only [↓reduceIte, reduceCtorEq, Za, Zb, Zc, Zd, Ze, Zf, Zg, Zh, Zi, Zj, Zk, Zl, Zm, Zn, Zo, Zp, Zq, Zr, Zs, Zt, Zu, Zv, gval, Zw, Zx, Zy, Zz, ZA, ZB, ZC, ZD, ZE, ZF, decide_eq_true_eq, ZG, ZH, ZI, ZJ, ZK, ZL, ZM, ZN, ZO, ZP, ZQ, ZR, ZS, Option.some.injEq, exists_eq_left', ZT, ZU, ZV, ZW, ZX, ZY, true_and, and_true, true_or, or_true, false_or, or_false, ite_true, ite_false, cond_true, cond_false, ZZ, Qa, if_true, if_false, decide_true, decide_false, Qb, Qc, Qd, Qe, Qf, Qg, Qh, Qi, Qj, Qk, Ql, Qm, Qn, Qo, Qp, rb0, rb1, rb2, rb3, rb4, tf0, tf1, tf2, tf3, tf4, e11]
        · simp only [↓reduceIte, reduceCtorEq, Za, Zb, Zc, Zd, Ze, Zf, Zg, Zh, Zi, Zj, Zk, Zl, Zm, Zn, Zo, Zp, Zq, Zr, Zs, Zt, Zu, Zv, gval, Zw, Zx, Zy, Zz, ZA, ZB, ZC, ZD, ZE, ZF, decide_eq_true_eq, ZG, ZH, ZI, ZJ, ZK, ZL, ZM, ZN, ZO, ZP, ZQ, ZR, ZS, Option.some.injEq, exists_eq_left', ZT, ZU, ZV, ZW, ZX, ZY, true_and, and_true, true_or, or_true, false_or, or_false, ite_true, ite_false, cond_true, cond_false, ZZ, Qa, if_true, if_false, decide_true, decide_false, Qb, Qc, Qd, Qe, Qf, Qg, Qh, Qi, Qj, Qk, Ql, Qm, Qn, Qo, Qp, rb0, rb1, rb2, rb3, rb4, tf0, tf1, tf2, tf3, tf4]
          rfl
        · rw [encs_take hx, hen]
          simpa only [List.append_assoc] using hg6
        · rw [encs_take hx, hen]
          simp only [List.length_append, List.length_cons, List.length_nil]; omega
        · rw [hk6 _ (hg5.ne hb') (by rw [Heap.nx_new]; omega), Heap.get_new_ne _ _ (by omega)]
          exact hk5' b' hb'
      | true =>
        rw [hxi] at hM17
        obtain ⟨hwd, hst, hpc0, hpc1⟩ := g5 hxi
        have hwd5 := hwd.keep (h' := h5) (lo' := lo) (Nat.le_refl _) (by omega) (fun b' _ hb' => hk5' b' hb')
        obtain ⟨sa, sc, rfl, hsx⟩ := hwd5.is
        have hpw : wrapF .u64 x.pc = x.pc := wrapU (by omega) (by omega)
        have hlw : wrapF .u64 (x.st.length : Int) = (x.st.length : Int) := wrapU (by omega) (by omega)
        simp (disch := (first | omega | rfl | (simp only [Heap.nx_upd, Heap.nx_new]; omega))) only [↓reduceIte, reduceCtorEq, Za, Zb, Zc, Zd, Ze, Zf, Zg, Zh, Zi, Zj, Zk, Zl, Zm, Zn, Zo, Zp, Zq, Zr, Zs, Zt, Zu, Zv, gval, Zw, Zx, Zy, Zz, ZA, ZB, ZC, ZD, ZE, ZF, decide_eq_true_eq, ZG, ZH, ZI, ZJ, ZK, ZL, ZM, ZN, ZO, ZP, ZQ, ZR, ZS, Option.some.injEq, exists_eq_left', ZT, ZU, ZV, ZW, ZX, ZY, true_and, and_true, true_or, or_true, false_or, or_false, ite_true, ite_false, cond_true, cond_false, ZZ, Qa, if_true, if_false, decide_true, decide_false, Qb, Qc, Qd, Qe, Qf, Qg, Qh, Qi, Qj, Qk, Ql, Qm, Qn, Qo, Qp, rb0, rb1, rb2, rb3, rb4, tf0, tf1, tf2, tf3, tf4, Heap.get_upd_ne, Heap.get_new_ne, Heap.get_new_at, overL_one, if_pos, stX_exactN, b2, b3, hM5, hMl, hM17, hM18, hM19, hpw, hlw, bs3_47]
        obtain ⟨E6, h6, o6, v6, c1, c2, c3, hg6, hn6, hk6, ho6⟩ := grow (h := h5.new (cellsB [.int .u64 1, .int .u64 x.pc, .int .u64 (x.st.length : Int)] .exact)) (xs := [1, x.pc, (x.st.length : Int)]) (hg5.new) (by simp (disch := (first | omega | rfl | (simp only [Heap.nx_upd, Heap.nx_new]; omega))) only [Heap.get_upd_ne, Heap.get_new_ne, Heap.get_new_at, Heap.get_upd_same, Heap.get_new_same, Heap.nx_upd, Heap.nx_new]; omega) (x := .slice (some ⟨h5.nx, 0, none⟩) 3 3) rfl (by rw [firstL_slc _ _ _ _ _ _ _ _ _ (Heap.get_new_same _ _) (by simp)]; rfl) (by simp only [List.length_append, List.length_cons, List.length_nil]; omega)
        rw [Heap.nx_new] at c1
        rw [Heap.nx_new] at hn6
        have hnz5 : o5 ≠ some h2.nx := fun e => by
          rcases ho5 _ e with q | q
          · exact hnz.1 q
          · rw [Heap.nx_new] at q; omega
        have hM6 : h6.get h2.nx = some (cellsB M .exact) := by
          rw [hk6 _ hnz5 (by simp (disch := (first | omega | rfl | (simp only [Heap.nx_upd, Heap.nx_new]; omega))) only [Heap.get_upd_ne, Heap.get_new_ne, Heap.get_new_at, Heap.get_upd_same, Heap.get_new_same, Heap.nx_upd, Heap.nx_new]; omega), Heap.get_new_ne _ _ (by omega), hM5]
        rw [c1]
        simp (disch := (first | omega | rfl | (simp only [Heap.nx_upd, Heap.nx_new]; omega))) only [↓reduceIte, reduceCtorEq, Za, Zb, Zc, Zd, Ze, Zf, Zg, Zh, Zi, Zj, Zk, Zl, Zm, Zn, Zo, Zp, Zq, Zr, Zs, Zt, Zu, Zv, gval, Zw, Zx, Zy, Zz, ZA, ZB, ZC, ZD, ZE, ZF, decide_eq_true_eq, ZG, ZH, ZI, ZJ, ZK, ZL, ZM, ZN, ZO, ZP, ZQ, ZR, ZS, Option.some.injEq, exists_eq_left', ZT, ZU, ZV, ZW, ZX, ZY, true_and, and_true, true_or, or_true, false_or, or_false, ite_true, ite_false, cond_true, cond_false, ZZ, Qa, if_true, if_false, decide_true, decide_false, Qb, Qc, Qd, Qe, Qf, Qg, Qh, Qi, Qj, Qk, Ql, Qm, Qn, Qo, Qp, rb0, rb1, rb2, rb3, rb4, tf0, tf1, tf2, tf3, tf4, Heap.get_upd_ne, Heap.get_new_ne, Heap.get_new_at, overL_one, if_pos, stX_exactN, c2, c3, hM6, hMl, hM19]
        have hk6' : ∀ b', b' < h.nx → h6.get b' = h.get b' := fun b' hb' => by
          rw [hk6 _ (hg5.ne hb') (by rw [Heap.nx_new]; omega), Heap.get_new_ne _ _ (by omega)]
          exact hk5' b' hb'
        have hwd6 := hwd.keep (h' := h6) (lo' := lo) (Nat.le_refl _) (by omega) (fun b' _ hb' => hk6' b' hb')
        obtain ⟨E7, h7, o7, v7, d1, d2, d3, hg7, hn7, hk7, ho7⟩ := grow (xs := x.st) hg6 (by omega) (x := .slice sa x.st.length sc) rfl hwd6.first (by simp only [List.length_append, List.length_cons, List.length_nil]; omega)
        rw [d1]
        simp (disch := (first | omega | rfl | (simp only [Heap.nx_upd, Heap.nx_new]; omega))) only [↓reduceIte, reduceCtorEq, Za, Zb, Zc, Zd, Ze, Zf, Zg, Zh, Zi, Zj, Zk, Zl, Zm, Zn, Zo, Zp, Zq, Zr, Zs, Zt, Zu, Zv, gval, Zw, Zx, Zy, Zz, ZA, ZB, ZC, ZD, ZE, ZF, decide_eq_true_eq, ZG, ZH, ZI, ZJ, ZK, ZL, ZM, ZN, ZO, ZP, ZQ, ZR, ZS, Option.some.injEq, exists_eq_left', ZT, ZU, ZV, ZW, ZX, ZY, true_and, and_true, true_or, or_true, false_or, or_false, ite_true, ite_false, cond_true, cond_false, ZZ, Qa, if_true, if_false, decide_true, decide_false, Qb, Qc, Qd, Qe, Qf, Qg, Qh, Qi, Qj, Qk, Ql, Qm, Qn, Qo, Qp, rb0, rb1, rb2, rb3, rb4, tf0, tf1, tf2, tf3, tf4, Heap.get_upd_ne, Heap.get_new_ne, Heap.get_new_at, overL_one, if_pos, stX_exactN, d2, d3, e12, hwi]
        have hen : enc x = x.H ++ [x.p] ++ [1, x.pc, (x.st.length : Int)] ++ x.st := by unfold enc; rw [hxi]; simp
        refine hQn _ _ _ (by omega) ⟨i + 1, o7, v7, rfl, by omega, ?_, ?_, ?_, ?_, ?_, by omega, fun b' hb' => ?_⟩
        · simp only [↓reduceIte, reduceCtorEq, Za, Zb, Zc, Zd, Ze, Zf, Zg, Zh, Zi, Zj, Zk, Zl, Zm, Zn, Zo, Zp, Zq, Zr, Zs, Zt, Zu, Zv, gval, Zw, Zx, Zy, Zz, ZA, ZB, ZC, ZD, ZE, ZF, decide_eq_true_eq, ZG, ZH, ZI, ZJ, ZK, ZL, ZM, ZN, ZO, ZP, ZQ, ZR, ZS, Option.some.injEq, exists_eq_left', ZT, ZU, ZV, ZW, ZX, ZY, true_and, and_true, true_or, or_true, false_or, or_false, ite_true, ite_false, cond_true, cond_false, ZZ, Qa, if_true, if_false, decide_true, decide_false, Qb, Qc, Qd, Qe, Qf, Qg, Qh, Qi, Qj, Qk, Ql, Qm, Qn, Qo, Qp, rb0, rb1, rb2, rb3, rb4, tf0, tf1, tf2, tf3, tf4]
        · simp only [↓reduceIte, reduceCtorEq, Za, Zb, Zc, Zd, Ze, Zf, Zg, Zh, Zi, Zj, Zk, Zl, Zm, Zn, Zo, Zp, Zq, Zr, Zs, Zt, Zu, Zv, gval, Zw, Zx, Zy, Zz, ZA, ZB, ZC, ZD, ZE, ZF, decide_eq_true_eq, ZG, ZH, ZI, ZJ, ZK, ZL, ZM, ZN, ZO, ZP, ZQ, ZR, ZS, Option.some.injEq, exists_eq_left', ZT, ZU, ZV, ZW, ZX, ZY, true_and, and_true, true_or, or_true, false_or, or_false, ite_true, ite_false, cond_true, cond_false, ZZ, Qa, if_true, if_false, decide_true, decide_false, Qb, Qc, Qd, Qe, Qf, Qg, Qh, Qi, Qj, Qk, Ql, Qm, Qn, Qo, Qp, rb0, rb1, rb2, rb3, rb4, tf0, tf1, tf2, tf3, tf4, e11]
        · simp only [↓reduceIte, reduceCtorEq, Za, Zb, Zc, Zd, Ze, Zf, Zg, Zh, Zi, Zj, Zk, Zl, Zm, Zn, Zo, Zp, Zq, Zr, Zs, Zt, Zu, Zv, gval, Zw, Zx, Zy, Zz, ZA, ZB, ZC, ZD, ZE, ZF, decide_eq_true_eq, ZG, ZH, ZI, ZJ, ZK, ZL, ZM, ZN, ZO, ZP, ZQ, ZR, ZS, Option.some.injEq, exists_eq_left', ZT, ZU, ZV, ZW, ZX, ZY, true_and, and_true, true_or, or_true, false_or, or_false, ite_true, ite_false, cond_true, cond_false, ZZ, Qa, if_true, if_false, decide_true, decide_false, Qb, Qc, Qd, Qe, Qf, Qg, Qh, Qi, Qj, Qk, Ql, Qm, Qn, Qo, Qp, rb0, rb1, rb2, rb3, rb4, tf0, tf1, tf2, tf3, tf4]
          rfl
        · rw [encs_take hx, hen]
          simpa only [List.append_assoc] using hg7
        · rw [encs_take hx, hen]
          simp only [List.length_append, List.length_cons, List.length_nil]; omega
        · rw [hk7 _ (hg6.ne hb') (by omega)]
          exact hk6' b' hb'
    · obtain rfl : i = 8 := by omega
      simp (disch := (first | omega | rfl | (simp only [Heap.nx_upd, Heap.nx_new]; omega))) only [↓reduceIte, reduceCtorEq, Za, Zb, Zc, Zd, Ze, Zf, Zg, Zh, Zi, Zj, Zk, Zl, Zm, Zn, Zo, Zp, Zq, Zr, Zs, Zt, Zu, Zv, gval, Zw, Zx, Zy, Zz, ZA, ZB, ZC, ZD, ZE, ZF, decide_eq_true_eq, ZG, ZH, ZI, ZJ, ZK, ZL, ZM, ZN, ZO, ZP, ZQ, ZR, ZS, Option.some.injEq, exists_eq_left', ZT, ZU, ZV, ZW, ZX, ZY, true_and, and_true, true_or, or_true, false_or, or_false, ite_true, ite_false, cond_true, cond_false, ZZ, Qa, if_true, if_false, decide_true, decide_false, Qb, Qc, Qd, Qe, Qf, Qg, Qh, Qi, Qj, Qk, Ql, Qm, Qn, Qo, Qp, rb0, rb1, rb2, rb3, rb4, tf0, tf1, tf2, tf3, tf4, Heap.get_upd_ne, Heap.get_new_ne, Heap.get_new_at, overL_one, if_pos, stX_exactN, e12]
      refine hQx _ _ _ (by simp) ⟨rfl, o, v, by simp only [↓reduceIte, reduceCtorEq, Za, Zb, Zc, Zd, Ze, Zf, Zg, Zh, Zi, Zj, Zk, Zl, Zm, Zn, Zo, Zp, Zq, Zr, Zs, Zt, Zu, Zv, gval, Zw, Zx, Zy, Zz, ZA, ZB, ZC, ZD, ZE, ZF, decide_eq_true_eq, ZG, ZH, ZI, ZJ, ZK, ZL, ZM, ZN, ZO, ZP, ZQ, ZR, ZS, Option.some.injEq, exists_eq_left', ZT, ZU, ZV, ZW, ZX, ZY, true_and, and_true, true_or, or_true, false_or, or_false, ite_true, ite_false, cond_true, cond_false, ZZ, Qa, if_true, if_false, decide_true, decide_false, Qb, Qc, Qd, Qe, Qf, Qg, Qh, Qi, Qj, Qk, Ql, Qm, Qn, Qo, Qp, rb0, rb1, rb2, rb3, rb4, tf0, tf1, tf2, tf3, tf4, e3], ?_, hn, hk⟩
      rwa [List.take_of_length_le (by omega)] at hg
  · refine ⟨0, none, .slice none 0 0, rfl, by omega, ?_, ?_, ?_, ⟨.inl ⟨rfl, rfl, rfl⟩⟩, by simp [encs], Nat.le_refl _, fun _ _ => rfl⟩
    · simp only [↓reduceIte, reduceCtorEq, Za, Zb, Zc, Zd, Ze, Zf, Zg, Zh, Zi, Zj, Zk, Zl, Zm, Zn, Zo, Zp, Zq, Zr, Zs, Zt, Zu, Zv, gval, Zw, Zx, Zy, Zz, ZA, ZB, ZC, ZD, ZE, ZF, decide_eq_true_eq, ZG, ZH, ZI, ZJ, ZK, ZL, ZM, ZN, ZO, ZP, ZQ, ZR, ZS, Option.some.injEq, exists_eq_left', ZT, ZU, ZV, ZW, ZX, ZY, true_and, and_true, true_or, or_true, false_or, or_false, ite_true, ite_false, cond_true, cond_false, ZZ, Qa, if_true, if_false, decide_true, decide_false, Qb, Qc, Qd, Qe, Qf, Qg, Qh, Qi, Qj, Qk, Ql, Qm, Qn, Qo, Qp, rb0, rb1, rb2, rb3, rb4, tf0, tf1, tf2, tf3, tf4]
    · simp only [↓reduceIte, reduceCtorEq, Za, Zb, Zc, Zd, Ze, Zf, Zg, Zh, Zi, Zj, Zk, Zl, Zm, Zn, Zo, Zp, Zq, Zr, Zs, Zt, Zu, Zv, gval, Zw, Zx, Zy, Zz, ZA, ZB, ZC, ZD, ZE, ZF, decide_eq_true_eq, ZG, ZH, ZI, ZJ, ZK, ZL, ZM, ZN, ZO, ZP, ZQ, ZR, ZS, Option.some.injEq, exists_eq_left', ZT, ZU, ZV, ZW, ZX, ZY, true_and, and_true, true_or, or_true, false_or, or_false, ite_true, ite_false, cond_true, cond_false, ZZ, Qa, if_true, if_false, decide_true, decide_false, Qb, Qc, Qd, Qe, Qf, Qg, Qh, Qi, Qj, Qk, Ql, Qm, Qn, Qo, Qp, rb0, rb1, rb2, rb3, rb4, tf0, tf1, tf2, tf3, tf4]
    · simp only [↓reduceIte, reduceCtorEq, Za, Zb, Zc, Zd, Ze, Zf, Zg, Zh, Zi, Zj, Zk, Zl, Zm, Zn, Zo, Zp, Zq, Zr, Zs, Zt, Zu, Zv, gval, Zw, Zx, Zy, Zz, ZA, ZB, ZC, ZD, ZE, ZF, decide_eq_true_eq, ZG, ZH, ZI, ZJ, ZK, ZL, ZM, ZN, ZO, ZP, ZQ, ZR, ZS, Option.some.injEq, exists_eq_left', ZT, ZU, ZV, ZW, ZX, ZY, true_and, and_true, true_or, or_true, false_or, or_false, ite_true, ite_false, cond_true, cond_false, ZZ, Qa, if_true, if_false, decide_true, decide_false, Qb, Qc, Qd, Qe, Qf, Qg, Qh, Qi, Qj, Qk, Ql, Qm, Qn, Qo, Qp, rb0, rb1, rb2, rb3, rb4, tf0, tf1, tf2, tf3, tf4]
  · rintro ex e h2 - ⟨rfl, o, v, e3, hg, hn, hk⟩
    simp only [↓reduceIte, reduceCtorEq, Za, Zb, Zc, Zd, Ze, Zf, Zg, Zh, Zi, Zj, Zk, Zl, Zm, Zn, Zo, Zp, Zq, Zr, Zs, Zt, Zu, Zv, gval, Zw, Zx, Zy, Zz, ZA, ZB, ZC, ZD, ZE, ZF, decide_eq_true_eq, ZG, ZH, ZI, ZJ, ZK, ZL, ZM, ZN, ZO, ZP, ZQ, ZR, ZS, Option.some.injEq, exists_eq_left', ZT, ZU, ZV, ZW, ZX, ZY, true_and, and_true, true_or, or_true, false_or, or_false, ite_true, ite_false, cond_true, cond_false, ZZ, Qa, if_true, if_false, decide_true, decide_false, Qb, Qc, Qd, Qe, Qf, Qg, Qh, Qi, Qj, Qk, Ql, Qm, Qn, Qo, Qp, rb0, rb1, rb2, rb3, rb4, tf0, tf1, tf2, tf3, tf4, e3]
    exact hR _ _ hg.words hn hk
end Go.Proofs.Ytmmjeifdgfolmaa
end
section
/- The answer's signals: New. Conditions: none but the functions' names. -/
namespace Go.Proofs.Ytmmjeifdgfolmaa
open Go.AM Go.AM.SigRead
open Nat renaming reduceBEq → Za, reduceEqDiff → Zb, reduceAdd → Zc, reduceSub → Zd, reduceMul → Ze, reduceLT → Zf, reduceLeDiff → Zg, reduceDiv → Zh, reduceMod → Zi, reducePow → Zj, blt_eq → ZF, zero_add → Qc, add_zero → Qd
open Int renaming reduceAdd → Zk, reduceSub → Zl, reduceMul → Zm, reduceLT → Zn, reduceLE → Zo, reduceEq → Zp, reduceNe → Zq, reduceNeg → Zr, reduceToNat → Zs, reduceDiv → Zt, reduceMod → Zu, reducePow → Zv, cast_ofNat_Int → Zw, toNat_natCast → Qb
open List renaming set_cons_zero → Zx, set_cons_succ → Zy, map_toArray → Zz, cons_append → ZA, nil_append → ZB, append_nil → ZC, all_cons → ZD, all_nil → ZE, getElem?_cons_zero → ZJ, getElem?_cons_succ → ZK, length_cons → ZL, length_nil → ZM, map_cons → ZN, map_nil → ZO, isEmpty_nil → Qe, any_cons → Qf, any_nil → Qg, drop_zero → Qk, drop_succ_cons → Ql, take_succ_cons → Qm, take_zero → Qn, take_nil → Qo, drop_nil → Qp
open Bool renaming and_true → ZG, true_and → ZH, and_self → ZI, not_true → ZT, not_false → ZU, true_eq_false → ZZ, false_eq_true → Qa, or_false → Qh, false_or → Qi, and_eq_true → Qj
open Option renaming map_some → ZP, map_none → ZQ, bind_some → ZR, getD_some → ZS, isNone_some → ZV, isNone_none → ZW, isSome_some → ZX, isSome_none → ZY
set_option linter.unusedSimpArgs false
variable {sp : Special} {h : Heap} {R : Out → Heap → Prop}
def freshR (i : Nat) : List Value := List.replicate i (.int .u64 18446744073709551615) ++ List.replicate (15 - i) (.int .u64 0) ++ (List.replicate 15 (.bool false) ++ [.bool false, .int .i64 0, .slice none 0 0])
abbrev freshRL : List Value := freshR 15
theorem freshR_len {i : Nat} (hi : i ≤ 15) : (freshR i).length = 33 := by
  unfold freshR
  simp only [List.length_append, List.length_replicate, List.length_cons, List.length_nil]
  omega
theorem freshR_set {i : Nat} (hi : i < 15) : (freshR i).set i (.int .u64 18446744073709551615) = freshR (i + 1) := by
  have : i = 0 ∨ i = 1 ∨ i = 2 ∨ i = 3 ∨ i = 4 ∨ i = 5 ∨ i = 6 ∨ i = 7 ∨ i = 8 ∨ i = 9 ∨ i = 10 ∨ i = 11 ∨ i = 12 ∨ i = 13 ∨ i = 14 := by omega
  rcases this with rfl | rfl | rfl | rfl | rfl | rfl | rfl | rfl | rfl | rfl | rfl | rfl | rfl | rfl | rfl <;> rfl
theorem freshR_zero : [.int .u64 0, .int .u64 0, .int .u64 0, .int .u64 0, .int .u64 0, .int .u64 0, .int .u64 0, .int .u64 0, .int .u64 0, .int .u64 0, .int .u64 0, .int .u64 0, .int .u64 0, .int .u64 0, .int .u64 0,
  .bool false, .bool false, .bool false, .bool false, .bool false, .bool false, .bool false, .bool false, .bool false, .bool false, .bool false, .bool false, .bool false, .bool false, .bool false, .bool false, .int .i64 0, .slice none 0 0] = freshR 0 := rfl
set_option maxRecDepth 100000 in
theorem rfresh_spec (h1 : (sp 62).isNone = true) (hR : ∀ h', h.nx ≤ h'.nx → (∀ b, b < h.nx → h'.get b = h.get b) → R (.ret (.agg freshRL.toArray)) h') : WF Try.prog 0 sp 62 [] h R := by
  refine wf_fn (fn := Try.f62) h1 rfl (by kernel_rfl) rfl ?_
  simp only [↓reduceIte, reduceCtorEq, Za, Zb, Zc, Zd, Ze, Zf, Zg, Zh, Zi, Zj, Zk, Zl, Zm, Zn, Zo, Zp, Zq, Zr, Zs, Zt, Zu, Zv, gval, Zw, Zx, Zy, Zz, ZA, ZB, ZC, ZD, ZE, ZF, decide_eq_true_eq, ZG, ZH, ZI, ZJ, ZK, ZL, ZM, ZN, ZO, ZP, ZQ, ZR, ZS, Option.some.injEq, exists_eq_left', ZT, ZU, ZV, ZW, ZX, ZY, true_and, and_true, true_or, or_true, false_or, or_false, ite_true, ite_false, cond_true, cond_false, ZZ, Qa, if_true, if_false, decide_true, decide_false, Qb, Qc, Qd, Qe, Qf, Qg, Qh, Qi, Qj, Qk, Ql, Qm, Qn, Qo, Qp, rb0, rb1, rb2, rb3, rb4, tf0, tf1, tf2, tf3, tf4, Try.f62, freshR_zero]
  refine run_loop rfl (fun n e' h' => ∃ i : Nat, n = 15 - i ∧ i ≤ 15 ∧ h' = ((h.new (cellsB (freshR 0) .exact)).new (cellsB (freshR i) .exact)) ∧ e'.at 0 = .pointer (some ⟨h.nx, 0, none⟩) ∧ e'.at 1 = .pointer (some ⟨h.nx + 1, 0, none⟩) ∧ e'.at 2 = .int .i64 i) ?_ 15 _ _ ?_
  · rintro n e h' ⟨i, rfl, hi, rfl, e0, e1, e3⟩ ih
    have hlen := freshR_len hi
    have hg : ((h.new (cellsB (freshR 0) .exact)).new (cellsB (freshR i) .exact)).get (h.nx + 1) = some (cellsB (freshR i) .exact) := Heap.get_new_same _ _
    have hg0 : ((h.new (cellsB (freshR 0) .exact)).new (cellsB (freshR i) .exact)).get h.nx = some (cellsB (freshR 0) .exact) := by
      rw [Heap.get_new_ne _ _ (by rw [Heap.nx_new]; omega), Heap.get_new_same]
    simp only [↓reduceIte, reduceCtorEq, Za, Zb, Zc, Zd, Ze, Zf, Zg, Zh, Zi, Zj, Zk, Zl, Zm, Zn, Zo, Zp, Zq, Zr, Zs, Zt, Zu, Zv, gval, Zw, Zx, Zy, Zz, ZA, ZB, ZC, ZD, ZE, ZF, decide_eq_true_eq, ZG, ZH, ZI, ZJ, ZK, ZL, ZM, ZN, ZO, ZP, ZQ, ZR, ZS, Option.some.injEq, exists_eq_left', ZT, ZU, ZV, ZW, ZX, ZY, true_and, and_true, true_or, or_true, false_or, or_false, ite_true, ite_false, cond_true, cond_false, ZZ, Qa, if_true, if_false, decide_true, decide_false, Qb, Qc, Qd, Qe, Qf, Qg, Qh, Qi, Qj, Qk, Ql, Qm, Qn, Qo, Qp, rb0, rb1, rb2, rb3, rb4, tf0, tf1, tf2, tf3, tf4, e3]
    refine runB_dec (fun hc => ?_) (fun hc => ?_)
    · simp (disch := omega) only [↓reduceIte, reduceCtorEq, Za, Zb, Zc, Zd, Ze, Zf, Zg, Zh, Zi, Zj, Zk, Zl, Zm, Zn, Zo, Zp, Zq, Zr, Zs, Zt, Zu, Zv, gval, Zw, Zx, Zy, Zz, ZA, ZB, ZC, ZD, ZE, ZF, decide_eq_true_eq, ZG, ZH, ZI, ZJ, ZK, ZL, ZM, ZN, ZO, ZP, ZQ, ZR, ZS, Option.some.injEq, exists_eq_left', ZT, ZU, ZV, ZW, ZX, ZY, true_and, and_true, true_or, or_true, false_or, or_false, ite_true, ite_false, cond_true, cond_false, ZZ, Qa, if_true, if_false, decide_true, decide_false, Qb, Qc, Qd, Qe, Qf, Qg, Qh, Qi, Qj, Qk, Ql, Qm, Qn, Qo, Qp, rb0, rb1, rb2, rb3, rb4, tf0, tf1, tf2, tf3, tf4, e1, e3, hg, if_pos, hlen, Nat.mul_one, wrapI]
      refine ih _ _ _ ?_ ⟨i + 1, rfl, by omega, ?_, ?_, ?_, ?_⟩
      · omega
      · rw [freshR_set (by omega)]
        exact Heap.upd_new (h.new (cellsB (freshR 0) .exact)) _ _
      · simp only [↓reduceIte, reduceCtorEq, Za, Zb, Zc, Zd, Ze, Zf, Zg, Zh, Zi, Zj, Zk, Zl, Zm, Zn, Zo, Zp, Zq, Zr, Zs, Zt, Zu, Zv, gval, Zw, Zx, Zy, Zz, ZA, ZB, ZC, ZD, ZE, ZF, decide_eq_true_eq, ZG, ZH, ZI, ZJ, ZK, ZL, ZM, ZN, ZO, ZP, ZQ, ZR, ZS, Option.some.injEq, exists_eq_left', ZT, ZU, ZV, ZW, ZX, ZY, true_and, and_true, true_or, or_true, false_or, or_false, ite_true, ite_false, cond_true, cond_false, ZZ, Qa, if_true, if_false, decide_true, decide_false, Qb, Qc, Qd, Qe, Qf, Qg, Qh, Qi, Qj, Qk, Ql, Qm, Qn, Qo, Qp, rb0, rb1, rb2, rb3, rb4, tf0, tf1, tf2, tf3, tf4, e0]
      · simp only [↓reduceIte, reduceCtorEq, Za, Zb, Zc, Zd, Ze, Zf, Zg, Zh, Zi, Zj, Zk, Zl, Zm, Zn, Zo, Zp, Zq, Zr, Zs, Zt, Zu, Zv, gval, Zw, Zx, Zy, Zz, ZA, ZB, ZC, ZD, ZE, ZF, decide_eq_true_eq, ZG, ZH, ZI, ZJ, ZK, ZL, ZM, ZN, ZO, ZP, ZQ, ZR, ZS, Option.some.injEq, exists_eq_left', ZT, ZU, ZV, ZW, ZX, ZY, true_and, and_true, true_or, or_true, false_or, or_false, ite_true, ite_false, cond_true, cond_false, ZZ, Qa, if_true, if_false, decide_true, decide_false, Qb, Qc, Qd, Qe, Qf, Qg, Qh, Qi, Qj, Qk, Ql, Qm, Qn, Qo, Qp, rb0, rb1, rb2, rb3, rb4, tf0, tf1, tf2, tf3, tf4, e1]
      · simp only [↓reduceIte, reduceCtorEq, Za, Zb, Zc, Zd, Ze, Zf, Zg, Zh, Zi, Zj, Zk, Zl, Zm, Zn, Zo, Zp, Zq, Zr, Zs, Zt, Zu, Zv, gval, Zw, Zx, Zy, Zz, ZA, ZB, ZC, ZD, ZE, ZF, decide_eq_true_eq, ZG, ZH, ZI, ZJ, ZK, ZL, ZM, ZN, ZO, ZP, ZQ, ZR, ZS, Option.some.injEq, exists_eq_left', ZT, ZU, ZV, ZW, ZX, ZY, true_and, and_true, true_or, or_true, false_or, or_false, ite_true, ite_false, cond_true, cond_false, ZZ, Qa, if_true, if_false, decide_true, decide_false, Qb, Qc, Qd, Qe, Qf, Qg, Qh, Qi, Qj, Qk, Ql, Qm, Qn, Qo, Qp, rb0, rb1, rb2, rb3, rb4, tf0, tf1, tf2, tf3, tf4]
        rfl
    · have : i = 15 := by omega
      subst this
      have tk : (freshR 15).take 33 = freshR 15 := rfl
      have ov : overL (freshR 0) 0 (freshR 15) = freshR 15 := rfl
      simp (disch := omega) only [↓reduceIte, reduceCtorEq, Za, Zb, Zc, Zd, Ze, Zf, Zg, Zh, Zi, Zj, Zk, Zl, Zm, Zn, Zo, Zp, Zq, Zr, Zs, Zt, Zu, Zv, gval, Zw, Zx, Zy, Zz, ZA, ZB, ZC, ZD, ZE, ZF, decide_eq_true_eq, ZG, ZH, ZI, ZJ, ZK, ZL, ZM, ZN, ZO, ZP, ZQ, ZR, ZS, Option.some.injEq, exists_eq_left', ZT, ZU, ZV, ZW, ZX, ZY, true_and, and_true, true_or, or_true, false_or, or_false, ite_true, ite_false, cond_true, cond_false, ZZ, Qa, if_true, if_false, decide_true, decide_false, Qb, Qc, Qd, Qe, Qf, Qg, Qh, Qi, Qj, Qk, Ql, Qm, Qn, Qo, Qp, rb0, rb1, rb2, rb3, rb4, tf0, tf1, tf2, tf3, tf4, e0, e1, hg, hg0, if_pos, hlen, List.drop_zero, freshR_len, tk, ov, stX_exactN]
      refine hR _ ?_ fun b hb => ?_
      · simp (disch := (first | omega | rfl | (simp only [Heap.nx_upd, Heap.nx_new]; omega))) only [Heap.get_upd_ne, Heap.get_new_ne, Heap.get_new_at, Heap.get_upd_same, Heap.get_new_same, Heap.nx_upd, Heap.nx_new]
        omega
      · simp (disch := (first | omega | rfl | (simp only [Heap.nx_upd, Heap.nx_new]; omega))) only [Heap.get_upd_ne, Heap.get_new_ne, Heap.get_new_at, Heap.get_upd_same, Heap.get_new_same, Heap.nx_upd, Heap.nx_new]
  · refine ⟨0, rfl, by omega, rfl, ?_, ?_, ?_⟩
    · simp only [↓reduceIte, reduceCtorEq, Za, Zb, Zc, Zd, Ze, Zf, Zg, Zh, Zi, Zj, Zk, Zl, Zm, Zn, Zo, Zp, Zq, Zr, Zs, Zt, Zu, Zv, gval, Zw, Zx, Zy, Zz, ZA, ZB, ZC, ZD, ZE, ZF, decide_eq_true_eq, ZG, ZH, ZI, ZJ, ZK, ZL, ZM, ZN, ZO, ZP, ZQ, ZR, ZS, Option.some.injEq, exists_eq_left', ZT, ZU, ZV, ZW, ZX, ZY, true_and, and_true, true_or, or_true, false_or, or_false, ite_true, ite_false, cond_true, cond_false, ZZ, Qa, if_true, if_false, decide_true, decide_false, Qb, Qc, Qd, Qe, Qf, Qg, Qh, Qi, Qj, Qk, Ql, Qm, Qn, Qo, Qp, rb0, rb1, rb2, rb3, rb4, tf0, tf1, tf2, tf3, tf4]
    · simp only [↓reduceIte, reduceCtorEq, Za, Zb, Zc, Zd, Ze, Zf, Zg, Zh, Zi, Zj, Zk, Zl, Zm, Zn, Zo, Zp, Zq, Zr, Zs, Zt, Zu, Zv, gval, Zw, Zx, Zy, Zz, ZA, ZB, ZC, ZD, ZE, ZF, decide_eq_true_eq, ZG, ZH, ZI, ZJ, ZK, ZL, ZM, ZN, ZO, ZP, ZQ, ZR, ZS, Option.some.injEq, exists_eq_left', ZT, ZU, ZV, ZW, ZX, ZY, true_and, and_true, true_or, or_true, false_or, or_false, ite_true, ite_false, cond_true, cond_false, ZZ, Qa, if_true, if_false, decide_true, decide_false, Qb, Qc, Qd, Qe, Qf, Qg, Qh, Qi, Qj, Qk, Ql, Qm, Qn, Qo, Qp, rb0, rb1, rb2, rb3, rb4, tf0, tf1, tf2, tf3, tf4]
    · simp only [↓reduceIte, reduceCtorEq, Za, Zb, Zc, Zd, Ze, Zf, Zg, Zh, Zi, Zj, Zk, Zl, Zm, Zn, Zo, Zp, Zq, Zr, Zs, Zt, Zu, Zv, gval, Zw, Zx, Zy, Zz, ZA, ZB, ZC, ZD, ZE, ZF, decide_eq_true_eq, ZG, ZH, ZI, ZJ, ZK, ZL, ZM, ZN, ZO, ZP, ZQ, ZR, ZS, Option.some.injEq, exists_eq_left', ZT, ZU, ZV, ZW, ZX, ZY, true_and, and_true, true_or, or_true, false_or, or_false, ite_true, ite_false, cond_true, cond_false, ZZ, Qa, if_true, if_false, decide_true, decide_false, Qb, Qc, Qd, Qe, Qf, Qg, Qh, Qi, Qj, Qk, Ql, Qm, Qn, Qo, Qp, rb0, rb1, rb2, rb3, rb4, tf0, tf1, tf2, tf3, tf4]
/-- a process's cells in the answer. -/
structure RefAt (L : List Value) (o : Nat) (H : Nat → Int) (p : Nat → Bool) (inn : Bool) (pc : Int) (stk : Value) : Prop where
  hd : ∀ k, k < 15 → L[o + k]? = some (.int .u64 (H k))
  bit : ∀ k, k < 15 → L[o + 15 + k]? = some (.bool (p k))
  inn : L[o + 30]? = some (.bool inn)
  pc : L[o + 31]? = some (.int .i64 pc)
  stk : L[o + 32]? = some stk
theorem RefAt.of {L L' : List Value} {o : Nat} {H : Nat → Int} {p : Nat → Bool} {inn : Bool} {pc : Int} {stk : Value} (x : RefAt L o H p inn pc stk) (h : ∀ j, o ≤ j → j < o + 33 → L'[j]? = L[j]?) : RefAt L' o H p inn pc stk :=
  ⟨fun k hk => by rw [h _ (by omega) (by omega)]; exact x.hd k hk, fun k hk => by rw [h _ (by omega) (by omega)]; exact x.bit k hk, by rw [h _ (by omega) (by omega)]; exact x.inn, by rw [h _ (by omega) (by omega)]; exact x.pc, by rw [h _ (by omega) (by omega)]; exact x.stk⟩
theorem freshRL_at {L : List Value} (o : Nat) (hL : ∀ k, k < 33 → L[o + k]? = freshRL[k]?) : RefAt L o (fun _ => 18446744073709551615) (fun _ => false) false 0 (.slice none 0 0) := by
  refine ⟨fun k hk => ?_, fun k hk => ?_, hL 30 (by omega), hL 31 (by omega), hL 32 (by omega)⟩
  · rw [hL k (by omega)]
    have : k = 0 ∨ k = 1 ∨ k = 2 ∨ k = 3 ∨ k = 4 ∨ k = 5 ∨ k = 6 ∨ k = 7 ∨ k = 8 ∨ k = 9 ∨ k = 10 ∨ k = 11 ∨ k = 12 ∨ k = 13 ∨ k = 14 := by omega
    rcases this with rfl | rfl | rfl | rfl | rfl | rfl | rfl | rfl | rfl | rfl | rfl | rfl | rfl | rfl | rfl <;> rfl
  · rw [Nat.add_assoc, hL (15 + k) (by omega)]
    have : k = 0 ∨ k = 1 ∨ k = 2 ∨ k = 3 ∨ k = 4 ∨ k = 5 ∨ k = 6 ∨ k = 7 ∨ k = 8 ∨ k = 9 ∨ k = 10 ∨ k = 11 ∨ k = 12 ∨ k = 13 ∨ k = 14 := by omega
    rcases this with rfl | rfl | rfl | rfl | rfl | rfl | rfl | rfl | rfl | rfl | rfl | rfl | rfl | rfl | rfl <;> rfl
noncomputable abbrev newRL : List Value := repeatL freshRL 8
theorem newRL_at {i : Nat} (hi : i < 8) : RefAt newRL (i * 33) (fun _ => 18446744073709551615) (fun _ => false) false 0 (.slice none 0 0) := by
  refine freshRL_at (i * 33) fun k hk => ?_
  have : freshRL.length = 33 := rfl
  rw [getElem_repeatL _ _ _ (by omega), this]
  congr 1
  omega
set_option maxRecDepth 100000 in
theorem rnew_spec (h0 : (sp 60).isNone = true) (h1 : (sp 62).isNone = true) (hR : ∀ h' b, h.nx ≤ b → b < h'.nx → h'.get b = some (cellsB newRL .exact) → (∀ b, b < h.nx → h'.get b = h.get b) → R (.ret (.pointer (some ⟨b, 0, none⟩))) h') : WF Try.prog 0 sp 60 [] h R := by
  refine wf_fn (fn := Try.f60) h0 rfl (by kernel_rfl) rfl ?_
  have zl : (freshR 0).length = 33 := rfl
  have fl : freshRL.length = 33 := rfl
  simp only [↓reduceIte, reduceCtorEq, Za, Zb, Zc, Zd, Ze, Zf, Zg, Zh, Zi, Zj, Zk, Zl, Zm, Zn, Zo, Zp, Zq, Zr, Zs, Zt, Zu, Zv, gval, Zw, Zx, Zy, Zz, ZA, ZB, ZC, ZD, ZE, ZF, decide_eq_true_eq, ZG, ZH, ZI, ZJ, ZK, ZL, ZM, ZN, ZO, ZP, ZQ, ZR, ZS, Option.some.injEq, exists_eq_left', ZT, ZU, ZV, ZW, ZX, ZY, true_and, and_true, true_or, or_true, false_or, or_false, ite_true, ite_false, cond_true, cond_false, ZZ, Qa, if_true, if_false, decide_true, decide_false, Qb, Qc, Qd, Qe, Qf, Qg, Qh, Qi, Qj, Qk, Ql, Qm, Qn, Qo, Qp, rb0, rb1, rb2, rb3, rb4, tf0, tf1, tf2, tf3, tf4, Try.f60, freshR_zero]
  refine run_loop rfl (fun n e' h' => ∃ i : Nat, n = 8 - i ∧ i ≤ 8 ∧ h.nx < h'.nx ∧ h'.get h.nx = some (cellsB (repeatL freshRL i ++ repeatL (freshR 0) (8 - i)) .exact) ∧ (∀ b, b < h.nx → h'.get b = h.get b) ∧ e'.at 1 = .pointer (some ⟨h.nx, 0, none⟩) ∧ e'.at 2 = .int .i64 i) ?_ 8 _ _ ?_
  · rintro n e h' ⟨i, rfl, hi, hnx, hg, hk, e1, e5⟩ ih
    simp only [↓reduceIte, reduceCtorEq, Za, Zb, Zc, Zd, Ze, Zf, Zg, Zh, Zi, Zj, Zk, Zl, Zm, Zn, Zo, Zp, Zq, Zr, Zs, Zt, Zu, Zv, gval, Zw, Zx, Zy, Zz, ZA, ZB, ZC, ZD, ZE, ZF, decide_eq_true_eq, ZG, ZH, ZI, ZJ, ZK, ZL, ZM, ZN, ZO, ZP, ZQ, ZR, ZS, Option.some.injEq, exists_eq_left', ZT, ZU, ZV, ZW, ZX, ZY, true_and, and_true, true_or, or_true, false_or, or_false, ite_true, ite_false, cond_true, cond_false, ZZ, Qa, if_true, if_false, decide_true, decide_false, Qb, Qc, Qd, Qe, Qf, Qg, Qh, Qi, Qj, Qk, Ql, Qm, Qn, Qo, Qp, rb0, rb1, rb2, rb3, rb4, tf0, tf1, tf2, tf3, tf4, e5]
    refine runB_dec (fun hc => ?_) (fun hc => ?_)
    · simp only [↓reduceIte, reduceCtorEq, Za, Zb, Zc, Zd, Ze, Zf, Zg, Zh, Zi, Zj, Zk, Zl, Zm, Zn, Zo, Zp, Zq, Zr, Zs, Zt, Zu, Zv, gval, Zw, Zx, Zy, Zz, ZA, ZB, ZC, ZD, ZE, ZF, decide_eq_true_eq, ZG, ZH, ZI, ZJ, ZK, ZL, ZM, ZN, ZO, ZP, ZQ, ZR, ZS, Option.some.injEq, exists_eq_left', ZT, ZU, ZV, ZW, ZX, ZY, true_and, and_true, true_or, or_true, false_or, or_false, ite_true, ite_false, cond_true, cond_false, ZZ, Qa, if_true, if_false, decide_true, decide_false, Qb, Qc, Qd, Qe, Qf, Qg, Qh, Qi, Qj, Qk, Ql, Qm, Qn, Qo, Qp, rb0, rb1, rb2, rb3, rb4, tf0, tf1, tf2, tf3, tf4, e5]
      refine run_draw (ps := []) (by kernel_rfl) (by kernel_rfl) ?_
      simp only [↓reduceIte, reduceCtorEq, Za, Zb, Zc, Zd, Ze, Zf, Zg, Zh, Zi, Zj, Zk, Zl, Zm, Zn, Zo, Zp, Zq, Zr, Zs, Zt, Zu, Zv, gval, Zw, Zx, Zy, Zz, ZA, ZB, ZC, ZD, ZE, ZF, decide_eq_true_eq, ZG, ZH, ZI, ZJ, ZK, ZL, ZM, ZN, ZO, ZP, ZQ, ZR, ZS, Option.some.injEq, exists_eq_left', ZT, ZU, ZV, ZW, ZX, ZY, true_and, and_true, true_or, or_true, false_or, or_false, ite_true, ite_false, cond_true, cond_false, ZZ, Qa, if_true, if_false, decide_true, decide_false, Qb, Qc, Qd, Qe, Qf, Qg, Qh, Qi, Qj, Qk, Ql, Qm, Qn, Qo, Qp, rb0, rb1, rb2, rb3, rb4, tf0, tf1, tf2, tf3, tf4, e1]
      refine runCR_of (rfresh_spec h1 fun h2 hn2 hk2 => ?_)
      have hg2 : h2.get h.nx = some (cellsB (repeatL freshRL i ++ repeatL (freshR 0) (8 - i)) .exact) := by rw [hk2 _ hnx, hg]
      have hlen : (repeatL freshRL i ++ repeatL (freshR 0) (8 - i)).length = 264 := by
        rw [List.length_append, length_repeatL, length_repeatL, zl, fl]; omega
      have hov : overL (repeatL freshRL i ++ repeatL (freshR 0) (8 - i)) (i * 33) freshRL = repeatL freshRL (i + 1) ++ repeatL (freshR 0) (8 - (i + 1)) := by
        have := overL_repeat freshRL (freshR 0) i (7 - i) rfl
        rw [zl] at this
        rw [show 8 - i = 7 - i + 1 by omega, this, show 8 - (i + 1) = 7 - i by omega]
      simp (disch := omega) only [↓reduceIte, reduceCtorEq, Za, Zb, Zc, Zd, Ze, Zf, Zg, Zh, Zi, Zj, Zk, Zl, Zm, Zn, Zo, Zp, Zq, Zr, Zs, Zt, Zu, Zv, gval, Zw, Zx, Zy, Zz, ZA, ZB, ZC, ZD, ZE, ZF, decide_eq_true_eq, ZG, ZH, ZI, ZJ, ZK, ZL, ZM, ZN, ZO, ZP, ZQ, ZR, ZS, Option.some.injEq, exists_eq_left', ZT, ZU, ZV, ZW, ZX, ZY, true_and, and_true, true_or, or_true, false_or, or_false, ite_true, ite_false, cond_true, cond_false, ZZ, Qa, if_true, if_false, decide_true, decide_false, Qb, Qc, Qd, Qe, Qf, Qg, Qh, Qi, Qj, Qk, Ql, Qm, Qn, Qo, Qp, rb0, rb1, rb2, rb3, rb4, tf0, tf1, tf2, tf3, tf4, e1, e5, if_pos, hg2, hlen, fl, hov, wrapI, stX_exactN]
      refine ih _ _ _ ?_ ⟨i + 1, rfl, by omega, ?_, ?_, ?_, ?_, ?_⟩
      · omega
      · simp (disch := (first | omega | rfl | (simp only [Heap.nx_upd, Heap.nx_new]; omega))) only [Heap.get_upd_ne, Heap.get_new_ne, Heap.get_new_at, Heap.get_upd_same, Heap.get_new_same, Heap.nx_upd, Heap.nx_new]
        omega
      · simp (disch := (first | omega | rfl | (simp only [Heap.nx_upd, Heap.nx_new]; omega))) only [Heap.get_upd_ne, Heap.get_new_ne, Heap.get_new_at, Heap.get_upd_same, Heap.get_new_same, Heap.nx_upd, Heap.nx_new]
      · intro b hb
        simp (disch := (first | omega | rfl | (simp only [Heap.nx_upd, Heap.nx_new]; omega))) only [Heap.get_upd_ne, Heap.get_new_ne, Heap.get_new_at, Heap.get_upd_same, Heap.get_new_same, Heap.nx_upd, Heap.nx_new]
        rw [hk2 b (by omega), hk b hb]
      · simp only [↓reduceIte, reduceCtorEq, Za, Zb, Zc, Zd, Ze, Zf, Zg, Zh, Zi, Zj, Zk, Zl, Zm, Zn, Zo, Zp, Zq, Zr, Zs, Zt, Zu, Zv, gval, Zw, Zx, Zy, Zz, ZA, ZB, ZC, ZD, ZE, ZF, decide_eq_true_eq, ZG, ZH, ZI, ZJ, ZK, ZL, ZM, ZN, ZO, ZP, ZQ, ZR, ZS, Option.some.injEq, exists_eq_left', ZT, ZU, ZV, ZW, ZX, ZY, true_and, and_true, true_or, or_true, false_or, or_false, ite_true, ite_false, cond_true, cond_false, ZZ, Qa, if_true, if_false, decide_true, decide_false, Qb, Qc, Qd, Qe, Qf, Qg, Qh, Qi, Qj, Qk, Ql, Qm, Qn, Qo, Qp, rb0, rb1, rb2, rb3, rb4, tf0, tf1, tf2, tf3, tf4, e1]
      · simp only [↓reduceIte, reduceCtorEq, Za, Zb, Zc, Zd, Ze, Zf, Zg, Zh, Zi, Zj, Zk, Zl, Zm, Zn, Zo, Zp, Zq, Zr, Zs, Zt, Zu, Zv, gval, Zw, Zx, Zy, Zz, ZA, ZB, ZC, ZD, ZE, ZF, decide_eq_true_eq, ZG, ZH, ZI, ZJ, ZK, ZL, ZM, ZN, ZO, ZP, ZQ, ZR, ZS, Option.some.injEq, exists_eq_left', ZT, ZU, ZV, ZW, ZX, ZY, true_and, and_true, true_or, or_true, false_or, or_false, ite_true, ite_false, cond_true, cond_false, ZZ, Qa, if_true, if_false, decide_true, decide_false, Qb, Qc, Qd, Qe, Qf, Qg, Qh, Qi, Qj, Qk, Ql, Qm, Qn, Qo, Qp, rb0, rb1, rb2, rb3, rb4, tf0, tf1, tf2, tf3, tf4]
        rfl
    · have : i = 8 := by omega
      subst this
      simp (disch := omega) only [↓reduceIte, reduceCtorEq, Za, Zb, Zc, Zd, Ze, Zf, Zg, Zh, Zi, Zj, Zk, Zl, Zm, Zn, Zo, Zp, Zq, Zr, Zs, Zt, Zu, Zv, gval, Zw, Zx, Zy, Zz, ZA, ZB, ZC, ZD, ZE, ZF, decide_eq_true_eq, ZG, ZH, ZI, ZJ, ZK, ZL, ZM, ZN, ZO, ZP, ZQ, ZR, ZS, Option.some.injEq, exists_eq_left', ZT, ZU, ZV, ZW, ZX, ZY, true_and, and_true, true_or, or_true, false_or, or_false, ite_true, ite_false, cond_true, cond_false, ZZ, Qa, if_true, if_false, decide_true, decide_false, Qb, Qc, Qd, Qe, Qf, Qg, Qh, Qi, Qj, Qk, Ql, Qm, Qn, Qo, Qp, rb0, rb1, rb2, rb3, rb4, tf0, tf1, tf2, tf3, tf4, e1]
      refine hR _ _ (Nat.le_refl _) hnx ?_ hk
      rw [hg]
      show some (cellsB (repeatL freshRL 8 ++ []) .exact) = _
      rw [List.append_nil]
  · refine ⟨0, rfl, by omega, ?_, ?_, ?_, ?_, ?_⟩
    · simp (disch := (first | omega | rfl | (simp only [Heap.nx_upd, Heap.nx_new]; omega))) only [Heap.get_upd_ne, Heap.get_new_ne, Heap.get_new_at, Heap.get_upd_same, Heap.get_new_same, Heap.nx_upd, Heap.nx_new]
      omega
    · simp (disch := (first | omega | rfl | (simp only [Heap.nx_upd, Heap.nx_new]; omega))) only [Heap.get_upd_ne, Heap.get_new_ne, Heap.get_new_at, Heap.get_upd_same, Heap.get_new_same, Heap.nx_upd, Heap.nx_new]
      rfl
    · intro b hb
      simp (disch := (first | omega | rfl | (simp only [Heap.nx_upd, Heap.nx_new]; omega))) only [Heap.get_upd_ne, Heap.get_new_ne, Heap.get_new_at, Heap.get_upd_same, Heap.get_new_same, Heap.nx_upd, Heap.nx_new]
    · simp only [↓reduceIte, reduceCtorEq, Za, Zb, Zc, Zd, Ze, Zf, Zg, Zh, Zi, Zj, Zk, Zl, Zm, Zn, Zo, Zp, Zq, Zr, Zs, Zt, Zu, Zv, gval, Zw, Zx, Zy, Zz, ZA, ZB, ZC, ZD, ZE, ZF, decide_eq_true_eq, ZG, ZH, ZI, ZJ, ZK, ZL, ZM, ZN, ZO, ZP, ZQ, ZR, ZS, Option.some.injEq, exists_eq_left', ZT, ZU, ZV, ZW, ZX, ZY, true_and, and_true, true_or, or_true, false_or, or_false, ite_true, ite_false, cond_true, cond_false, ZZ, Qa, if_true, if_false, decide_true, decide_false, Qb, Qc, Qd, Qe, Qf, Qg, Qh, Qi, Qj, Qk, Ql, Qm, Qn, Qo, Qp, rb0, rb1, rb2, rb3, rb4, tf0, tf1, tf2, tf3, tf4]
    · simp only [↓reduceIte, reduceCtorEq, Za, Zb, Zc, Zd, Ze, Zf, Zg, Zh, Zi, Zj, Zk, Zl, Zm, Zn, Zo, Zp, Zq, Zr, Zs, Zt, Zu, Zv, gval, Zw, Zx, Zy, Zz, ZA, ZB, ZC, ZD, ZE, ZF, decide_eq_true_eq, ZG, ZH, ZI, ZJ, ZK, ZL, ZM, ZN, ZO, ZP, ZQ, ZR, ZS, Option.some.injEq, exists_eq_left', ZT, ZU, ZV, ZW, ZX, ZY, true_and, and_true, true_or, or_true, false_or, or_false, ite_true, ite_false, cond_true, cond_false, ZZ, Qa, if_true, if_false, decide_true, decide_false, Qb, Qc, Qd, Qe, Qf, Qg, Qh, Qi, Qj, Qk, Ql, Qm, Qn, Qo, Qp, rb0, rb1, rb2, rb3, rb4, tf0, tf1, tf2, tf3, tf4]
end Go.Proofs.Ytmmjeifdgfolmaa
end
section
/- The answer's signals: Encode. Conditions: its records lie as the rule names. -/
namespace Go.Proofs.Ytmmjeifdgfolmaa
open Go.AM Go.AM.SigRead
open Nat renaming reduceBEq → Za, reduceEqDiff → Zb, reduceAdd → Zc, reduceSub → Zd, reduceMul → Ze, reduceLT → Zf, reduceLeDiff → Zg, reduceDiv → Zh, reduceMod → Zi, reducePow → Zj, blt_eq → ZF, zero_add → Qc, add_zero → Qd
open Int renaming reduceAdd → Zk, reduceSub → Zl, reduceMul → Zm, reduceLT → Zn, reduceLE → Zo, reduceEq → Zp, reduceNe → Zq, reduceNeg → Zr, reduceToNat → Zs, reduceDiv → Zt, reduceMod → Zu, reducePow → Zv, cast_ofNat_Int → Zw, toNat_natCast → Qb
open List renaming set_cons_zero → Zx, set_cons_succ → Zy, map_toArray → Zz, cons_append → ZA, nil_append → ZB, append_nil → ZC, all_cons → ZD, all_nil → ZE, getElem?_cons_zero → ZJ, getElem?_cons_succ → ZK, length_cons → ZL, length_nil → ZM, map_cons → ZN, map_nil → ZO, isEmpty_nil → Qe, any_cons → Qf, any_nil → Qg, drop_zero → Qk, drop_succ_cons → Ql, take_succ_cons → Qm, take_zero → Qn, take_nil → Qo, drop_nil → Qp
open Bool renaming and_true → ZG, true_and → ZH, and_self → ZI, not_true → ZT, not_false → ZU, true_eq_false → ZZ, false_eq_true → Qa, or_false → Qh, false_or → Qi, and_eq_true → Qj
open Option renaming map_some → ZP, map_none → ZQ, bind_some → ZR, getD_some → ZS, isNone_some → ZV, isNone_none → ZW, isSome_some → ZX, isSome_none → ZY
set_option linter.unusedSimpArgs false
variable {sp : Special} {h : Heap} {R : Out → Heap → Prop}
/-- a record of a process in the answer. -/
structure RRecAt (h : Heap) (lo : Nat) (L : List Value) (k : Nat) (x : SRec) : Prop where
  is : ∃ H p stk, RefAt L (k * 33) H p x.i x.pc stk ∧ x.H.length = 15 ∧ (∀ j, j < 15 → x.H[j]? = some (H j)) ∧ (∃ P : Nat, x.p = P ∧ ∀ j, P.testBit j = (decide (1 ≤ j ∧ j ≤ 15) && p (j - 1))) ∧ (x.i = true → Words h lo stk x.st ∧ x.st.length ≤ 32 ∧ 0 ≤ x.pc ∧ x.pc ≤ 1048576)
theorem RRecAt.of {h' : Heap} {lo : Nat} {L L' : List Value} {k : Nat} {x : SRec} (a : RRecAt h lo L k x) (hn : h.nx ≤ h'.nx) (hk : ∀ b, lo ≤ b → b < h.nx → h'.get b = h.get b) (hL : ∀ j, k * 33 ≤ j → j < k * 33 + 33 → L'[j]? = L[j]?) : RRecAt h' lo L' k x := by
  obtain ⟨H, p, stk, g1, g2, g3, g4, g5⟩ := a.is
  exact ⟨H, p, stk, g1.of hL, g2, g3, g4, fun hi => ⟨(g5 hi).1.keep (Nat.le_refl _) hn hk, (g5 hi).2⟩⟩
set_option maxRecDepth 100000 in
theorem rencode_spec (h0 : (sp 61).isNone = true) {b lo : Nat} {L : List Value} {l : List SRec} (hb : h.get b = some (cellsB L .exact)) (hbn : b < h.nx) (hL : L.length = 264) (hl : l.length = 8) (hrec : ∀ k x, l[k]? = some x → RRecAt h lo L k x)
    (hR : ∀ h' v, Words h' h.nx v (encs l) → h.nx ≤ h'.nx → (∀ b, b < h.nx → h'.get b = h.get b) → R (.ret v) h') : WF Try.prog 0 sp 61 [.pointer (some ⟨b, 0, none⟩)] h R := by
  refine wf_fn (fn := Try.f61) h0 rfl (by kernel_rfl) rfl ?_
  simp (disch := (first | omega | rfl | (simp only [Heap.nx_upd, Heap.nx_new]; omega))) only [↓reduceIte, reduceCtorEq, Za, Zb, Zc, Zd, Ze, Zf, Zg, Zh, Zi, Zj, Zk, Zl, Zm, Zn, Zo, Zp, Zq, Zr, Zs, Zt, Zu, Zv, gval, Zw, Zx, Zy, Zz, ZA, ZB, ZC, ZD, ZE, ZF, decide_eq_true_eq, ZG, ZH, ZI, ZJ, ZK, ZL, ZM, ZN, ZO, ZP, ZQ, ZR, ZS, Option.some.injEq, exists_eq_left', ZT, ZU, ZV, ZW, ZX, ZY, true_and, and_true, true_or, or_true, false_or, or_false, ite_true, ite_false, cond_true, cond_false, ZZ, Qa, if_true, if_false, decide_true, decide_false, Qb, Qc, Qd, Qe, Qf, Qg, Qh, Qi, Qj, Qk, Ql, Qm, Qn, Qo, Qp, rb0, rb1, rb2, rb3, rb4, tf0, tf1, tf2, tf3, tf4, Heap.get_upd_ne, Heap.get_new_ne, Heap.get_new_at, overL_one, if_pos, stX_exactN, Try.f61, hb, hL]
  refine run_loop2 rfl (fun n e h2 => ∃ (i : Nat) (o : Option Nat) (v : Value), n = 8 - i ∧ i ≤ 8 ∧ e.at 0 = .pointer (some ⟨b, 0, none⟩) ∧ e.at 3 = v ∧ e.at 4 = .int .i64 i ∧ Grown h2 h.nx o (encs (l.take i)) v ∧ (encs (l.take i)).length ≤ i * 60 ∧ h.nx ≤ h2.nx ∧ (∀ b, b < h.nx → h2.get b = h.get b))
    (fun ex e h2 => ex = .exit 0 ∧ ∃ (o : Option Nat) (v : Value), e.at 3 = v ∧ Grown h2 h.nx o (encs l) v ∧ h.nx ≤ h2.nx ∧ (∀ b, b < h.nx → h2.get b = h.get b)) ?_ 8 _ _ ?_ ?_
  · rintro n e h2 ⟨i, o, v, rfl, hi, e0, e3, e4, hg, hgl, hn, hk⟩ Q' hQn hQx
    by_cases hc : i < 8
    · have hc1 : (i : Int) < 8 := by omega
      obtain ⟨x, hx⟩ : ∃ x, l[i]? = some x := ⟨_, List.getElem?_eq_getElem (by omega)⟩
      obtain ⟨H, p, stk, g1, g3, g4, ⟨P, hP, hPb⟩, g5⟩ := (hrec i x hx).is
      obtain ⟨M, hM⟩ : ∃ M, (L.drop (i * 33)).take 33 = M := ⟨_, rfl⟩
      have hMl : M.length = 33 := by rw [← hM, List.length_take, List.length_drop]; omega
      have hMg : ∀ j, j < 33 → M[j]? = L[i * 33 + j]? := fun j hj => by rw [← hM, List.getElem?_take, if_pos hj, List.getElem?_drop]
      have hov : ∀ Z : List Value, Z.length = 33 → overL Z 0 M = M := fun Z hZ => by rw [overL_all (hZ.trans hMl.symm)]
      have hi140 : i * 33 ≤ 231 := by omega
      have hi60 : i * 60 ≤ 480 := by omega
      have hb2 : h2.get b = some (cellsB L .exact) := (hk b hbn).trans hb
      simp (disch := (first | omega | rfl | (simp only [Heap.nx_upd, Heap.nx_new]; omega))) only [↓reduceIte, reduceCtorEq, Za, Zb, Zc, Zd, Ze, Zf, Zg, Zh, Zi, Zj, Zk, Zl, Zm, Zn, Zo, Zp, Zq, Zr, Zs, Zt, Zu, Zv, gval, Zw, Zx, Zy, Zz, ZA, ZB, ZC, ZD, ZE, ZF, decide_eq_true_eq, ZG, ZH, ZI, ZJ, ZK, ZL, ZM, ZN, ZO, ZP, ZQ, ZR, ZS, Option.some.injEq, exists_eq_left', ZT, ZU, ZV, ZW, ZX, ZY, true_and, and_true, true_or, or_true, false_or, or_false, ite_true, ite_false, cond_true, cond_false, ZZ, Qa, if_true, if_false, decide_true, decide_false, Qb, Qc, Qd, Qe, Qf, Qg, Qh, Qi, Qj, Qk, Ql, Qm, Qn, Qo, Qp, rb0, rb1, rb2, rb3, rb4, tf0, tf1, tf2, tf3, tf4, Heap.get_upd_ne, Heap.get_new_ne, Heap.get_new_at, overL_one, if_pos, stX_exactN, e0, e3, e4, hc1, hL, hb2, hM, hMl, hi140]
      rw [hov _ rfl, Heap.upd_new]
      have hxH : ∀ j, j < 15 → M[j]? = some (.int .u64 (H j)) := fun j hj => by rw [hMg j (by omega), g1.hd j hj]
      have hxB : ∀ j, j < 15 → M[15 + j]? = some (.bool (p j)) := fun j hj => by rw [hMg _ (by omega), ← Nat.add_assoc, g1.bit j hj]
      have hM30 : M[30]? = some (.bool x.i) := by rw [hMg 30 (by omega), g1.inn]
      have hM31 : M[31]? = some (.int .i64 x.pc) := by rw [hMg 31 (by omega), g1.pc]
      have hM32 : M[32]? = some stk := by rw [hMg 32 (by omega), g1.stk]
      have hwi : wrapF .i64 ((i : Int) + 1) = (i : Int) + 1 := wrapI (by omega) (by omega)
      refine run_loop2 rfl (fun n e' h3 => ∃ (j : Nat) (o : Option Nat) (v : Value) (m : Nat), n = 15 - j ∧ j ≤ 15 ∧ e'.at 0 = .pointer (some ⟨b, 0, none⟩) ∧ e'.at 3 = v ∧ e'.at 4 = .int .i64 i ∧ e'.at 5 = .pointer (some ⟨h2.nx, 0, none⟩) ∧ e'.at 6 = .int .u64 (m : Int) ∧ e'.at 7 = .int .i64 j ∧
          m < 18446744073709551616 ∧ (∀ k, m.testBit k = (decide (1 ≤ k ∧ k ≤ j) && p (k - 1))) ∧ Grown h3 h.nx o (encs (l.take i) ++ x.H.take j) v ∧ o ≠ some h2.nx ∧ h3.get h2.nx = some (cellsB M .exact) ∧ h2.nx < h3.nx ∧ (∀ b, b < h.nx → h3.get b = h.get b))
        (fun ex e' h3 => ex = .exit 2 ∧ ∃ (o : Option Nat) (v : Value), e'.at 0 = .pointer (some ⟨b, 0, none⟩) ∧ e'.at 3 = v ∧ e'.at 4 = .int .i64 i ∧ e'.at 5 = .pointer (some ⟨h2.nx, 0, none⟩) ∧ e'.at 6 = .int .u64 x.p ∧
          Grown h3 h.nx o (encs (l.take i) ++ x.H) v ∧ o ≠ some h2.nx ∧ h3.get h2.nx = some (cellsB M .exact) ∧ h2.nx < h3.nx ∧ (∀ b, b < h.nx → h3.get b = h.get b)) ?_ 15 _ _ ?_ ?_
      · rintro n e' h3 ⟨j, o3, v3, m, rfl, hj, f0, f3, f4, f5, f6, f7, hm, hmb, hg3, hne3, hM3, hn3, hk3⟩ Q2 hQn2 hQx2
        by_cases hjc : j < 15
        · have hj1 : (j : Int) < 15 := by omega
          have hy : x.H[j]? = some (H j) := g4 j hjc
          simp (disch := (first | omega | rfl | (simp only [Heap.nx_upd, Heap.nx_new]; omega))) only [↓reduceIte, reduceCtorEq, Za, Zb, Zc, Zd, Ze, Zf, Zg, Zh, Zi, Zj, Zk, Zl, Zm, Zn, Zo, Zp, Zq, Zr, Zs, Zt, Zu, Zv, gval, Zw, Zx, Zy, Zz, ZA, ZB, ZC, ZD, ZE, ZF, decide_eq_true_eq, ZG, ZH, ZI, ZJ, ZK, ZL, ZM, ZN, ZO, ZP, ZQ, ZR, ZS, Option.some.injEq, exists_eq_left', ZT, ZU, ZV, ZW, ZX, ZY, true_and, and_true, true_or, or_true, false_or, or_false, ite_true, ite_false, cond_true, cond_false, ZZ, Qa, if_true, if_false, decide_true, decide_false, Qb, Qc, Qd, Qe, Qf, Qg, Qh, Qi, Qj, Qk, Ql, Qm, Qn, Qo, Qp, rb0, rb1, rb2, rb3, rb4, tf0, tf1, tf2, tf3, tf4, Heap.get_upd_ne, Heap.get_new_ne, Heap.get_new_at, overL_one, if_pos, stX_exactN, f0, f3, f4, f5, f6, f7, hj1, hM3, hMl, hxH, bs1_47, Nat.mul_one]
          obtain ⟨E4, h4, o4, v4, a1, a2, a3, hg4, hn4, hk4, ho4⟩ := grow (h := h3.new (cellsB [.int .u64 (H j)] .exact)) (xs := [H j]) (hg3.new) (by simp (disch := (first | omega | rfl | (simp only [Heap.nx_upd, Heap.nx_new]; omega))) only [Heap.get_upd_ne, Heap.get_new_ne, Heap.get_new_at, Heap.get_upd_same, Heap.get_new_same, Heap.nx_upd, Heap.nx_new]; omega) (x := .slice (some ⟨h3.nx, 0, none⟩) 1 1) rfl (by rw [firstL_slc _ _ _ _ _ _ _ _ _ (Heap.get_new_same _ _) (by simp)]; rfl) (by simp only [List.length_append, List.length_cons, List.length_nil, List.length_take]; omega)
          rw [Heap.nx_new] at a1 hn4
          have hM4 : h4.get h2.nx = some (cellsB M .exact) := by
            rw [hk4 _ hne3 (by simp (disch := (first | omega | rfl | (simp only [Heap.nx_upd, Heap.nx_new]; omega))) only [Heap.get_upd_ne, Heap.get_new_ne, Heap.get_new_at, Heap.get_upd_same, Heap.get_new_same, Heap.nx_upd, Heap.nx_new]; omega), Heap.get_new_ne _ _ (by omega), hM3]
          have hne4 : o4 ≠ some h2.nx := fun e => by
            rcases ho4 _ e with q | q
            · exact hne3 q
            · rw [Heap.nx_new] at q; omega
          have hk4' : ∀ b', b' < h.nx → h4.get b' = h.get b' := fun b' hb' => by
            rw [hk4 _ (hg3.ne hb') (by rw [Heap.nx_new]; omega), Heap.get_new_ne _ _ (by omega), hk3 b' hb']
          have htk : x.H.take (j + 1) = x.H.take j ++ [H j] := by
            rw [List.take_add_one, hy]; rfl
          rw [List.append_assoc, ← htk] at hg4
          have hwj : wrapF .i64 ((j : Int) + 1) = (j : Int) + 1 := wrapI (by omega) (by omega)
          have hwu : wrapF .u64 ((j : Int) + 1) = (j : Int) + 1 := wrapU (by omega) (by omega)
          have hxb : M[15 + j]? = some (.bool (p j)) := hxB j hjc
          have hidx : 15 + j < 33 := by omega
          rw [a1]
          cases hpj : p j with
          | false =>
            rw [hpj] at hxb
            simp (disch := (first | omega | rfl | (simp only [Heap.nx_upd, Heap.nx_new]; omega))) only [↓reduceIte, reduceCtorEq, Za, Zb, Zc, Zd, Ze, Zf, Zg, Zh, Zi, Zj, Zk, Zl, Zm, Zn, Zo, Zp, Zq, Zr, Zs, Zt, Zu, Zv, gval, Zw, Zx, Zy, Zz, ZA, ZB, ZC, ZD, ZE, ZF, decide_eq_true_eq, ZG, ZH, ZI, ZJ, ZK, ZL, ZM, ZN, ZO, ZP, ZQ, ZR, ZS, Option.some.injEq, exists_eq_left', ZT, ZU, ZV, ZW, ZX, ZY, true_and, and_true, true_or, or_true, false_or, or_false, ite_true, ite_false, cond_true, cond_false, ZZ, Qa, if_true, if_false, decide_true, decide_false, Qb, Qc, Qd, Qe, Qf, Qg, Qh, Qi, Qj, Qk, Ql, Qm, Qn, Qo, Qp, rb0, rb1, rb2, rb3, rb4, tf0, tf1, tf2, tf3, tf4, Heap.get_upd_ne, Heap.get_new_ne, Heap.get_new_at, overL_one, if_pos, stX_exactN, a2, a3, f0, f3, f4, f5, f6, f7, hj1, hM4, hMl, hxb, Nat.mul_one, hwj, hwu]
            refine hQn2 _ _ _ (by omega) ⟨j + 1, o4, v4, m, rfl, by omega, ?_, ?_, ?_, ?_, ?_, ?_, hm, fun k => ?_, hg4, hne4, hM4, by omega, hk4'⟩
            · simp only [↓reduceIte, reduceCtorEq, Za, Zb, Zc, Zd, Ze, Zf, Zg, Zh, Zi, Zj, Zk, Zl, Zm, Zn, Zo, Zp, Zq, Zr, Zs, Zt, Zu, Zv, gval, Zw, Zx, Zy, Zz, ZA, ZB, ZC, ZD, ZE, ZF, decide_eq_true_eq, ZG, ZH, ZI, ZJ, ZK, ZL, ZM, ZN, ZO, ZP, ZQ, ZR, ZS, Option.some.injEq, exists_eq_left', ZT, ZU, ZV, ZW, ZX, ZY, true_and, and_true, true_or, or_true, false_or, or_false, ite_true, ite_false, cond_true, cond_false, ZZ, Qa, if_true, if_false, decide_true, decide_false, Qb, Qc, Qd, Qe, Qf, Qg, Qh, Qi, Qj, Qk, Ql, Qm, Qn, Qo, Qp, rb0, rb1, rb2, rb3, rb4, tf0, tf1, tf2, tf3, tf4, f0]
            · simp only [↓reduceIte, reduceCtorEq, Za, Zb, Zc, Zd, Ze, Zf, Zg, Zh, Zi, Zj, Zk, Zl, Zm, Zn, Zo, Zp, Zq, Zr, Zs, Zt, Zu, Zv, gval, Zw, Zx, Zy, Zz, ZA, ZB, ZC, ZD, ZE, ZF, decide_eq_true_eq, ZG, ZH, ZI, ZJ, ZK, ZL, ZM, ZN, ZO, ZP, ZQ, ZR, ZS, Option.some.injEq, exists_eq_left', ZT, ZU, ZV, ZW, ZX, ZY, true_and, and_true, true_or, or_true, false_or, or_false, ite_true, ite_false, cond_true, cond_false, ZZ, Qa, if_true, if_false, decide_true, decide_false, Qb, Qc, Qd, Qe, Qf, Qg, Qh, Qi, Qj, Qk, Ql, Qm, Qn, Qo, Qp, rb0, rb1, rb2, rb3, rb4, tf0, tf1, tf2, tf3, tf4]
            · simp only [↓reduceIte, reduceCtorEq, Za, Zb, Zc, Zd, Ze, Zf, Zg, Zh, Zi, Zj, Zk, Zl, Zm, Zn, Zo, Zp, Zq, Zr, Zs, Zt, Zu, Zv, gval, Zw, Zx, Zy, Zz, ZA, ZB, ZC, ZD, ZE, ZF, decide_eq_true_eq, ZG, ZH, ZI, ZJ, ZK, ZL, ZM, ZN, ZO, ZP, ZQ, ZR, ZS, Option.some.injEq, exists_eq_left', ZT, ZU, ZV, ZW, ZX, ZY, true_and, and_true, true_or, or_true, false_or, or_false, ite_true, ite_false, cond_true, cond_false, ZZ, Qa, if_true, if_false, decide_true, decide_false, Qb, Qc, Qd, Qe, Qf, Qg, Qh, Qi, Qj, Qk, Ql, Qm, Qn, Qo, Qp, rb0, rb1, rb2, rb3, rb4, tf0, tf1, tf2, tf3, tf4, f4]
            · simp only [↓reduceIte, reduceCtorEq, Za, Zb, Zc, Zd, Ze, Zf, Zg, Zh, Zi, Zj, Zk, Zl, Zm, Zn, Zo, Zp, Zq, Zr, Zs, Zt, Zu, Zv, gval, Zw, Zx, Zy, Zz, ZA, ZB, ZC, ZD, ZE, ZF, decide_eq_true_eq, ZG, ZH, ZI, ZJ, ZK, ZL, ZM, ZN, ZO, ZP, ZQ, ZR, ZS, Option.some.injEq, exists_eq_left', ZT, ZU, ZV, ZW, ZX, ZY, true_and, and_true, true_or, or_true, false_or, or_false, ite_true, ite_false, cond_true, cond_false, ZZ, Qa, if_true, if_false, decide_true, decide_false, Qb, Qc, Qd, Qe, Qf, Qg, Qh, Qi, Qj, Qk, Ql, Qm, Qn, Qo, Qp, rb0, rb1, rb2, rb3, rb4, tf0, tf1, tf2, tf3, tf4, f5]
            · simp only [↓reduceIte, reduceCtorEq, Za, Zb, Zc, Zd, Ze, Zf, Zg, Zh, Zi, Zj, Zk, Zl, Zm, Zn, Zo, Zp, Zq, Zr, Zs, Zt, Zu, Zv, gval, Zw, Zx, Zy, Zz, ZA, ZB, ZC, ZD, ZE, ZF, decide_eq_true_eq, ZG, ZH, ZI, ZJ, ZK, ZL, ZM, ZN, ZO, ZP, ZQ, ZR, ZS, Option.some.injEq, exists_eq_left', ZT, ZU, ZV, ZW, ZX, ZY, true_and, and_true, true_or, or_true, false_or, or_false, ite_true, ite_false, cond_true, cond_false, ZZ, Qa, if_true, if_false, decide_true, decide_false, Qb, Qc, Qd, Qe, Qf, Qg, Qh, Qi, Qj, Qk, Ql, Qm, Qn, Qo, Qp, rb0, rb1, rb2, rb3, rb4, tf0, tf1, tf2, tf3, tf4, f6]
            · simp only [↓reduceIte, reduceCtorEq, Za, Zb, Zc, Zd, Ze, Zf, Zg, Zh, Zi, Zj, Zk, Zl, Zm, Zn, Zo, Zp, Zq, Zr, Zs, Zt, Zu, Zv, gval, Zw, Zx, Zy, Zz, ZA, ZB, ZC, ZD, ZE, ZF, decide_eq_true_eq, ZG, ZH, ZI, ZJ, ZK, ZL, ZM, ZN, ZO, ZP, ZQ, ZR, ZS, Option.some.injEq, exists_eq_left', ZT, ZU, ZV, ZW, ZX, ZY, true_and, and_true, true_or, or_true, false_or, or_false, ite_true, ite_false, cond_true, cond_false, ZZ, Qa, if_true, if_false, decide_true, decide_false, Qb, Qc, Qd, Qe, Qf, Qg, Qh, Qi, Qj, Qk, Ql, Qm, Qn, Qo, Qp, rb0, rb1, rb2, rb3, rb4, tf0, tf1, tf2, tf3, tf4]
              rfl
            · rw [hmb]
              by_cases hk : 1 ≤ k ∧ k ≤ j
              · simp [hk]; omega
              · by_cases hk2 : k = j + 1
                · subst hk2; simp [hpj]
                · have : ¬ (1 ≤ k ∧ k ≤ j + 1) := by omega
                  simp [hk, this]
          | true =>
            rw [hpj] at hxb
            have hsh : wrapF .u64 (1 * 2 ^ (min ((j : Int) + 1).toNat IntKind.u64.bits)) = ((bitN (j + 1) : Nat) : Int) := by
              have := shl1_u64 (s := (j : Int) + 1) (by omega) (by omega)
              rwa [show ((j : Int) + 1).toNat = j + 1 by omega] at this ⊢
            have hbl : bitN (j + 1) < 18446744073709551616 := bitN_lt (by omega)
            have hor : IntKind.u64.wrap ((BitVec.ofInt IntKind.u64.bits (m : Int) ||| BitVec.ofInt IntKind.u64.bits ((bitN (j + 1) : Nat) : Int)).toNat : Int) = ((m ||| bitN (j + 1) : Nat) : Int) := by
              rw [or_u64 (by omega) (by omega) (by omega) (by omega), Int.toNat_natCast, Int.toNat_natCast]
            simp (disch := (first | omega | rfl | (simp only [Heap.nx_upd, Heap.nx_new]; omega))) only [↓reduceIte, reduceCtorEq, Za, Zb, Zc, Zd, Ze, Zf, Zg, Zh, Zi, Zj, Zk, Zl, Zm, Zn, Zo, Zp, Zq, Zr, Zs, Zt, Zu, Zv, gval, Zw, Zx, Zy, Zz, ZA, ZB, ZC, ZD, ZE, ZF, decide_eq_true_eq, ZG, ZH, ZI, ZJ, ZK, ZL, ZM, ZN, ZO, ZP, ZQ, ZR, ZS, Option.some.injEq, exists_eq_left', ZT, ZU, ZV, ZW, ZX, ZY, true_and, and_true, true_or, or_true, false_or, or_false, ite_true, ite_false, cond_true, cond_false, ZZ, Qa, if_true, if_false, decide_true, decide_false, Qb, Qc, Qd, Qe, Qf, Qg, Qh, Qi, Qj, Qk, Ql, Qm, Qn, Qo, Qp, rb0, rb1, rb2, rb3, rb4, tf0, tf1, tf2, tf3, tf4, Heap.get_upd_ne, Heap.get_new_ne, Heap.get_new_at, overL_one, if_pos, stX_exactN, a2, a3, f0, f3, f4, f5, f6, f7, hj1, hM4, hMl, hxb, Nat.mul_one, hwj, hwu, hsh, hor]
            refine hQn2 _ _ _ (by omega) ⟨j + 1, o4, v4, m ||| bitN (j + 1), rfl, by omega, ?_, ?_, ?_, ?_, ?_, ?_, with_lt hm (by omega), fun k => ?_, hg4, hne4, hM4, by omega, hk4'⟩
            · simp only [↓reduceIte, reduceCtorEq, Za, Zb, Zc, Zd, Ze, Zf, Zg, Zh, Zi, Zj, Zk, Zl, Zm, Zn, Zo, Zp, Zq, Zr, Zs, Zt, Zu, Zv, gval, Zw, Zx, Zy, Zz, ZA, ZB, ZC, ZD, ZE, ZF, decide_eq_true_eq, ZG, ZH, ZI, ZJ, ZK, ZL, ZM, ZN, ZO, ZP, ZQ, ZR, ZS, Option.some.injEq, exists_eq_left', ZT, ZU, ZV, ZW, ZX, ZY, true_and, and_true, true_or, or_true, false_or, or_false, ite_true, ite_false, cond_true, cond_false, ZZ, Qa, if_true, if_false, decide_true, decide_false, Qb, Qc, Qd, Qe, Qf, Qg, Qh, Qi, Qj, Qk, Ql, Qm, Qn, Qo, Qp, rb0, rb1, rb2, rb3, rb4, tf0, tf1, tf2, tf3, tf4, f0]
            · simp only [↓reduceIte, reduceCtorEq, Za, Zb, Zc, Zd, Ze, Zf, Zg, Zh, Zi, Zj, Zk, Zl, Zm, Zn, Zo, Zp, Zq, Zr, Zs, Zt, Zu, Zv, gval, Zw, Zx, Zy, Zz, ZA, ZB, ZC, ZD, ZE, ZF, decide_eq_true_eq, ZG, ZH, ZI, ZJ, ZK, ZL, ZM, ZN, ZO, ZP, ZQ, ZR, ZS, Option.some.injEq, exists_eq_left', ZT, ZU, ZV, ZW, ZX, ZY, true_and, and_true, true_or, or_true, false_or, or_false, ite_true, ite_false, cond_true, cond_false, ZZ, Qa, if_true, if_false, decide_true, decide_false, Qb, Qc, Qd, Qe, Qf, Qg, Qh, Qi, Qj, Qk, Ql, Qm, Qn, Qo, Qp, rb0, rb1, rb2, rb3, rb4, tf0, tf1, tf2, tf3, tf4]
            · simp only [↓reduceIte, reduceCtorEq, Za, Zb, Zc, Zd, Ze, Zf, Zg, Zh, Zi, Zj, Zk, Zl, Zm, Zn, Zo, Zp, Zq, Zr, Zs, Zt, Zu, Zv, gval, Zw, Zx, Zy, Zz, ZA, ZB, ZC, ZD, ZE, ZF, decide_eq_true_eq, ZG, ZH, ZI, ZJ, ZK, ZL, ZM, ZN, ZO, ZP, ZQ, ZR, ZS, Option.some.injEq, exists_eq_left', ZT, ZU, ZV, ZW, ZX, ZY, true_and, and_true, true_or, or_true, false_or, or_false, ite_true, ite_false, cond_true, cond_false, ZZ, Qa, if_true, if_false, decide_true, decide_false, Qb, Qc, Qd, Qe, Qf, Qg, Qh, Qi, Qj, Qk, Ql, Qm, Qn, Qo, Qp, rb0, rb1, rb2, rb3, rb4, tf0, tf1, tf2, tf3, tf4, f4]
            · simp only [↓reduceIte, reduceCtorEq, Za, Zb, Zc, Zd, Ze, Zf, Zg, Zh, Zi, Zj, Zk, Zl, Zm, Zn, Zo, Zp, Zq, Zr, Zs, Zt, Zu, Zv, gval, Zw, Zx, Zy, Zz, ZA, ZB, ZC, ZD, ZE, ZF, decide_eq_true_eq, ZG, ZH, ZI, ZJ, ZK, ZL, ZM, ZN, ZO, ZP, ZQ, ZR, ZS, Option.some.injEq, exists_eq_left', ZT, ZU, ZV, ZW, ZX, ZY, true_and, and_true, true_or, or_true, false_or, or_false, ite_true, ite_false, cond_true, cond_false, ZZ, Qa, if_true, if_false, decide_true, decide_false, Qb, Qc, Qd, Qe, Qf, Qg, Qh, Qi, Qj, Qk, Ql, Qm, Qn, Qo, Qp, rb0, rb1, rb2, rb3, rb4, tf0, tf1, tf2, tf3, tf4, f5]
            · simp only [↓reduceIte, reduceCtorEq, Za, Zb, Zc, Zd, Ze, Zf, Zg, Zh, Zi, Zj, Zk, Zl, Zm, Zn, Zo, Zp, Zq, Zr, Zs, Zt, Zu, Zv, gval, Zw, Zx, Zy, Zz, ZA, ZB, ZC, ZD, ZE, ZF, decide_eq_true_eq, ZG, ZH, ZI, ZJ, ZK, ZL, ZM, ZN, ZO, ZP, ZQ, ZR, ZS, Option.some.injEq, exists_eq_left', ZT, ZU, ZV, ZW, ZX, ZY, true_and, and_true, true_or, or_true, false_or, or_false, ite_true, ite_false, cond_true, cond_false, ZZ, Qa, if_true, if_false, decide_true, decide_false, Qb, Qc, Qd, Qe, Qf, Qg, Qh, Qi, Qj, Qk, Ql, Qm, Qn, Qo, Qp, rb0, rb1, rb2, rb3, rb4, tf0, tf1, tf2, tf3, tf4]
            · simp only [↓reduceIte, reduceCtorEq, Za, Zb, Zc, Zd, Ze, Zf, Zg, Zh, Zi, Zj, Zk, Zl, Zm, Zn, Zo, Zp, Zq, Zr, Zs, Zt, Zu, Zv, gval, Zw, Zx, Zy, Zz, ZA, ZB, ZC, ZD, ZE, ZF, decide_eq_true_eq, ZG, ZH, ZI, ZJ, ZK, ZL, ZM, ZN, ZO, ZP, ZQ, ZR, ZS, Option.some.injEq, exists_eq_left', ZT, ZU, ZV, ZW, ZX, ZY, true_and, and_true, true_or, or_true, false_or, or_false, ite_true, ite_false, cond_true, cond_false, ZZ, Qa, if_true, if_false, decide_true, decide_false, Qb, Qc, Qd, Qe, Qf, Qg, Qh, Qi, Qj, Qk, Ql, Qm, Qn, Qo, Qp, rb0, rb1, rb2, rb3, rb4, tf0, tf1, tf2, tf3, tf4]
              rfl
            · rw [testBit_with, hmb]
              by_cases hk2 : k = j + 1
              · subst hk2; simp [hpj]
              · by_cases hk : 1 ≤ k ∧ k ≤ j
                · have h5 : 1 ≤ k ∧ k ≤ j + 1 := by omega
                  have h6 : ¬ j + 1 = k := by omega
                  simp [hk, h5, h6]
                · have h5 : ¬ (1 ≤ k ∧ k ≤ j + 1) := by omega
                  have h6 : ¬ j + 1 = k := by omega
                  simp [hk, h5, h6]
        · obtain rfl : j = 15 := by omega
          simp (disch := (first | omega | rfl | (simp only [Heap.nx_upd, Heap.nx_new]; omega))) only [↓reduceIte, reduceCtorEq, Za, Zb, Zc, Zd, Ze, Zf, Zg, Zh, Zi, Zj, Zk, Zl, Zm, Zn, Zo, Zp, Zq, Zr, Zs, Zt, Zu, Zv, gval, Zw, Zx, Zy, Zz, ZA, ZB, ZC, ZD, ZE, ZF, decide_eq_true_eq, ZG, ZH, ZI, ZJ, ZK, ZL, ZM, ZN, ZO, ZP, ZQ, ZR, ZS, Option.some.injEq, exists_eq_left', ZT, ZU, ZV, ZW, ZX, ZY, true_and, and_true, true_or, or_true, false_or, or_false, ite_true, ite_false, cond_true, cond_false, ZZ, Qa, if_true, if_false, decide_true, decide_false, Qb, Qc, Qd, Qe, Qf, Qg, Qh, Qi, Qj, Qk, Ql, Qm, Qn, Qo, Qp, rb0, rb1, rb2, rb3, rb4, tf0, tf1, tf2, tf3, tf4, Heap.get_upd_ne, Heap.get_new_ne, Heap.get_new_at, overL_one, if_pos, stX_exactN, f7]
          refine hQx2 _ _ _ (by simp) ⟨rfl, o3, v3, by simp only [↓reduceIte, reduceCtorEq, Za, Zb, Zc, Zd, Ze, Zf, Zg, Zh, Zi, Zj, Zk, Zl, Zm, Zn, Zo, Zp, Zq, Zr, Zs, Zt, Zu, Zv, gval, Zw, Zx, Zy, Zz, ZA, ZB, ZC, ZD, ZE, ZF, decide_eq_true_eq, ZG, ZH, ZI, ZJ, ZK, ZL, ZM, ZN, ZO, ZP, ZQ, ZR, ZS, Option.some.injEq, exists_eq_left', ZT, ZU, ZV, ZW, ZX, ZY, true_and, and_true, true_or, or_true, false_or, or_false, ite_true, ite_false, cond_true, cond_false, ZZ, Qa, if_true, if_false, decide_true, decide_false, Qb, Qc, Qd, Qe, Qf, Qg, Qh, Qi, Qj, Qk, Ql, Qm, Qn, Qo, Qp, rb0, rb1, rb2, rb3, rb4, tf0, tf1, tf2, tf3, tf4, f0], by simp only [↓reduceIte, reduceCtorEq, Za, Zb, Zc, Zd, Ze, Zf, Zg, Zh, Zi, Zj, Zk, Zl, Zm, Zn, Zo, Zp, Zq, Zr, Zs, Zt, Zu, Zv, gval, Zw, Zx, Zy, Zz, ZA, ZB, ZC, ZD, ZE, ZF, decide_eq_true_eq, ZG, ZH, ZI, ZJ, ZK, ZL, ZM, ZN, ZO, ZP, ZQ, ZR, ZS, Option.some.injEq, exists_eq_left', ZT, ZU, ZV, ZW, ZX, ZY, true_and, and_true, true_or, or_true, false_or, or_false, ite_true, ite_false, cond_true, cond_false, ZZ, Qa, if_true, if_false, decide_true, decide_false, Qb, Qc, Qd, Qe, Qf, Qg, Qh, Qi, Qj, Qk, Ql, Qm, Qn, Qo, Qp, rb0, rb1, rb2, rb3, rb4, tf0, tf1, tf2, tf3, tf4, f3], by simp only [↓reduceIte, reduceCtorEq, Za, Zb, Zc, Zd, Ze, Zf, Zg, Zh, Zi, Zj, Zk, Zl, Zm, Zn, Zo, Zp, Zq, Zr, Zs, Zt, Zu, Zv, gval, Zw, Zx, Zy, Zz, ZA, ZB, ZC, ZD, ZE, ZF, decide_eq_true_eq, ZG, ZH, ZI, ZJ, ZK, ZL, ZM, ZN, ZO, ZP, ZQ, ZR, ZS, Option.some.injEq, exists_eq_left', ZT, ZU, ZV, ZW, ZX, ZY, true_and, and_true, true_or, or_true, false_or, or_false, ite_true, ite_false, cond_true, cond_false, ZZ, Qa, if_true, if_false, decide_true, decide_false, Qb, Qc, Qd, Qe, Qf, Qg, Qh, Qi, Qj, Qk, Ql, Qm, Qn, Qo, Qp, rb0, rb1, rb2, rb3, rb4, tf0, tf1, tf2, tf3, tf4, f4], by simp only [↓reduceIte, reduceCtorEq, Za, Zb, Zc, Zd, Ze, Zf, Zg, Zh, Zi, Zj, Zk, Zl, Zm, Zn, Zo, Zp, Zq, Zr, Zs, Zt, Zu, Zv, gval, Zw, Zx, Zy, Zz, ZA, ZB, ZC, ZD, ZE, ZF, decide_eq_true_eq, ZG, ZH, ZI, ZJ, ZK, ZL, ZM, ZN, ZO, ZP, ZQ, ZR, ZS, Option.some.injEq, exists_eq_left', ZT, ZU, ZV, ZW, ZX, ZY, true_and, and_true, true_or, or_true, false_or, or_false, ite_true, ite_false, cond_true, cond_false, ZZ, Qa, if_true, if_false, decide_true, decide_false, Qb, Qc, Qd, Qe, Qf, Qg, Qh, Qi, Qj, Qk, Ql, Qm, Qn, Qo, Qp, rb0, rb1, rb2, rb3, rb4, tf0, tf1, tf2, tf3, tf4, f5], ?_, ?_, hne3, hM3, hn3, hk3⟩
          · have : m = P := Nat.eq_of_testBit_eq fun k => by rw [hmb, hPb]
            simp only [↓reduceIte, reduceCtorEq, Za, Zb, Zc, Zd, Ze, Zf, Zg, Zh, Zi, Zj, Zk, Zl, Zm, Zn, Zo, Zp, Zq, Zr, Zs, Zt, Zu, Zv, gval, Zw, Zx, Zy, Zz, ZA, ZB, ZC, ZD, ZE, ZF, decide_eq_true_eq, ZG, ZH, ZI, ZJ, ZK, ZL, ZM, ZN, ZO, ZP, ZQ, ZR, ZS, Option.some.injEq, exists_eq_left', ZT, ZU, ZV, ZW, ZX, ZY, true_and, and_true, true_or, or_true, false_or, or_false, ite_true, ite_false, cond_true, cond_false, ZZ, Qa, if_true, if_false, decide_true, decide_false, Qb, Qc, Qd, Qe, Qf, Qg, Qh, Qi, Qj, Qk, Ql, Qm, Qn, Qo, Qp, rb0, rb1, rb2, rb3, rb4, tf0, tf1, tf2, tf3, tf4, f6]
            rw [hP, this]
          · rwa [show x.H.take 15 = x.H from List.take_of_length_le (by omega)] at hg3
      · refine ⟨0, o, v, 0, rfl, by omega, ?_, ?_, ?_, ?_, ?_, ?_, by omega, fun k => ?_, ?_, ?_, Heap.get_new_same _ _, ?_, fun b' hb' => ?_⟩
        · simp only [↓reduceIte, reduceCtorEq, Za, Zb, Zc, Zd, Ze, Zf, Zg, Zh, Zi, Zj, Zk, Zl, Zm, Zn, Zo, Zp, Zq, Zr, Zs, Zt, Zu, Zv, gval, Zw, Zx, Zy, Zz, ZA, ZB, ZC, ZD, ZE, ZF, decide_eq_true_eq, ZG, ZH, ZI, ZJ, ZK, ZL, ZM, ZN, ZO, ZP, ZQ, ZR, ZS, Option.some.injEq, exists_eq_left', ZT, ZU, ZV, ZW, ZX, ZY, true_and, and_true, true_or, or_true, false_or, or_false, ite_true, ite_false, cond_true, cond_false, ZZ, Qa, if_true, if_false, decide_true, decide_false, Qb, Qc, Qd, Qe, Qf, Qg, Qh, Qi, Qj, Qk, Ql, Qm, Qn, Qo, Qp, rb0, rb1, rb2, rb3, rb4, tf0, tf1, tf2, tf3, tf4, e0]
        · simp only [↓reduceIte, reduceCtorEq, Za, Zb, Zc, Zd, Ze, Zf, Zg, Zh, Zi, Zj, Zk, Zl, Zm, Zn, Zo, Zp, Zq, Zr, Zs, Zt, Zu, Zv, gval, Zw, Zx, Zy, Zz, ZA, ZB, ZC, ZD, ZE, ZF, decide_eq_true_eq, ZG, ZH, ZI, ZJ, ZK, ZL, ZM, ZN, ZO, ZP, ZQ, ZR, ZS, Option.some.injEq, exists_eq_left', ZT, ZU, ZV, ZW, ZX, ZY, true_and, and_true, true_or, or_true, false_or, or_false, ite_true, ite_false, cond_true, cond_false, ZZ, Qa, if_true, if_false, decide_true, decide_false, Qb, Qc, Qd, Qe, Qf, Qg, Qh, Qi, Qj, Qk, Ql, Qm, Qn, Qo, Qp, rb0, rb1, rb2, rb3, rb4, tf0, tf1, tf2, tf3, tf4, e3]
        · simp only [↓reduceIte, reduceCtorEq, Za, Zb, Zc, Zd, Ze, Zf, Zg, Zh, Zi, Zj, Zk, Zl, Zm, Zn, Zo, Zp, Zq, Zr, Zs, Zt, Zu, Zv, gval, Zw, Zx, Zy, Zz, ZA, ZB, ZC, ZD, ZE, ZF, decide_eq_true_eq, ZG, ZH, ZI, ZJ, ZK, ZL, ZM, ZN, ZO, ZP, ZQ, ZR, ZS, Option.some.injEq, exists_eq_left', ZT, ZU, ZV, ZW, ZX, ZY, true_and, and_true, true_or, or_true, false_or, or_false, ite_true, ite_false, cond_true, cond_false, ZZ, Qa, if_true, if_false, decide_true, decide_false, Qb, Qc, Qd, Qe, Qf, Qg, Qh, Qi, Qj, Qk, Ql, Qm, Qn, Qo, Qp, rb0, rb1, rb2, rb3, rb4, tf0, tf1, tf2, tf3, tf4, e4]
        · simp only [↓reduceIte, reduceCtorEq, Za, Zb, Zc, Zd, Ze, Zf, Zg, Zh, Zi, Zj, Zk, Zl, Zm, Zn, Zo, Zp, Zq, Zr, Zs, Zt, Zu, Zv, gval, Zw, Zx, Zy, Zz, ZA, ZB, ZC, ZD, ZE, ZF, decide_eq_true_eq, ZG, ZH, ZI, ZJ, ZK, ZL, ZM, ZN, ZO, ZP, ZQ, ZR, ZS, Option.some.injEq, exists_eq_left', ZT, ZU, ZV, ZW, ZX, ZY, true_and, and_true, true_or, or_true, false_or, or_false, ite_true, ite_false, cond_true, cond_false, ZZ, Qa, if_true, if_false, decide_true, decide_false, Qb, Qc, Qd, Qe, Qf, Qg, Qh, Qi, Qj, Qk, Ql, Qm, Qn, Qo, Qp, rb0, rb1, rb2, rb3, rb4, tf0, tf1, tf2, tf3, tf4]
        · simp only [↓reduceIte, reduceCtorEq, Za, Zb, Zc, Zd, Ze, Zf, Zg, Zh, Zi, Zj, Zk, Zl, Zm, Zn, Zo, Zp, Zq, Zr, Zs, Zt, Zu, Zv, gval, Zw, Zx, Zy, Zz, ZA, ZB, ZC, ZD, ZE, ZF, decide_eq_true_eq, ZG, ZH, ZI, ZJ, ZK, ZL, ZM, ZN, ZO, ZP, ZQ, ZR, ZS, Option.some.injEq, exists_eq_left', ZT, ZU, ZV, ZW, ZX, ZY, true_and, and_true, true_or, or_true, false_or, or_false, ite_true, ite_false, cond_true, cond_false, ZZ, Qa, if_true, if_false, decide_true, decide_false, Qb, Qc, Qd, Qe, Qf, Qg, Qh, Qi, Qj, Qk, Ql, Qm, Qn, Qo, Qp, rb0, rb1, rb2, rb3, rb4, tf0, tf1, tf2, tf3, tf4]
        · simp only [↓reduceIte, reduceCtorEq, Za, Zb, Zc, Zd, Ze, Zf, Zg, Zh, Zi, Zj, Zk, Zl, Zm, Zn, Zo, Zp, Zq, Zr, Zs, Zt, Zu, Zv, gval, Zw, Zx, Zy, Zz, ZA, ZB, ZC, ZD, ZE, ZF, decide_eq_true_eq, ZG, ZH, ZI, ZJ, ZK, ZL, ZM, ZN, ZO, ZP, ZQ, ZR, ZS, Option.some.injEq, exists_eq_left', ZT, ZU, ZV, ZW, ZX, ZY, true_and, and_true, true_or, or_true, false_or, or_false, ite_true, ite_false, cond_true, cond_false, ZZ, Qa, if_true, if_false, decide_true, decide_false, Qb, Qc, Qd, Qe, Qf, Qg, Qh, Qi, Qj, Qk, Ql, Qm, Qn, Qo, Qp, rb0, rb1, rb2, rb3, rb4, tf0, tf1, tf2, tf3, tf4]
        · rw [Nat.zero_testBit]
          have hk : ¬ (1 ≤ k ∧ k ≤ 0) := by omega
          rw [decide_eq_false hk]; rfl
        · rw [List.take_zero, List.append_nil]; exact hg.new
        · exact fun e => by have := hg.lt _ e; omega
        · rw [Heap.nx_new]; omega
        · rw [Heap.get_new_ne _ _ (by omega)]; exact hk b' hb'
      · rintro ex e' h3 - ⟨rfl, o3, v3, f0, f3, f4, f5, f6, hg3, hne3, hM3, hn3, hk3⟩
        simp (disch := (first | omega | rfl | (simp only [Heap.nx_upd, Heap.nx_new]; omega))) only [↓reduceIte, reduceCtorEq, Za, Zb, Zc, Zd, Ze, Zf, Zg, Zh, Zi, Zj, Zk, Zl, Zm, Zn, Zo, Zp, Zq, Zr, Zs, Zt, Zu, Zv, gval, Zw, Zx, Zy, Zz, ZA, ZB, ZC, ZD, ZE, ZF, decide_eq_true_eq, ZG, ZH, ZI, ZJ, ZK, ZL, ZM, ZN, ZO, ZP, ZQ, ZR, ZS, Option.some.injEq, exists_eq_left', ZT, ZU, ZV, ZW, ZX, ZY, true_and, and_true, true_or, or_true, false_or, or_false, ite_true, ite_false, cond_true, cond_false, ZZ, Qa, if_true, if_false, decide_true, decide_false, Qb, Qc, Qd, Qe, Qf, Qg, Qh, Qi, Qj, Qk, Ql, Qm, Qn, Qo, Qp, rb0, rb1, rb2, rb3, rb4, tf0, tf1, tf2, tf3, tf4, Heap.get_upd_ne, Heap.get_new_ne, Heap.get_new_at, overL_one, if_pos, stX_exactN, f3, f5, f6, bs1_47]
        obtain ⟨E5, h5, o5, v5, b1, b2, b3, hg5, hn5, hk5, ho5⟩ := grow (h := h3.new (cellsB [.int .u64 x.p] .exact)) (xs := [x.p]) (hg3.new) (by simp (disch := (first | omega | rfl | (simp only [Heap.nx_upd, Heap.nx_new]; omega))) only [Heap.get_upd_ne, Heap.get_new_ne, Heap.get_new_at, Heap.get_upd_same, Heap.get_new_same, Heap.nx_upd, Heap.nx_new]; omega) (x := .slice (some ⟨h3.nx, 0, none⟩) 1 1) rfl (by rw [firstL_slc _ _ _ _ _ _ _ _ _ (Heap.get_new_same _ _) (by simp)]; rfl) (by simp only [List.length_append, List.length_cons, List.length_nil]; omega)
        have hM5 : h5.get h2.nx = some (cellsB M .exact) := by
          rw [hk5 _ hne3 (by simp (disch := (first | omega | rfl | (simp only [Heap.nx_upd, Heap.nx_new]; omega))) only [Heap.get_upd_ne, Heap.get_new_ne, Heap.get_new_at, Heap.get_upd_same, Heap.get_new_same, Heap.nx_upd, Heap.nx_new]; omega), Heap.get_new_ne _ _ (by omega), hM3]
        rw [Heap.nx_new] at b1 hn5
        rw [b1]
        have hk5' : ∀ b', b' < h.nx → h5.get b' = h.get b' := fun b' hb' => by
          rw [hk5 _ (hg3.ne hb') (by rw [Heap.nx_new]; omega), Heap.get_new_ne _ _ (by omega), hk3 b' hb']
        cases hxi : x.i with
        | false =>
          rw [hxi] at hM30
          simp (disch := (first | omega | rfl | (simp only [Heap.nx_upd, Heap.nx_new]; omega))) only [↓reduceIte, reduceCtorEq, Za, Zb, Zc, Zd, Ze, Zf, Zg, Zh, Zi, Zj, Zk, Zl, Zm, Zn, Zo, Zp, Zq, Zr, Zs, Zt, Zu, Zv, gval, Zw, Zx, Zy, Zz, ZA, ZB, ZC, ZD, ZE, ZF, decide_eq_true_eq, ZG, ZH, ZI, ZJ, ZK, ZL, ZM, ZN, ZO, ZP, ZQ, ZR, ZS, Option.some.injEq, exists_eq_left', ZT, ZU, ZV, ZW, ZX, ZY, true_and, and_true, true_or, or_true, false_or, or_false, ite_true, ite_false, cond_true, cond_false, ZZ, Qa, if_true, if_false, decide_true, decide_false, Qb, Qc, Qd, Qe, Qf, Qg, Qh, Qi, Qj, Qk, Ql, Qm, Qn, Qo, Qp, rb0, rb1, rb2, rb3, rb4, tf0, tf1, tf2, tf3, tf4, Heap.get_upd_ne, Heap.get_new_ne, Heap.get_new_at, overL_one, if_pos, stX_exactN, b2, b3, f5, hM5, hMl, hM30, bs1_47]
          obtain ⟨E6, h6, o6, v6, c1, c2, c3, hg6, hn6, hk6, ho6⟩ := grow (h := h5.new (cellsB [.int .u64 0] .exact)) (xs := [0]) (hg5.new) (by simp (disch := (first | omega | rfl | (simp only [Heap.nx_upd, Heap.nx_new]; omega))) only [Heap.get_upd_ne, Heap.get_new_ne, Heap.get_new_at, Heap.get_upd_same, Heap.get_new_same, Heap.nx_upd, Heap.nx_new]; omega) (x := .slice (some ⟨h5.nx, 0, none⟩) 1 1) rfl (by rw [firstL_slc _ _ _ _ _ _ _ _ _ (Heap.get_new_same _ _) (by simp)]; rfl) (by simp only [List.length_append, List.length_cons, List.length_nil]; omega)
          rw [Heap.nx_new] at c1 hn6
          rw [c1]
          simp (disch := (first | omega | rfl | (simp only [Heap.nx_upd, Heap.nx_new]; omega))) only [↓reduceIte, reduceCtorEq, Za, Zb, Zc, Zd, Ze, Zf, Zg, Zh, Zi, Zj, Zk, Zl, Zm, Zn, Zo, Zp, Zq, Zr, Zs, Zt, Zu, Zv, gval, Zw, Zx, Zy, Zz, ZA, ZB, ZC, ZD, ZE, ZF, decide_eq_true_eq, ZG, ZH, ZI, ZJ, ZK, ZL, ZM, ZN, ZO, ZP, ZQ, ZR, ZS, Option.some.injEq, exists_eq_left', ZT, ZU, ZV, ZW, ZX, ZY, true_and, and_true, true_or, or_true, false_or, or_false, ite_true, ite_false, cond_true, cond_false, ZZ, Qa, if_true, if_false, decide_true, decide_false, Qb, Qc, Qd, Qe, Qf, Qg, Qh, Qi, Qj, Qk, Ql, Qm, Qn, Qo, Qp, rb0, rb1, rb2, rb3, rb4, tf0, tf1, tf2, tf3, tf4, Heap.get_upd_ne, Heap.get_new_ne, Heap.get_new_at, overL_one, if_pos, stX_exactN, c2, c3, f4, hwi]
          have hen : enc x = x.H ++ [x.p] ++ [0] := by unfold enc; rw [hxi]; simp
          refine hQn _ _ _ (by omega) ⟨i + 1, o6, v6, rfl, by omega, ?_, ?_, ?_, ?_, ?_, by omega, fun b' hb' => ?_⟩
          · simp only [↓reduceIte, reduceCtorEq, Za, Zb, Zc, Zd, Ze, Zf, Zg, Zh, Zi, Zj, Zk, Zl, Zm, Zn, Zo, Zp, Zq, Zr, Zs, Zt, Zu, Zv, gval, Zw, Zx, Zy, Zz, ZA, ZB, ZC, ZD, ZE, ZF, decide_eq_true_eq, ZG, ZH, ZI, ZJ, ZK, ZL, ZM, ZN, ZO, ZP, ZQ, ZR, ZS, Option.some.injEq, exists_eq_left', ZT, ZU, ZV, ZW, ZX, ZY, true_and, and_true, true_or, or_true, false_or, or_false, ite_true, ite_false, cond_true, cond_false, ZZ, Qa, if_true, if_false, decide_true, decide_false, Qb, Qc, Qd, Qe, Qf, Qg, Qh, Qi, Qj, Qk, Ql, Qm, Qn, Qo, Qp, rb0, rb1, rb2, rb3, rb4, tf0, tf1, tf2, tf3, tf4, f0]
          · simp only [↓reduceIte, reduceCtorEq, Za, Zb, Zc, Zd, Ze, Zf, Zg, Zh, Zi, Zj, Zk, Zl, Zm, Zn, Zo, Zp, Zq, Zr, Zs, Zt, Zu, Zv, gval, Zw, Zx, Zy, Zz, ZA, ZB, ZC, ZD, ZE, ZF, decide_eq_true_eq, ZG, ZH, ZI, ZJ, ZK, ZL, ZM, ZN, ZO, ZP, ZQ, ZR, ZS, Option.some.injEq, exists_eq_left', ZT, ZU, ZV, ZW, ZX, ZY, true_and, and_true, true_or, or_true, false_or, or_false, ite_true, ite_false, cond_true, cond_false, ZZ, Qa, if_true, if_false, decide_true, decide_false, Qb, Qc, Qd, Qe, Qf, Qg, Qh, Qi, Qj, Qk, Ql, Qm, Qn, Qo, Qp, rb0, rb1, rb2, rb3, rb4, tf0, tf1, tf2, tf3, tf4]
          · simp only [↓reduceIte, reduceCtorEq, Za, Zb, Zc, Zd, Ze, Zf, Zg, Zh, Zi, Zj, Zk, Zl, Zm, Zn, Zo, Zp, Zq, Zr, Zs, Zt, Zu, Zv, gval, Zw, Zx, Zy, Zz, ZA, ZB, ZC, ZD, ZE, ZF, decide_eq_true_eq, ZG, ZH, ZI, ZJ, ZK, ZL, ZM, ZN, ZO, ZP, ZQ, ZR, ZS, Option.some.injEq, exists_eq_left', ZT, ZU, ZV, ZW, ZX, ZY, true_and, and_true, true_or, or_true, false_or, or_false, ite_true, ite_false, cond_true, cond_false, ZZ, Qa, if_true, if_false, decide_true, decide_false, Qb, Qc, Qd, Qe, Qf, Qg, Qh, Qi, Qj, Qk, Ql, Qm, Qn, Qo, Qp, rb0, rb1, rb2, rb3, rb4, tf0, tf1, tf2, tf3, tf4]
            rfl
          · rw [encs_take hx, hen]
            simpa only [List.append_assoc] using hg6
          · rw [encs_take hx, hen]
            simp only [List.length_append, List.length_cons, List.length_nil]; omega
          · rw [hk6 _ (hg5.ne hb') (by rw [Heap.nx_new]; omega), Heap.get_new_ne _ _ (by omega)]
            exact hk5' b' hb'
        | true =>
          rw [hxi] at hM30
          obtain ⟨hwd, hst, hpc0, hpc1⟩ := g5 hxi
          have hwd5 := hwd.keep (h' := h5) (lo' := lo) (Nat.le_refl _) (by omega) (fun b' _ hb' => hk5' b' hb')
          obtain ⟨sa, sc, rfl, hsx⟩ := hwd5.is
          have hpw : wrapF .u64 x.pc = x.pc := wrapU (by omega) (by omega)
          have hlw : wrapF .u64 (x.st.length : Int) = (x.st.length : Int) := wrapU (by omega) (by omega)
          simp (disch := (first | omega | rfl | (simp only [Heap.nx_upd, Heap.nx_new]; omega))) only [↓reduceIte, reduceCtorEq, Za, Zb, Zc, Zd, Ze, Zf, Zg, Zh, Zi, Zj, Zk, Zl, Zm, Zn, Zo, Zp, Zq, Zr, Zs, Zt, Zu, Zv, gval, Zw, Zx, Zy, Zz, ZA, ZB, ZC, ZD, ZE, ZF, decide_eq_true_eq, ZG, ZH, ZI, ZJ, ZK, ZL, ZM, ZN, ZO, ZP, ZQ, ZR, ZS, Option.some.injEq, exists_eq_left', ZT, ZU, ZV, ZW, ZX, ZY, true_and, and_true, true_or, or_true, false_or, or_false, ite_true, ite_false, cond_true, cond_false, ZZ, Qa, if_true, if_false, decide_true, decide_false, Qb, Qc, Qd, Qe, Qf, Qg, Qh, Qi, Qj, Qk, Ql, Qm, Qn, Qo, Qp, rb0, rb1, rb2, rb3, rb4, tf0, tf1, tf2, tf3, tf4, Heap.get_upd_ne, Heap.get_new_ne, Heap.get_new_at, overL_one, if_pos, stX_exactN, b2, b3, f5, hM5, hMl, hM30, hM31, hM32, hpw, hlw, bs3_47]
          obtain ⟨E6, h6, o6, v6, c1, c2, c3, hg6, hn6, hk6, ho6⟩ := grow (h := h5.new (cellsB [.int .u64 1, .int .u64 x.pc, .int .u64 (x.st.length : Int)] .exact)) (xs := [1, x.pc, (x.st.length : Int)]) (hg5.new) (by simp (disch := (first | omega | rfl | (simp only [Heap.nx_upd, Heap.nx_new]; omega))) only [Heap.get_upd_ne, Heap.get_new_ne, Heap.get_new_at, Heap.get_upd_same, Heap.get_new_same, Heap.nx_upd, Heap.nx_new]; omega) (x := .slice (some ⟨h5.nx, 0, none⟩) 3 3) rfl (by rw [firstL_slc _ _ _ _ _ _ _ _ _ (Heap.get_new_same _ _) (by simp)]; rfl) (by simp only [List.length_append, List.length_cons, List.length_nil]; omega)
          rw [Heap.nx_new] at c1 hn6
          have hnz5 : o5 ≠ some h2.nx := fun e => by
            rcases ho5 _ e with q | q
            · exact hne3 q
            · rw [Heap.nx_new] at q; omega
          have hM6 : h6.get h2.nx = some (cellsB M .exact) := by
            rw [hk6 _ hnz5 (by simp (disch := (first | omega | rfl | (simp only [Heap.nx_upd, Heap.nx_new]; omega))) only [Heap.get_upd_ne, Heap.get_new_ne, Heap.get_new_at, Heap.get_upd_same, Heap.get_new_same, Heap.nx_upd, Heap.nx_new]; omega), Heap.get_new_ne _ _ (by omega), hM5]
          rw [c1]
          simp (disch := (first | omega | rfl | (simp only [Heap.nx_upd, Heap.nx_new]; omega))) only [↓reduceIte, reduceCtorEq, Za, Zb, Zc, Zd, Ze, Zf, Zg, Zh, Zi, Zj, Zk, Zl, Zm, Zn, Zo, Zp, Zq, Zr, Zs, Zt, Zu, Zv, gval, Zw, Zx, Zy, Zz, ZA, ZB, ZC, ZD, ZE, ZF, decide_eq_true_eq, ZG, ZH, ZI, ZJ, ZK, ZL, ZM, ZN, ZO, ZP, ZQ, ZR, ZS, Option.some.injEq, exists_eq_left', ZT, ZU, ZV, ZW, ZX, ZY, true_and, and_true, true_or, or_true, false_or, or_false, ite_true, ite_false, cond_true, cond_false, ZZ, Qa, if_true, if_false, decide_true, decide_false, Qb, Qc, Qd, Qe, Qf, Qg, Qh, Qi, Qj, Qk, Ql, Qm, Qn, Qo, Qp, rb0, rb1, rb2, rb3, rb4, tf0, tf1, tf2, tf3, tf4, Heap.get_upd_ne, Heap.get_new_ne, Heap.get_new_at, overL_one, if_pos, stX_exactN, c2, c3, f5, hM6, hMl, hM32]
          have hk6' : ∀ b', b' < h.nx → h6.get b' = h.get b' := fun b' hb' => by
            rw [hk6 _ (hg5.ne hb') (by rw [Heap.nx_new]; omega), Heap.get_new_ne _ _ (by omega)]
            exact hk5' b' hb'
          have hwd6 := hwd.keep (h' := h6) (lo' := lo) (Nat.le_refl _) (by omega) (fun b' _ hb' => hk6' b' hb')
          obtain ⟨E7, h7, o7, v7, d1, d2, d3, hg7, hn7, hk7, ho7⟩ := grow (xs := x.st) hg6 (by omega) (x := .slice sa x.st.length sc) rfl hwd6.first (by simp only [List.length_append, List.length_cons, List.length_nil]; omega)
          rw [d1]
          simp (disch := (first | omega | rfl | (simp only [Heap.nx_upd, Heap.nx_new]; omega))) only [↓reduceIte, reduceCtorEq, Za, Zb, Zc, Zd, Ze, Zf, Zg, Zh, Zi, Zj, Zk, Zl, Zm, Zn, Zo, Zp, Zq, Zr, Zs, Zt, Zu, Zv, gval, Zw, Zx, Zy, Zz, ZA, ZB, ZC, ZD, ZE, ZF, decide_eq_true_eq, ZG, ZH, ZI, ZJ, ZK, ZL, ZM, ZN, ZO, ZP, ZQ, ZR, ZS, Option.some.injEq, exists_eq_left', ZT, ZU, ZV, ZW, ZX, ZY, true_and, and_true, true_or, or_true, false_or, or_false, ite_true, ite_false, cond_true, cond_false, ZZ, Qa, if_true, if_false, decide_true, decide_false, Qb, Qc, Qd, Qe, Qf, Qg, Qh, Qi, Qj, Qk, Ql, Qm, Qn, Qo, Qp, rb0, rb1, rb2, rb3, rb4, tf0, tf1, tf2, tf3, tf4, Heap.get_upd_ne, Heap.get_new_ne, Heap.get_new_at, overL_one, if_pos, stX_exactN, d2, d3, f4, hwi]
          have hen : enc x = x.H ++ [x.p] ++ [1, x.pc, (x.st.length : Int)] ++ x.st := by unfold enc; rw [hxi]; simp
          refine hQn _ _ _ (by omega) ⟨i + 1, o7, v7, rfl, by omega, ?_, ?_, ?_, ?_, ?_, by omega, fun b' hb' => ?_⟩
          · simp only [↓reduceIte, reduceCtorEq, Za, Zb, Zc, Zd, Ze, Zf, Zg, Zh, Zi, Zj, Zk, Zl, Zm, Zn, Zo, Zp, Zq, Zr, Zs, Zt, Zu, Zv, gval, Zw, Zx, Zy, Zz, ZA, ZB, ZC, ZD, ZE, ZF, decide_eq_true_eq, ZG, ZH, ZI, ZJ, ZK, ZL, ZM, ZN, ZO, ZP, ZQ, ZR, ZS, Option.some.injEq, exists_eq_left', ZT, ZU, ZV, ZW, ZX, ZY, true_and, and_true, true_or, or_true, false_or, or_false, ite_true, ite_false, cond_true, cond_false, ZZ, Qa, if_true, if_false, decide_true, decide_false, Qb, Qc, Qd, Qe, Qf, Qg, Qh, Qi, Qj, Qk, Ql, Qm, Qn, Qo, Qp, rb0, rb1, rb2, rb3, rb4, tf0, tf1, tf2, tf3, tf4, f0]
          · simp only [↓reduceIte, reduceCtorEq, Za, Zb, Zc, Zd, Ze, Zf, Zg, Zh, Zi, Zj, Zk, Zl, Zm, Zn, Zo, Zp, Zq, Zr, Zs, Zt, Zu, Zv, gval, Zw, Zx, Zy, Zz, ZA, ZB, ZC, ZD, ZE, ZF, decide_eq_true_eq, ZG, ZH, ZI, ZJ, ZK, ZL, ZM, ZN, ZO, ZP, ZQ, ZR, ZS, Option.some.injEq, exists_eq_left', ZT, ZU, ZV, ZW, ZX, ZY, true_and, and_true, true_or, or_true, false_or, or_false, ite_true, ite_false, cond_true, cond_false, ZZ, Qa, if_true, if_false, decide_true, decide_false, Qb, Qc, Qd, Qe, Qf, Qg, Qh, Qi, Qj, Qk, Ql, Qm, Qn, Qo, Qp, rb0, rb1, rb2, rb3, rb4, tf0, tf1, tf2, tf3, tf4]
          · simp only [↓reduceIte, reduceCtorEq, Za, Zb, Zc, Zd, Ze, Zf, Zg, Zh, Zi, Zj, Zk, Zl, Zm, Zn, Zo, Zp, Zq, Zr, Zs, Zt, Zu, Zv, gval, Zw, Zx, Zy, Zz, ZA, ZB, ZC, ZD, ZE, ZF, decide_eq_true_eq, ZG, ZH, ZI, ZJ, ZK, ZL, ZM, ZN, ZO, ZP, ZQ, ZR, ZS, Option.some.injEq, exists_eq_left', ZT, ZU, ZV, ZW, ZX, ZY, true_and, and_true, true_or, or_true, false_or, or_false, ite_true, ite_false, cond_true, cond_false, ZZ, Qa, if_true, if_false, decide_true, decide_false, Qb, Qc, Qd, Qe, Qf, Qg, Qh, Qi, Qj, Qk, Ql, Qm, Qn, Qo, Qp, rb0, rb1, rb2, rb3, rb4, tf0, tf1, tf2, tf3, tf4]
            rfl
          · rw [encs_take hx, hen]
            simpa only [List.append_assoc] using hg7
          · rw [encs_take hx, hen]
            simp only [List.length_append, List.length_cons, List.length_nil]; omega
          · rw [hk7 _ (hg6.ne hb') (by omega)]
            exact hk6' b' hb'
    · obtain rfl : i = 8 := by omega
      simp (disch := (first | omega | rfl | (simp only [Heap.nx_upd, Heap.nx_new]; omega))) only [↓reduceIte, reduceCtorEq, Za, Zb, Zc, Zd, Ze, Zf, Zg, Zh, Zi, Zj, Zk, Zl, Zm, Zn, Zo, Zp, Zq, Zr, Zs, Zt, Zu, Zv, gval, Zw, Zx, Zy, Zz, ZA, ZB, ZC, ZD, ZE, ZF, decide_eq_true_eq, ZG, ZH, ZI, ZJ, ZK, ZL, ZM, ZN, ZO, ZP, ZQ, ZR, ZS, Option.some.injEq, exists_eq_left', ZT, ZU, ZV, ZW, ZX, ZY, true_and, and_true, true_or, or_true, false_or, or_false, ite_true, ite_false, cond_true, cond_false, ZZ, Qa, if_true, if_false, decide_true, decide_false, Qb, Qc, Qd, Qe, Qf, Qg, Qh, Qi, Qj, Qk, Ql, Qm, Qn, Qo, Qp, rb0, rb1, rb2, rb3, rb4, tf0, tf1, tf2, tf3, tf4, Heap.get_upd_ne, Heap.get_new_ne, Heap.get_new_at, overL_one, if_pos, stX_exactN, e4]
      refine hQx _ _ _ (by simp) ⟨rfl, o, v, by simp only [↓reduceIte, reduceCtorEq, Za, Zb, Zc, Zd, Ze, Zf, Zg, Zh, Zi, Zj, Zk, Zl, Zm, Zn, Zo, Zp, Zq, Zr, Zs, Zt, Zu, Zv, gval, Zw, Zx, Zy, Zz, ZA, ZB, ZC, ZD, ZE, ZF, decide_eq_true_eq, ZG, ZH, ZI, ZJ, ZK, ZL, ZM, ZN, ZO, ZP, ZQ, ZR, ZS, Option.some.injEq, exists_eq_left', ZT, ZU, ZV, ZW, ZX, ZY, true_and, and_true, true_or, or_true, false_or, or_false, ite_true, ite_false, cond_true, cond_false, ZZ, Qa, if_true, if_false, decide_true, decide_false, Qb, Qc, Qd, Qe, Qf, Qg, Qh, Qi, Qj, Qk, Ql, Qm, Qn, Qo, Qp, rb0, rb1, rb2, rb3, rb4, tf0, tf1, tf2, tf3, tf4, e3], ?_, hn, hk⟩
      rwa [List.take_of_length_le (by omega)] at hg
  · refine ⟨0, none, .slice none 0 0, rfl, by omega, ?_, ?_, ?_, ⟨.inl ⟨rfl, rfl, rfl⟩⟩, by simp [encs], Nat.le_refl _, fun _ _ => rfl⟩
    · simp only [↓reduceIte, reduceCtorEq, Za, Zb, Zc, Zd, Ze, Zf, Zg, Zh, Zi, Zj, Zk, Zl, Zm, Zn, Zo, Zp, Zq, Zr, Zs, Zt, Zu, Zv, gval, Zw, Zx, Zy, Zz, ZA, ZB, ZC, ZD, ZE, ZF, decide_eq_true_eq, ZG, ZH, ZI, ZJ, ZK, ZL, ZM, ZN, ZO, ZP, ZQ, ZR, ZS, Option.some.injEq, exists_eq_left', ZT, ZU, ZV, ZW, ZX, ZY, true_and, and_true, true_or, or_true, false_or, or_false, ite_true, ite_false, cond_true, cond_false, ZZ, Qa, if_true, if_false, decide_true, decide_false, Qb, Qc, Qd, Qe, Qf, Qg, Qh, Qi, Qj, Qk, Ql, Qm, Qn, Qo, Qp, rb0, rb1, rb2, rb3, rb4, tf0, tf1, tf2, tf3, tf4]
    · simp only [↓reduceIte, reduceCtorEq, Za, Zb, Zc, Zd, Ze, Zf, Zg, Zh, Zi, Zj, Zk, Zl, Zm, Zn, Zo, Zp, Zq, Zr, Zs, Zt, Zu, Zv, gval, Zw, Zx, Zy, Zz, ZA, ZB, ZC, ZD, ZE, ZF, decide_eq_true_eq, ZG, ZH, ZI, ZJ, ZK, ZL, ZM, ZN, ZO, ZP, ZQ, ZR, ZS, Option.some.injEq, exists_eq_left', ZT, ZU, ZV, ZW, ZX, ZY, true_and, and_true, true_or, or_true, false_or, or_false, ite_true, ite_false, cond_true, cond_false, ZZ, Qa, if_true, if_false, decide_true, decide_false, Qb, Qc, Qd, Qe, Qf, Qg, Qh, Qi, Qj, Qk, Ql, Qm, Qn, Qo, Qp, rb0, rb1, rb2, rb3, rb4, tf0, tf1, tf2, tf3, tf4]
    · simp only [↓reduceIte, reduceCtorEq, Za, Zb, Zc, Zd, Ze, Zf, Zg, Zh, Zi, Zj, Zk, Zl, Zm, Zn, Zo, Zp, Zq, Zr, Zs, Zt, Zu, Zv, gval, Zw, Zx, Zy, Zz, ZA, ZB, ZC, ZD, ZE, ZF, decide_eq_true_eq, ZG, ZH, ZI, ZJ, ZK, ZL, ZM, ZN, ZO, ZP, ZQ, ZR, ZS, Option.some.injEq, exists_eq_left', ZT, ZU, ZV, ZW, ZX, ZY, true_and, and_true, true_or, or_true, false_or, or_false, ite_true, ite_false, cond_true, cond_false, ZZ, Qa, if_true, if_false, decide_true, decide_false, Qb, Qc, Qd, Qe, Qf, Qg, Qh, Qi, Qj, Qk, Ql, Qm, Qn, Qo, Qp, rb0, rb1, rb2, rb3, rb4, tf0, tf1, tf2, tf3, tf4]
  · rintro ex e h2 - ⟨rfl, o, v, e3, hg, hn, hk⟩
    simp only [↓reduceIte, reduceCtorEq, Za, Zb, Zc, Zd, Ze, Zf, Zg, Zh, Zi, Zj, Zk, Zl, Zm, Zn, Zo, Zp, Zq, Zr, Zs, Zt, Zu, Zv, gval, Zw, Zx, Zy, Zz, ZA, ZB, ZC, ZD, ZE, ZF, decide_eq_true_eq, ZG, ZH, ZI, ZJ, ZK, ZL, ZM, ZN, ZO, ZP, ZQ, ZR, ZS, Option.some.injEq, exists_eq_left', ZT, ZU, ZV, ZW, ZX, ZY, true_and, and_true, true_or, or_true, false_or, or_false, ite_true, ite_false, cond_true, cond_false, ZZ, Qa, if_true, if_false, decide_true, decide_false, Qb, Qc, Qd, Qe, Qf, Qg, Qh, Qi, Qj, Qk, Ql, Qm, Qn, Qo, Qp, rb0, rb1, rb2, rb3, rb4, tf0, tf1, tf2, tf3, tf4, e3]
    exact hR _ _ hg.words hn hk
end Go.Proofs.Ytmmjeifdgfolmaa
end
