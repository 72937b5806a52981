/- Lemmas of the claim: the machine of the proof and the walks of the program. Conditions: as each says. -/
import Derived.Test.YtmadjdgipfdnkaaDoorG6
import Derived.Test.YtmadjdgipfdnkaaDoorG5
import Derived.Test.YtmadjdgipfdnkaaDoorG4
import Derived.Test.YtmadjdgipfdnkaaDoorRows
import Derived.ProofKit
import GoSem.ClaimSeven
import Derived.Test.YtmadjdgipfdnkaaDoorCards
import Derived.Test.YtmadjdgipfdnkaaDoorTie
section
/- Directories: Add, Find, Remove. Conditions: the disk lies as the rule names. -/
namespace Go.Proofs.YtmadjdgipfdnkaaDoor
open Go.AM
open Nat renaming reduceBEq → Za, reduceEqDiff → Zb, reduceAdd → Zc, reduceSub → Zd, reduceMul → Ze, reduceLT → Zf, reduceLeDiff → Zg, reduceDiv → Zh, reduceMod → Zi, reducePow → Zj
open Int renaming reduceAdd → Zk, reduceSub → Zl, reduceMul → Zm, reduceLT → Zn, reduceLE → Zo, reduceEq → Zp, reduceNe → Zq, reduceNeg → Zr, reduceToNat → Zs, reduceDiv → Zt, reduceMod → Zu, reducePow → Zv, cast_ofNat_Int → Zw
set_option linter.unusedSimpArgs false
variable {h : Heap} {R : Out → Heap → Prop} {bd bl : Nat} {s : FS} {F : Nat → Prop}
theorem ents_snd : ∀ {l : List (List UInt8 × Nat)} {i : Nat} {e : List UInt8 × Nat}, l[i]? = some e → (ents l)[i * 2 + 1]? = some (.int .i64 (e.2 : Int))
  | [], i, e, h => by simp at h
  | x :: r, 0, e, h => by
    rw [List.getElem?_cons_zero] at h
    cases Option.some.inj h; rfl
  | x :: r, i + 1, e, h => by
    rw [List.getElem?_cons_succ] at h
    show (_ :: _ :: ents r)[(i + 1) * 2 + 1]? = _
    rw [show (i + 1) * 2 + 1 = i * 2 + 1 + 1 + 1 by omega, List.getElem?_cons_succ, List.getElem?_cons_succ]
    exact ents_snd h
theorem ents_drop : ∀ (l : List (List UInt8 × Nat)) (j : Nat), (ents l).drop (j * 2) = ents (l.drop j)
  | l, 0 => by rw [Nat.zero_mul, List.drop_zero, List.drop_zero]
  | [], j + 1 => by rw [List.drop_nil]; exact List.drop_nil
  | e :: r, j + 1 => by
    show (_ :: _ :: ents r).drop ((j + 1) * 2) = _
    rw [show (j + 1) * 2 = j * 2 + 1 + 1 by omega, List.drop_succ_cons, List.drop_succ_cons, List.drop_succ_cons]
    exact ents_drop r j
theorem ents_takeN : ∀ (l : List (List UInt8 × Nat)) (j : Nat), (ents l).take (j * 2) = ents (l.take j)
  | l, 0 => by rw [Nat.zero_mul, List.take_zero, List.take_zero]; rfl
  | [], j + 1 => by rw [List.take_nil]; exact List.take_nil
  | e :: r, j + 1 => by
    show (_ :: _ :: ents r).take ((j + 1) * 2) = _
    rw [show (j + 1) * 2 = j * 2 + 1 + 1 by omega, List.take_succ_cons, List.take_succ_cons, List.take_succ_cons, ents_takeN r j]; rfl
theorem ents_erase (l : List (List UInt8 × Nat)) (k : Nat) : ents (l.eraseIdx k) = (ents l).take (k * 2) ++ (ents l).drop ((k + 1) * 2) := by
  rw [List.eraseIdx_eq_take_drop_succ, ents_app, ents_drop, ents_takeN]
set_option maxRecDepth 100000 in
theorem sl_to {b n k : Nat} {g : Nat → Option Blk} {X : List Value} (hb : g b = some (cellsB X (.loose 2))) (hk : k ≤ n) : effSlice Tryd.prog 93 (.slice (some ⟨b, 0, none⟩) n n) none (some (.int .i64 (k : Int))) (some (.int .i64 (k : Int))) g = ret (.slice (some ⟨b, 0, none⟩) k k) := by
  rw [effSlice_slc, show slcOf Tryd.prog 93 = some 2 from by kernel_rfl]
  unfold slS bounds
  rw [bnd_int, if_pos ⟨by omega, by omega⟩]
  simp only [Int.toNat_natCast, Option.isSome_some, Option.isNone_some, Bool.and_false, Bool.false_eq_true, if_false]
  rw [bnd_int, if_pos ⟨by omega, by omega⟩]
  simp only [Int.toNat_natCast, bnd_none, show Nat.ble k k = true from by simp [Nat.ble_eq], cond_true, u_sliceAddr, hb, sadX_loose]
  simp
theorem sl_from {b n j : Nat} {g : Nat → Option Blk} {X : List Value} (hb : g b = some (cellsB X (.loose 2))) (hX : X.length = n * 2) (hj : j ≤ n) : effSlice Tryd.prog 93 (.slice (some ⟨b, 0, none⟩) n n) (some (.int .i64 (j : Int))) none none g = ret (.slice (some ⟨b, j * 2, none⟩) (n - j) (n - j)) := by
  rw [effSlice_slc, show slcOf Tryd.prog 93 = some 2 from by kernel_rfl]
  unfold slS
  rw [u_bounds, bnd_none]
  simp only
  rw [bnd_int, if_pos ⟨by omega, by omega⟩]
  simp only [Int.toNat_natCast]
  rw [if_pos (by omega)]
  simp only [u_sliceAddr, hb, sadX_loose]
  simp [hX]
set_option maxRecDepth 100000 in
theorem app_cut {b n k : Nat} {g : Nat → Option Blk} (nx : Nat) {X : List Value} (hb : g b = some (cellsB X (.loose 2))) (hX : X.length = n * 2) (hk : k < n) (hn : n ≤ 1000) :
    aAppend Tryd.prog #[93, 93] (.slice (some ⟨b, 0, none⟩) k k) (.slice (some ⟨b, (k + 1) * 2, none⟩) (n - (k + 1)) (n - (k + 1))) g nx = if n = k + 1 then some ⟨.slice (some ⟨b, 0, none⟩) k k, [(b, cellsB X (.loose 2))], []⟩ else some ⟨.slice (some ⟨nx, 0, none⟩) (n - 1) (n - 1), [], [cellsB (X.take (k * 2) ++ X.drop ((k + 1) * 2)) (.loose 2)]⟩ := by
  have hd : ((X.drop ((k + 1) * 2)).take ((n - (k + 1)) * 2)) = X.drop ((k + 1) * 2) := List.take_of_length_le (by rw [List.length_drop]; omega)
  have hnew : firstL g 2 (n - (k + 1)) (.slice (some ⟨b, (k + 1) * 2, none⟩) (n - (k + 1)) (n - (k + 1))) = some (X.drop ((k + 1) * 2)) := by
    rw [firstL_slc _ _ _ _ _ _ _ _ _ hb (by omega), hd]
  have hold : firstL g 2 k (.slice (some ⟨b, 0, none⟩) k k) = some (X.take (k * 2)) := by rw [firstL_slc _ _ _ _ _ _ _ _ _ hb (by omega), List.drop_zero]
  rw [aAppend_unf (appT_ok app_93_93) (some ⟨b, 0, none⟩) k k (n - (k + 1)) _ g nx rfl (by omega) hnew, hold]
  by_cases c : n = k + 1
  · subst c
    rw [if_pos (by omega), if_pos rfl, List.drop_eq_nil_of_le (by omega)]
    simp only [hb]
    unfold cellsB
    simp only [Nat.sub_self, Nat.add_zero, Nat.zero_add]
    rw [if_pos (by omega)]; rfl
  · rw [if_neg (by omega), if_neg c]
    simp only [hb]
    unfold cellsB maybeRoom
    simp only [Nat.zero_add, if_true]
    rw [if_neg (by omega)]
    simp only
    rw [show k + (n - (k + 1)) = n - 1 by omega]
set_option maxRecDepth 100000 in
set_option maxHeartbeats 1000000 in
theorem add_wf (ht : h.get 0 = some (tabBlk .u8 tab)) (f : Fs h bd bl s) (hz : bd ≠ 0 ∧ bl ≠ 0) {k : Nat} {l0 : List (List UInt8 × Nat)} (I : s.Inv F) (D : Dr s F k l0) (hl0 : l0.length ≤ 21) {nm : List UInt8} {tn : Int}
    (hR1 : ¬ NmP nm ∨ tn < 0 ∨ 32 ≤ tn → ∀ h', Fs h' bd bl s → h.nx ≤ h'.nx → (∀ b', b' < h.nx → b' ≠ bd → b' ≠ bl → h'.get b' = h.get b') → R (.ret (.int .i64 22)) h')
    (hR2 : NmP nm → (∃ e ∈ l0, e.1 = nm) → ∀ h', Fs h' bd bl s → h.nx ≤ h'.nx → (∀ b', b' < h.nx → b' ≠ bd → b' ≠ bl → h'.get b' = h.get b') → R (.ret (.int .i64 17)) h')
    (hR3 : NmP nm → (∀ e ∈ l0, e.1 ≠ nm) → (21 ≤ l0.length ∨ s.n < popc 64 s.b + (needN (9 * (l0.length + 1)) - needN (9 * l0.length))) → ∀ h', Fs h' bd bl s → h.nx ≤ h'.nx → (∀ b', b' < h.nx → b' ≠ bd → b' ≠ bl → h'.get b' = h.get b') → R (.ret (.int .i64 28)) h')
    (hR4 : ∀ t : Nat, tn = t → t < 32 → NmP nm → (∀ e ∈ l0, e.1 ≠ nm) → l0.length < 21 → ∀ s2 h', DW s s2 F k (enc (l0 ++ [(nm, t)])) → Fs h' bd bl s2 → h.nx ≤ h'.nx → (∀ b', b' < h.nx → b' ≠ bd → b' ≠ bl → h'.get b' = h.get b') → R (.ret (.int .i64 0)) h') :
    WF Tryd.prog 1 sp16 27 [.iface 23 (.pointer (some ⟨bd, 0, none⟩)), .int .i64 k, .string (mkS nm), .int .i64 tn] h R := by
  refine wf_fn (fn := Tryd.f27) rfl rfl (by kernel_rfl) rfl ?_
  have q1 := f.d.bd_lt
  have q2 := f.d.bl_lt
  simp only [↓reduceIte, reduceCtorEq, Za, Zb, Zc, Zd, Ze, Zf, Zg, Zh, Zi, Zj, Zk, Zl, Zm, Zn, Zo, Zp, Zq, Zr, Zs, Zt, Zu, Zv, gval, Zw, rb0, rb1, rb2, rb3, rb4, tf0, tf1, tf2, tf3, tf4, Yk, Tryd.f27]
  refine runC_of (read_wf f I D fun h1 v f1 n1 k1 r1 => ?_)
  obtain ⟨va, hv⟩ := r1.slc
  rw [hv] at r1 ⊢
  simp only [↓reduceIte, reduceCtorEq, Za, Zb, Zc, Zd, Ze, Zf, Zg, Zh, Zi, Zj, Zk, Zl, Zm, Zn, Zo, Zp, Zq, Zr, Zs, Zt, Zu, Zv, gval, Zw, rb0, rb1, rb2, rb3, rb4, tf0, tf1, tf2, tf3, tf4, Yk]
  refine runC_of (name_wf fun h2 n2 k2 => ?_)
  have f2 : Fs h2 bd bl s := f1.keep n2 (k2 _ (by omega)) (k2 _ (by omega))
  have k02 : ∀ b', b' < h.nx → b' ≠ bd → b' ≠ bl → h2.get b' = h.get b' := fun b' w1 w2 w3 => by rw [k2 _ (by omega)]; exact k1 b' w1 w2
  by_cases c1 : NmP nm
  rotate_left
  · simp only [↓reduceIte, reduceCtorEq, Za, Zb, Zc, Zd, Ze, Zf, Zg, Zh, Zi, Zj, Zk, Zl, Zm, Zn, Zo, Zp, Zq, Zr, Zs, Zt, Zu, Zv, gval, Zw, rb0, rb1, rb2, rb3, rb4, tf0, tf1, tf2, tf3, tf4, Yk, decide_eq_false c1, Bool.not_false]
    exact hR1 (.inl c1) h2 f2 (by omega) k02
  by_cases c2 : tn < 0
  · simp only [↓reduceIte, reduceCtorEq, Za, Zb, Zc, Zd, Ze, Zf, Zg, Zh, Zi, Zj, Zk, Zl, Zm, Zn, Zo, Zp, Zq, Zr, Zs, Zt, Zu, Zv, gval, Zw, rb0, rb1, rb2, rb3, rb4, tf0, tf1, tf2, tf3, tf4, Yk, decide_eq_true c1, Bool.not_true, c2]
    exact hR1 (.inr (.inl c2)) h2 f2 (by omega) k02
  by_cases c3 : (32 : Int) ≤ tn
  · simp only [↓reduceIte, reduceCtorEq, Za, Zb, Zc, Zd, Ze, Zf, Zg, Zh, Zi, Zj, Zk, Zl, Zm, Zn, Zo, Zp, Zq, Zr, Zs, Zt, Zu, Zv, gval, Zw, rb0, rb1, rb2, rb3, rb4, tf0, tf1, tf2, tf3, tf4, Yk, decide_eq_true c1, Bool.not_true, c2, c3]
    exact hR1 (.inr (.inr c3)) h2 f2 (by omega) k02
  obtain ⟨t, rfl⟩ : ∃ t : Nat, tn = t := ⟨tn.toNat, by omega⟩
  simp only [↓reduceIte, reduceCtorEq, Za, Zb, Zc, Zd, Ze, Zf, Zg, Zh, Zi, Zj, Zk, Zl, Zm, Zn, Zo, Zp, Zq, Zr, Zs, Zt, Zu, Zv, gval, Zw, rb0, rb1, rb2, rb3, rb4, tf0, tf1, tf2, tf3, tf4, Yk, decide_eq_true c1, Bool.not_true, c2, c3]
  have r2 : RowG h2 h.nx 2 (.slice va l0.length l0.length) l0.length (ents l0) := r1.keep n2 fun b h1 h2 _ => k2 b h2
  refine runC_of (find_wf (EntAt.of r2) (fun b hb => (r2.lt b hb).2) (by omega) (fun j e hj he _ h3 n3 k3 => ?_) fun hno h3 n3 k3 => ?_)
  · have cj : (0 : Int) ≤ (j : Int) := by omega
    simp only [↓reduceIte, reduceCtorEq, Za, Zb, Zc, Zd, Ze, Zf, Zg, Zh, Zi, Zj, Zk, Zl, Zm, Zn, Zo, Zp, Zq, Zr, Zs, Zt, Zu, Zv, gval, Zw, rb0, rb1, rb2, rb3, rb4, tf0, tf1, tf2, tf3, tf4, Yk, cj]
    exact hR2 c1 ⟨e, List.mem_of_getElem? hj, he⟩ h3 (f2.keep n3 (k3 _ (by omega)) (k3 _ (by omega))) (by omega) fun b' w1 w2 w3 => by rw [k3 _ (by omega)]; exact k02 b' w1 w2 w3
  · have hno' : ∀ e ∈ l0, e.1 ≠ nm := fun e he => by
      obtain ⟨j, hj⟩ := List.mem_iff_getElem?.1 he
      exact hno j e hj
    have f3 : Fs h3 bd bl s := f2.keep n3 (k3 _ (by omega)) (k3 _ (by omega))
    have k03 : ∀ b', b' < h.nx → b' ≠ bd → b' ≠ bl → h3.get b' = h.get b' := fun b' w1 w2 w3 => by rw [k3 _ (by omega)]; exact k02 b' w1 w2 w3
    by_cases c4 : 21 ≤ l0.length
    · have c4' : (21 : Int) ≤ (l0.length : Int) := by omega
      simp only [↓reduceIte, reduceCtorEq, Za, Zb, Zc, Zd, Ze, Zf, Zg, Zh, Zi, Zj, Zk, Zl, Zm, Zn, Zo, Zp, Zq, Zr, Zs, Zt, Zu, Zv, gval, Zw, rb0, rb1, rb2, rb3, rb4, tf0, tf1, tf2, tf3, tf4, Yk, c4', runG_undef]
      exact hR3 c1 hno' (.inl c4) h3 f3 (by omega) k03
    have c4' : ¬ (21 : Int) ≤ (l0.length : Int) := by omega
    have r3 : RowG h3 h.nx 2 (.slice va l0.length l0.length) l0.length (ents l0) := r2.keep n3 fun b h1 h2 _ => k3 b h2
    obtain ⟨h4, hh4⟩ : ∃ h4, h3.new (cellsB [.string (mkS nm), .int .i64 (t : Int)] .exact) = h4 := ⟨_, rfl⟩
    have n4 : h4.nx = h3.nx + 1 := by rw [← hh4, Heap.nx_new]
    have g4 : h4.get h3.nx = some (cellsB [.string (mkS nm), .int .i64 (t : Int)] .exact) := by rw [← hh4, Heap.get_new_same]
    have k4 : ∀ b', b' < h3.nx → h4.get b' = h3.get b' := fun b' hb' => by rw [← hh4, Heap.get_new_ne _ _ (by omega)]
    obtain ⟨E, h5, w, a1, a2, a3, a4, a5, a6, a7⟩ := growG app_93_93 (r3.keep (h' := h4) (by omega) fun b h1 h2 _ => k4 b h2) (by omega) (x := .slice (some ⟨h3.nx, 0, none⟩) 1 1) (k := 1) rfl (by omega) (by omega) (new := [.string (mkS nm), .int .i64 (t : Int)]) (by rw [firstL_slc _ _ _ _ _ _ _ _ _ g4 (by simp)]; rfl) rfl
    simp only [↓reduceIte, reduceCtorEq, Za, Zb, Zc, Zd, Ze, Zf, Zg, Zh, Zi, Zj, Zk, Zl, Zm, Zn, Zo, Zp, Zq, Zr, Zs, Zt, Zu, Zv, gval, Zw, rb0, rb1, rb2, rb3, rb4, tf0, tf1, tf2, tf3, tf4, Yk, c4', bs1_93, hh4, a1, a2, a3]
    have hen : ents l0 ++ [.string (mkS nm), .int .i64 (t : Int)] = ents (l0 ++ [(nm, t)]) := (ents_app l0 [(nm, t)]).symm
    rw [hen] at a4
    have hll : (l0 ++ [(nm, t)]).length = l0.length + 1 := by rw [List.length_append, List.length_singleton]
    have a4' : RowG h5 h.nx 2 w (l0 ++ [(nm, t)]).length (ents (l0 ++ [(nm, t)])) := by rw [hll]; exact a4
    have lo0 := r3.lt
    have k05 : ∀ b', b' < h.nx → h5.get b' = h3.get b' := fun b' w1 => by rw [a6 b' (by omega) (fun hm => by have := (lo0 b' hm).1; omega), k4 _ (by omega)]
    have f5 : Fs h5 bd bl s := f3.keep (by omega) (k05 _ (by omega)) (k05 _ (by omega))
    have kk : ∀ b', b' < h.nx → b' ≠ bd → b' ≠ bl → h5.get b' = h.get b' := fun b' w1 w2 w3 => by rw [k05 _ w1]; exact k03 b' w1 w2 w3
    have ok' : ∀ e ∈ l0 ++ [(nm, t)], EntOk e := fun e he => by
      rcases List.mem_append.1 he with q | q
      · exact D.ok e q
      · rw [List.mem_singleton.1 q]
        have hc := c1.2.2
        unfold chk at hc
        refine ⟨?_, ?_, by show t < 256; omega⟩
        · show nm.length ≤ 8
          by_cases q8 : 8 < nm.length
          · rw [if_pos q8] at hc; exact absurd hc (by decide)
          · omega
        · intro hm
          have hm : (0 : UInt8) ∈ nm := hm
          by_cases q8 : 8 < nm.length
          · rw [if_pos q8] at hc; exact absurd hc (by decide)
          · rw [if_neg q8, if_pos hm] at hc; exact absurd hc (by decide)
    refine runC_of (write_wf ((kk 0 (by omega) (by omega) (by omega)).trans ht) f5 hz I D (EntAt.of a4') (fun b hb => ?_) ok' (by omega) (fun w1 h6 f6 n6 k6 => ?_) fun s2 h6 dw f6 n6 k6 => ?_)
    · have := a4'.lt b hb; omega
    · simp only [↓reduceIte, reduceCtorEq, Za, Zb, Zc, Zd, Ze, Zf, Zg, Zh, Zi, Zj, Zk, Zl, Zm, Zn, Zo, Zp, Zq, Zr, Zs, Zt, Zu, Zv, gval, Zw, rb0, rb1, rb2, rb3, rb4, tf0, tf1, tf2, tf3, tf4, Yk]
      rw [hll] at w1
      exact hR3 c1 hno' (.inr w1) h6 f6 (by omega) fun b' u1 u2 u3 => by rw [k6 _ (by omega) u2 u3]; exact kk b' u1 u2 u3
    · simp only [↓reduceIte, reduceCtorEq, Za, Zb, Zc, Zd, Ze, Zf, Zg, Zh, Zi, Zj, Zk, Zl, Zm, Zn, Zo, Zp, Zq, Zr, Zs, Zt, Zu, Zv, gval, Zw, rb0, rb1, rb2, rb3, rb4, tf0, tf1, tf2, tf3, tf4, Yk]
      exact hR4 t rfl (by omega) c1 hno' (by omega) s2 h6 dw f6 (by omega) fun b' u1 u2 u3 => by rw [k6 _ (by omega) u2 u3]; exact kk b' u1 u2 u3
set_option maxRecDepth 100000 in
theorem dfind_wf (f : Fs h bd bl s) {k : Nat} {l0 : List (List UInt8 × Nat)} (I : s.Inv F) (D : Dr s F k l0) (hl0 : l0.length ≤ 21) {nm : List UInt8}
    (hR1 : ∀ (j : Nat) e, l0[j]? = some e → e.1 = nm → ∀ h', Fs h' bd bl s → h.nx ≤ h'.nx → (∀ b', b' < h.nx → b' ≠ bd → h'.get b' = h.get b') → R (.ret (.int .i64 (e.2 : Int))) h')
    (hR2 : (∀ e ∈ l0, e.1 ≠ nm) → ∀ h', Fs h' bd bl s → h.nx ≤ h'.nx → (∀ b', b' < h.nx → b' ≠ bd → h'.get b' = h.get b') → R (.ret (.int .i64 (-1))) h') :
    WF Tryd.prog 1 sp16 30 [.iface 23 (.pointer (some ⟨bd, 0, none⟩)), .int .i64 k, .string (mkS nm)] h R := by
  refine wf_fn (fn := Tryd.f30) rfl rfl (by kernel_rfl) rfl ?_
  have q1 := f.d.bd_lt
  have q2 := f.d.bl_lt
  simp only [↓reduceIte, reduceCtorEq, Za, Zb, Zc, Zd, Ze, Zf, Zg, Zh, Zi, Zj, Zk, Zl, Zm, Zn, Zo, Zp, Zq, Zr, Zs, Zt, Zu, Zv, gval, Zw, rb0, rb1, rb2, rb3, rb4, tf0, tf1, tf2, tf3, tf4, Yk, Tryd.f30]
  refine runC_of (read_wf f I D fun h1 v f1 n1 k1 r1 => ?_)
  obtain ⟨va, hv⟩ := r1.slc
  rw [hv] at r1 ⊢
  simp only [↓reduceIte, reduceCtorEq, Za, Zb, Zc, Zd, Ze, Zf, Zg, Zh, Zi, Zj, Zk, Zl, Zm, Zn, Zo, Zp, Zq, Zr, Zs, Zt, Zu, Zv, gval, Zw, rb0, rb1, rb2, rb3, rb4, tf0, tf1, tf2, tf3, tf4, Yk]
  refine runC_of (find_wf (EntAt.of r1) (fun b hb => (r1.lt b hb).2) (by omega) (fun j e hj he _ h3 n3 k3 => ?_) fun hno h3 n3 k3 => ?_)
  · have cj : ¬ (j : Int) < 0 := by omega
    have hjl := (List.getElem?_eq_some_iff.1 hj).1
    have cj0 : (0 : Int) ≤ (j : Int) := by omega
    have cj1 : (j : Int) < (l0.length : Int) := by omega
    rcases r1.is with ⟨e0, _, e1⟩ | ⟨b, w1, w2, w3, g⟩
    · omega
    cases w3
    have g3 := (k3 b w2).trans g
    have hs := ents_snd hj
    have hlt : j * 2 + 1 < (ents l0).length := by rw [ents_len]; omega
    simp (disch := (first | omega | rfl | (simp only [Yn]; omega))) only [↓reduceIte, reduceCtorEq, Za, Zb, Zc, Zd, Ze, Zf, Zg, Zh, Zi, Zj, Zk, Zl, Zm, Zn, Zo, Zp, Zq, Zr, Zs, Zt, Zu, Zv, gval, Zw, rb0, rb1, rb2, rb3, rb4, tf0, tf1, tf2, tf3, tf4, Yk, Yh, overL_one, if_pos, stX_exactN, cj, cj0, cj1, g3, hs, hlt]
    exact hR1 j e hj he h3 (f1.keep n3 (k3 _ (by omega)) (k3 _ (by omega))) (by omega) fun b' w1 w2 => by rw [k3 _ (by omega)]; exact k1 b' w1 w2
  · simp only [↓reduceIte, reduceCtorEq, Za, Zb, Zc, Zd, Ze, Zf, Zg, Zh, Zi, Zj, Zk, Zl, Zm, Zn, Zo, Zp, Zq, Zr, Zs, Zt, Zu, Zv, gval, Zw, rb0, rb1, rb2, rb3, rb4, tf0, tf1, tf2, tf3, tf4, Yk]
    exact hR2 (fun e he => by
      obtain ⟨j, hj⟩ := List.mem_iff_getElem?.1 he
      exact hno j e hj) h3 (f1.keep n3 (k3 _ (by omega)) (k3 _ (by omega))) (by omega) fun b' w1 w2 => by rw [k3 _ (by omega)]; exact k1 b' w1 w2
set_option maxRecDepth 100000 in
set_option maxHeartbeats 1000000 in
theorem remove_wf (ht : h.get 0 = some (tabBlk .u8 tab)) (f : Fs h bd bl s) (hz : bd ≠ 0 ∧ bl ≠ 0) {k : Nat} {l0 : List (List UInt8 × Nat)} (I : s.Inv F) (D : Dr s F k l0) (hl0 : l0.length ≤ 21) {nm : List UInt8}
    (hR1 : (∀ e ∈ l0, e.1 ≠ nm) → ∀ h', Fs h' bd bl s → h.nx ≤ h'.nx → (∀ b', b' < h.nx → b' ≠ bd → b' ≠ bl → h'.get b' = h.get b') → R (.ret (.int .i64 2)) h')
    (hR2 : ∀ (j : Nat) e, l0[j]? = some e → e.1 = nm → (∀ (i : Nat) e', i < j → l0[i]? = some e' → e'.1 ≠ nm) → ∀ s2 h', DW s s2 F k (enc (l0.eraseIdx j)) → Fs h' bd bl s2 → h.nx ≤ h'.nx → (∀ b', b' < h.nx → b' ≠ bd → b' ≠ bl → h'.get b' = h.get b') → R (.ret (.int .i64 0)) h') :
    WF Tryd.prog 1 sp16 29 [.iface 23 (.pointer (some ⟨bd, 0, none⟩)), .int .i64 k, .string (mkS nm)] h R := by
  refine wf_fn (fn := Tryd.f29) rfl rfl (by kernel_rfl) rfl ?_
  have q1 := f.d.bd_lt
  have q2 := f.d.bl_lt
  simp only [↓reduceIte, reduceCtorEq, Za, Zb, Zc, Zd, Ze, Zf, Zg, Zh, Zi, Zj, Zk, Zl, Zm, Zn, Zo, Zp, Zq, Zr, Zs, Zt, Zu, Zv, gval, Zw, rb0, rb1, rb2, rb3, rb4, tf0, tf1, tf2, tf3, tf4, Yk, Tryd.f29]
  refine runC_of (read_wf f I D fun h1 v f1 n1 k1 r1 => ?_)
  obtain ⟨va, hv⟩ := r1.slc
  rw [hv] at r1 ⊢
  simp only [↓reduceIte, reduceCtorEq, Za, Zb, Zc, Zd, Ze, Zf, Zg, Zh, Zi, Zj, Zk, Zl, Zm, Zn, Zo, Zp, Zq, Zr, Zs, Zt, Zu, Zv, gval, Zw, rb0, rb1, rb2, rb3, rb4, tf0, tf1, tf2, tf3, tf4, Yk]
  refine runC_of (find_wf (EntAt.of r1) (fun b hb => (r1.lt b hb).2) (by omega) (fun j e hj he hbef h3 n3 k3 => ?_) fun hno h3 n3 k3 => ?_)
  · have cj : ¬ (j : Int) < 0 := by omega
    have hjl := (List.getElem?_eq_some_iff.1 hj).1
    have wj : wrapF .i64 ((j : Int) + 1) = ((j + 1 : Nat) : Int) := by rw [wrapI (by omega) (by omega)]; omega
    rcases r1.is with ⟨e0, _, e1⟩ | ⟨b, w1, w2, w3, g⟩
    · omega
    cases w3
    have g3 := (k3 b w2).trans g
    have f3 : Fs h3 bd bl s := f1.keep n3 (k3 _ (by omega)) (k3 _ (by omega))
    have k03 : ∀ b', b' < h.nx → b' ≠ bd → b' ≠ bl → h3.get b' = h.get b' := fun b' u1 u2 u3 => by rw [k3 _ (by omega)]; exact k1 b' u1 u2
    have hX := ents_len l0
    have hap := app_cut h3.nx g3 hX hjl (by omega)
    have hle : (l0.eraseIdx j).length = l0.length - 1 := List.length_eraseIdx_of_lt hjl
    have ok' : ∀ e ∈ l0.eraseIdx j, EntOk e := fun e he => D.ok e (List.mem_of_mem_eraseIdx he)
    have hnr : ¬ s.n < popc 64 s.b + (needN (9 * (l0.eraseIdx j).length) - needN (9 * l0.length)) := by
      have h1 := popc_inv I
      have h2 := needN_mono (show 9 * (l0.eraseIdx j).length ≤ 9 * l0.length by omega)
      omega
    by_cases c : l0.length = j + 1
    · rw [if_pos c] at hap
      simp (disch := (first | omega | rfl | (simp only [Yn]; omega))) only [↓reduceIte, reduceCtorEq, Za, Zb, Zc, Zd, Ze, Zf, Zg, Zh, Zi, Zj, Zk, Zl, Zm, Zn, Zo, Zp, Zq, Zr, Zs, Zt, Zu, Zv, gval, Zw, rb0, rb1, rb2, rb3, rb4, tf0, tf1, tf2, tf3, tf4, Yk, Yh, overL_one, if_pos, stX_exactN, cj]
      refine run_draw (ps := [(5, 8), (5, 9)]) (by kernel_rfl) (by kernel_rfl) ?_
      simp (disch := (first | omega | rfl | (simp only [Yn]; omega))) only [↓reduceIte, reduceCtorEq, Za, Zb, Zc, Zd, Ze, Zf, Zg, Zh, Zi, Zj, Zk, Zl, Zm, Zn, Zo, Zp, Zq, Zr, Zs, Zt, Zu, Zv, gval, Zw, rb0, rb1, rb2, rb3, rb4, tf0, tf1, tf2, tf3, tf4, Yk, Yh, overL_one, if_pos, stX_exactN, sl_to g3 (Nat.le_of_lt hjl), wj, sl_from g3 hX (show j + 1 ≤ l0.length from hjl), hap]
      obtain ⟨h4, hh4⟩ : ∃ h4, h3.upd b (cellsB (ents l0) (.loose 2)) = h4 := ⟨_, rfl⟩
      have n4 : h4.nx = h3.nx := by rw [← hh4, Heap.nx_upd]
      have k4 : ∀ b', b' < h.nx → h4.get b' = h3.get b' := fun b' hb' => by rw [← hh4, Heap.get_upd_ne _ _ (by omega)]
      have g4 : h4.get b = some (cellsB (ents l0) (.loose 2)) := by rw [← hh4, Heap.get_upd_same]
      rw [hh4]
      have x4 : EntAt h4 (.slice (some ⟨b, 0, none⟩) j j) (l0.eraseIdx j) := by
        refine ⟨.inr ⟨b, j, _, _, by rw [hle]; congr 1; omega, g4, by rw [hX]; omega, fun i e' hi => ents_take ?_⟩⟩
        rw [List.getElem?_eraseIdx] at hi
        have hij : i < j := by
          have := (List.getElem?_eq_some_iff.1 (show (l0.eraseIdx j)[i]? = some e' by rw [List.getElem?_eraseIdx]; exact hi)).1
          omega
        rw [if_pos hij] at hi
        exact hi
      have f4 : Fs h4 bd bl s := f3.keep (by omega) (k4 _ (by omega)) (k4 _ (by omega))
      have kk : ∀ b', b' < h.nx → b' ≠ bd → b' ≠ bl → h4.get b' = h.get b' := fun b' u1 u2 u3 => by rw [k4 _ u1]; exact k03 b' u1 u2 u3
      refine runCR_of (write_wf ((kk 0 (by omega) (by omega) (by omega)).trans ht) f4 hz I D x4 (fun b' hb' => ?_) ok' (by omega) (fun u _ _ _ _ => absurd u hnr) fun s2 h6 dw f6 n6 k6 => ?_)
      · have : b' = b := List.mem_singleton.1 hb'
        omega
      · simp only [↓reduceIte, reduceCtorEq, Za, Zb, Zc, Zd, Ze, Zf, Zg, Zh, Zi, Zj, Zk, Zl, Zm, Zn, Zo, Zp, Zq, Zr, Zs, Zt, Zu, Zv, gval, Zw, rb0, rb1, rb2, rb3, rb4, tf0, tf1, tf2, tf3, tf4, Yk]
        exact hR2 j e hj he hbef s2 h6 dw f6 (by omega) fun b' u1 u2 u3 => by rw [k6 _ (by omega) u2 u3]; exact kk b' u1 u2 u3
    · rw [if_neg c] at hap
      simp (disch := (first | omega | rfl | (simp only [Yn]; omega))) only [↓reduceIte, reduceCtorEq, Za, Zb, Zc, Zd, Ze, Zf, Zg, Zh, Zi, Zj, Zk, Zl, Zm, Zn, Zo, Zp, Zq, Zr, Zs, Zt, Zu, Zv, gval, Zw, rb0, rb1, rb2, rb3, rb4, tf0, tf1, tf2, tf3, tf4, Yk, Yh, overL_one, if_pos, stX_exactN, cj]
      refine run_draw (ps := [(5, 8), (5, 9)]) (by kernel_rfl) (by kernel_rfl) ?_
      simp (disch := (first | omega | rfl | (simp only [Yn]; omega))) only [↓reduceIte, reduceCtorEq, Za, Zb, Zc, Zd, Ze, Zf, Zg, Zh, Zi, Zj, Zk, Zl, Zm, Zn, Zo, Zp, Zq, Zr, Zs, Zt, Zu, Zv, gval, Zw, rb0, rb1, rb2, rb3, rb4, tf0, tf1, tf2, tf3, tf4, Yk, Yh, overL_one, if_pos, stX_exactN, sl_to g3 (Nat.le_of_lt hjl), wj, sl_from g3 hX (show j + 1 ≤ l0.length from hjl), hap]
      obtain ⟨h4, hh4⟩ : ∃ h4, h3.new (cellsB (List.take (j * 2) (ents l0) ++ List.drop ((j + 1) * 2) (ents l0)) (.loose 2)) = h4 := ⟨_, rfl⟩
      have n4 : h4.nx = h3.nx + 1 := by rw [← hh4, Heap.nx_new]
      have k4 : ∀ b', b' < h.nx → h4.get b' = h3.get b' := fun b' hb' => by rw [← hh4, Heap.get_new_ne _ _ (by omega)]
      have g4 : h4.get h3.nx = some (cellsB (ents (l0.eraseIdx j)) (.loose 2)) := by rw [← hh4, Heap.get_new_same, ents_erase]
      rw [hh4]
      have x4 : EntAt h4 (.slice (some ⟨h3.nx, 0, none⟩) (l0.length - 1) (l0.length - 1)) (l0.eraseIdx j) :=
        ⟨.inr ⟨_, _, _, _, by rw [hle], g4, by rw [ents_len]; exact Nat.le_refl _, fun i e' hi => ents_take hi⟩⟩
      have f4 : Fs h4 bd bl s := f3.keep (by omega) (k4 _ (by omega)) (k4 _ (by omega))
      have kk : ∀ b', b' < h.nx → b' ≠ bd → b' ≠ bl → h4.get b' = h.get b' := fun b' u1 u2 u3 => by rw [k4 _ u1]; exact k03 b' u1 u2 u3
      refine runCR_of (write_wf ((kk 0 (by omega) (by omega) (by omega)).trans ht) f4 hz I D x4 (fun b' hb' => ?_) ok' (by omega) (fun u _ _ _ _ => absurd u hnr) fun s2 h6 dw f6 n6 k6 => ?_)
      · have : b' = h3.nx := List.mem_singleton.1 hb'
        omega
      · simp only [↓reduceIte, reduceCtorEq, Za, Zb, Zc, Zd, Ze, Zf, Zg, Zh, Zi, Zj, Zk, Zl, Zm, Zn, Zo, Zp, Zq, Zr, Zs, Zt, Zu, Zv, gval, Zw, rb0, rb1, rb2, rb3, rb4, tf0, tf1, tf2, tf3, tf4, Yk]
        exact hR2 j e hj he hbef s2 h6 dw f6 (by omega) fun b' u1 u2 u3 => by rw [k6 _ (by omega) u2 u3]; exact kk b' u1 u2 u3
  · simp only [↓reduceIte, reduceCtorEq, Za, Zb, Zc, Zd, Ze, Zf, Zg, Zh, Zi, Zj, Zk, Zl, Zm, Zn, Zo, Zp, Zq, Zr, Zs, Zt, Zu, Zv, gval, Zw, rb0, rb1, rb2, rb3, rb4, tf0, tf1, tf2, tf3, tf4, Yk]
    exact hR1 (fun e he => by
      obtain ⟨j, hj⟩ := List.mem_iff_getElem?.1 he
      exact hno j e hj) h3 (f1.keep n3 (k3 _ (by omega)) (k3 _ (by omega))) (by omega) fun b' w1 w2 w3 => by rw [k3 _ (by omega)]; exact k1 b' w1 w2
end Go.Proofs.YtmadjdgipfdnkaaDoor
end
section
/- DirFull: the law's own steps. No condition. -/
namespace Go.Proofs.YtmadjdgipfdnkaaDoor
open Go.AM
open Nat renaming reduceBEq → Za, reduceEqDiff → Zb, reduceAdd → Zc, reduceSub → Zd, reduceMul → Ze, reduceLT → Zf, reduceLeDiff → Zg, reduceDiv → Zh, reduceMod → Zi, reducePow → Zj
open Int renaming reduceAdd → Zk, reduceSub → Zl, reduceMul → Zm, reduceLT → Zn, reduceLE → Zo, reduceEq → Zp, reduceNe → Zq, reduceNeg → Zr, reduceToNat → Zs, reduceDiv → Zt, reduceMod → Zu, reducePow → Zv, cast_ofNat_Int → Zw
set_option linter.unusedSimpArgs false
variable {h : Heap} {R : Out → Heap → Prop} {bd bl : Nat} {s : FS} {F : Nat → Prop}
structure PairM (n : Nat) : Prop where
  run : ∀ fu d, acall Tryd.prog (0 + 1) sp16 (fu + 400) (d + 20) 12 [.int .i64 (n : Int)] H0 = some (.ret (.tuple #[.pointer (some ⟨2, 0, none⟩), .pointer (some ⟨3, 0, none⟩), .int .i64 1]), pairH (n : Int))
  f : ((pairH (n : Int)).get 2, (pairH (n : Int)).get 1, (pairH (n : Int)).get 0, Nat.ble 5 (pairH (n : Int)).nx) = (some (cellsB [.int .i64 (n : Int), .slice (some ⟨1, 0, none⟩) (n * 32) (n * 32), .int .i64 1, .int .i64 13] .exact), some (cellsB (u64s (words0 n)) .exact), some (tabBlk .u8 tab), true)
theorem PairM.fs {n : Nat} (p : PairM n) (h1 : 13 ≤ n) (h2 : n ≤ 60) : Fs (pairH (n : Int)) 2 1 (FS.new n) ∧ (pairH (n : Int)).get 0 = some (tabBlk .u8 tab) ∧ 5 ≤ (pairH (n : Int)).nx := by
  have hf := p.f
  simp only [Prod.mk.injEq] at hf
  obtain ⟨f1, f2, f4, f5⟩ := hf
  have f5 := Nat.le_of_ble_eq_true f5
  refine ⟨⟨⟨⟨1, 13, f1⟩, ?_, flat_len, by show n ≤ 1024; omega, by omega, by omega, by omega⟩, .new h1 h2⟩, f4, f5⟩
  show _ = some (cellsB (u64s (flatD n (FS.new n).D)) .exact)
  rw [← words0_fs]; exact f2
theorem PairM.wf {n : Nat} {R : Out → Heap → Prop} (p : PairM n) (hR : R (.ret (.tuple #[.pointer (some ⟨2, 0, none⟩), .pointer (some ⟨3, 0, none⟩), .int .i64 1])) (pairH (n : Int))) : WF Tryd.prog 1 sp16 12 [.int .i64 (n : Int)] H0 R := by
  refine ⟨_, _, ⟨400, fun fu d h1 h2 => ?_⟩, hR⟩
  obtain ⟨fu, rfl⟩ : ∃ k, fu = k + 400 := ⟨fu - 400, by omega⟩
  obtain ⟨d, rfl⟩ : ∃ k, d = k + 20 := ⟨d - 20, by omega⟩
  exact p.run fu d
theorem new_root {n : Nat} (h1 : 13 ≤ n) (h2 : n ≤ 60) : (FS.new n).Inv (fun i => i = 0) ∧ Dr (FS.new n) (fun i => i = 0) 0 [] := by
  have I := new_inv h1 h2
  have hs : (FS.new n).size 0 = 0 := rfl
  refine ⟨⟨I.wf, I.low, fun i hi => ?_, fun i k hi hk => ?_, fun i k j m hi hj hk => ?_, fun i p hi hp hp2 => ?_⟩, ⟨rfl, by omega, rfl, ?_, fun e he => by cases he⟩⟩
  · subst hi
    exact ⟨by show (0 : Int) ≤ 192; decide, fun q hq => absurd hq (by rw [hs]; unfold needN; omega)⟩
  · subst hi; rw [hs] at hk; unfold needN at hk; omega
  · subst hi; rw [hs] at hk; unfold needN at hk; omega
  · subst hi; rw [hs] at hp2; unfold needN at hp2; omega
  · exact List.eq_nil_of_length_eq_zero (by rw [txt_len]; rfl)
end Go.Proofs.YtmadjdgipfdnkaaDoor
end
section
/- From a walk behind the table's block and one more to the row. Conditions: as the rule says. -/
namespace Go.Proofs.YtmadjdgipfdnkaaDoor
open Go.AM
end Go.Proofs.YtmadjdgipfdnkaaDoor
end
section
/- Pair for 40 blocks behind one block, two blocks: run once; texts as arguments. Conditions: as the rules say. -/
namespace Go.Proofs.YtmadjdgipfdnkaaDoor
open Go.AM
open Nat renaming reduceBEq → Za, reduceEqDiff → Zb, reduceAdd → Zc, reduceSub → Zd, reduceMul → Ze, reduceLT → Zf, reduceLeDiff → Zg, reduceDiv → Zh, reduceMod → Zi, reducePow → Zj
open Int renaming reduceAdd → Zk, reduceSub → Zl, reduceMul → Zm, reduceLT → Zn, reduceLE → Zo, reduceEq → Zp, reduceNe → Zq, reduceNeg → Zr, reduceToNat → Zs, reduceDiv → Zt, reduceMod → Zu, reducePow → Zv, cast_ofNat_Int → Zw
set_option linter.unusedSimpArgs false
variable {R : Out → Heap → Prop}
noncomputable def prH (H : Heap) : Heap := match acall Tryd.prog (0 + 1) sp16 400 20 12 [.int .i64 40] H with
  | some (_, h) => h
  | none => H
set_option maxRecDepth 100000 in
theorem prY_run (X Y : Blk) : ∀ fu d, acall Tryd.prog (0 + 1) sp16 (fu + 400) (d + 20) 12 [.int .i64 40] ((H0.new X).new Y) = some (.ret (.tuple #[.pointer (some ⟨4, 0, none⟩), .pointer (some ⟨5, 0, none⟩), .int .i64 1]), prH ((H0.new X).new Y)) := fun fu d => by kernel_rfl
set_option maxRecDepth 100000 in
theorem prY_f (X Y : Blk) : ((prH ((H0.new X).new Y)).get 4, (prH ((H0.new X).new Y)).get 3, (prH ((H0.new X).new Y)).get 2, (prH ((H0.new X).new Y)).get 1, (prH ((H0.new X).new Y)).get 0, Nat.ble 6 (prH ((H0.new X).new Y)).nx) = (some (cellsB [.int .i64 40, .slice (some ⟨3, 0, none⟩) 1280 1280, .int .i64 1, .int .i64 13] .exact), some (cellsB (u64s (words0 40)) .exact), some Y, some X, some (tabBlk .u8 tab), true) := by kernel_rfl
theorem prY_wf {X Y : Blk} (hR : ∀ h, Fs h 4 3 (FS.new 40) → h.get 0 = some (tabBlk .u8 tab) → h.get 1 = some X → h.get 2 = some Y → 6 ≤ h.nx → R (.ret (.tuple #[.pointer (some ⟨4, 0, none⟩), .pointer (some ⟨5, 0, none⟩), .int .i64 1])) h) : WF Tryd.prog 1 sp16 12 [.int .i64 40] ((H0.new X).new Y) R := by
  have hf := prY_f X Y
  simp only [Prod.mk.injEq] at hf
  obtain ⟨f1, f2, f3, f4, f5, f6⟩ := hf
  have f6 := Nat.le_of_ble_eq_true f6
  refine ⟨_, _, ⟨400, fun fu d h1 h2 => ?_⟩, hR _ ⟨⟨⟨1, 13, f1⟩, ?_, flat_len, by show 40 ≤ 1024; omega, by omega, by omega, by omega⟩, .new (by omega) (by omega)⟩ f5 f4 f3 f6⟩
  · obtain ⟨fu, rfl⟩ : ∃ k, fu = k + 400 := ⟨fu - 400, by omega⟩
    obtain ⟨d, rfl⟩ : ∃ k, d = k + 20 := ⟨d - 20, by omega⟩
    exact prY_run X Y fu d
  · show _ = some (cellsB (u64s (flatD 40 (FS.new 40).D)) .exact)
    rw [← words0_fs]; exact f2
structure ArgT (v : Value) (L : List (List UInt8)) (i : Nat) (X : Blk) : Prop where
  is : ∃ a c, v = .slice a L.length c ∧ (L.length = 0 ∨ (a = some ⟨i, 0, none⟩ ∧ X = cellsB (strs L) .ro))
theorem doorY_wf {W : World} {sp : Special} (hsp : SpecOk Tryd.prog 1 sp) {f : FuncId} {args args' : List Value} {X Y : Blk} {s u : AM.Stat} {cs : Array Value} {el : TypeId} {fr : Nat × Nat} (t1 : W.heap[0]? = some (.cells cs el fr)) (t2 : cs.size = 64) (t3 : ∀ i, i < 64 → cs[i]? = (tab.map (Value.int .u8))[i]?)
    (r3 : ∀ m, BRel m W s (some X)) (r4 : ∀ l1, s = .live l1 → roB (some X) = true ∧ l1.rw = false) (u3 : ∀ m, BRel m W u (some Y)) (u4 : ∀ l1, u = .live l1 → roB (some Y) = true ∧ l1.rw = false)
    (hw : WF Tryd.prog 1 sp f args ((H0.new X).new Y) fun o _ => o = .ret (.bool true)) (ha : VRels (statMp [.live ⟨0, 0, 0, 64, 64, false⟩, s, u]) args args') :
    Calls Tryd.prog f args'.toArray W fun e W' => e = .returned (.bool true) ∧ Still W W' := by
  have h2 : listHeap [tabBlk .u8 tab, X, Y] = (H0.new X).new Y := by kernel_rfl
  refine wf_list (ng := 1) (by kernel_rfl) hsp (l := [tabBlk .u8 tab, X, Y]) (st := [.live ⟨0, 0, 0, 64, 64, false⟩, s, u]) rfl (fun i st b hs hb => ?_) (fun i l b hs hb => ?_) (fun g hg => ?_) (by rw [h2]; exact hw) ha
  · match i with
    | 0 => cases hs; cases hb; exact tab_rel (bs := tab) t1 t2 t3
    | 1 => cases hs; cases hb; exact r3 _
    | 2 => cases hs; cases hb; exact u3 _
    | i + 3 => simp at hs
  · match i with
    | 0 => cases hs; cases hb; exact ⟨rfl, rfl⟩
    | 1 => cases hb; exact r4 l (by simpa using hs)
    | 2 => cases hb; exact u4 l (by simpa using hs)
    | i + 3 => simp at hs
  · obtain rfl : g = 0 := by omega
    exact .inl ⟨_, rfl, rfl, rfl, rfl⟩
end Go.Proofs.YtmadjdgipfdnkaaDoor
end
section
/- Rows of names: what stays when one is taken out. No condition on the program. -/
namespace Go.Proofs.YtmadjdgipfdnkaaDoor
open Go.AM
open Nat renaming reduceBEq → Za, reduceEqDiff → Zb, reduceAdd → Zc, reduceSub → Zd, reduceMul → Ze, reduceLT → Zf, reduceLeDiff → Zg, reduceDiv → Zh, reduceMod → Zi, reducePow → Zj
open Int renaming reduceAdd → Zk, reduceSub → Zl, reduceMul → Zm, reduceLT → Zn, reduceLE → Zo, reduceEq → Zp, reduceNe → Zq, reduceNeg → Zr, reduceToNat → Zs, reduceDiv → Zt, reduceMod → Zu, reducePow → Zv, cast_ofNat_Int → Zw
set_option linter.unusedSimpArgs false
def Uniq (l : List (List UInt8 × Nat)) : Prop := ∀ (i j : Nat) a b, l[i]? = some a → l[j]? = some b → a.1 = b.1 → i = j
def nms (l : List (List UInt8 × Nat)) : List (List UInt8) := l.map (·.1)
def keepN (g : List UInt8) (L : List (List UInt8)) : List (List UInt8) := L.filter fun x => decide (x ≠ g)
theorem nms_len {l : List (List UInt8 × Nat)} : (nms l).length = l.length := List.length_map ..
theorem nms_app {a b : List (List UInt8 × Nat)} : nms (a ++ b) = nms a ++ nms b := List.map_append
theorem nms_at {l : List (List UInt8 × Nat)} {i : Nat} {x : List UInt8} (h : (nms l)[i]? = some x) : ∃ y, l[i]? = some y ∧ y.1 = x := by
  unfold nms at h
  rw [List.getElem?_map] at h
  obtain ⟨y, h1, h2⟩ := Option.map_eq_some_iff.1 h
  exact ⟨y, h1, h2⟩
theorem keepN_app {g : List UInt8} {a b : List (List UInt8)} : keepN g (a ++ b) = keepN g a ++ keepN g b := List.filter_append ..
theorem keepN_len {g : List UInt8} {a : List (List UInt8)} : (keepN g a).length ≤ a.length := List.length_filter_le _ _
theorem keepN_take {g : List UInt8} {L : List (List UInt8)} {k : Nat} {x : List UInt8} (h : L[k]? = some x) : keepN g (L.take (k + 1)) = if x = g then keepN g (L.take k) else keepN g (L.take k) ++ [x] := by
  rw [List.take_add_one, h, keepN_app]
  by_cases e : x = g
  · rw [if_pos e]
    have : keepN g (some x).toList = [] := by unfold keepN; simp [e]
    rw [this, List.append_nil]
  · rw [if_neg e]
    have : keepN g (some x).toList = [x] := by unfold keepN; simp [e]
    rw [this]
theorem keepN_same {g : List UInt8} {L : List (List UInt8)} (h : ∀ x ∈ L, x ≠ g) : keepN g L = L := by
  unfold keepN
  exact List.filter_eq_self.2 fun x hx => decide_eq_true (h x hx)
theorem keepN_erase {g : List UInt8} : ∀ {l : List (List UInt8 × Nat)} {j : Nat} {y : List UInt8 × Nat}, Uniq l → l[j]? = some y → y.1 = g → keepN g (nms l) = nms (l.eraseIdx j)
  | [], _, _, _, h, _ => by simp at h
  | a :: r, 0, y, u, h, hy => by
    rw [List.getElem?_cons_zero] at h
    cases Option.some.inj h
    show keepN g (a.1 :: nms r) = nms r
    have h1 : keepN g (a.1 :: nms r) = keepN g (nms r) := by unfold keepN; rw [List.filter_cons, if_neg (by simp [hy])]
    rw [h1]
    refine keepN_same fun x hx e => ?_
    obtain ⟨i, hi⟩ := List.mem_iff_getElem?.1 hx
    obtain ⟨z, z1, z2⟩ := nms_at hi
    have := u 0 (i + 1) a z rfl z1 (by rw [hy, z2, e])
    omega
  | a :: r, j + 1, y, u, h, hy => by
    rw [List.getElem?_cons_succ] at h
    have ne : a.1 ≠ g := fun e => by
      have := u 0 (j + 1) a y rfl h (by rw [e, hy])
      omega
    show keepN g (a.1 :: nms r) = a.1 :: nms (r.eraseIdx j)
    have h1 : keepN g (a.1 :: nms r) = a.1 :: keepN g (nms r) := by unfold keepN; rw [List.filter_cons, if_pos (by simp [ne])]
    rw [h1, keepN_erase (fun i k a b hi hk e => by have := u (i + 1) (k + 1) a b hi hk e; omega) h hy]
theorem Uniq.erase {l : List (List UInt8 × Nat)} {j : Nat} (u : Uniq l) : Uniq (l.eraseIdx j) := by
  intro p q a b hp hq e
  rw [List.getElem?_eraseIdx] at hp hq
  have key : ∀ p q, (if p < j then p else p + 1) = (if q < j then q else q + 1) → p = q := fun p q h => by
    (repeat' split at h) <;> omega
  refine key p q (u _ _ a b ?_ ?_ e)
  · split
    · rename_i c; rw [if_pos c] at hp; exact hp
    · rename_i c; rw [if_neg c] at hp; exact hp
  · split
    · rename_i c; rw [if_pos c] at hq; exact hq
    · rename_i c; rw [if_neg c] at hq; exact hq
theorem Uniq.snoc {l : List (List UInt8 × Nat)} {y : List UInt8 × Nat} (u : Uniq l) (h : ∀ e ∈ l, e.1 ≠ y.1) : Uniq (l ++ [y]) := by
  intro p q a b hp hq e
  have last : ∀ {p : Nat} {a : List UInt8 × Nat}, (l ++ [y])[p]? = some a → (p < l.length ∧ l[p]? = some a) ∨ (p = l.length ∧ a = y) := fun {p a} hp => by
    by_cases c : p < l.length
    · rw [List.getElem?_append_left c] at hp; exact .inl ⟨c, hp⟩
    · rw [List.getElem?_append_right (by omega)] at hp
      have : p - l.length = 0 := by
        rcases Nat.eq_zero_or_pos (p - l.length) with z | z
        · exact z
        · rw [List.getElem?_eq_none (by simp; omega)] at hp; cases hp
      rw [this, List.getElem?_cons_zero] at hp
      exact .inr ⟨by omega, (Option.some.inj hp).symm⟩
  rcases last hp with ⟨c1, c2⟩ | ⟨c1, rfl⟩ <;> rcases last hq with ⟨d1, d2⟩ | ⟨d1, rfl⟩
  · exact u p q a b c2 d2 e
  · exact absurd e (h a (List.mem_of_getElem? c2))
  · exact absurd e.symm (h b (List.mem_of_getElem? d2))
  · omega
theorem erase_none {g : List UInt8} {l : List (List UInt8 × Nat)} {j : Nat} {y : List UInt8 × Nat} (u : Uniq l) (h : l[j]? = some y) (hy : y.1 = g) : ∀ e ∈ l.eraseIdx j, e.1 ≠ g := by
  intro e he e1
  obtain ⟨p, hp⟩ := List.mem_iff_getElem?.1 he
  rw [List.getElem?_eraseIdx] at hp
  by_cases c : p < j
  · rw [if_pos c] at hp
    have := u p j e y hp h (by rw [e1, hy]); omega
  · rw [if_neg c] at hp
    have := u (p + 1) j e y hp h (by rw [e1, hy]); omega
end Go.Proofs.YtmadjdgipfdnkaaDoor
end
section
/- Paths: the parts of a path. Conditions: as each rule says. -/
namespace Go.Proofs.YtmadjdgipfdnkaaDoor
open Go.AM
open Nat renaming reduceBEq → Za, reduceEqDiff → Zb, reduceAdd → Zc, reduceSub → Zd, reduceMul → Ze, reduceLT → Zf, reduceLeDiff → Zg, reduceDiv → Zh, reduceMod → Zi, reducePow → Zj
open Int renaming reduceAdd → Zk, reduceSub → Zl, reduceMul → Zm, reduceLT → Zn, reduceLE → Zo, reduceEq → Zp, reduceNe → Zq, reduceNeg → Zr, reduceToNat → Zs, reduceDiv → Zt, reduceMod → Zu, reducePow → Zv, cast_ofNat_Int → Zw
set_option linter.unusedSimpArgs false
variable {sp : Special} {h : Heap} {R : Out → Heap → Prop}
def cutP (p : List UInt8) (st : List (List UInt8) × Nat) (i : Nat) : List (List UInt8) × Nat := (if st.2 < i then st.1 ++ [(p.drop st.2).take (i - st.2)] else st.1, i + 1)
def cutS (p : List UInt8) : Nat → List (List UInt8) × Nat
  | 0 => ([], 0)
  | i + 1 => if p[i]? = some 47 then cutP p (cutS p i) i else cutS p i
def parts (p : List UInt8) : List (List UInt8) := (cutP p (cutS p p.length) p.length).1
theorem bs1_56 (s : ByteArray) (nx : Nat) : effBuildSlice Tryd.prog 56 1 [(0, .string s)] nx = some ⟨.slice (some ⟨nx, 0, none⟩) 1 1, [], [cellsB [.string s] .exact]⟩ := by
  rw [u_buildSlice 56 1 nx _ mk_56 (by omega)]; rfl
theorem nbeq {a b : Nat} (h : a ≠ b) : a.beq b = false := by rw [← Bool.not_eq_true, Nat.beq_eq]; exact h
end Go.Proofs.YtmadjdgipfdnkaaDoor
end
section
/- Directories: List. Conditions: the disk lies as the rule names. -/
namespace Go.Proofs.YtmadjdgipfdnkaaDoor
open Go.AM
open Nat renaming reduceBEq → Za, reduceEqDiff → Zb, reduceAdd → Zc, reduceSub → Zd, reduceMul → Ze, reduceLT → Zf, reduceLeDiff → Zg, reduceDiv → Zh, reduceMod → Zi, reducePow → Zj
open Int renaming reduceAdd → Zk, reduceSub → Zl, reduceMul → Zm, reduceLT → Zn, reduceLE → Zo, reduceEq → Zp, reduceNe → Zq, reduceNeg → Zr, reduceToNat → Zs, reduceDiv → Zt, reduceMod → Zu, reducePow → Zv, cast_ofNat_Int → Zw
set_option linter.unusedSimpArgs false
variable {h : Heap} {R : Out → Heap → Prop} {bd bl : Nat} {s : FS} {F : Nat → Prop}
def tos (l : List (List UInt8 × Nat)) : List Value := l.map fun e => .int .i64 (e.2 : Int)
theorem tos_take {l : List (List UInt8 × Nat)} {j : Nat} {y : List UInt8 × Nat} (h : l[j]? = some y) : tos (l.take (j + 1)) = tos (l.take j) ++ [.int .i64 (y.2 : Int)] := by
  rw [List.take_add_one, h]; unfold tos; rw [List.map_append]; rfl
theorem nms_take {l : List (List UInt8 × Nat)} {j : Nat} {y : List UInt8 × Nat} (h : l[j]? = some y) : strs (nms (l.take (j + 1))) = strs (nms (l.take j)) ++ [.string (mkS y.1)] := by
  rw [List.take_add_one, h, nms_app, strs_app]; rfl
theorem bs1_50 (v : Int) (nx : Nat) : effBuildSlice Tryd.prog 50 1 [(0, .int .i64 v)] nx = some ⟨.slice (some ⟨nx, 0, none⟩) 1 1, [], [cellsB [.int .i64 v] .exact]⟩ := by
  rw [u_buildSlice 50 1 nx _ mk_50 (by omega)]; rfl
theorem disj_of {a b : List Nat} (h : ∀ x ∈ a, x ∉ b) : disj a b = true := by
  unfold disj
  rw [List.all_eq_true]
  intro x hx
  rw [Bool.not_eq_true', List.any_eq_false]
  intro y hy
  rw [Bool.not_eq_true, ← Bool.not_eq_true, Nat.beq_eq]
  exact fun e => h x hx (e ▸ hy)
theorem foot_app (a b : Operand) (ts : Array TypeId) (ρ : Operand → Value) : foot (.call ⟨.builtin .append, #[a, b], ts⟩) ρ = blkOf (ρ a) ++ blkOf (ρ b) := by
  show blkOf (ρ a) ++ (blkOf (ρ b) ++ []) = _
  rw [List.append_nil]
theorem growG2 {P : Program} {h : Heap} {ts : Array TypeId} {z : List Value} {lo s mb n k : Nat} {v x : Value} {L new : List Value} (ht : appT P ts = some (z, s, mb)) (g : RowG h lo s v n L) (hlo : lo ≤ h.nx) (hx : lenV x = some k) (hk : k ≠ 0) (hsz : (n + k) * mb * 4 ≤ 2 ^ 40) (hnew : firstL h.get s k x = some new) (hl : new.length = k * s) :
    ∃ E h3 w, aAppend P ts v x h.get h.nx = some E ∧ E.val = w ∧ h.apply E = h3 ∧ RowG h3 lo s w (n + k) (L ++ new) ∧ h3.nx = h.nx + 1 ∧ (∀ b', b' < h.nx → b' ∉ blkOf v → h3.get b' = h.get b') ∧ blkOf w = [h.nx] ∧ ∀ y ∈ E.wr.map (·.1) ++ newIds h.nx E.nw, y ∈ blkOf v ∨ y = h.nx := by
  obtain ⟨E, h3, w, a1, a2, a3, a4, a5, a6, a7⟩ := growG ht g hlo hx hk hsz hnew hl
  refine ⟨E, h3, w, a1, a2, a3, a4, a5, a6, a7, ?_⟩
  rcases g.is with ⟨rfl, rfl, rfl⟩ | ⟨b, h1, h2, rfl, h4⟩
  · rw [aAppend_nil ht k x h.get h.nx hx hk (by simpa using hsz) hnew] at a1
    cases Option.some.inj a1
    intro y hy
    simp only [List.map_nil, List.nil_append, newIds_cons, newIds_nil, List.mem_singleton] at hy
    exact .inr hy
  · rw [aAppend_loose ht b n k x h.get h.nx h4 g.len hx hk hsz hnew] at a1
    cases Option.some.inj a1
    intro y hy
    simp only [List.map_cons, List.map_nil, newIds_cons, newIds_nil, List.cons_append, List.nil_append, List.mem_cons, List.not_mem_nil, or_false] at hy
    rcases hy with rfl | rfl
    · exact .inl (List.mem_singleton.2 rfl)
    · exact .inr rfl
set_option maxRecDepth 100000 in
set_option maxHeartbeats 1000000 in
theorem list_wf (f : Fs h bd bl s) {k : Nat} {l : List (List UInt8 × Nat)} (I : s.Inv F) (D : Dr s F k l) (hl : l.length ≤ 21)
    (hR : ∀ h' v w, Fs h' bd bl s → h.nx ≤ h'.nx → (∀ b', b' < h.nx → b' ≠ bd → h'.get b' = h.get b') → RowG h' h.nx 1 v l.length (strs (nms l)) → RowG h' h.nx 1 w l.length (tos l) → R (.ret (.tuple #[v, w])) h') :
    WF Tryd.prog 1 sp16 31 [.iface 23 (.pointer (some ⟨bd, 0, none⟩)), .int .i64 k] h R := by
  refine wf_fn (fn := Tryd.f31) rfl rfl (by kernel_rfl) rfl ?_
  have q1 := f.d.bd_lt
  have q2 := f.d.bl_lt
  simp only [↓reduceIte, reduceCtorEq, Za, Zb, Zc, Zd, Ze, Zf, Zg, Zh, Zi, Zj, Zk, Zl, Zm, Zn, Zo, Zp, Zq, Zr, Zs, Zt, Zu, Zv, gval, Zw, rb0, rb1, rb2, rb3, rb4, tf0, tf1, tf2, tf3, tf4, Yk, Tryd.f31]
  refine runC_of (read_wf f I D fun h1 v f1 n1 k1 r1 => ?_)
  obtain ⟨a, hs⟩ := r1.slc
  have x := EntAt.of r1
  have hv := fun b hb => (r1.lt b hb).2
  rw [hs] at x hv ⊢
  simp only [↓reduceIte, reduceCtorEq, Za, Zb, Zc, Zd, Ze, Zf, Zg, Zh, Zi, Zj, Zk, Zl, Zm, Zn, Zo, Zp, Zq, Zr, Zs, Zt, Zu, Zv, gval, Zw, rb0, rb1, rb2, rb3, rb4, tf0, tf1, tf2, tf3, tf4, Yk]
  refine run_loop2 rfl (fun N e h' => ∃ (j : Nat) (v w : Value), N = l.length - j ∧ j ≤ l.length ∧ e.at 8 = v ∧ e.at 9 = w ∧ e.at 18 = .slice a l.length l.length ∧ e.at 19 = .int .i64 l.length ∧ e.at 20 = .int .i64 j ∧ RowG h' h1.nx 1 v j (strs (nms (l.take j))) ∧ RowG h' h1.nx 1 w j (tos (l.take j)) ∧ (∀ b ∈ blkOf v, b ∉ blkOf w) ∧ h1.nx ≤ h'.nx ∧ ∀ b', b' < h1.nx → h'.get b' = h1.get b')
    (fun ex e h' => ex = .exit 0 ∧ ∃ v w : Value, e.at 8 = v ∧ e.at 9 = w ∧ RowG h' h1.nx 1 v l.length (strs (nms l)) ∧ RowG h' h1.nx 1 w l.length (tos l) ∧ h1.nx ≤ h'.nx ∧ ∀ b', b' < h1.nx → h'.get b' = h1.get b') ?_ (l.length - 0) _ _ ?_ ?_
  · rintro N e h' ⟨j, v, w, rfl, hj, e8, e9, e18, e19, e20, rv, rw', dj, hn, hk⟩ Q' hQn hQx
    by_cases hc : j < l.length
    · obtain ⟨y, hy⟩ : ∃ y, l[j]? = some y := ⟨_, List.getElem?_eq_getElem hc⟩
      rcases x.is with ⟨_, rfl⟩ | ⟨b, c', K, L, hv2, gb, hL, hA⟩
      · exact absurd hc (Nat.not_lt_zero _)
      cases hv2
      have hp0 : (0 : Int) ≤ (j : Int) := by omega
      have hp1 : (j : Int) < (l.length : Int) := by omega
      have wp : wrapF .i64 ((j : Int) + 1) = ((j + 1 : Nat) : Int) := by rw [wrapI (by omega) (by omega)]; omega
      have gb' := (hk b (hv b (List.mem_singleton.2 rfl))).trans gb
      have hA := hA j y hy
      have hp2 : j * 2 + 2 ≤ L.length := by omega
      obtain ⟨h2, hh2⟩ : ∃ h2, h'.new (cellsB [.string (mkS y.1), .int .i64 (y.2 : Int)] .exact) = h2 := ⟨_, rfl⟩
      have n2 : h2.nx = h'.nx + 1 := by rw [← hh2, Heap.nx_new]
      have g2 : h2.get h'.nx = some (cellsB [.string (mkS y.1), .int .i64 (y.2 : Int)] .exact) := by rw [← hh2, Heap.get_new_same]
      have k2 : ∀ b', b' < h'.nx → h2.get b' = h'.get b' := fun b' hb' => by rw [← hh2, Heap.get_new_ne _ _ (by omega)]
      obtain ⟨h3, hh3⟩ : ∃ h3, h2.new (cellsB [.string (mkS y.1)] .exact) = h3 := ⟨_, rfl⟩
      have n3 : h3.nx = h2.nx + 1 := by rw [← hh3, Heap.nx_new]
      have g3 : h3.get h2.nx = some (cellsB [.string (mkS y.1)] .exact) := by rw [← hh3, Heap.get_new_same]
      have k3 : ∀ b', b' < h2.nx → h3.get b' = h2.get b' := fun b' hb' => by rw [← hh3, Heap.get_new_ne _ _ (by omega)]
      have rv3 : RowG h3 h1.nx 1 v j (strs (nms (l.take j))) := rv.keep (by omega) fun b' _ w2 _ => by rw [k3 _ (by omega), k2 _ w2]
      obtain ⟨E, h4, v4, a1, a2, a3, a4, a5, a6, a7, a8⟩ := growG2 app_56_56 rv3 (by omega) (x := .slice (some ⟨h2.nx, 0, none⟩) 1 1) (k := 1) rfl (by omega) (by omega) (new := [.string (mkS y.1)]) (by rw [firstL_slc _ _ _ _ _ _ _ _ _ g3 (by simp)]; rfl) rfl
      have g4 : h4.get h'.nx = some (cellsB [.string (mkS y.1), .int .i64 (y.2 : Int)] .exact) := by
        rw [a6 _ (by omega) (fun hm => by have := (rv.lt _ hm).2; omega), k3 _ (by omega)]; exact g2
      obtain ⟨h5, hh5⟩ : ∃ h5, h4.new (cellsB [.int .i64 (y.2 : Int)] .exact) = h5 := ⟨_, rfl⟩
      have n5 : h5.nx = h4.nx + 1 := by rw [← hh5, Heap.nx_new]
      have g5 : h5.get h4.nx = some (cellsB [.int .i64 (y.2 : Int)] .exact) := by rw [← hh5, Heap.get_new_same]
      have k5 : ∀ b', b' < h4.nx → h5.get b' = h4.get b' := fun b' hb' => by rw [← hh5, Heap.get_new_ne _ _ (by omega)]
      have rw5 : RowG h5 h1.nx 1 w j (tos (l.take j)) := rw'.keep (by omega) fun b' _ w2 w3 => by rw [k5 _ (by omega), a6 _ (by omega) (fun hm => dj _ hm w3), k3 _ (by omega), k2 _ w2]
      obtain ⟨E6, h6, w6, c1, c2, c3, c4, c5, c6, c7, c8⟩ := growG2 app_50_50 rw5 (by omega) (x := .slice (some ⟨h4.nx, 0, none⟩) 1 1) (k := 1) rfl (by omega) (by omega) (new := [.int .i64 (y.2 : Int)]) (by rw [firstL_slc _ _ _ _ _ _ _ _ _ g5 (by simp)]; rfl) rfl
      simp (disch := (first | omega | rfl | (simp only [Yn]; omega))) only [↓reduceIte, reduceCtorEq, Za, Zb, Zc, Zd, Ze, Zf, Zg, Zh, Zi, Zj, Zk, Zl, Zm, Zn, Zo, Zp, Zq, Zr, Zs, Zt, Zu, Zv, gval, Zw, rb0, rb1, rb2, rb3, rb4, tf0, tf1, tf2, tf3, tf4, Yk, Yh, overL_one, if_pos, stX_exactN, e8, e9, e18, e19, e20, hp0, hp1, hp2, gb', hA]
      rw [Heap.upd_new, hh2]
      refine run_draw (ps := [(3, 7), (4, 7), (2, 8), (3, 8), (4, 8)]) (by kernel_rfl) (by kernel_rfl) ?_
      simp (disch := (first | omega | rfl | (simp only [Yn]; omega))) only [↓reduceIte, reduceCtorEq, Za, Zb, Zc, Zd, Ze, Zf, Zg, Zh, Zi, Zj, Zk, Zl, Zm, Zn, Zo, Zp, Zq, Zr, Zs, Zt, Zu, Zv, gval, Zw, rb0, rb1, rb2, rb3, rb4, tf0, tf1, tf2, tf3, tf4, Yk, Yh, overL_one, if_pos, stX_exactN, e8, e9, g2, bs1_56 (mkS y.1), hh3, a1, a2, a3, g4, bs1_50, hh5, c1, c2, c3, foot_app, wp]
      have out : ∀ x, x ∈ blkOf v ∨ x = h3.nx → x ≠ h'.nx ∧ x ≠ h4.nx := fun x hx => by
        rcases hx with q | q
        · have := (rv.lt x q).2; omega
        · omega
      refine ⟨⟨by rw [nbeq (by omega)]; rfl, disj_of fun x hx hm => (out x (a8 x hx)).1 (List.mem_singleton.1 hm), by rw [nbeq (by omega)]; rfl, by rw [nbeq (by omega)]; rfl, disj_of fun x hx hm => (out x (a8 x hx)).2 (List.mem_singleton.1 hm), disj_of fun x hx hm => ?_⟩, ?_⟩
      · have hm := List.mem_singleton.1 hm
        rcases List.mem_append.1 hx with q | q
        · have := (rv.lt x q).2; omega
        · have := List.mem_singleton.1 q; omega
      simp only [↓reduceIte, reduceCtorEq, Za, Zb, Zc, Zd, Ze, Zf, Zg, Zh, Zi, Zj, Zk, Zl, Zm, Zn, Zo, Zp, Zq, Zr, Zs, Zt, Zu, Zv, gval, Zw, rb0, rb1, rb2, rb3, rb4, tf0, tf1, tf2, tf3, tf4, Yk, e20, wp]
      refine hQn _ _ _ (by omega) ⟨j + 1, v4, w6, rfl, by omega, by simp only [Za, Zw, Ye], by simp only [Za, Zw, Ye], by simp only [Za, Zw, Ye, e18], by simp only [Za, Zw, Ye, e19], by simp only [Za, Zw, Ye], ?_, ?_, ?_, by omega, fun b' hb' => ?_⟩
      · rw [nms_take hy]
        exact a4.keep (by omega) fun b' _ w2 w3 => by
          rw [c6 _ (by omega) (fun hm => ?_), k5 _ w2]
          have := (rw'.lt b' hm).2
          rw [a7] at w3
          have := List.mem_singleton.1 w3; omega
      · rw [tos_take hy]; exact c4
      · rw [a7, c7]
        intro b' m1 m2
        have := List.mem_singleton.1 m1
        have := List.mem_singleton.1 m2
        omega
      · rw [c6 _ (by omega) (fun hm => by have := (rw'.lt b' hm).1; omega), k5 _ (by omega), a6 _ (by omega) (fun hm => by have := (rv.lt b' hm).1; omega), k3 _ (by omega), k2 _ (by omega)]; exact hk b' hb'
    · have hp1 : ¬ (j : Int) < (l.length : Int) := by omega
      simp only [↓reduceIte, reduceCtorEq, Za, Zb, Zc, Zd, Ze, Zf, Zg, Zh, Zi, Zj, Zk, Zl, Zm, Zn, Zo, Zp, Zq, Zr, Zs, Zt, Zu, Zv, gval, Zw, rb0, rb1, rb2, rb3, rb4, tf0, tf1, tf2, tf3, tf4, Yk, e19, e20, hp1]
      obtain rfl : j = l.length := by omega
      rw [List.take_length] at rv rw'
      exact hQx _ _ _ (by simp) ⟨rfl, v, w, by simp only [Za, Zw, Ye, e8], by simp only [Za, Zw, Ye, e9], rv, rw', hn, hk⟩
  · exact ⟨0, _, _, rfl, by omega, by simp only [Za, Zw, Ye], by simp only [Za, Zw, Ye], by simp only [Za, Zw, Ye], by simp only [Za, Zw, Ye], by simp only [Za, Zw, Ye], .nil, .nil, (fun _ hb => absurd hb List.not_mem_nil), Nat.le_refl _, fun _ _ => rfl⟩
  · rintro ex e h' - ⟨rfl, v, w, e8, e9, rv, rw', hn, hk⟩
    simp only [↓reduceIte, reduceCtorEq, Za, Zb, Zc, Zd, Ze, Zf, Zg, Zh, Zi, Zj, Zk, Zl, Zm, Zn, Zo, Zp, Zq, Zr, Zs, Zt, Zu, Zv, gval, Zw, rb0, rb1, rb2, rb3, rb4, tf0, tf1, tf2, tf3, tf4, Yk, e8, e9]
    exact hR h' v w (f1.keep hn (hk _ (by omega)) (hk _ (by omega))) (by omega) (fun b' h1 h2 => by rw [hk _ (by omega)]; exact k1 b' h1 h2) (rv.mono (by omega)) (rw'.mono (by omega))
end Go.Proofs.YtmadjdgipfdnkaaDoor
end
section
/- DirNames: the law's own steps. Conditions: the names lie as the rules name. -/
namespace Go.Proofs.YtmadjdgipfdnkaaDoor
open Go.AM
open Nat renaming reduceBEq → Za, reduceEqDiff → Zb, reduceAdd → Zc, reduceSub → Zd, reduceMul → Ze, reduceLT → Zf, reduceLeDiff → Zg, reduceDiv → Zh, reduceMod → Zi, reducePow → Zj
open Int renaming reduceAdd → Zk, reduceSub → Zl, reduceMul → Zm, reduceLT → Zn, reduceLE → Zo, reduceEq → Zp, reduceNe → Zq, reduceNeg → Zr, reduceToNat → Zs, reduceDiv → Zt, reduceMod → Zu, reducePow → Zv, cast_ofNat_Int → Zw
set_option linter.unusedSimpArgs false
variable {h : Heap} {R : Out → Heap → Prop} {bd bl : Nat} {s : FS} {F : Nat → Prop}
theorem dfind_any (f : Fs h bd bl s) {k : Nat} {l0 : List (List UInt8 × Nat)} (I : s.Inv F) (D : Dr s F k l0) (hl0 : l0.length ≤ 21) {nm : List UInt8}
    (hR : ∀ (v : Int) h', (0 ≤ v → ∃ e ∈ l0, e.1 = nm) → ((∀ e ∈ l0, e.1 ≠ nm) → v = -1) → (Uniq l0 → ∀ e ∈ l0, e.1 = nm → v = (e.2 : Int)) → Fs h' bd bl s → h.nx ≤ h'.nx → (∀ b', b' < h.nx → b' ≠ bd → h'.get b' = h.get b') → R (.ret (.int .i64 v)) h') :
    WF Tryd.prog 1 sp16 30 [.iface 23 (.pointer (some ⟨bd, 0, none⟩)), .int .i64 k, .string (mkS nm)] h R := by
  refine dfind_wf f I D hl0 (fun j e hj he h' f' n' k' => hR _ h' (fun _ => ⟨e, List.mem_of_getElem? hj, he⟩) (fun q => absurd he (q e (List.mem_of_getElem? hj))) (fun u y hy hn => ?_) f' n' k') fun q h' f' n' k' => hR _ h' (fun c => absurd c (by decide)) (fun _ => rfl) (fun _ y hy hn => absurd hn (q y hy)) f' n' k'
  obtain ⟨i, hi⟩ := List.mem_iff_getElem?.1 hy
  have := u j i e y hj hi (by rw [he, hn])
  subst this
  rw [hj] at hi
  cases Option.some.inj hi; rfl
structure NS (h : Heap) (X Y : Blk) (s : FS) (l : List (List UInt8 × Nat)) : Prop where
  f : Fs h 4 3 s
  I : s.Inv fun i => i = 0
  D : Dr s (fun i => i = 0) 0 l
  n : s.n = 40
  len : l.length ≤ 21
  u : Uniq l
  x : h.get 1 = some X
  y : h.get 2 = some Y
  t : h.get 0 = some (tabBlk .u8 tab)
  lt : 6 ≤ h.nx
theorem NS.to {h' : Heap} {X Y : Blk} {s s2 : FS} {l l2 : List (List UInt8 × Nat)} (N : NS h X Y s l) (f : Fs h' 4 3 s2) (I : s2.Inv fun i => i = 0) (D : Dr s2 (fun i => i = 0) 0 l2) (hn : s2.n = s.n) (len : l2.length ≤ 21) (u : Uniq l2) (n : h.nx ≤ h'.nx) (k : ∀ b', b' < h.nx → b' ≠ 4 → b' ≠ 3 → h'.get b' = h.get b') : NS h' X Y s2 l2 :=
  have := N.lt
  ⟨f, I, D, hn.trans N.n, len, u, (k 1 (by omega) (by omega) (by omega)).trans N.x, (k 2 (by omega) (by omega) (by omega)).trans N.y, (k 0 (by omega) (by omega) (by omega)).trans N.t, by omega⟩
theorem NS.same {h' : Heap} {X Y : Blk} {s : FS} {l : List (List UInt8 × Nat)} (N : NS h X Y s l) (f : Fs h' 4 3 s) (n : h.nx ≤ h'.nx) (k : ∀ b', b' < h.nx → b' ≠ 4 → b' ≠ 3 → h'.get b' = h.get b') : NS h' X Y s l := N.to f N.I N.D rfl N.len N.u n k
theorem nm_ok {nm : List UInt8} {t : Nat} (hn : NmP nm) (ht : t < 32) : EntOk (nm, t) := by
  have hc := hn.2.2
  unfold chk at hc
  refine ⟨?_, ?_, by show t < 256; omega⟩
  · show nm.length ≤ 8
    by_cases q8 : 8 < nm.length
    · rw [if_pos q8] at hc; exact absurd hc (by decide)
    · omega
  · intro hm
    have hm : (0 : UInt8) ∈ nm := hm
    by_cases q8 : 8 < nm.length
    · rw [if_pos q8] at hc; exact absurd hc (by decide)
    · rw [if_neg q8, if_pos hm] at hc; exact absurd hc (by decide)
theorem ok_snoc {l : List (List UInt8 × Nat)} {y : List UInt8 × Nat} (h : ∀ e ∈ l, EntOk e) (hy : EntOk y) : ∀ e ∈ l ++ [y], EntOk e := fun e he => by
  rcases List.mem_append.1 he with q | q
  · exact h e q
  · rw [List.mem_singleton.1 q]; exact hy
theorem remove_any {X Y : Blk} {l : List (List UInt8 × Nat)} (N : NS h X Y s l) {g : List UInt8}
    (hR : ∀ (E : Int) (s3 : FS) (l3 : List (List UInt8 × Nat)) h', (E = 0 ∧ l3.length < l.length ∨ E = 2 ∧ l3.length = l.length) → keepN g (nms l) = nms l3 → (∀ e ∈ l3, e.1 ≠ g) → NS h' X Y s3 l3 → h.nx ≤ h'.nx → (∀ b', b' < h.nx → b' ≠ 4 → b' ≠ 3 → h'.get b' = h.get b') → R (.ret (.int .i64 E)) h') :
    WF Tryd.prog 1 sp16 29 [.iface 23 (.pointer (some ⟨4, 0, none⟩)), .int .i64 0, .string (mkS g)] h R := by
  have hlt := N.lt
  refine remove_wf N.t N.f (by omega) N.I N.D N.len (fun q h3 f3 n3 k3 => hR 2 s l h3 (.inr ⟨rfl, rfl⟩) (keepN_same fun x hx => ?_) q (N.same f3 n3 k3) n3 k3) fun j y hj hy _ s3 h3 dw f3 n3 k3 => ?_
  · obtain ⟨e, he, rfl⟩ := List.mem_map.1 hx
    exact q e he
  · have hjl := (List.getElem?_eq_some_iff.1 hj).1
    have hle : (l.eraseIdx j).length = l.length - 1 := List.length_eraseIdx_of_lt hjl
    exact hR 0 s3 (l.eraseIdx j) h3 (.inl ⟨rfl, by omega⟩) (keepN_erase N.u hj hy) (erase_none N.u hj hy) (N.to f3 dw.inv (N.D.anew dw fun e he => N.D.ok e (List.mem_of_mem_eraseIdx he)) dw.n (by have := N.len; omega) N.u.erase n3 k3) n3 k3
set_option maxRecDepth 100000 in
set_option maxHeartbeats 4000000 in
theorem names_walk {v1 v2 : Value} {L1 L2 : List (List UInt8)} {X Y : Blk} (A1 : ArgT v1 L1 1 X) (A2 : ArgT v2 L2 2 Y) (hR : ∀ h, R (.ret (.bool true)) h) : WF Tryd.prog 1 sp16 11 [v1, v2] ((H0.new X).new Y) R := by
  refine wf_fn (fn := Tryd.f11) rfl rfl (by kernel_rfl) rfl ?_
  obtain ⟨a1, c1, rfl, hX⟩ := A1.is
  obtain ⟨a2, c2, rfl, hY⟩ := A2.is
  simp only [↓reduceIte, reduceCtorEq, Za, Zb, Zc, Zd, Ze, Zf, Zg, Zh, Zi, Zj, Zk, Zl, Zm, Zn, Zo, Zp, Zq, Zr, Zs, Zt, Zu, Zv, gval, Zw, rb0, rb1, rb2, rb3, rb4, tf0, tf1, tf2, tf3, tf4, Yk, Tryd.f11]
  refine runC_of (prY_wf fun h1 f1 t1 x1 y1 n1 => ?_)
  obtain ⟨I1, D1⟩ := new_root (n := 40) (by omega) (by omega)
  have N1 : NS h1 X Y (FS.new 40) [] := ⟨f1, I1, D1, rfl, by simp, fun i j a b h => by simp at h, x1, y1, t1, n1⟩
  simp only [↓reduceIte, reduceCtorEq, Za, Zb, Zc, Zd, Ze, Zf, Zg, Zh, Zi, Zj, Zk, Zl, Zm, Zn, Zo, Zp, Zq, Zr, Zs, Zt, Zu, Zv, gval, Zw, rb0, rb1, rb2, rb3, rb4, tf0, tf1, tf2, tf3, tf4, Yk, show ((1 : Int) == 0) = false from rfl]
  refine run_loop2 rfl (fun m e h' => ∃ (i : Nat) (s : FS) (l : List (List UInt8 × Nat)) (v : Value), m = 30 - i ∧ i ≤ 30 ∧ e.at 0 = .slice a1 L1.length c1 ∧ e.at 1 = .slice a2 L2.length c2 ∧ e.at 5 = .pointer (some ⟨4, 0, none⟩) ∧ e.at 8 = v ∧ e.at 9 = .int .i64 i ∧ NS h' X Y s l ∧ popc 64 s.b ≤ 12 + needN (9 * l.length) ∧ RowG h' 6 1 v l.length (strs (nms l)))
    (fun ex e h' => ex = .exit 0 ∧ ∃ (s : FS) (l : List (List UInt8 × Nat)) (v : Value), e.at 1 = .slice a2 L2.length c2 ∧ e.at 5 = .pointer (some ⟨4, 0, none⟩) ∧ e.at 8 = v ∧ NS h' X Y s l ∧ RowG h' 6 1 v l.length (strs (nms l))) ?_ 30 _ _ ?_ ?_
  · rintro m e h2 ⟨i, s, l, v, rfl, hi, e0, e1, e5, e8, e9, N2, sp, r2⟩ Q' hQn hQx
    by_cases hc : i < L1.length ∧ i < 30
    · obtain ⟨hi1, hi2⟩ := hc
      have d1 : (i : Int) < (L1.length : Int) := by omega
      have d2 : (i : Int) < 30 := by omega
      have d3 : (0 : Int) ≤ (i : Int) := by omega
      have wi : wrapF .i64 ((i : Int) + 1) = ((i + 1 : Nat) : Int) := by rw [wrapI (by omega) (by omega)]; omega
      obtain ⟨nm, hnm⟩ : ∃ nm, L1[i]? = some nm := ⟨_, List.getElem?_eq_getElem hi1⟩
      rcases hX with hX | ⟨rfl, rfl⟩
      · omega
      have hs := strs_at hnm
      have hlt : i < (strs L1).length := by rw [strs_len]; exact hi1
      have gx := N2.x
      have hlt6 := N2.lt
      simp (disch := (first | omega | rfl | (simp only [Yn]; omega))) only [↓reduceIte, reduceCtorEq, Za, Zb, Zc, Zd, Ze, Zf, Zg, Zh, Zi, Zj, Zk, Zl, Zm, Zn, Zo, Zp, Zq, Zr, Zs, Zt, Zu, Zv, gval, Zw, rb0, rb1, rb2, rb3, rb4, tf0, tf1, tf2, tf3, tf4, Yk, Yh, overL_one, if_pos, stX_exactN, e0, e1, e5, e8, e9, d1, d2, d3, gx, hs, hlt, ifc23, Nat.mul_one, Nat.zero_add]
      refine runC_of (dfind_any N2.f N2.I N2.D N2.len fun z h3 z1 z2 _ f3 n3 k3 => ?_)
      have N3 := N2.same f3 n3 fun b' w1 w2 _ => k3 b' w1 w2
      have gx3 := N3.x
      obtain ⟨was, hw⟩ : ∃ was, decide ((0 : Int) ≤ z) = was := ⟨_, rfl⟩
      simp (disch := (first | omega | rfl | (simp only [Yn]; omega))) only [↓reduceIte, reduceCtorEq, Za, Zb, Zc, Zd, Ze, Zf, Zg, Zh, Zi, Zj, Zk, Zl, Zm, Zn, Zo, Zp, Zq, Zr, Zs, Zt, Zu, Zv, gval, Zw, rb0, rb1, rb2, rb3, rb4, tf0, tf1, tf2, tf3, tf4, Yk, Yh, overL_one, if_pos, stX_exactN, e0, e1, e5, e8, e9, d1, d2, d3, gx3, hs, hlt, ifc23, Nat.mul_one, Nat.zero_add, hw]
      have k23 : ∀ b', b' < h2.nx → b' ≠ 4 → b' ≠ 3 → h3.get b' = h2.get b' := fun b' w1 w2 _ => k3 b' w1 w2
      have r3 : RowG h3 6 1 v l.length (strs (nms l)) := r2.keep n3 fun b w1 w2 _ => k23 b w2 (by omega) (by omega)
      have bad : ∀ (E : Int) h4, E ≠ 0 → Fs h4 4 3 s → h3.nx ≤ h4.nx → (∀ b', b' < h3.nx → b' ≠ 4 → b' ≠ 3 → h4.get b' = h3.get b') → NS h4 (cellsB (strs L1) .ro) Y s l ∧ RowG h4 6 1 v l.length (strs (nms l)) := fun E h4 _ f4 n4 k4 => ⟨N3.same f4 n4 k4, r3.keep n4 fun b w1 w2 _ => k4 b w2 (by omega) (by omega)⟩
      refine runC_of (add_wf N3.t N3.f (by omega) N3.I N3.D N3.len (fun q h4 f4 n4 k4 => ?_) (fun _ q h4 f4 n4 k4 => ?_) (fun _ _ q h4 f4 n4 k4 => ?_) fun t et ht hnp hno hll s4 h4 dw f4 n4 k4 => ?_)
      · obtain ⟨N4, r4⟩ := bad 22 h4 (by decide) f4 n4 k4
        cases was
        · simp only [↓reduceIte, reduceCtorEq, Za, Zb, Zc, Zd, Ze, Zf, Zg, Zh, Zi, Zj, Zk, Zl, Zm, Zn, Zo, Zp, Zq, Zr, Zs, Zt, Zu, Zv, gval, Zw, rb0, rb1, rb2, rb3, rb4, tf0, tf1, tf2, tf3, tf4, Yk, e9, wi]
          exact hQn _ _ _ (by omega) ⟨i + 1, s, l, v, rfl, by omega, by simp only [Za, Zw, Ye, e0], by simp only [Za, Zw, Ye, e1], by simp only [Za, Zw, Ye, e5], by simp only [Za, Zw, Ye, e8], by simp only [Za, Zw, Ye], N4, sp, r4⟩
        · simp only [↓reduceIte, reduceCtorEq, Za, Zb, Zc, Zd, Ze, Zf, Zg, Zh, Zi, Zj, Zk, Zl, Zm, Zn, Zo, Zp, Zq, Zr, Zs, Zt, Zu, Zv, gval, Zw, rb0, rb1, rb2, rb3, rb4, tf0, tf1, tf2, tf3, tf4, Yk, e9, wi]
          exact hQn _ _ _ (by omega) ⟨i + 1, s, l, v, rfl, by omega, by simp only [Za, Zw, Ye, e0], by simp only [Za, Zw, Ye, e1], by simp only [Za, Zw, Ye, e5], by simp only [Za, Zw, Ye, e8], by simp only [Za, Zw, Ye], N4, sp, r4⟩
      · obtain ⟨N4, r4⟩ := bad 17 h4 (by decide) f4 n4 k4
        cases was
        · simp only [↓reduceIte, reduceCtorEq, Za, Zb, Zc, Zd, Ze, Zf, Zg, Zh, Zi, Zj, Zk, Zl, Zm, Zn, Zo, Zp, Zq, Zr, Zs, Zt, Zu, Zv, gval, Zw, rb0, rb1, rb2, rb3, rb4, tf0, tf1, tf2, tf3, tf4, Yk, e9, wi]
          exact hQn _ _ _ (by omega) ⟨i + 1, s, l, v, rfl, by omega, by simp only [Za, Zw, Ye, e0], by simp only [Za, Zw, Ye, e1], by simp only [Za, Zw, Ye, e5], by simp only [Za, Zw, Ye, e8], by simp only [Za, Zw, Ye], N4, sp, r4⟩
        · simp only [↓reduceIte, reduceCtorEq, Za, Zb, Zc, Zd, Ze, Zf, Zg, Zh, Zi, Zj, Zk, Zl, Zm, Zn, Zo, Zp, Zq, Zr, Zs, Zt, Zu, Zv, gval, Zw, rb0, rb1, rb2, rb3, rb4, tf0, tf1, tf2, tf3, tf4, Yk, e9, wi]
          exact hQn _ _ _ (by omega) ⟨i + 1, s, l, v, rfl, by omega, by simp only [Za, Zw, Ye, e0], by simp only [Za, Zw, Ye, e1], by simp only [Za, Zw, Ye, e5], by simp only [Za, Zw, Ye, e8], by simp only [Za, Zw, Ye], N4, sp, r4⟩
      · obtain ⟨N4, r4⟩ := bad 28 h4 (by decide) f4 n4 k4
        cases was
        · simp only [↓reduceIte, reduceCtorEq, Za, Zb, Zc, Zd, Ze, Zf, Zg, Zh, Zi, Zj, Zk, Zl, Zm, Zn, Zo, Zp, Zq, Zr, Zs, Zt, Zu, Zv, gval, Zw, rb0, rb1, rb2, rb3, rb4, tf0, tf1, tf2, tf3, tf4, Yk, e9, wi]
          exact hQn _ _ _ (by omega) ⟨i + 1, s, l, v, rfl, by omega, by simp only [Za, Zw, Ye, e0], by simp only [Za, Zw, Ye, e1], by simp only [Za, Zw, Ye, e5], by simp only [Za, Zw, Ye, e8], by simp only [Za, Zw, Ye], N4, sp, r4⟩
        · simp only [↓reduceIte, reduceCtorEq, Za, Zb, Zc, Zd, Ze, Zf, Zg, Zh, Zi, Zj, Zk, Zl, Zm, Zn, Zo, Zp, Zq, Zr, Zs, Zt, Zu, Zv, gval, Zw, rb0, rb1, rb2, rb3, rb4, tf0, tf1, tf2, tf3, tf4, Yk, e9, wi]
          exact hQn _ _ _ (by omega) ⟨i + 1, s, l, v, rfl, by omega, by simp only [Za, Zw, Ye, e0], by simp only [Za, Zw, Ye, e1], by simp only [Za, Zw, Ye, e5], by simp only [Za, Zw, Ye, e8], by simp only [Za, Zw, Ye], N4, sp, r4⟩
      · obtain rfl : i = t := by omega
        have hz := z2 hno
        subst hz
        have : was = false := by rw [← hw]; rfl
        subst this
        have ok4 := ok_snoc N3.D.ok (nm_ok hnp ht)
        have D4 := N3.D.anew dw ok4
        have l4 : (l ++ [(nm, i)]).length = l.length + 1 := by rw [List.length_append, List.length_singleton]
        have N4 : NS h4 _ Y s4 (l ++ [(nm, i)]) := N3.to f4 dw.inv D4 dw.n (by omega) (N3.u.snoc hno) n4 k4
        have r4 : RowG h4 6 1 v l.length (strs (nms l)) := r3.keep n4 fun b w1 w2 _ => k4 b w2 (by omega) (by omega)
        have sp4 : popc 64 s4.b ≤ 12 + needN (9 * (l ++ [(nm, i)]).length) := by
          have h1 := dw.pop
          rw [enc_len ok4, l4, N3.D.size] at h1
          have h2 := needN_mono (show 9 * l.length ≤ 9 * (l.length + 1) by omega)
          rw [l4]; omega
        have gx4 := N4.x
        have hlt4 := N4.lt
        simp (disch := (first | omega | rfl | (simp only [Yn]; omega))) only [↓reduceIte, reduceCtorEq, Za, Zb, Zc, Zd, Ze, Zf, Zg, Zh, Zi, Zj, Zk, Zl, Zm, Zn, Zo, Zp, Zq, Zr, Zs, Zt, Zu, Zv, gval, Zw, rb0, rb1, rb2, rb3, rb4, tf0, tf1, tf2, tf3, tf4, Yk, Yh, overL_one, if_pos, stX_exactN, e0, e1, e5, e8, e9, d1, d2, d3, gx4, hs, hlt, Nat.mul_one, Nat.zero_add]
        refine runC_of (rname_wf (by have := (nm_ok hnp ht).1; have : nm.length ≤ 8 := this; omega) ?_)
        obtain ⟨h5, hh5⟩ : ∃ h5, h4.new (cellsB [.string (mkS nm)] .exact) = h5 := ⟨_, rfl⟩
        have n5 : h5.nx = h4.nx + 1 := by rw [← hh5, Heap.nx_new]
        have g5 : h5.get h4.nx = some (cellsB [.string (mkS nm)] .exact) := by rw [← hh5, Heap.get_new_same]
        have k5 : ∀ b', b' < h4.nx → h5.get b' = h4.get b' := fun b' hb' => by rw [← hh5, Heap.get_new_ne _ _ (by omega)]
        obtain ⟨E, h6, v6, b1, b2, b3, b4, b5, b6, b7⟩ := growG app_56_56 (r4.keep (h' := h5) (by omega) fun b w1 w2 _ => k5 b w2) (by omega) (x := .slice (some ⟨h4.nx, 0, none⟩) 1 1) (k := 1) rfl (by omega) (by omega) (new := [.string (mkS nm)]) (by rw [firstL_slc _ _ _ _ _ _ _ _ _ g5 (by simp)]; rfl) rfl
        have k46 : ∀ b', b' < h4.nx → b' ∉ blkOf v → h6.get b' = h4.get b' := fun b' w1 w2 => by rw [b6 _ (by omega) w2, k5 _ w1]
        have nin : ∀ b', b' < 6 → b' ∉ blkOf v := fun b' w hm => by have := (r4.lt b' hm).1; omega
        have f6 : Fs h6 4 3 s4 := f4.keep (by omega) (k46 _ (by omega) (nin _ (by omega))) (k46 _ (by omega) (nin _ (by omega)))
        have N6 : NS h6 _ Y s4 (l ++ [(nm, i)]) := ⟨f6, N4.I, N4.D, N4.n, N4.len, N4.u, (k46 _ (by omega) (nin _ (by omega))).trans N4.x, (k46 _ (by omega) (nin _ (by omega))).trans N4.y, (k46 _ (by omega) (nin _ (by omega))).trans N4.t, by omega⟩
        have r6 : RowG h6 6 1 v6 (l ++ [(nm, i)]).length (strs (nms (l ++ [(nm, i)]))) := by
          rw [l4, nms_app, strs_app]; exact b4
        have gx6 := N6.x
        simp (disch := (first | omega | rfl | (simp only [Yn]; omega))) only [↓reduceIte, reduceCtorEq, Za, Zb, Zc, Zd, Ze, Zf, Zg, Zh, Zi, Zj, Zk, Zl, Zm, Zn, Zo, Zp, Zq, Zr, Zs, Zt, Zu, Zv, gval, Zw, rb0, rb1, rb2, rb3, rb4, tf0, tf1, tf2, tf3, tf4, Yk, Yh, overL_one, if_pos, stX_exactN, decide_eq_true hnp, e0, e1, e5, e8, e9, d1, d2, d3, gx4, gx6, hs, hlt, Nat.mul_one, Nat.zero_add, bs1_56 (mkS nm), hh5, b1, b2, b3, ifc23]
        refine runC_of (dfind_any N6.f N6.I N6.D N6.len fun z h7 _ _ z3 f7 n7 k7 => ?_)
        obtain rfl : z = (i : Int) := z3 N6.u (nm, i) (by simp) rfl
        have N7 := N6.same f7 n7 fun b' w1 w2 _ => k7 b' w1 w2
        have r7 : RowG h7 6 1 v6 (l ++ [(nm, i)]).length (strs (nms (l ++ [(nm, i)]))) := r6.keep n7 fun b w1 w2 _ => k7 b w2 (by omega)
        simp only [↓reduceIte, reduceCtorEq, Za, Zb, Zc, Zd, Ze, Zf, Zg, Zh, Zi, Zj, Zk, Zl, Zm, Zn, Zo, Zp, Zq, Zr, Zs, Zt, Zu, Zv, gval, Zw, rb0, rb1, rb2, rb3, rb4, tf0, tf1, tf2, tf3, tf4, Yk, e9, wi]
        exact hQn _ _ _ (by omega) ⟨i + 1, s4, _, v6, rfl, by omega, by simp only [Za, Zw, Ye, e0], by simp only [Za, Zw, Ye, e1], by simp only [Za, Zw, Ye, e5], by simp only [Za, Zw, Ye], by simp only [Za, Zw, Ye], N7, sp4, r7⟩
    · by_cases d1 : (i : Int) < (L1.length : Int)
      · have d2 : ¬ (i : Int) < 30 := by omega
        simp only [↓reduceIte, reduceCtorEq, Za, Zb, Zc, Zd, Ze, Zf, Zg, Zh, Zi, Zj, Zk, Zl, Zm, Zn, Zo, Zp, Zq, Zr, Zs, Zt, Zu, Zv, gval, Zw, rb0, rb1, rb2, rb3, rb4, tf0, tf1, tf2, tf3, tf4, Yk, e0, e9, d1, d2]
        exact hQx _ _ _ (by simp) ⟨rfl, s, l, v, by simp only [Za, Zw, Ye, e1], by simp only [Za, Zw, Ye, e5], by simp only [Za, Zw, Ye, e8], N2, r2⟩
      · simp only [↓reduceIte, reduceCtorEq, Za, Zb, Zc, Zd, Ze, Zf, Zg, Zh, Zi, Zj, Zk, Zl, Zm, Zn, Zo, Zp, Zq, Zr, Zs, Zt, Zu, Zv, gval, Zw, rb0, rb1, rb2, rb3, rb4, tf0, tf1, tf2, tf3, tf4, Yk, e0, e9, d1]
        exact hQx _ _ _ (by simp) ⟨rfl, s, l, v, by simp only [Za, Zw, Ye, e1], by simp only [Za, Zw, Ye, e5], by simp only [Za, Zw, Ye, e8], N2, r2⟩
  · refine ⟨0, _, [], _, rfl, by omega, by simp only [Za, Zw, Ye], by simp only [Za, Zw, Ye], by simp only [Za, Zw, Ye], by simp only [Za, Zw, Ye], by simp only [Za, Zw, Ye], N1, ?_, .nil⟩
    show popc 64 4095 ≤ _
    rw [show popc 64 4095 = 12 by decide]; omega
  · rintro ex e h2 - ⟨rfl, s, l, v, e1, e5, e8, N2, r2⟩
    simp only [↓reduceIte, reduceCtorEq, Za, Zb, Zc, Zd, Ze, Zf, Zg, Zh, Zi, Zj, Zk, Zl, Zm, Zn, Zo, Zp, Zq, Zr, Zs, Zt, Zu, Zv, gval, Zw, rb0, rb1, rb2, rb3, rb4, tf0, tf1, tf2, tf3, tf4, Yk]
    refine run_loop2 rfl (fun m e h' => ∃ (i : Nat) (s : FS) (l : List (List UInt8 × Nat)) (v : Value), m = 30 - i ∧ i ≤ 30 ∧ e.at 1 = .slice a2 L2.length c2 ∧ e.at 5 = .pointer (some ⟨4, 0, none⟩) ∧ e.at 8 = v ∧ e.at 12 = .int .i64 i ∧ NS h' X Y s l ∧ RowG h' 6 1 v l.length (strs (nms l)))
      (fun ex e h' => ex = .exit 2 ∧ ∃ (s : FS) (l : List (List UInt8 × Nat)) (v : Value), e.at 5 = .pointer (some ⟨4, 0, none⟩) ∧ e.at 8 = v ∧ NS h' X Y s l ∧ RowG h' 6 1 v l.length (strs (nms l))) ?_ 30 _ _ ?_ ?_
    · rintro m e h2 ⟨i, s, l, v, rfl, hi, e1, e5, e8, e12, N2, r2⟩ Q' hQn hQx
      by_cases hc : i < L2.length ∧ i < 30
      · obtain ⟨hi1, hi2⟩ := hc
        have d1 : (i : Int) < (L2.length : Int) := by omega
        have d2 : (i : Int) < 30 := by omega
        have d3 : (0 : Int) ≤ (i : Int) := by omega
        have wi : wrapF .i64 ((i : Int) + 1) = ((i + 1 : Nat) : Int) := by rw [wrapI (by omega) (by omega)]; omega
        obtain ⟨g, hg⟩ : ∃ g, L2[i]? = some g := ⟨_, List.getElem?_eq_getElem hi1⟩
        rcases hY with hY | ⟨rfl, rfl⟩
        · omega
        have hs := strs_at hg
        have hlt : i < (strs L2).length := by rw [strs_len]; exact hi1
        have gy := N2.y
        have hlt6 := N2.lt
        simp (disch := (first | omega | rfl | (simp only [Yn]; omega))) only [↓reduceIte, reduceCtorEq, Za, Zb, Zc, Zd, Ze, Zf, Zg, Zh, Zi, Zj, Zk, Zl, Zm, Zn, Zo, Zp, Zq, Zr, Zs, Zt, Zu, Zv, gval, Zw, rb0, rb1, rb2, rb3, rb4, tf0, tf1, tf2, tf3, tf4, Yk, Yh, overL_one, if_pos, stX_exactN, e1, e5, e8, e12, d1, d2, d3, gy, hs, hlt, ifc23, Nat.mul_one, Nat.zero_add]
        refine runC_of (remove_any N2 fun E s3 l3 h3 hE hkeep hnone N3 n3 k3 => ?_)
        have r3 : RowG h3 6 1 v l.length (strs (nms l)) := r2.keep n3 fun b w1 w2 _ => k3 b w2 (by omega) (by omega)
        simp only [↓reduceIte, reduceCtorEq, Za, Zb, Zc, Zd, Ze, Zf, Zg, Zh, Zi, Zj, Zk, Zl, Zm, Zn, Zo, Zp, Zq, Zr, Zs, Zt, Zu, Zv, gval, Zw, rb0, rb1, rb2, rb3, rb4, tf0, tf1, tf2, tf3, tf4, Yk]
        obtain ⟨va, hva⟩ := r3.slc
        refine run_loop2 rfl (fun m e h' => ∃ (k : Nat) (w : Value), m = l.length - k ∧ k ≤ l.length ∧ e.at 1 = .slice (some ⟨2, 0, none⟩) L2.length c2 ∧ e.at 5 = .pointer (some ⟨4, 0, none⟩) ∧ e.at 8 = v ∧ e.at 12 = .int .i64 i ∧ e.at 13 = .int .i64 E ∧ e.at 14 = w ∧ e.at 15 = .int .i64 k ∧ RowG h' h3.nx 1 w (keepN g ((nms l).take k)).length (strs (keepN g ((nms l).take k))) ∧ h3.nx ≤ h'.nx ∧ ∀ b', b' < h3.nx → h'.get b' = h3.get b')
          (fun ex e h' => ex = .exit 4 ∧ ∃ (w : Value), e.at 1 = .slice (some ⟨2, 0, none⟩) L2.length c2 ∧ e.at 5 = .pointer (some ⟨4, 0, none⟩) ∧ e.at 8 = v ∧ e.at 12 = .int .i64 i ∧ e.at 13 = .int .i64 E ∧ e.at 14 = w ∧ RowG h' h3.nx 1 w l3.length (strs (nms l3)) ∧ h3.nx ≤ h'.nx ∧ ∀ b', b' < h3.nx → h'.get b' = h3.get b') ?_ (l.length - 0) _ _ ?_ ?_
        · rintro m e h4 ⟨k, w, rfl, hk, e1, e5, e8, e12, e13, e14, e15, r4, n4, k4⟩ Q' hQn hQx
          rw [hva] at e8
          by_cases c : k < l.length
          · have b1 : (k : Int) < (l.length : Int) := by omega
            have b3 : (0 : Int) ≤ (k : Int) := by omega
            have wk : wrapF .i64 ((k : Int) + 1) = ((k + 1 : Nat) : Int) := by rw [wrapI (by have := N2.len; omega) (by have := N2.len; omega)]; omega
            obtain ⟨x, hx⟩ : ∃ x, (nms l)[k]? = some x := ⟨_, List.getElem?_eq_getElem (by rw [nms_len]; exact c)⟩
            have hkl : (keepN g ((nms l).take k)).length ≤ 21 := by
              have h1 := keepN_len (g := g) (a := (nms l).take k)
              have h2 := N2.len
              rw [List.length_take, nms_len] at h1
              omega
            rcases r3.is with ⟨_, _, z⟩ | ⟨b, w1, w2, w3, gb⟩
            · omega
            rw [hva] at w3
            cases w3
            have gb4 := (k4 b w2).trans gb
            have gy4 := (k4 2 (by have := N3.lt; omega)).trans N3.y
            have hsx := strs_at hx
            have hltx : k < (strs (nms l)).length := by rw [strs_len, nms_len]; exact c
            have d4 : i < L2.length := hi1
            simp (disch := (first | omega | rfl | (simp only [Yn]; omega))) only [↓reduceIte, reduceCtorEq, Za, Zb, Zc, Zd, Ze, Zf, Zg, Zh, Zi, Zj, Zk, Zl, Zm, Zn, Zo, Zp, Zq, Zr, Zs, Zt, Zu, Zv, gval, Zw, rb0, rb1, rb2, rb3, rb4, tf0, tf1, tf2, tf3, tf4, Yk, Yh, overL_one, if_pos, stX_exactN, e1, e8, e12, e14, e15, b1]
            refine run_draw (ps := []) (by kernel_rfl) (by kernel_rfl) ?_
            by_cases cx : x = g
            · have cx' : decide (x ≠ g) = false := by simp [cx]
              simp (disch := (first | omega | rfl | (simp only [Yn]; omega))) only [↓reduceIte, reduceCtorEq, Za, Zb, Zc, Zd, Ze, Zf, Zg, Zh, Zi, Zj, Zk, Zl, Zm, Zn, Zo, Zp, Zq, Zr, Zs, Zt, Zu, Zv, gval, Zw, rb0, rb1, rb2, rb3, rb4, tf0, tf1, tf2, tf3, tf4, Yk, Yh, overL_one, if_pos, stX_exactN, e1, e8, e12, e14, e15, b1, b3, d1, d3, gb4, gy4, hs, hlt, hsx, hltx, str_neG, cx', wk, Nat.mul_one, Nat.zero_add]
              refine hQn _ _ _ (by omega) ⟨k + 1, w, rfl, by omega, by simp only [Za, Zw, Ye, e1], by simp only [Za, Zw, Ye, e5], by rw [hva]; simp only [Za, Zw, Ye, e8], by simp only [Za, Zw, Ye, e12], by simp only [Za, Zw, Ye, e13], by simp only [Za, Zw, Ye, e14], by simp only [Za, Zw, Ye], ?_, n4, k4⟩
              rw [keepN_take hx, if_pos cx]; exact r4
            · have cx' : decide (x ≠ g) = true := by simp [cx]
              obtain ⟨h5, hh5⟩ : ∃ h5, h4.new (cellsB [.string (mkS x)] .exact) = h5 := ⟨_, rfl⟩
              have n5 : h5.nx = h4.nx + 1 := by rw [← hh5, Heap.nx_new]
              have g5 : h5.get h4.nx = some (cellsB [.string (mkS x)] .exact) := by rw [← hh5, Heap.get_new_same]
              have k5 : ∀ b', b' < h4.nx → h5.get b' = h4.get b' := fun b' hb' => by rw [← hh5, Heap.get_new_ne _ _ (by omega)]
              obtain ⟨E6, h6, w6, q1, q2, q3, q4, q5, q6, q7⟩ := growG app_56_56 (r4.keep (h' := h5) (by omega) fun b w1 w2 _ => k5 b w2) (by omega) (x := .slice (some ⟨h4.nx, 0, none⟩) 1 1) (k := 1) rfl (by omega) (by omega) (new := [.string (mkS x)]) (by rw [firstL_slc _ _ _ _ _ _ _ _ _ g5 (by simp)]; rfl) rfl
              simp (disch := (first | omega | rfl | (simp only [Yn]; omega))) only [↓reduceIte, reduceCtorEq, Za, Zb, Zc, Zd, Ze, Zf, Zg, Zh, Zi, Zj, Zk, Zl, Zm, Zn, Zo, Zp, Zq, Zr, Zs, Zt, Zu, Zv, gval, Zw, rb0, rb1, rb2, rb3, rb4, tf0, tf1, tf2, tf3, tf4, Yk, Yh, overL_one, if_pos, stX_exactN, e1, e8, e12, e14, e15, b1, b3, d1, d3, gb4, gy4, hs, hlt, hsx, hltx, str_neG, cx', wk, Nat.mul_one, Nat.zero_add, bs1_56 (mkS x), hh5, q1, q2, q3]
              refine hQn _ _ _ (by omega) ⟨k + 1, w6, rfl, by omega, by simp only [Za, Zw, Ye, e1], by simp only [Za, Zw, Ye, e5], by rw [hva]; simp only [Za, Zw, Ye, e8], by simp only [Za, Zw, Ye, e12], by simp only [Za, Zw, Ye, e13], by simp only [Za, Zw, Ye], by simp only [Za, Zw, Ye], ?_, by omega, fun b' hb' => ?_⟩
              · rw [keepN_take hx, if_neg cx, List.length_append, List.length_singleton, strs_app]; exact q4
              · rw [q6 _ (by omega) (fun hm => by have := (r4.lt b' hm).1; omega), k5 _ (by omega)]; exact k4 b' hb'
          · have b1 : ¬ (k : Int) < (l.length : Int) := by omega
            simp only [↓reduceIte, reduceCtorEq, Za, Zb, Zc, Zd, Ze, Zf, Zg, Zh, Zi, Zj, Zk, Zl, Zm, Zn, Zo, Zp, Zq, Zr, Zs, Zt, Zu, Zv, gval, Zw, rb0, rb1, rb2, rb3, rb4, tf0, tf1, tf2, tf3, tf4, Yk, e8, e15, b1]
            rw [List.take_of_length_le (by rw [nms_len]; omega), hkeep, nms_len] at r4
            exact hQx _ _ _ (by simp) ⟨rfl, w, by simp only [Za, Zw, Ye, e1], by simp only [Za, Zw, Ye, e5], by rw [hva]; simp only [Za, Zw, Ye, e8], by simp only [Za, Zw, Ye, e12], by simp only [Za, Zw, Ye, e13], by simp only [Za, Zw, Ye, e14], r4, n4, k4⟩
        · exact ⟨0, _, rfl, by omega, by simp only [Za, Zw, Ye, e1], by simp only [Za, Zw, Ye, e5], by simp only [Za, Zw, Ye, e8], by simp only [Za, Zw, Ye, e12], by simp only [Za, Zw, Ye], by simp only [Za, Zw, Ye], by simp only [Za, Zw, Ye], .nil, Nat.le_refl _, fun _ _ => rfl⟩
        · rintro ex e h4 - ⟨rfl, w, e1, e5, e8, e12, e13, e14, r4, n4, k4⟩
          have N4 : NS h4 X _ s3 l3 := N3.same (N3.f.keep n4 (k4 _ (by have := N3.lt; omega)) (k4 _ (by have := N3.lt; omega))) n4 fun b' w1 _ _ => k4 b' w1
          obtain ⟨wa, rfl⟩ := r4.slc
          rw [hva] at e8
          have gy4 := N4.y
          have hfind : ∀ {R : Out → Heap → Prop}, (∀ h5, NS h5 X _ s3 l3 → h4.nx ≤ h5.nx → (∀ b', b' < h4.nx → b' ≠ 4 → h5.get b' = h4.get b') → R (.ret (.int .i64 (-1))) h5) → WF Tryd.prog 1 sp16 30 [.iface 23 (.pointer (some ⟨4, 0, none⟩)), .int .i64 0, .string (mkS g)] h4 R := fun {R} hR => dfind_any N4.f N4.I N4.D N4.len fun z h5 _ z2 _ f5 n5 k5 => by
            rw [z2 hnone]
            exact hR h5 (N4.same f5 n5 fun b' w1 w2 _ => k5 b' w1 w2) n5 k5
          rcases hE with ⟨rfl, hlt3⟩ | ⟨rfl, hlt3⟩
          · have b1 : (l3.length : Int) < (l.length : Int) := by omega
            simp (disch := (first | omega | rfl | (simp only [Yn]; omega))) only [↓reduceIte, reduceCtorEq, Za, Zb, Zc, Zd, Ze, Zf, Zg, Zh, Zi, Zj, Zk, Zl, Zm, Zn, Zo, Zp, Zq, Zr, Zs, Zt, Zu, Zv, gval, Zw, rb0, rb1, rb2, rb3, rb4, tf0, tf1, tf2, tf3, tf4, Yk, Yh, overL_one, if_pos, stX_exactN, e1, e5, e8, e12, e13, e14, b1, d1, d3, gy4, hs, hlt, ifc23, show (!(true == true)) = false from rfl, Nat.mul_one, Nat.zero_add]
            refine runC_of (hfind fun h5 N5 n5 k5 => ?_)
            simp only [↓reduceIte, reduceCtorEq, Za, Zb, Zc, Zd, Ze, Zf, Zg, Zh, Zi, Zj, Zk, Zl, Zm, Zn, Zo, Zp, Zq, Zr, Zs, Zt, Zu, Zv, gval, Zw, rb0, rb1, rb2, rb3, rb4, tf0, tf1, tf2, tf3, tf4, Yk, e12, e14, wi]
            exact hQn _ _ _ (by omega) ⟨i + 1, s3, l3, _, rfl, by omega, by simp only [Za, Zw, Ye, e1], by simp only [Za, Zw, Ye, e5], by simp only [Za, Zw, Ye], by simp only [Za, Zw, Ye], N5, (r4.keep n5 fun b w1 w2 _ => k5 b w2 (by have := N3.lt; omega)).mono (by have := N3.lt; omega)⟩
          · have b1 : ¬ (l3.length : Int) < (l.length : Int) := by omega
            simp (disch := (first | omega | rfl | (simp only [Yn]; omega))) only [↓reduceIte, reduceCtorEq, Za, Zb, Zc, Zd, Ze, Zf, Zg, Zh, Zi, Zj, Zk, Zl, Zm, Zn, Zo, Zp, Zq, Zr, Zs, Zt, Zu, Zv, gval, Zw, rb0, rb1, rb2, rb3, rb4, tf0, tf1, tf2, tf3, tf4, Yk, Yh, overL_one, if_pos, stX_exactN, e1, e5, e8, e12, e13, e14, b1, d1, d3, gy4, hs, hlt, ifc23, show (!(false == false)) = false from rfl, Nat.mul_one, Nat.zero_add]
            refine runC_of (hfind fun h5 N5 n5 k5 => ?_)
            simp only [↓reduceIte, reduceCtorEq, Za, Zb, Zc, Zd, Ze, Zf, Zg, Zh, Zi, Zj, Zk, Zl, Zm, Zn, Zo, Zp, Zq, Zr, Zs, Zt, Zu, Zv, gval, Zw, rb0, rb1, rb2, rb3, rb4, tf0, tf1, tf2, tf3, tf4, Yk, e12, e14, wi]
            exact hQn _ _ _ (by omega) ⟨i + 1, s3, l3, _, rfl, by omega, by simp only [Za, Zw, Ye, e1], by simp only [Za, Zw, Ye, e5], by simp only [Za, Zw, Ye], by simp only [Za, Zw, Ye], N5, (r4.keep n5 fun b w1 w2 _ => k5 b w2 (by have := N3.lt; omega)).mono (by have := N3.lt; omega)⟩
      · by_cases d1 : (i : Int) < (L2.length : Int)
        · have d2 : ¬ (i : Int) < 30 := by omega
          simp only [↓reduceIte, reduceCtorEq, Za, Zb, Zc, Zd, Ze, Zf, Zg, Zh, Zi, Zj, Zk, Zl, Zm, Zn, Zo, Zp, Zq, Zr, Zs, Zt, Zu, Zv, gval, Zw, rb0, rb1, rb2, rb3, rb4, tf0, tf1, tf2, tf3, tf4, Yk, e1, e12, d1, d2]
          exact hQx _ _ _ (by simp) ⟨rfl, s, l, v, by simp only [Za, Zw, Ye, e5], by simp only [Za, Zw, Ye, e8], N2, r2⟩
        · simp only [↓reduceIte, reduceCtorEq, Za, Zb, Zc, Zd, Ze, Zf, Zg, Zh, Zi, Zj, Zk, Zl, Zm, Zn, Zo, Zp, Zq, Zr, Zs, Zt, Zu, Zv, gval, Zw, rb0, rb1, rb2, rb3, rb4, tf0, tf1, tf2, tf3, tf4, Yk, e1, e12, d1]
          exact hQx _ _ _ (by simp) ⟨rfl, s, l, v, by simp only [Za, Zw, Ye, e5], by simp only [Za, Zw, Ye, e8], N2, r2⟩
    · exact ⟨0, s, l, v, rfl, by omega, by simp only [Za, Zw, Ye, e1], by simp only [Za, Zw, Ye, e5], by simp only [Za, Zw, Ye, e8], by simp only [Za, Zw, Ye], N2, r2⟩
    · rintro ex e h3 - ⟨rfl, s, l, v, e5, e8, N3, r3⟩
      have hlt := N3.lt
      simp only [↓reduceIte, reduceCtorEq, Za, Zb, Zc, Zd, Ze, Zf, Zg, Zh, Zi, Zj, Zk, Zl, Zm, Zn, Zo, Zp, Zq, Zr, Zs, Zt, Zu, Zv, gval, Zw, rb0, rb1, rb2, rb3, rb4, tf0, tf1, tf2, tf3, tf4, Yk, e5, e8, ifc23]
      refine runC_of (list_wf N3.f N3.I N3.D N3.len fun h4 v4 w4 f4 n4 k4 rv rt => ?_)
      have N4 := N3.same f4 n4 fun b' w1 w2 _ => k4 b' w1 w2
      have r4 : RowG h4 6 1 v l.length (strs (nms l)) := r3.keep n4 fun b w1 w2 _ => k4 b w2 (by omega)
      have t1 : TxtAt h4 v4 (nms l) := TxtAt.of (by rw [nms_len]; exact rv)
      have t2 : TxtAt h4 v (nms l) := TxtAt.of (by rw [nms_len]; exact r4)
      obtain ⟨va, hva⟩ := r4.slc
      obtain ⟨va4, hva4⟩ := rv.slc
      have sv4 : storable v4 = true := by rw [hva4]; rfl
      have sv : storable v = true := by rw [hva]; rfl
      have sw : storable w4 = true := by obtain ⟨q, hq⟩ := rt.slc; rw [hq]; rfl
      have c21 : (l.length : Int) ≤ 21 := by have := N4.len; omega
      simp only [↓reduceIte, reduceCtorEq, Za, Zb, Zc, Zd, Ze, Zf, Zg, Zh, Zi, Zj, Zk, Zl, Zm, Zn, Zo, Zp, Zq, Zr, Zs, Zt, Zu, Zv, gval, Zw, rb0, rb1, rb2, rb3, rb4, tf0, tf1, tf2, tf3, tf4, Yk, e8, sv4, sv, sw]
      refine runC_of (texts_spec (sp := sp16) rfl t1 t2 (by rw [nms_len]; have := N4.len; omega) (by rw [nms_len]; have := N4.len; omega) ?_)
      rw [hva] at e8
      simp only [↓reduceIte, reduceCtorEq, Za, Zb, Zc, Zd, Ze, Zf, Zg, Zh, Zi, Zj, Zk, Zl, Zm, Zn, Zo, Zp, Zq, Zr, Zs, Zt, Zu, Zv, gval, Zw, rb0, rb1, rb2, rb3, rb4, tf0, tf1, tf2, tf3, tf4, Yk, decide_true, e8, c21]
      refine runC_of (aw16_wf N4.t ?_)
      simp only [↓reduceIte, reduceCtorEq, Za, Zb, Zc, Zd, Ze, Zf, Zg, Zh, Zi, Zj, Zk, Zl, Zm, Zn, Zo, Zp, Zq, Zr, Zs, Zt, Zu, Zv, gval, Zw, rb0, rb1, rb2, rb3, rb4, tf0, tf1, tf2, tf3, tf4, Yk]
      exact hR _
end Go.Proofs.YtmadjdgipfdnkaaDoor
end
section
/- Closed facts of this seat's program, each by itself. -/
namespace Go.Proofs.YtmadjdgipfdnkaaDoor
open Go.ChangeShapes Go.WideShapes Go.ChangeAt Go.RowKit
theorem Tryd.laidOut : laidOutB Tryd.prog = true := by kernel_rfl
theorem Tryd.mapsRowed : mapsRowed Tryd.prog = true := by kernel_rfl
theorem Tryd.plainKeys : (Rows.inodePutsRow.plainKeys == Tryd.prog.plainKeys) = true := by kernel_rfl
theorem Tryd.stopsHeard : Tryd.prog.stopsHeard = true := by kernel_rfl
theorem Tryd.mayEnter : Tryd.prog.mayEnter = true := by kernel_rfl
theorem Tryd.lifted : (Rows.inodePutsRow.lifted == Tryd.prog.liftsFinal) = true := by kernel_rfl
theorem Tryd.make : (Tryd.prog.make == some Rows.inodePutsRow.make) = true := by kernel_rfl
theorem Tryd.looks : false = Tryd.prog.looks [] := by kernel_rfl
end Go.Proofs.YtmadjdgipfdnkaaDoor
end
section
/- DirNames: whatever the names, the law gives true. (Its card: the table of math/bits is as the program's text lays it.) -/
namespace Go.Proofs.YtmadjdgipfdnkaaDoor
open Go.ChangeShapes Go.WideShapes Go.ChangeAt Go.RowKit Go.AM
set_option maxRecDepth 100000 in
theorem dirNames_calls {H : Type} {enc : TypeId × Value → H} {W : World} {base : Nat} {v0 v1 : Value} {d0 d1 : DataW H} {p0 p1 : List MemPlace} (h0 : Value.okWide Tryd.prog W .any base 56 v0) (t0 : DataW.Trod enc Tryd.prog W 0 (fun _ => true) true 56 v0 d0 p0) (h1 : Value.okWide Tryd.prog W .any base 56 v1) (t1 : DataW.Trod enc Tryd.prog W 0 (fun _ => true) true 56 v1 d1 p1) (hL : laidMetH Tryd.prog Rows.dirNamesRow.laid W) :
    Calls Tryd.prog 11 #[v0, v1] W fun e W' => e = .returned (.bool true) ∧ Still W W' := by
  obtain ⟨tc, el, fr, w1, w2, w3⟩ := tab_laid hL
  have hc0 : v0.cells.toList = [v0] := by
    obtain ⟨a, n, c, rfl⟩ := okWide_slice (e := 9) (by kernel_rfl) h0
    rfl
  have hc1 : v1.cells.toList = [v1] := by
    obtain ⟨a, n, c, rfl⟩ := okWide_slice (e := 9) (by kernel_rfl) h1
    rfl
  obtain ⟨fuel, t0⟩ := t0
  obtain ⟨fuel1, t1⟩ := t1
  rw [hc0] at t0
  rw [hc1] at t1
  obtain ⟨v, a, l, c, s, x, z1, z2, _, z3, z4, z5, z6⟩ := strs_block 1 (e := 9) (by kernel_rfl) (by kernel_rfl) (by kernel_rfl) t0
  obtain ⟨v', a', l', c', s', x', y1, y2, _, y3, y4, y5, y6⟩ := strs_block 2 (e := 9) (by kernel_rfl) (by kernel_rfl) (by kernel_rfl) t1
  cases z1
  cases y1
  exact doorY_wf sp16_ok (args := [.slice a l.length c, .slice a' l'.length c']) (args' := [_, _]) (X := x) (Y := x') (s := s) (u := s') w1 w2 w3 z5 z6 y5 y6 (names_walk (X := x) (Y := x') ⟨a, c, rfl, z3⟩ ⟨a', c', rfl, y3⟩ fun _ => rfl) (.cons _ _ _ _ (z4 _ rfl) (.cons _ _ _ _ (y4 _ rfl) .nil))

set_option maxRecDepth 100000 in
theorem dirNames_lifted (os : Os) (started : os.Started) (H : Type) (enc : TypeId × Value → H) :
    ReturnsInHanded {} Tryd.checked os 11 .any (fun w args => (Rows.dirNamesSpec.pre enc Tryd.prog Tryd.f11 Rows.dirNamesRow.domain false w args ∧ laidMetH Tryd.prog Rows.dirNamesRow.laid w) ∧ sizedMet enc Tryd.prog Tryd.f11 (OpenSpec.ofChange Rows.dirNamesSpec) false w args)
      (Rows.dirNamesSpec.post enc Tryd.prog Tryd.f11 false true false false) := by
  refine returnsInHanded_of_change_and (C := Tryd.checked) (X := fun w _ => laidMetH Tryd.prog Rows.dirNamesRow.laid w) (fun _ _ _ hh h => h.of_heap hh) Tryd.own started (by kernel_rfl) Tryd.func11
    (ChangeSpec.witness_shaped (enc := enc) (C := Tryd.checked) (os := os) (X := fun w _ => laidMetH Tryd.prog Rows.dirNamesRow.laid w) false (World.laidAll Tryd.prog os Rows.dirNamesRow.laid) #[.slice none 0 0, .slice none 0 0] 8 (World.laidAll_os _ _ _)
      (World.shaped_of_ZipB (by kernel_rfl) (by kernel_rfl)) (by kernel_rfl) (by kernel_rfl) (by kernel_rfl)
      (by rw [MakeChecks.laidMetH_plain _ _ _ (by kernel_rfl)]; exact laidMet_laidAll _ (by kernel_rfl) (by kernel_rfl))) ?_
  intro W base args ds gs before hval0 hW hcnd _ hL _
  have hval : ∀ (j : Nat) t v, Tryd.f11.params[j]? = some t → args[j]? = some v → Value.okWide Tryd.prog W .any base t v := hval0
  have hW' := hW
  obtain ⟨p, q, hA0, hV, rfl, hfz, hnd⟩ := hW
  have hA1 : DataW.TrodAll enc Tryd.prog W 0 (fun _ => true) true Tryd.f11.params.toList args.toList ds p := hA0
  have hA := hA1
  rw [Tryd.params11] at hA hval
  obtain ⟨v0, v1, d0, d1, p0, p1, rfl, rfl, rfl, h0, h1⟩ := trodAll_two hA
  obtain ⟨rfl, rfl⟩ := trodVars_none hV
  refine (dirNames_calls (hval 0 56 v0 rfl rfl) h0 (hval 1 56 v1 rfl rfl) h1 hL).mono fun e W' ⟨he, hw⟩ => ?_
  subst he
  simp only [List.append_nil] at hW' ⊢
  exact ⟨_, rfl, post_true (bt := 4) Tryd.kids Tryd.full (by rw [Tryd.params11]; decide) (by kernel_rfl) (by kernel_rfl) rfl rfl hW' hA1 rfl rfl rfl hw⟩

end Go.Proofs.YtmadjdgipfdnkaaDoor
end
section
/- DirNames: whatever the names, the law gives true. (Its card: the table of math/bits is as the program's text lays it.) -/
namespace Go.Proofs.YtmadjdgipfdnkaaDoor
open Go.ChangeShapes Go.WideShapes Go.ChangeAt Go.RowKit Go.AM
theorem dirNames_inPlace : (Rows.dirNamesRow.inPlace == Tryd.prog.inPlace 11) = true := by kernel_rfl
theorem dirNames_unfollowed : (Rows.dirNamesRow.unfollowed == Tryd.prog.unfollowed 11) = true := by kernel_rfl
theorem dirNames_recurses : (Rows.dirNamesRow.recurses == Tryd.prog.recurses 11) = true := by kernel_rfl
theorem dirNames_named : (Rows.dirNamesRow.named == Tryd.prog.varsNamed 11) = true := by kernel_rfl
theorem dirNames_joined : joinedFacts Tryd.prog 11 Tryd.f11 Rows.dirNamesSpec Rows.dirNamesRow = true := by
  simp only [joinedFacts, Bool.and_eq_true]
  exact ⟨⟨⟨⟨⟨⟨⟨⟨⟨⟨⟨⟨⟨⟨⟨⟨⟨⟨⟨⟨⟨⟨⟨⟨⟨⟨⟨⟨⟨⟨⟨by kernel_rfl, Tryd.laidOut⟩, Tryd.mapsRowed⟩, by kernel_rfl⟩, by kernel_rfl⟩, by kernel_rfl⟩, by kernel_rfl⟩, by kernel_rfl⟩, by kernel_rfl⟩, dirNames_inPlace⟩, dirNames_unfollowed⟩, dirNames_recurses⟩, dirNames_named⟩, by kernel_rfl⟩, by kernel_rfl⟩, by kernel_rfl⟩, by kernel_rfl⟩, by kernel_rfl⟩, by kernel_rfl⟩, by kernel_rfl⟩, by kernel_rfl⟩, by kernel_rfl⟩, Tryd.plainKeys⟩, by kernel_rfl⟩, Tryd.stopsHeard⟩, Tryd.mayEnter⟩, Tryd.lifted⟩, Tryd.make⟩, by kernel_rfl⟩, by kernel_rfl⟩, by kernel_rfl⟩, by kernel_rfl⟩
theorem dirNames_holds : Rows.DirNamesSaid :=
  OpenClaim.holds_of_wide 11 Tryd.f11 rfl rfl rfl rfl rfl rfl rfl ⟨rfl, rfl, rfl, rfl, rfl⟩ rfl rfl rfl rfl rfl (by kernel_rfl) Tryd.func11 dirNames_joined
    (of_decide_eq_true (by kernel_rfl)) (by unfold Func.isWrapper; first | (rw [if_pos (by decide +kernel)]; kernel_rfl) | (rw [if_neg (by decide +kernel)]; exact ⟨rfl, rfl⟩))
    (fun os started H enc _ => dirNames_lifted os started H enc)
end Go.Proofs.YtmadjdgipfdnkaaDoor
end
