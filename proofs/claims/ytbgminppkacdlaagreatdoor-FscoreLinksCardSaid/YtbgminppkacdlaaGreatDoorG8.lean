/- Lemmas of the claim: the machine of the proof and the walks of the program. Conditions: as each says. -/
import Derived.Test.YtbgminppkacdlaaGreatDoorG7
import Derived.Test.YtbgminppkacdlaaGreatDoorG5
section
/- Inodes: Read. Conditions: the disk lies as the rule names. -/
namespace Go.Proofs.YtbgminppkacdlaaGreatDoor
open Go.AM
open Nat renaming reduceBEq → Za, reduceEqDiff → Zb, reduceAdd → Zc, reduceSub → Zd, reduceMul → Ze, reduceLT → Zf, reduceLeDiff → Zg, reduceDiv → Zh, reduceMod → Zi, reducePow → Zj
open Int renaming reduceAdd → Zk, reduceSub → Zl, reduceMul → Zm, reduceLT → Zn, reduceLE → Zo, reduceEq → Zp, reduceNe → Zq, reduceNeg → Zr, reduceToNat → Zs, reduceDiv → Zt, reduceMod → Zu, reducePow → Zv, cast_ofNat_Int → Zw
set_option linter.unusedSimpArgs false
variable {sp : Special} {h : Heap} {R : Out → Heap → Prop} {bd bl : Nat} {s : FS}
def FS.byteAt (s : FS) (i p : Nat) : UInt8 := UInt8.ofNat (s.dat (s.ino i (3 + p / 32)).toNat (p % 32)).toNat
def FS.text (s : FS) (i o e : Nat) : List UInt8 := (List.range (e - o)).map fun j => s.byteAt i (o + j)
theorem text_len {i o e : Nat} : (s.text i o e).length = e - o := by unfold FS.text; simp
theorem text_nil {i o e : Nat} (h : e ≤ o) : s.text i o e = [] := by unfold FS.text; rw [show e - o = 0 by omega]; rfl
theorem text_succ {i o p : Nat} (h : o ≤ p) : s.text i o (p + 1) = s.text i o p ++ [s.byteAt i p] := by
  unfold FS.text
  rw [show p + 1 - o = p - o + 1 by omega, List.range_succ, List.map_append]
  congr 1
  show [s.byteAt i (o + (p - o))] = _
  rw [show o + (p - o) = p by omega]
def endR (z o m : Nat) : Nat := if (m : Int) < (z : Int) - (o : Int) then o + m else z
theorem wrap8 {v : Int} (h0 : 0 ≤ v) : wrapF .u8 v = ((UInt8.ofNat v.toNat).toNat : Int) := by
  rw [wrapF_eq]
  unfold IntKind.wrap IntKind.signed IntKind.bits
  simp only [Bool.false_and, Bool.false_eq_true, if_false]
  rw [UInt8.toNat_ofNat']
  show v % 256 = ((v.toNat % 256 : Nat) : Int)
  omega
theorem figet_any (pl : Plain sp) (f : Fs h bd bl s) {i : Int}
    (hno : ¬ (0 ≤ i ∧ i < 32) → ∀ h', Fs h' bd bl s → h.nx ≤ h'.nx → (∀ b', b' < h.nx → b' ≠ bd → h'.get b' = h.get b') → R (.ret (.tuple #[.agg (i64s (row9 fun _ => 0)).toArray, .int .i64 101])) h')
    (hok : ∀ k : Nat, i = k → k < 32 → ∀ h', Fs h' bd bl s → h.nx ≤ h'.nx → (∀ b', b' < h.nx → b' ≠ bd → h'.get b' = h.get b') → R (.ret (.tuple #[.agg (i64s (row9 (s.ino k))).toArray, .int .i64 0])) h') :
    WF Tryz.prog 2 sp 16 [.iface 22 (.pointer (some ⟨bd, 0, none⟩)), .int .i64 i] h R := by
  by_cases hi : 0 ≤ i ∧ i < 32
  · obtain ⟨k, rfl⟩ : ∃ k : Nat, i = k := ⟨i.toNat, by omega⟩
    exact figet_spec pl f (by omega) fun h' n' f' k' => hok k rfl (by omega) h' f' n' k'
  · exact iget_none pl.p18 pl.p43 hi fun h' n' k' => hno hi h' (f.keep n' (k' _ f.d.bd_lt) (k' _ f.d.bl_lt)) n' fun b' h1 _ => k' b' h1
set_option maxRecDepth 100000 in
set_option maxHeartbeats 1000000 in
theorem fread_spec (pl : Plain sp) (f : Fs h bd bl s) {i off n : Int} (ho : ∀ k : Nat, i = k → k < 32 → s.Ino k) (hob : -9223372036854775808 ≤ off ∧ off < 9223372036854775808) (hnb : -9223372036854775808 ≤ n ∧ n < 9223372036854775808)
    (hbad : ¬ (0 ≤ i ∧ i < 32) ∨ off < 0 ∨ n < 0 → ∀ h', Fs h' bd bl s → h.nx ≤ h'.nx → (∀ b', b' < h.nx → b' ≠ bd → h'.get b' = h.get b') → R (.ret (.tuple #[.string (mkS []), .int .i64 101])) h')
    (hok : ∀ k o m : Nat, i = k → k < 32 → off = o → n = m → ∀ h', Fs h' bd bl s → h.nx ≤ h'.nx → (∀ b', b' < h.nx → b' ≠ bd → h'.get b' = h.get b') → R (.ret (.tuple #[.string (mkS (s.text k o (endR (s.size k) o m))), .int .i64 0])) h') :
    WF Tryz.prog 2 sp 17 [.iface 22 (.pointer (some ⟨bd, 0, none⟩)), .int .i64 i, .int .i64 off, .int .i64 n] h R := by
  refine wf_fn (fn := Tryz.f17) pl.p16 rfl (by kernel_rfl) rfl ?_
  have n1 := f.wf.n1
  have n2 := f.wf.n2
  have q1 := f.d.bd_lt
  have q2 := f.d.bl_lt
  simp only [Tryz.f17]
  generalize hlab : Code.label 0 = c0
  simp only [↓reduceIte, reduceCtorEq, Za, Zb, Zc, Zd, Ze, Zf, Zg, Zh, Zi, Zj, Zk, Zl, Zm, Zn, Zo, Zp, Zq, Zr, Zs, Zt, Zu, Zv, gval, Zw, rb0, rb1, rb2, rb3, rb4, tf0, tf1, tf2, tf3, Yk]
  refine runC_of (figet_any pl f (fun hi h1 f1 m1 k1 => ?_) fun k e hk h1 f1 m1 k1 => ?_)
  · have hwl : (i64s (row9 fun _ => 0)).length = 9 := by rw [List.length_map, row9_len]
    simp (disch := (first | omega | rfl | (simp only [Yn]; omega))) only [↓reduceIte, reduceCtorEq, Za, Zb, Zc, Zd, Ze, Zf, Zg, Zh, Zi, Zj, Zk, Zl, Zm, Zn, Zo, Zp, Zq, Zr, Zs, Zt, Zu, Zv, gval, Zw, rb0, rb1, rb2, rb3, rb4, tf0, tf1, tf2, tf3, Yk, Yh, overL_one, if_pos, stX_exactN, hwl]
    rw [overL_nine rfl hwl, Heap.upd_new]
    simp (disch := (first | omega | rfl | (simp only [Yn]; omega))) only [↓reduceIte, reduceCtorEq, Za, Zb, Zc, Zd, Ze, Zf, Zg, Zh, Zi, Zj, Zk, Zl, Zm, Zn, Zo, Zp, Zq, Zr, Zs, Zt, Zu, Zv, gval, Zw, rb0, rb1, rb2, rb3, rb4, tf0, tf1, tf2, tf3, Yk, Yh, overL_one, if_pos, stX_exactN, show ((101 : Int) == 0) = false from rfl, runG_undef]
    exact hbad (.inl hi) _ (f1.keep (by rw [Heap.nx_new]; omega) (by rw [Heap.get_new_ne _ _ (by omega)]) (by rw [Heap.get_new_ne _ _ (by omega)])) (by rw [Heap.nx_new]; omega) fun b' w1 w2 => by rw [Heap.get_new_ne _ _ (by omega)]; exact k1 b' w1 w2
  · subst e
    have hwl : (i64s (row9 (s.ino k))).length = 9 := by rw [List.length_map, row9_len]
    simp (disch := (first | omega | rfl | (simp only [Yn]; omega))) only [↓reduceIte, reduceCtorEq, Za, Zb, Zc, Zd, Ze, Zf, Zg, Zh, Zi, Zj, Zk, Zl, Zm, Zn, Zo, Zp, Zq, Zr, Zs, Zt, Zu, Zv, gval, Zw, rb0, rb1, rb2, rb3, rb4, tf0, tf1, tf2, tf3, Yk, Yh, overL_one, if_pos, stX_exactN, hwl]
    rw [overL_nine rfl hwl, Heap.upd_new]
    obtain ⟨h2, hh2⟩ : ∃ h2, h1.new (cellsB (i64s (row9 (s.ino k))) .exact) = h2 := ⟨_, rfl⟩
    have n2' : h2.nx = h1.nx + 1 := by rw [← hh2, Heap.nx_new]
    have g2 : h2.get h1.nx = some (cellsB (i64s (row9 (s.ino k))) .exact) := by rw [← hh2, Heap.get_new_same]
    have k2 : ∀ b', b' < h1.nx → h2.get b' = h1.get b' := fun b' hb' => by rw [← hh2, Heap.get_new_ne _ _ (by omega)]
    have f2 : Fs h2 bd bl s := f1.keep (by omega) (k2 _ (by omega)) (k2 _ (by omega))
    rw [hh2]
    have k12 : ∀ b', b' < h.nx → b' ≠ bd → h2.get b' = h.get b' := fun b' w1 w2 => by rw [k2 _ (by omega)]; exact k1 b' w1 w2
    have hok2 := ho k rfl hk
    by_cases c1 : off < 0
    · simp (disch := (first | omega | rfl | (simp only [Yn]; omega))) only [↓reduceIte, reduceCtorEq, Za, Zb, Zc, Zd, Ze, Zf, Zg, Zh, Zi, Zj, Zk, Zl, Zm, Zn, Zo, Zp, Zq, Zr, Zs, Zt, Zu, Zv, gval, Zw, rb0, rb1, rb2, rb3, rb4, tf0, tf1, tf2, tf3, Yk, Yh, overL_one, if_pos, stX_exactN, c1, show ((0 : Int) == 0) = true from rfl, runG_undef]
      exact hbad (.inr (.inl c1)) h2 f2 (by omega) k12
    by_cases c2 : n < 0
    · simp (disch := (first | omega | rfl | (simp only [Yn]; omega))) only [↓reduceIte, reduceCtorEq, Za, Zb, Zc, Zd, Ze, Zf, Zg, Zh, Zi, Zj, Zk, Zl, Zm, Zn, Zo, Zp, Zq, Zr, Zs, Zt, Zu, Zv, gval, Zw, rb0, rb1, rb2, rb3, rb4, tf0, tf1, tf2, tf3, Yk, Yh, overL_one, if_pos, stX_exactN, c1, c2, show ((0 : Int) == 0) = true from rfl]
      exact hbad (.inr (.inr c2)) h2 f2 (by omega) k12
    obtain ⟨o, rfl⟩ : ∃ o : Nat, off = o := ⟨off.toNat, by omega⟩
    obtain ⟨m, rfl⟩ : ∃ m : Nat, n = m := ⟨n.toNat, by omega⟩
    have hs0 : s.ino k 2 = (s.size k : Int) := by unfold FS.size; have := (f.wf.ino k 2).1; omega
    have hcur : s.size k ≤ 192 := by have := hok2.sz; omega
    have lx : ∀ x : Nat → Int, (i64s (row9 x)).length = 9 := fun x => by rw [List.length_map, row9_len]
    have x2 : (i64s (row9 (s.ino k)))[2]? = some (.int .i64 (s.size k : Int)) := by rw [List.getElem?_map, row9_get (by omega), ← hs0]; rfl
    have wsub : wrapF .i64 ((s.size k : Int) - (o : Int)) = (s.size k : Int) - (o : Int) := wrapI (by omega) (by omega)
    obtain ⟨E, hE⟩ : ∃ E, endR (s.size k) o m = E := ⟨_, rfl⟩
    have hEl : o ≤ E → E ≤ s.size k := fun q => by rw [← hE] at q ⊢; unfold endR at q ⊢; split <;> omega
    by_cases c3 : (m : Int) < (s.size k : Int) - (o : Int)
    · have hEE : E = o + m := by rw [← hE]; unfold endR; rw [if_pos c3]
      have wadd : wrapF .i64 ((o : Int) + (m : Int)) = ((E : Nat) : Int) := by rw [wrapI (by omega) (by omega)]; omega
      simp (disch := (first | omega | rfl | (simp only [Yn]; omega))) only [↓reduceIte, reduceCtorEq, Za, Zb, Zc, Zd, Ze, Zf, Zg, Zh, Zi, Zj, Zk, Zl, Zm, Zn, Zo, Zp, Zq, Zr, Zs, Zt, Zu, Zv, gval, Zw, rb0, rb1, rb2, rb3, rb4, tf0, tf1, tf2, tf3, Yk, Yh, overL_one, if_pos, stX_exactN, c1, c2, show ((0 : Int) == 0) = true from rfl, g2, x2, lx, wsub, c3, wadd]
      subst hlab
      rw [run_label, ← run_skip, ← run_seq]
      refine run_scope2 (l := 0) (by kernel_rfl) (fun N e h' => ∃ (p : Nat) (v : Value), N = E - p ∧ o ≤ p ∧ (p ≤ E ∨ p = o) ∧ e.at 0 = .iface 22 (.pointer (some ⟨bd, 0, none⟩)) ∧ e.at 10 = .pointer (some ⟨h1.nx, 0, none⟩) ∧ e.at 12 = v ∧ e.at 13 = .int .i64 E ∧ e.at 14 = .int .i64 p ∧ BAt h' h2.nx v (s.text k o p) ∧ Fs h' bd bl s ∧ h'.get h1.nx = some (cellsB (i64s (row9 (s.ino k))) .exact) ∧ h2.nx ≤ h'.nx ∧ ∀ b', b' < h.nx → b' ≠ bd → h'.get b' = h.get b')
        (fun ex e h' => ex = .ret ∧ e.at 8 = .string (mkS (s.text k o E)) ∧ e.at 9 = .int .i64 0 ∧ Fs h' bd bl s ∧ h2.nx ≤ h'.nx ∧ ∀ b', b' < h.nx → b' ≠ bd → h'.get b' = h.get b') ?_ (E - o) _ _ ?_ ?_
      · rintro N e h3 ⟨p, v, rfl, hop, hpE, e0, e10, e12, e13, e14, hv, f3, g3, hn3, hk3⟩ Q' hQn hQx
        by_cases hc : p < E
        · have hEs := hEl (by omega)
          have c5 : ¬ (E : Int) ≤ (p : Int) := by omega
          have hq : (p : Int).tdiv 32 = ((p / 32 : Nat) : Int) := by rw [Int.tdiv_eq_ediv_of_nonneg (by omega)]; omega
          have hm : (p : Int).tmod 32 = ((p % 32 : Nat) : Int) := by rw [Int.tmod_eq_emod_of_nonneg (by omega)]; omega
          have wq : wrapF .i64 ((p / 32 : Nat) : Int) = ((p / 32 : Nat) : Int) := wrapI (by omega) (by omega)
          have wm : wrapF .i64 ((p % 32 : Nat) : Int) = ((p % 32 : Nat) : Int) := wrapI (by omega) (by omega)
          have hj : 3 + p / 32 < 9 := by omega
          have hj6 : p / 32 < 6 := by omega
          have hbl := hok2.bl (p / 32) (by unfold needN; omega)
          obtain ⟨bk, hbk⟩ : ∃ bk : Nat, s.ino k (3 + p / 32) = bk := ⟨(s.ino k (3 + p / 32)).toNat, by omega⟩
          rw [hbk] at hbl
          have gx : (i64s (row9 (s.ino k)))[3 + p / 32]? = some (.int .i64 (bk : Int)) := by rw [List.getElem?_map, row9_get hj, hbk]; rfl
          simp (disch := (first | omega | rfl | (simp only [Yn]; omega))) only [↓reduceIte, reduceCtorEq, Za, Zb, Zc, Zd, Ze, Zf, Zg, Zh, Zi, Zj, Zk, Zl, Zm, Zn, Zo, Zp, Zq, Zr, Zs, Zt, Zu, Zv, gval, Zw, rb0, rb1, rb2, rb3, rb4, tf0, tf1, tf2, tf3, Yk, Yh, overL_one, if_pos, stX_exactN, e0, e10, e12, e13, e14, c5, hq, wq, g3, lx, hj, gx, Nat.mul_one]
          refine runC_of (fget_spec pl f3 (b := bk) (by omega) fun h4 n4 g4 f4 k4 => ?_)
          have hrow : rowD s.D bk = (List.range 32).map (s.dat bk) := by
            unfold rowD
            refine List.map_congr_left fun t _ => ?_
            unfold FS.D
            rw [if_neg (by omega), if_neg (by omega)]
          rw [hrow] at g4
          have hl32 : (u64s ((List.range 32).map (s.dat bk))).length = 32 := by simp
          simp (disch := (first | omega | rfl | (simp only [Yn]; omega))) only [↓reduceIte, reduceCtorEq, Za, Zb, Zc, Zd, Ze, Zf, Zg, Zh, Zi, Zj, Zk, Zl, Zm, Zn, Zo, Zp, Zq, Zr, Zs, Zt, Zu, Zv, gval, Zw, rb0, rb1, rb2, rb3, rb4, tf0, tf1, tf2, tf3, Yk, Yh, overL_one, if_pos, stX_exactN, hm, wm, e14, show ((0 : Int) == 0) = true from rfl]
          have v4 : BAt h4 h2.nx v (s.text k o p) := hv.keep (by omega) fun b' w1 w2 => k4 _ w2 (by omega)
          refine run_loop2 rfl (fun N e h' => ∃ (t p' : Nat) (v : Value), N = 32 - t ∧ t ≤ 32 ∧ p % 32 ≤ t ∧ p' + p % 32 = p + t ∧ p' ≤ E ∧ e.at 0 = .iface 22 (.pointer (some ⟨bd, 0, none⟩)) ∧ e.at 10 = .pointer (some ⟨h1.nx, 0, none⟩) ∧ e.at 12 = v ∧ e.at 13 = .int .i64 E ∧ e.at 14 = .int .i64 p' ∧ e.at 15 = .slice (some ⟨h3.nx, 0, none⟩) 32 32 ∧ e.at 16 = .int .i64 t ∧ BAt h' h2.nx v (s.text k o p') ∧ (∀ b', b' < h2.nx → h'.get b' = h4.get b') ∧ h'.get h3.nx = some (cellsB (u64s ((List.range 32).map (s.dat bk))) (.loose 1)) ∧ h4.nx ≤ h'.nx)
            (fun ex e h' => ex = .exit 0 ∧ ∃ (p' : Nat) (v : Value), p < p' ∧ p' ≤ E ∧ e.at 0 = .iface 22 (.pointer (some ⟨bd, 0, none⟩)) ∧ e.at 10 = .pointer (some ⟨h1.nx, 0, none⟩) ∧ e.at 12 = v ∧ e.at 13 = .int .i64 E ∧ e.at 14 = .int .i64 p' ∧ BAt h' h2.nx v (s.text k o p') ∧ (∀ b', b' < h2.nx → h'.get b' = h4.get b') ∧ h4.nx ≤ h'.nx) ?_ (32 - p % 32) _ _ ?_ ?_
          · rintro N e h5 ⟨t, p', v, rfl, ht, hpt, hpp, hpE', i0, i10, i12, i13, i14, i15, i16, hv5, hk5, g5, hn5⟩ Q2 hQn2 hQx2
            by_cases d1 : t < 32
            · have d1' : (t : Int) < 32 := by omega
              by_cases d2 : p' < E
              · have d2' : (p' : Int) < (E : Int) := by omega
                have wt : (u64s ((List.range 32).map (s.dat bk)))[t]? = some (.int .u64 (s.dat bk t)) := by rw [List.getElem?_map, List.getElem?_map, List.getElem?_range d1]; rfl
                have hby : s.byteAt k p' = UInt8.ofNat (s.dat bk t).toNat := by
                  unfold FS.byteAt
                  rw [show p' / 32 = p / 32 by omega, hbk, Int.toNat_natCast, show p' % 32 = t by omega]
                have w8 : wrapF .u8 (s.dat bk t) = ((s.byteAt k p').toNat : Int) := by rw [hby]; exact wrap8 (f.wf.dat bk t).1
                obtain ⟨Ef, h6, vw, a1, a2, a3, a4, a5, a6, a7⟩ := growB hv5 (by omega) (s.byteAt k p') (by rw [text_len]; omega)
                have wp1 : wrapF .i64 ((p' : Int) + 1) = ((p' + 1 : Nat) : Int) := by rw [wrapI (by omega) (by omega)]; omega
                have wt1 : wrapF .i64 ((t : Int) + 1) = ((t + 1 : Nat) : Int) := by rw [wrapI (by omega) (by omega)]; omega
                simp (disch := (first | omega | rfl | (simp only [Yn]; omega))) only [↓reduceIte, reduceCtorEq, Za, Zb, Zc, Zd, Ze, Zf, Zg, Zh, Zi, Zj, Zk, Zl, Zm, Zn, Zo, Zp, Zq, Zr, Zs, Zt, Zu, Zv, gval, Zw, rb0, rb1, rb2, rb3, rb4, tf0, tf1, tf2, tf3, Yk, Yh, overL_one, if_pos, stX_exactN, i12, i13, i14, i15, i16, d1', d2', g5, wt, hl32, w8, bs1_34, a1, a2, a3, wp1, wt1, Nat.mul_one, Nat.zero_add]
                refine hQn2 _ _ _ (by omega) ⟨t + 1, p' + 1, vw, rfl, by omega, by omega, by omega, by omega, by simp only [Za, Zw, Ye, i0], by simp only [Za, Zw, Ye, i10], by simp only [Za, Zw, Ye], by simp only [Za, Zw, Ye, i13], by simp only [Za, Zw, Ye], by simp only [Za, Zw, Ye, i15], by simp only [Za, Zw, Ye], ?_, fun b' hb' => by rw [a6 _ hb']; exact hk5 b' hb', ?_, by omega⟩
                · rw [text_succ (by omega)]; exact a4
                · rw [a7 h3.nx (by omega) (fun L e => by rw [g5] at e; unfold cellsB at e; injection e with e; injection e with _ _ e; cases e)]; exact g5
              · have d2' : ¬ (p' : Int) < (E : Int) := by omega
                simp (disch := (first | omega | rfl | (simp only [Yn]; omega))) only [↓reduceIte, reduceCtorEq, Za, Zb, Zc, Zd, Ze, Zf, Zg, Zh, Zi, Zj, Zk, Zl, Zm, Zn, Zo, Zp, Zq, Zr, Zs, Zt, Zu, Zv, gval, Zw, rb0, rb1, rb2, rb3, rb4, tf0, tf1, tf2, tf3, Yk, Yh, overL_one, if_pos, stX_exactN, i13, i14, i16, d1', d2']
                exact hQx2 _ _ _ (by simp) ⟨rfl, p', v, by omega, hpE', by simp only [Za, Zw, Ye, i0], by simp only [Za, Zw, Ye, i10], by simp only [Za, Zw, Ye, i12], by simp only [Za, Zw, Ye, i13], by simp only [Za, Zw, Ye, i14], hv5, hk5, hn5⟩
            · have d1' : ¬ (t : Int) < 32 := by omega
              simp (disch := (first | omega | rfl | (simp only [Yn]; omega))) only [↓reduceIte, reduceCtorEq, Za, Zb, Zc, Zd, Ze, Zf, Zg, Zh, Zi, Zj, Zk, Zl, Zm, Zn, Zo, Zp, Zq, Zr, Zs, Zt, Zu, Zv, gval, Zw, rb0, rb1, rb2, rb3, rb4, tf0, tf1, tf2, tf3, Yk, Yh, overL_one, if_pos, stX_exactN, i13, i14, i16, d1', runG_undef]
              exact hQx2 _ _ _ (by simp) ⟨rfl, p', v, by omega, hpE', by simp only [Za, Zw, Ye, i0], by simp only [Za, Zw, Ye, i10], by simp only [Za, Zw, Ye, i12], by simp only [Za, Zw, Ye, i13], by simp only [Za, Zw, Ye, i14], hv5, hk5, hn5⟩
          · exact ⟨p % 32, p, v, rfl, by omega, by omega, by omega, by omega, by simp only [Za, Zw, Ye, e0], by simp only [Za, Zw, Ye, e10], by simp only [Za, Zw, Ye, e12], by simp only [Za, Zw, Ye, e13], by simp only [Za, Zw, Ye, e14], by simp only [Za, Zw, Ye], by simp only [Za, Zw, Ye], v4, fun _ _ => rfl, g4, Nat.le_refl _⟩
          · rintro ex e h5 - ⟨rfl, p', v, hp1, hp2, i0, i10, i12, i13, i14, hv5, hk5, hn5⟩
            simp only [↓reduceIte, reduceCtorEq, Za, Zb, Zc, Zd, Ze, Zf, Zg, Zh, Zi, Zj, Zk, Zl, Zm, Zn, Zo, Zp, Zq, Zr, Zs, Zt, Zu, Zv, gval, Zw, rb0, rb1, rb2, rb3, rb4, tf0, tf1, tf2, tf3, Yk]
            refine hQn _ _ _ (by omega) ⟨p', v, rfl, by omega, .inl hp2, i0, i10, i12, i13, i14, hv5, f4.keep hn5 (hk5 _ (by omega)) (hk5 _ (by omega)), ?_, by omega, fun b' w1 w2 => ?_⟩
            · rw [hk5 _ (by omega), k4 _ (by omega) (by omega)]; exact g3
            · rw [hk5 _ (by omega), k4 _ (by omega) w2]; exact hk3 b' w1 w2
        · have c5 : (E : Int) ≤ (p : Int) := by omega
          have htx : s.text k o p = s.text k o E := by
            rcases hpE with q | q
            · rw [show p = E by omega]
            · rw [text_nil (by omega), text_nil (by omega)]
          have hcv := conv_bytes hv
          rw [htx] at hcv
          simp (disch := (first | omega | rfl | (simp only [Yn]; omega))) only [↓reduceIte, reduceCtorEq, Za, Zb, Zc, Zd, Ze, Zf, Zg, Zh, Zi, Zj, Zk, Zl, Zm, Zn, Zo, Zp, Zq, Zr, Zs, Zt, Zu, Zv, gval, Zw, rb0, rb1, rb2, rb3, rb4, tf0, tf1, tf2, tf3, Yk, Yh, overL_one, if_pos, stX_exactN, e0, e10, e12, e13, e14, c5, hcv]
          exact hQx _ _ _ (fun l => by simp) ⟨rfl, by simp only [Za, Zw, Ye], by simp only [Za, Zw, Ye], f3, hn3, hk3⟩
      · exact ⟨o, _, rfl, Nat.le_refl _, .inr rfl, by simp only [Za, Zw, Ye], by simp only [Za, Zw, Ye], by simp only [Za, Zw, Ye], by simp only [Za, Zw, Ye]; try rw [hEE], by simp only [Za, Zw, Ye], ⟨.inl ⟨rfl, text_nil (Nat.le_refl _)⟩⟩, f2, g2, Nat.le_refl _, k12⟩
      · rintro ex e h3 - ⟨rfl, e8, e9, f3, hn3, hk3⟩
        simp only [↓reduceIte, reduceCtorEq, Za, Zb, Zc, Zd, Ze, Zf, Zg, Zh, Zi, Zj, Zk, Zl, Zm, Zn, Zo, Zp, Zq, Zr, Zs, Zt, Zu, Zv, gval, Zw, rb0, rb1, rb2, rb3, rb4, tf0, tf1, tf2, tf3, Yk, e8, e9]
        rw [← hE]
        exact hok k o m rfl hk rfl rfl h3 f3 (by omega) hk3
    · have hEE : E = s.size k := by rw [← hE]; unfold endR; rw [if_neg c3]
      simp (disch := (first | omega | rfl | (simp only [Yn]; omega))) only [↓reduceIte, reduceCtorEq, Za, Zb, Zc, Zd, Ze, Zf, Zg, Zh, Zi, Zj, Zk, Zl, Zm, Zn, Zo, Zp, Zq, Zr, Zs, Zt, Zu, Zv, gval, Zw, rb0, rb1, rb2, rb3, rb4, tf0, tf1, tf2, tf3, Yk, Yh, overL_one, if_pos, stX_exactN, c1, c2, show ((0 : Int) == 0) = true from rfl, g2, x2, lx, wsub, c3]
      subst hlab
      rw [run_label, ← run_skip, ← run_seq]
      refine run_scope2 (l := 0) (by kernel_rfl) (fun N e h' => ∃ (p : Nat) (v : Value), N = E - p ∧ o ≤ p ∧ (p ≤ E ∨ p = o) ∧ e.at 0 = .iface 22 (.pointer (some ⟨bd, 0, none⟩)) ∧ e.at 10 = .pointer (some ⟨h1.nx, 0, none⟩) ∧ e.at 12 = v ∧ e.at 13 = .int .i64 E ∧ e.at 14 = .int .i64 p ∧ BAt h' h2.nx v (s.text k o p) ∧ Fs h' bd bl s ∧ h'.get h1.nx = some (cellsB (i64s (row9 (s.ino k))) .exact) ∧ h2.nx ≤ h'.nx ∧ ∀ b', b' < h.nx → b' ≠ bd → h'.get b' = h.get b')
        (fun ex e h' => ex = .ret ∧ e.at 8 = .string (mkS (s.text k o E)) ∧ e.at 9 = .int .i64 0 ∧ Fs h' bd bl s ∧ h2.nx ≤ h'.nx ∧ ∀ b', b' < h.nx → b' ≠ bd → h'.get b' = h.get b') ?_ (E - o) _ _ ?_ ?_
      · rintro N e h3 ⟨p, v, rfl, hop, hpE, e0, e10, e12, e13, e14, hv, f3, g3, hn3, hk3⟩ Q' hQn hQx
        by_cases hc : p < E
        · have hEs := hEl (by omega)
          have c5 : ¬ (E : Int) ≤ (p : Int) := by omega
          have hq : (p : Int).tdiv 32 = ((p / 32 : Nat) : Int) := by rw [Int.tdiv_eq_ediv_of_nonneg (by omega)]; omega
          have hm : (p : Int).tmod 32 = ((p % 32 : Nat) : Int) := by rw [Int.tmod_eq_emod_of_nonneg (by omega)]; omega
          have wq : wrapF .i64 ((p / 32 : Nat) : Int) = ((p / 32 : Nat) : Int) := wrapI (by omega) (by omega)
          have wm : wrapF .i64 ((p % 32 : Nat) : Int) = ((p % 32 : Nat) : Int) := wrapI (by omega) (by omega)
          have hj : 3 + p / 32 < 9 := by omega
          have hj6 : p / 32 < 6 := by omega
          have hbl := hok2.bl (p / 32) (by unfold needN; omega)
          obtain ⟨bk, hbk⟩ : ∃ bk : Nat, s.ino k (3 + p / 32) = bk := ⟨(s.ino k (3 + p / 32)).toNat, by omega⟩
          rw [hbk] at hbl
          have gx : (i64s (row9 (s.ino k)))[3 + p / 32]? = some (.int .i64 (bk : Int)) := by rw [List.getElem?_map, row9_get hj, hbk]; rfl
          simp (disch := (first | omega | rfl | (simp only [Yn]; omega))) only [↓reduceIte, reduceCtorEq, Za, Zb, Zc, Zd, Ze, Zf, Zg, Zh, Zi, Zj, Zk, Zl, Zm, Zn, Zo, Zp, Zq, Zr, Zs, Zt, Zu, Zv, gval, Zw, rb0, rb1, rb2, rb3, rb4, tf0, tf1, tf2, tf3, Yk, Yh, overL_one, if_pos, stX_exactN, e0, e10, e12, e13, e14, c5, hq, wq, g3, lx, hj, gx, Nat.mul_one]
          refine runC_of (fget_spec pl f3 (b := bk) (by omega) fun h4 n4 g4 f4 k4 => ?_)
          have hrow : rowD s.D bk = (List.range 32).map (s.dat bk) := by
            unfold rowD
            refine List.map_congr_left fun t _ => ?_
            unfold FS.D
            rw [if_neg (by omega), if_neg (by omega)]
          rw [hrow] at g4
          have hl32 : (u64s ((List.range 32).map (s.dat bk))).length = 32 := by simp
          simp (disch := (first | omega | rfl | (simp only [Yn]; omega))) only [↓reduceIte, reduceCtorEq, Za, Zb, Zc, Zd, Ze, Zf, Zg, Zh, Zi, Zj, Zk, Zl, Zm, Zn, Zo, Zp, Zq, Zr, Zs, Zt, Zu, Zv, gval, Zw, rb0, rb1, rb2, rb3, rb4, tf0, tf1, tf2, tf3, Yk, Yh, overL_one, if_pos, stX_exactN, hm, wm, e14, show ((0 : Int) == 0) = true from rfl]
          have v4 : BAt h4 h2.nx v (s.text k o p) := hv.keep (by omega) fun b' w1 w2 => k4 _ w2 (by omega)
          refine run_loop2 rfl (fun N e h' => ∃ (t p' : Nat) (v : Value), N = 32 - t ∧ t ≤ 32 ∧ p % 32 ≤ t ∧ p' + p % 32 = p + t ∧ p' ≤ E ∧ e.at 0 = .iface 22 (.pointer (some ⟨bd, 0, none⟩)) ∧ e.at 10 = .pointer (some ⟨h1.nx, 0, none⟩) ∧ e.at 12 = v ∧ e.at 13 = .int .i64 E ∧ e.at 14 = .int .i64 p' ∧ e.at 15 = .slice (some ⟨h3.nx, 0, none⟩) 32 32 ∧ e.at 16 = .int .i64 t ∧ BAt h' h2.nx v (s.text k o p') ∧ (∀ b', b' < h2.nx → h'.get b' = h4.get b') ∧ h'.get h3.nx = some (cellsB (u64s ((List.range 32).map (s.dat bk))) (.loose 1)) ∧ h4.nx ≤ h'.nx)
            (fun ex e h' => ex = .exit 0 ∧ ∃ (p' : Nat) (v : Value), p < p' ∧ p' ≤ E ∧ e.at 0 = .iface 22 (.pointer (some ⟨bd, 0, none⟩)) ∧ e.at 10 = .pointer (some ⟨h1.nx, 0, none⟩) ∧ e.at 12 = v ∧ e.at 13 = .int .i64 E ∧ e.at 14 = .int .i64 p' ∧ BAt h' h2.nx v (s.text k o p') ∧ (∀ b', b' < h2.nx → h'.get b' = h4.get b') ∧ h4.nx ≤ h'.nx) ?_ (32 - p % 32) _ _ ?_ ?_
          · rintro N e h5 ⟨t, p', v, rfl, ht, hpt, hpp, hpE', i0, i10, i12, i13, i14, i15, i16, hv5, hk5, g5, hn5⟩ Q2 hQn2 hQx2
            by_cases d1 : t < 32
            · have d1' : (t : Int) < 32 := by omega
              by_cases d2 : p' < E
              · have d2' : (p' : Int) < (E : Int) := by omega
                have wt : (u64s ((List.range 32).map (s.dat bk)))[t]? = some (.int .u64 (s.dat bk t)) := by rw [List.getElem?_map, List.getElem?_map, List.getElem?_range d1]; rfl
                have hby : s.byteAt k p' = UInt8.ofNat (s.dat bk t).toNat := by
                  unfold FS.byteAt
                  rw [show p' / 32 = p / 32 by omega, hbk, Int.toNat_natCast, show p' % 32 = t by omega]
                have w8 : wrapF .u8 (s.dat bk t) = ((s.byteAt k p').toNat : Int) := by rw [hby]; exact wrap8 (f.wf.dat bk t).1
                obtain ⟨Ef, h6, vw, a1, a2, a3, a4, a5, a6, a7⟩ := growB hv5 (by omega) (s.byteAt k p') (by rw [text_len]; omega)
                have wp1 : wrapF .i64 ((p' : Int) + 1) = ((p' + 1 : Nat) : Int) := by rw [wrapI (by omega) (by omega)]; omega
                have wt1 : wrapF .i64 ((t : Int) + 1) = ((t + 1 : Nat) : Int) := by rw [wrapI (by omega) (by omega)]; omega
                simp (disch := (first | omega | rfl | (simp only [Yn]; omega))) only [↓reduceIte, reduceCtorEq, Za, Zb, Zc, Zd, Ze, Zf, Zg, Zh, Zi, Zj, Zk, Zl, Zm, Zn, Zo, Zp, Zq, Zr, Zs, Zt, Zu, Zv, gval, Zw, rb0, rb1, rb2, rb3, rb4, tf0, tf1, tf2, tf3, Yk, Yh, overL_one, if_pos, stX_exactN, i12, i13, i14, i15, i16, d1', d2', g5, wt, hl32, w8, bs1_34, a1, a2, a3, wp1, wt1, Nat.mul_one, Nat.zero_add]
                refine hQn2 _ _ _ (by omega) ⟨t + 1, p' + 1, vw, rfl, by omega, by omega, by omega, by omega, by simp only [Za, Zw, Ye, i0], by simp only [Za, Zw, Ye, i10], by simp only [Za, Zw, Ye], by simp only [Za, Zw, Ye, i13], by simp only [Za, Zw, Ye], by simp only [Za, Zw, Ye, i15], by simp only [Za, Zw, Ye], ?_, fun b' hb' => by rw [a6 _ hb']; exact hk5 b' hb', ?_, by omega⟩
                · rw [text_succ (by omega)]; exact a4
                · rw [a7 h3.nx (by omega) (fun L e => by rw [g5] at e; unfold cellsB at e; injection e with e; injection e with _ _ e; cases e)]; exact g5
              · have d2' : ¬ (p' : Int) < (E : Int) := by omega
                simp (disch := (first | omega | rfl | (simp only [Yn]; omega))) only [↓reduceIte, reduceCtorEq, Za, Zb, Zc, Zd, Ze, Zf, Zg, Zh, Zi, Zj, Zk, Zl, Zm, Zn, Zo, Zp, Zq, Zr, Zs, Zt, Zu, Zv, gval, Zw, rb0, rb1, rb2, rb3, rb4, tf0, tf1, tf2, tf3, Yk, Yh, overL_one, if_pos, stX_exactN, i13, i14, i16, d1', d2']
                exact hQx2 _ _ _ (by simp) ⟨rfl, p', v, by omega, hpE', by simp only [Za, Zw, Ye, i0], by simp only [Za, Zw, Ye, i10], by simp only [Za, Zw, Ye, i12], by simp only [Za, Zw, Ye, i13], by simp only [Za, Zw, Ye, i14], hv5, hk5, hn5⟩
            · have d1' : ¬ (t : Int) < 32 := by omega
              simp (disch := (first | omega | rfl | (simp only [Yn]; omega))) only [↓reduceIte, reduceCtorEq, Za, Zb, Zc, Zd, Ze, Zf, Zg, Zh, Zi, Zj, Zk, Zl, Zm, Zn, Zo, Zp, Zq, Zr, Zs, Zt, Zu, Zv, gval, Zw, rb0, rb1, rb2, rb3, rb4, tf0, tf1, tf2, tf3, Yk, Yh, overL_one, if_pos, stX_exactN, i13, i14, i16, d1', runG_undef]
              exact hQx2 _ _ _ (by simp) ⟨rfl, p', v, by omega, hpE', by simp only [Za, Zw, Ye, i0], by simp only [Za, Zw, Ye, i10], by simp only [Za, Zw, Ye, i12], by simp only [Za, Zw, Ye, i13], by simp only [Za, Zw, Ye, i14], hv5, hk5, hn5⟩
          · exact ⟨p % 32, p, v, rfl, by omega, by omega, by omega, by omega, by simp only [Za, Zw, Ye, e0], by simp only [Za, Zw, Ye, e10], by simp only [Za, Zw, Ye, e12], by simp only [Za, Zw, Ye, e13], by simp only [Za, Zw, Ye, e14], by simp only [Za, Zw, Ye], by simp only [Za, Zw, Ye], v4, fun _ _ => rfl, g4, Nat.le_refl _⟩
          · rintro ex e h5 - ⟨rfl, p', v, hp1, hp2, i0, i10, i12, i13, i14, hv5, hk5, hn5⟩
            simp only [↓reduceIte, reduceCtorEq, Za, Zb, Zc, Zd, Ze, Zf, Zg, Zh, Zi, Zj, Zk, Zl, Zm, Zn, Zo, Zp, Zq, Zr, Zs, Zt, Zu, Zv, gval, Zw, rb0, rb1, rb2, rb3, rb4, tf0, tf1, tf2, tf3, Yk]
            refine hQn _ _ _ (by omega) ⟨p', v, rfl, by omega, .inl hp2, i0, i10, i12, i13, i14, hv5, f4.keep hn5 (hk5 _ (by omega)) (hk5 _ (by omega)), ?_, by omega, fun b' w1 w2 => ?_⟩
            · rw [hk5 _ (by omega), k4 _ (by omega) (by omega)]; exact g3
            · rw [hk5 _ (by omega), k4 _ (by omega) w2]; exact hk3 b' w1 w2
        · have c5 : (E : Int) ≤ (p : Int) := by omega
          have htx : s.text k o p = s.text k o E := by
            rcases hpE with q | q
            · rw [show p = E by omega]
            · rw [text_nil (by omega), text_nil (by omega)]
          have hcv := conv_bytes hv
          rw [htx] at hcv
          simp (disch := (first | omega | rfl | (simp only [Yn]; omega))) only [↓reduceIte, reduceCtorEq, Za, Zb, Zc, Zd, Ze, Zf, Zg, Zh, Zi, Zj, Zk, Zl, Zm, Zn, Zo, Zp, Zq, Zr, Zs, Zt, Zu, Zv, gval, Zw, rb0, rb1, rb2, rb3, rb4, tf0, tf1, tf2, tf3, Yk, Yh, overL_one, if_pos, stX_exactN, e0, e10, e12, e13, e14, c5, hcv]
          exact hQx _ _ _ (fun l => by simp) ⟨rfl, by simp only [Za, Zw, Ye], by simp only [Za, Zw, Ye], f3, hn3, hk3⟩
      · exact ⟨o, _, rfl, Nat.le_refl _, .inr rfl, by simp only [Za, Zw, Ye], by simp only [Za, Zw, Ye], by simp only [Za, Zw, Ye], by simp only [Za, Zw, Ye]; try rw [hEE], by simp only [Za, Zw, Ye], ⟨.inl ⟨rfl, text_nil (Nat.le_refl _)⟩⟩, f2, g2, Nat.le_refl _, k12⟩
      · rintro ex e h3 - ⟨rfl, e8, e9, f3, hn3, hk3⟩
        simp only [↓reduceIte, reduceCtorEq, Za, Zb, Zc, Zd, Ze, Zf, Zg, Zh, Zi, Zj, Zk, Zl, Zm, Zn, Zo, Zp, Zq, Zr, Zs, Zt, Zu, Zv, gval, Zw, rb0, rb1, rb2, rb3, rb4, tf0, tf1, tf2, tf3, Yk, e8, e9]
        rw [← hE]
        exact hok k o m rfl hk rfl rfl h3 f3 (by omega) hk3
end Go.Proofs.YtbgminppkacdlaaGreatDoor
end
section
/- Inodes: Write. Conditions: the disk lies as the rule names. -/
namespace Go.Proofs.YtbgminppkacdlaaGreatDoor
open Go.AM
open Nat renaming reduceBEq → Za, reduceEqDiff → Zb, reduceAdd → Zc, reduceSub → Zd, reduceMul → Ze, reduceLT → Zf, reduceLeDiff → Zg, reduceDiv → Zh, reduceMod → Zi, reducePow → Zj
open Int renaming reduceAdd → Zk, reduceSub → Zl, reduceMul → Zm, reduceLT → Zn, reduceLE → Zo, reduceEq → Zp, reduceNe → Zq, reduceNeg → Zr, reduceToNat → Zs, reduceDiv → Zt, reduceMod → Zu, reducePow → Zv, cast_ofNat_Int → Zw
set_option linter.unusedSimpArgs false
variable {sp : Special} {h : Heap} {R : Out → Heap → Prop} {bd bl : Nat} {s : FS}
theorem grow_val {n : Nat} {g : Rz} {k0 : Nat} (hn : n ≤ 60) (o : RzOk n g) (m : Nat) (h : popc 64 g.b + m ≤ n) : ∀ q, q < m → 12 ≤ (g.grow k0 m).x (3 + (k0 + q)) ∧ (g.grow k0 m).x (3 + (k0 + q)) < n := by
  induction m with
  | zero => intro q hq; omega
  | succ m ih =>
    intro q hq
    obtain ⟨o1, h1⟩ := popc_grow (k0 := k0) hn o m (by omega)
    have hl : lowZ (Rz.grow k0 m g).b < n := lowZ_lt (by omega) o1.b (by omega)
    have hl12 := lowZ_ge (bitN_small o1.b hn) o1.low
    have e : (Rz.grow k0 (m + 1) g).x (3 + (k0 + q)) = if 3 + (k0 + q) = 3 + (k0 + m) then ((lowZ (Rz.grow k0 m g).b : Nat) : Int) else (Rz.grow k0 m g).x (3 + (k0 + q)) := rfl
    rw [e]
    split
    · omega
    · exact ih (by omega) q (by omega)
theorem rz_start (f : s.Wf) (hlow : s.Low) (i : Nat) : RzOk s.n ⟨s.b, s.dat, s.ino i⟩ := ⟨f.b, hlow, f.dat, f.ino i⟩
theorem rz_ok (f : s.Wf) (hlow : s.Low) {i sz : Nat} (ho : s.Ino i) (hle : popc 64 s.b + (needN sz - needN (s.size i)) ≤ s.n) : RzOk s.n (s.rz i sz) := by
  obtain ⟨o1, _⟩ := popc_grow (k0 := needN (s.size i)) f.n2 (rz_start f hlow i) (needN sz - needN (s.size i)) hle
  refine shr_ok f.n2 o1 _ fun k h1 h2 => ?_
  rw [grow_x _ _ (by omega)]
  exact ho.bl k (by omega)
theorem resize_size {i sz : Nat} : (s.resize i sz).size i = sz := by
  unfold FS.size FS.resize updN
  simp only [if_true, Int.toNat_natCast]
theorem resize_ino (f : s.Wf) (hlow : s.Low) {i sz : Nat} (ho : s.Ino i) (hsz : sz ≤ 192) (hle : popc 64 s.b + (needN sz - needN (s.size i)) ≤ s.n) : (s.resize i sz).Ino i := by
  have e2 : (s.resize i sz).ino i 2 = (sz : Int) := by unfold FS.resize updN; simp
  refine ⟨by rw [e2]; omega, fun k hk => ?_⟩
  rw [resize_size] at hk
  have e : (s.resize i sz).ino i (3 + k) = (s.rz i sz).x (3 + k) := by
    show (if i = i then updN (s.rz i sz).x 2 sz else s.ino i) (3 + k) = _
    rw [if_pos rfl]
    unfold updN
    rw [if_neg (by omega)]
  rw [e]
  show 12 ≤ (s.rz i sz).x (3 + k) ∧ (s.rz i sz).x (3 + k) < (s.n : Int)
  unfold FS.rz
  rw [shr_x _ _ (by omega)]
  by_cases c : k < needN (s.size i)
  · rw [grow_x _ _ (by omega)]
    exact ho.bl k c
  · have := grow_val (k0 := needN (s.size i)) f.n2 (rz_start f hlow i) (needN sz - needN (s.size i)) hle (k - needN (s.size i)) (by omega)
    rwa [show needN (s.size i) + (k - needN (s.size i)) = k by omega] at this
def wrD (x : Nat → Int) (off : Nat) (l : List UInt8) (dat : Nat → Nat → Int) : Nat → Nat → Nat → Int
  | 0 => dat
  | m + 1 => fun b k => if b = (x (3 + (off + m) / 32)).toNat ∧ k = (off + m) % 32 then ((l[m]?.getD 0).toNat : Int) else wrD x off l dat m b k
theorem wrD_ok {x : Nat → Int} {off : Nat} {l : List UInt8} {dat : Nat → Nat → Int} (hd : ∀ i j, 0 ≤ dat i j ∧ dat i j < 18446744073709551616) : ∀ m i j, 0 ≤ wrD x off l dat m i j ∧ wrD x off l dat m i j < 18446744073709551616
  | 0, i, j => hd i j
  | m + 1, i, j => by
    have e : wrD x off l dat (m + 1) i j = if i = (x (3 + (off + m) / 32)).toNat ∧ j = (off + m) % 32 then ((l[m]?.getD 0).toNat : Int) else wrD x off l dat m i j := rfl
    rw [e]
    split
    · have := (l[m]?.getD 0).toNat_lt
      omega
    · exact wrD_ok hd m i j
theorem str_ne_t (x y : Operand) {l : List UInt8} (hl : l ≠ []) (g : Nat → Option Blk) : effBin Tryz.prog .neq 9 x y (.string (mkS l)) (.string (mkS [])) g = ret (.bool true) := by rw [str_neq, decide_eq_true hl]
theorem str_ne_f (x y : Operand) (g : Nat → Option Blk) : effBin Tryz.prog .neq 9 x y (.string (mkS [])) (.string (mkS [])) g = ret (.bool false) := by rw [str_neq, decide_eq_false (fun h => h rfl)]
theorem str_eq_f (x y : Operand) {l : List UInt8} (hl : l ≠ []) (g : Nat → Option Blk) : effBin Tryz.prog .eql 9 x y (.string (mkS l)) (.string (mkS [])) g = ret (.bool false) := by rw [str_eql, decide_eq_false hl]
theorem str_eq_t (x y : Operand) (g : Nat → Option Blk) : effBin Tryz.prog .eql 9 x y (.string (mkS [])) (.string (mkS [])) g = ret (.bool true) := by rw [str_eql, decide_eq_true rfl]
theorem wrD_other {x : Nat → Int} {off : Nat} {l : List UInt8} {dat : Nat → Nat → Int} {m bk : Nat} : ∀ d, (∀ q, m ≤ q → q < m + d → (x (3 + (off + q) / 32)).toNat = bk) → ∀ b k, b ≠ bk → wrD x off l dat (m + d) b k = wrD x off l dat m b k
  | 0, _, _, _, _ => rfl
  | d + 1, h, b, k, hb => by
    show (if b = (x (3 + (off + (m + d)) / 32)).toNat ∧ k = (off + (m + d)) % 32 then ((l[m + d]?.getD 0).toNat : Int) else wrD x off l dat (m + d) b k) = _
    rw [h (m + d) (by omega) (by omega), if_neg (fun e => hb e.1)]
    exact wrD_other d (fun q h1 h2 => h q h1 (by omega)) b k hb
theorem row_write {x : Nat → Int} {off : Nat} {l : List UInt8} {dat : Nat → Nat → Int} {m bk t : Nat} {b : UInt8} (hb : l[m]? = some b) (hx : (x (3 + (off + m) / 32)).toNat = bk) (ht : (off + m) % 32 = t) (h32 : t < 32) : (u64s ((List.range 32).map (wrD x off l dat m bk))).set t (.int .u64 (b.toNat : Int)) = u64s ((List.range 32).map (wrD x off l dat (m + 1) bk)) := by
  apply List.ext_getElem?
  intro k
  rw [List.getElem?_set, List.length_map, List.length_map, List.length_range]
  by_cases hk : k < 32
  · have e1 : ∀ f : Nat → Int, (u64s ((List.range 32).map f))[k]? = some (.int .u64 (f k)) := fun f => by rw [List.getElem?_map, List.getElem?_map, List.getElem?_range hk]; rfl
    rw [e1, e1]
    show _ = some (Value.int .u64 (if bk = (x (3 + (off + m) / 32)).toNat ∧ k = (off + m) % 32 then ((l[m]?.getD 0).toNat : Int) else wrD x off l dat m bk k))
    rw [hx, ht, hb]
    by_cases e : t = k
    · rw [if_pos e, if_pos h32, if_pos ⟨rfl, e.symm⟩]; rfl
    · rw [if_neg e, if_neg (fun q => e q.2.symm)]
  · rw [if_neg (by omega), List.getElem?_eq_none (by simp; omega), List.getElem?_eq_none (by simp; omega)]
def FS.room (s : FS) (i e : Nat) : FS := if s.size i < e then s.resize i e else s
def FS.write (s : FS) (i off : Nat) (l : List UInt8) : FS := ⟨(s.room i (off + l.length)).n, (s.room i (off + l.length)).a, (s.room i (off + l.length)).b, (s.room i (off + l.length)).ino, wrD ((s.room i (off + l.length)).ino i) off l (s.room i (off + l.length)).dat l.length⟩
set_option maxRecDepth 100000 in
set_option maxHeartbeats 2000000 in
theorem fwrite_spec (pl : Plain sp) (ht : h.get 1 = some (tabBlk .u8 tab)) (f : Fs h bd bl s) (hz : 1 < bd ∧ 1 < bl) {i : Nat} (hi : i < 32) (ho : s.Ino i) (hlow : s.Low) {off : Int} (hob : -9223372036854775808 ≤ off ∧ off < 9223372036854775808) {l : List UInt8} (hll : l.length < 9223372036854775808)
    (hR1 : off < 0 → ∀ h', Fs h' bd bl s → h.nx ≤ h'.nx → (∀ b', b' < h.nx → b' ≠ bd → b' ≠ bl → h'.get b' = h.get b') → R (.ret (.int .i64 101)) h')
    (hR2 : 192 < off + l.length → 0 ≤ off → ∀ h', Fs h' bd bl s → h.nx ≤ h'.nx → (∀ b', b' < h.nx → b' ≠ bd → b' ≠ bl → h'.get b' = h.get b') → R (.ret (.int .i64 27)) h')
    (hR3 : ∀ o : Nat, off = o → o + l.length ≤ 192 → l ≠ [] → s.size i < o + l.length → s.n < popc 64 s.b + (needN (o + l.length) - needN (s.size i)) → ∀ h', Fs h' bd bl s → h.nx ≤ h'.nx → (∀ b', b' < h.nx → b' ≠ bd → b' ≠ bl → h'.get b' = h.get b') → R (.ret (.int .i64 28)) h')
    (hR0 : ∀ o : Nat, off = o → o + l.length ≤ 192 → l = [] → ∀ h', Fs h' bd bl s → h.nx ≤ h'.nx → (∀ b', b' < h.nx → b' ≠ bd → b' ≠ bl → h'.get b' = h.get b') → R (.ret (.int .i64 0)) h')
    (hR4 : ∀ o : Nat, off = o → o + l.length ≤ 192 → l ≠ [] → (s.size i < o + l.length → popc 64 s.b + (needN (o + l.length) - needN (s.size i)) ≤ s.n) → ∀ h', Fs h' bd bl (s.write i o l) → h.nx ≤ h'.nx → (∀ b', b' < h.nx → b' ≠ bd → b' ≠ bl → h'.get b' = h.get b') → R (.ret (.int .i64 0)) h') :
    WF Tryz.prog 2 sp 12 [.iface 22 (.pointer (some ⟨bd, 0, none⟩)), .int .i64 i, .int .i64 off, .string (mkS l)] h R := by
  refine wf_fn (fn := Tryz.f12) pl.p14 rfl (by kernel_rfl) rfl ?_
  have n1 := f.wf.n1
  have n2 := f.wf.n2
  have q1 := f.d.bd_lt
  have q2 := f.d.bl_lt
  simp only [↓reduceIte, reduceCtorEq, Za, Zb, Zc, Zd, Ze, Zf, Zg, Zh, Zi, Zj, Zk, Zl, Zm, Zn, Zo, Zp, Zq, Zr, Zs, Zt, Zu, Zv, gval, Zw, rb0, rb1, rb2, rb3, rb4, tf0, tf1, tf2, tf3, Yk, Tryz.f12]
  refine runC_of (figet_spec pl f hi fun h1 m1 f1 k1 => ?_)
  have hwl : (i64s (row9 (s.ino i))).length = 9 := by rw [List.length_map, row9_len]
  simp (disch := (first | omega | rfl | (simp only [Yn]; omega))) only [↓reduceIte, reduceCtorEq, Za, Zb, Zc, Zd, Ze, Zf, Zg, Zh, Zi, Zj, Zk, Zl, Zm, Zn, Zo, Zp, Zq, Zr, Zs, Zt, Zu, Zv, gval, Zw, rb0, rb1, rb2, rb3, rb4, tf0, tf1, tf2, tf3, Yk, Yh, overL_one, if_pos, stX_exactN, hwl]
  rw [overL_nine rfl hwl, Heap.upd_new]
  obtain ⟨h2, hh2⟩ : ∃ h2, h1.new (cellsB (i64s (row9 (s.ino i))) .exact) = h2 := ⟨_, rfl⟩
  have n2' : h2.nx = h1.nx + 1 := by rw [← hh2, Heap.nx_new]
  have g2 : h2.get h1.nx = some (cellsB (i64s (row9 (s.ino i))) .exact) := by rw [← hh2, Heap.get_new_same]
  have k2 : ∀ b', b' < h1.nx → h2.get b' = h1.get b' := fun b' hb' => by rw [← hh2, Heap.get_new_ne _ _ (by omega)]
  have f2 : Fs h2 bd bl s := f1.keep (by omega) (k2 _ (by omega)) (k2 _ (by omega))
  have k12 : ∀ b', b' < h.nx → b' ≠ bd → b' ≠ bl → h2.get b' = h.get b' := fun b' w1 w2 _ => by rw [k2 _ (by omega), k1 _ w1 w2]
  have t2 : h2.get 1 = some (tabBlk .u8 tab) := (k12 1 (by omega) (by omega) (by omega)).trans ht
  rw [hh2]
  by_cases c1 : off < 0
  · simp (disch := (first | omega | rfl | (simp only [Yn]; omega))) only [↓reduceIte, reduceCtorEq, Za, Zb, Zc, Zd, Ze, Zf, Zg, Zh, Zi, Zj, Zk, Zl, Zm, Zn, Zo, Zp, Zq, Zr, Zs, Zt, Zu, Zv, gval, Zw, rb0, rb1, rb2, rb3, rb4, tf0, tf1, tf2, tf3, Yk, Yh, overL_one, if_pos, stX_exactN, c1, show ((0 : Int) == 0) = true from rfl]
    exact hR1 c1 h2 f2 (by omega) k12
  obtain ⟨o, rfl⟩ : ∃ o : Nat, off = o := ⟨off.toNat, by omega⟩
  have hsz : (mkS l).size = l.length := rfl
  by_cases c2 : (192 : Int) < (o : Int)
  · simp (disch := (first | omega | rfl | (simp only [Yn]; omega))) only [↓reduceIte, reduceCtorEq, Za, Zb, Zc, Zd, Ze, Zf, Zg, Zh, Zi, Zj, Zk, Zl, Zm, Zn, Zo, Zp, Zq, Zr, Zs, Zt, Zu, Zv, gval, Zw, rb0, rb1, rb2, rb3, rb4, tf0, tf1, tf2, tf3, Yk, Yh, overL_one, if_pos, stX_exactN, c1, c2, show ((0 : Int) == 0) = true from rfl, runG_undef]
    exact hR2 (by omega) (by omega) h2 f2 (by omega) k12
  have w1 : wrapF .i64 (192 - (o : Int)) = 192 - (o : Int) := wrapI (by omega) (by omega)
  by_cases c3 : (192 : Int) - (o : Int) < (l.length : Int)
  · simp (disch := (first | omega | rfl | (simp only [Yn]; omega))) only [↓reduceIte, reduceCtorEq, Za, Zb, Zc, Zd, Ze, Zf, Zg, Zh, Zi, Zj, Zk, Zl, Zm, Zn, Zo, Zp, Zq, Zr, Zs, Zt, Zu, Zv, gval, Zw, rb0, rb1, rb2, rb3, rb4, tf0, tf1, tf2, tf3, Yk, Yh, overL_one, if_pos, stX_exactN, c1, c2, hsz, w1, c3, show ((0 : Int) == 0) = true from rfl]
    exact hR2 (by omega) (by omega) h2 f2 (by omega) k12
  have hle : o + l.length ≤ 192 := by omega
  by_cases c4 : l = []
  · have hn0 := hR0 o rfl hle c4 h2 f2 (by omega) k12
    subst c4
    have c3 : ¬ (192 : Int) - (o : Int) < 0 := by omega
    have hsz0 : (mkS []).size = 0 := rfl
    simp (disch := (first | omega | rfl | (simp only [Yn]; omega))) only [↓reduceIte, reduceCtorEq, Za, Zb, Zc, Zd, Ze, Zf, Zg, Zh, Zi, Zj, Zk, Zl, Zm, Zn, Zo, Zp, Zq, Zr, Zs, Zt, Zu, Zv, gval, Zw, rb0, rb1, rb2, rb3, rb4, tf0, tf1, tf2, tf3, Yk, Yh, overL_one, if_pos, stX_exactN, c1, c2, hsz0, w1, c3, str_eq_t, show ((0 : Int) == 0) = true from rfl]
    exact hn0
  have heqf := fun x y g => str_eq_f x y c4 g
  have wadd : wrapF .i64 ((o : Int) + (l.length : Int)) = ((o + l.length : Nat) : Int) := by rw [wrapI (by omega) (by omega)]; omega
  have hs0 : s.ino i 2 = (s.size i : Int) := by unfold FS.size; have := (f.wf.ino i 2).1; omega
  have hcur : s.size i ≤ 192 := by have := ho.sz; omega
  have lx : ∀ x : Nat → Int, (i64s (row9 x)).length = 9 := fun x => by rw [List.length_map, row9_len]
  have x2 : (i64s (row9 (s.ino i)))[2]? = some (.int .i64 (s.size i : Int)) := by rw [List.getElem?_map, row9_get (by omega), ← hs0]; rfl
  obtain ⟨p, hp⟩ : ∃ p, h1.nx = p := ⟨_, rfl⟩
  rw [hp] at g2 n2'
  simp only [hp]
  by_cases c5 : s.size i < o + l.length
  · have c5' : (s.size i : Int) < ((o + l.length : Nat) : Int) := by omega
    simp (disch := (first | omega | rfl | (simp only [Yn]; omega))) only [↓reduceIte, reduceCtorEq, Za, Zb, Zc, Zd, Ze, Zf, Zg, Zh, Zi, Zj, Zk, Zl, Zm, Zn, Zo, Zp, Zq, Zr, Zs, Zt, Zu, Zv, gval, Zw, rb0, rb1, rb2, rb3, rb4, tf0, tf1, tf2, tf3, Yk, Yh, overL_one, if_pos, stX_exactN, c1, c2, hsz, w1, c3, heqf, g2, x2, lx, wadd, c5', show ((0 : Int) == 0) = true from rfl]
    refine runC_of (fresize_spec pl t2 f2 hz hi ho hlow (size := ((o + l.length : Nat) : Int)) (fun q => absurd q (by omega)) (fun q => absurd q (by omega)) (fun sz e _ cc h30 f30 n30 k30 => ?_) (fun sz e _ cc h30 f30 n30 k30 => ?_))
    · obtain rfl : sz = o + l.length := by omega
      simp only [↓reduceIte, reduceCtorEq, Za, Zb, Zc, Zd, Ze, Zf, Zg, Zh, Zi, Zj, Zk, Zl, Zm, Zn, Zo, Zp, Zq, Zr, Zs, Zt, Zu, Zv, gval, Zw, rb0, rb1, rb2, rb3, rb4, tf0, tf1, tf2, tf3, Yk, show ((28 : Int) == 0) = false from rfl]
      exact hR3 o rfl hle c4 c5 cc h30 f30 (by omega) fun b' v1 v2 v3 => by rw [k30 _ (by omega) v2 v3, k12 _ v1 v2 v3]
    · obtain rfl : sz = o + l.length := by omega
      have hroomok : s.size i < o + l.length → popc 64 s.b + (needN (o + l.length) - needN (s.size i)) ≤ s.n := fun _ => cc
      have ho1 := resize_ino f.wf hlow ho hle cc
      have hsz1 : o + l.length ≤ (s.resize i (o + l.length)).size i := by rw [resize_size]; omega
      have hs1 : s.room i (o + l.length) = s.resize i (o + l.length) := by unfold FS.room; rw [if_pos c5]
      generalize s.resize i (o + l.length) = s1 at *
      simp only [↓reduceIte, reduceCtorEq, Za, Zb, Zc, Zd, Ze, Zf, Zg, Zh, Zi, Zj, Zk, Zl, Zm, Zn, Zo, Zp, Zq, Zr, Zs, Zt, Zu, Zv, gval, Zw, rb0, rb1, rb2, rb3, rb4, tf0, tf1, tf2, tf3, Yk, show ((0 : Int) == 0) = true from rfl]
      refine runC_of (figet_spec pl f30 hi fun h31 n31 f31 k31 => ?_)
      have hwl1 : (i64s (row9 (s1.ino i))).length = 9 := lx _
      have g31 : h31.get p = some (cellsB (i64s (row9 (s.ino i))) .exact) := by rw [k31 _ (by omega) (by omega), k30 _ (by omega) (by omega) (by omega)]; exact g2
      have hov := overL_nine (lx (s.ino i)) hwl1
      have l99 : 0 + 9 ≤ 9 := by omega
      simp (disch := (first | omega | rfl | (simp only [Yn]; omega))) only [↓reduceIte, reduceCtorEq, Za, Zb, Zc, Zd, Ze, Zf, Zg, Zh, Zi, Zj, Zk, Zl, Zm, Zn, Zo, Zp, Zq, Zr, Zs, Zt, Zu, Zv, gval, Zw, rb0, rb1, rb2, rb3, rb4, tf0, tf1, tf2, tf3, Yk, Yh, overL_one, if_pos, stX_exactN, g31, lx, hwl1, hov, l99]
      obtain ⟨h3, hh3⟩ : ∃ h3, h31.upd p (cellsB (i64s (row9 (s1.ino i))) .exact) = h3 := ⟨_, rfl⟩
      have n3 : h3.nx = h31.nx := by rw [← hh3, Heap.nx_upd]
      have g3 : h3.get p = some (cellsB (i64s (row9 (s1.ino i))) .exact) := by rw [← hh3, Heap.get_upd_same]
      have k3 : ∀ b', b' ≠ p → h3.get b' = h31.get b' := fun b' w1 => by rw [← hh3, Heap.get_upd_ne _ _ w1]
      have f3 : Fs h3 bd bl s1 := f31.keep (by omega) (k3 _ (by omega)) (k3 _ (by omega))
      have hk3 : ∀ b', b' < h.nx → b' ≠ bd → b' ≠ bl → h3.get b' = h.get b' := fun b' v1 v2 v3 => by rw [k3 _ (by omega), k31 _ (by omega) v2, k30 _ (by omega) v2 v3, k12 _ v1 v2 v3]
      have hn3 : h2.nx ≤ h3.nx := by omega
      rw [hh3]
      refine run_loop2 rfl (fun N e h' => ∃ m : Nat, N = l.length - m ∧ m ≤ l.length ∧ e.at 0 = .iface 22 (.pointer (some ⟨bd, 0, none⟩)) ∧ e.at 2 = .int .i64 ((o + m : Nat) : Int) ∧ e.at 3 = .string (mkS (l.drop m)) ∧ e.at 9 = .pointer (some ⟨p, 0, none⟩) ∧
          Fs h' bd bl ⟨s1.n, s1.a, s1.b, s1.ino, wrD (s1.ino i) o l s1.dat m⟩ ∧ h'.get p = some (cellsB (i64s (row9 (s1.ino i))) .exact) ∧ h3.nx ≤ h'.nx ∧ ∀ b', b' < h.nx → b' ≠ bd → b' ≠ bl → h'.get b' = h.get b')
        (fun ex e h' => ex = .exit 1 ∧ Fs h' bd bl ⟨s1.n, s1.a, s1.b, s1.ino, wrD (s1.ino i) o l s1.dat l.length⟩ ∧ h3.nx ≤ h'.nx ∧ ∀ b', b' < h.nx → b' ≠ bd → b' ≠ bl → h'.get b' = h.get b') ?_ l.length _ _ ?_ ?_
      · rintro N e h4 ⟨m, rfl, hm, e0, e2, e3, e9, f4, g4, hn4, hk4⟩ Q' hQn hQx
        have hdl : (mkS (l.drop m)).size = l.length - m := List.length_drop ..
        by_cases hc : m < l.length
        · have d1 : (0 : Int) < ((l.length - m : Nat) : Int) := by omega
          have hq : ((o + m : Nat) : Int).tdiv 32 = (((o + m) / 32 : Nat) : Int) := by rw [Int.tdiv_eq_ediv_of_nonneg (by omega)]; omega
          have hmm : ((o + m : Nat) : Int).tmod 32 = (((o + m) % 32 : Nat) : Int) := by rw [Int.tmod_eq_emod_of_nonneg (by omega)]; omega
          have wq : wrapF .i64 (((o + m) / 32 : Nat) : Int) = (((o + m) / 32 : Nat) : Int) := wrapI (by omega) (by omega)
          have wm : wrapF .i64 (((o + m) % 32 : Nat) : Int) = (((o + m) % 32 : Nat) : Int) := wrapI (by omega) (by omega)
          have hj : 3 + (o + m) / 32 < 9 := by omega
          have hj6 : (o + m) / 32 < 6 := by omega
          have hbl := ho1.bl ((o + m) / 32) (by unfold needN; omega)
          obtain ⟨bk, hbk⟩ : ∃ bk : Nat, s1.ino i (3 + (o + m) / 32) = bk := ⟨(s1.ino i (3 + (o + m) / 32)).toNat, by omega⟩
          rw [hbk] at hbl
          have gx : (i64s (row9 (s1.ino i)))[3 + (o + m) / 32]? = some (.int .i64 (bk : Int)) := by rw [List.getElem?_map, row9_get hj, hbk]; rfl
          simp (disch := (first | omega | rfl | (simp only [Yn]; omega))) only [↓reduceIte, reduceCtorEq, Za, Zb, Zc, Zd, Ze, Zf, Zg, Zh, Zi, Zj, Zk, Zl, Zm, Zn, Zo, Zp, Zq, Zr, Zs, Zt, Zu, Zv, gval, Zw, rb0, rb1, rb2, rb3, rb4, tf0, tf1, tf2, tf3, Yk, Yh, overL_one, if_pos, stX_exactN, e0, e2, e3, e9, hdl, d1, hq, wq, g4, lx, hj, gx, Nat.mul_one]
          refine runC_of (fget_spec pl f4 (b := bk) (by show bk < s1.n; omega) fun h5 n5 g5 f5 k5 => ?_)
          have hrow : rowD (FS.D ⟨s1.n, s1.a, s1.b, s1.ino, wrD (s1.ino i) o l s1.dat m⟩) bk = (List.range 32).map (wrD (s1.ino i) o l s1.dat m bk) := by
            unfold rowD
            refine List.map_congr_left fun t _ => ?_
            unfold FS.D
            rw [if_neg (by omega), if_neg (by omega)]
          rw [hrow] at g5
          have hl32 : ∀ g : Nat → Int, (u64s ((List.range 32).map g)).length = 32 := fun g => by simp
          simp (disch := (first | omega | rfl | (simp only [Yn]; omega))) only [↓reduceIte, reduceCtorEq, Za, Zb, Zc, Zd, Ze, Zf, Zg, Zh, Zi, Zj, Zk, Zl, Zm, Zn, Zo, Zp, Zq, Zr, Zs, Zt, Zu, Zv, gval, Zw, rb0, rb1, rb2, rb3, rb4, tf0, tf1, tf2, tf3, Yk, Yh, overL_one, if_pos, stX_exactN, hmm, wm, e2, show ((0 : Int) == 0) = true from rfl]
          have hp4 : p < h4.nx := by omega
          refine run_loop2 rfl (fun N e h' => ∃ t m' : Nat, N = 32 - t ∧ t ≤ 32 ∧ m ≤ m' ∧ m' ≤ l.length ∧ (o + m) % 32 ≤ t ∧ m' + (o + m) % 32 = m + t ∧ e.at 0 = .iface 22 (.pointer (some ⟨bd, 0, none⟩)) ∧ e.at 2 = .int .i64 ((o + m' : Nat) : Int) ∧ e.at 3 = .string (mkS (l.drop m')) ∧ e.at 9 = .pointer (some ⟨p, 0, none⟩) ∧ e.at 13 = .int .i64 bk ∧ e.at 14 = .slice (some ⟨h4.nx, 0, none⟩) 32 32 ∧ e.at 16 = .int .i64 t ∧ h'.get h4.nx = some (cellsB (u64s ((List.range 32).map (wrD (s1.ino i) o l s1.dat m' bk))) (.loose 1)) ∧ h'.nx = h5.nx ∧ ∀ b', b' ≠ h4.nx → h'.get b' = h5.get b')
            (fun ex e h' => ex = .exit 3 ∧ ∃ m' : Nat, m < m' ∧ m' ≤ l.length ∧ (o + m') ≤ (o + m) / 32 * 32 + 32 ∧ e.at 0 = .iface 22 (.pointer (some ⟨bd, 0, none⟩)) ∧ e.at 2 = .int .i64 ((o + m' : Nat) : Int) ∧ e.at 3 = .string (mkS (l.drop m')) ∧ e.at 9 = .pointer (some ⟨p, 0, none⟩) ∧ e.at 13 = .int .i64 bk ∧ e.at 14 = .slice (some ⟨h4.nx, 0, none⟩) 32 32 ∧ h'.get h4.nx = some (cellsB (u64s ((List.range 32).map (wrD (s1.ino i) o l s1.dat m' bk))) (.loose 1)) ∧ h'.nx = h5.nx ∧ ∀ b', b' ≠ h4.nx → h'.get b' = h5.get b') ?_ (32 - (o + m) % 32) _ _ ?_ ?_
          · rintro N e h6 ⟨t, m', rfl, htt, hm1, hm2, ht1, ht2, i0, i2, i3, i9, i13, i14, i16, g6, n6, k6⟩ Q2 hQn2 hQx2
            by_cases d2 : t < 32
            · have d2' : (t : Int) < 32 := by omega
              by_cases d3 : m' < l.length
              · have d3' : l.drop m' ≠ [] := fun e => by have := congrArg List.length e; rw [List.length_drop] at this; simp at this; omega
                obtain ⟨b, hb⟩ : ∃ b, l[m']? = some b := ⟨_, List.getElem?_eq_getElem d3⟩
                have hnef := fun x y g => str_ne_t x y d3' g
                have hix := str_index (P := Tryz.prog) (t := 9) (by kernel_rfl) (l := l.drop m') (i := 0) (b := b) (by rw [List.getElem?_drop, Nat.add_zero]; exact hb)
                have htl := str_tail (P := Tryz.prog) (t := 9) (by kernel_rfl) (l := l.drop m') (by rw [List.length_drop]; omega) h6.get
                have hbx : (s1.ino i (3 + (o + m') / 32)).toNat = bk := by rw [show (o + m') / 32 = (o + m) / 32 by omega, hbk, Int.toNat_natCast]
                have hrw := row_write (dat := s1.dat) hb hbx (show (o + m') % 32 = t by omega) d2
                have hset := (overL_one (.int .u64 (b.toNat : Int)) (by rw [hl32]; exact d2)).trans hrw
                have hb256 := b.toNat_lt
                have wb : wrapF .u64 (b.toNat : Int) = (b.toNat : Int) := wrapU (by omega) (by omega)
                have wo : wrapF .i64 (((o + m' : Nat) : Int) + 1) = ((o + (m' + 1) : Nat) : Int) := by rw [wrapI (by omega) (by omega)]; omega
                have wt : wrapF .i64 ((t : Int) + 1) = ((t + 1 : Nat) : Int) := by rw [wrapI (by omega) (by omega)]; omega
                have d21 : t + 1 ≤ 32 := by omega
                rw [List.drop_drop] at htl
                have hix' : effIndex Tryz.prog 9 (.string (mkS (l.drop m'))) (.int .i64 0) = ret (.int .u8 b.toNat) := hix
                have htl6 : ∀ h7 : Heap, effSlice Tryz.prog 9 (.string (mkS (l.drop m'))) (some (.int .i64 1)) none none h7.get = ret (.string (mkS (l.drop (m' + 1)))) := fun h7 => by
                  have := str_tail (P := Tryz.prog) (t := 9) (by kernel_rfl) (l := l.drop m') (by rw [List.length_drop]; omega) h7.get
                  rw [List.drop_drop] at this
                  exact this
                simp (disch := (first | omega | rfl | (simp only [Yn]; omega))) only [↓reduceIte, reduceCtorEq, Za, Zb, Zc, Zd, Ze, Zf, Zg, Zh, Zi, Zj, Zk, Zl, Zm, Zn, Zo, Zp, Zq, Zr, Zs, Zt, Zu, Zv, gval, Zw, rb0, rb1, rb2, rb3, rb4, tf0, tf1, tf2, tf3, Yk, Yh, overL_one, if_pos, stX_exactN, i2, i3, i14, i16, d2', hnef, hix', wb, g6, hl32, d2, d21, hset, htl6, wo, wt, Nat.mul_one, Nat.zero_add]
                refine hQn2 _ _ _ (by omega) ⟨t + 1, m' + 1, rfl, by omega, by omega, by omega, by omega, by omega, by simp only [Za, Zw, Ye, i0], by simp only [Za, Zw, Ye], by simp only [Za, Zw, Ye], by simp only [Za, Zw, Ye, i9], by simp only [Za, Zw, Ye, i13], by simp only [Za, Zw, Ye, i14], by simp only [Za, Zw, Ye], by rw [Heap.get_upd_same, hrw], by rw [Heap.nx_upd]; exact n6, fun b' hb' => by rw [Heap.get_upd_ne _ _ hb']; exact k6 b' hb'⟩
              · have hnil : l.drop m' = [] := List.drop_eq_nil_of_le (by omega)
                rw [hnil] at i3
                simp (disch := (first | omega | rfl | (simp only [Yn]; omega))) only [↓reduceIte, reduceCtorEq, Za, Zb, Zc, Zd, Ze, Zf, Zg, Zh, Zi, Zj, Zk, Zl, Zm, Zn, Zo, Zp, Zq, Zr, Zs, Zt, Zu, Zv, gval, Zw, rb0, rb1, rb2, rb3, rb4, tf0, tf1, tf2, tf3, Yk, Yh, overL_one, if_pos, stX_exactN, i3, i16, d2', str_ne_f]
                exact hQx2 _ _ _ (by simp) ⟨rfl, m', by omega, hm2, by omega, by simp only [Za, Zw, Ye, i0], by simp only [Za, Zw, Ye, i2], by simp only [Za, Zw, Ye, i3, hnil], by simp only [Za, Zw, Ye, i9], by simp only [Za, Zw, Ye, i13], by simp only [Za, Zw, Ye, i14], g6, n6, k6⟩
            · have d2' : ¬ (t : Int) < 32 := by omega
              simp (disch := (first | omega | rfl | (simp only [Yn]; omega))) only [↓reduceIte, reduceCtorEq, Za, Zb, Zc, Zd, Ze, Zf, Zg, Zh, Zi, Zj, Zk, Zl, Zm, Zn, Zo, Zp, Zq, Zr, Zs, Zt, Zu, Zv, gval, Zw, rb0, rb1, rb2, rb3, rb4, tf0, tf1, tf2, tf3, Yk, Yh, overL_one, if_pos, stX_exactN, i3, i16, d2', runG_undef]
              exact hQx2 _ _ _ (by simp) ⟨rfl, m', by omega, hm2, by omega, by simp only [Za, Zw, Ye, i0], by simp only [Za, Zw, Ye, i2], by simp only [Za, Zw, Ye, i3], by simp only [Za, Zw, Ye, i9], by simp only [Za, Zw, Ye, i13], by simp only [Za, Zw, Ye, i14], g6, n6, k6⟩
          · exact ⟨(o + m) % 32, m, rfl, by omega, by omega, by omega, by omega, by omega, by simp only [Za, Zw, Ye, e0], by simp only [Za, Zw, Ye, e2], by simp only [Za, Zw, Ye, e3], by simp only [Za, Zw, Ye, e9], by simp only [Za, Zw, Ye], by simp only [Za, Zw, Ye], by simp only [Za, Zw, Ye], g5, rfl, fun _ _ => rfl⟩
          · rintro ex e h6 - ⟨rfl, m', hm1, hm2, hm3, i0, i2, i3, i9, i13, i14, g6, n6, k6⟩
            have f6 : Fs h6 bd bl ⟨s1.n, s1.a, s1.b, s1.ino, wrD (s1.ino i) o l s1.dat m⟩ := f5.keep (by omega) (k6 _ (by have := f4.d.bd_lt; omega)) (k6 _ (by have := f4.d.bl_lt; omega))
            simp (disch := (first | omega | rfl | (simp only [Yn]; omega))) only [↓reduceIte, reduceCtorEq, Za, Zb, Zc, Zd, Ze, Zf, Zg, Zh, Zi, Zj, Zk, Zl, Zm, Zn, Zo, Zp, Zq, Zr, Zs, Zt, Zu, Zv, gval, Zw, rb0, rb1, rb2, rb3, rb4, tf0, tf1, tf2, tf3, Yk, Yh, overL_one, if_pos, stX_exactN, i0, i13, i14, u_invoke, invK_iface, inv_put]
            refine runC_of (fbput_spec pl f6 (b := bk) (by omega) (by show bk < s1.n; omega) g6 (off := 0) (w := wrD (s1.ino i) o l s1.dat m' bk) (by rw [List.drop_zero, List.take_of_length_le (by rw [hl32]; omega)]) (wrD_ok f3.wf.dat m' bk) (fun h7 n7 f7 k7 => ?_) (by have := f4.d.bd_lt; omega))
            simp (disch := (first | omega | rfl | (simp only [Yn]; omega))) only [↓reduceIte, reduceCtorEq, Za, Zb, Zc, Zd, Ze, Zf, Zg, Zh, Zi, Zj, Zk, Zl, Zm, Zn, Zo, Zp, Zq, Zr, Zs, Zt, Zu, Zv, gval, Zw, rb0, rb1, rb2, rb3, rb4, tf0, tf1, tf2, tf3, Yk, Yh, overL_one, if_pos, stX_exactN, show ((0 : Int) == 0) = true from rfl]
            have hdd : (FS.putB ⟨s1.n, s1.a, s1.b, s1.ino, wrD (s1.ino i) o l s1.dat m⟩ bk (wrD (s1.ino i) o l s1.dat m' bk)) = ⟨s1.n, s1.a, s1.b, s1.ino, wrD (s1.ino i) o l s1.dat m'⟩ := by
              unfold FS.putB
              congr 1
              funext b' k'
              by_cases e : b' = bk
              · rw [if_pos e, e]
              · rw [if_neg e, show m' = m + (m' - m) by omega]
                exact (wrD_other (m' - m) (fun q v1 v2 => by rw [show (o + q) / 32 = (o + m) / 32 by omega, hbk, Int.toNat_natCast]) b' k' e).symm
            rw [hdd] at f7
            refine hQn _ _ _ (by omega) ⟨m', rfl, hm2, by simp only [Za, Zw, Ye, i0], by simp only [Za, Zw, Ye, i2], by simp only [Za, Zw, Ye, i3], by simp only [Za, Zw, Ye, i9], f7, ?_, by omega, fun b' v1 v2 v3 => ?_⟩
            · rw [k7 _ (by omega) (by omega), k6 _ (by omega), k5 _ (by omega) (by omega)]; exact g4
            · rw [k7 _ v2 v3, k6 _ (by omega), k5 _ (by omega) v2]; exact hk4 b' v1 v2 v3
        · have hm0 : m = l.length := by omega
          subst hm0
          have d1 : ¬ (0 : Int) < ((l.length - l.length : Nat) : Int) := by omega
          simp (disch := (first | omega | rfl | (simp only [Yn]; omega))) only [↓reduceIte, reduceCtorEq, Za, Zb, Zc, Zd, Ze, Zf, Zg, Zh, Zi, Zj, Zk, Zl, Zm, Zn, Zo, Zp, Zq, Zr, Zs, Zt, Zu, Zv, gval, Zw, rb0, rb1, rb2, rb3, rb4, tf0, tf1, tf2, tf3, Yk, Yh, overL_one, if_pos, stX_exactN, e3, hdl, d1]
          exact hQx _ _ _ (by simp) ⟨rfl, f4, hn4, hk4⟩
      · exact ⟨0, rfl, by omega, by simp only [Za, Zw, Ye], by simp only [Za, Zw, Ye], by simp only [Za, Zw, Ye, List.drop_zero], by simp only [Za, Zw, Ye], f3, g3, Nat.le_refl _, hk3⟩
      · rintro ex e h4 - ⟨rfl, f4, hn4, hk4⟩
        simp only [↓reduceIte, reduceCtorEq, Za, Zb, Zc, Zd, Ze, Zf, Zg, Zh, Zi, Zj, Zk, Zl, Zm, Zn, Zo, Zp, Zq, Zr, Zs, Zt, Zu, Zv, gval, Zw, rb0, rb1, rb2, rb3, rb4, tf0, tf1, tf2, tf3, Yk]
        exact hR4 o rfl hle c4 hroomok h4 (by unfold FS.write; rw [hs1]; exact f4) (by omega) hk4
  · have c5' : ¬ (s.size i : Int) < ((o + l.length : Nat) : Int) := by omega
    have hroomok : s.size i < o + l.length → popc 64 s.b + (needN (o + l.length) - needN (s.size i)) ≤ s.n := fun q => absurd q c5
    simp (disch := (first | omega | rfl | (simp only [Yn]; omega))) only [↓reduceIte, reduceCtorEq, Za, Zb, Zc, Zd, Ze, Zf, Zg, Zh, Zi, Zj, Zk, Zl, Zm, Zn, Zo, Zp, Zq, Zr, Zs, Zt, Zu, Zv, gval, Zw, rb0, rb1, rb2, rb3, rb4, tf0, tf1, tf2, tf3, Yk, Yh, overL_one, if_pos, stX_exactN, c1, c2, hsz, w1, c3, heqf, g2, x2, lx, wadd, c5', show ((0 : Int) == 0) = true from rfl]
    have ho1 := ho
    have hsz1 : o + l.length ≤ s.size i := by omega
    have hs1 : s.room i (o + l.length) = s := by unfold FS.room; rw [if_neg c5]
    obtain ⟨s1, hss⟩ : ∃ s1, s = s1 := ⟨_, rfl⟩
    rw [hss] at ho1 hsz1
    have hs1 : s.room i (o + l.length) = s1 := hs1.trans hss
    have f3 : Fs h2 bd bl s1 := hss ▸ f2
    have g3 : h2.get p = some (cellsB (i64s (row9 (s1.ino i))) .exact) := hss ▸ g2
    obtain ⟨h3, hh3⟩ : ∃ h3, h2 = h3 := ⟨_, rfl⟩
    rw [hh3] at f3 g3 ⊢
    have hk3 : ∀ b', b' < h.nx → b' ≠ bd → b' ≠ bl → h3.get b' = h.get b' := hh3 ▸ k12
    have hn3 : h2.nx ≤ h3.nx := by rw [hh3]; exact Nat.le_refl _
    refine run_loop2 rfl (fun N e h' => ∃ m : Nat, N = l.length - m ∧ m ≤ l.length ∧ e.at 0 = .iface 22 (.pointer (some ⟨bd, 0, none⟩)) ∧ e.at 2 = .int .i64 ((o + m : Nat) : Int) ∧ e.at 3 = .string (mkS (l.drop m)) ∧ e.at 9 = .pointer (some ⟨p, 0, none⟩) ∧
        Fs h' bd bl ⟨s1.n, s1.a, s1.b, s1.ino, wrD (s1.ino i) o l s1.dat m⟩ ∧ h'.get p = some (cellsB (i64s (row9 (s1.ino i))) .exact) ∧ h3.nx ≤ h'.nx ∧ ∀ b', b' < h.nx → b' ≠ bd → b' ≠ bl → h'.get b' = h.get b')
      (fun ex e h' => ex = .exit 1 ∧ Fs h' bd bl ⟨s1.n, s1.a, s1.b, s1.ino, wrD (s1.ino i) o l s1.dat l.length⟩ ∧ h3.nx ≤ h'.nx ∧ ∀ b', b' < h.nx → b' ≠ bd → b' ≠ bl → h'.get b' = h.get b') ?_ l.length _ _ ?_ ?_
    · rintro N e h4 ⟨m, rfl, hm, e0, e2, e3, e9, f4, g4, hn4, hk4⟩ Q' hQn hQx
      have hdl : (mkS (l.drop m)).size = l.length - m := List.length_drop ..
      by_cases hc : m < l.length
      · have d1 : (0 : Int) < ((l.length - m : Nat) : Int) := by omega
        have hq : ((o + m : Nat) : Int).tdiv 32 = (((o + m) / 32 : Nat) : Int) := by rw [Int.tdiv_eq_ediv_of_nonneg (by omega)]; omega
        have hmm : ((o + m : Nat) : Int).tmod 32 = (((o + m) % 32 : Nat) : Int) := by rw [Int.tmod_eq_emod_of_nonneg (by omega)]; omega
        have wq : wrapF .i64 (((o + m) / 32 : Nat) : Int) = (((o + m) / 32 : Nat) : Int) := wrapI (by omega) (by omega)
        have wm : wrapF .i64 (((o + m) % 32 : Nat) : Int) = (((o + m) % 32 : Nat) : Int) := wrapI (by omega) (by omega)
        have hj : 3 + (o + m) / 32 < 9 := by omega
        have hj6 : (o + m) / 32 < 6 := by omega
        have hbl := ho1.bl ((o + m) / 32) (by unfold needN; omega)
        obtain ⟨bk, hbk⟩ : ∃ bk : Nat, s1.ino i (3 + (o + m) / 32) = bk := ⟨(s1.ino i (3 + (o + m) / 32)).toNat, by omega⟩
        rw [hbk] at hbl
        have gx : (i64s (row9 (s1.ino i)))[3 + (o + m) / 32]? = some (.int .i64 (bk : Int)) := by rw [List.getElem?_map, row9_get hj, hbk]; rfl
        simp (disch := (first | omega | rfl | (simp only [Yn]; omega))) only [↓reduceIte, reduceCtorEq, Za, Zb, Zc, Zd, Ze, Zf, Zg, Zh, Zi, Zj, Zk, Zl, Zm, Zn, Zo, Zp, Zq, Zr, Zs, Zt, Zu, Zv, gval, Zw, rb0, rb1, rb2, rb3, rb4, tf0, tf1, tf2, tf3, Yk, Yh, overL_one, if_pos, stX_exactN, e0, e2, e3, e9, hdl, d1, hq, wq, g4, lx, hj, gx, Nat.mul_one]
        refine runC_of (fget_spec pl f4 (b := bk) (by show bk < s1.n; omega) fun h5 n5 g5 f5 k5 => ?_)
        have hrow : rowD (FS.D ⟨s1.n, s1.a, s1.b, s1.ino, wrD (s1.ino i) o l s1.dat m⟩) bk = (List.range 32).map (wrD (s1.ino i) o l s1.dat m bk) := by
          unfold rowD
          refine List.map_congr_left fun t _ => ?_
          unfold FS.D
          rw [if_neg (by omega), if_neg (by omega)]
        rw [hrow] at g5
        have hl32 : ∀ g : Nat → Int, (u64s ((List.range 32).map g)).length = 32 := fun g => by simp
        simp (disch := (first | omega | rfl | (simp only [Yn]; omega))) only [↓reduceIte, reduceCtorEq, Za, Zb, Zc, Zd, Ze, Zf, Zg, Zh, Zi, Zj, Zk, Zl, Zm, Zn, Zo, Zp, Zq, Zr, Zs, Zt, Zu, Zv, gval, Zw, rb0, rb1, rb2, rb3, rb4, tf0, tf1, tf2, tf3, Yk, Yh, overL_one, if_pos, stX_exactN, hmm, wm, e2, show ((0 : Int) == 0) = true from rfl]
        have hp4 : p < h4.nx := by omega
        refine run_loop2 rfl (fun N e h' => ∃ t m' : Nat, N = 32 - t ∧ t ≤ 32 ∧ m ≤ m' ∧ m' ≤ l.length ∧ (o + m) % 32 ≤ t ∧ m' + (o + m) % 32 = m + t ∧ e.at 0 = .iface 22 (.pointer (some ⟨bd, 0, none⟩)) ∧ e.at 2 = .int .i64 ((o + m' : Nat) : Int) ∧ e.at 3 = .string (mkS (l.drop m')) ∧ e.at 9 = .pointer (some ⟨p, 0, none⟩) ∧ e.at 13 = .int .i64 bk ∧ e.at 14 = .slice (some ⟨h4.nx, 0, none⟩) 32 32 ∧ e.at 16 = .int .i64 t ∧ h'.get h4.nx = some (cellsB (u64s ((List.range 32).map (wrD (s1.ino i) o l s1.dat m' bk))) (.loose 1)) ∧ h'.nx = h5.nx ∧ ∀ b', b' ≠ h4.nx → h'.get b' = h5.get b')
          (fun ex e h' => ex = .exit 3 ∧ ∃ m' : Nat, m < m' ∧ m' ≤ l.length ∧ (o + m') ≤ (o + m) / 32 * 32 + 32 ∧ e.at 0 = .iface 22 (.pointer (some ⟨bd, 0, none⟩)) ∧ e.at 2 = .int .i64 ((o + m' : Nat) : Int) ∧ e.at 3 = .string (mkS (l.drop m')) ∧ e.at 9 = .pointer (some ⟨p, 0, none⟩) ∧ e.at 13 = .int .i64 bk ∧ e.at 14 = .slice (some ⟨h4.nx, 0, none⟩) 32 32 ∧ h'.get h4.nx = some (cellsB (u64s ((List.range 32).map (wrD (s1.ino i) o l s1.dat m' bk))) (.loose 1)) ∧ h'.nx = h5.nx ∧ ∀ b', b' ≠ h4.nx → h'.get b' = h5.get b') ?_ (32 - (o + m) % 32) _ _ ?_ ?_
        · rintro N e h6 ⟨t, m', rfl, htt, hm1, hm2, ht1, ht2, i0, i2, i3, i9, i13, i14, i16, g6, n6, k6⟩ Q2 hQn2 hQx2
          by_cases d2 : t < 32
          · have d2' : (t : Int) < 32 := by omega
            by_cases d3 : m' < l.length
            · have d3' : l.drop m' ≠ [] := fun e => by have := congrArg List.length e; rw [List.length_drop] at this; simp at this; omega
              obtain ⟨b, hb⟩ : ∃ b, l[m']? = some b := ⟨_, List.getElem?_eq_getElem d3⟩
              have hnef := fun x y g => str_ne_t x y d3' g
              have hix := str_index (P := Tryz.prog) (t := 9) (by kernel_rfl) (l := l.drop m') (i := 0) (b := b) (by rw [List.getElem?_drop, Nat.add_zero]; exact hb)
              have htl := str_tail (P := Tryz.prog) (t := 9) (by kernel_rfl) (l := l.drop m') (by rw [List.length_drop]; omega) h6.get
              have hbx : (s1.ino i (3 + (o + m') / 32)).toNat = bk := by rw [show (o + m') / 32 = (o + m) / 32 by omega, hbk, Int.toNat_natCast]
              have hrw := row_write (dat := s1.dat) hb hbx (show (o + m') % 32 = t by omega) d2
              have hset := (overL_one (.int .u64 (b.toNat : Int)) (by rw [hl32]; exact d2)).trans hrw
              have hb256 := b.toNat_lt
              have wb : wrapF .u64 (b.toNat : Int) = (b.toNat : Int) := wrapU (by omega) (by omega)
              have wo : wrapF .i64 (((o + m' : Nat) : Int) + 1) = ((o + (m' + 1) : Nat) : Int) := by rw [wrapI (by omega) (by omega)]; omega
              have wt : wrapF .i64 ((t : Int) + 1) = ((t + 1 : Nat) : Int) := by rw [wrapI (by omega) (by omega)]; omega
              have d21 : t + 1 ≤ 32 := by omega
              rw [List.drop_drop] at htl
              have hix' : effIndex Tryz.prog 9 (.string (mkS (l.drop m'))) (.int .i64 0) = ret (.int .u8 b.toNat) := hix
              have htl6 : ∀ h7 : Heap, effSlice Tryz.prog 9 (.string (mkS (l.drop m'))) (some (.int .i64 1)) none none h7.get = ret (.string (mkS (l.drop (m' + 1)))) := fun h7 => by
                have := str_tail (P := Tryz.prog) (t := 9) (by kernel_rfl) (l := l.drop m') (by rw [List.length_drop]; omega) h7.get
                rw [List.drop_drop] at this
                exact this
              simp (disch := (first | omega | rfl | (simp only [Yn]; omega))) only [↓reduceIte, reduceCtorEq, Za, Zb, Zc, Zd, Ze, Zf, Zg, Zh, Zi, Zj, Zk, Zl, Zm, Zn, Zo, Zp, Zq, Zr, Zs, Zt, Zu, Zv, gval, Zw, rb0, rb1, rb2, rb3, rb4, tf0, tf1, tf2, tf3, Yk, Yh, overL_one, if_pos, stX_exactN, i2, i3, i14, i16, d2', hnef, hix', wb, g6, hl32, d2, d21, hset, htl6, wo, wt, Nat.mul_one, Nat.zero_add]
              refine hQn2 _ _ _ (by omega) ⟨t + 1, m' + 1, rfl, by omega, by omega, by omega, by omega, by omega, by simp only [Za, Zw, Ye, i0], by simp only [Za, Zw, Ye], by simp only [Za, Zw, Ye], by simp only [Za, Zw, Ye, i9], by simp only [Za, Zw, Ye, i13], by simp only [Za, Zw, Ye, i14], by simp only [Za, Zw, Ye], by rw [Heap.get_upd_same, hrw], by rw [Heap.nx_upd]; exact n6, fun b' hb' => by rw [Heap.get_upd_ne _ _ hb']; exact k6 b' hb'⟩
            · have hnil : l.drop m' = [] := List.drop_eq_nil_of_le (by omega)
              rw [hnil] at i3
              simp (disch := (first | omega | rfl | (simp only [Yn]; omega))) only [↓reduceIte, reduceCtorEq, Za, Zb, Zc, Zd, Ze, Zf, Zg, Zh, Zi, Zj, Zk, Zl, Zm, Zn, Zo, Zp, Zq, Zr, Zs, Zt, Zu, Zv, gval, Zw, rb0, rb1, rb2, rb3, rb4, tf0, tf1, tf2, tf3, Yk, Yh, overL_one, if_pos, stX_exactN, i3, i16, d2', str_ne_f]
              exact hQx2 _ _ _ (by simp) ⟨rfl, m', by omega, hm2, by omega, by simp only [Za, Zw, Ye, i0], by simp only [Za, Zw, Ye, i2], by simp only [Za, Zw, Ye, i3, hnil], by simp only [Za, Zw, Ye, i9], by simp only [Za, Zw, Ye, i13], by simp only [Za, Zw, Ye, i14], g6, n6, k6⟩
          · have d2' : ¬ (t : Int) < 32 := by omega
            simp (disch := (first | omega | rfl | (simp only [Yn]; omega))) only [↓reduceIte, reduceCtorEq, Za, Zb, Zc, Zd, Ze, Zf, Zg, Zh, Zi, Zj, Zk, Zl, Zm, Zn, Zo, Zp, Zq, Zr, Zs, Zt, Zu, Zv, gval, Zw, rb0, rb1, rb2, rb3, rb4, tf0, tf1, tf2, tf3, Yk, Yh, overL_one, if_pos, stX_exactN, i3, i16, d2', runG_undef]
            exact hQx2 _ _ _ (by simp) ⟨rfl, m', by omega, hm2, by omega, by simp only [Za, Zw, Ye, i0], by simp only [Za, Zw, Ye, i2], by simp only [Za, Zw, Ye, i3], by simp only [Za, Zw, Ye, i9], by simp only [Za, Zw, Ye, i13], by simp only [Za, Zw, Ye, i14], g6, n6, k6⟩
        · exact ⟨(o + m) % 32, m, rfl, by omega, by omega, by omega, by omega, by omega, by simp only [Za, Zw, Ye, e0], by simp only [Za, Zw, Ye, e2], by simp only [Za, Zw, Ye, e3], by simp only [Za, Zw, Ye, e9], by simp only [Za, Zw, Ye], by simp only [Za, Zw, Ye], by simp only [Za, Zw, Ye], g5, rfl, fun _ _ => rfl⟩
        · rintro ex e h6 - ⟨rfl, m', hm1, hm2, hm3, i0, i2, i3, i9, i13, i14, g6, n6, k6⟩
          have f6 : Fs h6 bd bl ⟨s1.n, s1.a, s1.b, s1.ino, wrD (s1.ino i) o l s1.dat m⟩ := f5.keep (by omega) (k6 _ (by have := f4.d.bd_lt; omega)) (k6 _ (by have := f4.d.bl_lt; omega))
          simp (disch := (first | omega | rfl | (simp only [Yn]; omega))) only [↓reduceIte, reduceCtorEq, Za, Zb, Zc, Zd, Ze, Zf, Zg, Zh, Zi, Zj, Zk, Zl, Zm, Zn, Zo, Zp, Zq, Zr, Zs, Zt, Zu, Zv, gval, Zw, rb0, rb1, rb2, rb3, rb4, tf0, tf1, tf2, tf3, Yk, Yh, overL_one, if_pos, stX_exactN, i0, i13, i14, u_invoke, invK_iface, inv_put]
          refine runC_of (fbput_spec pl f6 (b := bk) (by omega) (by show bk < s1.n; omega) g6 (off := 0) (w := wrD (s1.ino i) o l s1.dat m' bk) (by rw [List.drop_zero, List.take_of_length_le (by rw [hl32]; omega)]) (wrD_ok f3.wf.dat m' bk) (fun h7 n7 f7 k7 => ?_) (by have := f4.d.bd_lt; omega))
          simp (disch := (first | omega | rfl | (simp only [Yn]; omega))) only [↓reduceIte, reduceCtorEq, Za, Zb, Zc, Zd, Ze, Zf, Zg, Zh, Zi, Zj, Zk, Zl, Zm, Zn, Zo, Zp, Zq, Zr, Zs, Zt, Zu, Zv, gval, Zw, rb0, rb1, rb2, rb3, rb4, tf0, tf1, tf2, tf3, Yk, Yh, overL_one, if_pos, stX_exactN, show ((0 : Int) == 0) = true from rfl]
          have hdd : (FS.putB ⟨s1.n, s1.a, s1.b, s1.ino, wrD (s1.ino i) o l s1.dat m⟩ bk (wrD (s1.ino i) o l s1.dat m' bk)) = ⟨s1.n, s1.a, s1.b, s1.ino, wrD (s1.ino i) o l s1.dat m'⟩ := by
            unfold FS.putB
            congr 1
            funext b' k'
            by_cases e : b' = bk
            · rw [if_pos e, e]
            · rw [if_neg e, show m' = m + (m' - m) by omega]
              exact (wrD_other (m' - m) (fun q v1 v2 => by rw [show (o + q) / 32 = (o + m) / 32 by omega, hbk, Int.toNat_natCast]) b' k' e).symm
          rw [hdd] at f7
          refine hQn _ _ _ (by omega) ⟨m', rfl, hm2, by simp only [Za, Zw, Ye, i0], by simp only [Za, Zw, Ye, i2], by simp only [Za, Zw, Ye, i3], by simp only [Za, Zw, Ye, i9], f7, ?_, by omega, fun b' v1 v2 v3 => ?_⟩
          · rw [k7 _ (by omega) (by omega), k6 _ (by omega), k5 _ (by omega) (by omega)]; exact g4
          · rw [k7 _ v2 v3, k6 _ (by omega), k5 _ (by omega) v2]; exact hk4 b' v1 v2 v3
      · have hm0 : m = l.length := by omega
        subst hm0
        have d1 : ¬ (0 : Int) < ((l.length - l.length : Nat) : Int) := by omega
        simp (disch := (first | omega | rfl | (simp only [Yn]; omega))) only [↓reduceIte, reduceCtorEq, Za, Zb, Zc, Zd, Ze, Zf, Zg, Zh, Zi, Zj, Zk, Zl, Zm, Zn, Zo, Zp, Zq, Zr, Zs, Zt, Zu, Zv, gval, Zw, rb0, rb1, rb2, rb3, rb4, tf0, tf1, tf2, tf3, Yk, Yh, overL_one, if_pos, stX_exactN, e3, hdl, d1]
        exact hQx _ _ _ (by simp) ⟨rfl, f4, hn4, hk4⟩
    · exact ⟨0, rfl, by omega, by simp only [Za, Zw, Ye], by simp only [Za, Zw, Ye], by simp only [Za, Zw, Ye, List.drop_zero], by simp only [Za, Zw, Ye], f3, g3, Nat.le_refl _, hk3⟩
    · rintro ex e h4 - ⟨rfl, f4, hn4, hk4⟩
      simp only [↓reduceIte, reduceCtorEq, Za, Zb, Zc, Zd, Ze, Zf, Zg, Zh, Zi, Zj, Zk, Zl, Zm, Zn, Zo, Zp, Zq, Zr, Zs, Zt, Zu, Zv, gval, Zw, rb0, rb1, rb2, rb3, rb4, tf0, tf1, tf2, tf3, Yk]
      exact hR4 o rfl hle c4 hroomok h4 (by unfold FS.write; rw [hs1]; exact f4) (by omega) hk4
end Go.Proofs.YtbgminppkacdlaaGreatDoor
end
section
/- Files: what they hold, whatever is done to them. No condition. -/
namespace Go.Proofs.YtbgminppkacdlaaGreatDoor
open Go.AM
open Nat renaming reduceBEq → Za, reduceEqDiff → Zb, reduceAdd → Zc, reduceSub → Zd, reduceMul → Ze, reduceLT → Zf, reduceLeDiff → Zg, reduceDiv → Zh, reduceMod → Zi, reducePow → Zj
open Int renaming reduceAdd → Zk, reduceSub → Zl, reduceMul → Zm, reduceLT → Zn, reduceLE → Zo, reduceEq → Zp, reduceNe → Zq, reduceNeg → Zr, reduceToNat → Zs, reduceDiv → Zt, reduceMod → Zu, reducePow → Zv, cast_ofNat_Int → Zw
set_option linter.unusedSimpArgs false
def FS.blk (s : FS) (i k : Nat) : Nat := (s.ino i (3 + k)).toNat
structure FS.Inv (s : FS) (F : Nat → Prop) : Prop where
  wf : s.Wf
  low : s.Low
  ino : ∀ i, F i → s.Ino i
  bit : ∀ i k, F i → k < needN (s.size i) → s.b.testBit (s.blk i k) = true
  sep : ∀ i k j m, F i → F j → k < needN (s.size i) → m < needN (s.size j) → s.blk i k = s.blk j m → i = j ∧ k = m
  tail : ∀ i p, F i → s.size i ≤ p → p < 32 * needN (s.size i) → s.dat (s.blk i (p / 32)) (p % 32) = 0
theorem grow_facts {n : Nat} {g : Rz} {k0 : Nat} (hn : n ≤ 60) (o : RzOk n g) (m : Nat) (h : popc 64 g.b + m ≤ n) :
    (∀ p, (g.grow k0 m).b.testBit p = true ↔ g.b.testBit p = true ∨ ∃ q, q < m ∧ p = ((g.grow k0 m).x (3 + (k0 + q))).toNat) ∧
    (∀ q, q < m → g.b.testBit ((g.grow k0 m).x (3 + (k0 + q))).toNat = false ∧ (g.grow k0 m).dat ((g.grow k0 m).x (3 + (k0 + q))).toNat = fun _ => 0) ∧
    (∀ q r, q < m → r < m → ((g.grow k0 m).x (3 + (k0 + q))).toNat = ((g.grow k0 m).x (3 + (k0 + r))).toNat → q = r) ∧
    (∀ b, g.b.testBit b = true → (g.grow k0 m).dat b = g.dat b) := by
  induction m with
  | zero => exact ⟨fun p => ⟨.inl, fun q => q.resolve_right fun ⟨_, q, _⟩ => by omega⟩, fun q hq => by omega, fun q r hq => by omega, fun b _ => rfl⟩
  | succ m ih =>
    obtain ⟨i1, i2, i3, i4⟩ := ih (by omega)
    obtain ⟨o1, h1⟩ := popc_grow (k0 := k0) hn o m (by omega)
    obtain ⟨z1, z2, _⟩ := lowZ_spec (bitN_small o1.b hn)
    generalize hg : Rz.grow k0 m g = gm at *
    have hx : ∀ q, (Rz.grow k0 (m + 1) g).x (3 + (k0 + q)) = if q = m then ((lowZ gm.b : Nat) : Int) else gm.x (3 + (k0 + q)) := fun q => by
      show ((Rz.grow k0 m g).grow1 (k0 + m)).x (3 + (k0 + q)) = _
      rw [hg]
      show (if 3 + (k0 + q) = 3 + (k0 + m) then _ else _) = _
      by_cases e : q = m
      · rw [if_pos (by omega), if_pos e]
      · rw [if_neg (by omega), if_neg e]
    have hxm : ((Rz.grow k0 (m + 1) g).x (3 + (k0 + m))).toNat = lowZ gm.b := by rw [hx, if_pos rfl, Int.toNat_natCast]
    have hxq : ∀ q, q < m → (Rz.grow k0 (m + 1) g).x (3 + (k0 + q)) = gm.x (3 + (k0 + q)) := fun q hq => by rw [hx, if_neg (by omega)]
    have hb : ∀ p, (Rz.grow k0 (m + 1) g).b.testBit p = (gm.b.testBit p || decide (lowZ gm.b = p)) := fun p => by
      show ((Rz.grow k0 m g).grow1 (k0 + m)).b.testBit p = _
      rw [hg]
      exact testBit_with _ _ _
    have hd : ∀ b, (Rz.grow k0 (m + 1) g).dat b = if b = lowZ gm.b then fun _ => 0 else gm.dat b := fun b => by
      show ((Rz.grow k0 m g).grow1 (k0 + m)).dat b = _
      rw [hg]; rfl
    have hz : g.b.testBit (lowZ gm.b) = false := by
      cases e : g.b.testBit (lowZ gm.b) with
      | false => rfl
      | true => rw [(i1 _).2 (.inl e)] at z2; cases z2
    have hne : ∀ q, q < m → (gm.x (3 + (k0 + q))).toNat ≠ lowZ gm.b := fun q hq e => by
      have := (i1 (gm.x (3 + (k0 + q))).toNat).2 (.inr ⟨q, hq, rfl⟩)
      rw [e, z2] at this; cases this
    refine ⟨fun p => ?_, fun q hq => ?_, fun q r hq hr e => ?_, fun b hbb => ?_⟩
    · rw [hb, Bool.or_eq_true, i1, decide_eq_true_eq]
      constructor
      · rintro ((q | ⟨q, q1, q2⟩) | q)
        · exact .inl q
        · exact .inr ⟨q, by omega, by rw [hxq q q1]; exact q2⟩
        · exact .inr ⟨m, by omega, by rw [hxm]; exact q.symm⟩
      · rintro (q | ⟨q, q1, q2⟩)
        · exact .inl (.inl q)
        · by_cases e : q = m
          · subst e
            rw [hxm] at q2
            exact .inr q2.symm
          · rw [hxq q (by omega)] at q2
            exact .inl (.inr ⟨q, by omega, q2⟩)
    · by_cases e : q = m
      · subst e
        rw [hxm, hd, if_pos rfl]
        exact ⟨hz, rfl⟩
      · rw [hxq q (by omega), hd, if_neg (hne q (by omega))]
        exact i2 q (by omega)
    · by_cases e1 : q = m
      · subst e1
        by_cases e2 : r = q
        · exact e2.symm
        · rw [hxm, hxq r (by omega)] at e
          exact absurd e.symm (hne r (by omega))
      · by_cases e2 : r = m
        · subst e2
          rw [hxm, hxq q (by omega)] at e
          exact absurd e (hne q (by omega))
        · rw [hxq q (by omega), hxq r (by omega)] at e
          exact i3 q r (by omega) (by omega) e
    · rw [hd, if_neg (fun e => by rw [e, hz] at hbb; cases hbb)]
      exact i4 b hbb
theorem shr_facts {g : Rz} {k0 : Nat} (hb : g.b < 18446744073709551616) (m : Nat) : (g.shr k0 m).b < 18446744073709551616 ∧ ∀ p, (g.shr k0 m).b.testBit p = true ↔ g.b.testBit p = true ∧ ∀ q, q < m → p ≠ (g.x (3 + (k0 + q))).toNat := by
  induction m with
  | zero => exact ⟨hb, fun p => ⟨fun q => ⟨q, fun _ q => by omega⟩, fun q => q.1⟩⟩
  | succ m ih =>
    obtain ⟨h1, h2⟩ := ih
    have hbb : (Rz.shr k0 (m + 1) g).b = without (Rz.shr k0 m g).b (bitN (g.x (3 + (k0 + m))).toNat) := by
      show markW (Rz.shr k0 m g).b ((Rz.shr k0 m g).x (3 + (k0 + m))).toNat false = _
      rw [shr_x m _ (by omega)]; rfl
    refine ⟨by rw [hbb]; exact without_lt _ _, fun p => ?_⟩
    rw [hbb, testBit_drop h1, Bool.and_eq_true, h2, Bool.not_eq_true', decide_eq_false_iff_not]
    constructor
    · rintro ⟨⟨q1, q2⟩, q3⟩
      refine ⟨q1, fun q hq e => ?_⟩
      by_cases c : q = m
      · subst c; exact q3 e.symm
      · exact q2 q (by omega) e
    · rintro ⟨q1, q2⟩
      exact ⟨⟨q1, fun q hq => q2 q (by omega)⟩, fun e => q2 m (by omega) e.symm⟩
variable {s : FS} {F : Nat → Prop}
structure RzFacts (s : FS) (i sz : Nat) (g : Rz) : Prop where
  old : ∀ k, k < needN (s.size i) → k < needN sz → (g.x (3 + k)).toNat = s.blk i k
  fresh : ∀ k, needN (s.size i) ≤ k → k < needN sz → s.b.testBit (g.x (3 + k)).toNat = false ∧ g.dat (g.x (3 + k)).toNat = fun _ => 0
  sep : ∀ k m, needN (s.size i) ≤ k → k < needN sz → needN (s.size i) ≤ m → m < needN sz → (g.x (3 + k)).toNat = (g.x (3 + m)).toNat → k = m
  bit : ∀ p, g.b.testBit p = true ↔ (s.b.testBit p = true ∧ ∀ k, needN sz ≤ k → k < needN (s.size i) → p ≠ s.blk i k) ∨ ∃ k, needN (s.size i) ≤ k ∧ k < needN sz ∧ p = (g.x (3 + k)).toNat
  dat : ∀ b, s.b.testBit b = true → g.dat b = s.dat b
theorem rz_facts (f : s.Wf) (hlow : s.Low) {i sz : Nat} (hle : popc 64 s.b + (needN sz - needN (s.size i)) ≤ s.n) : RzFacts s i sz (s.rz i sz) := by
  obtain ⟨c0, hc0⟩ : ∃ c0, needN (s.size i) = c0 := ⟨_, rfl⟩
  obtain ⟨w0, hw0⟩ : ∃ w0, needN sz = w0 := ⟨_, rfl⟩
  have hrz : s.rz i sz = Rz.shr w0 (c0 - w0) (Rz.grow c0 (w0 - c0) ⟨s.b, s.dat, s.ino i⟩) := by unfold FS.rz; rw [hc0, hw0]
  have o := rz_start f hlow i
  rw [hc0, hw0] at hle
  by_cases c : c0 ≤ w0
  · have hrz : s.rz i sz = Rz.grow c0 (w0 - c0) ⟨s.b, s.dat, s.ino i⟩ := by rw [hrz, show c0 - w0 = 0 by omega]; rfl
    obtain ⟨g1, g2, g3, g4⟩ := grow_facts (k0 := c0) f.n2 o (w0 - c0) hle
    rw [← hrz] at g1 g2 g3 g4
    constructor <;> (try rw [hc0]) <;> (try rw [hw0])
    · intro k h1 h2
      rw [hrz, grow_x _ _ (by omega)]; rfl
    · intro k h1 h2
      have := g2 (k - c0) (by omega)
      rwa [show c0 + (k - c0) = k by omega] at this
    · intro k m h1 h2 h3 h4 e
      have := g3 (k - c0) (m - c0) (by omega) (by omega)
      rw [show c0 + (k - c0) = k by omega, show c0 + (m - c0) = m by omega] at this
      have := this e
      omega
    · intro p
      rw [g1]
      constructor
      · rintro (q | ⟨q, q1, q2⟩)
        · exact .inl ⟨q, fun k h1 h2 => by omega⟩
        · exact .inr ⟨c0 + q, by omega, by omega, q2⟩
      · rintro (q | ⟨k, q1, q2, q3⟩)
        · exact .inl q.1
        · exact .inr ⟨k - c0, by omega, by rw [show c0 + (k - c0) = k by omega]; exact q3⟩
    · exact g4
  · have hrz : s.rz i sz = Rz.shr w0 (c0 - w0) ⟨s.b, s.dat, s.ino i⟩ := by rw [hrz, show w0 - c0 = 0 by omega]; rfl
    obtain ⟨_, g2⟩ := shr_facts (g := ⟨s.b, s.dat, s.ino i⟩) (k0 := w0) (by have := bitN_small f.b f.n2; show s.b < _; omega) (c0 - w0)
    rw [← hrz] at g2
    constructor <;> (try rw [hc0]) <;> (try rw [hw0])
    · intro k h1 h2
      rw [hrz, shr_x _ _ (by omega)]; rfl
    · intro k h1 h2; omega
    · intro k m h1 h2; omega
    · intro p
      rw [g2]
      constructor
      · rintro ⟨q1, q2⟩
        refine .inl ⟨q1, fun k h1 h2 e => q2 (k - w0) (by omega) ?_⟩
        rw [show w0 + (k - w0) = k by omega]; exact e
      · rintro (⟨q1, q2⟩ | ⟨k, q1, q2, _⟩)
        · exact ⟨q1, fun q hq e => q2 (w0 + q) (by omega) (by omega) e⟩
        · omega
    · intro b _
      rw [hrz, shr_dat]
end Go.Proofs.YtbgminppkacdlaaGreatDoor
end
section
/- An empty file system. No condition. -/
namespace Go.Proofs.YtbgminppkacdlaaGreatDoor
open Go.AM
def FS.new (n : Nat) : FS := ⟨n, 1, 4095, fun i j => if i = 0 then (if j = 0 then 2 else if j = 1 then 1 else 0) else 0, fun _ _ => 0⟩
theorem words0_fs (n : Nat) : words0 n = flatD n (FS.new n).D := by
  unfold words0 flatD
  refine List.map_congr_left fun i hi => ?_
  have hi : i < n * 32 := List.mem_range.1 hi
  unfold FS.D FS.new
  simp only
  by_cases h0 : i / 32 = 0
  · rw [if_pos h0]
    have e : i % 32 = i := by omega
    rw [e]
    by_cases c0 : i = 0
    · rw [if_pos c0, if_pos c0]
    · rw [if_neg c0, if_neg c0]
      by_cases c1 : i = 1
      · rw [if_pos c1, if_pos c1]
      · rw [if_neg c1, if_neg c1]
        by_cases c2 : i = 2
        · rw [if_pos c2, if_pos c2]; rfl
        · rw [if_neg c2, if_neg c2]
          by_cases c3 : i = 3
          · rw [if_pos c3, if_pos c3]; rfl
          · rw [if_neg c3, if_neg c3, if_neg (by omega), if_neg (by omega)]
  · rw [if_neg h0, if_neg (by omega), if_neg (by omega), if_neg (by omega), if_neg (by omega)]
    by_cases c : i / 32 < 12
    · rw [if_pos c]
      by_cases c27 : i % 32 < 27
      · rw [if_pos c27]
        by_cases a0 : 3 * (i / 32 - 1) + i % 32 / 9 = 0
        · rw [if_pos a0]
          by_cases c32 : i = 32
          · rw [if_pos c32, if_pos (by omega)]
          · rw [if_neg c32]
            by_cases c33 : i = 33
            · rw [if_pos c33, if_neg (show ¬ i % 32 % 9 = 0 by omega), if_pos (by omega)]
            · rw [if_neg c33, if_neg (show ¬ i % 32 % 9 = 0 by omega), if_neg (by omega)]
        · rw [if_neg a0, if_neg (by omega), if_neg (by omega)]
      · rw [if_neg c27, if_neg (by omega), if_neg (by omega)]
    · rw [if_neg c, if_neg (by omega), if_neg (by omega)]
theorem FS.Wf.new {n : Nat} (h1 : 13 ≤ n) (h2 : n ≤ 60) : (FS.new n).Wf := by
  refine ⟨h1, h2, (by show 1 < 4294967296; omega), ?_, fun i j => ?_, fun i j => by show (0 : Int) ≤ 0 ∧ (0 : Int) < _; omega⟩
  · show 4095 < bitN n
    have : 2 ^ 13 ≤ bitN n := Nat.pow_le_pow_right (by omega) h1
    omega
  · unfold FS.new
    simp only
    split
    · split
      · omega
      · split <;> omega
    · omega
end Go.Proofs.YtbgminppkacdlaaGreatDoor
end
section
/- The lowest bits of a word. No condition. -/
namespace Go.Proofs.YtbgminppkacdlaaGreatDoor
open Go.AM
open Nat renaming reduceBEq → Za, reduceEqDiff → Zb, reduceAdd → Zc, reduceSub → Zd, reduceMul → Ze, reduceLT → Zf, reduceLeDiff → Zg, reduceDiv → Zh, reduceMod → Zi, reducePow → Zj
open Int renaming reduceAdd → Zk, reduceSub → Zl, reduceMul → Zm, reduceLT → Zn, reduceLE → Zo, reduceEq → Zp, reduceNe → Zq, reduceNeg → Zr, reduceToNat → Zs, reduceDiv → Zt, reduceMod → Zu, reducePow → Zv, cast_ofNat_Int → Zw
set_option linter.unusedSimpArgs false
def lowN (m : Nat) : Nat := bitN m - 1
theorem lowN_bit (m i : Nat) : (lowN m).testBit i = decide (i < m) := Nat.testBit_two_pow_sub_one m i
end Go.Proofs.YtbgminppkacdlaaGreatDoor
end
section
/- Files: Resize, Write, Alloc and what they hold. No condition. -/
namespace Go.Proofs.YtbgminppkacdlaaGreatDoor
open Go.AM
open Nat renaming reduceBEq → Za, reduceEqDiff → Zb, reduceAdd → Zc, reduceSub → Zd, reduceMul → Ze, reduceLT → Zf, reduceLeDiff → Zg, reduceDiv → Zh, reduceMod → Zi, reducePow → Zj
open Int renaming reduceAdd → Zk, reduceSub → Zl, reduceMul → Zm, reduceLT → Zn, reduceLE → Zo, reduceEq → Zp, reduceNe → Zq, reduceNeg → Zr, reduceToNat → Zs, reduceDiv → Zt, reduceMod → Zu, reducePow → Zv, cast_ofNat_Int → Zw
set_option linter.unusedSimpArgs false
variable {s : FS} {F : Nat → Prop}
theorem byteAt_blk (s : FS) (i p : Nat) : s.byteAt i p = UInt8.ofNat (s.dat (s.blk i (p / 32)) (p % 32)).toNat := rfl
theorem resize_inv (I : s.Inv F) {i sz : Nat} (hi : F i) (hsz : sz ≤ 192) (hle : popc 64 s.b + (needN sz - needN (s.size i)) ≤ s.n) :
    (s.resize i sz).Inv F ∧ (∀ p, p < sz → (s.resize i sz).byteAt i p = if p < s.size i then s.byteAt i p else 0) ∧ (s.resize i sz).size i = sz ∧ (∀ j, j ≠ i → (s.resize i sz).size j = s.size j) ∧ ∀ j p, F j → j ≠ i → p < s.size j → (s.resize i sz).byteAt j p = s.byteAt j p := by
  have rf := rz_facts I.wf I.low (i := i) hle
  have ro := rz_ok I.wf I.low (I.ino i hi) hle
  have hsize : (s.resize i sz).size i = sz := resize_size
  have hsizej : ∀ j, j ≠ i → (s.resize i sz).size j = s.size j := fun j hj => by
    show ((if j = i then updN (s.rz i sz).x 2 sz else s.ino j) 2).toNat = _
    rw [if_neg hj]; rfl
  have hblk : ∀ k, (s.resize i sz).blk i k = ((s.rz i sz).x (3 + k)).toNat := fun k => by
    show ((if i = i then updN (s.rz i sz).x 2 sz else s.ino i) (3 + k)).toNat = _
    rw [if_pos rfl]
    unfold updN
    rw [if_neg (by omega)]
  have hblkj : ∀ j k, j ≠ i → (s.resize i sz).blk j k = s.blk j k := fun j k hj => by
    show ((if j = i then updN (s.rz i sz).x 2 sz else s.ino j) (3 + k)).toNat = _
    rw [if_neg hj]; rfl
  have hdat : (s.resize i sz).dat = s.cut i sz (s.rz i sz) := rfl
  have hb : (s.resize i sz).b = (s.rz i sz).b := rfl
  have hino : ∀ j k, (s.resize i sz).ino j k = (if j = i then updN (s.rz i sz).x 2 sz else s.ino j) k := fun _ _ => rfl
  generalize hg : s.rz i sz = g at *
  -- the last block's end
  have hcut : ∀ b k, s.cut i sz g b k = if (sz < s.size i ∧ 0 < sz % 32) ∧ b = s.blk i (needN sz - 1) ∧ ¬ k < sz % 32 then 0 else g.dat b k := fun b k => by
    unfold FS.cut
    by_cases c : sz < s.size i ∧ 0 < sz % 32
    · rw [if_pos c, rf.old (needN sz - 1) (by unfold needN; omega) (by unfold needN; omega)]
      by_cases e : b = s.blk i (needN sz - 1)
      · rw [if_pos e]
        by_cases e2 : k < sz % 32
        · rw [if_pos e2, if_neg (fun q => q.2.2 e2)]
        · rw [if_neg e2, if_pos ⟨c, e, e2⟩]
      · rw [if_neg e, if_neg (fun q => e q.2.1)]
    · rw [if_neg c, if_neg (fun q => c q.1)]
  have hoth : ∀ j k, F j → j ≠ i → k < needN (s.size j) → g.dat (s.blk j k) = s.dat (s.blk j k) ∧ ∀ t, s.cut i sz g (s.blk j k) t = s.dat (s.blk j k) t := fun j k hj hne hk => by
    have h1 := rf.dat _ (I.bit j k hj hk)
    refine ⟨h1, fun t => ?_⟩
    rw [hcut, if_neg, h1]
    rintro ⟨⟨c1, c2⟩, c3, _⟩
    exact hne (I.sep j k i _ hj hi hk (by unfold needN; omega) c3).1
  refine ⟨⟨?_, ?_, fun j hj => ?_, fun j k hj hk => ?_, fun j k j' m hj hj' hk hm e => ?_, fun j p hj h1 h2 => ?_⟩, fun p hp => ?_, hsize, hsizej, fun j p hj hne hp => ?_⟩
  · refine ⟨I.wf.n1, I.wf.n2, I.wf.a, ?_, fun j k => ?_, fun b k => ?_⟩
    · rw [hb]; exact ro.b
    · rw [hino]
      split
      · unfold updN
        split
        · omega
        · exact ro.x k
      · exact I.wf.ino j k
    · rw [hdat, hcut]
      split
      · omega
      · exact ro.dat b k
  · intro j hj
    rw [hb]; exact ro.low j hj
  · by_cases e : j = i
    · subst e
      exact resize_ino I.wf I.low (I.ino j hj) hsz hle
    · have := I.ino j hj
      have e2 : ∀ k, (s.resize i sz).ino j k = s.ino j k := fun k => by
        rw [hino, if_neg e]
      exact ⟨by rw [e2]; exact this.sz, fun k hk => by rw [hsizej j e] at hk; rw [e2]; exact this.bl k hk⟩
  · rw [hb, rf.bit]
    by_cases e : j = i
    · subst e
      rw [hsize] at hk
      rw [hblk]
      by_cases c : k < needN (s.size j)
      · rw [rf.old k c hk]
        exact .inl ⟨I.bit j k hj c, fun k' h1 h2 e => by have := (I.sep j k j k' hj hj c h2 e).2; omega⟩
      · exact .inr ⟨k, by omega, hk, rfl⟩
    · rw [hsizej j e] at hk
      rw [hblkj j k e]
      exact .inl ⟨I.bit j k hj hk, fun k' h1 h2 q => e (I.sep j k i k' hj hi hk h2 q).1⟩
  · by_cases e1 : j = i
    · subst e1
      rw [hsize] at hk
      by_cases e2 : j' = j
      · subst e2
        rw [hsize] at hm
        rw [hblk, hblk] at e
        refine ⟨rfl, ?_⟩
        by_cases c1 : k < needN (s.size j')
        · by_cases c2 : m < needN (s.size j')
          · rw [rf.old k c1 hk, rf.old m c2 hm] at e
            exact (I.sep j' k j' m hj hj c1 c2 e).2
          · rw [rf.old k c1 hk] at e
            have h1 := I.bit j' k hj c1
            rw [e, (rf.fresh m (by omega) hm).1] at h1
            cases h1
        · by_cases c2 : m < needN (s.size j')
          · rw [rf.old m c2 hm] at e
            have h1 := I.bit j' m hj c2
            rw [← e, (rf.fresh k (by omega) hk).1] at h1
            cases h1
          · exact rf.sep k m (by omega) hk (by omega) hm e
      · rw [hsizej j' e2] at hm
        rw [hblk, hblkj j' m e2] at e
        by_cases c1 : k < needN (s.size j)
        · rw [rf.old k c1 hk] at e
          exact I.sep j k j' m hj hj' c1 hm e
        · have h1 := I.bit j' m hj' hm
          rw [← e, (rf.fresh k (by omega) hk).1] at h1
          cases h1
    · rw [hsizej j e1] at hk
      rw [hblkj j k e1] at e
      by_cases e2 : j' = i
      · subst e2
        rw [hsize] at hm
        rw [hblk] at e
        by_cases c2 : m < needN (s.size j')
        · rw [rf.old m c2 hm] at e
          exact I.sep j k j' m hj hj' hk c2 e
        · have h1 := I.bit j k hj hk
          rw [e, (rf.fresh m (by omega) hm).1] at h1
          cases h1
      · rw [hsizej j' e2] at hm
        rw [hblkj j' m e2] at e
        exact I.sep j k j' m hj hj' hk hm e
  · rw [hdat]
    by_cases e : j = i
    · subst e
      rw [hsize] at h1 h2
      have hk : p / 32 < needN sz := by omega
      rw [hblk]
      by_cases c : p / 32 < needN (s.size j)
      · rw [rf.old _ c hk, hcut]
        have hlast : p / 32 = needN sz - 1 ∧ 0 < sz % 32 ∧ sz % 32 ≤ p % 32 := by unfold needN at h2 hk ⊢; omega
        by_cases c2 : sz < s.size j
        · rw [if_pos ⟨⟨c2, hlast.2.1⟩, by rw [hlast.1], by omega⟩]
        · rw [if_neg (fun q => c2 q.1.1), rf.dat _ (I.bit j _ hj c)]
          exact I.tail j p hj (by omega) (by omega)
      · rw [hcut, if_neg (fun q => by have := q.1.1; unfold needN at c hk; omega), (rf.fresh _ (by omega) hk).2]
    · rw [hsizej j e] at h1 h2
      rw [hblkj j _ e, (hoth j _ hj e (by omega)).2]
      exact I.tail j p hj h1 h2
  · have hk : p / 32 < needN sz := by unfold needN; omega
    rw [byteAt_blk, byteAt_blk, hdat, hblk]
    by_cases c : p / 32 < needN (s.size i)
    · rw [rf.old _ c hk, hcut, if_neg, rf.dat _ (I.bit i _ hi c)]
      · by_cases c2 : p < s.size i
        · rw [if_pos c2]
        · rw [if_neg c2, I.tail i p hi (by omega) (by omega)]; rfl
      · rintro ⟨⟨c1, c2⟩, c3, c4⟩
        have := (I.sep i _ i _ hi hi c (by unfold needN; omega) c3).2
        unfold needN at this
        omega
    · rw [hcut, if_neg (fun q => by have := q.1.1; unfold needN at c hk; omega), (rf.fresh _ (by omega) hk).2, if_neg (by unfold needN at c; omega)]; rfl
  · have hk : p / 32 < needN (s.size j) := by unfold needN; omega
    rw [byteAt_blk, byteAt_blk, hdat, hblkj j _ hne, (hoth j _ hj hne hk).2]
theorem wrD_at (I : s.Inv F) {i off : Nat} {l : List UInt8} (hi : F i) : ∀ m, off + m ≤ s.size i → ∀ j p, F j → p < 32 * needN (s.size j) → wrD (s.ino i) off l s.dat m (s.blk j (p / 32)) (p % 32) = if j = i ∧ off ≤ p ∧ p < off + m then ((l[p - off]?.getD 0).toNat : Int) else s.dat (s.blk j (p / 32)) (p % 32)
  | 0, _, j, p, _, _ => by
    rw [if_neg (by omega)]; rfl
  | m + 1, h, j, p, hj, hp => by
    show (if s.blk j (p / 32) = s.blk i ((off + m) / 32) ∧ p % 32 = (off + m) % 32 then ((l[m]?.getD 0).toNat : Int) else wrD (s.ino i) off l s.dat m (s.blk j (p / 32)) (p % 32)) = _
    rw [wrD_at I hi m (by omega) j p hj hp]
    by_cases c : s.blk j (p / 32) = s.blk i ((off + m) / 32) ∧ p % 32 = (off + m) % 32
    · obtain ⟨rfl, e⟩ := I.sep j _ i _ hj hi (by omega) (by unfold needN; omega) c.1
      have : p = off + m := by omega
      subst this
      rw [if_pos c, if_pos ⟨rfl, by omega, by omega⟩, show off + m - off = m by omega]
    · rw [if_neg c]
      by_cases c2 : j = i ∧ off ≤ p ∧ p < off + m
      · rw [if_pos c2, if_pos ⟨c2.1, by omega, by omega⟩]
      · rw [if_neg c2, if_neg]
        rintro ⟨rfl, q1, q2⟩
        have : p = off + m := by omega
        subst this
        exact c ⟨rfl, rfl⟩
theorem write_inv (I : s.Inv F) {i off : Nat} {l : List UInt8} (hi : F i) (hle : off + l.length ≤ 192) (hroom : s.size i < off + l.length → popc 64 s.b + (needN (off + l.length) - needN (s.size i)) ≤ s.n) :
    (s.write i off l).Inv F ∧ (s.write i off l).size i = max (s.size i) (off + l.length) ∧ (∀ j, j ≠ i → (s.write i off l).size j = s.size j) ∧
    (∀ p, p < max (s.size i) (off + l.length) → (s.write i off l).byteAt i p = if off ≤ p ∧ p < off + l.length then l[p - off]?.getD 0 else if p < s.size i then s.byteAt i p else 0) ∧
    ∀ j p, F j → j ≠ i → p < s.size j → (s.write i off l).byteAt j p = s.byteAt j p := by
  obtain ⟨s1, hs1⟩ : ∃ s1, s.room i (off + l.length) = s1 := ⟨_, rfl⟩
  have h1 : s1.Inv F ∧ s1.size i = max (s.size i) (off + l.length) ∧ (∀ j, j ≠ i → s1.size j = s.size j) ∧ (∀ p, p < max (s.size i) (off + l.length) → s1.byteAt i p = if p < s.size i then s.byteAt i p else 0) ∧ ∀ j p, F j → j ≠ i → p < s.size j → s1.byteAt j p = s.byteAt j p := by
    rw [← hs1]
    unfold FS.room
    by_cases c : s.size i < off + l.length
    · rw [if_pos c, Nat.max_eq_right (by omega)]
      obtain ⟨a1, a2, a3, a4, a5⟩ := resize_inv I hi hle (hroom c)
      exact ⟨a1, a3, a4, a2, a5⟩
    · rw [if_neg c, Nat.max_eq_left (by omega)]
      exact ⟨I, rfl, fun _ _ => rfl, fun p hp => by rw [if_pos hp], fun _ _ _ _ _ => rfl⟩
  obtain ⟨I1, a2, a3, a4, a5⟩ := h1
  have hw : s.write i off l = ⟨s1.n, s1.a, s1.b, s1.ino, wrD (s1.ino i) off l s1.dat l.length⟩ := by unfold FS.write; rw [hs1]
  have hle1 : off + l.length ≤ s1.size i := by rw [a2]; exact Nat.le_max_right _ _
  have key := wrD_at I1 (off := off) (l := l) hi l.length hle1
  rw [hw]
  refine ⟨⟨⟨I1.wf.n1, I1.wf.n2, I1.wf.a, I1.wf.b, I1.wf.ino, fun b k => wrD_ok I1.wf.dat _ b k⟩, I1.low, fun j hj => ⟨(I1.ino j hj).sz, (I1.ino j hj).bl⟩, I1.bit, I1.sep, fun j p hj h1 h2 => ?_⟩, a2, a3, fun p hp => ?_, fun j p hj hne hp => ?_⟩
  · show wrD (s1.ino i) off l s1.dat l.length (s1.blk j (p / 32)) (p % 32) = 0
    rw [key j p hj h2, if_neg]
    · exact I1.tail j p hj h1 h2
    · rintro ⟨rfl, q1, q2⟩
      have h1 : s1.size j ≤ p := h1
      omega
  · show UInt8.ofNat (wrD (s1.ino i) off l s1.dat l.length (s1.blk i (p / 32)) (p % 32)).toNat = _
    rw [key i p hi (by rw [a2]; unfold needN; omega)]
    by_cases c : off ≤ p ∧ p < off + l.length
    · rw [if_pos ⟨rfl, c⟩, if_pos c, Int.toNat_natCast, UInt8.ofNat_toNat]
    · rw [if_neg (fun q => c q.2), if_neg c]
      exact a4 p hp
  · show UInt8.ofNat (wrD (s1.ino i) off l s1.dat l.length (s1.blk j (p / 32)) (p % 32)).toNat = _
    rw [key j p hj (by rw [a3 j hne]; unfold needN; omega), if_neg (fun q => hne q.1)]
    exact a5 j p hj hne hp
theorem alloc_inv (I : s.Inv F) {k : Int} (hk : 0 ≤ k ∧ k < 9223372036854775808) (hl : lowZ s.a < 32) (hnew : ¬ F (lowZ s.a)) : (s.alloc k).Inv (fun i => F i ∨ i = lowZ s.a) ∧ (s.alloc k).size (lowZ s.a) = 0 ∧ (∀ j, j ≠ lowZ s.a → (s.alloc k).size j = s.size j) ∧ (∀ j p, j ≠ lowZ s.a → (s.alloc k).byteAt j p = s.byteAt j p) ∧ (s.alloc k).a = markW s.a (lowZ s.a) true ∧ (s.alloc k).b = s.b := by
  obtain ⟨z, hz⟩ : ∃ z, lowZ s.a = z := ⟨_, rfl⟩
  rw [hz] at hl hnew ⊢
  have hi : ∀ j, (s.alloc k).ino j = if j = z then inoK k else s.ino j := fun j => by
    show (if j = lowZ s.a then inoK k else s.ino j) = _
    rw [hz]
  have hj : ∀ j, j ≠ z → (s.alloc k).ino j = s.ino j := fun j h => by rw [hi, if_neg h]
  have hzz : (s.alloc k).ino z = inoK k := by rw [hi, if_pos rfl]
  have s0 : (s.alloc k).size z = 0 := by unfold FS.size; rw [hzz]; rfl
  have sj : ∀ j, j ≠ z → (s.alloc k).size j = s.size j := fun j h => by unfold FS.size; rw [hj j h]
  have bj : ∀ j m, j ≠ z → (s.alloc k).blk j m = s.blk j m := fun j m h => by unfold FS.blk; rw [hj j h]
  have n0 : needN 0 = 0 := rfl
  have hne : ∀ j, F j → j ≠ z := fun j h e => hnew (e ▸ h)
  refine ⟨⟨⟨I.wf.n1, I.wf.n2, ?_, I.wf.b, fun j m => ?_, I.wf.dat⟩, I.low, fun j h => ?_, fun j m h hm => ?_, fun j m j' m' h h' hm hm' e => ?_, fun j p h h1 h2 => ?_⟩, s0, sj, fun j p h => ?_, ?_, rfl⟩
  · show markW s.a (lowZ s.a) true < _
    rw [hz]
    exact markW_lt (n := 32) (on := true) I.wf.a hl (by omega)
  · rw [hi]
    split
    · exact inoK_ok hk m
    · exact I.wf.ino j m
  · rcases h with h | rfl
    · have := I.ino j h
      exact ⟨by rw [hj j (hne j h)]; exact this.sz, fun m hm => by rw [sj j (hne j h)] at hm; rw [hj j (hne j h)]; exact this.bl m hm⟩
    · exact ⟨by rw [hzz]; show (0 : Int) ≤ 192; omega, fun m hm => by rw [s0, n0] at hm; omega⟩
  · rcases h with h | rfl
    · rw [sj j (hne j h)] at hm
      rw [bj j m (hne j h)]; exact I.bit j m h hm
    · rw [s0, n0] at hm; omega
  · rcases h with h | rfl
    · rcases h' with h' | rfl
      · rw [sj j (hne j h)] at hm
        rw [sj j' (hne j' h')] at hm'
        rw [bj j m (hne j h), bj j' m' (hne j' h')] at e
        exact I.sep j m j' m' h h' hm hm' e
      · rw [s0, n0] at hm'; omega
    · rw [s0, n0] at hm; omega
  · rcases h with h | rfl
    · rw [sj j (hne j h)] at h1 h2
      rw [bj j _ (hne j h)]; exact I.tail j p h h1 h2
    · rw [s0, n0] at h2; omega
  · unfold FS.byteAt
    rw [hj j h]; rfl
  · show markW s.a (lowZ s.a) true = _
    rw [hz]
theorem new_inv {n : Nat} (h1 : 13 ≤ n) (h2 : n ≤ 60) : (FS.new n).Inv fun _ => False :=
  ⟨.new h1 h2, fun j hj => by show (4095 : Nat).testBit j = true; have := lowN_bit 12 j; rw [show lowN 12 = 4095 from rfl] at this; rw [this]; exact decide_eq_true hj, fun _ h => h.elim, fun _ _ h => h.elim, fun _ _ _ _ h => h.elim, fun _ _ h => h.elim⟩
end Go.Proofs.YtbgminppkacdlaaGreatDoor
end
section
/- Rows of bytes that are a text's: how they grow. Conditions: as each rule says. -/
namespace Go.Proofs.YtbgminppkacdlaaGreatDoor
open Go.AM
open Nat renaming reduceBEq → Za, reduceEqDiff → Zb, reduceAdd → Zc, reduceSub → Zd, reduceMul → Ze, reduceLT → Zf, reduceLeDiff → Zg, reduceDiv → Zh, reduceMod → Zi, reducePow → Zj
open Int renaming reduceAdd → Zk, reduceSub → Zl, reduceMul → Zm, reduceLT → Zn, reduceLE → Zo, reduceEq → Zp, reduceNe → Zq, reduceNeg → Zr, reduceToNat → Zs, reduceDiv → Zt, reduceMod → Zu, reducePow → Zv, cast_ofNat_Int → Zw
set_option linter.unusedSimpArgs false
variable {sp : Special} {h : Heap} {R : Out → Heap → Prop}
structure BB (h : Heap) (lo : Nat) (v : Value) (l : List UInt8) : Prop where
  is : ∃ b, lo ≤ b ∧ b < h.nx ∧ v = .slice (some ⟨b, 0, none⟩) l.length l.length ∧ h.get b = some (cellsB (u8s l) .bytes)
theorem BB.keep {h' : Heap} {lo : Nat} {v : Value} {l : List UInt8} (x : BB h lo v l) (hn : h.nx ≤ h'.nx) (hk : ∀ b, lo ≤ b → b < h.nx → h'.get b = h.get b) : BB h' lo v l := by
  obtain ⟨b, h1, h2, h3, h4⟩ := x.is
  exact ⟨b, h1, by omega, h3, (hk b h1 h2).trans h4⟩
end Go.Proofs.YtbgminppkacdlaaGreatDoor
end
section
/- InodeFiles: what the plain texts are. No condition. -/
namespace Go.Proofs.YtbgminppkacdlaaGreatDoor
open Go.AM
open Nat renaming reduceBEq → Za, reduceEqDiff → Zb, reduceAdd → Zc, reduceSub → Zd, reduceMul → Ze, reduceLT → Zf, reduceLeDiff → Zg, reduceDiv → Zh, reduceMod → Zi, reducePow → Zj
open Int renaming reduceAdd → Zk, reduceSub → Zl, reduceMul → Zm, reduceLT → Zn, reduceLE → Zo, reduceEq → Zp, reduceNe → Zq, reduceNeg → Zr, reduceToNat → Zs, reduceDiv → Zt, reduceMod → Zu, reducePow → Zv, cast_ofNat_Int → Zw
set_option linter.unusedSimpArgs false
variable {s : FS} {F : Nat → Prop}
theorem FS.Inv.congr {F' : Nat → Prop} (I : s.Inv F) (h : ∀ i, F i ↔ F' i) : s.Inv F' := by
  have : F = F' := funext fun i => propext (h i)
  exact this ▸ I
def FS.txt (s : FS) (i : Nat) : List UInt8 := s.text i 0 (s.size i)
theorem txt_len {i : Nat} : (s.txt i).length = s.size i := text_len.trans (Nat.sub_zero _)
theorem txt_at {i p : Nat} (h : p < s.size i) : (s.txt i)[p]? = some (s.byteAt i p) := by
  unfold FS.txt FS.text
  rw [List.getElem?_map, List.getElem?_range (by omega)]
  show some (s.byteAt i (0 + p)) = _
  rw [Nat.zero_add]
theorem txt_ext {i : Nat} {l : List UInt8} (h1 : l.length = s.size i) (h2 : ∀ p, p < s.size i → l[p]? = some (s.byteAt i p)) : s.txt i = l := by
  apply List.ext_getElem?
  intro p
  by_cases hp : p < s.size i
  · rw [txt_at hp, h2 p hp]
  · rw [List.getElem?_eq_none (by rw [txt_len]; omega), List.getElem?_eq_none (by omega)]
theorem txt_same {s' : FS} {i : Nat} (h1 : s'.size i = s.size i) (h2 : ∀ p, p < s.size i → s'.byteAt i p = s.byteAt i p) : s'.txt i = s.txt i :=
  txt_ext (by rw [txt_len, h1]) fun p hp => by rw [h1] at hp; rw [h2 p hp, txt_at hp]
end Go.Proofs.YtbgminppkacdlaaGreatDoor
end
section
/- Directories: what their bytes say; a file that is written anew. No condition on the program. -/
namespace Go.Proofs.YtbgminppkacdlaaGreatDoor
open Go.AM
open Nat renaming reduceBEq → Za, reduceEqDiff → Zb, reduceAdd → Zc, reduceSub → Zd, reduceMul → Ze, reduceLT → Zf, reduceLeDiff → Zg, reduceDiv → Zh, reduceMod → Zi, reducePow → Zj
open Int renaming reduceAdd → Zk, reduceSub → Zl, reduceMul → Zm, reduceLT → Zn, reduceLE → Zo, reduceEq → Zp, reduceNe → Zq, reduceNeg → Zr, reduceToNat → Zs, reduceDiv → Zt, reduceMod → Zu, reducePow → Zv, cast_ofNat_Int → Zw
set_option linter.unusedSimpArgs false
variable {s : FS} {F : Nat → Prop}
def entB (e : List UInt8 × Nat) : List UInt8 := e.1 ++ List.replicate (8 - e.1.length) 0 ++ [UInt8.ofNat e.2]
def enc : List (List UInt8 × Nat) → List UInt8
  | [] => []
  | e :: r => entB e ++ enc r
def EntOk (e : List UInt8 × Nat) : Prop := e.1.length ≤ 8 ∧ ¬ (0 : UInt8) ∈ e.1 ∧ e.2 < 256
theorem entB_len {e : List UInt8 × Nat} (ok : EntOk e) : (entB e).length = 9 := by
  have := ok.1
  unfold entB
  rw [List.length_append, List.length_append, List.length_replicate, List.length_singleton]; omega
theorem enc_app : ∀ a b : List (List UInt8 × Nat), enc (a ++ b) = enc a ++ enc b
  | [], b => rfl
  | e :: r, b => by
    show entB e ++ enc (r ++ b) = (entB e ++ enc r) ++ enc b
    rw [enc_app r b, List.append_assoc]
theorem enc_len : ∀ {l : List (List UInt8 × Nat)}, (∀ e ∈ l, EntOk e) → (enc l).length = 9 * l.length
  | [], _ => rfl
  | e :: r, ok => by
    show (entB e ++ enc r).length = _
    rw [List.length_append, entB_len (ok e List.mem_cons_self), enc_len fun x hx => ok x (List.mem_cons_of_mem _ hx), List.length_cons]; omega
theorem enc_drop : ∀ {l : List (List UInt8 × Nat)} (j : Nat), (∀ e ∈ l, EntOk e) → (enc l).drop (9 * j) = enc (l.drop j)
  | l, 0, _ => by rw [Nat.mul_zero, List.drop_zero, List.drop_zero]
  | [], j + 1, _ => by rw [List.drop_nil]; exact List.drop_nil
  | e :: r, j + 1, ok => by
    have h9 := entB_len (ok e List.mem_cons_self)
    show (entB e ++ enc r).drop (9 * (j + 1)) = _
    rw [show 9 * (j + 1) = (entB e).length + 9 * j by rw [h9]; omega, List.drop_append, List.drop_eq_nil_of_le (by omega), List.nil_append, Nat.add_sub_cancel_left, List.drop_succ_cons]
    exact enc_drop j fun x hx => ok x (List.mem_cons_of_mem _ hx)
def entAt (t : List UInt8) : List UInt8 × Nat := ((t.take 8).takeWhile (· != 0), (t[8]?.getD 0).toNat)
def decs (t : List UInt8) (n : Nat) : List (List UInt8 × Nat) := (List.range n).map fun j => entAt (t.drop (9 * j))
theorem decs_len {t : List UInt8} {n : Nat} : (decs t n).length = n := by unfold decs; simp
theorem decs_succ {t : List UInt8} {n : Nat} : decs t (n + 1) = decs t n ++ [entAt (t.drop (9 * n))] := by unfold decs; rw [List.range_succ, List.map_append]; rfl
theorem tw_pad {k : Nat} : ∀ {a : List UInt8}, ¬ (0 : UInt8) ∈ a → (a ++ List.replicate k 0).takeWhile (· != 0) = a
  | [], _ => by
    cases k with
    | zero => rfl
    | succ k => rfl
  | b :: a, h => by
    have hb : (b != 0) = true := by
      simp only [bne_iff_ne, ne_eq]
      exact fun e => h (e ▸ List.mem_cons_self)
    rw [List.cons_append, List.takeWhile_cons, if_pos hb, tw_pad fun q => h (List.mem_cons_of_mem _ q)]
theorem entAt_enc {e : List UInt8 × Nat} {r : List UInt8} (ok : EntOk e) : entAt (entB e ++ r) = e := by
  obtain ⟨h1, h2, h3⟩ := ok
  have hp : (e.1 ++ List.replicate (8 - e.1.length) (0 : UInt8)).length = 8 := by rw [List.length_append, List.length_replicate]; omega
  have hs : entB e ++ r = (e.1 ++ List.replicate (8 - e.1.length) (0 : UInt8)) ++ (UInt8.ofNat e.2 :: r) := by unfold entB; rw [List.append_assoc]; rfl
  unfold entAt
  rw [hs, List.take_append_of_le_length (by omega), List.take_of_length_le (by omega), tw_pad h2, List.getElem?_append_right (by omega), hp]
  show (e.1, (UInt8.ofNat e.2).toNat) = e
  rw [UInt8.toNat_ofNat', Nat.mod_eq_of_lt h3]
theorem decs_enc {l : List (List UInt8 × Nat)} (ok : ∀ e ∈ l, EntOk e) : decs (enc l) l.length = l := by
  apply List.ext_getElem?
  intro j
  by_cases hj : j < l.length
  · unfold decs
    rw [List.getElem?_map, List.getElem?_range hj, List.getElem?_eq_getElem hj]
    show some (entAt ((enc l).drop (9 * j))) = _
    rw [enc_drop j ok, List.drop_eq_getElem_cons hj]
    show some (entAt (entB l[j] ++ enc (l.drop (j + 1)))) = _
    rw [entAt_enc (ok _ (List.getElem_mem hj))]
  · rw [List.getElem?_eq_none (by rw [decs_len]; omega), List.getElem?_eq_none (by omega)]
/- ## A file anew -/
theorem popc_sub' : ∀ (k p q : Nat), (∀ i, q.testBit i = true → p.testBit i = true) → popc k q ≤ popc k p
  | 0, _, _, _ => Nat.le_refl _
  | k + 1, p, q, h => by
    show q % 2 + popc k (q / 2) ≤ p % 2 + popc k (p / 2)
    have a := h 0
    rw [Nat.testBit_zero, Nat.testBit_zero, decide_eq_true_eq, decide_eq_true_eq] at a
    have ih := popc_sub' k (p / 2) (q / 2) fun i hi => by rw [Nat.testBit_div_two] at hi ⊢; exact h (i + 1) hi
    omega
theorem rz_pop (f : s.Wf) (hlow : s.Low) {i sz : Nat} (hle : popc 64 s.b + (needN sz - needN (s.size i)) ≤ s.n) : popc 64 (s.rz i sz).b ≤ popc 64 s.b + (needN sz - needN (s.size i)) := by
  obtain ⟨o1, h1⟩ := popc_grow (k0 := needN (s.size i)) f.n2 (rz_start f hlow i) (needN sz - needN (s.size i)) hle
  have h1 : popc 64 (Rz.grow (needN (s.size i)) (needN sz - needN (s.size i)) ⟨s.b, s.dat, s.ino i⟩).b = popc 64 s.b + (needN sz - needN (s.size i)) := h1
  unfold FS.rz
  obtain ⟨_, g2⟩ := shr_facts (g := Rz.grow (needN (s.size i)) (needN sz - needN (s.size i)) ⟨s.b, s.dat, s.ino i⟩) (k0 := needN sz) (by have := bitN_small o1.b f.n2; omega) (needN (s.size i) - needN sz)
  have := popc_sub' 64 (Rz.grow (needN (s.size i)) (needN sz - needN (s.size i)) ⟨s.b, s.dat, s.ino i⟩).b _ fun p hp => ((g2 p).1 hp).1
  omega
theorem needN_mono {a b : Nat} (h : a ≤ b) : needN a ≤ needN b := by unfold needN; omega
theorem write_pop (f : s.Wf) (hlow : s.Low) {i : Nat} {l : List UInt8} (hroom : s.size i < l.length → popc 64 s.b + (needN l.length - needN (s.size i)) ≤ s.n) : popc 64 (s.write i 0 l).b ≤ popc 64 s.b + (needN l.length - needN (s.size i)) := by
  show popc 64 (s.room i (0 + l.length)).b ≤ _
  rw [Nat.zero_add]
  unfold FS.room
  split
  · rename_i c
    exact rz_pop f hlow (i := i) (hroom c)
  · omega
theorem resize_kind {i sz : Nat} (j : Nat) : (s.resize i sz).ino j 0 = s.ino j 0 := by
  show (if j = i then updN (s.rz i sz).x 2 sz else s.ino j) 0 = _
  by_cases e : j = i
  · rw [if_pos e, e]
    show (if 0 = 2 then _ else (s.rz i sz).x 0) = _
    rw [if_neg (by omega)]
    unfold FS.rz
    rw [shr_x _ _ (.inl (by omega)), grow_x _ _ (.inl (by omega))]
  · rw [if_neg e]
theorem resize_lnk {i sz : Nat} (j : Nat) : (s.resize i sz).ino j 1 = s.ino j 1 := by
  show (if j = i then updN (s.rz i sz).x 2 sz else s.ino j) 1 = _
  by_cases e : j = i
  · rw [if_pos e, e]
    show (if 1 = 2 then _ else (s.rz i sz).x 1) = _
    rw [if_neg (by omega)]
    unfold FS.rz
    rw [shr_x _ _ (.inl (by omega)), grow_x _ _ (.inl (by omega))]
  · rw [if_neg e]
theorem write_kind {i : Nat} {l : List UInt8} (j : Nat) : (s.write i 0 l).ino j 0 = s.ino j 0 ∧ (s.write i 0 l).n = s.n ∧ (s.write i 0 l).a = s.a ∧ (s.write i 0 l).ino j 1 = s.ino j 1 := by
  show (s.room i (0 + l.length)).ino j 0 = _ ∧ (s.room i (0 + l.length)).n = s.n ∧ (s.room i (0 + l.length)).a = s.a ∧ (s.room i (0 + l.length)).ino j 1 = s.ino j 1
  unfold FS.room
  split
  · exact ⟨resize_kind j, rfl, rfl, resize_lnk j⟩
  · exact ⟨rfl, rfl, rfl, rfl⟩
structure DW (s s2 : FS) (F : Nat → Prop) (i : Nat) (T : List UInt8) : Prop where
  inv : s2.Inv F
  txt : s2.txt i = T
  oth : ∀ j, F j → j ≠ i → s2.txt j = s.txt j
  kind : ∀ j, s2.ino j 0 = s.ino j 0
  lnk : ∀ j, s2.ino j 1 = s.ino j 1
  n : s2.n = s.n
  a : s2.a = s.a
  pop : popc 64 s2.b ≤ popc 64 s.b + (needN T.length - needN (s.size i))
  sh : (T = [] ∧ s2 = s.resize i 0) ∨ s2 = (s.write i 0 T).resize i T.length
theorem popc_inv (I : s.Inv F) : popc 64 s.b ≤ s.n := popc_small 64 s.n s.b I.wf.b
theorem dw_nil (I : s.Inv F) {i : Nat} (hi : F i) : DW s (s.resize i 0) F i [] := by
  have hle : popc 64 s.b + (needN 0 - needN (s.size i)) ≤ s.n := by have := popc_inv I; rw [show needN 0 = 0 from rfl]; omega
  obtain ⟨b1, b2, b3, b4, b5⟩ := resize_inv I (i := i) (sz := 0) hi (by omega) hle
  refine ⟨b1, List.eq_nil_of_length_eq_zero (by rw [txt_len, b3]), fun j hj e => txt_same (b4 j e) fun p hp => b5 j p hj e hp, resize_kind, resize_lnk, rfl, rfl, ?_, .inl ⟨rfl, rfl⟩⟩
  exact rz_pop I.wf I.low hle
theorem dw_write (I : s.Inv F) {i : Nat} (hi : F i) {T : List UInt8} (hT : T.length ≤ 192) (hroom : s.size i < T.length → popc 64 s.b + (needN T.length - needN (s.size i)) ≤ s.n) : DW s ((s.write i 0 T).resize i T.length) F i T ∧ popc 64 (s.write i 0 T).b + (needN T.length - needN ((s.write i 0 T).size i)) ≤ (s.write i 0 T).n ∧ (s.write i 0 T).Inv F := by
  obtain ⟨a1, a2, a3, a4, a5⟩ := write_inv I (i := i) (off := 0) (l := T) hi (by omega) (by rw [Nat.zero_add]; exact hroom)
  rw [Nat.zero_add] at a2 a4
  obtain ⟨s1, hs1⟩ : ∃ s1, s.write i 0 T = s1 := ⟨_, rfl⟩
  have hp1 := write_pop I.wf I.low (i := i) (l := T) hroom
  have hk1 := fun j => write_kind (s := s) (i := i) (l := T) j
  rw [hs1] at a1 a2 a3 a4 a5 hp1 hk1 ⊢
  have hmn : needN T.length ≤ needN (s1.size i) := needN_mono (by rw [a2]; omega)
  have hle : popc 64 s1.b + (needN T.length - needN (s1.size i)) ≤ s1.n := by have := popc_inv a1; omega
  obtain ⟨b1, b2, b3, b4, b5⟩ := resize_inv a1 (i := i) (sz := T.length) hi hT hle
  refine ⟨⟨b1, txt_ext b3.symm fun p hp => ?_, fun j hj e => ?_, fun j => (resize_kind j).trans (hk1 j).1, fun j => (resize_lnk j).trans (hk1 j).2.2.2, (hk1 0).2.1, (hk1 0).2.2.1, ?_, .inr (by rw [hs1])⟩, hle, a1⟩
  · rw [b3] at hp
    rw [b2 p hp, if_pos (by rw [a2]; omega), a4 p (by omega), if_pos ⟨by omega, by omega⟩, Nat.sub_zero, List.getElem?_eq_getElem hp]; rfl
  · exact (txt_same (b4 j e) fun p hp => b5 j p hj e hp).trans (txt_same (a3 j e) fun p hp => a5 j p hj e hp)
  · have := rz_pop a1.wf a1.low hle
    show popc 64 (s1.rz i T.length).b ≤ _
    omega
structure Dr (s : FS) (F : Nat → Prop) (i : Nat) (l : List (List UInt8 × Nat)) : Prop where
  f : F i
  lt : i < 32
  kind : s.ino i 0 = 2
  txt : s.txt i = enc l
  ok : ∀ e ∈ l, EntOk e
theorem Dr.size {i : Nat} {l : List (List UInt8 × Nat)} (d : Dr s F i l) : s.size i = 9 * l.length := by rw [← txt_len, d.txt, enc_len d.ok]
theorem Dr.other {s2 : FS} {i j : Nat} {l : List (List UInt8 × Nat)} {T : List UInt8} (d : Dr s F j l) (w : DW s s2 F i T) (h : j ≠ i) : Dr s2 F j l := ⟨d.f, d.lt, (w.kind j).trans d.kind, (w.oth j d.f h).trans d.txt, d.ok⟩
theorem Dr.anew {s2 : FS} {i : Nat} {l l2 : List (List UInt8 × Nat)} (d : Dr s F i l) (w : DW s s2 F i (enc l2)) (ok : ∀ e ∈ l2, EntOk e) : Dr s2 F i l2 := ⟨d.f, d.lt, (w.kind i).trans d.kind, w.txt, ok⟩
end Go.Proofs.YtbgminppkacdlaaGreatDoor
end
section
/- Directories: read. Conditions: the disk lies as the rule names. -/
namespace Go.Proofs.YtbgminppkacdlaaGreatDoor
open Go.AM
open Nat renaming reduceBEq → Za, reduceEqDiff → Zb, reduceAdd → Zc, reduceSub → Zd, reduceMul → Ze, reduceLT → Zf, reduceLeDiff → Zg, reduceDiv → Zh, reduceMod → Zi, reducePow → Zj
open Int renaming reduceAdd → Zk, reduceSub → Zl, reduceMul → Zm, reduceLT → Zn, reduceLE → Zo, reduceEq → Zp, reduceNe → Zq, reduceNeg → Zr, reduceToNat → Zs, reduceDiv → Zt, reduceMod → Zu, reducePow → Zv, cast_ofNat_Int → Zw
set_option linter.unusedSimpArgs false
variable {h : Heap} {R : Out → Heap → Prop} {bd bl : Nat} {s : FS} {F : Nat → Prop}
theorem pl16 : Plain sp16 := by constructor <;> rfl
theorem to8 {l : List UInt8} (hl : 8 ≤ l.length) (g : Nat → Option Blk) : effSlice Tryz.prog 9 (.string (mkS l)) none (some (.int .i64 8)) none g = ret (.string (mkS (l.take 8))) := str_to tag_9 (b := 8) hl g
theorem from9 {l : List UInt8} (hl : 9 ≤ l.length) (g : Nat → Option Blk) : effSlice Tryz.prog 9 (.string (mkS l)) (some (.int .i64 9)) none none g = ret (.string (mkS (l.drop 9))) := str_from tag_9 (a := 9) hl g
theorem at8 {l : List UInt8} (hl : 9 ≤ l.length) : effIndex Tryz.prog 9 (.string (mkS l)) (.int .i64 8) = ret (.int .u8 (l[8]?.getD 0).toNat) := by
  have h8 : l[8]? = some l[8] := List.getElem?_eq_getElem (by omega)
  rw [show (Value.int .i64 8) = Value.int .i64 ((8 : Nat) : Int) from rfl, str_index tag_9 h8, h8]; rfl
theorem bs1_93 (x : ByteArray) (v : Int) (nx : Nat) : effBuildSlice Tryz.prog 90 1 [(0, .agg #[.string x, .int .i64 v])] nx = some ⟨.slice (some ⟨nx, 0, none⟩) 1 1, [], [cellsB [.string x, .int .i64 v] .exact]⟩ := by
  rw [u_buildSlice 90 1 nx _ mk_90 (by omega)]; rfl
theorem endR_all {z : Nat} (h : z ≤ 192) : endR z 0 192 = z := by
  unfold endR
  split <;> omega
set_option maxRecDepth 100000 in
set_option maxHeartbeats 1000000 in
theorem read_wf (f : Fs h bd bl s) {k : Nat} {l : List (List UInt8 × Nat)} (I : s.Inv F) (D : Dr s F k l)
    (hR : ∀ h' v, Fs h' bd bl s → h.nx ≤ h'.nx → (∀ b', b' < h.nx → b' ≠ bd → h'.get b' = h.get b') → RowG h' h.nx 2 v l.length (ents l) → R (.ret (.tuple #[v, .int .i64 0])) h') :
    WF Tryz.prog 2 sp16 49 [.iface 22 (.pointer (some ⟨bd, 0, none⟩)), .int .i64 k] h R := by
  refine wf_fn (fn := Tryz.f49) rfl rfl (by kernel_rfl) rfl ?_
  have q1 := f.d.bd_lt
  have q2 := f.d.bl_lt
  have hk := D.lt
  have hsz := D.size
  have hcur : s.size k ≤ 192 := by have := (I.ino k D.f).sz; unfold FS.size; omega
  simp only [↓reduceIte, reduceCtorEq, Za, Zb, Zc, Zd, Ze, Zf, Zg, Zh, Zi, Zj, Zk, Zl, Zm, Zn, Zo, Zp, Zq, Zr, Zs, Zt, Zu, Zv, gval, Zw, rb0, rb1, rb2, rb3, rb4, tf0, tf1, tf2, tf3, Yk, Tryz.f49]
  refine runC_of (figet_any pl16 f (i := (k : Int)) (fun hi => absurd ⟨by omega, by omega⟩ hi) fun k' ek _ h1 f1 n1 k1 => ?_)
  obtain rfl : k = k' := by omega
  have hwl : (i64s (row9 (s.ino k))).length = 9 := by rw [List.length_map, row9_len]
  have hx0 : (i64s (row9 (s.ino k)))[0]? = some (.int .i64 2) := by rw [List.getElem?_map, row9_get (by omega), D.kind]; rfl
  simp (disch := (first | omega | rfl | (simp only [Yn]; omega))) only [↓reduceIte, reduceCtorEq, Za, Zb, Zc, Zd, Ze, Zf, Zg, Zh, Zi, Zj, Zk, Zl, Zm, Zn, Zo, Zp, Zq, Zr, Zs, Zt, Zu, Zv, gval, Zw, rb0, rb1, rb2, rb3, rb4, tf0, tf1, tf2, tf3, Yk, Yh, overL_one, if_pos, stX_exactN, hwl]
  rw [overL_nine rfl hwl, Heap.upd_new]
  obtain ⟨h2, hh2⟩ : ∃ h2, h1.new (cellsB (i64s (row9 (s.ino k))) .exact) = h2 := ⟨_, rfl⟩
  have n2 : h2.nx = h1.nx + 1 := by rw [← hh2, Heap.nx_new]
  have g2 : h2.get h1.nx = some (cellsB (i64s (row9 (s.ino k))) .exact) := by rw [← hh2, Heap.get_new_same]
  have k2 : ∀ b', b' < h1.nx → h2.get b' = h1.get b' := fun b' hb' => by rw [← hh2, Heap.get_new_ne _ _ (by omega)]
  have f2 : Fs h2 bd bl s := f1.keep (by omega) (k2 _ (by omega)) (k2 _ (by omega))
  have k12 : ∀ b', b' < h.nx → b' ≠ bd → h2.get b' = h.get b' := fun b' w1 w2 => by rw [k2 _ (by omega)]; exact k1 b' w1 w2
  rw [hh2]
  simp (disch := (first | omega | rfl | (simp only [Yn]; omega))) only [↓reduceIte, reduceCtorEq, Za, Zb, Zc, Zd, Ze, Zf, Zg, Zh, Zi, Zj, Zk, Zl, Zm, Zn, Zo, Zp, Zq, Zr, Zs, Zt, Zu, Zv, gval, Zw, rb0, rb1, rb2, rb3, rb4, tf0, tf1, tf2, tf3, Yk, Yh, overL_one, if_pos, stX_exactN, g2, hx0, hwl]
  refine runC_of (fread_spec pl16 f2 (i := (k : Int)) (off := 0) (n := 192) (fun j ej _ => (show k = j by omega) ▸ I.ino k D.f) (by omega) (by omega) (fun q => by omega) fun j o m ej _ eo em h3 f3 n3 k3 => ?_)
  obtain rfl : k = j := by omega
  obtain rfl : o = 0 := by omega
  obtain rfl : m = 192 := by omega
  rw [endR_all hcur]
  have ht : s.text k 0 (s.size k) = enc l := D.txt
  rw [ht]
  have k13 : ∀ b', b' < h.nx → b' ≠ bd → h3.get b' = h.get b' := fun b' w1 w2 => by rw [k3 _ (by omega) w2]; exact k12 b' w1 w2
  have hlen := enc_len D.ok
  simp only [↓reduceIte, reduceCtorEq, Za, Zb, Zc, Zd, Ze, Zf, Zg, Zh, Zi, Zj, Zk, Zl, Zm, Zn, Zo, Zp, Zq, Zr, Zs, Zt, Zu, Zv, gval, Zw, rb0, rb1, rb2, rb3, rb4, tf0, tf1, tf2, tf3, Yk]
  refine run_loop2 rfl (fun N e h' => ∃ (j : Nat) (v : Value), N = l.length - j ∧ j ≤ l.length ∧ e.at 8 = .string (mkS ((enc l).drop (9 * j))) ∧ e.at 10 = v ∧ RowG h' h3.nx 2 v j (ents (decs (enc l) j)) ∧ h3.nx ≤ h'.nx ∧ ∀ b', b' < h3.nx → h'.get b' = h3.get b')
    (fun ex e h' => ex = .exit 0 ∧ ∃ v : Value, e.at 10 = v ∧ RowG h' h3.nx 2 v l.length (ents l) ∧ h3.nx ≤ h'.nx ∧ ∀ b', b' < h3.nx → h'.get b' = h3.get b') ?_ (l.length - 0) _ _ ?_ ?_
  · rintro N e h' ⟨j, v, rfl, hj, e8, e10, r, hn, hk'⟩ Q' hQn hQx
    have hdl : ((enc l).drop (9 * j)).length = 9 * (l.length - j) := by rw [List.length_drop, hlen]; omega
    by_cases c : j < l.length
    · obtain ⟨t, hT⟩ : ∃ t, (enc l).drop (9 * j) = t := ⟨_, rfl⟩
      rw [hT] at e8 hdl
      have h9 : 9 ≤ t.length := by omega
      have c1 : (9 : Int) ≤ (t.length : Int) := by omega
      have w8 : wrapF .i64 (((t[8]?.getD 0).toNat : Nat) : Int) = (((t[8]?.getD 0).toNat : Nat) : Int) := by have := (t[8]?.getD 0).toNat_lt; exact wrapI (by omega) (by omega)
      simp only [↓reduceIte, reduceCtorEq, Za, Zb, Zc, Zd, Ze, Zf, Zg, Zh, Zi, Zj, Zk, Zl, Zm, Zn, Zo, Zp, Zq, Zr, Zs, Zt, Zu, Zv, gval, Zw, rb0, rb1, rb2, rb3, rb4, tf0, tf1, tf2, tf3, Yk, e8, e10, mkS_size, c1, to8 (show 8 ≤ t.length by omega)]
      refine runC_of (cut_wf (c := 0) (by rw [List.length_take]; omega) fun a b => ?_)
      obtain ⟨X, hX⟩ : ∃ X, (t.take 8).takeWhile (· != 0) = X := ⟨_, rfl⟩
      rw [hX]
      have r' : RowG (h'.new (cellsB [.string (mkS X), .int .i64 ((t[8]?.getD 0).toNat : Nat)] .exact)) h3.nx 2 v j (ents (decs (enc l) j)) := r.keep (by rw [Heap.nx_new]; omega) fun b h1 h2 _ => by rw [Heap.get_new_ne _ _ (by omega)]
      obtain ⟨E, h4, w, a1, a2, a3, a4, a5, a6, a7⟩ := growG app_90_90 r' (by rw [Heap.nx_new]; omega) (x := .slice (some ⟨h'.nx, 0, none⟩) 1 1) (k := 1) rfl (by omega) (by omega) (new := [.string (mkS X), .int .i64 ((t[8]?.getD 0).toNat : Nat)]) (by rw [firstL_slc _ _ _ _ _ _ _ _ _ (Heap.get_new_same _ _) (by simp)]; rfl) rfl
      rw [Heap.nx_new] at a1
      rw [Heap.nx_new] at a5
      simp only [↓reduceIte, reduceCtorEq, Za, Zb, Zc, Zd, Ze, Zf, Zg, Zh, Zi, Zj, Zk, Zl, Zm, Zn, Zo, Zp, Zq, Zr, Zs, Zt, Zu, Zv, gval, Zw, rb0, rb1, rb2, rb3, rb4, tf0, tf1, tf2, tf3, Yk, e8, e10, at8 h9, w8, bs1_93, a1, a2, a3, from9 h9]
      refine hQn _ _ _ (by omega) ⟨j + 1, w, rfl, by omega, ?_, by simp only [Za, Zw, Ye], ?_, by omega, fun b' hb' => ?_⟩
      · simp only [Za, Zw, Ye]
        rw [← hT, List.drop_drop, show 9 * j + 9 = 9 * (j + 1) by omega]
      · rw [decs_succ, ents_app, hT]
        have he : ents [entAt t] = [.string (mkS X), .int .i64 ((t[8]?.getD 0).toNat : Nat)] := by rw [← hX]; rfl
        rw [he]; exact a4
      · rw [a6 _ (by rw [Heap.nx_new]; omega) (fun hm => by have := (r.lt b' hm).1; omega), Heap.get_new_ne _ _ (by omega)]; exact hk' b' hb'
    · have c1 : ¬ (9 : Int) ≤ (((enc l).drop (9 * j)).length : Int) := by omega
      simp only [↓reduceIte, reduceCtorEq, Za, Zb, Zc, Zd, Ze, Zf, Zg, Zh, Zi, Zj, Zk, Zl, Zm, Zn, Zo, Zp, Zq, Zr, Zs, Zt, Zu, Zv, gval, Zw, rb0, rb1, rb2, rb3, rb4, tf0, tf1, tf2, tf3, Yk, e8, mkS_size, c1]
      obtain rfl : j = l.length := by omega
      rw [decs_enc D.ok] at r
      exact hQx _ _ _ (by simp) ⟨rfl, v, by simp only [Za, Zw, Ye, e10], r, hn, hk'⟩
  · exact ⟨0, _, rfl, by omega, by simp only [Za, Zw, Ye]; rfl, by simp only [Za, Zw, Ye], .nil, Nat.le_refl _, fun _ _ => rfl⟩
  · rintro ex e h' - ⟨rfl, v, e10, r, hn, hk'⟩
    simp only [↓reduceIte, reduceCtorEq, Za, Zb, Zc, Zd, Ze, Zf, Zg, Zh, Zi, Zj, Zk, Zl, Zm, Zn, Zo, Zp, Zq, Zr, Zs, Zt, Zu, Zv, gval, Zw, rb0, rb1, rb2, rb3, rb4, tf0, tf1, tf2, tf3, Yk, e10]
    exact hR h' v (f3.keep hn (hk' _ (by omega)) (hk' _ (by omega))) (by omega) (fun b' h1 h2 => by rw [hk' _ (by omega)]; exact k13 b' h1 h2) (r.mono (by omega))
end Go.Proofs.YtbgminppkacdlaaGreatDoor
end
section
/- Directories: write. Conditions: the disk lies as the rule names. -/
namespace Go.Proofs.YtbgminppkacdlaaGreatDoor
open Go.AM
open Nat renaming reduceBEq → Za, reduceEqDiff → Zb, reduceAdd → Zc, reduceSub → Zd, reduceMul → Ze, reduceLT → Zf, reduceLeDiff → Zg, reduceDiv → Zh, reduceMod → Zi, reducePow → Zj
open Int renaming reduceAdd → Zk, reduceSub → Zl, reduceMul → Zm, reduceLT → Zn, reduceLE → Zo, reduceEq → Zp, reduceNe → Zq, reduceNeg → Zr, reduceToNat → Zs, reduceDiv → Zt, reduceMod → Zu, reducePow → Zv, cast_ofNat_Int → Zw
set_option linter.unusedSimpArgs false
variable {h : Heap} {R : Out → Heap → Prop} {bd bl : Nat} {s : FS} {F : Nat → Prop}
theorem alloc124 (nx : Nat) : alY (bldT Tryz.prog 127) 127 (some [.pointer none, .slice none 0 0]) nx = some ⟨.pointer (some ⟨nx, 0, none⟩), [], [cellsB [.pointer none, .slice none 0 0] (.bld 127)]⟩ := by
  rw [show bldT Tryz.prog 127 = true from by kernel_rfl]; rfl
theorem enc_snoc {l : List (List UInt8 × Nat)} {j : Nat} {e : List UInt8 × Nat} (h : l[j]? = some e) : enc (l.take (j + 1)) = enc (l.take j) ++ e.1 ++ List.replicate (8 - e.1.length) 0 ++ [UInt8.ofNat e.2] := by
  rw [List.take_add_one, h, enc_app]
  show _ ++ (entB e ++ []) = _
  unfold entB
  rw [List.append_nil]
  simp only [List.append_assoc]
set_option maxRecDepth 100000 in
set_option maxHeartbeats 2000000 in
theorem write_wf (ht : h.get 1 = some (tabBlk .u8 tab)) (f : Fs h bd bl s) (hz : 1 < bd ∧ 1 < bl) {k : Nat} {l0 l : List (List UInt8 × Nat)} (I : s.Inv F) (D : Dr s F k l0) {v : Value} (x : EntAt h v l) (hv : ∀ b ∈ blkOf v, b < h.nx ∧ b ≠ bd ∧ b ≠ bl) (ok : ∀ e ∈ l, EntOk e) (hl : l.length ≤ 21)
    (hR3 : s.n < popc 64 s.b + (needN (9 * l.length) - needN (9 * l0.length)) → ∀ h', Fs h' bd bl s → h.nx ≤ h'.nx → (∀ b', b' < h.nx → b' ≠ bd → b' ≠ bl → h'.get b' = h.get b') → R (.ret (.int .i64 28)) h')
    (hR4 : ∀ s2 h', DW s s2 F k (enc l) → Fs h' bd bl s2 → h.nx ≤ h'.nx → (∀ b', b' < h.nx → b' ≠ bd → b' ≠ bl → h'.get b' = h.get b') → R (.ret (.int .i64 0)) h') :
    WF Tryz.prog 2 sp16 56 [.iface 22 (.pointer (some ⟨bd, 0, none⟩)), .int .i64 k, v] h R := by
  refine wf_fn (fn := Tryz.f56) rfl rfl (by kernel_rfl) rfl ?_
  have q1 := f.d.bd_lt
  have q2 := f.d.bl_lt
  obtain ⟨a, c, hs⟩ := x.slc
  have hlen := enc_len ok
  have hsz := D.size
  simp only [↓reduceIte, reduceCtorEq, Za, Zb, Zc, Zd, Ze, Zf, Zg, Zh, Zi, Zj, Zk, Zl, Zm, Zn, Zo, Zp, Zq, Zr, Zs, Zt, Zu, Zv, gval, Zw, rb0, rb1, rb2, rb3, rb4, tf0, tf1, tf2, tf3, Yk, Tryz.f56, alloc124, hs]
  obtain ⟨h1, hh1⟩ : ∃ h1, h.new (cellsB [.pointer none, .slice none 0 0] (.bld 127)) = h1 := ⟨_, rfl⟩
  have n1 : h1.nx = h.nx + 1 := by rw [← hh1, Heap.nx_new]
  have g1 : h1.get h.nx = some (cellsB [.pointer none, .slice none 0 0] (.bld 127)) := by rw [← hh1, Heap.get_new_same]
  have k1 : ∀ b', b' < h.nx → h1.get b' = h.get b' := fun b' hb' => by rw [← hh1, Heap.get_new_ne _ _ (by omega)]
  rw [hh1]
  refine run_loop2 rfl (fun N e h' => ∃ j : Nat, N = l.length - j ∧ j ≤ l.length ∧ e.at 0 = .iface 22 (.pointer (some ⟨bd, 0, none⟩)) ∧ e.at 1 = .int .i64 k ∧ e.at 7 = .pointer (some ⟨h.nx, 0, none⟩) ∧ e.at 11 = .slice a l.length c ∧ e.at 12 = .int .i64 l.length ∧ e.at 13 = .int .i64 j ∧ Bld h' h.nx (h.nx + 1) (enc (l.take j)) ∧ h.nx + 1 ≤ h'.nx ∧ ∀ b', b' < h.nx → h'.get b' = h.get b')
    (fun ex e h' => ex = .exit 0 ∧ e.at 0 = .iface 22 (.pointer (some ⟨bd, 0, none⟩)) ∧ e.at 1 = .int .i64 k ∧ e.at 7 = .pointer (some ⟨h.nx, 0, none⟩) ∧ Bld h' h.nx (h.nx + 1) (enc l) ∧ h.nx + 1 ≤ h'.nx ∧ ∀ b', b' < h.nx → h'.get b' = h.get b') ?_ (l.length - 0) _ _ ?_ ?_
  · rintro N e h' ⟨j, rfl, hj, e0, e1, e7, e11, e12, e13, B, hn, hk⟩ Q' hQn hQx
    by_cases hc : j < l.length
    · obtain ⟨y, hy⟩ : ∃ y, l[j]? = some y := ⟨_, List.getElem?_eq_getElem hc⟩
      rcases x.is with ⟨_, rfl⟩ | ⟨b, c', K, L, hv2, gb, hL, hA⟩
      · exact absurd hc (Nat.not_lt_zero _)
      rw [hs] at hv2
      cases hv2
      obtain ⟨ok1, ok2, ok3⟩ := ok y (List.mem_of_getElem? hy)
      have hp0 : (0 : Int) ≤ (j : Int) := by omega
      have hp1 : (j : Int) < (l.length : Int) := by omega
      have wp : wrapF .i64 ((j : Int) + 1) = ((j + 1 : Nat) : Int) := by rw [wrapI (by omega) (by omega)]; omega
      have gb' := (hk b (hv b (by rw [hs]; exact List.mem_singleton.2 rfl)).1).trans gb
      have hA := hA j y hy
      have hp2 : j * 2 + 2 ≤ L.length := by omega
      have hjl : (enc (l.take j)).length = 9 * j := by rw [enc_len fun e he => ok e (List.mem_of_mem_take he), List.length_take]; omega
      obtain ⟨h2, hh2⟩ : ∃ h2, h'.new (cellsB [.string (mkS y.1), .int .i64 (y.2 : Int)] .exact) = h2 := ⟨_, rfl⟩
      have n2 : h2.nx = h'.nx + 1 := by rw [← hh2, Heap.nx_new]
      have g2 : h2.get h'.nx = some (cellsB [.string (mkS y.1), .int .i64 (y.2 : Int)] .exact) := by rw [← hh2, Heap.get_new_same]
      have k2 : ∀ b', b' < h'.nx → h2.get b' = h'.get b' := fun b' hb' => by rw [← hh2, Heap.get_new_ne _ _ (by omega)]
      have notown : ∀ {hx : Heap}, hx.get h'.nx = some (cellsB [.string (mkS y.1), .int .i64 (y.2 : Int)] .exact) → ∀ L, hx.get h'.nx ≠ some (cellsB L (.own 5)) := fun g L e => by
        rw [g] at e
        unfold cellsB at e
        injection e with e; injection e with _ _ e; cases e
      simp (disch := (first | omega | rfl | (simp only [Yn]; omega))) only [↓reduceIte, reduceCtorEq, Za, Zb, Zc, Zd, Ze, Zf, Zg, Zh, Zi, Zj, Zk, Zl, Zm, Zn, Zo, Zp, Zq, Zr, Zs, Zt, Zu, Zv, gval, Zw, rb0, rb1, rb2, rb3, rb4, tf0, tf1, tf2, tf3, Yk, Yh, overL_one, if_pos, stX_exactN, e0, e1, e7, e11, e12, e13, hp0, hp1, hp2, gb', hA]
      rw [Heap.upd_new, hh2]
      refine runC_of (ws_wf (B.keep (h' := h2) (by omega) (k2 _ (by omega)) fun b' _ w2 _ => k2 b' w2) (by omega) fun h3 B3 n3 k3 m3 => ?_)
      have g3 : h3.get h'.nx = some (cellsB [.string (mkS y.1), .int .i64 (y.2 : Int)] .exact) := (m3 _ (by omega) (by omega) (notown g2)).trans g2
      have w8 : wrapF .i64 (8 - (y.1.length : Int)) = ((8 - y.1.length : Nat) : Int) := by rw [wrapI (by omega) (by omega)]; omega
      simp (disch := (first | omega | rfl | (simp only [Yn]; omega))) only [↓reduceIte, reduceCtorEq, Za, Zb, Zc, Zd, Ze, Zf, Zg, Zh, Zi, Zj, Zk, Zl, Zm, Zn, Zo, Zp, Zq, Zr, Zs, Zt, Zu, Zv, gval, Zw, rb0, rb1, rb2, rb3, rb4, tf0, tf1, tf2, tf3, Yk, Yh, overL_one, if_pos, stX_exactN, g3, mkS_size, w8]
      refine runC_of (rep_wf (c := 0) (by omega) ?_)
      simp only [↓reduceIte, reduceCtorEq, Za, Zb, Zc, Zd, Ze, Zf, Zg, Zh, Zi, Zj, Zk, Zl, Zm, Zn, Zo, Zp, Zq, Zr, Zs, Zt, Zu, Zv, gval, Zw, rb0, rb1, rb2, rb3, rb4, tf0, tf1, tf2, tf3, Yk, e7]
      refine runC_of (ws_wf B3 (by rw [List.length_append, List.length_replicate]; omega) fun h4 B4 n4 k4 m4 => ?_)
      have g4 : h4.get h'.nx = some (cellsB [.string (mkS y.1), .int .i64 (y.2 : Int)] .exact) := (m4 _ (by omega) (by omega) (notown g3)).trans g3
      have wu : wrapF .u8 (y.2 : Int) = ((UInt8.ofNat y.2).toNat : Int) := by rw [wrap8 (by omega), Int.toNat_natCast]
      simp (disch := (first | omega | rfl | (simp only [Yn]; omega))) only [↓reduceIte, reduceCtorEq, Za, Zb, Zc, Zd, Ze, Zf, Zg, Zh, Zi, Zj, Zk, Zl, Zm, Zn, Zo, Zp, Zq, Zr, Zs, Zt, Zu, Zv, gval, Zw, rb0, rb1, rb2, rb3, rb4, tf0, tf1, tf2, tf3, Yk, Yh, overL_one, if_pos, stX_exactN, g4, wu, e7]
      refine runC_of (wb_wf B4 (by rw [List.length_append, List.length_append, List.length_replicate]; omega) fun h5 B5 n5 k5 m5 => ?_)
      simp only [↓reduceIte, reduceCtorEq, Za, Zb, Zc, Zd, Ze, Zf, Zg, Zh, Zi, Zj, Zk, Zl, Zm, Zn, Zo, Zp, Zq, Zr, Zs, Zt, Zu, Zv, gval, Zw, rb0, rb1, rb2, rb3, rb4, tf0, tf1, tf2, tf3, Yk, e13, wp]
      refine hQn _ _ _ (by omega) ⟨j + 1, rfl, by omega, by simp only [Za, Zw, Ye, e0], by simp only [Za, Zw, Ye, e1], by simp only [Za, Zw, Ye, e7], by simp only [Za, Zw, Ye, e11], by simp only [Za, Zw, Ye, e12], by simp only [Za, Zw, Ye], by rw [enc_snoc hy]; exact B5, by omega, fun b' hb' => ?_⟩
      rw [k5 _ (by omega) (by omega), k4 _ (by omega) (by omega), k3 _ (by omega) (by omega), k2 _ (by omega)]; exact hk b' hb'
    · have hp1 : ¬ (j : Int) < (l.length : Int) := by omega
      simp only [↓reduceIte, reduceCtorEq, Za, Zb, Zc, Zd, Ze, Zf, Zg, Zh, Zi, Zj, Zk, Zl, Zm, Zn, Zo, Zp, Zq, Zr, Zs, Zt, Zu, Zv, gval, Zw, rb0, rb1, rb2, rb3, rb4, tf0, tf1, tf2, tf3, Yk, e12, e13, hp1]
      rw [List.take_of_length_le (by omega)] at B
      exact hQx _ _ _ (by simp) ⟨rfl, by simp only [Za, Zw, Ye, e0], by simp only [Za, Zw, Ye, e1], by simp only [Za, Zw, Ye, e7], B, hn, hk⟩
  · exact ⟨0, rfl, by omega, by simp only [Za, Zw, Ye], by simp only [Za, Zw, Ye], by simp only [Za, Zw, Ye], by simp only [Za, Zw, Ye], by simp only [Za, Zw, Ye], by simp only [Za, Zw, Ye], ⟨⟨_, _, g1, .inl rfl, ⟨.inl ⟨rfl, rfl⟩⟩⟩, by omega, by omega⟩, by omega, k1⟩
  rintro ex e h2 - ⟨rfl, e0, e1, e7, B, n2, k2⟩
  simp only [↓reduceIte, reduceCtorEq, Za, Zb, Zc, Zd, Ze, Zf, Zg, Zh, Zi, Zj, Zk, Zl, Zm, Zn, Zo, Zp, Zq, Zr, Zs, Zt, Zu, Zv, gval, Zw, rb0, rb1, rb2, rb3, rb4, tf0, tf1, tf2, tf3, Yk, e0, e1, e7]
  refine runC_of (bstr_wf B (by omega) fun h3 a3 v3 n3 g3 k3 => ?_)
  have f3 : Fs h3 bd bl s := f.keep (by omega) (by rw [k3 _ (by omega), k2 _ (by omega)]) (by rw [k3 _ (by omega), k2 _ (by omega)])
  have k03 : ∀ b', b' < h.nx → h3.get b' = h.get b' := fun b' hb' => by rw [k3 _ (by omega), k2 _ hb']
  have t3 : h3.get 1 = some (tabBlk .u8 tab) := (k03 1 (by omega)).trans ht
  simp only [↓reduceIte, reduceCtorEq, Za, Zb, Zc, Zd, Ze, Zf, Zg, Zh, Zi, Zj, Zk, Zl, Zm, Zn, Zo, Zp, Zq, Zr, Zs, Zt, Zu, Zv, gval, Zw, rb0, rb1, rb2, rb3, rb4, tf0, tf1, tf2, tf3, Yk, e0, e1]
  refine runC_of (fwrite_spec pl16 t3 f3 hz D.lt (I.ino k D.f) I.low (off := 0) (by omega) (l := enc l) (by omega) (fun c => absurd c (by decide)) (fun c _ => by omega) (fun o eo _ _ w1 w2 h4 f4 n4 k4 => ?_) (fun o eo _ w1 h4 f4 n4 k4 => ?_) fun o eo _ w1 w2 h4 f4 n4 k4 => ?_)
  · obtain rfl : o = 0 := by omega
    simp only [↓reduceIte, reduceCtorEq, Za, Zb, Zc, Zd, Ze, Zf, Zg, Zh, Zi, Zj, Zk, Zl, Zm, Zn, Zo, Zp, Zq, Zr, Zs, Zt, Zu, Zv, gval, Zw, rb0, rb1, rb2, rb3, rb4, tf0, tf1, tf2, tf3, Yk]
    rw [Nat.zero_add, hlen, hsz] at w2
    exact hR3 w2 h4 f4 (by omega) fun b' u1 u2 u3 => by rw [k4 _ (by omega) u2 u3]; exact k03 b' u1
  · have hle : enc l = [] := w1
    have hll : l.length = 0 := by rw [hle] at hlen; simp at hlen; omega
    have g4 : h4.get h.nx = some (cellsB [a3, .slice v3 (enc l).length (enc l).length] (.bld 127)) := (k4 _ (by omega) (by omega) (by omega)).trans g3
    simp only [↓reduceIte, reduceCtorEq, Za, Zb, Zc, Zd, Ze, Zf, Zg, Zh, Zi, Zj, Zk, Zl, Zm, Zn, Zo, Zp, Zq, Zr, Zs, Zt, Zu, Zv, gval, Zw, rb0, rb1, rb2, rb3, rb4, tf0, tf1, tf2, tf3, Yk, e0, e1, e7]
    refine runC_of (blen_wf g4 ?_)
    have dw := dw_nil I D.f
    have hle2 : popc 64 s.b + (needN 0 - needN (s.size k)) ≤ s.n := by have := popc_inv I; rw [show needN 0 = 0 from rfl]; omega
    rw [hle]
    simp only [↓reduceIte, reduceCtorEq, Za, Zb, Zc, Zd, Ze, Zf, Zg, Zh, Zi, Zj, Zk, Zl, Zm, Zn, Zo, Zp, Zq, Zr, Zs, Zt, Zu, Zv, gval, Zw, rb0, rb1, rb2, rb3, rb4, tf0, tf1, tf2, tf3, Yk, e0, e1]
    refine runC_of (fresize_spec pl16 ((k4 1 (by omega) (by omega) (by omega)).trans t3) f4 hz D.lt (I.ino k D.f) I.low (size := (([] : List UInt8).length : Int)) (fun c => by simp at c) (fun c => by simp at c) (fun sz es _ w3 => ?_) fun sz es _ w3 h5 f5 n5 k5 => ?_)
    · obtain rfl : sz = 0 := by simp at es; omega
      omega
    · obtain rfl : sz = 0 := by simp at es; omega
      simp only [↓reduceIte, reduceCtorEq, Za, Zb, Zc, Zd, Ze, Zf, Zg, Zh, Zi, Zj, Zk, Zl, Zm, Zn, Zo, Zp, Zq, Zr, Zs, Zt, Zu, Zv, gval, Zw, rb0, rb1, rb2, rb3, rb4, tf0, tf1, tf2, tf3, Yk]
      exact hR4 _ h5 (by rw [hle]; exact dw) f5 (by omega) fun b' u1 u2 u3 => by rw [k5 _ (by omega) u2 u3, k4 _ (by omega) u2 u3]; exact k03 b' u1
  · obtain rfl : o = 0 := by omega
    rw [Nat.zero_add] at w2
    have g4 : h4.get h.nx = some (cellsB [a3, .slice v3 (enc l).length (enc l).length] (.bld 127)) := (k4 _ (by omega) (by omega) (by omega)).trans g3
    simp only [↓reduceIte, reduceCtorEq, Za, Zb, Zc, Zd, Ze, Zf, Zg, Zh, Zi, Zj, Zk, Zl, Zm, Zn, Zo, Zp, Zq, Zr, Zs, Zt, Zu, Zv, gval, Zw, rb0, rb1, rb2, rb3, rb4, tf0, tf1, tf2, tf3, Yk, e0, e1, e7]
    refine runC_of (blen_wf g4 ?_)
    obtain ⟨dw, hle2, I2⟩ := dw_write I D.f (T := enc l) (by omega) w2
    simp only [↓reduceIte, reduceCtorEq, Za, Zb, Zc, Zd, Ze, Zf, Zg, Zh, Zi, Zj, Zk, Zl, Zm, Zn, Zo, Zp, Zq, Zr, Zs, Zt, Zu, Zv, gval, Zw, rb0, rb1, rb2, rb3, rb4, tf0, tf1, tf2, tf3, Yk, e0, e1]
    refine runC_of (fresize_spec pl16 ((k4 1 (by omega) (by omega) (by omega)).trans t3) f4 hz D.lt (I2.ino k D.f) I2.low (size := ((enc l).length : Int)) (fun c => by omega) (fun c => by omega) (fun sz es _ w3 => ?_) fun sz es _ w3 h5 f5 n5 k5 => ?_)
    · obtain rfl : sz = (enc l).length := by omega
      omega
    · obtain rfl : sz = (enc l).length := by omega
      simp only [↓reduceIte, reduceCtorEq, Za, Zb, Zc, Zd, Ze, Zf, Zg, Zh, Zi, Zj, Zk, Zl, Zm, Zn, Zo, Zp, Zq, Zr, Zs, Zt, Zu, Zv, gval, Zw, rb0, rb1, rb2, rb3, rb4, tf0, tf1, tf2, tf3, Yk]
      exact hR4 _ h5 dw f5 (by omega) fun b' u1 u2 u3 => by rw [k5 _ (by omega) u2 u3, k4 _ (by omega) u2 u3]; exact k03 b' u1
end Go.Proofs.YtbgminppkacdlaaGreatDoor
end
section
/- Directories: Add, Find, Remove. Conditions: the disk lies as the rule names. -/
namespace Go.Proofs.YtbgminppkacdlaaGreatDoor
open Go.AM
open Nat renaming reduceBEq → Za, reduceEqDiff → Zb, reduceAdd → Zc, reduceSub → Zd, reduceMul → Ze, reduceLT → Zf, reduceLeDiff → Zg, reduceDiv → Zh, reduceMod → Zi, reducePow → Zj
open Int renaming reduceAdd → Zk, reduceSub → Zl, reduceMul → Zm, reduceLT → Zn, reduceLE → Zo, reduceEq → Zp, reduceNe → Zq, reduceNeg → Zr, reduceToNat → Zs, reduceDiv → Zt, reduceMod → Zu, reducePow → Zv, cast_ofNat_Int → Zw
set_option linter.unusedSimpArgs false
variable {h : Heap} {R : Out → Heap → Prop} {bd bl : Nat} {s : FS} {F : Nat → Prop}
theorem ents_snd : ∀ {l : List (List UInt8 × Nat)} {i : Nat} {e : List UInt8 × Nat}, l[i]? = some e → (ents l)[i * 2 + 1]? = some (.int .i64 (e.2 : Int))
  | [], i, e, h => by simp at h
  | x :: r, 0, e, h => by
    rw [List.getElem?_cons_zero] at h
    cases Option.some.inj h; rfl
  | x :: r, i + 1, e, h => by
    rw [List.getElem?_cons_succ] at h
    show (_ :: _ :: ents r)[(i + 1) * 2 + 1]? = _
    rw [show (i + 1) * 2 + 1 = i * 2 + 1 + 1 + 1 by omega, List.getElem?_cons_succ, List.getElem?_cons_succ]
    exact ents_snd h
theorem ents_drop : ∀ (l : List (List UInt8 × Nat)) (j : Nat), (ents l).drop (j * 2) = ents (l.drop j)
  | l, 0 => by rw [Nat.zero_mul, List.drop_zero, List.drop_zero]
  | [], j + 1 => by rw [List.drop_nil]; exact List.drop_nil
  | e :: r, j + 1 => by
    show (_ :: _ :: ents r).drop ((j + 1) * 2) = _
    rw [show (j + 1) * 2 = j * 2 + 1 + 1 by omega, List.drop_succ_cons, List.drop_succ_cons, List.drop_succ_cons]
    exact ents_drop r j
theorem ents_takeN : ∀ (l : List (List UInt8 × Nat)) (j : Nat), (ents l).take (j * 2) = ents (l.take j)
  | l, 0 => by rw [Nat.zero_mul, List.take_zero, List.take_zero]; rfl
  | [], j + 1 => by rw [List.take_nil]; exact List.take_nil
  | e :: r, j + 1 => by
    show (_ :: _ :: ents r).take ((j + 1) * 2) = _
    rw [show (j + 1) * 2 = j * 2 + 1 + 1 by omega, List.take_succ_cons, List.take_succ_cons, List.take_succ_cons, ents_takeN r j]; rfl
theorem ents_erase (l : List (List UInt8 × Nat)) (k : Nat) : ents (l.eraseIdx k) = (ents l).take (k * 2) ++ (ents l).drop ((k + 1) * 2) := by
  rw [List.eraseIdx_eq_take_drop_succ, ents_app, ents_drop, ents_takeN]
set_option maxRecDepth 100000 in
theorem sl_to {b n k : Nat} {g : Nat → Option Blk} {X : List Value} (hb : g b = some (cellsB X (.loose 2))) (hk : k ≤ n) : effSlice Tryz.prog 90 (.slice (some ⟨b, 0, none⟩) n n) none (some (.int .i64 (k : Int))) (some (.int .i64 (k : Int))) g = ret (.slice (some ⟨b, 0, none⟩) k k) := by
  rw [effSlice_slc, show slcOf Tryz.prog 90 = some 2 from by kernel_rfl]
  unfold slS bounds
  rw [bnd_int, if_pos ⟨by omega, by omega⟩]
  simp only [Int.toNat_natCast, Option.isSome_some, Option.isNone_some, Bool.and_false, Bool.false_eq_true, if_false]
  rw [bnd_int, if_pos ⟨by omega, by omega⟩]
  simp only [Int.toNat_natCast, bnd_none, show Nat.ble k k = true from by simp [Nat.ble_eq], cond_true, u_sliceAddr, hb, sadX_loose]
  simp
theorem sl_from {b n j : Nat} {g : Nat → Option Blk} {X : List Value} (hb : g b = some (cellsB X (.loose 2))) (hX : X.length = n * 2) (hj : j ≤ n) : effSlice Tryz.prog 90 (.slice (some ⟨b, 0, none⟩) n n) (some (.int .i64 (j : Int))) none none g = ret (.slice (some ⟨b, j * 2, none⟩) (n - j) (n - j)) := by
  rw [effSlice_slc, show slcOf Tryz.prog 90 = some 2 from by kernel_rfl]
  unfold slS
  rw [u_bounds, bnd_none]
  simp only
  rw [bnd_int, if_pos ⟨by omega, by omega⟩]
  simp only [Int.toNat_natCast]
  rw [if_pos (by omega)]
  simp only [u_sliceAddr, hb, sadX_loose]
  simp [hX]
set_option maxRecDepth 100000 in
theorem app_cut {b n k : Nat} {g : Nat → Option Blk} (nx : Nat) {X : List Value} (hb : g b = some (cellsB X (.loose 2))) (hX : X.length = n * 2) (hk : k < n) (hn : n ≤ 1000) :
    aAppend Tryz.prog #[90, 90] (.slice (some ⟨b, 0, none⟩) k k) (.slice (some ⟨b, (k + 1) * 2, none⟩) (n - (k + 1)) (n - (k + 1))) g nx = if n = k + 1 then some ⟨.slice (some ⟨b, 0, none⟩) k k, [(b, cellsB X (.loose 2))], []⟩ else some ⟨.slice (some ⟨nx, 0, none⟩) (n - 1) (n - 1), [], [cellsB (X.take (k * 2) ++ X.drop ((k + 1) * 2)) (.loose 2)]⟩ := by
  have hd : ((X.drop ((k + 1) * 2)).take ((n - (k + 1)) * 2)) = X.drop ((k + 1) * 2) := List.take_of_length_le (by rw [List.length_drop]; omega)
  have hnew : firstL g 2 (n - (k + 1)) (.slice (some ⟨b, (k + 1) * 2, none⟩) (n - (k + 1)) (n - (k + 1))) = some (X.drop ((k + 1) * 2)) := by
    rw [firstL_slc _ _ _ _ _ _ _ _ _ hb (by omega), hd]
  have hold : firstL g 2 k (.slice (some ⟨b, 0, none⟩) k k) = some (X.take (k * 2)) := by rw [firstL_slc _ _ _ _ _ _ _ _ _ hb (by omega), List.drop_zero]
  rw [aAppend_unf (appT_ok app_90_90) (some ⟨b, 0, none⟩) k k (n - (k + 1)) _ g nx rfl (by omega) hnew, hold]
  by_cases c : n = k + 1
  · subst c
    rw [if_pos (by omega), if_pos rfl, List.drop_eq_nil_of_le (by omega)]
    simp only [hb]
    unfold cellsB
    simp only [Nat.sub_self, Nat.add_zero, Nat.zero_add]
    rw [if_pos (by omega)]; rfl
  · rw [if_neg (by omega), if_neg c]
    simp only [hb]
    unfold cellsB maybeRoom
    simp only [Nat.zero_add, if_true]
    rw [if_neg (by omega)]
    simp only
    rw [show k + (n - (k + 1)) = n - 1 by omega]
set_option maxRecDepth 100000 in
set_option maxHeartbeats 1000000 in
theorem add_wf (ht : h.get 1 = some (tabBlk .u8 tab)) (f : Fs h bd bl s) (hz : 1 < bd ∧ 1 < bl) {k : Nat} {l0 : List (List UInt8 × Nat)} (I : s.Inv F) (D : Dr s F k l0) (hl0 : l0.length ≤ 21) {nm : List UInt8} {tn : Int}
    (hR1 : ¬ NmP nm ∨ tn < 0 ∨ 32 ≤ tn → ∀ h', Fs h' bd bl s → h.nx ≤ h'.nx → (∀ b', b' < h.nx → b' ≠ bd → b' ≠ bl → h'.get b' = h.get b') → R (.ret (.int .i64 22)) h')
    (hR2 : NmP nm → (∃ e ∈ l0, e.1 = nm) → ∀ h', Fs h' bd bl s → h.nx ≤ h'.nx → (∀ b', b' < h.nx → b' ≠ bd → b' ≠ bl → h'.get b' = h.get b') → R (.ret (.int .i64 17)) h')
    (hR3 : NmP nm → (∀ e ∈ l0, e.1 ≠ nm) → (21 ≤ l0.length ∨ s.n < popc 64 s.b + (needN (9 * (l0.length + 1)) - needN (9 * l0.length))) → ∀ h', Fs h' bd bl s → h.nx ≤ h'.nx → (∀ b', b' < h.nx → b' ≠ bd → b' ≠ bl → h'.get b' = h.get b') → R (.ret (.int .i64 28)) h')
    (hR4 : ∀ t : Nat, tn = t → t < 32 → NmP nm → (∀ e ∈ l0, e.1 ≠ nm) → l0.length < 21 → ∀ s2 h', DW s s2 F k (enc (l0 ++ [(nm, t)])) → Fs h' bd bl s2 → h.nx ≤ h'.nx → (∀ b', b' < h.nx → b' ≠ bd → b' ≠ bl → h'.get b' = h.get b') → R (.ret (.int .i64 0)) h') :
    WF Tryz.prog 2 sp16 32 [.iface 22 (.pointer (some ⟨bd, 0, none⟩)), .int .i64 k, .string (mkS nm), .int .i64 tn] h R := by
  refine wf_fn (fn := Tryz.f32) rfl rfl (by kernel_rfl) rfl ?_
  have q1 := f.d.bd_lt
  have q2 := f.d.bl_lt
  simp only [↓reduceIte, reduceCtorEq, Za, Zb, Zc, Zd, Ze, Zf, Zg, Zh, Zi, Zj, Zk, Zl, Zm, Zn, Zo, Zp, Zq, Zr, Zs, Zt, Zu, Zv, gval, Zw, rb0, rb1, rb2, rb3, rb4, tf0, tf1, tf2, tf3, Yk, Tryz.f32]
  refine runC_of (read_wf f I D fun h1 v f1 n1 k1 r1 => ?_)
  obtain ⟨va, hv⟩ := r1.slc
  rw [hv] at r1 ⊢
  simp only [↓reduceIte, reduceCtorEq, Za, Zb, Zc, Zd, Ze, Zf, Zg, Zh, Zi, Zj, Zk, Zl, Zm, Zn, Zo, Zp, Zq, Zr, Zs, Zt, Zu, Zv, gval, Zw, rb0, rb1, rb2, rb3, rb4, tf0, tf1, tf2, tf3, Yk]
  refine runC_of (name_wf fun h2 n2 k2 => ?_)
  have f2 : Fs h2 bd bl s := f1.keep n2 (k2 _ (by omega)) (k2 _ (by omega))
  have k02 : ∀ b', b' < h.nx → b' ≠ bd → b' ≠ bl → h2.get b' = h.get b' := fun b' w1 w2 w3 => by rw [k2 _ (by omega)]; exact k1 b' w1 w2
  by_cases c1 : NmP nm
  rotate_left
  · simp only [↓reduceIte, reduceCtorEq, Za, Zb, Zc, Zd, Ze, Zf, Zg, Zh, Zi, Zj, Zk, Zl, Zm, Zn, Zo, Zp, Zq, Zr, Zs, Zt, Zu, Zv, gval, Zw, rb0, rb1, rb2, rb3, rb4, tf0, tf1, tf2, tf3, Yk, decide_eq_false c1, Bool.not_false]
    exact hR1 (.inl c1) h2 f2 (by omega) k02
  by_cases c2 : tn < 0
  · simp only [↓reduceIte, reduceCtorEq, Za, Zb, Zc, Zd, Ze, Zf, Zg, Zh, Zi, Zj, Zk, Zl, Zm, Zn, Zo, Zp, Zq, Zr, Zs, Zt, Zu, Zv, gval, Zw, rb0, rb1, rb2, rb3, rb4, tf0, tf1, tf2, tf3, Yk, decide_eq_true c1, Bool.not_true, c2]
    exact hR1 (.inr (.inl c2)) h2 f2 (by omega) k02
  by_cases c3 : (32 : Int) ≤ tn
  · simp only [↓reduceIte, reduceCtorEq, Za, Zb, Zc, Zd, Ze, Zf, Zg, Zh, Zi, Zj, Zk, Zl, Zm, Zn, Zo, Zp, Zq, Zr, Zs, Zt, Zu, Zv, gval, Zw, rb0, rb1, rb2, rb3, rb4, tf0, tf1, tf2, tf3, Yk, decide_eq_true c1, Bool.not_true, c2, c3]
    exact hR1 (.inr (.inr c3)) h2 f2 (by omega) k02
  obtain ⟨t, rfl⟩ : ∃ t : Nat, tn = t := ⟨tn.toNat, by omega⟩
  simp only [↓reduceIte, reduceCtorEq, Za, Zb, Zc, Zd, Ze, Zf, Zg, Zh, Zi, Zj, Zk, Zl, Zm, Zn, Zo, Zp, Zq, Zr, Zs, Zt, Zu, Zv, gval, Zw, rb0, rb1, rb2, rb3, rb4, tf0, tf1, tf2, tf3, Yk, decide_eq_true c1, Bool.not_true, c2, c3]
  have r2 : RowG h2 h.nx 2 (.slice va l0.length l0.length) l0.length (ents l0) := r1.keep n2 fun b h1 h2 _ => k2 b h2
  refine runC_of (find_wf (EntAt.of r2) (fun b hb => (r2.lt b hb).2) (by omega) (fun j e hj he _ h3 n3 k3 => ?_) fun hno h3 n3 k3 => ?_)
  · have cj : (0 : Int) ≤ (j : Int) := by omega
    simp only [↓reduceIte, reduceCtorEq, Za, Zb, Zc, Zd, Ze, Zf, Zg, Zh, Zi, Zj, Zk, Zl, Zm, Zn, Zo, Zp, Zq, Zr, Zs, Zt, Zu, Zv, gval, Zw, rb0, rb1, rb2, rb3, rb4, tf0, tf1, tf2, tf3, Yk, cj]
    exact hR2 c1 ⟨e, List.mem_of_getElem? hj, he⟩ h3 (f2.keep n3 (k3 _ (by omega)) (k3 _ (by omega))) (by omega) fun b' w1 w2 w3 => by rw [k3 _ (by omega)]; exact k02 b' w1 w2 w3
  · have hno' : ∀ e ∈ l0, e.1 ≠ nm := fun e he => by
      obtain ⟨j, hj⟩ := List.mem_iff_getElem?.1 he
      exact hno j e hj
    have f3 : Fs h3 bd bl s := f2.keep n3 (k3 _ (by omega)) (k3 _ (by omega))
    have k03 : ∀ b', b' < h.nx → b' ≠ bd → b' ≠ bl → h3.get b' = h.get b' := fun b' w1 w2 w3 => by rw [k3 _ (by omega)]; exact k02 b' w1 w2 w3
    by_cases c4 : 21 ≤ l0.length
    · have c4' : (21 : Int) ≤ (l0.length : Int) := by omega
      simp only [↓reduceIte, reduceCtorEq, Za, Zb, Zc, Zd, Ze, Zf, Zg, Zh, Zi, Zj, Zk, Zl, Zm, Zn, Zo, Zp, Zq, Zr, Zs, Zt, Zu, Zv, gval, Zw, rb0, rb1, rb2, rb3, rb4, tf0, tf1, tf2, tf3, Yk, c4', runG_undef]
      exact hR3 c1 hno' (.inl c4) h3 f3 (by omega) k03
    have c4' : ¬ (21 : Int) ≤ (l0.length : Int) := by omega
    have r3 : RowG h3 h.nx 2 (.slice va l0.length l0.length) l0.length (ents l0) := r2.keep n3 fun b h1 h2 _ => k3 b h2
    obtain ⟨h4, hh4⟩ : ∃ h4, h3.new (cellsB [.string (mkS nm), .int .i64 (t : Int)] .exact) = h4 := ⟨_, rfl⟩
    have n4 : h4.nx = h3.nx + 1 := by rw [← hh4, Heap.nx_new]
    have g4 : h4.get h3.nx = some (cellsB [.string (mkS nm), .int .i64 (t : Int)] .exact) := by rw [← hh4, Heap.get_new_same]
    have k4 : ∀ b', b' < h3.nx → h4.get b' = h3.get b' := fun b' hb' => by rw [← hh4, Heap.get_new_ne _ _ (by omega)]
    obtain ⟨E, h5, w, a1, a2, a3, a4, a5, a6, a7⟩ := growG app_90_90 (r3.keep (h' := h4) (by omega) fun b h1 h2 _ => k4 b h2) (by omega) (x := .slice (some ⟨h3.nx, 0, none⟩) 1 1) (k := 1) rfl (by omega) (by omega) (new := [.string (mkS nm), .int .i64 (t : Int)]) (by rw [firstL_slc _ _ _ _ _ _ _ _ _ g4 (by simp)]; rfl) rfl
    simp only [↓reduceIte, reduceCtorEq, Za, Zb, Zc, Zd, Ze, Zf, Zg, Zh, Zi, Zj, Zk, Zl, Zm, Zn, Zo, Zp, Zq, Zr, Zs, Zt, Zu, Zv, gval, Zw, rb0, rb1, rb2, rb3, rb4, tf0, tf1, tf2, tf3, Yk, c4', bs1_93, hh4, a1, a2, a3]
    have hen : ents l0 ++ [.string (mkS nm), .int .i64 (t : Int)] = ents (l0 ++ [(nm, t)]) := (ents_app l0 [(nm, t)]).symm
    rw [hen] at a4
    have hll : (l0 ++ [(nm, t)]).length = l0.length + 1 := by rw [List.length_append, List.length_singleton]
    have a4' : RowG h5 h.nx 2 w (l0 ++ [(nm, t)]).length (ents (l0 ++ [(nm, t)])) := by rw [hll]; exact a4
    have lo0 := r3.lt
    have k05 : ∀ b', b' < h.nx → h5.get b' = h3.get b' := fun b' w1 => by rw [a6 b' (by omega) (fun hm => by have := (lo0 b' hm).1; omega), k4 _ (by omega)]
    have f5 : Fs h5 bd bl s := f3.keep (by omega) (k05 _ (by omega)) (k05 _ (by omega))
    have kk : ∀ b', b' < h.nx → b' ≠ bd → b' ≠ bl → h5.get b' = h.get b' := fun b' w1 w2 w3 => by rw [k05 _ w1]; exact k03 b' w1 w2 w3
    have ok' : ∀ e ∈ l0 ++ [(nm, t)], EntOk e := fun e he => by
      rcases List.mem_append.1 he with q | q
      · exact D.ok e q
      · rw [List.mem_singleton.1 q]
        have hc := c1.2.2
        unfold chk at hc
        refine ⟨?_, ?_, by show t < 256; omega⟩
        · show nm.length ≤ 8
          by_cases q8 : 8 < nm.length
          · rw [if_pos q8] at hc; exact absurd hc (by decide)
          · omega
        · intro hm
          have hm : (0 : UInt8) ∈ nm := hm
          by_cases q8 : 8 < nm.length
          · rw [if_pos q8] at hc; exact absurd hc (by decide)
          · rw [if_neg q8, if_pos hm] at hc; exact absurd hc (by decide)
    refine runC_of (write_wf ((kk 1 (by omega) (by omega) (by omega)).trans ht) f5 hz I D (EntAt.of a4') (fun b hb => ?_) ok' (by omega) (fun w1 h6 f6 n6 k6 => ?_) fun s2 h6 dw f6 n6 k6 => ?_)
    · have := a4'.lt b hb; omega
    · simp only [↓reduceIte, reduceCtorEq, Za, Zb, Zc, Zd, Ze, Zf, Zg, Zh, Zi, Zj, Zk, Zl, Zm, Zn, Zo, Zp, Zq, Zr, Zs, Zt, Zu, Zv, gval, Zw, rb0, rb1, rb2, rb3, rb4, tf0, tf1, tf2, tf3, Yk]
      rw [hll] at w1
      exact hR3 c1 hno' (.inr w1) h6 f6 (by omega) fun b' u1 u2 u3 => by rw [k6 _ (by omega) u2 u3]; exact kk b' u1 u2 u3
    · simp only [↓reduceIte, reduceCtorEq, Za, Zb, Zc, Zd, Ze, Zf, Zg, Zh, Zi, Zj, Zk, Zl, Zm, Zn, Zo, Zp, Zq, Zr, Zs, Zt, Zu, Zv, gval, Zw, rb0, rb1, rb2, rb3, rb4, tf0, tf1, tf2, tf3, Yk]
      exact hR4 t rfl (by omega) c1 hno' (by omega) s2 h6 dw f6 (by omega) fun b' u1 u2 u3 => by rw [k6 _ (by omega) u2 u3]; exact kk b' u1 u2 u3
set_option maxRecDepth 100000 in
theorem dfind_wf (f : Fs h bd bl s) {k : Nat} {l0 : List (List UInt8 × Nat)} (I : s.Inv F) (D : Dr s F k l0) (hl0 : l0.length ≤ 21) {nm : List UInt8}
    (hR1 : ∀ (j : Nat) e, l0[j]? = some e → e.1 = nm → ∀ h', Fs h' bd bl s → h.nx ≤ h'.nx → (∀ b', b' < h.nx → b' ≠ bd → h'.get b' = h.get b') → R (.ret (.int .i64 (e.2 : Int))) h')
    (hR2 : (∀ e ∈ l0, e.1 ≠ nm) → ∀ h', Fs h' bd bl s → h.nx ≤ h'.nx → (∀ b', b' < h.nx → b' ≠ bd → h'.get b' = h.get b') → R (.ret (.int .i64 (-1))) h') :
    WF Tryz.prog 2 sp16 23 [.iface 22 (.pointer (some ⟨bd, 0, none⟩)), .int .i64 k, .string (mkS nm)] h R := by
  refine wf_fn (fn := Tryz.f23) rfl rfl (by kernel_rfl) rfl ?_
  have q1 := f.d.bd_lt
  have q2 := f.d.bl_lt
  simp only [↓reduceIte, reduceCtorEq, Za, Zb, Zc, Zd, Ze, Zf, Zg, Zh, Zi, Zj, Zk, Zl, Zm, Zn, Zo, Zp, Zq, Zr, Zs, Zt, Zu, Zv, gval, Zw, rb0, rb1, rb2, rb3, rb4, tf0, tf1, tf2, tf3, Yk, Tryz.f23]
  refine runC_of (read_wf f I D fun h1 v f1 n1 k1 r1 => ?_)
  obtain ⟨va, hv⟩ := r1.slc
  rw [hv] at r1 ⊢
  simp only [↓reduceIte, reduceCtorEq, Za, Zb, Zc, Zd, Ze, Zf, Zg, Zh, Zi, Zj, Zk, Zl, Zm, Zn, Zo, Zp, Zq, Zr, Zs, Zt, Zu, Zv, gval, Zw, rb0, rb1, rb2, rb3, rb4, tf0, tf1, tf2, tf3, Yk]
  refine runC_of (find_wf (EntAt.of r1) (fun b hb => (r1.lt b hb).2) (by omega) (fun j e hj he _ h3 n3 k3 => ?_) fun hno h3 n3 k3 => ?_)
  · have cj : ¬ (j : Int) < 0 := by omega
    have hjl := (List.getElem?_eq_some_iff.1 hj).1
    have cj0 : (0 : Int) ≤ (j : Int) := by omega
    have cj1 : (j : Int) < (l0.length : Int) := by omega
    rcases r1.is with ⟨e0, _, e1⟩ | ⟨b, w1, w2, w3, g⟩
    · omega
    cases w3
    have g3 := (k3 b w2).trans g
    have hs := ents_snd hj
    have hlt : j * 2 + 1 < (ents l0).length := by rw [ents_len]; omega
    simp (disch := (first | omega | rfl | (simp only [Yn]; omega))) only [↓reduceIte, reduceCtorEq, Za, Zb, Zc, Zd, Ze, Zf, Zg, Zh, Zi, Zj, Zk, Zl, Zm, Zn, Zo, Zp, Zq, Zr, Zs, Zt, Zu, Zv, gval, Zw, rb0, rb1, rb2, rb3, rb4, tf0, tf1, tf2, tf3, Yk, Yh, overL_one, if_pos, stX_exactN, cj, cj0, cj1, g3, hs, hlt]
    exact hR1 j e hj he h3 (f1.keep n3 (k3 _ (by omega)) (k3 _ (by omega))) (by omega) fun b' w1 w2 => by rw [k3 _ (by omega)]; exact k1 b' w1 w2
  · simp only [↓reduceIte, reduceCtorEq, Za, Zb, Zc, Zd, Ze, Zf, Zg, Zh, Zi, Zj, Zk, Zl, Zm, Zn, Zo, Zp, Zq, Zr, Zs, Zt, Zu, Zv, gval, Zw, rb0, rb1, rb2, rb3, rb4, tf0, tf1, tf2, tf3, Yk]
    exact hR2 (fun e he => by
      obtain ⟨j, hj⟩ := List.mem_iff_getElem?.1 he
      exact hno j e hj) h3 (f1.keep n3 (k3 _ (by omega)) (k3 _ (by omega))) (by omega) fun b' w1 w2 => by rw [k3 _ (by omega)]; exact k1 b' w1 w2
set_option maxRecDepth 100000 in
set_option maxHeartbeats 1000000 in
theorem remove_wf (ht : h.get 1 = some (tabBlk .u8 tab)) (f : Fs h bd bl s) (hz : 1 < bd ∧ 1 < bl) {k : Nat} {l0 : List (List UInt8 × Nat)} (I : s.Inv F) (D : Dr s F k l0) (hl0 : l0.length ≤ 21) {nm : List UInt8}
    (hR1 : (∀ e ∈ l0, e.1 ≠ nm) → ∀ h', Fs h' bd bl s → h.nx ≤ h'.nx → (∀ b', b' < h.nx → b' ≠ bd → b' ≠ bl → h'.get b' = h.get b') → R (.ret (.int .i64 2)) h')
    (hR2 : ∀ (j : Nat) e, l0[j]? = some e → e.1 = nm → (∀ (i : Nat) e', i < j → l0[i]? = some e' → e'.1 ≠ nm) → ∀ s2 h', DW s s2 F k (enc (l0.eraseIdx j)) → Fs h' bd bl s2 → h.nx ≤ h'.nx → (∀ b', b' < h.nx → b' ≠ bd → b' ≠ bl → h'.get b' = h.get b') → R (.ret (.int .i64 0)) h') :
    WF Tryz.prog 2 sp16 38 [.iface 22 (.pointer (some ⟨bd, 0, none⟩)), .int .i64 k, .string (mkS nm)] h R := by
  refine wf_fn (fn := Tryz.f38) rfl rfl (by kernel_rfl) rfl ?_
  have q1 := f.d.bd_lt
  have q2 := f.d.bl_lt
  simp only [↓reduceIte, reduceCtorEq, Za, Zb, Zc, Zd, Ze, Zf, Zg, Zh, Zi, Zj, Zk, Zl, Zm, Zn, Zo, Zp, Zq, Zr, Zs, Zt, Zu, Zv, gval, Zw, rb0, rb1, rb2, rb3, rb4, tf0, tf1, tf2, tf3, Yk, Tryz.f38]
  refine runC_of (read_wf f I D fun h1 v f1 n1 k1 r1 => ?_)
  obtain ⟨va, hv⟩ := r1.slc
  rw [hv] at r1 ⊢
  simp only [↓reduceIte, reduceCtorEq, Za, Zb, Zc, Zd, Ze, Zf, Zg, Zh, Zi, Zj, Zk, Zl, Zm, Zn, Zo, Zp, Zq, Zr, Zs, Zt, Zu, Zv, gval, Zw, rb0, rb1, rb2, rb3, rb4, tf0, tf1, tf2, tf3, Yk]
  refine runC_of (find_wf (EntAt.of r1) (fun b hb => (r1.lt b hb).2) (by omega) (fun j e hj he hbef h3 n3 k3 => ?_) fun hno h3 n3 k3 => ?_)
  · have cj : ¬ (j : Int) < 0 := by omega
    have hjl := (List.getElem?_eq_some_iff.1 hj).1
    have wj : wrapF .i64 ((j : Int) + 1) = ((j + 1 : Nat) : Int) := by rw [wrapI (by omega) (by omega)]; omega
    rcases r1.is with ⟨e0, _, e1⟩ | ⟨b, w1, w2, w3, g⟩
    · omega
    cases w3
    have g3 := (k3 b w2).trans g
    have f3 : Fs h3 bd bl s := f1.keep n3 (k3 _ (by omega)) (k3 _ (by omega))
    have k03 : ∀ b', b' < h.nx → b' ≠ bd → b' ≠ bl → h3.get b' = h.get b' := fun b' u1 u2 u3 => by rw [k3 _ (by omega)]; exact k1 b' u1 u2
    have hX := ents_len l0
    have hap := app_cut h3.nx g3 hX hjl (by omega)
    have hle : (l0.eraseIdx j).length = l0.length - 1 := List.length_eraseIdx_of_lt hjl
    have ok' : ∀ e ∈ l0.eraseIdx j, EntOk e := fun e he => D.ok e (List.mem_of_mem_eraseIdx he)
    have hnr : ¬ s.n < popc 64 s.b + (needN (9 * (l0.eraseIdx j).length) - needN (9 * l0.length)) := by
      have h1 := popc_inv I
      have h2 := needN_mono (show 9 * (l0.eraseIdx j).length ≤ 9 * l0.length by omega)
      omega
    by_cases c : l0.length = j + 1
    · rw [if_pos c] at hap
      simp (disch := (first | omega | rfl | (simp only [Yn]; omega))) only [↓reduceIte, reduceCtorEq, Za, Zb, Zc, Zd, Ze, Zf, Zg, Zh, Zi, Zj, Zk, Zl, Zm, Zn, Zo, Zp, Zq, Zr, Zs, Zt, Zu, Zv, gval, Zw, rb0, rb1, rb2, rb3, rb4, tf0, tf1, tf2, tf3, Yk, Yh, overL_one, if_pos, stX_exactN, cj]
      refine run_draw (ps := [(5, 8), (5, 9)]) (by kernel_rfl) (by kernel_rfl) ?_
      simp (disch := (first | omega | rfl | (simp only [Yn]; omega))) only [↓reduceIte, reduceCtorEq, Za, Zb, Zc, Zd, Ze, Zf, Zg, Zh, Zi, Zj, Zk, Zl, Zm, Zn, Zo, Zp, Zq, Zr, Zs, Zt, Zu, Zv, gval, Zw, rb0, rb1, rb2, rb3, rb4, tf0, tf1, tf2, tf3, Yk, Yh, overL_one, if_pos, stX_exactN, sl_to g3 (Nat.le_of_lt hjl), wj, sl_from g3 hX (show j + 1 ≤ l0.length from hjl), hap]
      obtain ⟨h4, hh4⟩ : ∃ h4, h3.upd b (cellsB (ents l0) (.loose 2)) = h4 := ⟨_, rfl⟩
      have n4 : h4.nx = h3.nx := by rw [← hh4, Heap.nx_upd]
      have k4 : ∀ b', b' < h.nx → h4.get b' = h3.get b' := fun b' hb' => by rw [← hh4, Heap.get_upd_ne _ _ (by omega)]
      have g4 : h4.get b = some (cellsB (ents l0) (.loose 2)) := by rw [← hh4, Heap.get_upd_same]
      rw [hh4]
      have x4 : EntAt h4 (.slice (some ⟨b, 0, none⟩) j j) (l0.eraseIdx j) := by
        refine ⟨.inr ⟨b, j, _, _, by rw [hle]; congr 1; omega, g4, by rw [hX]; omega, fun i e' hi => ents_take ?_⟩⟩
        rw [List.getElem?_eraseIdx] at hi
        have hij : i < j := by
          have := (List.getElem?_eq_some_iff.1 (show (l0.eraseIdx j)[i]? = some e' by rw [List.getElem?_eraseIdx]; exact hi)).1
          omega
        rw [if_pos hij] at hi
        exact hi
      have f4 : Fs h4 bd bl s := f3.keep (by omega) (k4 _ (by omega)) (k4 _ (by omega))
      have kk : ∀ b', b' < h.nx → b' ≠ bd → b' ≠ bl → h4.get b' = h.get b' := fun b' u1 u2 u3 => by rw [k4 _ u1]; exact k03 b' u1 u2 u3
      refine runCR_of (write_wf ((kk 1 (by omega) (by omega) (by omega)).trans ht) f4 hz I D x4 (fun b' hb' => ?_) ok' (by omega) (fun u _ _ _ _ => absurd u hnr) fun s2 h6 dw f6 n6 k6 => ?_)
      · have : b' = b := List.mem_singleton.1 hb'
        omega
      · simp only [↓reduceIte, reduceCtorEq, Za, Zb, Zc, Zd, Ze, Zf, Zg, Zh, Zi, Zj, Zk, Zl, Zm, Zn, Zo, Zp, Zq, Zr, Zs, Zt, Zu, Zv, gval, Zw, rb0, rb1, rb2, rb3, rb4, tf0, tf1, tf2, tf3, Yk]
        exact hR2 j e hj he hbef s2 h6 dw f6 (by omega) fun b' u1 u2 u3 => by rw [k6 _ (by omega) u2 u3]; exact kk b' u1 u2 u3
    · rw [if_neg c] at hap
      simp (disch := (first | omega | rfl | (simp only [Yn]; omega))) only [↓reduceIte, reduceCtorEq, Za, Zb, Zc, Zd, Ze, Zf, Zg, Zh, Zi, Zj, Zk, Zl, Zm, Zn, Zo, Zp, Zq, Zr, Zs, Zt, Zu, Zv, gval, Zw, rb0, rb1, rb2, rb3, rb4, tf0, tf1, tf2, tf3, Yk, Yh, overL_one, if_pos, stX_exactN, cj]
      refine run_draw (ps := [(5, 8), (5, 9)]) (by kernel_rfl) (by kernel_rfl) ?_
      simp (disch := (first | omega | rfl | (simp only [Yn]; omega))) only [↓reduceIte, reduceCtorEq, Za, Zb, Zc, Zd, Ze, Zf, Zg, Zh, Zi, Zj, Zk, Zl, Zm, Zn, Zo, Zp, Zq, Zr, Zs, Zt, Zu, Zv, gval, Zw, rb0, rb1, rb2, rb3, rb4, tf0, tf1, tf2, tf3, Yk, Yh, overL_one, if_pos, stX_exactN, sl_to g3 (Nat.le_of_lt hjl), wj, sl_from g3 hX (show j + 1 ≤ l0.length from hjl), hap]
      obtain ⟨h4, hh4⟩ : ∃ h4, h3.new (cellsB (List.take (j * 2) (ents l0) ++ List.drop ((j + 1) * 2) (ents l0)) (.loose 2)) = h4 := ⟨_, rfl⟩
      have n4 : h4.nx = h3.nx + 1 := by rw [← hh4, Heap.nx_new]
      have k4 : ∀ b', b' < h.nx → h4.get b' = h3.get b' := fun b' hb' => by rw [← hh4, Heap.get_new_ne _ _ (by omega)]
      have g4 : h4.get h3.nx = some (cellsB (ents (l0.eraseIdx j)) (.loose 2)) := by rw [← hh4, Heap.get_new_same, ents_erase]
      rw [hh4]
      have x4 : EntAt h4 (.slice (some ⟨h3.nx, 0, none⟩) (l0.length - 1) (l0.length - 1)) (l0.eraseIdx j) :=
        ⟨.inr ⟨_, _, _, _, by rw [hle], g4, by rw [ents_len]; exact Nat.le_refl _, fun i e' hi => ents_take hi⟩⟩
      have f4 : Fs h4 bd bl s := f3.keep (by omega) (k4 _ (by omega)) (k4 _ (by omega))
      have kk : ∀ b', b' < h.nx → b' ≠ bd → b' ≠ bl → h4.get b' = h.get b' := fun b' u1 u2 u3 => by rw [k4 _ u1]; exact k03 b' u1 u2 u3
      refine runCR_of (write_wf ((kk 1 (by omega) (by omega) (by omega)).trans ht) f4 hz I D x4 (fun b' hb' => ?_) ok' (by omega) (fun u _ _ _ _ => absurd u hnr) fun s2 h6 dw f6 n6 k6 => ?_)
      · have : b' = h3.nx := List.mem_singleton.1 hb'
        omega
      · simp only [↓reduceIte, reduceCtorEq, Za, Zb, Zc, Zd, Ze, Zf, Zg, Zh, Zi, Zj, Zk, Zl, Zm, Zn, Zo, Zp, Zq, Zr, Zs, Zt, Zu, Zv, gval, Zw, rb0, rb1, rb2, rb3, rb4, tf0, tf1, tf2, tf3, Yk]
        exact hR2 j e hj he hbef s2 h6 dw f6 (by omega) fun b' u1 u2 u3 => by rw [k6 _ (by omega) u2 u3]; exact kk b' u1 u2 u3
  · simp only [↓reduceIte, reduceCtorEq, Za, Zb, Zc, Zd, Ze, Zf, Zg, Zh, Zi, Zj, Zk, Zl, Zm, Zn, Zo, Zp, Zq, Zr, Zs, Zt, Zu, Zv, gval, Zw, rb0, rb1, rb2, rb3, rb4, tf0, tf1, tf2, tf3, Yk]
    exact hR1 (fun e he => by
      obtain ⟨j, hj⟩ := List.mem_iff_getElem?.1 he
      exact hno j e hj) h3 (f1.keep n3 (k3 _ (by omega)) (k3 _ (by omega))) (by omega) fun b' w1 w2 w3 => by rw [k3 _ (by omega)]; exact k1 b' w1 w2
end Go.Proofs.YtbgminppkacdlaaGreatDoor
end
section
/- Paths: the parts of a path. Conditions: as each rule says. -/
namespace Go.Proofs.YtbgminppkacdlaaGreatDoor
open Go.AM
open Nat renaming reduceBEq → Za, reduceEqDiff → Zb, reduceAdd → Zc, reduceSub → Zd, reduceMul → Ze, reduceLT → Zf, reduceLeDiff → Zg, reduceDiv → Zh, reduceMod → Zi, reducePow → Zj
open Int renaming reduceAdd → Zk, reduceSub → Zl, reduceMul → Zm, reduceLT → Zn, reduceLE → Zo, reduceEq → Zp, reduceNe → Zq, reduceNeg → Zr, reduceToNat → Zs, reduceDiv → Zt, reduceMod → Zu, reducePow → Zv, cast_ofNat_Int → Zw
set_option linter.unusedSimpArgs false
variable {sp : Special} {h : Heap} {R : Out → Heap → Prop}
def cutP (p : List UInt8) (st : List (List UInt8) × Nat) (i : Nat) : List (List UInt8) × Nat := (if st.2 < i then st.1 ++ [(p.drop st.2).take (i - st.2)] else st.1, i + 1)
def cutS (p : List UInt8) : Nat → List (List UInt8) × Nat
  | 0 => ([], 0)
  | i + 1 => if p[i]? = some 47 then cutP p (cutS p i) i else cutS p i
def parts (p : List UInt8) : List (List UInt8) := (cutP p (cutS p p.length) p.length).1
theorem cutS_le (p : List UInt8) : ∀ i, (cutS p i).2 ≤ i
  | 0 => Nat.le_refl _
  | i + 1 => by
    unfold cutS
    split
    · exact Nat.le_refl _
    · have := cutS_le p i; omega
theorem cutS_len (p : List UInt8) : ∀ i, (cutS p i).1.length ≤ i
  | 0 => Nat.le_refl _
  | i + 1 => by
    have := cutS_len p i
    unfold cutS cutP
    split
    · simp only
      split
      · rw [List.length_append, List.length_singleton]; omega
      · omega
    · omega
theorem cutS_skip (p : List UInt8) {i : Nat} : ∀ w, (∀ j, i ≤ j → j < i + w → p[j]? ≠ some 47) → cutS p (i + w) = cutS p i
  | 0, _ => rfl
  | w + 1, hw => by
    show cutS p ((i + w) + 1) = _
    conv => lhs; unfold cutS
    rw [if_neg (hw (i + w) (by omega) (by omega)), cutS_skip p w fun j h1 h2 => hw j h1 (by omega)]
theorem cutP_len (p : List UInt8) {st : List (List UInt8) × Nat} {i : Nat} : (cutP p st i).1.length ≤ st.1.length + 1 := by
  unfold cutP
  simp only
  split
  · rw [List.length_append, List.length_singleton]; exact Nat.le_refl _
  · omega
theorem parts_len (p : List UInt8) : (parts p).length ≤ p.length + 1 := by
  have h1 := cutS_len p p.length
  have h2 := cutP_len p (st := cutS p p.length) (i := p.length)
  unfold parts; omega
def errL : List (List UInt8) → Int
  | [] => 0
  | x :: r => if chk x ≠ 0 then chk x else errL r
theorem errL_at : ∀ {L : List (List UInt8)} {i : Nat} {x : List UInt8}, (∀ j y, j < i → L[j]? = some y → chk y = 0) → L[i]? = some x → chk x ≠ 0 → errL L = chk x
  | [], _, _, _, h, _ => by simp at h
  | y :: r, 0, x, _, h, hc => by
    rw [List.getElem?_cons_zero] at h
    cases Option.some.inj h
    unfold errL; rw [if_pos hc]
  | y :: r, i + 1, x, hz, h, hc => by
    unfold errL
    rw [if_neg (by rw [hz 0 y (by omega) rfl]; exact fun h => h rfl)]
    exact errL_at (fun j y hj hy => hz (j + 1) y (by omega) hy) h hc
theorem errL_none : ∀ {L : List (List UInt8)}, (∀ (j : Nat) (y : List UInt8), L[j]? = some y → chk y = 0) → errL L = 0
  | [], _ => rfl
  | y :: r, hz => by
    unfold errL
    rw [if_neg (by rw [hz 0 y rfl]; exact fun h => h rfl)]
    exact errL_none fun j y hy => hz (j + 1) y hy
def splE (p : List UInt8) : Int := if p = [] then 2 else if 32 < p.length then 36 else errL (parts p)
def splL (p : List UInt8) : List (List UInt8) := if splE p = 0 then parts p else []
theorem chk_b (l : List UInt8) : chk l = 36 ∨ chk l = 22 ∨ chk l = 0 := by
  unfold chk
  split
  · exact .inl rfl
  · split
    · exact .inr (.inl rfl)
    · exact .inr (.inr rfl)
theorem bs1_56 (s : ByteArray) (nx : Nat) : effBuildSlice Tryz.prog 100 1 [(0, .string s)] nx = some ⟨.slice (some ⟨nx, 0, none⟩) 1 1, [], [cellsB [.string s] .exact]⟩ := by
  rw [u_buildSlice 100 1 nx _ mk_100 (by omega)]; rfl
theorem nbeq {a b : Nat} (h : a ≠ b) : a.beq b = false := by rw [← Bool.not_eq_true, Nat.beq_eq]; exact h
set_option maxRecDepth 100000 in
theorem part44_spec (hsp : (sp 91).isNone = true) {bf bl bp lo n i fr : Nat} {v : Value} {p : List UInt8} {L : List (List UInt8)} (gf : h.get bf = some (cellsB [.int .i64 fr] .exact)) (gl : h.get bl = some (cellsB [v] .exact)) (gp : h.get bp = some (cellsB [.string (mkS p)] .exact))
    (hd : bf ≠ bl ∧ bf ≠ bp ∧ bl ≠ bp ∧ bf < lo ∧ bl < lo ∧ bp < lo ∧ lo ≤ h.nx) (r : RowG h lo 1 v n (strs L)) (hi : i ≤ p.length) (hp : p.length ≤ 32) (hn : n ≤ 1000)
    (hR : ∀ h' w n', h.nx ≤ h'.nx → h'.get bf = some (cellsB [.int .i64 ((cutP p (L, fr) i).2 : Nat)] .exact) → h'.get bl = some (cellsB [w] .exact) → h'.get bp = some (cellsB [.string (mkS p)] .exact) → RowG h' lo 1 w n' (strs (cutP p (L, fr) i).1) → n' ≤ n + 1 → (∀ b, b < lo → b ≠ bf → b ≠ bl → h'.get b = h.get b) → R (.ret (.tuple #[])) h') :
    WF Tryz.prog 2 sp 91 [.int .i64 i, .pointer (some ⟨bf, 0, none⟩), .pointer (some ⟨bl, 0, none⟩), .pointer (some ⟨bp, 0, none⟩)] h R := by
  refine wf_fn (fn := Tryz.f91) hsp rfl (by kernel_rfl) rfl ?_
  obtain ⟨d1, d2, d3, d4, d5, d6, d7⟩ := hd
  have wp : wrapF .i64 ((i : Int) + 1) = ((i + 1 : Nat) : Int) := by rw [wrapI (by omega) (by omega)]; omega
  by_cases c1 : fr < i
  · have c1' : (fr : Int) < (i : Int) := by omega
    simp only [↓reduceIte, reduceCtorEq, Za, Zb, Zc, Zd, Ze, Zf, Zg, Zh, Zi, Zj, Zk, Zl, Zm, Zn, Zo, Zp, Zq, Zr, Zs, Zt, Zu, Zv, gval, Zw, rb0, rb1, rb2, rb3, rb4, tf0, tf1, tf2, tf3, Yk, Tryz.f91, gf, c1']
    refine run_draw (ps := [(0, 4), (0, 5)]) (by kernel_rfl) (by kernel_rfl) ?_
    obtain ⟨X, hX⟩ : ∃ X, (p.drop fr).take (i - fr) = X := ⟨_, rfl⟩
    have hcut : cutP p (L, fr) i = (L ++ [X], i + 1) := by unfold cutP; simp only; rw [if_pos c1, hX]
    rw [hcut] at hR
    have hnew : firstL (h.new (cellsB [.string (mkS X)] .exact)).get 1 1 (.slice (some ⟨h.nx, 0, none⟩) 1 1) = some [.string (mkS X)] := by rw [firstL_slc _ _ _ _ _ _ _ _ _ (Heap.get_new_same _ _) (by simp)]; rfl
    rcases r.is with ⟨rfl, hL, rfl⟩ | ⟨b, q1, q2, rfl, q4⟩
    · have hap := aAppend_nil app_100_100 1 _ _ (h.nx + 1) rfl (by omega) (by omega) hnew
      simp (disch := (first | omega | rfl | (simp only [Yn]; omega))) only [↓reduceIte, reduceCtorEq, Za, Zb, Zc, Zd, Ze, Zf, Zg, Zh, Zi, Zj, Zk, Zl, Zm, Zn, Zo, Zp, Zq, Zr, Zs, Zt, Zu, Zv, gval, Zw, rb0, rb1, rb2, rb3, rb4, tf0, tf1, tf2, tf3, Yk, Yh, overL_one, if_pos, stX_exactN, gf, gl, gp, hX, str_slice tag_9 (Nat.le_of_lt c1) hi, bs1_56, hap]
      refine ⟨by rw [nbeq (show bl ≠ h.nx by omega)]; rfl, ?_⟩
      rw [wp]
      refine hR _ (.slice (some ⟨h.nx + 1, 0, none⟩) 1 1) 1 ?_ (by simp (disch := (first | omega | rfl | (simp only [Yn]; omega))) only [Yh, Yc]) (by simp (disch := (first | omega | rfl | (simp only [Yn]; omega))) only [Yh, Yc]) (by simp (disch := (first | omega | rfl | (simp only [Yn]; omega))) only [Yh, Yc, gp]) ⟨?_, .inr ⟨h.nx + 1, by omega, ?_, rfl, ?_⟩⟩ (by omega) fun b' h1 h2 h3 => ?_
      · simp (disch := (first | omega | rfl | (simp only [Yn]; omega))) only [Yh, Yc]; omega
      · show (strs (L ++ [X])).length = _
        rw [strs_len, List.length_append, List.length_singleton]; have := r.len; rw [strs_len] at this; omega
      · simp (disch := (first | omega | rfl | (simp only [Yn]; omega))) only [Yh, Yc]; omega
      · simp (disch := (first | omega | rfl | (simp only [Yn]; omega))) only [Yh, Yc]; rw [strs_app, hL]; rfl
      · simp (disch := (first | omega | rfl | (simp only [Yn]; omega))) only [Yh, Yc]
    · have q4' : (h.new (cellsB [.string (mkS X)] .exact)).get b = some (cellsB (strs L) (.loose 1)) := by rw [Heap.get_new_ne _ _ (by omega)]; exact q4
      have hap := aAppend_loose app_100_100 b n 1 _ _ (h.nx + 1) q4' r.len rfl (by omega) (by omega) hnew
      simp (disch := (first | omega | rfl | (simp only [Yn]; omega))) only [↓reduceIte, reduceCtorEq, Za, Zb, Zc, Zd, Ze, Zf, Zg, Zh, Zi, Zj, Zk, Zl, Zm, Zn, Zo, Zp, Zq, Zr, Zs, Zt, Zu, Zv, gval, Zw, rb0, rb1, rb2, rb3, rb4, tf0, tf1, tf2, tf3, Yk, Yh, overL_one, if_pos, stX_exactN, gf, gl, gp, hX, str_slice tag_9 (Nat.le_of_lt c1) hi, bs1_56, hap]
      refine ⟨by rw [nbeq (show bl ≠ h.nx by omega)]; rfl, ?_⟩
      rw [wp]
      refine hR _ (.slice (some ⟨h.nx + 1, 0, none⟩) (n + 1) (n + 1)) (n + 1) ?_ (by simp (disch := (first | omega | rfl | (simp only [Yn]; omega))) only [Yh, Yc]) (by simp (disch := (first | omega | rfl | (simp only [Yn]; omega))) only [Yh, Yc]) (by simp (disch := (first | omega | rfl | (simp only [Yn]; omega))) only [Yh, Yc, gp]) ⟨?_, .inr ⟨h.nx + 1, by omega, ?_, rfl, ?_⟩⟩ (by omega) fun b' h1 h2 h3 => ?_
      · simp (disch := (first | omega | rfl | (simp only [Yn]; omega))) only [Yh, Yc]; omega
      · show (strs (L ++ [X])).length = _
        rw [strs_len, List.length_append, List.length_singleton]; have := r.len; rw [strs_len] at this; omega
      · simp (disch := (first | omega | rfl | (simp only [Yn]; omega))) only [Yh, Yc]; omega
      · simp (disch := (first | omega | rfl | (simp only [Yn]; omega))) only [Yh, Yc]; rw [strs_app]; rfl
      · simp (disch := (first | omega | rfl | (simp only [Yn]; omega))) only [Yh, Yc]
  · have c1' : ¬ (fr : Int) < (i : Int) := by omega
    simp (disch := (first | omega | rfl | (simp only [Yn]; omega))) only [↓reduceIte, reduceCtorEq, Za, Zb, Zc, Zd, Ze, Zf, Zg, Zh, Zi, Zj, Zk, Zl, Zm, Zn, Zo, Zp, Zq, Zr, Zs, Zt, Zu, Zv, gval, Zw, rb0, rb1, rb2, rb3, rb4, tf0, tf1, tf2, tf3, Yk, Yh, overL_one, if_pos, stX_exactN, Tryz.f91, gf, c1', wp]
    have hcut : cutP p (L, fr) i = (L, i + 1) := by unfold cutP; simp only; rw [if_neg c1]
    rw [hcut] at hR
    exact hR _ v n (by rw [Heap.nx_upd]; exact Nat.le_refl _) (by simp (disch := (first | omega | rfl | (simp only [Yn]; omega))) only [Yh, Yc]) (by simp (disch := (first | omega | rfl | (simp only [Yn]; omega))) only [Yh, Yc, gl]) (by simp (disch := (first | omega | rfl | (simp only [Yn]; omega))) only [Yh, Yc, gp]) (r.keep (by rw [Heap.nx_upd]; exact Nat.le_refl _) fun b h1 h2 _ => by simp (disch := (first | omega | rfl | (simp only [Yn]; omega))) only [Yh, Yc]) (by omega) fun b' h1 h2 h3 => by simp (disch := (first | omega | rfl | (simp only [Yn]; omega))) only [Yh, Yc]
set_option maxRecDepth 100000 in
theorem split_spec (p22 : (sp 70).isNone = true) (p44 : (sp 91).isNone = true) (p45 : (sp 75).isNone = true) {p : List UInt8} (hR : ∀ h' v, h.nx ≤ h'.nx → RowG h' h.nx 1 v (splL p).length (strs (splL p)) → (∀ b, b < h.nx → h'.get b = h.get b) → R (.ret (.tuple #[v, .int .i64 (splE p)])) h') : WF Tryz.prog 2 sp 70 [.string (mkS p)] h R := by
  refine wf_fn (fn := Tryz.f70) p22 rfl (by kernel_rfl) rfl ?_
  by_cases c1 : p = []
  · have hE : splE p = 2 := by unfold splE; rw [if_pos c1]
    have hL : splL p = [] := by unfold splL; rw [hE]; rfl
    have cx : decide (p = []) = true := by simp [c1]
    simp (disch := (first | omega | rfl | (simp only [Yn]; omega))) only [↓reduceIte, reduceCtorEq, Za, Zb, Zc, Zd, Ze, Zf, Zg, Zh, Zi, Zj, Zk, Zl, Zm, Zn, Zo, Zp, Zq, Zr, Zs, Zt, Zu, Zv, gval, Zw, rb0, rb1, rb2, rb3, rb4, tf0, tf1, tf2, tf3, Yk, Yh, overL_one, if_pos, stX_exactN, Tryz.f70, str_eqG, cx, show ByteArray.empty = mkS [] from rfl]
    rw [hE, hL] at hR
    exact hR _ _ (by rw [Heap.nx_new]; omega) .nil fun b hb => by simp (disch := (first | omega | rfl | (simp only [Yn]; omega))) only [Yh, Yc]
  have cx : decide (p = []) = false := by simp [c1]
  by_cases c2 : 32 < p.length
  · have hE : splE p = 36 := by unfold splE; rw [if_neg c1, if_pos c2]
    have hL : splL p = [] := by unfold splL; rw [hE]; rfl
    have c2' : (32 : Int) < (p.length : Int) := by omega
    simp (disch := (first | omega | rfl | (simp only [Yn]; omega))) only [↓reduceIte, reduceCtorEq, Za, Zb, Zc, Zd, Ze, Zf, Zg, Zh, Zi, Zj, Zk, Zl, Zm, Zn, Zo, Zp, Zq, Zr, Zs, Zt, Zu, Zv, gval, Zw, rb0, rb1, rb2, rb3, rb4, tf0, tf1, tf2, tf3, Yk, Yh, overL_one, if_pos, stX_exactN, Tryz.f70, str_eqG, cx, show ByteArray.empty = mkS [] from rfl, mkS_size, c2']
    rw [hE, hL] at hR
    exact hR _ _ (by rw [Heap.nx_new]; omega) .nil fun b hb => by simp (disch := (first | omega | rfl | (simp only [Yn]; omega))) only [Yh, Yc]
  have c2' : ¬ (32 : Int) < (p.length : Int) := by omega
  simp (disch := (first | omega | rfl | (simp only [Yn]; omega))) only [↓reduceIte, reduceCtorEq, Za, Zb, Zc, Zd, Ze, Zf, Zg, Zh, Zi, Zj, Zk, Zl, Zm, Zn, Zo, Zp, Zq, Zr, Zs, Zt, Zu, Zv, gval, Zw, rb0, rb1, rb2, rb3, rb4, tf0, tf1, tf2, tf3, Yk, Yh, overL_one, if_pos, stX_exactN, Tryz.f70, str_eqG, cx, show ByteArray.empty = mkS [] from rfl, mkS_size, c2', u_rangeS (show Tryz.prog.underlying 9 = some .string from by kernel_rfl)]
  refine run_loop2 rfl (fun N e h' => ∃ (q n : Nat) (v : Value), N = p.length - q ∧ q ≤ p.length ∧ e.at 1 = .pointer (some ⟨h.nx, 0, none⟩) ∧ e.at 4 = .pointer (some ⟨h.nx + 1, 0, none⟩) ∧ e.at 6 = .func (.func 91) #[] #[.pointer (some ⟨h.nx + 1 + 1, 0, none⟩), .pointer (some ⟨h.nx + 1, 0, none⟩), .pointer (some ⟨h.nx, 0, none⟩)] ∧ e.at 19 = .pointer (some ⟨h.nx + 1 + 1 + 1, 0, none⟩) ∧
      h'.get (h.nx + 1 + 1 + 1) = some (.str (mkS p) q) ∧ h'.get (h.nx + 1 + 1) = some (cellsB [.int .i64 ((cutS p q).2 : Nat)] .exact) ∧ h'.get (h.nx + 1) = some (cellsB [v] .exact) ∧ h'.get h.nx = some (cellsB [.string (mkS p)] .exact) ∧ RowG h' (h.nx + 4) 1 v n (strs (cutS p q).1) ∧ h.nx + 4 ≤ h'.nx ∧ ∀ b, b < h.nx → h'.get b = h.get b)
    (fun ex e h' => ex = .exit 0 ∧ ∃ (n : Nat) (v : Value), e.at 1 = .pointer (some ⟨h.nx, 0, none⟩) ∧ e.at 4 = .pointer (some ⟨h.nx + 1, 0, none⟩) ∧ e.at 6 = .func (.func 91) #[] #[.pointer (some ⟨h.nx + 1 + 1, 0, none⟩), .pointer (some ⟨h.nx + 1, 0, none⟩), .pointer (some ⟨h.nx, 0, none⟩)] ∧
      h'.get (h.nx + 1 + 1) = some (cellsB [.int .i64 ((cutS p p.length).2 : Nat)] .exact) ∧ h'.get (h.nx + 1) = some (cellsB [v] .exact) ∧ h'.get h.nx = some (cellsB [.string (mkS p)] .exact) ∧ RowG h' (h.nx + 4) 1 v n (strs (cutS p p.length).1) ∧ h.nx + 4 ≤ h'.nx ∧ ∀ b, b < h.nx → h'.get b = h.get b) ?_ (p.length - 0) _ _ ?_ ?_
  · rintro N e h' ⟨q, n, v, rfl, hq, e1, e4, e6, e19, gi, gf, gl, gp, r, hn, hk⟩ Q' hQn hQx
    by_cases hp : q < p.length
    · obtain ⟨b, hb⟩ : ∃ b, p[q]? = some b := ⟨_, List.getElem?_eq_getElem hp⟩
      by_cases c3 : b.toNat = 47
      · have hb47 : b = 47 := by rw [← UInt8.toNat_inj]; exact c3
        have hd := dec_lo hb (by omega)
        rw [c3] at hd
        have hcut : cutS p (q + 1) = cutP p (cutS p q) q := by
          conv => lhs; unfold cutS
          rw [if_pos (by rw [hb, hb47])]
        simp (disch := (first | omega | rfl | (simp only [Yn]; omega))) only [↓reduceIte, reduceCtorEq, Za, Zb, Zc, Zd, Ze, Zf, Zg, Zh, Zi, Zj, Zk, Zl, Zm, Zn, Zo, Zp, Zq, Zr, Zs, Zt, Zu, Zv, gval, Zw, rb0, rb1, rb2, rb3, rb4, tf0, tf1, tf2, tf3, Yk, Yh, overL_one, if_pos, stX_exactN, e1, e4, e6, e19, u_nextS gi (by rw [mkS_size]; exact hp) hd]
        have hnl : n ≤ q := by have h1 := r.len; have h2 := cutS_len p q; rw [strs_len] at h1; omega
        refine runC_of (part44_spec p44 (lo := h.nx + 4) (p := p) (L := (cutS p q).1) (fr := (cutS p q).2) (i := q) (n := n) (v := v) (by simp (disch := (first | omega | rfl | (simp only [Yn]; omega))) only [Yh, Yc, gf]) (by simp (disch := (first | omega | rfl | (simp only [Yn]; omega))) only [Yh, Yc, gl]) (by simp (disch := (first | omega | rfl | (simp only [Yn]; omega))) only [Yh, Yc, gp]) ⟨by omega, by omega, by omega, by omega, by omega, by omega, by simp (disch := (first | omega | rfl | (simp only [Yn]; omega))) only [Yh, Yc]; omega⟩ (r.keep (by rw [Heap.nx_upd]; exact Nat.le_refl _) fun b' h1 h2 _ => by simp (disch := (first | omega | rfl | (simp only [Yn]; omega))) only [Yh, Yc]) (by omega) (by omega) (by omega) fun h2 w n' n2 gf2 gl2 gp2 r2 hn2 k2 => ?_)
        simp only [↓reduceIte, reduceCtorEq, Za, Zb, Zc, Zd, Ze, Zf, Zg, Zh, Zi, Zj, Zk, Zl, Zm, Zn, Zo, Zp, Zq, Zr, Zs, Zt, Zu, Zv, gval, Zw, rb0, rb1, rb2, rb3, rb4, tf0, tf1, tf2, tf3, Yk]
        refine hQn _ _ _ (by omega) ⟨q + 1, n', w, rfl, by omega, by simp only [Za, Zw, Ye, e1], by simp only [Za, Zw, Ye, e4], by simp only [Za, Zw, Ye, e6], by simp only [Za, Zw, Ye, e19], ?_, ?_, gl2, gp2, ?_, ?_, fun b' hb' => ?_⟩
        · rw [k2 _ (by omega) (by omega) (by omega)]; simp (disch := (first | omega | rfl | (simp only [Yn]; omega))) only [Yh, Yc]
        · rw [hcut]; exact gf2
        · rw [hcut]; exact r2
        · rw [Heap.nx_upd] at n2; omega
        · rw [k2 _ (by omega) (by omega) (by omega), Heap.get_upd_ne _ _ (by omega)]; exact hk b' hb'
      · obtain ⟨c, w, hd, hc, hw, hk1, hk2⟩ := dec_any hb
        have c3' : ¬ (c : Int) = 47 := fun e => c3 ((hk1 47 (by omega)).1 (by omega))
        have hqw : q + w ≤ p.length := by
          rcases Nat.lt_or_ge (q + w - 1) p.length with h1 | h1
          · omega
          · obtain ⟨d, hd1, _⟩ := hk2 (q + w - 1) (by omega) (by omega)
            rw [List.getElem?_eq_none h1] at hd1; cases hd1
        have hcut : cutS p (q + w) = cutS p q := cutS_skip p w fun j h1 h2 => by
          rcases Nat.lt_or_ge q j with h3 | h3
          · obtain ⟨d, q1, q2⟩ := hk2 j h3 h2
            rw [q1]; intro e; cases Option.some.inj e; exact absurd q2 (by decide)
          · rw [show j = q by omega, hb]; intro e; cases Option.some.inj e; exact c3 rfl
        simp (disch := (first | omega | rfl | (simp only [Yn]; omega))) only [↓reduceIte, reduceCtorEq, Za, Zb, Zc, Zd, Ze, Zf, Zg, Zh, Zi, Zj, Zk, Zl, Zm, Zn, Zo, Zp, Zq, Zr, Zs, Zt, Zu, Zv, gval, Zw, rb0, rb1, rb2, rb3, rb4, tf0, tf1, tf2, tf3, Yk, Yh, overL_one, if_pos, stX_exactN, e1, e4, e6, e19, u_nextS gi (by rw [mkS_size]; exact hp) hd, c3']
        refine hQn _ _ _ (by omega) ⟨q + w, n, v, rfl, hqw, by simp only [Za, Zw, Ye, e1], by simp only [Za, Zw, Ye, e4], by simp only [Za, Zw, Ye, e6], by simp only [Za, Zw, Ye, e19], by simp (disch := (first | omega | rfl | (simp only [Yn]; omega))) only [Yh, Yc], by rw [hcut]; simp (disch := (first | omega | rfl | (simp only [Yn]; omega))) only [Yh, Yc, gf], by simp (disch := (first | omega | rfl | (simp only [Yn]; omega))) only [Yh, Yc, gl], by simp (disch := (first | omega | rfl | (simp only [Yn]; omega))) only [Yh, Yc, gp], by rw [hcut]; exact r.keep (by rw [Heap.nx_upd]; exact Nat.le_refl _) fun b' h1 h2 _ => by simp (disch := (first | omega | rfl | (simp only [Yn]; omega))) only [Yh, Yc], by simp (disch := (first | omega | rfl | (simp only [Yn]; omega))) only [Yh, Yc, hn], fun b' hb' => by simp (disch := (first | omega | rfl | (simp only [Yn]; omega))) only [Yh, Yc]; exact hk b' hb'⟩
    · simp only [↓reduceIte, reduceCtorEq, Za, Zb, Zc, Zd, Ze, Zf, Zg, Zh, Zi, Zj, Zk, Zl, Zm, Zn, Zo, Zp, Zq, Zr, Zs, Zt, Zu, Zv, gval, Zw, rb0, rb1, rb2, rb3, rb4, tf0, tf1, tf2, tf3, Yk, e19, u_nextE gi (by rw [mkS_size]; exact hp)]
      have hqe : q = p.length := by omega
      rw [hqe] at gf r
      exact hQx _ _ _ (by simp) ⟨rfl, n, v, by simp only [Za, Zw, Ye, e1], by simp only [Za, Zw, Ye, e4], by simp only [Za, Zw, Ye, e6], gf, gl, gp, r, hn, hk⟩
  · exact ⟨0, 0, _, rfl, by omega, by simp only [Za, Zw, Ye], by simp only [Za, Zw, Ye], by simp only [Za, Zw, Ye], by simp only [Za, Zw, Ye], by simp (disch := (first | omega | rfl | (simp only [Yn]; omega))) only [Yh, Yc], by simp (disch := (first | omega | rfl | (simp only [Yn]; omega))) only [Yh, Yc]; rfl, by simp (disch := (first | omega | rfl | (simp only [Yn]; omega))) only [Yh, Yc], by simp (disch := (first | omega | rfl | (simp only [Yn]; omega))) only [Yh, Yc], .nil, by simp (disch := (first | omega | rfl | (simp only [Yn]; omega))) only [Yh, Yc]; omega, fun b hb => by simp (disch := (first | omega | rfl | (simp only [Yn]; omega))) only [Yh, Yc]⟩
  rintro ex e h1 - ⟨rfl, n, v, e1, e4, e6, gf, gl, gp, r, hn, hk⟩
  simp (disch := (first | omega | rfl | (simp only [Yn]; omega))) only [↓reduceIte, reduceCtorEq, Za, Zb, Zc, Zd, Ze, Zf, Zg, Zh, Zi, Zj, Zk, Zl, Zm, Zn, Zo, Zp, Zq, Zr, Zs, Zt, Zu, Zv, gval, Zw, rb0, rb1, rb2, rb3, rb4, tf0, tf1, tf2, tf3, Yk, Yh, overL_one, if_pos, stX_exactN, e1, e4, e6, gp, mkS_size]
  have hnl : n ≤ p.length := by have h1 := r.len; have h2 := cutS_len p p.length; rw [strs_len] at h1; omega
  have hE : splE p = errL (parts p) := by unfold splE; rw [if_neg c1, if_neg c2]
  refine runC_of (part44_spec p44 (lo := h.nx + 4) (p := p) (L := (cutS p p.length).1) (fr := (cutS p p.length).2) (i := p.length) (n := n) (v := v) gf gl gp ⟨by omega, by omega, by omega, by omega, by omega, by omega, by omega⟩ r (by omega) (by omega) (by omega) fun h2 w m n2 gf2 gl2 gp2 r2 hn2 k2 => ?_)
  have r2 : RowG h2 (h.nx + 4) 1 w m (strs (parts p)) := r2
  have hm : (parts p).length = m := by have h1 := r2.len; rw [strs_len] at h1; omega
  obtain ⟨wa, hw⟩ := r2.slc
  rw [hw] at gl2
  simp only [↓reduceIte, reduceCtorEq, Za, Zb, Zc, Zd, Ze, Zf, Zg, Zh, Zi, Zj, Zk, Zl, Zm, Zn, Zo, Zp, Zq, Zr, Zs, Zt, Zu, Zv, gval, Zw, rb0, rb1, rb2, rb3, rb4, tf0, tf1, tf2, tf3, Yk, e4, gl2]
  refine run_loop2 rfl (fun N e h' => ∃ i : Nat, N = m - i ∧ i ≤ m ∧ (∀ (j : Nat) (y : List UInt8), j < i → (parts p)[j]? = some y → chk y = 0) ∧ e.at 4 = .pointer (some ⟨h.nx + 1, 0, none⟩) ∧ e.at 33 = .slice wa m m ∧ e.at 34 = .int .i64 m ∧ e.at 35 = .int .i64 i ∧ h2.nx ≤ h'.nx ∧ ∀ b, b < h2.nx → h'.get b = h2.get b)
    (fun ex e h' => (ex = .ret ∧ e.at 2 = .slice none 0 0 ∧ e.at 3 = .int .i64 (errL (parts p)) ∧ errL (parts p) ≠ 0 ∨ ex = .exit 2 ∧ e.at 4 = .pointer (some ⟨h.nx + 1, 0, none⟩) ∧ errL (parts p) = 0) ∧ h2.nx ≤ h'.nx ∧ ∀ b, b < h2.nx → h'.get b = h2.get b) ?_ (m - 0) _ _ ?_ ?_
  · rintro N e h' ⟨i, rfl, him, hz, i4, i33, i34, i35, hn', hk'⟩ Q' hQn hQx
    by_cases hi : i < m
    · obtain ⟨x, hx⟩ : ∃ x, (parts p)[i]? = some x := ⟨_, List.getElem?_eq_getElem (by omega)⟩
      have hi0 : (0 : Int) ≤ (i : Int) := by omega
      have hi1 : (i : Int) < (m : Int) := by omega
      have wi : wrapF .i64 ((i : Int) + 1) = ((i + 1 : Nat) : Int) := by rw [wrapI (by omega) (by omega)]; omega
      rcases r2.is with ⟨_, _, rfl⟩ | ⟨b, q1, q2, hv2, g1⟩
      · exact absurd hi (Nat.not_lt_zero _)
      rw [hw] at hv2
      rw [hv2] at i33
      have x1 := strs_at hx
      have l1 := strs_len (parts p)
      have g1' := (hk' b q2).trans g1
      have hil : i < (parts p).length := by omega
      simp only [↓reduceIte, reduceCtorEq, Za, Zb, Zc, Zd, Ze, Zf, Zg, Zh, Zi, Zj, Zk, Zl, Zm, Zn, Zo, Zp, Zq, Zr, Zs, Zt, Zu, Zv, gval, Zw, rb0, rb1, rb2, rb3, rb4, tf0, tf1, tf2, tf3, Yk, i4, i33, i34, i35, hi0, hi1, hi, hil, g1', l1, x1, Nat.mul_one]
      refine runC_of (check_spec p45 fun h3 n3 k3 => ?_)
      by_cases c4 : chk x = 0
      · simp only [↓reduceIte, reduceCtorEq, Za, Zb, Zc, Zd, Ze, Zf, Zg, Zh, Zi, Zj, Zk, Zl, Zm, Zn, Zo, Zp, Zq, Zr, Zs, Zt, Zu, Zv, gval, Zw, rb0, rb1, rb2, rb3, rb4, tf0, tf1, tf2, tf3, Yk, c4, i35, wi]
        refine hQn _ _ _ (by omega) ⟨i + 1, rfl, by omega, fun j y hj hy => ?_, by simp only [Za, Zw, Ye, i4], by simp only [Za, Zw, Ye, i33, hv2], by simp only [Za, Zw, Ye, i34], by simp only [Za, Zw, Ye], by omega, fun b' hb' => by rw [k3 _ (by omega)]; exact hk' b' hb'⟩
        rcases Nat.lt_or_ge j i with q | q
        · exact hz j y q hy
        · rw [show j = i by omega, hx] at hy
          cases Option.some.inj hy; exact c4
      · simp only [↓reduceIte, reduceCtorEq, Za, Zb, Zc, Zd, Ze, Zf, Zg, Zh, Zi, Zj, Zk, Zl, Zm, Zn, Zo, Zp, Zq, Zr, Zs, Zt, Zu, Zv, gval, Zw, rb0, rb1, rb2, rb3, rb4, tf0, tf1, tf2, tf3, Yk, c4, i35, wi]
        have := errL_at hz hx c4
        exact hQx _ _ _ (by simp) ⟨.inl ⟨rfl, by simp only [Za, Zw, Ye], by simp only [Za, Zw, Ye, this], by rw [this]; exact c4⟩, by omega, fun b' hb' => by rw [k3 _ (by omega)]; exact hk' b' hb'⟩
    · have hi1 : ¬ (i : Int) < (m : Int) := by omega
      simp only [↓reduceIte, reduceCtorEq, Za, Zb, Zc, Zd, Ze, Zf, Zg, Zh, Zi, Zj, Zk, Zl, Zm, Zn, Zo, Zp, Zq, Zr, Zs, Zt, Zu, Zv, gval, Zw, rb0, rb1, rb2, rb3, rb4, tf0, tf1, tf2, tf3, Yk, i34, i35, hi1]
      exact hQx _ _ _ (by simp) ⟨.inr ⟨rfl, by simp only [Za, Zw, Ye, i4], errL_none fun j y hy => hz j y (by have := (List.getElem?_eq_some_iff.1 hy).1; omega) hy⟩, hn', hk'⟩
  · exact ⟨0, rfl, by omega, fun _ _ h => absurd h (Nat.not_lt_zero _), by simp only [Za, Zw, Ye, e4], by simp only [Za, Zw, Ye], by simp only [Za, Zw, Ye], by simp only [Za, Zw, Ye], Nat.le_refl _, fun _ _ => rfl⟩
  · rintro ex e h3 - ⟨⟨rfl, i2, i3, hne⟩ | ⟨rfl, i4, h0⟩, n3, k3⟩
    · simp only [↓reduceIte, reduceCtorEq, Za, Zb, Zc, Zd, Ze, Zf, Zg, Zh, Zi, Zj, Zk, Zl, Zm, Zn, Zo, Zp, Zq, Zr, Zs, Zt, Zu, Zv, gval, Zw, rb0, rb1, rb2, rb3, rb4, tf0, tf1, tf2, tf3, Yk, i2, i3]
      have hL : splL p = [] := by unfold splL; rw [hE, if_neg hne]
      rw [hE, hL] at hR
      exact hR _ _ (by omega) .nil fun b hb => by rw [k3 _ (by omega), k2 _ (by omega) (by omega) (by omega)]; exact hk b hb
    · have gl3 : h3.get (h.nx + 1) = some (cellsB [.slice wa m m] .exact) := (k3 _ (by omega)).trans gl2
      simp only [↓reduceIte, reduceCtorEq, Za, Zb, Zc, Zd, Ze, Zf, Zg, Zh, Zi, Zj, Zk, Zl, Zm, Zn, Zo, Zp, Zq, Zr, Zs, Zt, Zu, Zv, gval, Zw, rb0, rb1, rb2, rb3, rb4, tf0, tf1, tf2, tf3, Yk, i4, gl3]
      have hL : splL p = parts p := by unfold splL; rw [hE, if_pos h0]
      rw [hE, hL, h0, hm] at hR
      rw [hw] at r2
      exact hR _ _ (by omega) ((r2.mono (by omega)).keep n3 fun b h1 h2 _ => k3 b h2) fun b hb => by rw [k3 _ (by omega), k2 _ (by omega) (by omega) (by omega)]; exact hk b hb
end Go.Proofs.YtbgminppkacdlaaGreatDoor
end
section
/- Paths: the parts of a path that grows by a slash, by a name. No condition on the program. -/
namespace Go.Proofs.YtbgminppkacdlaaGreatDoor
open Go.AM
open Nat renaming reduceBEq → Za, reduceEqDiff → Zb, reduceAdd → Zc, reduceSub → Zd, reduceMul → Ze, reduceLT → Zf, reduceLeDiff → Zg, reduceDiv → Zh, reduceMod → Zi, reducePow → Zj
open Int renaming reduceAdd → Zk, reduceSub → Zl, reduceMul → Zm, reduceLT → Zn, reduceLE → Zo, reduceEq → Zp, reduceNe → Zq, reduceNeg → Zr, reduceToNat → Zs, reduceDiv → Zt, reduceMod → Zu, reducePow → Zv, cast_ofNat_Int → Zw
set_option linter.unusedSimpArgs false
end Go.Proofs.YtbgminppkacdlaaGreatDoor
end
section
/- Directories: paths that are walked. Conditions: the disk lies as the rules name. -/
namespace Go.Proofs.YtbgminppkacdlaaGreatDoor
open Go.AM
open Nat renaming reduceBEq → Za, reduceEqDiff → Zb, reduceAdd → Zc, reduceSub → Zd, reduceMul → Ze, reduceLT → Zf, reduceLeDiff → Zg, reduceDiv → Zh, reduceMod → Zi, reducePow → Zj
open Int renaming reduceAdd → Zk, reduceSub → Zl, reduceMul → Zm, reduceLT → Zn, reduceLE → Zo, reduceEq → Zp, reduceNe → Zq, reduceNeg → Zr, reduceToNat → Zs, reduceDiv → Zt, reduceMod → Zu, reducePow → Zv, cast_ofNat_Int → Zw
set_option linter.unusedSimpArgs false
variable {h : Heap} {R : Out → Heap → Prop} {bd bl : Nat} {s : FS} {F : Nat → Prop}
set_option maxRecDepth 100000 in
theorem read_not (f : Fs h bd bl s) {i : Int} (hk : ∀ k : Nat, i = k → k < 32 → s.ino k 0 ≠ 2)
    (hR : ∀ h', Fs h' bd bl s → h.nx ≤ h'.nx → (∀ b', b' < h.nx → b' ≠ bd → h'.get b' = h.get b') → R (.ret (.tuple #[.slice none 0 0, .int .i64 20])) h') :
    WF Tryz.prog 2 sp16 49 [.iface 22 (.pointer (some ⟨bd, 0, none⟩)), .int .i64 i] h R := by
  refine wf_fn (fn := Tryz.f49) rfl rfl (by kernel_rfl) rfl ?_
  have q1 := f.d.bd_lt
  have q2 := f.d.bl_lt
  simp only [↓reduceIte, reduceCtorEq, Za, Zb, Zc, Zd, Ze, Zf, Zg, Zh, Zi, Zj, Zk, Zl, Zm, Zn, Zo, Zp, Zq, Zr, Zs, Zt, Zu, Zv, gval, Zw, rb0, rb1, rb2, rb3, rb4, tf0, tf1, tf2, tf3, Yk, Tryz.f49]
  refine runC_of (figet_any pl16 f (fun hi h1 f1 n1 k1 => ?_) fun k ek hk32 h1 f1 n1 k1 => ?_)
  · have hwl : (i64s (row9 fun _ => 0)).length = 9 := by rw [List.length_map, row9_len]
    simp (disch := (first | omega | rfl | (simp only [Yn]; omega))) only [↓reduceIte, reduceCtorEq, Za, Zb, Zc, Zd, Ze, Zf, Zg, Zh, Zi, Zj, Zk, Zl, Zm, Zn, Zo, Zp, Zq, Zr, Zs, Zt, Zu, Zv, gval, Zw, rb0, rb1, rb2, rb3, rb4, tf0, tf1, tf2, tf3, Yk, Yh, overL_one, if_pos, stX_exactN, hwl]
    rw [overL_nine rfl hwl, Heap.upd_new]
    refine hR _ (f1.keep (by rw [Heap.nx_new]; omega) (Heap.get_new_ne _ _ (by omega)) (Heap.get_new_ne _ _ (by omega))) (by rw [Heap.nx_new]; omega) fun b' w1 w2 => by rw [Heap.get_new_ne _ _ (by omega)]; exact k1 b' w1 w2
  · have hwl : (i64s (row9 (s.ino k))).length = 9 := by rw [List.length_map, row9_len]
    obtain ⟨z, hz⟩ : ∃ z, s.ino k 0 = z := ⟨_, rfl⟩
    have hz2 : ¬ z = 2 := hz ▸ hk k ek hk32
    have hx0 : (i64s (row9 (s.ino k)))[0]? = some (.int .i64 z) := by rw [List.getElem?_map, row9_get (by omega), hz]; rfl
    simp (disch := (first | omega | rfl | (simp only [Yn]; omega))) only [↓reduceIte, reduceCtorEq, Za, Zb, Zc, Zd, Ze, Zf, Zg, Zh, Zi, Zj, Zk, Zl, Zm, Zn, Zo, Zp, Zq, Zr, Zs, Zt, Zu, Zv, gval, Zw, rb0, rb1, rb2, rb3, rb4, tf0, tf1, tf2, tf3, Yk, Yh, overL_one, if_pos, stX_exactN, hwl]
    rw [overL_nine rfl hwl, Heap.upd_new]
    obtain ⟨h2, hh2⟩ : ∃ h2, h1.new (cellsB (i64s (row9 (s.ino k))) .exact) = h2 := ⟨_, rfl⟩
    have n2 : h2.nx = h1.nx + 1 := by rw [← hh2, Heap.nx_new]
    have g2 : h2.get h1.nx = some (cellsB (i64s (row9 (s.ino k))) .exact) := by rw [← hh2, Heap.get_new_same]
    have k2 : ∀ b', b' < h1.nx → h2.get b' = h1.get b' := fun b' hb' => by rw [← hh2, Heap.get_new_ne _ _ (by omega)]
    rw [hh2]
    simp (disch := (first | omega | rfl | (simp only [Yn]; omega))) only [↓reduceIte, reduceCtorEq, Za, Zb, Zc, Zd, Ze, Zf, Zg, Zh, Zi, Zj, Zk, Zl, Zm, Zn, Zo, Zp, Zq, Zr, Zs, Zt, Zu, Zv, gval, Zw, rb0, rb1, rb2, rb3, rb4, tf0, tf1, tf2, tf3, Yk, Yh, overL_one, if_pos, stX_exactN, g2, hx0, hwl, hz2]
    exact hR h2 (f1.keep (by omega) (k2 _ (by omega)) (k2 _ (by omega))) (by omega) fun b' w1 w2 => by rw [k2 _ (by omega)]; exact k1 b' w1 w2
def lookE (nm : List UInt8) : List (List UInt8 × Nat) → Option Nat
  | [] => none
  | e :: r => if e.1 = nm then some e.2 else lookE nm r
theorem lookE_at {nm : List UInt8} : ∀ {l : List (List UInt8 × Nat)} {k : Nat} {e : List UInt8 × Nat}, l[k]? = some e → e.1 = nm → (∀ (j : Nat) e', j < k → l[j]? = some e' → e'.1 ≠ nm) → lookE nm l = some e.2
  | [], _, _, h, _, _ => by simp at h
  | a :: r, 0, e, h, he, _ => by
    rw [List.getElem?_cons_zero] at h
    cases Option.some.inj h
    unfold lookE; rw [if_pos he]
  | a :: r, k + 1, e, h, he, hb => by
    rw [List.getElem?_cons_succ] at h
    unfold lookE
    rw [if_neg (hb 0 a (by omega) rfl)]
    exact lookE_at h he fun j e' hj hy => hb (j + 1) e' (by omega) hy
theorem lookE_none {nm : List UInt8} : ∀ {l : List (List UInt8 × Nat)}, (∀ (j : Nat) e', l[j]? = some e' → e'.1 ≠ nm) → lookE nm l = none
  | [], _ => rfl
  | a :: r, hb => by
    unfold lookE
    rw [if_neg (hb 0 a rfl)]
    exact lookE_none fun j e' hy => hb (j + 1) e' hy
def walkM (ent : Nat → Option (List (List UInt8 × Nat))) : Nat → List (List UInt8) → Nat × Int
  | k, [] => (k, 0)
  | k, n :: r => match ent k with
    | none => (0, 20)
    | some l => match lookE n l with
      | none => (0, 2)
      | some t => walkM ent t r
structure TxtP (h : Heap) (v : Value) (L : List (List UInt8)) : Prop where
  is : (v = .slice none 0 0 ∧ L = []) ∨ ∃ b c K Xs, v = .slice (some ⟨b, 0, none⟩) L.length c ∧ h.get b = some (cellsB Xs K) ∧ ∀ (i : Nat) x, L[i]? = some x → Xs[i]? = some (.string (mkS x))
theorem TxtP.of {lo : Nat} {v : Value} {L : List (List UInt8)} (x : RowG h lo 1 v L.length (strs L)) : TxtP h v L := by
  rcases x.is with ⟨h1, _, h3⟩ | ⟨b, h1, h2, h3, h4⟩
  · exact ⟨.inl ⟨h1, List.length_eq_zero_iff.1 h3⟩⟩
  · exact ⟨.inr ⟨b, _, _, _, h3, h4, fun i y hy => strs_at hy⟩⟩
set_option maxRecDepth 100000 in
set_option maxHeartbeats 1000000 in
theorem walk52_wf (f : Fs h bd bl s) (I : s.Inv F) {ent : Nat → Option (List (List UInt8 × Nat))} (hd : ∀ k l, ent k = some l → Dr s F k l ∧ l.length ≤ 21) (hn : ∀ k, ent k = none → k < 32 → s.ino k 0 ≠ 2) {v : Value} {L : List (List UInt8)} (x : TxtP h v L) (hv : ∀ b ∈ blkOf v, b < h.nx ∧ b ≠ bd) (hl : L.length < 9223372036854775807)
    (hR : ∀ h', Fs h' bd bl s → h.nx ≤ h'.nx → (∀ b', b' < h.nx → b' ≠ bd → h'.get b' = h.get b') → R (.ret (.tuple #[.int .i64 ((walkM ent 0 L).1 : Nat), .int .i64 (walkM ent 0 L).2])) h') :
    WF Tryz.prog 2 sp16 71 [.iface 22 (.pointer (some ⟨bd, 0, none⟩)), v] h R := by
  refine wf_fn (fn := Tryz.f71) rfl rfl (by kernel_rfl) rfl ?_
  have q1 := f.d.bd_lt
  have q2 := f.d.bl_lt
  obtain ⟨a, cp, hs⟩ : ∃ a cp, v = .slice a L.length cp := by
    rcases x.is with ⟨rfl, rfl⟩ | ⟨b, c, k, Xs, rfl, _⟩ <;> exact ⟨_, _, rfl⟩
  rw [hs]
  simp only [↓reduceIte, reduceCtorEq, Za, Zb, Zc, Zd, Ze, Zf, Zg, Zh, Zi, Zj, Zk, Zl, Zm, Zn, Zo, Zp, Zq, Zr, Zs, Zt, Zu, Zv, gval, Zw, rb0, rb1, rb2, rb3, rb4, tf0, tf1, tf2, tf3, Yk, Tryz.f71]
  refine run_loop2 rfl (fun N e h' => ∃ (p k : Nat), N = L.length - p ∧ p ≤ L.length ∧ e.at 0 = .iface 22 (.pointer (some ⟨bd, 0, none⟩)) ∧ e.at 6 = .int .i64 k ∧ e.at 12 = .slice a L.length cp ∧ e.at 13 = .int .i64 L.length ∧ e.at 14 = .int .i64 p ∧ walkM ent 0 L = walkM ent k (L.drop p) ∧ Fs h' bd bl s ∧ h.nx ≤ h'.nx ∧ ∀ b', b' < h.nx → b' ≠ bd → h'.get b' = h.get b')
    (fun ex e h' => ((ex = .ret ∧ ∃ E : Int, e.at 4 = .int .i64 0 ∧ e.at 5 = .int .i64 E ∧ walkM ent 0 L = (0, E)) ∨ ex = .exit 0 ∧ ∃ k : Nat, e.at 6 = .int .i64 k ∧ walkM ent 0 L = (k, 0)) ∧ Fs h' bd bl s ∧ h.nx ≤ h'.nx ∧ ∀ b', b' < h.nx → b' ≠ bd → h'.get b' = h.get b') ?_ (L.length - 0) _ _ ?_ ?_
  · rintro N e h' ⟨p, k, rfl, hp, e0, e6, e12, e13, e14, hw, f', n', k'⟩ Q' hQn hQx
    by_cases hc : p < L.length
    · obtain ⟨nm, hnm⟩ : ∃ nm, L[p]? = some nm := ⟨_, List.getElem?_eq_getElem hc⟩
      rcases x.is with ⟨_, rfl⟩ | ⟨b, c', K, Xs, hv2, gb, hA⟩
      · exact absurd hc (Nat.not_lt_zero _)
      rw [hs] at hv2
      cases hv2
      have hbb := hv b (by rw [hs]; exact List.mem_singleton.2 rfl)
      have gb' := (k' b hbb.1 hbb.2).trans gb
      have hp0 : (0 : Int) ≤ (p : Int) := by omega
      have hp1 : (p : Int) < (L.length : Int) := by omega
      have wp : wrapF .i64 ((p : Int) + 1) = ((p + 1 : Nat) : Int) := by rw [wrapI (by omega) (by omega)]; omega
      have hsx := hA p nm hnm
      have hltx : p < Xs.length := (List.getElem?_eq_some_iff.1 hsx).1
      have hdr : L.drop p = nm :: L.drop (p + 1) := by
        rw [List.drop_eq_getElem_cons hc]
        rw [List.getElem?_eq_getElem hc] at hnm
        rw [Option.some.inj hnm]
      rw [hdr] at hw
      simp (disch := (first | omega | rfl | (simp only [Yn]; omega))) only [↓reduceIte, reduceCtorEq, Za, Zb, Zc, Zd, Ze, Zf, Zg, Zh, Zi, Zj, Zk, Zl, Zm, Zn, Zo, Zp, Zq, Zr, Zs, Zt, Zu, Zv, gval, Zw, rb0, rb1, rb2, rb3, rb4, tf0, tf1, tf2, tf3, Yk, Yh, overL_one, if_pos, stX_exactN, e0, e6, e12, e13, e14, hp0, hp1, gb', hsx, hltx, Nat.mul_one, Nat.zero_add]
      rcases hk : ent k with _ | l
      · have hw' : walkM ent 0 L = (0, 20) := by rw [hw]; unfold walkM; rw [hk]
        refine runC_of (read_not f' (fun q eq hq => by
          obtain rfl : k = q := (by omega)
          exact hn k hk hq) fun h2 f2 n2 k2 => ?_)
        simp only [↓reduceIte, reduceCtorEq, Za, Zb, Zc, Zd, Ze, Zf, Zg, Zh, Zi, Zj, Zk, Zl, Zm, Zn, Zo, Zp, Zq, Zr, Zs, Zt, Zu, Zv, gval, Zw, rb0, rb1, rb2, rb3, rb4, tf0, tf1, tf2, tf3, Yk]
        exact hQx _ _ _ (by simp) ⟨.inl ⟨rfl, 20, by simp only [Za, Zw, Ye], by simp only [Za, Zw, Ye], hw'⟩, f2, by omega, fun b' w1 w2 => by rw [k2 _ (by omega) w2]; exact k' b' w1 w2⟩
      · obtain ⟨D, hl21⟩ := hd k l hk
        refine runC_of (read_wf f' I D fun h2 v2 f2 n2 k2 r2 => ?_)
        obtain ⟨va, hva⟩ := r2.slc
        have sv : storable v2 = true := by rw [hva]; rfl
        simp only [↓reduceIte, reduceCtorEq, Za, Zb, Zc, Zd, Ze, Zf, Zg, Zh, Zi, Zj, Zk, Zl, Zm, Zn, Zo, Zp, Zq, Zr, Zs, Zt, Zu, Zv, gval, Zw, rb0, rb1, rb2, rb3, rb4, tf0, tf1, tf2, tf3, Yk, e0, e6, e14, sv]
        refine runC_of (find_wf (EntAt.of r2) (fun b hb => (r2.lt b hb).2) (by omega) (fun j y hj hy hbef h3 n3 k3 => ?_) fun hno h3 n3 k3 => ?_)
        · have hw' : walkM ent 0 L = walkM ent y.2 (L.drop (p + 1)) := by
            rw [hw]
            show (match ent k with
              | none => ((0 : Nat), (20 : Int))
              | some l => match lookE nm l with
                | none => (0, 2)
                | some t => walkM ent t (L.drop (p + 1))) = _
            rw [hk]
            simp only [lookE_at hj hy hbef]
          have cj : ¬ (j : Int) < 0 := by omega
          have hjl := (List.getElem?_eq_some_iff.1 hj).1
          have cj0 : (0 : Int) ≤ (j : Int) := by omega
          have cj1 : (j : Int) < (l.length : Int) := by omega
          rcases r2.is with ⟨_, _, z⟩ | ⟨b2, w1, w2, w3, g2⟩
          · omega
          rw [hva] at w3
          cases w3
          have g3 := (k3 b2 w2).trans g2
          have hsn := ents_snd hj
          have hlt : j * 2 + 1 < (ents l).length := by rw [ents_len]; omega
          simp (disch := (first | omega | rfl | (simp only [Yn]; omega))) only [↓reduceIte, reduceCtorEq, Za, Zb, Zc, Zd, Ze, Zf, Zg, Zh, Zi, Zj, Zk, Zl, Zm, Zn, Zo, Zp, Zq, Zr, Zs, Zt, Zu, Zv, gval, Zw, rb0, rb1, rb2, rb3, rb4, tf0, tf1, tf2, tf3, Yk, Yh, overL_one, if_pos, stX_exactN, hva, e14, cj, cj0, cj1, g3, hsn, hlt, wp]
          exact hQn _ _ _ (by omega) ⟨p + 1, y.2, rfl, by omega, by simp only [Za, Zw, Ye, e0], by simp only [Za, Zw, Ye], by simp only [Za, Zw, Ye, e12], by simp only [Za, Zw, Ye, e13], by simp only [Za, Zw, Ye], hw', f2.keep n3 (k3 _ (by omega)) (k3 _ (by omega)), by omega, fun b' w1 w2 => by rw [k3 _ (by omega), k2 _ (by omega) w2]; exact k' b' w1 w2⟩
        · have hw' : walkM ent 0 L = (0, 2) := by
            rw [hw]
            show (match ent k with
              | none => ((0 : Nat), (20 : Int))
              | some l => match lookE nm l with
                | none => (0, 2)
                | some t => walkM ent t (L.drop (p + 1))) = _
            rw [hk]
            simp only [lookE_none hno]
          simp only [↓reduceIte, reduceCtorEq, Za, Zb, Zc, Zd, Ze, Zf, Zg, Zh, Zi, Zj, Zk, Zl, Zm, Zn, Zo, Zp, Zq, Zr, Zs, Zt, Zu, Zv, gval, Zw, rb0, rb1, rb2, rb3, rb4, tf0, tf1, tf2, tf3, Yk]
          exact hQx _ _ _ (by simp) ⟨.inl ⟨rfl, 2, by simp only [Za, Zw, Ye], by simp only [Za, Zw, Ye], hw'⟩, f2.keep n3 (k3 _ (by omega)) (k3 _ (by omega)), by omega, fun b' w1 w2 => by rw [k3 _ (by omega), k2 _ (by omega) w2]; exact k' b' w1 w2⟩
    · have hp1 : ¬ (p : Int) < (L.length : Int) := by omega
      simp only [↓reduceIte, reduceCtorEq, Za, Zb, Zc, Zd, Ze, Zf, Zg, Zh, Zi, Zj, Zk, Zl, Zm, Zn, Zo, Zp, Zq, Zr, Zs, Zt, Zu, Zv, gval, Zw, rb0, rb1, rb2, rb3, rb4, tf0, tf1, tf2, tf3, Yk, e13, e14, hp1]
      rw [List.drop_of_length_le (by omega)] at hw
      exact hQx _ _ _ (by simp) ⟨.inr ⟨rfl, k, by simp only [Za, Zw, Ye, e6], hw⟩, f', n', k'⟩
  · exact ⟨0, 0, rfl, by omega, by simp only [Za, Zw, Ye], by simp only [Za, Zw, Ye], by simp only [Za, Zw, Ye], by simp only [Za, Zw, Ye], by simp only [Za, Zw, Ye], by rw [List.drop_zero], f, Nat.le_refl _, fun _ _ _ => rfl⟩
  · rintro ex e h' - ⟨⟨rfl, E, e4, e5, hw⟩ | ⟨rfl, k, e6, hw⟩, f', n', k'⟩
    · simp only [↓reduceIte, reduceCtorEq, Za, Zb, Zc, Zd, Ze, Zf, Zg, Zh, Zi, Zj, Zk, Zl, Zm, Zn, Zo, Zp, Zq, Zr, Zs, Zt, Zu, Zv, gval, Zw, rb0, rb1, rb2, rb3, rb4, tf0, tf1, tf2, tf3, Yk, e4, e5]
      have := hR h' f' n' k'
      rw [hw] at this
      exact this
    · simp only [↓reduceIte, reduceCtorEq, Za, Zb, Zc, Zd, Ze, Zf, Zg, Zh, Zi, Zj, Zk, Zl, Zm, Zn, Zo, Zp, Zq, Zr, Zs, Zt, Zu, Zv, gval, Zw, rb0, rb1, rb2, rb3, rb4, tf0, tf1, tf2, tf3, Yk, e6]
      have := hR h' f' n' k'
      rw [hw] at this
      exact this
def walkP (ent : Nat → Option (List (List UInt8 × Nat))) (p : List UInt8) : Nat × Int := if splE p = 0 then walkM ent 0 (splL p) else (0, splE p)
theorem splE_pos (p : List UInt8) : 0 ≤ splE p ∧ splE p < 100 := by
  have hc : ∀ l : List (List UInt8), 0 ≤ errL l ∧ errL l < 100 := fun l => by
    induction l with
    | nil => exact ⟨Int.le_refl _, by decide⟩
    | cons x r ih =>
      unfold errL
      split
      · rcases chk_b x with e | e | e <;> rw [e] <;> exact ⟨by decide, by decide⟩
      · exact ih
  unfold splE
  split
  · exact ⟨by decide, by decide⟩
  · split
    · exact ⟨by decide, by decide⟩
    · exact hc _
theorem splL_le (p : List UInt8) : (splL p).length ≤ p.length + 1 := by
  unfold splL
  split
  · exact parts_len p
  · exact Nat.zero_le _
set_option maxRecDepth 100000 in
theorem walk28_wf (f : Fs h bd bl s) (I : s.Inv F) {ent : Nat → Option (List (List UInt8 × Nat))} (hd : ∀ k l, ent k = some l → Dr s F k l ∧ l.length ≤ 21) (hn : ∀ k, ent k = none → k < 32 → s.ino k 0 ≠ 2) {p : List UInt8}
    (hR : ∀ h', Fs h' bd bl s → h.nx ≤ h'.nx → (∀ b', b' < h.nx → b' ≠ bd → h'.get b' = h.get b') → R (.ret (.tuple #[.int .i64 ((walkP ent p).1 : Nat), .int .i64 (walkP ent p).2])) h') :
    WF Tryz.prog 2 sp16 54 [.iface 22 (.pointer (some ⟨bd, 0, none⟩)), .string (mkS p)] h R := by
  refine wf_fn (fn := Tryz.f54) rfl rfl (by kernel_rfl) rfl ?_
  have q1 := f.d.bd_lt
  have q2 := f.d.bl_lt
  simp only [↓reduceIte, reduceCtorEq, Za, Zb, Zc, Zd, Ze, Zf, Zg, Zh, Zi, Zj, Zk, Zl, Zm, Zn, Zo, Zp, Zq, Zr, Zs, Zt, Zu, Zv, gval, Zw, rb0, rb1, rb2, rb3, rb4, tf0, tf1, tf2, tf3, Yk, Tryz.f54]
  refine runC_of (split_spec (sp := sp16) rfl rfl rfl fun h1 v n1 r1 k1 => ?_)
  have sv : storable v = true := by obtain ⟨a, hv⟩ := r1.slc; rw [hv]; rfl
  have f1 : Fs h1 bd bl s := f.keep n1 (k1 _ q1) (k1 _ q2)
  unfold walkP at hR
  by_cases c : splE p = 0
  · rw [if_pos c] at hR
    simp only [↓reduceIte, reduceCtorEq, Za, Zb, Zc, Zd, Ze, Zf, Zg, Zh, Zi, Zj, Zk, Zl, Zm, Zn, Zo, Zp, Zq, Zr, Zs, Zt, Zu, Zv, gval, Zw, rb0, rb1, rb2, rb3, rb4, tf0, tf1, tf2, tf3, Yk, sv, c]
    have hlen : (splL p).length ≤ 33 := by
      have h32 : p.length ≤ 32 := by
        by_cases q : 32 < p.length
        · unfold splE at c
          by_cases z : p = []
          · rw [if_pos z] at c; exact absurd c (by decide)
          · rw [if_neg z, if_pos q] at c; exact absurd c (by decide)
        · omega
      have := splL_le p; omega
    refine runC_of (walk52_wf f1 I hd hn (TxtP.of r1) (fun b hb => by have := r1.lt b hb; omega) (by omega) fun h2 f2 n2 k2 => ?_)
    simp only [↓reduceIte, reduceCtorEq, Za, Zb, Zc, Zd, Ze, Zf, Zg, Zh, Zi, Zj, Zk, Zl, Zm, Zn, Zo, Zp, Zq, Zr, Zs, Zt, Zu, Zv, gval, Zw, rb0, rb1, rb2, rb3, rb4, tf0, tf1, tf2, tf3, Yk]
    exact hR h2 f2 (by omega) fun b' w1 w2 => by rw [k2 _ (by omega) w2, k1 _ w1]
  · rw [if_neg c] at hR
    simp only [↓reduceIte, reduceCtorEq, Za, Zb, Zc, Zd, Ze, Zf, Zg, Zh, Zi, Zj, Zk, Zl, Zm, Zn, Zo, Zp, Zq, Zr, Zs, Zt, Zu, Zv, gval, Zw, rb0, rb1, rb2, rb3, rb4, tf0, tf1, tf2, tf3, Yk, sv, c]
    exact hR h1 f1 n1 fun b' w1 _ => k1 b' w1
theorem splL_33 (p : List UInt8) : (splL p).length ≤ 33 := by
  by_cases c : splE p = 0
  · have h32 : p.length ≤ 32 := by
      by_cases q : 32 < p.length
      · unfold splE at c
        by_cases z : p = []
        · rw [if_pos z] at c; exact absurd c (by decide)
        · rw [if_neg z, if_pos q] at c; exact absurd c (by decide)
      · omega
    have := splL_le p; omega
  · unfold splL; rw [if_neg c]; exact Nat.zero_le _
def parP (ent : Nat → Option (List (List UInt8 × Nat))) (p : List UInt8) : Nat × List UInt8 × Int :=
  if splE p = 0 then match (splL p).getLast? with
    | none => (0, [], 22)
    | some z => if (walkM ent 0 (splL p).dropLast).2 = 0 then (if (ent (walkM ent 0 (splL p).dropLast).1).isSome then ((walkM ent 0 (splL p).dropLast).1, z, 0) else (0, [], 20)) else (0, [], (walkM ent 0 (splL p).dropLast).2)
  else (0, [], splE p)
theorem walkM_err (ent : Nat → Option (List (List UInt8 × Nat))) : ∀ (L : List (List UInt8)) (k : Nat), (walkM ent k L).2 = 0 ∨ (walkM ent k L).2 = 2 ∨ (walkM ent k L).2 = 20
  | [], k => .inl rfl
  | n :: r, k => by
    unfold walkM
    split
    · exact .inr (.inr rfl)
    · split
      · exact .inr (.inl rfl)
      · exact walkM_err ent r _
theorem to56 {b n m : Nat} {g : Nat → Option Blk} {X : List Value} (hb : g b = some (cellsB X (.loose 1))) (hX : X.length = n) (hm : m ≤ n) : effSlice Tryz.prog 100 (.slice (some ⟨b, 0, none⟩) n n) none (some (.int .i64 (m : Int))) none g = ret (.slice (some ⟨b, 0, none⟩) m n) := by
  rw [effSlice_slc, show slcOf Tryz.prog 100 = some 1 from by kernel_rfl]
  unfold slS
  rw [u_bounds, bnd_int, if_pos ⟨by omega, by omega⟩]
  simp only [Int.toNat_natCast]
  rw [bnd_none]
  simp only
  rw [if_pos (by omega)]
  simp only [u_sliceAddr, hb, sadX_loose]
  simp [hX]
set_option maxRecDepth 100000 in
set_option maxHeartbeats 1000000 in
theorem parent_wf (f : Fs h bd bl s) (I : s.Inv F) {ent : Nat → Option (List (List UInt8 × Nat))} (hd : ∀ k l, ent k = some l → Dr s F k l ∧ l.length ≤ 21) (hn : ∀ k, ent k = none → k < 32 → s.ino k 0 ≠ 2) {p : List UInt8}
    (hR : ∀ h', Fs h' bd bl s → h.nx ≤ h'.nx → (∀ b', b' < h.nx → b' ≠ bd → h'.get b' = h.get b') → R (.ret (.tuple #[.int .i64 ((parP ent p).1 : Nat), .string (mkS (parP ent p).2.1), .int .i64 (parP ent p).2.2])) h') :
    WF Tryz.prog 2 sp16 48 [.iface 22 (.pointer (some ⟨bd, 0, none⟩)), .string (mkS p)] h R := by
  refine wf_fn (fn := Tryz.f48) rfl rfl (by kernel_rfl) rfl ?_
  have q1 := f.d.bd_lt
  have q2 := f.d.bl_lt
  have s0 : ByteArray.mk #[] = mkS [] := rfl
  simp only [↓reduceIte, reduceCtorEq, Za, Zb, Zc, Zd, Ze, Zf, Zg, Zh, Zi, Zj, Zk, Zl, Zm, Zn, Zo, Zp, Zq, Zr, Zs, Zt, Zu, Zv, gval, Zw, rb0, rb1, rb2, rb3, rb4, tf0, tf1, tf2, tf3, Yk, Tryz.f48, s0]
  refine runC_of (split_spec (sp := sp16) rfl rfl rfl fun h1 v n1 r1 k1 => ?_)
  have f1 : Fs h1 bd bl s := f.keep n1 (k1 _ q1) (k1 _ q2)
  have h33 := splL_33 p
  have he := splE_pos p
  obtain ⟨va, hv⟩ := r1.slc
  rw [hv] at r1 ⊢
  unfold parP at hR
  by_cases c : splE p = 0
  rotate_left
  · rw [if_neg c] at hR
    simp only [↓reduceIte, reduceCtorEq, Za, Zb, Zc, Zd, Ze, Zf, Zg, Zh, Zi, Zj, Zk, Zl, Zm, Zn, Zo, Zp, Zq, Zr, Zs, Zt, Zu, Zv, gval, Zw, rb0, rb1, rb2, rb3, rb4, tf0, tf1, tf2, tf3, Yk, c, s0]
    exact hR h1 f1 n1 fun b' w1 _ => k1 b' w1
  rw [if_pos c] at hR
  by_cases c0 : splL p = []
  · rw [c0] at hR r1
    have hl0 : (splL p).length = 0 := by rw [c0]; rfl
    simp only [↓reduceIte, reduceCtorEq, Za, Zb, Zc, Zd, Ze, Zf, Zg, Zh, Zi, Zj, Zk, Zl, Zm, Zn, Zo, Zp, Zq, Zr, Zs, Zt, Zu, Zv, gval, Zw, rb0, rb1, rb2, rb3, rb4, tf0, tf1, tf2, tf3, Yk, c, hl0, s0, show ((22 : Int) == 0) = false from rfl]
    exact hR h1 f1 n1 fun b' w1 _ => k1 b' w1
  · obtain ⟨m, hm⟩ : ∃ m, (splL p).length = m + 1 := ⟨(splL p).length - 1, by have := List.length_pos_iff.2 c0; omega⟩
    obtain ⟨z, hzm⟩ : ∃ z, (splL p)[m]? = some z := ⟨_, List.getElem?_eq_getElem (by omega)⟩
    have hlast : (splL p).getLast? = some z := by rw [List.getLast?_eq_getElem?, hm, Nat.add_sub_cancel]; exact hzm
    rw [hlast] at hR
    dsimp only at hR
    have cl : ¬ ((m + 1 : Nat) : Int) = 0 := by omega
    have wl : wrapF .i64 (((m + 1 : Nat) : Int) - 1) = (m : Int) := by rw [wrapI (by omega) (by omega)]; omega
    rcases r1.is with ⟨_, _, z0⟩ | ⟨b, w1, w2, w3, gb⟩
    · omega
    cases w3
    have hX : (strs (splL p)).length = m + 1 := by rw [strs_len, hm]
    have xp : TxtP h1 (.slice (some ⟨b, 0, none⟩) m (m + 1)) (splL p).dropLast := by
      refine ⟨.inr ⟨b, m + 1, _, _, by rw [List.length_dropLast, hm]; rfl, gb, fun i y hy => ?_⟩⟩
      rw [List.getElem?_dropLast] at hy
      split at hy
      · exact strs_at hy
      · cases hy
    rw [hm]
    simp only [↓reduceIte, reduceCtorEq, Za, Zb, Zc, Zd, Ze, Zf, Zg, Zh, Zi, Zj, Zk, Zl, Zm, Zn, Zo, Zp, Zq, Zr, Zs, Zt, Zu, Zv, gval, Zw, rb0, rb1, rb2, rb3, rb4, tf0, tf1, tf2, tf3, Yk, c, cl, wl, to56 gb hX (Nat.le_succ m)]
    refine runC_of (walk52_wf f1 I hd hn xp (fun b' hb => by
      have : b' = b := List.mem_singleton.1 hb
      omega) (by rw [List.length_dropLast]; omega) fun h2 f2 n2 k2 => ?_)
    obtain ⟨W, hW⟩ : ∃ W, walkM ent 0 (splL p).dropLast = W := ⟨_, rfl⟩
    have hWe := walkM_err ent (splL p).dropLast 0
    rw [hW] at hR hWe ⊢
    have kk : ∀ b', b' < h.nx → b' ≠ bd → h2.get b' = h.get b' := fun b' u1 u2 => by rw [k2 _ (by omega) u2, k1 _ u1]
    by_cases cw : W.2 = 0
    rotate_left
    · rw [if_neg cw] at hR
      simp only [↓reduceIte, reduceCtorEq, Za, Zb, Zc, Zd, Ze, Zf, Zg, Zh, Zi, Zj, Zk, Zl, Zm, Zn, Zo, Zp, Zq, Zr, Zs, Zt, Zu, Zv, gval, Zw, rb0, rb1, rb2, rb3, rb4, tf0, tf1, tf2, tf3, Yk, cw, s0]
      exact hR h2 f2 (by omega) kk
    rw [if_pos cw] at hR
    simp only [↓reduceIte, reduceCtorEq, Za, Zb, Zc, Zd, Ze, Zf, Zg, Zh, Zi, Zj, Zk, Zl, Zm, Zn, Zo, Zp, Zq, Zr, Zs, Zt, Zu, Zv, gval, Zw, rb0, rb1, rb2, rb3, rb4, tf0, tf1, tf2, tf3, Yk, cw]
    rcases hk : ent W.1 with _ | l
    · rw [hk] at hR
      refine runC_of (read_not f2 (fun q eq hq => by
        obtain rfl : W.1 = q := (by omega)
        exact hn _ hk hq) fun h3 f3 n3 k3 => ?_)
      simp only [↓reduceIte, reduceCtorEq, Za, Zb, Zc, Zd, Ze, Zf, Zg, Zh, Zi, Zj, Zk, Zl, Zm, Zn, Zo, Zp, Zq, Zr, Zs, Zt, Zu, Zv, gval, Zw, rb0, rb1, rb2, rb3, rb4, tf0, tf1, tf2, tf3, Yk, s0]
      exact hR h3 f3 (by omega) fun b' u1 u2 => by rw [k3 _ (by omega) u2]; exact kk b' u1 u2
    · rw [hk] at hR
      obtain ⟨D, hl21⟩ := hd _ l hk
      refine runC_of (read_wf f2 I D fun h3 v3 f3 n3 k3 r3 => ?_)
      obtain ⟨va3, hva3⟩ := r3.slc
      have sv3 : storable v3 = true := by rw [hva3]; rfl
      simp only [↓reduceIte, reduceCtorEq, Za, Zb, Zc, Zd, Ze, Zf, Zg, Zh, Zi, Zj, Zk, Zl, Zm, Zn, Zo, Zp, Zq, Zr, Zs, Zt, Zu, Zv, gval, Zw, rb0, rb1, rb2, rb3, rb4, tf0, tf1, tf2, tf3, Yk, sv3]
      have gb3 := (k3 b (by omega) (by have := f.d.bd_lt; omega)).trans ((k2 b (by omega) (by omega)).trans gb)
      have hsz := strs_at hzm
      have hlt : m < (strs (splL p)).length := by omega
      have m0 : (0 : Int) ≤ (m : Int) := by omega
      have m1 : (m : Int) < ((m + 1 : Nat) : Int) := by omega
      refine run_draw (ps := []) (by kernel_rfl) (by kernel_rfl) ?_
      simp (disch := (first | omega | rfl | (simp only [Yn]; omega))) only [↓reduceIte, reduceCtorEq, Za, Zb, Zc, Zd, Ze, Zf, Zg, Zh, Zi, Zj, Zk, Zl, Zm, Zn, Zo, Zp, Zq, Zr, Zs, Zt, Zu, Zv, gval, Zw, rb0, rb1, rb2, rb3, rb4, tf0, tf1, tf2, tf3, Yk, Yh, overL_one, if_pos, stX_exactN, gb3, hsz, hlt, m0, m1, Nat.mul_one, Nat.zero_add]
      exact hR h3 f3 (by omega) fun b' u1 u2 => by rw [k3 _ (by omega) u2]; exact kk b' u1 u2
end Go.Proofs.YtbgminppkacdlaaGreatDoor
end
section
/- Inodes: Left, Free. Conditions: the disk lies as the rule names. -/
namespace Go.Proofs.YtbgminppkacdlaaGreatDoor
open Go.AM
open Nat renaming reduceBEq → Za, reduceEqDiff → Zb, reduceAdd → Zc, reduceSub → Zd, reduceMul → Ze, reduceLT → Zf, reduceLeDiff → Zg, reduceDiv → Zh, reduceMod → Zi, reducePow → Zj
open Int renaming reduceAdd → Zk, reduceSub → Zl, reduceMul → Zm, reduceLT → Zn, reduceLE → Zo, reduceEq → Zp, reduceNe → Zq, reduceNeg → Zr, reduceToNat → Zs, reduceDiv → Zt, reduceMod → Zu, reducePow → Zv, cast_ofNat_Int → Zw
set_option linter.unusedSimpArgs false
variable {sp : Special} {h : Heap} {R : Out → Heap → Prop} {bd bl : Nat} {s : FS}
set_option maxRecDepth 100000 in
theorem fleft_spec (pl : Plain sp) (f : Fs h bd bl s)
    (hR : ∀ h', Fs h' bd bl s → h.nx ≤ h'.nx → (∀ b', b' < h.nx → b' ≠ bd → h'.get b' = h.get b') → R (.ret (.tuple #[.int .i64 (32 - popc 64 s.a), .int .i64 (s.n - popc 64 s.b)])) h') :
    WF Tryz.prog 2 sp 14 [.iface 22 (.pointer (some ⟨bd, 0, none⟩))] h R := by
  refine wf_fn (fn := Tryz.f14) pl.p20 rfl (by kernel_rfl) rfl ?_
  simp only [↓reduceIte, reduceCtorEq, Za, Zb, Zc, Zd, Ze, Zf, Zg, Zh, Zi, Zj, Zk, Zl, Zm, Zn, Zo, Zp, Zq, Zr, Zs, Zt, Zu, Zv, gval, Zw, rb0, rb1, rb2, rb3, rb4, tf0, tf1, tf2, tf3, Yk, Tryz.f14]
  refine runC_of (maps_spec pl f fun h3 pa la pb lb f3 ma mb hab k3 => ?_)
  simp only [↓reduceIte, reduceCtorEq, Za, Zb, Zc, Zd, Ze, Zf, Zg, Zh, Zi, Zj, Zk, Zl, Zm, Zn, Zo, Zp, Zq, Zr, Zs, Zt, Zu, Zv, gval, Zw, rb0, rb1, rb2, rb3, rb4, tf0, tf1, tf2, tf3, Yk, show ((0 : Int) == 0) = true from rfl]
  refine runC_of (left_spec pl ma ?_)
  simp only [↓reduceIte, reduceCtorEq, Za, Zb, Zc, Zd, Ze, Zf, Zg, Zh, Zi, Zj, Zk, Zl, Zm, Zn, Zo, Zp, Zq, Zr, Zs, Zt, Zu, Zv, gval, Zw, rb0, rb1, rb2, rb3, rb4, tf0, tf1, tf2, tf3, Yk]
  refine runC_of (left_spec pl mb ?_)
  simp only [↓reduceIte, reduceCtorEq, Za, Zb, Zc, Zd, Ze, Zf, Zg, Zh, Zi, Zj, Zk, Zl, Zm, Zn, Zo, Zp, Zq, Zr, Zs, Zt, Zu, Zv, gval, Zw, rb0, rb1, rb2, rb3, rb4, tf0, tf1, tf2, tf3, Yk]
  exact hR h3 f3 (by omega) k3
def FS.free (s : FS) (i : Nat) : FS := (((s.resize i 0).maps (markW s.a i false) (s.resize i 0).b)).putI i fun _ => 0
set_option maxRecDepth 100000 in
theorem ffree_spec (pl : Plain sp) (ht : h.get 1 = some (tabBlk .u8 tab)) (f : Fs h bd bl s) (hz : 1 < bd ∧ 1 < bl) {i : Nat} (hi : i < 32) (ho : s.Ino i) (hlow : s.Low)
    (hok : ∀ h', Fs h' bd bl (s.free i) → h.nx ≤ h'.nx → (∀ b', b' < h.nx → b' ≠ bd → b' ≠ bl → h'.get b' = h.get b') → R (.ret (.int .i64 0)) h') :
    WF Tryz.prog 2 sp 46 [.iface 22 (.pointer (some ⟨bd, 0, none⟩)), .int .i64 i] h R := by
  refine wf_fn (fn := Tryz.f46) pl.p21 rfl (by kernel_rfl) rfl ?_
  have q1 := f.d.bd_lt
  have q2 := f.d.bl_lt
  have hpn := popc_small 64 s.n s.b f.wf.b
  have n00 : needN 0 = 0 := rfl
  simp only [↓reduceIte, reduceCtorEq, Za, Zb, Zc, Zd, Ze, Zf, Zg, Zh, Zi, Zj, Zk, Zl, Zm, Zn, Zo, Zp, Zq, Zr, Zs, Zt, Zu, Zv, gval, Zw, rb0, rb1, rb2, rb3, rb4, tf0, tf1, tf2, tf3, Yk, Tryz.f46]
  refine runC_of (fresize_spec pl ht f hz hi ho hlow (size := 0) (fun c => absurd c (by decide)) (fun c => absurd c (by decide)) (fun sz e _ c => by obtain rfl : sz = 0 := by omega
                                                                                                                                                     rw [n00] at c; omega) fun sz e _ _ h2 f2 n2 k2 => ?_)
  obtain rfl : sz = 0 := by omega
  simp only [↓reduceIte, reduceCtorEq, Za, Zb, Zc, Zd, Ze, Zf, Zg, Zh, Zi, Zj, Zk, Zl, Zm, Zn, Zo, Zp, Zq, Zr, Zs, Zt, Zu, Zv, gval, Zw, rb0, rb1, rb2, rb3, rb4, tf0, tf1, tf2, tf3, Yk, show ((0 : Int) == 0) = true from rfl]
  refine runC_of (maps_spec pl f2 fun h3 pa la pb lb f3 ma mb hab k3 => ?_)
  obtain ⟨a1, a2, a3, a4, a5⟩ := hab
  simp only [↓reduceIte, reduceCtorEq, Za, Zb, Zc, Zd, Ze, Zf, Zg, Zh, Zi, Zj, Zk, Zl, Zm, Zn, Zo, Zp, Zq, Zr, Zs, Zt, Zu, Zv, gval, Zw, rb0, rb1, rb2, rb3, rb4, tf0, tf1, tf2, tf3, Yk, show ((0 : Int) == 0) = true from rfl]
  refine runC_of (mark_spec pl ma (i := i) hi fun ma4 => ?_)
  obtain ⟨h4, hh4⟩ : ∃ h4, h3.upd la (cellsB [.int .u64 ((markW (s.resize i 0).a i false : Nat) : Int)] .exact) = h4 := ⟨_, rfl⟩
  rw [hh4] at ma4
  have n4 : h4.nx = h3.nx := by rw [← hh4, Heap.nx_upd]
  have k4 : ∀ b', b' ≠ la → h4.get b' = h3.get b' := fun b' hb' => by rw [← hh4, Heap.get_upd_ne _ _ hb']
  rw [hh4]
  have f4 : Fs h4 bd bl (s.resize i 0) := f3.keep (by omega) (k4 _ (by omega)) (k4 _ (by omega))
  simp only [↓reduceIte, reduceCtorEq, Za, Zb, Zc, Zd, Ze, Zf, Zg, Zh, Zi, Zj, Zk, Zl, Zm, Zn, Zo, Zp, Zq, Zr, Zs, Zt, Zu, Zv, gval, Zw, rb0, rb1, rb2, rb3, rb4, tf0, tf1, tf2, tf3, Yk]
  refine runC_of (keep_spec pl f4 (a := markW (s.resize i 0).a i false) (b := (s.resize i 0).b) ma4 (mb.keep (k4 _ (by omega)) (k4 _ (by omega))) (by omega) (by omega) fun h5 f5 n5 k5 => ?_)
  simp (disch := (first | omega | rfl | (simp only [Yn]; omega))) only [↓reduceIte, reduceCtorEq, Za, Zb, Zc, Zd, Ze, Zf, Zg, Zh, Zi, Zj, Zk, Zl, Zm, Zn, Zo, Zp, Zq, Zr, Zs, Zt, Zu, Zv, gval, Zw, rb0, rb1, rb2, rb3, rb4, tf0, tf1, tf2, tf3, Yk, Yh, overL_one, if_pos, stX_exactN, show ((0 : Int) == 0) = true from rfl]
  refine runC_of (fiput_spec pl f5 (i := i) hi (x := fun _ => 0) (fun j => by show (0 : Int) ≤ 0 ∧ (0 : Int) < _; omega) fun h6 n6 f6 k6 => ?_)
  simp only [↓reduceIte, reduceCtorEq, Za, Zb, Zc, Zd, Ze, Zf, Zg, Zh, Zi, Zj, Zk, Zl, Zm, Zn, Zo, Zp, Zq, Zr, Zs, Zt, Zu, Zv, gval, Zw, rb0, rb1, rb2, rb3, rb4, tf0, tf1, tf2, tf3, Yk]
  exact hok h6 f6 (by omega) fun b' w1 w2 w3 => by rw [k6 _ (by omega) w2 w3, k5 _ (by omega) w2 w3, k4 _ (by omega), k3 _ (by omega) w2, k2 _ w1 w2 w3]
end Go.Proofs.YtbgminppkacdlaaGreatDoor
end
