/- Lemmas of the claim: the machine of the proof and the walks of the program. Conditions: as each says. -/
import Derived.Test.YtmadjdgipfdnkaaDoorG6
import Derived.Test.YtmadjdgipfdnkaaDoorG5
import Derived.Test.YtmadjdgipfdnkaaDoorG4
import Derived.Test.YtmadjdgipfdnkaaDoorRows
import Derived.ProofKit
import GoSem.ClaimSeven
import Derived.Test.YtmadjdgipfdnkaaDoorCards
import Derived.Test.YtmadjdgipfdnkaaDoorTie
section
/- Directories: Add, Find, Remove. Conditions: the disk lies as the rule names. -/
namespace Go.Proofs.YtmadjdgipfdnkaaDoor
open Go.AM
open Nat renaming reduceBEq → Za, reduceEqDiff → Zb, reduceAdd → Zc, reduceSub → Zd, reduceMul → Ze, reduceLT → Zf, reduceLeDiff → Zg, reduceDiv → Zh, reduceMod → Zi, reducePow → Zj
open Int renaming reduceAdd → Zk, reduceSub → Zl, reduceMul → Zm, reduceLT → Zn, reduceLE → Zo, reduceEq → Zp, reduceNe → Zq, reduceNeg → Zr, reduceToNat → Zs, reduceDiv → Zt, reduceMod → Zu, reducePow → Zv, cast_ofNat_Int → Zw
set_option linter.unusedSimpArgs false
variable {h : Heap} {R : Out → Heap → Prop} {bd bl : Nat} {s : FS} {F : Nat → Prop}
theorem ents_snd : ∀ {l : List (List UInt8 × Nat)} {i : Nat} {e : List UInt8 × Nat}, l[i]? = some e → (ents l)[i * 2 + 1]? = some (.int .i64 (e.2 : Int))
  | [], i, e, h => by simp at h
  | x :: r, 0, e, h => by
    rw [List.getElem?_cons_zero] at h
    cases Option.some.inj h; rfl
  | x :: r, i + 1, e, h => by
    rw [List.getElem?_cons_succ] at h
    show (_ :: _ :: ents r)[(i + 1) * 2 + 1]? = _
    rw [show (i + 1) * 2 + 1 = i * 2 + 1 + 1 + 1 by omega, List.getElem?_cons_succ, List.getElem?_cons_succ]
    exact ents_snd h
set_option maxRecDepth 100000 in
set_option maxHeartbeats 1000000 in
theorem add_wf (ht : h.get 0 = some (tabBlk .u8 tab)) (f : Fs h bd bl s) (hz : bd ≠ 0 ∧ bl ≠ 0) {k : Nat} {l0 : List (List UInt8 × Nat)} (I : s.Inv F) (D : Dr s F k l0) (hl0 : l0.length ≤ 21) {nm : List UInt8} {tn : Int}
    (hR1 : ¬ NmP nm ∨ tn < 0 ∨ 32 ≤ tn → ∀ h', Fs h' bd bl s → h.nx ≤ h'.nx → (∀ b', b' < h.nx → b' ≠ bd → b' ≠ bl → h'.get b' = h.get b') → R (.ret (.int .i64 22)) h')
    (hR2 : NmP nm → (∃ e ∈ l0, e.1 = nm) → ∀ h', Fs h' bd bl s → h.nx ≤ h'.nx → (∀ b', b' < h.nx → b' ≠ bd → b' ≠ bl → h'.get b' = h.get b') → R (.ret (.int .i64 17)) h')
    (hR3 : NmP nm → (∀ e ∈ l0, e.1 ≠ nm) → (21 ≤ l0.length ∨ s.n < popc 64 s.b + (needN (9 * (l0.length + 1)) - needN (9 * l0.length))) → ∀ h', Fs h' bd bl s → h.nx ≤ h'.nx → (∀ b', b' < h.nx → b' ≠ bd → b' ≠ bl → h'.get b' = h.get b') → R (.ret (.int .i64 28)) h')
    (hR4 : ∀ t : Nat, tn = t → t < 32 → NmP nm → (∀ e ∈ l0, e.1 ≠ nm) → l0.length < 21 → ∀ s2 h', DW s s2 F k (enc (l0 ++ [(nm, t)])) → Fs h' bd bl s2 → h.nx ≤ h'.nx → (∀ b', b' < h.nx → b' ≠ bd → b' ≠ bl → h'.get b' = h.get b') → R (.ret (.int .i64 0)) h') :
    WF Tryd.prog 1 sp16 27 [.iface 23 (.pointer (some ⟨bd, 0, none⟩)), .int .i64 k, .string (mkS nm), .int .i64 tn] h R := by
  refine wf_fn (fn := Tryd.f27) rfl rfl (by kernel_rfl) rfl ?_
  have q1 := f.d.bd_lt
  have q2 := f.d.bl_lt
  simp only [↓reduceIte, reduceCtorEq, Za, Zb, Zc, Zd, Ze, Zf, Zg, Zh, Zi, Zj, Zk, Zl, Zm, Zn, Zo, Zp, Zq, Zr, Zs, Zt, Zu, Zv, gval, Zw, rb0, rb1, rb2, rb3, rb4, tf0, tf1, tf2, tf3, tf4, Yk, Tryd.f27]
  refine runC_of (read_wf f I D fun h1 v f1 n1 k1 r1 => ?_)
  obtain ⟨va, hv⟩ := r1.slc
  rw [hv] at r1 ⊢
  simp only [↓reduceIte, reduceCtorEq, Za, Zb, Zc, Zd, Ze, Zf, Zg, Zh, Zi, Zj, Zk, Zl, Zm, Zn, Zo, Zp, Zq, Zr, Zs, Zt, Zu, Zv, gval, Zw, rb0, rb1, rb2, rb3, rb4, tf0, tf1, tf2, tf3, tf4, Yk]
  refine runC_of (name_wf fun h2 n2 k2 => ?_)
  have f2 : Fs h2 bd bl s := f1.keep n2 (k2 _ (by omega)) (k2 _ (by omega))
  have k02 : ∀ b', b' < h.nx → b' ≠ bd → b' ≠ bl → h2.get b' = h.get b' := fun b' w1 w2 w3 => by rw [k2 _ (by omega)]; exact k1 b' w1 w2
  by_cases c1 : NmP nm
  rotate_left
  · simp only [↓reduceIte, reduceCtorEq, Za, Zb, Zc, Zd, Ze, Zf, Zg, Zh, Zi, Zj, Zk, Zl, Zm, Zn, Zo, Zp, Zq, Zr, Zs, Zt, Zu, Zv, gval, Zw, rb0, rb1, rb2, rb3, rb4, tf0, tf1, tf2, tf3, tf4, Yk, decide_eq_false c1, Bool.not_false]
    exact hR1 (.inl c1) h2 f2 (by omega) k02
  by_cases c2 : tn < 0
  · simp only [↓reduceIte, reduceCtorEq, Za, Zb, Zc, Zd, Ze, Zf, Zg, Zh, Zi, Zj, Zk, Zl, Zm, Zn, Zo, Zp, Zq, Zr, Zs, Zt, Zu, Zv, gval, Zw, rb0, rb1, rb2, rb3, rb4, tf0, tf1, tf2, tf3, tf4, Yk, decide_eq_true c1, Bool.not_true, c2]
    exact hR1 (.inr (.inl c2)) h2 f2 (by omega) k02
  by_cases c3 : (32 : Int) ≤ tn
  · simp only [↓reduceIte, reduceCtorEq, Za, Zb, Zc, Zd, Ze, Zf, Zg, Zh, Zi, Zj, Zk, Zl, Zm, Zn, Zo, Zp, Zq, Zr, Zs, Zt, Zu, Zv, gval, Zw, rb0, rb1, rb2, rb3, rb4, tf0, tf1, tf2, tf3, tf4, Yk, decide_eq_true c1, Bool.not_true, c2, c3]
    exact hR1 (.inr (.inr c3)) h2 f2 (by omega) k02
  obtain ⟨t, rfl⟩ : ∃ t : Nat, tn = t := ⟨tn.toNat, by omega⟩
  simp only [↓reduceIte, reduceCtorEq, Za, Zb, Zc, Zd, Ze, Zf, Zg, Zh, Zi, Zj, Zk, Zl, Zm, Zn, Zo, Zp, Zq, Zr, Zs, Zt, Zu, Zv, gval, Zw, rb0, rb1, rb2, rb3, rb4, tf0, tf1, tf2, tf3, tf4, Yk, decide_eq_true c1, Bool.not_true, c2, c3]
  have r2 : RowG h2 h.nx 2 (.slice va l0.length l0.length) l0.length (ents l0) := r1.keep n2 fun b h1 h2 _ => k2 b h2
  refine runC_of (find_wf (EntAt.of r2) (fun b hb => (r2.lt b hb).2) (by omega) (fun j e hj he _ h3 n3 k3 => ?_) fun hno h3 n3 k3 => ?_)
  · have cj : (0 : Int) ≤ (j : Int) := by omega
    simp only [↓reduceIte, reduceCtorEq, Za, Zb, Zc, Zd, Ze, Zf, Zg, Zh, Zi, Zj, Zk, Zl, Zm, Zn, Zo, Zp, Zq, Zr, Zs, Zt, Zu, Zv, gval, Zw, rb0, rb1, rb2, rb3, rb4, tf0, tf1, tf2, tf3, tf4, Yk, cj]
    exact hR2 c1 ⟨e, List.mem_of_getElem? hj, he⟩ h3 (f2.keep n3 (k3 _ (by omega)) (k3 _ (by omega))) (by omega) fun b' w1 w2 w3 => by rw [k3 _ (by omega)]; exact k02 b' w1 w2 w3
  · have hno' : ∀ e ∈ l0, e.1 ≠ nm := fun e he => by
      obtain ⟨j, hj⟩ := List.mem_iff_getElem?.1 he
      exact hno j e hj
    have f3 : Fs h3 bd bl s := f2.keep n3 (k3 _ (by omega)) (k3 _ (by omega))
    have k03 : ∀ b', b' < h.nx → b' ≠ bd → b' ≠ bl → h3.get b' = h.get b' := fun b' w1 w2 w3 => by rw [k3 _ (by omega)]; exact k02 b' w1 w2 w3
    by_cases c4 : 21 ≤ l0.length
    · have c4' : (21 : Int) ≤ (l0.length : Int) := by omega
      simp only [↓reduceIte, reduceCtorEq, Za, Zb, Zc, Zd, Ze, Zf, Zg, Zh, Zi, Zj, Zk, Zl, Zm, Zn, Zo, Zp, Zq, Zr, Zs, Zt, Zu, Zv, gval, Zw, rb0, rb1, rb2, rb3, rb4, tf0, tf1, tf2, tf3, tf4, Yk, c4', runG_undef]
      exact hR3 c1 hno' (.inl c4) h3 f3 (by omega) k03
    have c4' : ¬ (21 : Int) ≤ (l0.length : Int) := by omega
    have r3 : RowG h3 h.nx 2 (.slice va l0.length l0.length) l0.length (ents l0) := r2.keep n3 fun b h1 h2 _ => k3 b h2
    obtain ⟨h4, hh4⟩ : ∃ h4, h3.new (cellsB [.string (mkS nm), .int .i64 (t : Int)] .exact) = h4 := ⟨_, rfl⟩
    have n4 : h4.nx = h3.nx + 1 := by rw [← hh4, Heap.nx_new]
    have g4 : h4.get h3.nx = some (cellsB [.string (mkS nm), .int .i64 (t : Int)] .exact) := by rw [← hh4, Heap.get_new_same]
    have k4 : ∀ b', b' < h3.nx → h4.get b' = h3.get b' := fun b' hb' => by rw [← hh4, Heap.get_new_ne _ _ (by omega)]
    obtain ⟨E, h5, w, a1, a2, a3, a4, a5, a6, a7⟩ := growG app_93_93 (r3.keep (h' := h4) (by omega) fun b h1 h2 _ => k4 b h2) (by omega) (x := .slice (some ⟨h3.nx, 0, none⟩) 1 1) (k := 1) rfl (by omega) (by omega) (new := [.string (mkS nm), .int .i64 (t : Int)]) (by rw [firstL_slc _ _ _ _ _ _ _ _ _ g4 (by simp)]; rfl) rfl
    simp only [↓reduceIte, reduceCtorEq, Za, Zb, Zc, Zd, Ze, Zf, Zg, Zh, Zi, Zj, Zk, Zl, Zm, Zn, Zo, Zp, Zq, Zr, Zs, Zt, Zu, Zv, gval, Zw, rb0, rb1, rb2, rb3, rb4, tf0, tf1, tf2, tf3, tf4, Yk, c4', bs1_93, hh4, a1, a2, a3]
    have hen : ents l0 ++ [.string (mkS nm), .int .i64 (t : Int)] = ents (l0 ++ [(nm, t)]) := (ents_app l0 [(nm, t)]).symm
    rw [hen] at a4
    have hll : (l0 ++ [(nm, t)]).length = l0.length + 1 := by rw [List.length_append, List.length_singleton]
    have a4' : RowG h5 h.nx 2 w (l0 ++ [(nm, t)]).length (ents (l0 ++ [(nm, t)])) := by rw [hll]; exact a4
    have lo0 := r3.lt
    have k05 : ∀ b', b' < h.nx → h5.get b' = h3.get b' := fun b' w1 => by rw [a6 b' (by omega) (fun hm => by have := (lo0 b' hm).1; omega), k4 _ (by omega)]
    have f5 : Fs h5 bd bl s := f3.keep (by omega) (k05 _ (by omega)) (k05 _ (by omega))
    have kk : ∀ b', b' < h.nx → b' ≠ bd → b' ≠ bl → h5.get b' = h.get b' := fun b' w1 w2 w3 => by rw [k05 _ w1]; exact k03 b' w1 w2 w3
    have ok' : ∀ e ∈ l0 ++ [(nm, t)], EntOk e := fun e he => by
      rcases List.mem_append.1 he with q | q
      · exact D.ok e q
      · rw [List.mem_singleton.1 q]
        have hc := c1.2.2
        unfold chk at hc
        refine ⟨?_, ?_, by show t < 256; omega⟩
        · show nm.length ≤ 8
          by_cases q8 : 8 < nm.length
          · rw [if_pos q8] at hc; exact absurd hc (by decide)
          · omega
        · intro hm
          have hm : (0 : UInt8) ∈ nm := hm
          by_cases q8 : 8 < nm.length
          · rw [if_pos q8] at hc; exact absurd hc (by decide)
          · rw [if_neg q8, if_pos hm] at hc; exact absurd hc (by decide)
    refine runC_of (write_wf ((kk 0 (by omega) (by omega) (by omega)).trans ht) f5 hz I D (EntAt.of a4') (fun b hb => ?_) ok' (by omega) (fun w1 h6 f6 n6 k6 => ?_) fun s2 h6 dw f6 n6 k6 => ?_)
    · have := a4'.lt b hb; omega
    · simp only [↓reduceIte, reduceCtorEq, Za, Zb, Zc, Zd, Ze, Zf, Zg, Zh, Zi, Zj, Zk, Zl, Zm, Zn, Zo, Zp, Zq, Zr, Zs, Zt, Zu, Zv, gval, Zw, rb0, rb1, rb2, rb3, rb4, tf0, tf1, tf2, tf3, tf4, Yk]
      rw [hll] at w1
      exact hR3 c1 hno' (.inr w1) h6 f6 (by omega) fun b' u1 u2 u3 => by rw [k6 _ (by omega) u2 u3]; exact kk b' u1 u2 u3
    · simp only [↓reduceIte, reduceCtorEq, Za, Zb, Zc, Zd, Ze, Zf, Zg, Zh, Zi, Zj, Zk, Zl, Zm, Zn, Zo, Zp, Zq, Zr, Zs, Zt, Zu, Zv, gval, Zw, rb0, rb1, rb2, rb3, rb4, tf0, tf1, tf2, tf3, tf4, Yk]
      exact hR4 t rfl (by omega) c1 hno' (by omega) s2 h6 dw f6 (by omega) fun b' u1 u2 u3 => by rw [k6 _ (by omega) u2 u3]; exact kk b' u1 u2 u3
end Go.Proofs.YtmadjdgipfdnkaaDoor
end
section
/- Paths: the parts of a path. Conditions: as each rule says. -/
namespace Go.Proofs.YtmadjdgipfdnkaaDoor
open Go.AM
open Nat renaming reduceBEq → Za, reduceEqDiff → Zb, reduceAdd → Zc, reduceSub → Zd, reduceMul → Ze, reduceLT → Zf, reduceLeDiff → Zg, reduceDiv → Zh, reduceMod → Zi, reducePow → Zj
open Int renaming reduceAdd → Zk, reduceSub → Zl, reduceMul → Zm, reduceLT → Zn, reduceLE → Zo, reduceEq → Zp, reduceNe → Zq, reduceNeg → Zr, reduceToNat → Zs, reduceDiv → Zt, reduceMod → Zu, reducePow → Zv, cast_ofNat_Int → Zw
set_option linter.unusedSimpArgs false
variable {sp : Special} {h : Heap} {R : Out → Heap → Prop}
def cutP (p : List UInt8) (st : List (List UInt8) × Nat) (i : Nat) : List (List UInt8) × Nat := (if st.2 < i then st.1 ++ [(p.drop st.2).take (i - st.2)] else st.1, i + 1)
def cutS (p : List UInt8) : Nat → List (List UInt8) × Nat
  | 0 => ([], 0)
  | i + 1 => if p[i]? = some 47 then cutP p (cutS p i) i else cutS p i
def parts (p : List UInt8) : List (List UInt8) := (cutP p (cutS p p.length) p.length).1
theorem cutS_len (p : List UInt8) : ∀ i, (cutS p i).1.length ≤ i
  | 0 => Nat.le_refl _
  | i + 1 => by
    have := cutS_len p i
    unfold cutS cutP
    split
    · simp only
      split
      · rw [List.length_append, List.length_singleton]; omega
      · omega
    · omega
theorem cutS_skip (p : List UInt8) {i : Nat} : ∀ w, (∀ j, i ≤ j → j < i + w → p[j]? ≠ some 47) → cutS p (i + w) = cutS p i
  | 0, _ => rfl
  | w + 1, hw => by
    show cutS p ((i + w) + 1) = _
    conv => lhs; unfold cutS
    rw [if_neg (hw (i + w) (by omega) (by omega)), cutS_skip p w fun j h1 h2 => hw j h1 (by omega)]
theorem cutP_len (p : List UInt8) {st : List (List UInt8) × Nat} {i : Nat} : (cutP p st i).1.length ≤ st.1.length + 1 := by
  unfold cutP
  simp only
  split
  · rw [List.length_append, List.length_singleton]; exact Nat.le_refl _
  · omega
theorem parts_len (p : List UInt8) : (parts p).length ≤ p.length + 1 := by
  have h1 := cutS_len p p.length
  have h2 := cutP_len p (st := cutS p p.length) (i := p.length)
  unfold parts; omega
def errL : List (List UInt8) → Int
  | [] => 0
  | x :: r => if chk x ≠ 0 then chk x else errL r
theorem errL_at : ∀ {L : List (List UInt8)} {i : Nat} {x : List UInt8}, (∀ j y, j < i → L[j]? = some y → chk y = 0) → L[i]? = some x → chk x ≠ 0 → errL L = chk x
  | [], _, _, _, h, _ => by simp at h
  | y :: r, 0, x, _, h, hc => by
    rw [List.getElem?_cons_zero] at h
    cases Option.some.inj h
    unfold errL; rw [if_pos hc]
  | y :: r, i + 1, x, hz, h, hc => by
    unfold errL
    rw [if_neg (by rw [hz 0 y (by omega) rfl]; exact fun h => h rfl)]
    exact errL_at (fun j y hj hy => hz (j + 1) y (by omega) hy) h hc
theorem errL_none : ∀ {L : List (List UInt8)}, (∀ (j : Nat) (y : List UInt8), L[j]? = some y → chk y = 0) → errL L = 0
  | [], _ => rfl
  | y :: r, hz => by
    unfold errL
    rw [if_neg (by rw [hz 0 y rfl]; exact fun h => h rfl)]
    exact errL_none fun j y hy => hz (j + 1) y hy
def splE (p : List UInt8) : Int := if p = [] then 2 else if 32 < p.length then 36 else errL (parts p)
def splL (p : List UInt8) : List (List UInt8) := if splE p = 0 then parts p else []
theorem bs1_56 (s : ByteArray) (nx : Nat) : effBuildSlice Tryd.prog 56 1 [(0, .string s)] nx = some ⟨.slice (some ⟨nx, 0, none⟩) 1 1, [], [cellsB [.string s] .exact]⟩ := by
  rw [u_buildSlice 56 1 nx _ mk_56 (by omega)]; rfl
theorem nbeq {a b : Nat} (h : a ≠ b) : a.beq b = false := by rw [← Bool.not_eq_true, Nat.beq_eq]; exact h
set_option maxRecDepth 100000 in
theorem part44_spec (hsp : (sp 44).isNone = true) {bf bl bp lo n i fr : Nat} {v : Value} {p : List UInt8} {L : List (List UInt8)} (gf : h.get bf = some (cellsB [.int .i64 fr] .exact)) (gl : h.get bl = some (cellsB [v] .exact)) (gp : h.get bp = some (cellsB [.string (mkS p)] .exact))
    (hd : bf ≠ bl ∧ bf ≠ bp ∧ bl ≠ bp ∧ bf < lo ∧ bl < lo ∧ bp < lo ∧ lo ≤ h.nx) (r : RowG h lo 1 v n (strs L)) (hi : i ≤ p.length) (hp : p.length ≤ 32) (hn : n ≤ 1000)
    (hR : ∀ h' w n', h.nx ≤ h'.nx → h'.get bf = some (cellsB [.int .i64 ((cutP p (L, fr) i).2 : Nat)] .exact) → h'.get bl = some (cellsB [w] .exact) → h'.get bp = some (cellsB [.string (mkS p)] .exact) → RowG h' lo 1 w n' (strs (cutP p (L, fr) i).1) → n' ≤ n + 1 → (∀ b, b < lo → b ≠ bf → b ≠ bl → h'.get b = h.get b) → R (.ret (.tuple #[])) h') :
    WF Tryd.prog 1 sp 44 [.int .i64 i, .pointer (some ⟨bf, 0, none⟩), .pointer (some ⟨bl, 0, none⟩), .pointer (some ⟨bp, 0, none⟩)] h R := by
  refine wf_fn (fn := Tryd.f44) hsp rfl (by kernel_rfl) rfl ?_
  obtain ⟨d1, d2, d3, d4, d5, d6, d7⟩ := hd
  have wp : wrapF .i64 ((i : Int) + 1) = ((i + 1 : Nat) : Int) := by rw [wrapI (by omega) (by omega)]; omega
  by_cases c1 : fr < i
  · have c1' : (fr : Int) < (i : Int) := by omega
    simp only [↓reduceIte, reduceCtorEq, Za, Zb, Zc, Zd, Ze, Zf, Zg, Zh, Zi, Zj, Zk, Zl, Zm, Zn, Zo, Zp, Zq, Zr, Zs, Zt, Zu, Zv, gval, Zw, rb0, rb1, rb2, rb3, rb4, tf0, tf1, tf2, tf3, tf4, Yk, Tryd.f44, gf, c1']
    refine run_draw (ps := [(0, 4), (0, 5)]) (by kernel_rfl) (by kernel_rfl) ?_
    obtain ⟨X, hX⟩ : ∃ X, (p.drop fr).take (i - fr) = X := ⟨_, rfl⟩
    have hcut : cutP p (L, fr) i = (L ++ [X], i + 1) := by unfold cutP; simp only; rw [if_pos c1, hX]
    rw [hcut] at hR
    have hnew : firstL (h.new (cellsB [.string (mkS X)] .exact)).get 1 1 (.slice (some ⟨h.nx, 0, none⟩) 1 1) = some [.string (mkS X)] := by rw [firstL_slc _ _ _ _ _ _ _ _ _ (Heap.get_new_same _ _) (by simp)]; rfl
    rcases r.is with ⟨rfl, hL, rfl⟩ | ⟨b, q1, q2, rfl, q4⟩
    · have hap := aAppend_nil app_56_56 1 _ _ (h.nx + 1) rfl (by omega) (by omega) hnew
      simp (disch := (first | omega | rfl | (simp only [Yn]; omega))) only [↓reduceIte, reduceCtorEq, Za, Zb, Zc, Zd, Ze, Zf, Zg, Zh, Zi, Zj, Zk, Zl, Zm, Zn, Zo, Zp, Zq, Zr, Zs, Zt, Zu, Zv, gval, Zw, rb0, rb1, rb2, rb3, rb4, tf0, tf1, tf2, tf3, tf4, Yk, Yh, overL_one, if_pos, stX_exactN, gf, gl, gp, hX, str_slice tag_9 (Nat.le_of_lt c1) hi, bs1_56, hap]
      refine ⟨by rw [nbeq (show bl ≠ h.nx by omega)]; rfl, ?_⟩
      rw [wp]
      refine hR _ (.slice (some ⟨h.nx + 1, 0, none⟩) 1 1) 1 ?_ (by simp (disch := (first | omega | rfl | (simp only [Yn]; omega))) only [Yh, Yc]) (by simp (disch := (first | omega | rfl | (simp only [Yn]; omega))) only [Yh, Yc]) (by simp (disch := (first | omega | rfl | (simp only [Yn]; omega))) only [Yh, Yc, gp]) ⟨?_, .inr ⟨h.nx + 1, by omega, ?_, rfl, ?_⟩⟩ (by omega) fun b' h1 h2 h3 => ?_
      · simp (disch := (first | omega | rfl | (simp only [Yn]; omega))) only [Yh, Yc]; omega
      · show (strs (L ++ [X])).length = _
        rw [strs_len, List.length_append, List.length_singleton]; have := r.len; rw [strs_len] at this; omega
      · simp (disch := (first | omega | rfl | (simp only [Yn]; omega))) only [Yh, Yc]; omega
      · simp (disch := (first | omega | rfl | (simp only [Yn]; omega))) only [Yh, Yc]; rw [strs_app, hL]; rfl
      · simp (disch := (first | omega | rfl | (simp only [Yn]; omega))) only [Yh, Yc]
    · have q4' : (h.new (cellsB [.string (mkS X)] .exact)).get b = some (cellsB (strs L) (.loose 1)) := by rw [Heap.get_new_ne _ _ (by omega)]; exact q4
      have hap := aAppend_loose app_56_56 b n 1 _ _ (h.nx + 1) q4' r.len rfl (by omega) (by omega) hnew
      simp (disch := (first | omega | rfl | (simp only [Yn]; omega))) only [↓reduceIte, reduceCtorEq, Za, Zb, Zc, Zd, Ze, Zf, Zg, Zh, Zi, Zj, Zk, Zl, Zm, Zn, Zo, Zp, Zq, Zr, Zs, Zt, Zu, Zv, gval, Zw, rb0, rb1, rb2, rb3, rb4, tf0, tf1, tf2, tf3, tf4, Yk, Yh, overL_one, if_pos, stX_exactN, gf, gl, gp, hX, str_slice tag_9 (Nat.le_of_lt c1) hi, bs1_56, hap]
      refine ⟨by rw [nbeq (show bl ≠ h.nx by omega)]; rfl, ?_⟩
      rw [wp]
      refine hR _ (.slice (some ⟨h.nx + 1, 0, none⟩) (n + 1) (n + 1)) (n + 1) ?_ (by simp (disch := (first | omega | rfl | (simp only [Yn]; omega))) only [Yh, Yc]) (by simp (disch := (first | omega | rfl | (simp only [Yn]; omega))) only [Yh, Yc]) (by simp (disch := (first | omega | rfl | (simp only [Yn]; omega))) only [Yh, Yc, gp]) ⟨?_, .inr ⟨h.nx + 1, by omega, ?_, rfl, ?_⟩⟩ (by omega) fun b' h1 h2 h3 => ?_
      · simp (disch := (first | omega | rfl | (simp only [Yn]; omega))) only [Yh, Yc]; omega
      · show (strs (L ++ [X])).length = _
        rw [strs_len, List.length_append, List.length_singleton]; have := r.len; rw [strs_len] at this; omega
      · simp (disch := (first | omega | rfl | (simp only [Yn]; omega))) only [Yh, Yc]; omega
      · simp (disch := (first | omega | rfl | (simp only [Yn]; omega))) only [Yh, Yc]; rw [strs_app]; rfl
      · simp (disch := (first | omega | rfl | (simp only [Yn]; omega))) only [Yh, Yc]
  · have c1' : ¬ (fr : Int) < (i : Int) := by omega
    simp (disch := (first | omega | rfl | (simp only [Yn]; omega))) only [↓reduceIte, reduceCtorEq, Za, Zb, Zc, Zd, Ze, Zf, Zg, Zh, Zi, Zj, Zk, Zl, Zm, Zn, Zo, Zp, Zq, Zr, Zs, Zt, Zu, Zv, gval, Zw, rb0, rb1, rb2, rb3, rb4, tf0, tf1, tf2, tf3, tf4, Yk, Yh, overL_one, if_pos, stX_exactN, Tryd.f44, gf, c1', wp]
    have hcut : cutP p (L, fr) i = (L, i + 1) := by unfold cutP; simp only; rw [if_neg c1]
    rw [hcut] at hR
    exact hR _ v n (by rw [Heap.nx_upd]; exact Nat.le_refl _) (by simp (disch := (first | omega | rfl | (simp only [Yn]; omega))) only [Yh, Yc]) (by simp (disch := (first | omega | rfl | (simp only [Yn]; omega))) only [Yh, Yc, gl]) (by simp (disch := (first | omega | rfl | (simp only [Yn]; omega))) only [Yh, Yc, gp]) (r.keep (by rw [Heap.nx_upd]; exact Nat.le_refl _) fun b h1 h2 _ => by simp (disch := (first | omega | rfl | (simp only [Yn]; omega))) only [Yh, Yc]) (by omega) fun b' h1 h2 h3 => by simp (disch := (first | omega | rfl | (simp only [Yn]; omega))) only [Yh, Yc]
set_option maxRecDepth 100000 in
theorem split_spec (p22 : (sp 22).isNone = true) (p44 : (sp 44).isNone = true) (p45 : (sp 45).isNone = true) {p : List UInt8} (hR : ∀ h' v, h.nx ≤ h'.nx → RowG h' h.nx 1 v (splL p).length (strs (splL p)) → (∀ b, b < h.nx → h'.get b = h.get b) → R (.ret (.tuple #[v, .int .i64 (splE p)])) h') : WF Tryd.prog 1 sp 22 [.string (mkS p)] h R := by
  refine wf_fn (fn := Tryd.f22) p22 rfl (by kernel_rfl) rfl ?_
  by_cases c1 : p = []
  · have hE : splE p = 2 := by unfold splE; rw [if_pos c1]
    have hL : splL p = [] := by unfold splL; rw [hE]; rfl
    have cx : decide (p = []) = true := by simp [c1]
    simp (disch := (first | omega | rfl | (simp only [Yn]; omega))) only [↓reduceIte, reduceCtorEq, Za, Zb, Zc, Zd, Ze, Zf, Zg, Zh, Zi, Zj, Zk, Zl, Zm, Zn, Zo, Zp, Zq, Zr, Zs, Zt, Zu, Zv, gval, Zw, rb0, rb1, rb2, rb3, rb4, tf0, tf1, tf2, tf3, tf4, Yk, Yh, overL_one, if_pos, stX_exactN, Tryd.f22, str_eqG, cx, show ByteArray.empty = mkS [] from rfl]
    rw [hE, hL] at hR
    exact hR _ _ (by rw [Heap.nx_new]; omega) .nil fun b hb => by simp (disch := (first | omega | rfl | (simp only [Yn]; omega))) only [Yh, Yc]
  have cx : decide (p = []) = false := by simp [c1]
  by_cases c2 : 32 < p.length
  · have hE : splE p = 36 := by unfold splE; rw [if_neg c1, if_pos c2]
    have hL : splL p = [] := by unfold splL; rw [hE]; rfl
    have c2' : (32 : Int) < (p.length : Int) := by omega
    simp (disch := (first | omega | rfl | (simp only [Yn]; omega))) only [↓reduceIte, reduceCtorEq, Za, Zb, Zc, Zd, Ze, Zf, Zg, Zh, Zi, Zj, Zk, Zl, Zm, Zn, Zo, Zp, Zq, Zr, Zs, Zt, Zu, Zv, gval, Zw, rb0, rb1, rb2, rb3, rb4, tf0, tf1, tf2, tf3, tf4, Yk, Yh, overL_one, if_pos, stX_exactN, Tryd.f22, str_eqG, cx, show ByteArray.empty = mkS [] from rfl, mkS_size, c2']
    rw [hE, hL] at hR
    exact hR _ _ (by rw [Heap.nx_new]; omega) .nil fun b hb => by simp (disch := (first | omega | rfl | (simp only [Yn]; omega))) only [Yh, Yc]
  have c2' : ¬ (32 : Int) < (p.length : Int) := by omega
  simp (disch := (first | omega | rfl | (simp only [Yn]; omega))) only [↓reduceIte, reduceCtorEq, Za, Zb, Zc, Zd, Ze, Zf, Zg, Zh, Zi, Zj, Zk, Zl, Zm, Zn, Zo, Zp, Zq, Zr, Zs, Zt, Zu, Zv, gval, Zw, rb0, rb1, rb2, rb3, rb4, tf0, tf1, tf2, tf3, tf4, Yk, Yh, overL_one, if_pos, stX_exactN, Tryd.f22, str_eqG, cx, show ByteArray.empty = mkS [] from rfl, mkS_size, c2', u_rangeS (show Tryd.prog.underlying 9 = some .string from by kernel_rfl)]
  refine run_loop2 rfl (fun N e h' => ∃ (q n : Nat) (v : Value), N = p.length - q ∧ q ≤ p.length ∧ e.at 1 = .pointer (some ⟨h.nx, 0, none⟩) ∧ e.at 4 = .pointer (some ⟨h.nx + 1, 0, none⟩) ∧ e.at 6 = .func (.func 44) #[] #[.pointer (some ⟨h.nx + 1 + 1, 0, none⟩), .pointer (some ⟨h.nx + 1, 0, none⟩), .pointer (some ⟨h.nx, 0, none⟩)] ∧ e.at 19 = .pointer (some ⟨h.nx + 1 + 1 + 1, 0, none⟩) ∧
      h'.get (h.nx + 1 + 1 + 1) = some (.str (mkS p) q) ∧ h'.get (h.nx + 1 + 1) = some (cellsB [.int .i64 ((cutS p q).2 : Nat)] .exact) ∧ h'.get (h.nx + 1) = some (cellsB [v] .exact) ∧ h'.get h.nx = some (cellsB [.string (mkS p)] .exact) ∧ RowG h' (h.nx + 4) 1 v n (strs (cutS p q).1) ∧ h.nx + 4 ≤ h'.nx ∧ ∀ b, b < h.nx → h'.get b = h.get b)
    (fun ex e h' => ex = .exit 0 ∧ ∃ (n : Nat) (v : Value), e.at 1 = .pointer (some ⟨h.nx, 0, none⟩) ∧ e.at 4 = .pointer (some ⟨h.nx + 1, 0, none⟩) ∧ e.at 6 = .func (.func 44) #[] #[.pointer (some ⟨h.nx + 1 + 1, 0, none⟩), .pointer (some ⟨h.nx + 1, 0, none⟩), .pointer (some ⟨h.nx, 0, none⟩)] ∧
      h'.get (h.nx + 1 + 1) = some (cellsB [.int .i64 ((cutS p p.length).2 : Nat)] .exact) ∧ h'.get (h.nx + 1) = some (cellsB [v] .exact) ∧ h'.get h.nx = some (cellsB [.string (mkS p)] .exact) ∧ RowG h' (h.nx + 4) 1 v n (strs (cutS p p.length).1) ∧ h.nx + 4 ≤ h'.nx ∧ ∀ b, b < h.nx → h'.get b = h.get b) ?_ (p.length - 0) _ _ ?_ ?_
  · rintro N e h' ⟨q, n, v, rfl, hq, e1, e4, e6, e19, gi, gf, gl, gp, r, hn, hk⟩ Q' hQn hQx
    by_cases hp : q < p.length
    · obtain ⟨b, hb⟩ : ∃ b, p[q]? = some b := ⟨_, List.getElem?_eq_getElem hp⟩
      by_cases c3 : b.toNat = 47
      · have hb47 : b = 47 := by rw [← UInt8.toNat_inj]; exact c3
        have hd := dec_lo hb (by omega)
        rw [c3] at hd
        have hcut : cutS p (q + 1) = cutP p (cutS p q) q := by
          conv => lhs; unfold cutS
          rw [if_pos (by rw [hb, hb47])]
        simp (disch := (first | omega | rfl | (simp only [Yn]; omega))) only [↓reduceIte, reduceCtorEq, Za, Zb, Zc, Zd, Ze, Zf, Zg, Zh, Zi, Zj, Zk, Zl, Zm, Zn, Zo, Zp, Zq, Zr, Zs, Zt, Zu, Zv, gval, Zw, rb0, rb1, rb2, rb3, rb4, tf0, tf1, tf2, tf3, tf4, Yk, Yh, overL_one, if_pos, stX_exactN, e1, e4, e6, e19, u_nextS gi (by rw [mkS_size]; exact hp) hd]
        have hnl : n ≤ q := by have h1 := r.len; have h2 := cutS_len p q; rw [strs_len] at h1; omega
        refine runC_of (part44_spec p44 (lo := h.nx + 4) (p := p) (L := (cutS p q).1) (fr := (cutS p q).2) (i := q) (n := n) (v := v) (by simp (disch := (first | omega | rfl | (simp only [Yn]; omega))) only [Yh, Yc, gf]) (by simp (disch := (first | omega | rfl | (simp only [Yn]; omega))) only [Yh, Yc, gl]) (by simp (disch := (first | omega | rfl | (simp only [Yn]; omega))) only [Yh, Yc, gp]) ⟨by omega, by omega, by omega, by omega, by omega, by omega, by simp (disch := (first | omega | rfl | (simp only [Yn]; omega))) only [Yh, Yc]; omega⟩ (r.keep (by rw [Heap.nx_upd]; exact Nat.le_refl _) fun b' h1 h2 _ => by simp (disch := (first | omega | rfl | (simp only [Yn]; omega))) only [Yh, Yc]) (by omega) (by omega) (by omega) fun h2 w n' n2 gf2 gl2 gp2 r2 hn2 k2 => ?_)
        simp only [↓reduceIte, reduceCtorEq, Za, Zb, Zc, Zd, Ze, Zf, Zg, Zh, Zi, Zj, Zk, Zl, Zm, Zn, Zo, Zp, Zq, Zr, Zs, Zt, Zu, Zv, gval, Zw, rb0, rb1, rb2, rb3, rb4, tf0, tf1, tf2, tf3, tf4, Yk]
        refine hQn _ _ _ (by omega) ⟨q + 1, n', w, rfl, by omega, by simp only [Za, Zw, Ye, e1], by simp only [Za, Zw, Ye, e4], by simp only [Za, Zw, Ye, e6], by simp only [Za, Zw, Ye, e19], ?_, ?_, gl2, gp2, ?_, ?_, fun b' hb' => ?_⟩
        · rw [k2 _ (by omega) (by omega) (by omega)]; simp (disch := (first | omega | rfl | (simp only [Yn]; omega))) only [Yh, Yc]
        · rw [hcut]; exact gf2
        · rw [hcut]; exact r2
        · rw [Heap.nx_upd] at n2; omega
        · rw [k2 _ (by omega) (by omega) (by omega), Heap.get_upd_ne _ _ (by omega)]; exact hk b' hb'
      · obtain ⟨c, w, hd, hc, hw, hk1, hk2⟩ := dec_any hb
        have c3' : ¬ (c : Int) = 47 := fun e => c3 ((hk1 47 (by omega)).1 (by omega))
        have hqw : q + w ≤ p.length := by
          rcases Nat.lt_or_ge (q + w - 1) p.length with h1 | h1
          · omega
          · obtain ⟨d, hd1, _⟩ := hk2 (q + w - 1) (by omega) (by omega)
            rw [List.getElem?_eq_none h1] at hd1; cases hd1
        have hcut : cutS p (q + w) = cutS p q := cutS_skip p w fun j h1 h2 => by
          rcases Nat.lt_or_ge q j with h3 | h3
          · obtain ⟨d, q1, q2⟩ := hk2 j h3 h2
            rw [q1]; intro e; cases Option.some.inj e; exact absurd q2 (by decide)
          · rw [show j = q by omega, hb]; intro e; cases Option.some.inj e; exact c3 rfl
        simp (disch := (first | omega | rfl | (simp only [Yn]; omega))) only [↓reduceIte, reduceCtorEq, Za, Zb, Zc, Zd, Ze, Zf, Zg, Zh, Zi, Zj, Zk, Zl, Zm, Zn, Zo, Zp, Zq, Zr, Zs, Zt, Zu, Zv, gval, Zw, rb0, rb1, rb2, rb3, rb4, tf0, tf1, tf2, tf3, tf4, Yk, Yh, overL_one, if_pos, stX_exactN, e1, e4, e6, e19, u_nextS gi (by rw [mkS_size]; exact hp) hd, c3']
        refine hQn _ _ _ (by omega) ⟨q + w, n, v, rfl, hqw, by simp only [Za, Zw, Ye, e1], by simp only [Za, Zw, Ye, e4], by simp only [Za, Zw, Ye, e6], by simp only [Za, Zw, Ye, e19], by simp (disch := (first | omega | rfl | (simp only [Yn]; omega))) only [Yh, Yc], by rw [hcut]; simp (disch := (first | omega | rfl | (simp only [Yn]; omega))) only [Yh, Yc, gf], by simp (disch := (first | omega | rfl | (simp only [Yn]; omega))) only [Yh, Yc, gl], by simp (disch := (first | omega | rfl | (simp only [Yn]; omega))) only [Yh, Yc, gp], by rw [hcut]; exact r.keep (by rw [Heap.nx_upd]; exact Nat.le_refl _) fun b' h1 h2 _ => by simp (disch := (first | omega | rfl | (simp only [Yn]; omega))) only [Yh, Yc], by simp (disch := (first | omega | rfl | (simp only [Yn]; omega))) only [Yh, Yc, hn], fun b' hb' => by simp (disch := (first | omega | rfl | (simp only [Yn]; omega))) only [Yh, Yc]; exact hk b' hb'⟩
    · simp only [↓reduceIte, reduceCtorEq, Za, Zb, Zc, Zd, Ze, Zf, Zg, Zh, Zi, Zj, Zk, Zl, Zm, Zn, Zo, Zp, Zq, Zr, Zs, Zt, Zu, Zv, gval, Zw, rb0, rb1, rb2, rb3, rb4, tf0, tf1, tf2, tf3, tf4, Yk, e19, u_nextE gi (by rw [mkS_size]; exact hp)]
      have hqe : q = p.length := by omega
      rw [hqe] at gf r
      exact hQx _ _ _ (by simp) ⟨rfl, n, v, by simp only [Za, Zw, Ye, e1], by simp only [Za, Zw, Ye, e4], by simp only [Za, Zw, Ye, e6], gf, gl, gp, r, hn, hk⟩
  · exact ⟨0, 0, _, rfl, by omega, by simp only [Za, Zw, Ye], by simp only [Za, Zw, Ye], by simp only [Za, Zw, Ye], by simp only [Za, Zw, Ye], by simp (disch := (first | omega | rfl | (simp only [Yn]; omega))) only [Yh, Yc], by simp (disch := (first | omega | rfl | (simp only [Yn]; omega))) only [Yh, Yc]; rfl, by simp (disch := (first | omega | rfl | (simp only [Yn]; omega))) only [Yh, Yc], by simp (disch := (first | omega | rfl | (simp only [Yn]; omega))) only [Yh, Yc], .nil, by simp (disch := (first | omega | rfl | (simp only [Yn]; omega))) only [Yh, Yc]; omega, fun b hb => by simp (disch := (first | omega | rfl | (simp only [Yn]; omega))) only [Yh, Yc]⟩
  rintro ex e h1 - ⟨rfl, n, v, e1, e4, e6, gf, gl, gp, r, hn, hk⟩
  simp (disch := (first | omega | rfl | (simp only [Yn]; omega))) only [↓reduceIte, reduceCtorEq, Za, Zb, Zc, Zd, Ze, Zf, Zg, Zh, Zi, Zj, Zk, Zl, Zm, Zn, Zo, Zp, Zq, Zr, Zs, Zt, Zu, Zv, gval, Zw, rb0, rb1, rb2, rb3, rb4, tf0, tf1, tf2, tf3, tf4, Yk, Yh, overL_one, if_pos, stX_exactN, e1, e4, e6, gp, mkS_size]
  have hnl : n ≤ p.length := by have h1 := r.len; have h2 := cutS_len p p.length; rw [strs_len] at h1; omega
  have hE : splE p = errL (parts p) := by unfold splE; rw [if_neg c1, if_neg c2]
  refine runC_of (part44_spec p44 (lo := h.nx + 4) (p := p) (L := (cutS p p.length).1) (fr := (cutS p p.length).2) (i := p.length) (n := n) (v := v) gf gl gp ⟨by omega, by omega, by omega, by omega, by omega, by omega, by omega⟩ r (by omega) (by omega) (by omega) fun h2 w m n2 gf2 gl2 gp2 r2 hn2 k2 => ?_)
  have r2 : RowG h2 (h.nx + 4) 1 w m (strs (parts p)) := r2
  have hm : (parts p).length = m := by have h1 := r2.len; rw [strs_len] at h1; omega
  obtain ⟨wa, hw⟩ := r2.slc
  rw [hw] at gl2
  simp only [↓reduceIte, reduceCtorEq, Za, Zb, Zc, Zd, Ze, Zf, Zg, Zh, Zi, Zj, Zk, Zl, Zm, Zn, Zo, Zp, Zq, Zr, Zs, Zt, Zu, Zv, gval, Zw, rb0, rb1, rb2, rb3, rb4, tf0, tf1, tf2, tf3, tf4, Yk, e4, gl2]
  refine run_loop2 rfl (fun N e h' => ∃ i : Nat, N = m - i ∧ i ≤ m ∧ (∀ (j : Nat) (y : List UInt8), j < i → (parts p)[j]? = some y → chk y = 0) ∧ e.at 4 = .pointer (some ⟨h.nx + 1, 0, none⟩) ∧ e.at 33 = .slice wa m m ∧ e.at 34 = .int .i64 m ∧ e.at 35 = .int .i64 i ∧ h2.nx ≤ h'.nx ∧ ∀ b, b < h2.nx → h'.get b = h2.get b)
    (fun ex e h' => (ex = .ret ∧ e.at 2 = .slice none 0 0 ∧ e.at 3 = .int .i64 (errL (parts p)) ∧ errL (parts p) ≠ 0 ∨ ex = .exit 2 ∧ e.at 4 = .pointer (some ⟨h.nx + 1, 0, none⟩) ∧ errL (parts p) = 0) ∧ h2.nx ≤ h'.nx ∧ ∀ b, b < h2.nx → h'.get b = h2.get b) ?_ (m - 0) _ _ ?_ ?_
  · rintro N e h' ⟨i, rfl, him, hz, i4, i33, i34, i35, hn', hk'⟩ Q' hQn hQx
    by_cases hi : i < m
    · obtain ⟨x, hx⟩ : ∃ x, (parts p)[i]? = some x := ⟨_, List.getElem?_eq_getElem (by omega)⟩
      have hi0 : (0 : Int) ≤ (i : Int) := by omega
      have hi1 : (i : Int) < (m : Int) := by omega
      have wi : wrapF .i64 ((i : Int) + 1) = ((i + 1 : Nat) : Int) := by rw [wrapI (by omega) (by omega)]; omega
      rcases r2.is with ⟨_, _, rfl⟩ | ⟨b, q1, q2, hv2, g1⟩
      · exact absurd hi (Nat.not_lt_zero _)
      rw [hw] at hv2
      rw [hv2] at i33
      have x1 := strs_at hx
      have l1 := strs_len (parts p)
      have g1' := (hk' b q2).trans g1
      have hil : i < (parts p).length := by omega
      simp only [↓reduceIte, reduceCtorEq, Za, Zb, Zc, Zd, Ze, Zf, Zg, Zh, Zi, Zj, Zk, Zl, Zm, Zn, Zo, Zp, Zq, Zr, Zs, Zt, Zu, Zv, gval, Zw, rb0, rb1, rb2, rb3, rb4, tf0, tf1, tf2, tf3, tf4, Yk, i4, i33, i34, i35, hi0, hi1, hi, hil, g1', l1, x1, Nat.mul_one]
      refine runC_of (check_spec p45 fun h3 n3 k3 => ?_)
      by_cases c4 : chk x = 0
      · simp only [↓reduceIte, reduceCtorEq, Za, Zb, Zc, Zd, Ze, Zf, Zg, Zh, Zi, Zj, Zk, Zl, Zm, Zn, Zo, Zp, Zq, Zr, Zs, Zt, Zu, Zv, gval, Zw, rb0, rb1, rb2, rb3, rb4, tf0, tf1, tf2, tf3, tf4, Yk, c4, i35, wi]
        refine hQn _ _ _ (by omega) ⟨i + 1, rfl, by omega, fun j y hj hy => ?_, by simp only [Za, Zw, Ye, i4], by simp only [Za, Zw, Ye, i33, hv2], by simp only [Za, Zw, Ye, i34], by simp only [Za, Zw, Ye], by omega, fun b' hb' => by rw [k3 _ (by omega)]; exact hk' b' hb'⟩
        rcases Nat.lt_or_ge j i with q | q
        · exact hz j y q hy
        · rw [show j = i by omega, hx] at hy
          cases Option.some.inj hy; exact c4
      · simp only [↓reduceIte, reduceCtorEq, Za, Zb, Zc, Zd, Ze, Zf, Zg, Zh, Zi, Zj, Zk, Zl, Zm, Zn, Zo, Zp, Zq, Zr, Zs, Zt, Zu, Zv, gval, Zw, rb0, rb1, rb2, rb3, rb4, tf0, tf1, tf2, tf3, tf4, Yk, c4, i35, wi]
        have := errL_at hz hx c4
        exact hQx _ _ _ (by simp) ⟨.inl ⟨rfl, by simp only [Za, Zw, Ye], by simp only [Za, Zw, Ye, this], by rw [this]; exact c4⟩, by omega, fun b' hb' => by rw [k3 _ (by omega)]; exact hk' b' hb'⟩
    · have hi1 : ¬ (i : Int) < (m : Int) := by omega
      simp only [↓reduceIte, reduceCtorEq, Za, Zb, Zc, Zd, Ze, Zf, Zg, Zh, Zi, Zj, Zk, Zl, Zm, Zn, Zo, Zp, Zq, Zr, Zs, Zt, Zu, Zv, gval, Zw, rb0, rb1, rb2, rb3, rb4, tf0, tf1, tf2, tf3, tf4, Yk, i34, i35, hi1]
      exact hQx _ _ _ (by simp) ⟨.inr ⟨rfl, by simp only [Za, Zw, Ye, i4], errL_none fun j y hy => hz j y (by have := (List.getElem?_eq_some_iff.1 hy).1; omega) hy⟩, hn', hk'⟩
  · exact ⟨0, rfl, by omega, fun _ _ h => absurd h (Nat.not_lt_zero _), by simp only [Za, Zw, Ye, e4], by simp only [Za, Zw, Ye], by simp only [Za, Zw, Ye], by simp only [Za, Zw, Ye], Nat.le_refl _, fun _ _ => rfl⟩
  · rintro ex e h3 - ⟨⟨rfl, i2, i3, hne⟩ | ⟨rfl, i4, h0⟩, n3, k3⟩
    · simp only [↓reduceIte, reduceCtorEq, Za, Zb, Zc, Zd, Ze, Zf, Zg, Zh, Zi, Zj, Zk, Zl, Zm, Zn, Zo, Zp, Zq, Zr, Zs, Zt, Zu, Zv, gval, Zw, rb0, rb1, rb2, rb3, rb4, tf0, tf1, tf2, tf3, tf4, Yk, i2, i3]
      have hL : splL p = [] := by unfold splL; rw [hE, if_neg hne]
      rw [hE, hL] at hR
      exact hR _ _ (by omega) .nil fun b hb => by rw [k3 _ (by omega), k2 _ (by omega) (by omega) (by omega)]; exact hk b hb
    · have gl3 : h3.get (h.nx + 1) = some (cellsB [.slice wa m m] .exact) := (k3 _ (by omega)).trans gl2
      simp only [↓reduceIte, reduceCtorEq, Za, Zb, Zc, Zd, Ze, Zf, Zg, Zh, Zi, Zj, Zk, Zl, Zm, Zn, Zo, Zp, Zq, Zr, Zs, Zt, Zu, Zv, gval, Zw, rb0, rb1, rb2, rb3, rb4, tf0, tf1, tf2, tf3, tf4, Yk, i4, gl3]
      have hL : splL p = parts p := by unfold splL; rw [hE, if_pos h0]
      rw [hE, hL, h0, hm] at hR
      rw [hw] at r2
      exact hR _ _ (by omega) ((r2.mono (by omega)).keep n3 fun b h1 h2 _ => k3 b h2) fun b hb => by rw [k3 _ (by omega), k2 _ (by omega) (by omega) (by omega)]; exact hk b hb
end Go.Proofs.YtmadjdgipfdnkaaDoor
end
section
/- Paths: the parts of a path that grows by a slash, by a name. No condition on the program. -/
namespace Go.Proofs.YtmadjdgipfdnkaaDoor
open Go.AM
open Nat renaming reduceBEq → Za, reduceEqDiff → Zb, reduceAdd → Zc, reduceSub → Zd, reduceMul → Ze, reduceLT → Zf, reduceLeDiff → Zg, reduceDiv → Zh, reduceMod → Zi, reducePow → Zj
open Int renaming reduceAdd → Zk, reduceSub → Zl, reduceMul → Zm, reduceLT → Zn, reduceLE → Zo, reduceEq → Zp, reduceNe → Zq, reduceNeg → Zr, reduceToNat → Zs, reduceDiv → Zt, reduceMod → Zu, reducePow → Zv, cast_ofNat_Int → Zw
set_option linter.unusedSimpArgs false
theorem sub_app {a b : List UInt8} {f i : Nat} (hi : i ≤ a.length) : ((a ++ b).drop f).take (i - f) = (a.drop f).take (i - f) := by
  by_cases hf : f ≤ i
  · rw [List.drop_append_of_le_length (by omega), List.take_append_of_le_length (by rw [List.length_drop]; omega)]
  · rw [show i - f = 0 by omega, List.take_zero, List.take_zero]
theorem cutP_app {a b : List UInt8} {st : List (List UInt8) × Nat} {i : Nat} (hi : i ≤ a.length) : cutP (a ++ b) st i = cutP a st i := by
  unfold cutP
  rw [sub_app hi]
theorem cutS_app {a b : List UInt8} : ∀ {i : Nat}, i ≤ a.length → cutS (a ++ b) i = cutS a i
  | 0, _ => rfl
  | i + 1, hi => by
    unfold cutS
    rw [List.getElem?_append_left (by omega), cutS_app (by omega), cutP_app (by omega)]
theorem cutS_slash {a b : List UInt8} : cutS (a ++ 47 :: b) (a.length + 1) = (parts a, a.length + 1) := by
  have h : cutS (a ++ 47 :: b) (a.length + 1) = if (a ++ 47 :: b)[a.length]? = some 47 then cutP (a ++ 47 :: b) (cutS (a ++ 47 :: b) a.length) a.length else cutS (a ++ 47 :: b) a.length := rfl
  rw [h, List.getElem?_append_right (Nat.le_refl _), Nat.sub_self, List.getElem?_cons_zero, if_pos rfl, cutS_app (Nat.le_refl _), cutP_app (Nat.le_refl _)]
  rfl
theorem parts_slash (a : List UInt8) : parts (a ++ [47]) = parts a := by
  have h : parts (a ++ [47]) = (cutP (a ++ [47]) (cutS (a ++ [47]) (a ++ [47]).length) (a ++ [47]).length).1 := rfl
  rw [h, List.length_append, List.length_singleton, cutS_slash]
  unfold cutP
  simp only
  rw [if_neg (by omega)]
theorem parts_name (a : List UInt8) {nm : List UInt8} (h0 : nm ≠ []) (h47 : ¬ (47 : UInt8) ∈ nm) : parts (a ++ 47 :: nm) = parts a ++ [nm] := by
  have h : parts (a ++ 47 :: nm) = (cutP (a ++ 47 :: nm) (cutS (a ++ 47 :: nm) (a ++ 47 :: nm).length) (a ++ 47 :: nm).length).1 := rfl
  have hl : (a ++ 47 :: nm).length = a.length + 1 + nm.length := by rw [List.length_append, List.length_cons]; omega
  have hp : 0 < nm.length := List.length_pos_iff.2 h0
  rw [h, hl, cutS_skip _ nm.length, cutS_slash]
  · unfold cutP
    simp only
    rw [if_pos (by omega), show a ++ 47 :: nm = (a ++ [47]) ++ nm by rw [List.append_assoc]; rfl, show a.length + 1 = (a ++ [47]).length by rw [List.length_append, List.length_singleton], List.drop_left, Nat.add_sub_cancel_left, List.take_length]
  · intro j h1 h2 e
    rw [List.getElem?_append_right (by omega), show j - a.length = (j - a.length - 1) + 1 by omega, List.getElem?_cons_succ] at e
    exact h47 (List.mem_of_getElem? e)
theorem errL_nm {L : List (List UInt8)} (h : ∀ x ∈ L, NmP x) : errL L = 0 := errL_none fun _ _ hy => (h _ (List.mem_of_getElem? hy)).2.2
end Go.Proofs.YtmadjdgipfdnkaaDoor
end
section
/- Directories: paths that are walked. Conditions: the disk lies as the rules name. -/
namespace Go.Proofs.YtmadjdgipfdnkaaDoor
open Go.AM
open Nat renaming reduceBEq → Za, reduceEqDiff → Zb, reduceAdd → Zc, reduceSub → Zd, reduceMul → Ze, reduceLT → Zf, reduceLeDiff → Zg, reduceDiv → Zh, reduceMod → Zi, reducePow → Zj
open Int renaming reduceAdd → Zk, reduceSub → Zl, reduceMul → Zm, reduceLT → Zn, reduceLE → Zo, reduceEq → Zp, reduceNe → Zq, reduceNeg → Zr, reduceToNat → Zs, reduceDiv → Zt, reduceMod → Zu, reducePow → Zv, cast_ofNat_Int → Zw
set_option linter.unusedSimpArgs false
variable {h : Heap} {R : Out → Heap → Prop} {bd bl : Nat} {s : FS} {F : Nat → Prop}
set_option maxRecDepth 100000 in
theorem read_not (f : Fs h bd bl s) {i : Int} (hk : ∀ k : Nat, i = k → k < 32 → s.ino k 0 ≠ 2)
    (hR : ∀ h', Fs h' bd bl s → h.nx ≤ h'.nx → (∀ b', b' < h.nx → b' ≠ bd → h'.get b' = h.get b') → R (.ret (.tuple #[.slice none 0 0, .int .i64 20])) h') :
    WF Tryd.prog 1 sp16 48 [.iface 23 (.pointer (some ⟨bd, 0, none⟩)), .int .i64 i] h R := by
  refine wf_fn (fn := Tryd.f48) rfl rfl (by kernel_rfl) rfl ?_
  have q1 := f.d.bd_lt
  have q2 := f.d.bl_lt
  simp only [↓reduceIte, reduceCtorEq, Za, Zb, Zc, Zd, Ze, Zf, Zg, Zh, Zi, Zj, Zk, Zl, Zm, Zn, Zo, Zp, Zq, Zr, Zs, Zt, Zu, Zv, gval, Zw, rb0, rb1, rb2, rb3, rb4, tf0, tf1, tf2, tf3, tf4, Yk, Tryd.f48]
  refine runC_of (figet_any pl16 f (fun hi h1 f1 n1 k1 => ?_) fun k ek hk32 h1 f1 n1 k1 => ?_)
  · have hwl : (i64s (row9 fun _ => 0)).length = 9 := by rw [List.length_map, row9_len]
    simp (disch := (first | omega | rfl | (simp only [Yn]; omega))) only [↓reduceIte, reduceCtorEq, Za, Zb, Zc, Zd, Ze, Zf, Zg, Zh, Zi, Zj, Zk, Zl, Zm, Zn, Zo, Zp, Zq, Zr, Zs, Zt, Zu, Zv, gval, Zw, rb0, rb1, rb2, rb3, rb4, tf0, tf1, tf2, tf3, tf4, Yk, Yh, overL_one, if_pos, stX_exactN, hwl]
    rw [overL_nine rfl hwl, Heap.upd_new]
    refine hR _ (f1.keep (by rw [Heap.nx_new]; omega) (Heap.get_new_ne _ _ (by omega)) (Heap.get_new_ne _ _ (by omega))) (by rw [Heap.nx_new]; omega) fun b' w1 w2 => by rw [Heap.get_new_ne _ _ (by omega)]; exact k1 b' w1 w2
  · have hwl : (i64s (row9 (s.ino k))).length = 9 := by rw [List.length_map, row9_len]
    obtain ⟨z, hz⟩ : ∃ z, s.ino k 0 = z := ⟨_, rfl⟩
    have hz2 : ¬ z = 2 := hz ▸ hk k ek hk32
    have hx0 : (i64s (row9 (s.ino k)))[0]? = some (.int .i64 z) := by rw [List.getElem?_map, row9_get (by omega), hz]; rfl
    simp (disch := (first | omega | rfl | (simp only [Yn]; omega))) only [↓reduceIte, reduceCtorEq, Za, Zb, Zc, Zd, Ze, Zf, Zg, Zh, Zi, Zj, Zk, Zl, Zm, Zn, Zo, Zp, Zq, Zr, Zs, Zt, Zu, Zv, gval, Zw, rb0, rb1, rb2, rb3, rb4, tf0, tf1, tf2, tf3, tf4, Yk, Yh, overL_one, if_pos, stX_exactN, hwl]
    rw [overL_nine rfl hwl, Heap.upd_new]
    obtain ⟨h2, hh2⟩ : ∃ h2, h1.new (cellsB (i64s (row9 (s.ino k))) .exact) = h2 := ⟨_, rfl⟩
    have n2 : h2.nx = h1.nx + 1 := by rw [← hh2, Heap.nx_new]
    have g2 : h2.get h1.nx = some (cellsB (i64s (row9 (s.ino k))) .exact) := by rw [← hh2, Heap.get_new_same]
    have k2 : ∀ b', b' < h1.nx → h2.get b' = h1.get b' := fun b' hb' => by rw [← hh2, Heap.get_new_ne _ _ (by omega)]
    rw [hh2]
    simp (disch := (first | omega | rfl | (simp only [Yn]; omega))) only [↓reduceIte, reduceCtorEq, Za, Zb, Zc, Zd, Ze, Zf, Zg, Zh, Zi, Zj, Zk, Zl, Zm, Zn, Zo, Zp, Zq, Zr, Zs, Zt, Zu, Zv, gval, Zw, rb0, rb1, rb2, rb3, rb4, tf0, tf1, tf2, tf3, tf4, Yk, Yh, overL_one, if_pos, stX_exactN, g2, hx0, hwl, hz2]
    exact hR h2 (f1.keep (by omega) (k2 _ (by omega)) (k2 _ (by omega))) (by omega) fun b' w1 w2 => by rw [k2 _ (by omega)]; exact k1 b' w1 w2
def lookE (nm : List UInt8) : List (List UInt8 × Nat) → Option Nat
  | [] => none
  | e :: r => if e.1 = nm then some e.2 else lookE nm r
theorem lookE_at {nm : List UInt8} : ∀ {l : List (List UInt8 × Nat)} {k : Nat} {e : List UInt8 × Nat}, l[k]? = some e → e.1 = nm → (∀ (j : Nat) e', j < k → l[j]? = some e' → e'.1 ≠ nm) → lookE nm l = some e.2
  | [], _, _, h, _, _ => by simp at h
  | a :: r, 0, e, h, he, _ => by
    rw [List.getElem?_cons_zero] at h
    cases Option.some.inj h
    unfold lookE; rw [if_pos he]
  | a :: r, k + 1, e, h, he, hb => by
    rw [List.getElem?_cons_succ] at h
    unfold lookE
    rw [if_neg (hb 0 a (by omega) rfl)]
    exact lookE_at h he fun j e' hj hy => hb (j + 1) e' (by omega) hy
theorem lookE_none {nm : List UInt8} : ∀ {l : List (List UInt8 × Nat)}, (∀ (j : Nat) e', l[j]? = some e' → e'.1 ≠ nm) → lookE nm l = none
  | [], _ => rfl
  | a :: r, hb => by
    unfold lookE
    rw [if_neg (hb 0 a rfl)]
    exact lookE_none fun j e' hy => hb (j + 1) e' hy
def walkM (ent : Nat → Option (List (List UInt8 × Nat))) : Nat → List (List UInt8) → Nat × Int
  | k, [] => (k, 0)
  | k, n :: r => match ent k with
    | none => (0, 20)
    | some l => match lookE n l with
      | none => (0, 2)
      | some t => walkM ent t r
set_option maxRecDepth 100000 in
set_option maxHeartbeats 1000000 in
theorem walk52_wf (f : Fs h bd bl s) (I : s.Inv F) {ent : Nat → Option (List (List UInt8 × Nat))} (hd : ∀ k l, ent k = some l → Dr s F k l ∧ l.length ≤ 21) (hn : ∀ k, ent k = none → k < 32 → s.ino k 0 ≠ 2) {v : Value} {L : List (List UInt8)} (x : TxtAt h v L) (hv : ∀ b ∈ blkOf v, b < h.nx ∧ b ≠ bd) (hl : L.length < 9223372036854775807)
    (hR : ∀ h', Fs h' bd bl s → h.nx ≤ h'.nx → (∀ b', b' < h.nx → b' ≠ bd → h'.get b' = h.get b') → R (.ret (.tuple #[.int .i64 ((walkM ent 0 L).1 : Nat), .int .i64 (walkM ent 0 L).2])) h') :
    WF Tryd.prog 1 sp16 52 [.iface 23 (.pointer (some ⟨bd, 0, none⟩)), v] h R := by
  refine wf_fn (fn := Tryd.f52) rfl rfl (by kernel_rfl) rfl ?_
  have q1 := f.d.bd_lt
  have q2 := f.d.bl_lt
  obtain ⟨a, hs⟩ : ∃ a, v = .slice a L.length L.length := by
    rcases x.is with ⟨rfl, rfl⟩ | ⟨b, k, rfl, _⟩ <;> exact ⟨_, rfl⟩
  rw [hs]
  simp only [↓reduceIte, reduceCtorEq, Za, Zb, Zc, Zd, Ze, Zf, Zg, Zh, Zi, Zj, Zk, Zl, Zm, Zn, Zo, Zp, Zq, Zr, Zs, Zt, Zu, Zv, gval, Zw, rb0, rb1, rb2, rb3, rb4, tf0, tf1, tf2, tf3, tf4, Yk, Tryd.f52]
  refine run_loop2 rfl (fun N e h' => ∃ (p k : Nat), N = L.length - p ∧ p ≤ L.length ∧ e.at 0 = .iface 23 (.pointer (some ⟨bd, 0, none⟩)) ∧ e.at 6 = .int .i64 k ∧ e.at 12 = .slice a L.length L.length ∧ e.at 13 = .int .i64 L.length ∧ e.at 14 = .int .i64 p ∧ walkM ent 0 L = walkM ent k (L.drop p) ∧ Fs h' bd bl s ∧ h.nx ≤ h'.nx ∧ ∀ b', b' < h.nx → b' ≠ bd → h'.get b' = h.get b')
    (fun ex e h' => ((ex = .ret ∧ ∃ E : Int, e.at 4 = .int .i64 0 ∧ e.at 5 = .int .i64 E ∧ walkM ent 0 L = (0, E)) ∨ ex = .exit 0 ∧ ∃ k : Nat, e.at 6 = .int .i64 k ∧ walkM ent 0 L = (k, 0)) ∧ Fs h' bd bl s ∧ h.nx ≤ h'.nx ∧ ∀ b', b' < h.nx → b' ≠ bd → h'.get b' = h.get b') ?_ (L.length - 0) _ _ ?_ ?_
  · rintro N e h' ⟨p, k, rfl, hp, e0, e6, e12, e13, e14, hw, f', n', k'⟩ Q' hQn hQx
    by_cases hc : p < L.length
    · obtain ⟨nm, hnm⟩ : ∃ nm, L[p]? = some nm := ⟨_, List.getElem?_eq_getElem hc⟩
      rcases x.is with ⟨_, rfl⟩ | ⟨b, K, hv2, gb⟩
      · exact absurd hc (Nat.not_lt_zero _)
      rw [hs] at hv2
      cases hv2
      have hbb := hv b (by rw [hs]; exact List.mem_singleton.2 rfl)
      have gb' := (k' b hbb.1 hbb.2).trans gb
      have hp0 : (0 : Int) ≤ (p : Int) := by omega
      have hp1 : (p : Int) < (L.length : Int) := by omega
      have wp : wrapF .i64 ((p : Int) + 1) = ((p + 1 : Nat) : Int) := by rw [wrapI (by omega) (by omega)]; omega
      have hsx := strs_at hnm
      have hltx : p < (strs L).length := by rw [strs_len]; exact hc
      have hdr : L.drop p = nm :: L.drop (p + 1) := by
        rw [List.drop_eq_getElem_cons hc]
        rw [List.getElem?_eq_getElem hc] at hnm
        rw [Option.some.inj hnm]
      rw [hdr] at hw
      simp (disch := (first | omega | rfl | (simp only [Yn]; omega))) only [↓reduceIte, reduceCtorEq, Za, Zb, Zc, Zd, Ze, Zf, Zg, Zh, Zi, Zj, Zk, Zl, Zm, Zn, Zo, Zp, Zq, Zr, Zs, Zt, Zu, Zv, gval, Zw, rb0, rb1, rb2, rb3, rb4, tf0, tf1, tf2, tf3, tf4, Yk, Yh, overL_one, if_pos, stX_exactN, e0, e6, e12, e13, e14, hp0, hp1, gb', hsx, hltx, Nat.mul_one, Nat.zero_add]
      rcases hk : ent k with _ | l
      · have hw' : walkM ent 0 L = (0, 20) := by rw [hw]; unfold walkM; rw [hk]
        refine runC_of (read_not f' (fun q eq hq => by
          obtain rfl : k = q := (by omega)
          exact hn k hk hq) fun h2 f2 n2 k2 => ?_)
        simp only [↓reduceIte, reduceCtorEq, Za, Zb, Zc, Zd, Ze, Zf, Zg, Zh, Zi, Zj, Zk, Zl, Zm, Zn, Zo, Zp, Zq, Zr, Zs, Zt, Zu, Zv, gval, Zw, rb0, rb1, rb2, rb3, rb4, tf0, tf1, tf2, tf3, tf4, Yk]
        exact hQx _ _ _ (by simp) ⟨.inl ⟨rfl, 20, by simp only [Za, Zw, Ye], by simp only [Za, Zw, Ye], hw'⟩, f2, by omega, fun b' w1 w2 => by rw [k2 _ (by omega) w2]; exact k' b' w1 w2⟩
      · obtain ⟨D, hl21⟩ := hd k l hk
        refine runC_of (read_wf f' I D fun h2 v2 f2 n2 k2 r2 => ?_)
        obtain ⟨va, hva⟩ := r2.slc
        have sv : storable v2 = true := by rw [hva]; rfl
        simp only [↓reduceIte, reduceCtorEq, Za, Zb, Zc, Zd, Ze, Zf, Zg, Zh, Zi, Zj, Zk, Zl, Zm, Zn, Zo, Zp, Zq, Zr, Zs, Zt, Zu, Zv, gval, Zw, rb0, rb1, rb2, rb3, rb4, tf0, tf1, tf2, tf3, tf4, Yk, e0, e6, e14, sv]
        refine runC_of (find_wf (EntAt.of r2) (fun b hb => (r2.lt b hb).2) (by omega) (fun j y hj hy hbef h3 n3 k3 => ?_) fun hno h3 n3 k3 => ?_)
        · have hw' : walkM ent 0 L = walkM ent y.2 (L.drop (p + 1)) := by
            rw [hw]
            show (match ent k with
              | none => ((0 : Nat), (20 : Int))
              | some l => match lookE nm l with
                | none => (0, 2)
                | some t => walkM ent t (L.drop (p + 1))) = _
            rw [hk]
            simp only [lookE_at hj hy hbef]
          have cj : ¬ (j : Int) < 0 := by omega
          have hjl := (List.getElem?_eq_some_iff.1 hj).1
          have cj0 : (0 : Int) ≤ (j : Int) := by omega
          have cj1 : (j : Int) < (l.length : Int) := by omega
          rcases r2.is with ⟨_, _, z⟩ | ⟨b2, w1, w2, w3, g2⟩
          · omega
          rw [hva] at w3
          cases w3
          have g3 := (k3 b2 w2).trans g2
          have hsn := ents_snd hj
          have hlt : j * 2 + 1 < (ents l).length := by rw [ents_len]; omega
          simp (disch := (first | omega | rfl | (simp only [Yn]; omega))) only [↓reduceIte, reduceCtorEq, Za, Zb, Zc, Zd, Ze, Zf, Zg, Zh, Zi, Zj, Zk, Zl, Zm, Zn, Zo, Zp, Zq, Zr, Zs, Zt, Zu, Zv, gval, Zw, rb0, rb1, rb2, rb3, rb4, tf0, tf1, tf2, tf3, tf4, Yk, Yh, overL_one, if_pos, stX_exactN, hva, e14, cj, cj0, cj1, g3, hsn, hlt, wp]
          exact hQn _ _ _ (by omega) ⟨p + 1, y.2, rfl, by omega, by simp only [Za, Zw, Ye, e0], by simp only [Za, Zw, Ye], by simp only [Za, Zw, Ye, e12], by simp only [Za, Zw, Ye, e13], by simp only [Za, Zw, Ye], hw', f2.keep n3 (k3 _ (by omega)) (k3 _ (by omega)), by omega, fun b' w1 w2 => by rw [k3 _ (by omega), k2 _ (by omega) w2]; exact k' b' w1 w2⟩
        · have hw' : walkM ent 0 L = (0, 2) := by
            rw [hw]
            show (match ent k with
              | none => ((0 : Nat), (20 : Int))
              | some l => match lookE nm l with
                | none => (0, 2)
                | some t => walkM ent t (L.drop (p + 1))) = _
            rw [hk]
            simp only [lookE_none hno]
          simp only [↓reduceIte, reduceCtorEq, Za, Zb, Zc, Zd, Ze, Zf, Zg, Zh, Zi, Zj, Zk, Zl, Zm, Zn, Zo, Zp, Zq, Zr, Zs, Zt, Zu, Zv, gval, Zw, rb0, rb1, rb2, rb3, rb4, tf0, tf1, tf2, tf3, tf4, Yk]
          exact hQx _ _ _ (by simp) ⟨.inl ⟨rfl, 2, by simp only [Za, Zw, Ye], by simp only [Za, Zw, Ye], hw'⟩, f2.keep n3 (k3 _ (by omega)) (k3 _ (by omega)), by omega, fun b' w1 w2 => by rw [k3 _ (by omega), k2 _ (by omega) w2]; exact k' b' w1 w2⟩
    · have hp1 : ¬ (p : Int) < (L.length : Int) := by omega
      simp only [↓reduceIte, reduceCtorEq, Za, Zb, Zc, Zd, Ze, Zf, Zg, Zh, Zi, Zj, Zk, Zl, Zm, Zn, Zo, Zp, Zq, Zr, Zs, Zt, Zu, Zv, gval, Zw, rb0, rb1, rb2, rb3, rb4, tf0, tf1, tf2, tf3, tf4, Yk, e13, e14, hp1]
      rw [List.drop_of_length_le (by omega)] at hw
      exact hQx _ _ _ (by simp) ⟨.inr ⟨rfl, k, by simp only [Za, Zw, Ye, e6], hw⟩, f', n', k'⟩
  · exact ⟨0, 0, rfl, by omega, by simp only [Za, Zw, Ye], by simp only [Za, Zw, Ye], by simp only [Za, Zw, Ye], by simp only [Za, Zw, Ye], by simp only [Za, Zw, Ye], by rw [List.drop_zero], f, Nat.le_refl _, fun _ _ _ => rfl⟩
  · rintro ex e h' - ⟨⟨rfl, E, e4, e5, hw⟩ | ⟨rfl, k, e6, hw⟩, f', n', k'⟩
    · simp only [↓reduceIte, reduceCtorEq, Za, Zb, Zc, Zd, Ze, Zf, Zg, Zh, Zi, Zj, Zk, Zl, Zm, Zn, Zo, Zp, Zq, Zr, Zs, Zt, Zu, Zv, gval, Zw, rb0, rb1, rb2, rb3, rb4, tf0, tf1, tf2, tf3, tf4, Yk, e4, e5]
      have := hR h' f' n' k'
      rw [hw] at this
      exact this
    · simp only [↓reduceIte, reduceCtorEq, Za, Zb, Zc, Zd, Ze, Zf, Zg, Zh, Zi, Zj, Zk, Zl, Zm, Zn, Zo, Zp, Zq, Zr, Zs, Zt, Zu, Zv, gval, Zw, rb0, rb1, rb2, rb3, rb4, tf0, tf1, tf2, tf3, tf4, Yk, e6]
      have := hR h' f' n' k'
      rw [hw] at this
      exact this
def walkP (ent : Nat → Option (List (List UInt8 × Nat))) (p : List UInt8) : Nat × Int := if splE p = 0 then walkM ent 0 (splL p) else (0, splE p)
theorem splL_le (p : List UInt8) : (splL p).length ≤ p.length + 1 := by
  unfold splL
  split
  · exact parts_len p
  · exact Nat.zero_le _
set_option maxRecDepth 100000 in
theorem walk28_wf (f : Fs h bd bl s) (I : s.Inv F) {ent : Nat → Option (List (List UInt8 × Nat))} (hd : ∀ k l, ent k = some l → Dr s F k l ∧ l.length ≤ 21) (hn : ∀ k, ent k = none → k < 32 → s.ino k 0 ≠ 2) {p : List UInt8}
    (hR : ∀ h', Fs h' bd bl s → h.nx ≤ h'.nx → (∀ b', b' < h.nx → b' ≠ bd → h'.get b' = h.get b') → R (.ret (.tuple #[.int .i64 ((walkP ent p).1 : Nat), .int .i64 (walkP ent p).2])) h') :
    WF Tryd.prog 1 sp16 28 [.iface 23 (.pointer (some ⟨bd, 0, none⟩)), .string (mkS p)] h R := by
  refine wf_fn (fn := Tryd.f28) rfl rfl (by kernel_rfl) rfl ?_
  have q1 := f.d.bd_lt
  have q2 := f.d.bl_lt
  simp only [↓reduceIte, reduceCtorEq, Za, Zb, Zc, Zd, Ze, Zf, Zg, Zh, Zi, Zj, Zk, Zl, Zm, Zn, Zo, Zp, Zq, Zr, Zs, Zt, Zu, Zv, gval, Zw, rb0, rb1, rb2, rb3, rb4, tf0, tf1, tf2, tf3, tf4, Yk, Tryd.f28]
  refine runC_of (split_spec (sp := sp16) rfl rfl rfl fun h1 v n1 r1 k1 => ?_)
  have sv : storable v = true := by obtain ⟨a, hv⟩ := r1.slc; rw [hv]; rfl
  have f1 : Fs h1 bd bl s := f.keep n1 (k1 _ q1) (k1 _ q2)
  unfold walkP at hR
  by_cases c : splE p = 0
  · rw [if_pos c] at hR
    simp only [↓reduceIte, reduceCtorEq, Za, Zb, Zc, Zd, Ze, Zf, Zg, Zh, Zi, Zj, Zk, Zl, Zm, Zn, Zo, Zp, Zq, Zr, Zs, Zt, Zu, Zv, gval, Zw, rb0, rb1, rb2, rb3, rb4, tf0, tf1, tf2, tf3, tf4, Yk, sv, c]
    have hlen : (splL p).length ≤ 33 := by
      have h32 : p.length ≤ 32 := by
        by_cases q : 32 < p.length
        · unfold splE at c
          by_cases z : p = []
          · rw [if_pos z] at c; exact absurd c (by decide)
          · rw [if_neg z, if_pos q] at c; exact absurd c (by decide)
        · omega
      have := splL_le p; omega
    refine runC_of (walk52_wf f1 I hd hn (TxtAt.of r1) (fun b hb => by have := r1.lt b hb; omega) (by omega) fun h2 f2 n2 k2 => ?_)
    simp only [↓reduceIte, reduceCtorEq, Za, Zb, Zc, Zd, Ze, Zf, Zg, Zh, Zi, Zj, Zk, Zl, Zm, Zn, Zo, Zp, Zq, Zr, Zs, Zt, Zu, Zv, gval, Zw, rb0, rb1, rb2, rb3, rb4, tf0, tf1, tf2, tf3, tf4, Yk]
    exact hR h2 f2 (by omega) fun b' w1 w2 => by rw [k2 _ (by omega) w2, k1 _ w1]
  · rw [if_neg c] at hR
    simp only [↓reduceIte, reduceCtorEq, Za, Zb, Zc, Zd, Ze, Zf, Zg, Zh, Zi, Zj, Zk, Zl, Zm, Zn, Zo, Zp, Zq, Zr, Zs, Zt, Zu, Zv, gval, Zw, rb0, rb1, rb2, rb3, rb4, tf0, tf1, tf2, tf3, tf4, Yk, sv, c]
    exact hR h1 f1 n1 fun b' w1 _ => k1 b' w1
end Go.Proofs.YtmadjdgipfdnkaaDoor
end
section
/- DirFull: the law's own steps. No condition. -/
namespace Go.Proofs.YtmadjdgipfdnkaaDoor
open Go.AM
open Nat renaming reduceBEq → Za, reduceEqDiff → Zb, reduceAdd → Zc, reduceSub → Zd, reduceMul → Ze, reduceLT → Zf, reduceLeDiff → Zg, reduceDiv → Zh, reduceMod → Zi, reducePow → Zj
open Int renaming reduceAdd → Zk, reduceSub → Zl, reduceMul → Zm, reduceLT → Zn, reduceLE → Zo, reduceEq → Zp, reduceNe → Zq, reduceNeg → Zr, reduceToNat → Zs, reduceDiv → Zt, reduceMod → Zu, reducePow → Zv, cast_ofNat_Int → Zw
set_option linter.unusedSimpArgs false
variable {h : Heap} {R : Out → Heap → Prop} {bd bl : Nat} {s : FS} {F : Nat → Prop}
structure PairM (n : Nat) : Prop where
  run : ∀ fu d, acall Tryd.prog (0 + 1) sp16 (fu + 400) (d + 20) 12 [.int .i64 (n : Int)] H0 = some (.ret (.tuple #[.pointer (some ⟨2, 0, none⟩), .pointer (some ⟨3, 0, none⟩), .int .i64 1]), pairH (n : Int))
  f : ((pairH (n : Int)).get 2, (pairH (n : Int)).get 1, (pairH (n : Int)).get 0, Nat.ble 5 (pairH (n : Int)).nx) = (some (cellsB [.int .i64 (n : Int), .slice (some ⟨1, 0, none⟩) (n * 32) (n * 32), .int .i64 1, .int .i64 13] .exact), some (cellsB (u64s (words0 n)) .exact), some (tabBlk .u8 tab), true)
theorem PairM.fs {n : Nat} (p : PairM n) (h1 : 13 ≤ n) (h2 : n ≤ 60) : Fs (pairH (n : Int)) 2 1 (FS.new n) ∧ (pairH (n : Int)).get 0 = some (tabBlk .u8 tab) ∧ 5 ≤ (pairH (n : Int)).nx := by
  have hf := p.f
  simp only [Prod.mk.injEq] at hf
  obtain ⟨f1, f2, f4, f5⟩ := hf
  have f5 := Nat.le_of_ble_eq_true f5
  refine ⟨⟨⟨⟨1, 13, f1⟩, ?_, flat_len, by show n ≤ 1024; omega, by omega, by omega, by omega⟩, .new h1 h2⟩, f4, f5⟩
  show _ = some (cellsB (u64s (flatD n (FS.new n).D)) .exact)
  rw [← words0_fs]; exact f2
theorem PairM.wf {n : Nat} {R : Out → Heap → Prop} (p : PairM n) (hR : R (.ret (.tuple #[.pointer (some ⟨2, 0, none⟩), .pointer (some ⟨3, 0, none⟩), .int .i64 1])) (pairH (n : Int))) : WF Tryd.prog 1 sp16 12 [.int .i64 (n : Int)] H0 R := by
  refine ⟨_, _, ⟨400, fun fu d h1 h2 => ?_⟩, hR⟩
  obtain ⟨fu, rfl⟩ : ∃ k, fu = k + 400 := ⟨fu - 400, by omega⟩
  obtain ⟨d, rfl⟩ : ∃ k, d = k + 20 := ⟨d - 20, by omega⟩
  exact p.run fu d
theorem new_root {n : Nat} (h1 : 13 ≤ n) (h2 : n ≤ 60) : (FS.new n).Inv (fun i => i = 0) ∧ Dr (FS.new n) (fun i => i = 0) 0 [] := by
  have I := new_inv h1 h2
  have hs : (FS.new n).size 0 = 0 := rfl
  refine ⟨⟨I.wf, I.low, fun i hi => ?_, fun i k hi hk => ?_, fun i k j m hi hj hk => ?_, fun i p hi hp hp2 => ?_⟩, ⟨rfl, by omega, rfl, ?_, fun e he => by cases he⟩⟩
  · subst hi
    exact ⟨by show (0 : Int) ≤ 192; decide, fun q hq => absurd hq (by rw [hs]; unfold needN; omega)⟩
  · subst hi; rw [hs] at hk; unfold needN at hk; omega
  · subst hi; rw [hs] at hk; unfold needN at hk; omega
  · subst hi; rw [hs] at hp2; unfold needN at hp2; omega
  · exact List.eq_nil_of_length_eq_zero (by rw [txt_len]; rfl)
end Go.Proofs.YtmadjdgipfdnkaaDoor
end
section
/- From a walk behind the table's block and one more to the row. Conditions: as the rule says. -/
namespace Go.Proofs.YtmadjdgipfdnkaaDoor
open Go.AM
theorem h0_new (X : Blk) : listHeap [tabBlk .u8 tab, X] = H0.new X := by kernel_rfl
theorem doorX_wf {W : World} {sp : Special} (hsp : SpecOk Tryd.prog 1 sp) {f : FuncId} {args args' : List Value} {X : Blk} {s : AM.Stat} {cs : Array Value} {el : TypeId} {fr : Nat × Nat} (t1 : W.heap[0]? = some (.cells cs el fr)) (t2 : cs.size = 64) (t3 : ∀ i, i < 64 → cs[i]? = (tab.map (Value.int .u8))[i]?)
    (r3 : ∀ m, BRel m W s (some X)) (r4 : ∀ l1, s = .live l1 → roB (some X) = true ∧ l1.rw = false) (hw : WF Tryd.prog 1 sp f args (H0.new X) fun o _ => o = .ret (.bool true)) (ha : VRels (statMp [.live ⟨0, 0, 0, 64, 64, false⟩, s]) args args') :
    Calls Tryd.prog f args'.toArray W fun e W' => e = .returned (.bool true) ∧ Still W W' := by
  refine wf_list (ng := 1) (by kernel_rfl) hsp (l := [tabBlk .u8 tab, X]) (st := [.live ⟨0, 0, 0, 64, 64, false⟩, s]) rfl (fun i st b hs hb => ?_) (fun i l b hs hb => ?_) (fun g hg => ?_) (by rw [h0_new]; exact hw) ha
  · match i with
    | 0 => cases hs; cases hb; exact tab_rel (bs := tab) t1 t2 t3
    | 1 => cases hs; cases hb; exact r3 _
    | i + 2 => simp at hs
  · match i with
    | 0 => cases hs; cases hb; exact ⟨rfl, rfl⟩
    | 1 => cases hb; exact r4 l (by simpa using hs)
    | i + 2 => simp at hs
  · obtain rfl : g = 0 := by omega
    exact .inl ⟨_, rfl, rfl, rfl, rfl⟩
end Go.Proofs.YtmadjdgipfdnkaaDoor
end
section
/- Pair for 40 blocks behind one block, two blocks: run once; texts as arguments. Conditions: as the rules say. -/
namespace Go.Proofs.YtmadjdgipfdnkaaDoor
open Go.AM
open Nat renaming reduceBEq → Za, reduceEqDiff → Zb, reduceAdd → Zc, reduceSub → Zd, reduceMul → Ze, reduceLT → Zf, reduceLeDiff → Zg, reduceDiv → Zh, reduceMod → Zi, reducePow → Zj
open Int renaming reduceAdd → Zk, reduceSub → Zl, reduceMul → Zm, reduceLT → Zn, reduceLE → Zo, reduceEq → Zp, reduceNe → Zq, reduceNeg → Zr, reduceToNat → Zs, reduceDiv → Zt, reduceMod → Zu, reducePow → Zv, cast_ofNat_Int → Zw
set_option linter.unusedSimpArgs false
variable {R : Out → Heap → Prop}
noncomputable def prH (H : Heap) : Heap := match acall Tryd.prog (0 + 1) sp16 400 20 12 [.int .i64 40] H with
  | some (_, h) => h
  | none => H
set_option maxRecDepth 100000 in
theorem prX_run (X : Blk) : ∀ fu d, acall Tryd.prog (0 + 1) sp16 (fu + 400) (d + 20) 12 [.int .i64 40] (H0.new X) = some (.ret (.tuple #[.pointer (some ⟨3, 0, none⟩), .pointer (some ⟨4, 0, none⟩), .int .i64 1]), prH (H0.new X)) := fun fu d => by kernel_rfl
set_option maxRecDepth 100000 in
theorem prX_f (X : Blk) : ((prH (H0.new X)).get 3, (prH (H0.new X)).get 2, (prH (H0.new X)).get 1, (prH (H0.new X)).get 0, Nat.ble 5 (prH (H0.new X)).nx) = (some (cellsB [.int .i64 40, .slice (some ⟨2, 0, none⟩) 1280 1280, .int .i64 1, .int .i64 13] .exact), some (cellsB (u64s (words0 40)) .exact), some X, some (tabBlk .u8 tab), true) := by kernel_rfl
theorem prX_wf {X : Blk} (hR : ∀ h, Fs h 3 2 (FS.new 40) → h.get 0 = some (tabBlk .u8 tab) → h.get 1 = some X → 5 ≤ h.nx → R (.ret (.tuple #[.pointer (some ⟨3, 0, none⟩), .pointer (some ⟨4, 0, none⟩), .int .i64 1])) h) : WF Tryd.prog 1 sp16 12 [.int .i64 40] (H0.new X) R := by
  have hf := prX_f X
  simp only [Prod.mk.injEq] at hf
  obtain ⟨f1, f2, f3, f4, f5⟩ := hf
  have f5 := Nat.le_of_ble_eq_true f5
  refine ⟨_, _, ⟨400, fun fu d h1 h2 => ?_⟩, hR _ ⟨⟨⟨1, 13, f1⟩, ?_, flat_len, by show 40 ≤ 1024; omega, by omega, by omega, by omega⟩, .new (by omega) (by omega)⟩ f4 f3 f5⟩
  · obtain ⟨fu, rfl⟩ : ∃ k, fu = k + 400 := ⟨fu - 400, by omega⟩
    obtain ⟨d, rfl⟩ : ∃ k, d = k + 20 := ⟨d - 20, by omega⟩
    exact prX_run X fu d
  · show _ = some (cellsB (u64s (flatD 40 (FS.new 40).D)) .exact)
    rw [← words0_fs]; exact f2
structure ArgT (v : Value) (L : List (List UInt8)) (i : Nat) (X : Blk) : Prop where
  is : ∃ a c, v = .slice a L.length c ∧ (L.length = 0 ∨ (a = some ⟨i, 0, none⟩ ∧ X = cellsB (strs L) .ro))
end Go.Proofs.YtmadjdgipfdnkaaDoor
end
section
/- Rows of names: what stays when one is taken out. No condition on the program. -/
namespace Go.Proofs.YtmadjdgipfdnkaaDoor
open Go.AM
open Nat renaming reduceBEq → Za, reduceEqDiff → Zb, reduceAdd → Zc, reduceSub → Zd, reduceMul → Ze, reduceLT → Zf, reduceLeDiff → Zg, reduceDiv → Zh, reduceMod → Zi, reducePow → Zj
open Int renaming reduceAdd → Zk, reduceSub → Zl, reduceMul → Zm, reduceLT → Zn, reduceLE → Zo, reduceEq → Zp, reduceNe → Zq, reduceNeg → Zr, reduceToNat → Zs, reduceDiv → Zt, reduceMod → Zu, reducePow → Zv, cast_ofNat_Int → Zw
set_option linter.unusedSimpArgs false
def Uniq (l : List (List UInt8 × Nat)) : Prop := ∀ (i j : Nat) a b, l[i]? = some a → l[j]? = some b → a.1 = b.1 → i = j
end Go.Proofs.YtmadjdgipfdnkaaDoor
end
section
/- Directories: List. Conditions: the disk lies as the rule names. -/
namespace Go.Proofs.YtmadjdgipfdnkaaDoor
open Go.AM
open Nat renaming reduceBEq → Za, reduceEqDiff → Zb, reduceAdd → Zc, reduceSub → Zd, reduceMul → Ze, reduceLT → Zf, reduceLeDiff → Zg, reduceDiv → Zh, reduceMod → Zi, reducePow → Zj
open Int renaming reduceAdd → Zk, reduceSub → Zl, reduceMul → Zm, reduceLT → Zn, reduceLE → Zo, reduceEq → Zp, reduceNe → Zq, reduceNeg → Zr, reduceToNat → Zs, reduceDiv → Zt, reduceMod → Zu, reducePow → Zv, cast_ofNat_Int → Zw
set_option linter.unusedSimpArgs false
variable {h : Heap} {R : Out → Heap → Prop} {bd bl : Nat} {s : FS} {F : Nat → Prop}
end Go.Proofs.YtmadjdgipfdnkaaDoor
end
section
/- DirNames: the law's own steps. Conditions: the names lie as the rules name. -/
namespace Go.Proofs.YtmadjdgipfdnkaaDoor
open Go.AM
open Nat renaming reduceBEq → Za, reduceEqDiff → Zb, reduceAdd → Zc, reduceSub → Zd, reduceMul → Ze, reduceLT → Zf, reduceLeDiff → Zg, reduceDiv → Zh, reduceMod → Zi, reducePow → Zj
open Int renaming reduceAdd → Zk, reduceSub → Zl, reduceMul → Zm, reduceLT → Zn, reduceLE → Zo, reduceEq → Zp, reduceNe → Zq, reduceNeg → Zr, reduceToNat → Zs, reduceDiv → Zt, reduceMod → Zu, reducePow → Zv, cast_ofNat_Int → Zw
set_option linter.unusedSimpArgs false
variable {h : Heap} {R : Out → Heap → Prop} {bd bl : Nat} {s : FS} {F : Nat → Prop}
structure NS (h : Heap) (X Y : Blk) (s : FS) (l : List (List UInt8 × Nat)) : Prop where
  f : Fs h 4 3 s
  I : s.Inv fun i => i = 0
  D : Dr s (fun i => i = 0) 0 l
  n : s.n = 40
  len : l.length ≤ 21
  u : Uniq l
  x : h.get 1 = some X
  y : h.get 2 = some Y
  t : h.get 0 = some (tabBlk .u8 tab)
  lt : 6 ≤ h.nx
theorem NS.to {h' : Heap} {X Y : Blk} {s s2 : FS} {l l2 : List (List UInt8 × Nat)} (N : NS h X Y s l) (f : Fs h' 4 3 s2) (I : s2.Inv fun i => i = 0) (D : Dr s2 (fun i => i = 0) 0 l2) (hn : s2.n = s.n) (len : l2.length ≤ 21) (u : Uniq l2) (n : h.nx ≤ h'.nx) (k : ∀ b', b' < h.nx → b' ≠ 4 → b' ≠ 3 → h'.get b' = h.get b') : NS h' X Y s2 l2 :=
  have := N.lt
  ⟨f, I, D, hn.trans N.n, len, u, (k 1 (by omega) (by omega) (by omega)).trans N.x, (k 2 (by omega) (by omega) (by omega)).trans N.y, (k 0 (by omega) (by omega) (by omega)).trans N.t, by omega⟩
theorem NS.same {h' : Heap} {X Y : Blk} {s : FS} {l : List (List UInt8 × Nat)} (N : NS h X Y s l) (f : Fs h' 4 3 s) (n : h.nx ≤ h'.nx) (k : ∀ b', b' < h.nx → b' ≠ 4 → b' ≠ 3 → h'.get b' = h.get b') : NS h' X Y s l := N.to f N.I N.D rfl N.len N.u n k
theorem nm_ok {nm : List UInt8} {t : Nat} (hn : NmP nm) (ht : t < 32) : EntOk (nm, t) := by
  have hc := hn.2.2
  unfold chk at hc
  refine ⟨?_, ?_, by show t < 256; omega⟩
  · show nm.length ≤ 8
    by_cases q8 : 8 < nm.length
    · rw [if_pos q8] at hc; exact absurd hc (by decide)
    · omega
  · intro hm
    have hm : (0 : UInt8) ∈ nm := hm
    by_cases q8 : 8 < nm.length
    · rw [if_pos q8] at hc; exact absurd hc (by decide)
    · rw [if_neg q8, if_pos hm] at hc; exact absurd hc (by decide)
theorem ok_snoc {l : List (List UInt8 × Nat)} {y : List UInt8 × Nat} (h : ∀ e ∈ l, EntOk e) (hy : EntOk y) : ∀ e ∈ l ++ [y], EntOk e := fun e he => by
  rcases List.mem_append.1 he with q | q
  · exact h e q
  · rw [List.mem_singleton.1 q]; exact hy
end Go.Proofs.YtmadjdgipfdnkaaDoor
end
section
/- DirPaths: the law's own steps. Conditions: the names lie as the rule names. -/
namespace Go.Proofs.YtmadjdgipfdnkaaDoor
open Go.AM
open Nat renaming reduceBEq → Za, reduceEqDiff → Zb, reduceAdd → Zc, reduceSub → Zd, reduceMul → Ze, reduceLT → Zf, reduceLeDiff → Zg, reduceDiv → Zh, reduceMod → Zi, reducePow → Zj
open Int renaming reduceAdd → Zk, reduceSub → Zl, reduceMul → Zm, reduceLT → Zn, reduceLE → Zo, reduceEq → Zp, reduceNe → Zq, reduceNeg → Zr, reduceToNat → Zs, reduceDiv → Zt, reduceMod → Zu, reducePow → Zv, cast_ofNat_Int → Zw
set_option linter.unusedSimpArgs false
variable {h : Heap} {R : Out → Heap → Prop} {bd bl : Nat} {s : FS} {F : Nat → Prop}
theorem str_add (t : TypeId) (x y : Operand) {a b : List UInt8} (hl : a.length + b.length ≤ 1000) (g : Nat → Option Blk) : effBin Tryd.prog .add t x y (.string (mkS a)) (.string (mkS b)) g = ret (.string (mkS (a ++ b))) := by
  rw [effBin_str]
  have h2 : strOp .add (mkS a) (mkS b) = some (.string (mkS a ++ mkS b)) := by
    unfold strOp
    simp only [mkS_size]
    rw [if_pos (by omega)]
  rw [h2]
  show ret (.string (mkS a ++ mkS b)) = _
  have : mkS a ++ mkS b = mkS (a ++ b) := by
    have h1 : (mkS a ++ mkS b).data = (mkS (a ++ b)).data := by
      rw [ByteArray.data_append]
      show a.toArray ++ b.toArray = (a ++ b).toArray
      rw [List.append_toArray]
    cases hx : mkS a ++ mkS b with
    | mk d => rw [hx] at h1; exact congrArg ByteArray.mk h1
  rw [this]
structure Ch (s : FS) (ps : List (List UInt8)) : Prop where
  I : s.Inv fun i => i ≤ ps.length
  dir : ∀ (j : Nat) nm, ps[j]? = some nm → Dr s (fun i => i ≤ ps.length) j [(nm, j + 1)]
  last : Dr s (fun i => i ≤ ps.length) ps.length []
  a : s.a = lowN (ps.length + 1)
  n : s.n = 40
  pop : popc 64 s.b ≤ 12 + ps.length
  nm : ∀ x ∈ ps, NmP x
  fr : ∀ j, ps.length < j → s.ino j 0 = 0
theorem Dr.mono {F' : Nat → Prop} {i : Nat} {l : List (List UInt8 × Nat)} (d : Dr s F i l) (h : F' i) : Dr s F' i l := ⟨h, d.lt, d.kind, d.txt, d.ok⟩
theorem alloc_ino {k : Int} (j : Nat) : (s.alloc k).ino j = if j = lowZ s.a then inoK k else s.ino j := rfl
theorem Ch.alloc {ps : List (List UInt8)} (c : Ch s ps) (hl : ps.length < 20) : lowZ s.a = ps.length + 1 ∧ (s.alloc 2).Inv (fun i => i ≤ ps.length + 1) ∧ (∀ (j : Nat) nm, ps[j]? = some nm → Dr (s.alloc 2) (fun i => i ≤ ps.length + 1) j [(nm, j + 1)]) ∧ Dr (s.alloc 2) (fun i => i ≤ ps.length + 1) ps.length [] ∧ Dr (s.alloc 2) (fun i => i ≤ ps.length + 1) (ps.length + 1) [] ∧ (s.alloc 2).a = lowN (ps.length + 2) ∧ (s.alloc 2).n = 40 ∧ popc 64 (s.alloc 2).b ≤ 12 + ps.length ∧ ∀ j, ps.length + 1 < j → (s.alloc 2).ino j 0 = 0 := by
  have hz : lowZ s.a = ps.length + 1 := by rw [c.a]; exact lowZ_low (by omega)
  obtain ⟨I4, z4, zj, zb, a4, b4⟩ := alloc_inv c.I (k := 2) (by omega) (by rw [hz]; omega) (by rw [hz]; omega)
  rw [hz] at I4 z4 zj zb a4
  have I5 : (s.alloc 2).Inv fun i => i ≤ ps.length + 1 := I4.congr fun i => ⟨fun q => by omega, fun q => by omega⟩
  have old : ∀ {j : Nat} {l : List (List UInt8 × Nat)}, j ≤ ps.length → Dr s (fun i => i ≤ ps.length) j l → Dr (s.alloc 2) (fun i => i ≤ ps.length + 1) j l := fun {j l} hj d => by
    refine ⟨by show j ≤ _; omega, d.lt, ?_, ?_, d.ok⟩
    · rw [alloc_ino, hz, if_neg (by omega)]; exact d.kind
    · exact (txt_same (zj j (by omega)) fun p _ => zb j p (by omega)).trans d.txt
  refine ⟨hz, I5, fun j nm hj => old (by have := (List.getElem?_eq_some_iff.1 hj).1; omega) (c.dir j nm hj), old (Nat.le_refl _) c.last, ⟨by show _ ≤ _; omega, by omega, ?_, ?_, fun e he => by cases he⟩, ?_, c.n, by rw [b4]; exact c.pop, fun j hj => by rw [alloc_ino, hz, if_neg (by omega)]; exact c.fr j (by omega)⟩
  · rw [alloc_ino, hz, if_pos rfl]; rfl
  · exact List.eq_nil_of_length_eq_zero (by rw [txt_len]; exact z4)
  · rw [a4, c.a]; exact lowN_mark (ps.length + 1)
def chE (ps : List (List UInt8)) (k : Nat) : Option (List (List UInt8 × Nat)) := match ps[k]? with
  | some nm => some [(nm, k + 1)]
  | none => if k = ps.length then some [] else none
theorem walk_ch {ps : List (List UInt8)} : ∀ (m j : Nat), m = ps.length - j → j ≤ ps.length → walkM (chE ps) j (ps.drop j) = (ps.length, 0)
  | 0, j, hm, hj => by
    rw [List.drop_of_length_le (by omega), show j = ps.length by omega]; rfl
  | m + 1, j, hm, hj => by
    have hjl : j < ps.length := by omega
    have hx : ps[j]? = some ps[j] := List.getElem?_eq_getElem hjl
    rw [List.drop_eq_getElem_cons hjl]
    have he : chE ps j = some [(ps[j], j + 1)] := by unfold chE; rw [hx]
    show (match chE ps j with
      | none => ((0 : Nat), (20 : Int))
      | some l => match lookE ps[j] l with
        | none => (0, 2)
        | some t => walkM (chE ps) t (ps.drop (j + 1))) = _
    rw [he]
    have hl : lookE ps[j] [(ps[j], j + 1)] = some (j + 1) := by unfold lookE; rw [if_pos rfl]
    simp only [hl]
    exact walk_ch m (j + 1) (by omega) (by omega)
theorem Ch.ent {ps : List (List UInt8)} (c : Ch s ps) (k : Nat) (l : List (List UInt8 × Nat)) (h : chE ps k = some l) : Dr s (fun i => i ≤ ps.length) k l ∧ l.length ≤ 21 := by
  unfold chE at h
  split at h
  · rename_i nm hn
    cases Option.some.inj h
    exact ⟨c.dir k nm hn, by simp⟩
  · split at h
    · rename_i e
      cases Option.some.inj h
      rw [e]; exact ⟨c.last, by simp⟩
    · cases h
set_option maxRecDepth 100000 in
set_option maxHeartbeats 4000000 in
theorem paths_walk {v1 : Value} {L1 : List (List UInt8)} {X : Blk} {S : Int} (A1 : ArgT v1 L1 1 X) (hL : ∀ x ∈ L1, x.length ≤ maxLen) (hR : ∀ h, R (.ret (.bool true)) h) : WF Tryd.prog 1 sp16 9 [v1, .int .i64 S] (H0.new X) R := by
  refine wf_fn (fn := Tryd.f9) rfl rfl (by kernel_rfl) rfl ?_
  obtain ⟨a1, c1, rfl, hX⟩ := A1.is
  have hmax : maxLen ≤ 9223372036854775807 := by decide
  have s47 : ByteArray.mk #[47] = mkS [47] := rfl
  have s0 : ByteArray.mk #[] = mkS [] := rfl
  simp only [↓reduceIte, reduceCtorEq, Za, Zb, Zc, Zd, Ze, Zf, Zg, Zh, Zi, Zj, Zk, Zl, Zm, Zn, Zo, Zp, Zq, Zr, Zs, Zt, Zu, Zv, gval, Zw, rb0, rb1, rb2, rb3, rb4, tf0, tf1, tf2, tf3, tf4, Yk, Tryd.f9]
  refine runC_of (prX_wf fun h1 f1 t1 x1 n1 => ?_)
  obtain ⟨I1, D1⟩ := new_root (n := 40) (by omega) (by omega)
  have C1 : Ch (FS.new 40) [] := ⟨I1.congr fun i => ⟨fun q => by show i ≤ 0; omega, fun q => Nat.le_zero.1 q⟩, fun j nm hj => by simp at hj, D1.mono (Nat.le_refl _), rfl, rfl, by show popc 64 4095 ≤ _; rw [show popc 64 4095 = 12 by decide]; omega, (fun x hx => by cases hx), fun j hj => by
    have : 0 < j := hj
    show (if j = 0 then _ else (0 : Int)) = 0
    rw [if_neg (by omega)]⟩
  simp only [↓reduceIte, reduceCtorEq, Za, Zb, Zc, Zd, Ze, Zf, Zg, Zh, Zi, Zj, Zk, Zl, Zm, Zn, Zo, Zp, Zq, Zr, Zs, Zt, Zu, Zv, gval, Zw, rb0, rb1, rb2, rb3, rb4, tf0, tf1, tf2, tf3, tf4, Yk, show ((1 : Int) == 0) = false from rfl]
  refine run_loop2 rfl (fun m e h' => ∃ (i : Nat) (s : FS) (ps : List (List UInt8)) (P : List UInt8), m = 4 - i ∧ i ≤ 4 ∧ e.at 0 = .slice a1 L1.length c1 ∧ e.at 1 = .int .i64 S ∧ e.at 5 = .pointer (some ⟨3, 0, none⟩) ∧ e.at 8 = .int .i64 ps.length ∧ e.at 9 = .string (mkS P) ∧ e.at 10 = .int .i64 i ∧ ps.length ≤ i ∧ parts P = ps ∧ P.length ≤ 10 * i ∧ Ch s ps ∧ Fs h' 3 2 s ∧ h'.get 1 = some X ∧ h'.get 0 = some (tabBlk .u8 tab) ∧ 5 ≤ h'.nx)
    (fun ex e h' => ex = .exit 0 ∧ ∃ (s : FS) (ps : List (List UInt8)) (P : List UInt8), e.at 5 = .pointer (some ⟨3, 0, none⟩) ∧ e.at 8 = .int .i64 ps.length ∧ e.at 9 = .string (mkS P) ∧ parts P = ps ∧ P.length ≤ 40 ∧ Ch s ps ∧ Fs h' 3 2 s ∧ h'.get 0 = some (tabBlk .u8 tab) ∧ 5 ≤ h'.nx) ?_ 4 _ _ ?_ ?_
  · rintro m e h2 ⟨i, s, ps, P, rfl, hi, e0, e1, e5, e8, e9, e10, hps, hP, hPl, C, f2, x2, t2, n2⟩ Q' hQn hQx
    by_cases hc : i < L1.length ∧ i < 4
    · obtain ⟨hi1, hi2⟩ := hc
      have d1 : (i : Int) < (L1.length : Int) := by omega
      have d2 : (i : Int) < 4 := by omega
      have d3 : (0 : Int) ≤ (i : Int) := by omega
      have wi : wrapF .i64 ((i : Int) + 1) = ((i + 1 : Nat) : Int) := by rw [wrapI (by omega) (by omega)]; omega
      obtain ⟨nm, hnm⟩ : ∃ nm, L1[i]? = some nm := ⟨_, List.getElem?_eq_getElem hi1⟩
      rcases hX with hX | ⟨rfl, rfl⟩
      · omega
      have hs := strs_at hnm
      have hlt : i < (strs L1).length := by rw [strs_len]; exact hi1
      simp (disch := (first | omega | rfl | (simp only [Yn]; omega))) only [↓reduceIte, reduceCtorEq, Za, Zb, Zc, Zd, Ze, Zf, Zg, Zh, Zi, Zj, Zk, Zl, Zm, Zn, Zo, Zp, Zq, Zr, Zs, Zt, Zu, Zv, gval, Zw, rb0, rb1, rb2, rb3, rb4, tf0, tf1, tf2, tf3, tf4, Yk, Yh, overL_one, if_pos, stX_exactN, e0, e10, d1, d2, d3, x2, hs, hlt, Nat.mul_one, Nat.zero_add]
      refine runC_of (rname_wf (by have := hL nm (List.mem_of_getElem? hnm); omega) ?_)
      by_cases cn : NmP nm
      rotate_left
      · simp only [↓reduceIte, reduceCtorEq, Za, Zb, Zc, Zd, Ze, Zf, Zg, Zh, Zi, Zj, Zk, Zl, Zm, Zn, Zo, Zp, Zq, Zr, Zs, Zt, Zu, Zv, gval, Zw, rb0, rb1, rb2, rb3, rb4, tf0, tf1, tf2, tf3, tf4, Yk, decide_eq_false cn, Bool.not_false, e10, wi]
        exact hQn _ _ _ (by omega) ⟨i + 1, s, ps, P, rfl, by omega, by simp only [Za, Zw, Ye, e0], by simp only [Za, Zw, Ye, e1], by simp only [Za, Zw, Ye, e5], by simp only [Za, Zw, Ye, e8], by simp only [Za, Zw, Ye, e9], by simp only [Za, Zw, Ye], by omega, hP, by omega, C, f2, x2, t2, n2⟩
      · obtain ⟨hz, I5, dj, dk, dn, a5, n5, p5, fr5⟩ := C.alloc (by omega)
        simp only [↓reduceIte, reduceCtorEq, Za, Zb, Zc, Zd, Ze, Zf, Zg, Zh, Zi, Zj, Zk, Zl, Zm, Zn, Zo, Zp, Zq, Zr, Zs, Zt, Zu, Zv, gval, Zw, rb0, rb1, rb2, rb3, rb4, tf0, tf1, tf2, tf3, tf4, Yk, decide_eq_true cn, Bool.not_true, e5, ifc23]
        refine runC_of (falloc_spec pl16 t2 f2 (by omega) (k := 2) (by omega) (fun q => absurd (by rw [hz]; omega) q) fun _ h3 f3 n3 k3 => ?_)
        rw [hz]
        have x3 := (k3 1 (by omega) (by omega) (by omega)).trans x2
        have t3 := (k3 0 (by omega) (by omega) (by omega)).trans t2
        simp (disch := (first | omega | rfl | (simp only [Yn]; omega))) only [↓reduceIte, reduceCtorEq, Za, Zb, Zc, Zd, Ze, Zf, Zg, Zh, Zi, Zj, Zk, Zl, Zm, Zn, Zo, Zp, Zq, Zr, Zs, Zt, Zu, Zv, gval, Zw, rb0, rb1, rb2, rb3, rb4, tf0, tf1, tf2, tf3, tf4, Yk, Yh, overL_one, if_pos, stX_exactN, e0, e5, e8, e10, d1, d2, d3, x3, hs, hlt, ifc23, Nat.mul_one, Nat.zero_add]
        refine runC_of (add_wf t3 f3 (by omega) I5 dk (by simp) (nm := nm) (tn := ((ps.length + 1 : Nat) : Int)) (fun q => ?_) (fun _ q => ?_) (fun _ _ q => ?_) fun t et ht _ _ _ s4 h4 dw f4 n4 k4 => ?_)
        · exact absurd q (fun q => by
            rcases q with q | q | q
            · exact q cn
            · omega
            · omega)
        · obtain ⟨e, he, _⟩ := q
          cases he
        · exfalso
          rcases q with q | q
          · simp at q
          · rw [n5] at q
            simp at q
            unfold needN at q; omega
        · obtain rfl : ps.length + 1 = t := by omega
          have hnm8 : nm.length ≤ 8 := (nm_ok (t := 0) cn (by omega)).1
          have C4 : Ch s4 (ps ++ [nm]) := by
            have hl : (ps ++ [nm]).length = ps.length + 1 := by rw [List.length_append, List.length_singleton]
            have ok4 := ok_snoc (l := []) (y := (nm, ps.length + 1)) (fun _ he => by cases he) (nm_ok cn (by omega))
            have hF : ∀ i : Nat, i ≤ ps.length + 1 ↔ i ≤ (ps ++ [nm]).length := fun i => by rw [hl]
            refine ⟨dw.inv.congr hF, fun j y hj => ?_, ?_, ?_, dw.n.trans n5, ?_, fun x hx => ?_, fun j hj => (dw.kind j).trans (fr5 j (by rw [hl] at hj; exact hj))⟩
            · by_cases c : j < ps.length
              · rw [List.getElem?_append_left c] at hj
                exact ((dj j y hj).other dw (by omega)).mono (by rw [hl]; omega)
              · have hjl := (List.getElem?_eq_some_iff.1 hj).1
                rw [hl] at hjl
                obtain rfl : j = ps.length := by omega
                rw [List.getElem?_append_right (Nat.le_refl _), Nat.sub_self, List.getElem?_cons_zero] at hj
                cases Option.some.inj hj
                exact (dk.anew dw ok4).mono (by rw [hl]; omega)
            · rw [hl]
              exact (dn.other dw (by omega)).mono (Nat.le_refl _)
            · have : s4.a = (s.alloc 2).a := dw.a
              rw [this, a5, hl]
            · have h1 := dw.pop
              rw [enc_len ok4, dk.size, hl] at *
              simp at h1
              have h9 : needN 9 = 1 := rfl
              have h0 : needN 0 = 0 := rfl
              rw [h9, h0] at h1
              omega
            · rcases List.mem_append.1 hx with q | q
              · exact C.nm x q
              · rw [List.mem_singleton.1 q]; exact cn
          have x4 := (k4 1 (by omega) (by omega) (by omega)).trans x3
          have t4 := (k4 0 (by omega) (by omega) (by omega)).trans t3
          have lps : ((ps.length + 1 : Nat) : Int) = (((ps ++ [nm]).length : Nat) : Int) := by rw [List.length_append, List.length_singleton]
          have one : parts ((P ++ [47]) ++ nm) = ps ++ [nm] := by
            rw [List.append_assoc, ← hP]
            exact parts_name P cn.1 cn.2.1
          have two : parts (((P ++ [47]) ++ [47]) ++ nm) = ps ++ [nm] := by
            rw [List.append_assoc (P ++ [47]), ← hP, ← parts_slash P]
            exact parts_name (P ++ [47]) cn.1 cn.2.1
          have j1 : P.length + ([47] : List UInt8).length ≤ 1000 := by simp only [List.length_singleton]; omega
          have j2 : (P ++ [47]).length + ([47] : List UInt8).length ≤ 1000 := by simp only [List.length_append, List.length_singleton]; omega
          have j3 : (P ++ [47]).length + nm.length ≤ 1000 := by simp only [List.length_append, List.length_singleton]; omega
          have j4 : (P ++ [47] ++ [47]).length + nm.length ≤ 1000 := by simp only [List.length_append, List.length_singleton]; omega
          by_cases g1 : (0 : Int) < S
          · by_cases g2 : S.tmod 3 = (i : Int).tmod 3
            · simp (disch := (first | omega | rfl | (simp only [Yn]; omega))) only [↓reduceIte, reduceCtorEq, Za, Zb, Zc, Zd, Ze, Zf, Zg, Zh, Zi, Zj, Zk, Zl, Zm, Zn, Zo, Zp, Zq, Zr, Zs, Zt, Zu, Zv, gval, Zw, rb0, rb1, rb2, rb3, rb4, tf0, tf1, tf2, tf3, tf4, Yk, Yh, overL_one, if_pos, stX_exactN, e0, e1, e9, e10, d1, d2, d3, x4, hs, hlt, Nat.mul_one, Nat.zero_add, str_add _ _ _ j1, str_add _ _ _ j2, str_add _ _ _ j3, str_add _ _ _ j4, s47, g1, g2, effBin_rem, wi]
              refine hQn _ _ _ (by omega) ⟨i + 1, s4, ps ++ [nm], _, rfl, by omega, by simp only [Za, Zw, Ye, e0], by simp only [Za, Zw, Ye, e1], by simp only [Za, Zw, Ye, e5], by rw [← lps]; simp only [Za, Zw, Ye], by simp only [Za, Zw, Ye], by simp only [Za, Zw, Ye], by rw [List.length_append, List.length_singleton]; omega, two, ?_, C4, f4, x4, t4, by omega⟩
              simp only [List.length_append, List.length_singleton]; omega
            · simp (disch := (first | omega | rfl | (simp only [Yn]; omega))) only [↓reduceIte, reduceCtorEq, Za, Zb, Zc, Zd, Ze, Zf, Zg, Zh, Zi, Zj, Zk, Zl, Zm, Zn, Zo, Zp, Zq, Zr, Zs, Zt, Zu, Zv, gval, Zw, rb0, rb1, rb2, rb3, rb4, tf0, tf1, tf2, tf3, tf4, Yk, Yh, overL_one, if_pos, stX_exactN, e0, e1, e9, e10, d1, d2, d3, x4, hs, hlt, Nat.mul_one, Nat.zero_add, str_add _ _ _ j1, str_add _ _ _ j2, str_add _ _ _ j3, str_add _ _ _ j4, s47, g1, g2, effBin_rem, wi]
              refine hQn _ _ _ (by omega) ⟨i + 1, s4, ps ++ [nm], _, rfl, by omega, by simp only [Za, Zw, Ye, e0], by simp only [Za, Zw, Ye, e1], by simp only [Za, Zw, Ye, e5], by rw [← lps]; simp only [Za, Zw, Ye], by simp only [Za, Zw, Ye], by simp only [Za, Zw, Ye], by rw [List.length_append, List.length_singleton]; omega, one, ?_, C4, f4, x4, t4, by omega⟩
              simp only [List.length_append, List.length_singleton]; omega
          · simp (disch := (first | omega | rfl | (simp only [Yn]; omega))) only [↓reduceIte, reduceCtorEq, Za, Zb, Zc, Zd, Ze, Zf, Zg, Zh, Zi, Zj, Zk, Zl, Zm, Zn, Zo, Zp, Zq, Zr, Zs, Zt, Zu, Zv, gval, Zw, rb0, rb1, rb2, rb3, rb4, tf0, tf1, tf2, tf3, tf4, Yk, Yh, overL_one, if_pos, stX_exactN, e0, e1, e9, e10, d1, d2, d3, x4, hs, hlt, Nat.mul_one, Nat.zero_add, str_add _ _ _ j1, str_add _ _ _ j2, str_add _ _ _ j3, str_add _ _ _ j4, s47, g1, wi, runG_undef]
            refine hQn _ _ _ (by omega) ⟨i + 1, s4, ps ++ [nm], _, rfl, by omega, by simp only [Za, Zw, Ye, e0], by simp only [Za, Zw, Ye, e1], by simp only [Za, Zw, Ye, e5], by rw [← lps]; simp only [Za, Zw, Ye], by simp only [Za, Zw, Ye], by simp only [Za, Zw, Ye], by rw [List.length_append, List.length_singleton]; omega, one, ?_, C4, f4, x4, t4, by omega⟩
            simp only [List.length_append, List.length_singleton]; omega
    · by_cases d1 : (i : Int) < (L1.length : Int)
      · have d2 : ¬ (i : Int) < 4 := by omega
        simp only [↓reduceIte, reduceCtorEq, Za, Zb, Zc, Zd, Ze, Zf, Zg, Zh, Zi, Zj, Zk, Zl, Zm, Zn, Zo, Zp, Zq, Zr, Zs, Zt, Zu, Zv, gval, Zw, rb0, rb1, rb2, rb3, rb4, tf0, tf1, tf2, tf3, tf4, Yk, e0, e10, d1, d2]
        exact hQx _ _ _ (by simp) ⟨rfl, s, ps, P, by simp only [Za, Zw, Ye, e5], by simp only [Za, Zw, Ye, e8], by simp only [Za, Zw, Ye, e9], hP, by omega, C, f2, t2, n2⟩
      · simp only [↓reduceIte, reduceCtorEq, Za, Zb, Zc, Zd, Ze, Zf, Zg, Zh, Zi, Zj, Zk, Zl, Zm, Zn, Zo, Zp, Zq, Zr, Zs, Zt, Zu, Zv, gval, Zw, rb0, rb1, rb2, rb3, rb4, tf0, tf1, tf2, tf3, tf4, Yk, e0, e10, d1]
        exact hQx _ _ _ (by simp) ⟨rfl, s, ps, P, by simp only [Za, Zw, Ye, e5], by simp only [Za, Zw, Ye, e8], by simp only [Za, Zw, Ye, e9], hP, by omega, C, f2, t2, n2⟩
  · exact ⟨0, _, [], [], rfl, by omega, by simp only [Za, Zw, Ye], by simp only [Za, Zw, Ye], by simp only [Za, Zw, Ye], by simp only [Za, Zw, Ye]; rfl, by simp only [Za, Zw, Ye], by simp only [Za, Zw, Ye], Nat.le_refl _, rfl, by simp, C1, f1, x1, t1, n1⟩
  · rintro ex e h2 - ⟨rfl, s, ps, P, e5, e8, e9, hP, hPl, C, f2, t2, n2⟩
    by_cases c1 : P = []
    · have cx : decide (P = []) = true := by simp [c1]
      simp only [↓reduceIte, reduceCtorEq, Za, Zb, Zc, Zd, Ze, Zf, Zg, Zh, Zi, Zj, Zk, Zl, Zm, Zn, Zo, Zp, Zq, Zr, Zs, Zt, Zu, Zv, gval, Zw, rb0, rb1, rb2, rb3, rb4, tf0, tf1, tf2, tf3, tf4, Yk, e9, s0, str_eqG, cx]
      refine runC_of (aw16_wf t2 ?_)
      simp only [↓reduceIte, reduceCtorEq, Za, Zb, Zc, Zd, Ze, Zf, Zg, Zh, Zi, Zj, Zk, Zl, Zm, Zn, Zo, Zp, Zq, Zr, Zs, Zt, Zu, Zv, gval, Zw, rb0, rb1, rb2, rb3, rb4, tf0, tf1, tf2, tf3, tf4, Yk]
      exact hR _
    have cx : decide (P = []) = false := by simp [c1]
    by_cases c2 : 32 < P.length
    · have c2' : (32 : Int) < (P.length : Int) := by omega
      simp only [↓reduceIte, reduceCtorEq, Za, Zb, Zc, Zd, Ze, Zf, Zg, Zh, Zi, Zj, Zk, Zl, Zm, Zn, Zo, Zp, Zq, Zr, Zs, Zt, Zu, Zv, gval, Zw, rb0, rb1, rb2, rb3, rb4, tf0, tf1, tf2, tf3, tf4, Yk, e9, s0, str_eqG, cx, mkS_size, c2']
      refine runC_of (aw16_wf t2 ?_)
      simp only [↓reduceIte, reduceCtorEq, Za, Zb, Zc, Zd, Ze, Zf, Zg, Zh, Zi, Zj, Zk, Zl, Zm, Zn, Zo, Zp, Zq, Zr, Zs, Zt, Zu, Zv, gval, Zw, rb0, rb1, rb2, rb3, rb4, tf0, tf1, tf2, tf3, tf4, Yk]
      exact hR _
    have c2' : ¬ (32 : Int) < (P.length : Int) := by omega
    have hE : splE P = 0 := by unfold splE; rw [if_neg c1, if_neg c2, hP]; exact errL_nm C.nm
    have hLL : splL P = ps := by unfold splL; rw [if_pos hE, hP]
    have hw : walkP (chE ps) P = (ps.length, 0) := by
      unfold walkP
      rw [if_pos hE, hLL]
      exact walk_ch _ 0 rfl (by omega)
    simp only [↓reduceIte, reduceCtorEq, Za, Zb, Zc, Zd, Ze, Zf, Zg, Zh, Zi, Zj, Zk, Zl, Zm, Zn, Zo, Zp, Zq, Zr, Zs, Zt, Zu, Zv, gval, Zw, rb0, rb1, rb2, rb3, rb4, tf0, tf1, tf2, tf3, tf4, Yk, e5, e9, s0, str_eqG, cx, mkS_size, c2', ifc23]
    refine runC_of (walk28_wf f2 C.I (C.ent) (fun k hk hk32 => ?_) fun h3 f3 n3 k3 => ?_)
    · have : s.ino k 0 = 0 := C.fr k (by
        unfold chE at hk
        split at hk
        · cases hk
        · rename_i e
          split at hk
          · cases hk
          · have := List.getElem?_eq_none_iff.1 e; omega)
      rw [this]; decide
    · rw [hw]
      simp only [↓reduceIte, reduceCtorEq, Za, Zb, Zc, Zd, Ze, Zf, Zg, Zh, Zi, Zj, Zk, Zl, Zm, Zn, Zo, Zp, Zq, Zr, Zs, Zt, Zu, Zv, gval, Zw, rb0, rb1, rb2, rb3, rb4, tf0, tf1, tf2, tf3, tf4, Yk, e8]
      refine runC_of (aw16_wf ((k3 0 (by omega) (by omega)).trans t2) ?_)
      simp only [↓reduceIte, reduceCtorEq, Za, Zb, Zc, Zd, Ze, Zf, Zg, Zh, Zi, Zj, Zk, Zl, Zm, Zn, Zo, Zp, Zq, Zr, Zs, Zt, Zu, Zv, gval, Zw, rb0, rb1, rb2, rb3, rb4, tf0, tf1, tf2, tf3, tf4, Yk]
      exact hR _
end Go.Proofs.YtmadjdgipfdnkaaDoor
end
section
/- Closed facts of this seat's program, each by itself. -/
namespace Go.Proofs.YtmadjdgipfdnkaaDoor
open Go.ChangeShapes Go.WideShapes Go.ChangeAt Go.RowKit
theorem Tryd.laidOut : laidOutB Tryd.prog = true := by kernel_rfl
theorem Tryd.mapsRowed : mapsRowed Tryd.prog = true := by kernel_rfl
theorem Tryd.plainKeys : (Rows.inodePutsRow.plainKeys == Tryd.prog.plainKeys) = true := by kernel_rfl
theorem Tryd.stopsHeard : Tryd.prog.stopsHeard = true := by kernel_rfl
theorem Tryd.mayEnter : Tryd.prog.mayEnter = true := by kernel_rfl
theorem Tryd.lifted : (Rows.inodePutsRow.lifted == Tryd.prog.liftsFinal) = true := by kernel_rfl
theorem Tryd.make : (Tryd.prog.make == some Rows.inodePutsRow.make) = true := by kernel_rfl
theorem Tryd.looks : false = Tryd.prog.looks [] := by kernel_rfl
end Go.Proofs.YtmadjdgipfdnkaaDoor
end
section
/- DirPaths: whatever the names and the number, the law gives true. (Its card: the table of math/bits is as the program's text lays it.) -/
namespace Go.Proofs.YtmadjdgipfdnkaaDoor
open Go.ChangeShapes Go.WideShapes Go.ChangeAt Go.RowKit Go.AM
set_option maxRecDepth 100000 in
theorem dirPaths_calls {H : Type} {enc : TypeId × Value → H} {W : World} {base : Nat} {v0 v1 : Value} {d0 d1 : DataW H} {p0 p1 : List MemPlace} (h0 : Value.okWide Tryd.prog W .any base 56 v0) (t0 : DataW.Trod enc Tryd.prog W 0 (fun _ => true) true 56 v0 d0 p0) (h1 : Value.okWide Tryd.prog W .any base 3 v1) (_t1 : DataW.Trod enc Tryd.prog W 0 (fun _ => true) true 3 v1 d1 p1) (hL : laidMetH Tryd.prog Rows.dirPathsRow.laid W) :
    Calls Tryd.prog 9 #[v0, v1] W fun e W' => e = .returned (.bool true) ∧ Still W W' := by
  obtain ⟨tc, el, fr, w1, w2, w3⟩ := tab_laid hL
  have hc0 : v0.cells.toList = [v0] := by
    obtain ⟨a, n, c, rfl⟩ := okWide_slice (e := 9) (by kernel_rfl) h0
    rfl
  obtain ⟨i, rfl, _⟩ := val_int (u := 3) (k := .i64) (by kernel_rfl) h1
  obtain ⟨fuel, t0⟩ := t0
  rw [hc0] at t0
  obtain ⟨v, a, l, c, s, x, z1, z2, zl, z3, z4, z5, z6⟩ := strs_block 1 (e := 9) (by kernel_rfl) (by kernel_rfl) (by kernel_rfl) t0
  cases z1
  exact doorX_wf sp16_ok (args := [.slice a l.length c, .int .i64 i]) (args' := [_, _]) (X := x) (s := s) w1 w2 w3 z5 z6 (paths_walk (X := x) ⟨a, c, rfl, z3⟩ zl fun _ => rfl) (.cons _ _ _ _ (z4 _ rfl) (.cons _ _ _ _ (.int _ _) .nil))

set_option maxRecDepth 100000 in
theorem dirPaths_lifted (os : Os) (started : os.Started) (H : Type) (enc : TypeId × Value → H) :
    ReturnsInHanded {} Tryd.checked os 9 .any (fun w args => (Rows.dirPathsSpec.pre enc Tryd.prog Tryd.f9 Rows.dirPathsRow.domain false w args ∧ laidMetH Tryd.prog Rows.dirPathsRow.laid w) ∧ sizedMet enc Tryd.prog Tryd.f9 (OpenSpec.ofChange Rows.dirPathsSpec) false w args)
      (Rows.dirPathsSpec.post enc Tryd.prog Tryd.f9 false true false false) := by
  refine returnsInHanded_of_change_and (C := Tryd.checked) (X := fun w _ => laidMetH Tryd.prog Rows.dirPathsRow.laid w) (fun _ _ _ hh h => h.of_heap hh) Tryd.own started (by kernel_rfl) Tryd.func9
    (ChangeSpec.witness_shaped (enc := enc) (C := Tryd.checked) (os := os) (X := fun w _ => laidMetH Tryd.prog Rows.dirPathsRow.laid w) false (World.laidAll Tryd.prog os Rows.dirPathsRow.laid) #[.slice none 0 0, .int .i64 0] 8 (World.laidAll_os _ _ _)
      (World.shaped_of_ZipB (by kernel_rfl) (by kernel_rfl)) (by kernel_rfl) (by kernel_rfl) (by kernel_rfl)
      (by rw [MakeChecks.laidMetH_plain _ _ _ (by kernel_rfl)]; exact laidMet_laidAll _ (by kernel_rfl) (by kernel_rfl))) ?_
  intro W base args ds gs before hval0 hW hcnd _ hL _
  have hval : ∀ (j : Nat) t v, Tryd.f9.params[j]? = some t → args[j]? = some v → Value.okWide Tryd.prog W .any base t v := hval0
  have hW' := hW
  obtain ⟨p, q, hA0, hV, rfl, hfz, hnd⟩ := hW
  have hA1 : DataW.TrodAll enc Tryd.prog W 0 (fun _ => true) true Tryd.f9.params.toList args.toList ds p := hA0
  have hA := hA1
  rw [Tryd.params9] at hA hval
  obtain ⟨v0, v1, d0, d1, p0, p1, rfl, rfl, rfl, h0, h1⟩ := trodAll_two hA
  obtain ⟨rfl, rfl⟩ := trodVars_none hV
  refine (dirPaths_calls (hval 0 56 v0 rfl rfl) h0 (hval 1 3 v1 rfl rfl) h1 hL).mono fun e W' ⟨he, hw⟩ => ?_
  subst he
  simp only [List.append_nil] at hW' ⊢
  exact ⟨_, rfl, post_true (bt := 4) Tryd.kids Tryd.full (by rw [Tryd.params9]; decide) (by kernel_rfl) (by kernel_rfl) rfl rfl hW' hA1 rfl rfl rfl hw⟩

end Go.Proofs.YtmadjdgipfdnkaaDoor
end
section
/- DirPaths: whatever the names and the number, the law gives true. (Its card: the table of math/bits is as the program's text lays it.) -/
namespace Go.Proofs.YtmadjdgipfdnkaaDoor
open Go.ChangeShapes Go.WideShapes Go.ChangeAt Go.RowKit Go.AM
theorem dirPaths_inPlace : (Rows.dirPathsRow.inPlace == Tryd.prog.inPlace 9) = true := by kernel_rfl
theorem dirPaths_unfollowed : (Rows.dirPathsRow.unfollowed == Tryd.prog.unfollowed 9) = true := by kernel_rfl
theorem dirPaths_recurses : (Rows.dirPathsRow.recurses == Tryd.prog.recurses 9) = true := by kernel_rfl
theorem dirPaths_named : (Rows.dirPathsRow.named == Tryd.prog.varsNamed 9) = true := by kernel_rfl
theorem dirPaths_joined : joinedFacts Tryd.prog 9 Tryd.f9 Rows.dirPathsSpec Rows.dirPathsRow = true := by
  simp only [joinedFacts, Bool.and_eq_true]
  exact ⟨⟨⟨⟨⟨⟨⟨⟨⟨⟨⟨⟨⟨⟨⟨⟨⟨⟨⟨⟨⟨⟨⟨⟨⟨⟨⟨⟨⟨⟨⟨by kernel_rfl, Tryd.laidOut⟩, Tryd.mapsRowed⟩, by kernel_rfl⟩, by kernel_rfl⟩, by kernel_rfl⟩, by kernel_rfl⟩, by kernel_rfl⟩, by kernel_rfl⟩, dirPaths_inPlace⟩, dirPaths_unfollowed⟩, dirPaths_recurses⟩, dirPaths_named⟩, by kernel_rfl⟩, by kernel_rfl⟩, by kernel_rfl⟩, by kernel_rfl⟩, by kernel_rfl⟩, by kernel_rfl⟩, by kernel_rfl⟩, by kernel_rfl⟩, by kernel_rfl⟩, Tryd.plainKeys⟩, by kernel_rfl⟩, Tryd.stopsHeard⟩, Tryd.mayEnter⟩, Tryd.lifted⟩, Tryd.make⟩, by kernel_rfl⟩, by kernel_rfl⟩, by kernel_rfl⟩, by kernel_rfl⟩
theorem dirPaths_holds : Rows.DirPathsSaid :=
  OpenClaim.holds_of_wide 9 Tryd.f9 rfl rfl rfl rfl rfl rfl rfl ⟨rfl, rfl, rfl, rfl, rfl⟩ rfl rfl rfl rfl rfl (by kernel_rfl) Tryd.func9 dirPaths_joined
    (of_decide_eq_true (by kernel_rfl)) (by unfold Func.isWrapper; first | (rw [if_pos (by decide +kernel)]; kernel_rfl) | (rw [if_neg (by decide +kernel)]; exact ⟨rfl, rfl⟩))
    (fun os started H enc _ => dirPaths_lifted os started H enc)
end Go.Proofs.YtmadjdgipfdnkaaDoor
end
