/- Lemmas of the claim: the machine of the proof and the walks of the program. Conditions: as each says. -/
import Derived.Test.YtkkdpbicppdglaaGreatDoorG5
import Derived.Test.YtkkdpbicppdglaaGreatDoorG6
import Derived.Test.YtkkdpbicppdglaaGreatDoorG3
import Derived.Test.YtkkdpbicppdglaaGreatDoorG4
import Derived.Test.YtkkdpbicppdglaaGreatDoorRows
import Derived.Test.YtkkdpbicppdglaaGreatDoorCards
import Derived.Test.YtkkdpbicppdglaaGreatDoorTie
import Derived.ProofKit
import GoSem.ClaimSeven
section
/- TransBounds: the law's own steps. No condition. -/
namespace Go.Proofs.YtkkdpbicppdglaaGreatDoor
open Go.AM
open Nat renaming reduceBEq → Za, reduceEqDiff → Zb, reduceAdd → Zc, reduceSub → Zd, reduceMul → Ze, reduceLT → Zf, reduceLeDiff → Zg, reduceDiv → Zh, reduceMod → Zi, reducePow → Zj
open Int renaming reduceAdd → Zk, reduceSub → Zl, reduceMul → Zm, reduceLT → Zn, reduceLE → Zo, reduceEq → Zp, reduceNe → Zq, reduceNeg → Zr, reduceToNat → Zs, reduceDiv → Zt, reduceMod → Zu, reducePow → Zv, cast_ofNat_Int → Zw
set_option linter.unusedSimpArgs false
variable {h : Heap} {R : Out → Heap → Prop}
noncomputable abbrev spT : Special := oneSpec 21 (trueF 1 .u8 tab)
theorem spT_ok : SpecOk Tryz.prog (1 + 1) spT := oneSpec_ok fun cl _ => trueF_ok clP_ok aw28 cl
theorem aw28_wf (ht : h.get 1 = some (tabBlk .u8 tab)) (hR : R (.ret (.bool true)) h) : WF Tryz.prog 2 spT 21 [] h R := by
  refine ⟨.ret (.bool true), h, ⟨1, fun fu d h1 h2 => ?_⟩, hR⟩
  obtain ⟨d, rfl⟩ : ∃ k, d = k + 1 := ⟨d - 1, by omega⟩
  show cond (beqB (h.get 1) (some (tabBlk .u8 tab))) (some (Out.ret (.bool true), h)) none = _
  rw [ht]
  have : beqB (some (tabBlk .u8 tab)) (some (tabBlk .u8 tab)) = true := by kernel_rfl
  rw [this]; rfl
def cutI (n : Int) : Int := if 0 < if 1048576 < n then 1048576 else n then if 1048576 < n then 1048576 else n else 0
set_option maxRecDepth 100000 in
theorem cutI_wf {n : Int} (hR : R (.ret (.int .i64 (cutI n))) h) : WF Tryz.prog 2 spT 52 [.int .i64 n] h R := by
  refine wf_fn (fn := Tryz.f52) rfl rfl (by kernel_rfl) rfl ?_
  simp only [↓reduceIte, reduceCtorEq, Za, Zb, Zc, Zd, Ze, Zf, Zg, Zh, Zi, Zj, Zk, Zl, Zm, Zn, Zo, Zp, Zq, Zr, Zs, Zt, Zu, Zv, gval, Zw, rb0, rb1, rb2, rb3, rb4, tf0, tf1, Yk, Tryz.f52]
  exact hR
def bndI (a b c : Int) : Int := wrapF .i64 (cutI a * wrapF .i64 (wrapF .i64 (wrapF .i64 (16 * cutI b) + 64) + cutI c))
set_option maxRecDepth 100000 in
theorem bound_wf {a b c : Int} (hR : R (.ret (.int .i64 (bndI a b c))) h) : WF Tryz.prog 2 spT 17 [.int .i64 a, .int .i64 b, .int .i64 c] h R := by
  refine wf_fn (fn := Tryz.f17) rfl rfl (by kernel_rfl) rfl ?_
  simp only [↓reduceIte, reduceCtorEq, Za, Zb, Zc, Zd, Ze, Zf, Zg, Zh, Zi, Zj, Zk, Zl, Zm, Zn, Zo, Zp, Zq, Zr, Zs, Zt, Zu, Zv, gval, Zw, rb0, rb1, rb2, rb3, rb4, tf0, tf1, Yk, Tryz.f17]
  refine runC_of (cutI_wf ?_)
  simp only [↓reduceIte, reduceCtorEq, Za, Zb, Zc, Zd, Ze, Zf, Zg, Zh, Zi, Zj, Zk, Zl, Zm, Zn, Zo, Zp, Zq, Zr, Zs, Zt, Zu, Zv, gval, Zw, rb0, rb1, rb2, rb3, rb4, tf0, tf1, Yk]
  refine runC_of (cutI_wf ?_)
  simp only [↓reduceIte, reduceCtorEq, Za, Zb, Zc, Zd, Ze, Zf, Zg, Zh, Zi, Zj, Zk, Zl, Zm, Zn, Zo, Zp, Zq, Zr, Zs, Zt, Zu, Zv, gval, Zw, rb0, rb1, rb2, rb3, rb4, tf0, tf1, Yk]
  refine runC_of (cutI_wf ?_)
  simp only [↓reduceIte, reduceCtorEq, Za, Zb, Zc, Zd, Ze, Zf, Zg, Zh, Zi, Zj, Zk, Zl, Zm, Zn, Zo, Zp, Zq, Zr, Zs, Zt, Zu, Zv, gval, Zw, rb0, rb1, rb2, rb3, rb4, tf0, tf1, Yk]
  exact hR
set_option maxRecDepth 100000 in
theorem rbound_wf {a b c : Int} (hR : R (.ret (.int .i64 (bndI a b c))) h) : WF Tryz.prog 2 spT 18 [.int .i64 a, .int .i64 b, .int .i64 c] h R := by
  refine wf_fn (fn := Tryz.f18) rfl rfl (by kernel_rfl) rfl ?_
  simp only [↓reduceIte, reduceCtorEq, Za, Zb, Zc, Zd, Ze, Zf, Zg, Zh, Zi, Zj, Zk, Zl, Zm, Zn, Zo, Zp, Zq, Zr, Zs, Zt, Zu, Zv, gval, Zw, rb0, rb1, rb2, rb3, rb4, tf0, tf1, Yk, Tryz.f18]
  exact hR
def roomyB (a b : Int) : Bool := decide (128 ≤ a ∧ 205 ≤ b)
def cfgC (a b : Int) : List Value := [.int .i64 a, .int .i64 b, .chan none, .chan none]
set_option maxRecDepth 100000 in
theorem roomy_wf {a b : Int} {v : Value} (hR : R (.ret (.bool (roomyB a b))) (h.new (cellsB (cfgC a b) .exact))) : WF Tryz.prog 2 spT 19 [.agg (cfgC a b).toArray, v] h R := by
  refine wf_fn (fn := Tryz.f19) rfl rfl (by kernel_rfl) rfl ?_
  unfold cfgC roomyB at *
  by_cases c1 : (128 : Int) ≤ a
  · by_cases c2 : (205 : Int) ≤ b
    · rw [decide_eq_true ⟨c1, c2⟩] at hR
      simp (disch := (first | omega | rfl | (simp only [Yn]; omega))) only [↓reduceIte, reduceCtorEq, Za, Zb, Zc, Zd, Ze, Zf, Zg, Zh, Zi, Zj, Zk, Zl, Zm, Zn, Zo, Zp, Zq, Zr, Zs, Zt, Zu, Zv, gval, Zw, rb0, rb1, rb2, rb3, rb4, tf0, tf1, Yk, Yh, overL_one, if_pos, stX_exactN, Tryz.f19, c1, c2]
      exact hR
    · rw [decide_eq_false fun q => c2 q.2] at hR
      simp (disch := (first | omega | rfl | (simp only [Yn]; omega))) only [↓reduceIte, reduceCtorEq, Za, Zb, Zc, Zd, Ze, Zf, Zg, Zh, Zi, Zj, Zk, Zl, Zm, Zn, Zo, Zp, Zq, Zr, Zs, Zt, Zu, Zv, gval, Zw, rb0, rb1, rb2, rb3, rb4, tf0, tf1, Yk, Yh, overL_one, if_pos, stX_exactN, Tryz.f19, c1, c2]
      exact hR
  · rw [decide_eq_false fun q => c1 q.1] at hR
    simp (disch := (first | omega | rfl | (simp only [Yn]; omega))) only [↓reduceIte, reduceCtorEq, Za, Zb, Zc, Zd, Ze, Zf, Zg, Zh, Zi, Zj, Zk, Zl, Zm, Zn, Zo, Zp, Zq, Zr, Zs, Zt, Zu, Zv, gval, Zw, rb0, rb1, rb2, rb3, rb4, tf0, tf1, Yk, Yh, overL_one, if_pos, stX_exactN, Tryz.f19, c1, runG_undef]
    exact hR
set_option maxRecDepth 100000 in
theorem rroomy_wf {a b : Int} (hR : R (.ret (.bool (roomyB a b))) (h.new (cellsB (cfgC a b) .exact))) : WF Tryz.prog 2 spT 20 [.agg (cfgC a b).toArray] h R := by
  refine wf_fn (fn := Tryz.f20) rfl rfl (by kernel_rfl) rfl ?_
  unfold cfgC roomyB at *
  by_cases c1 : (128 : Int) ≤ a
  · by_cases c2 : (205 : Int) ≤ b
    · rw [decide_eq_true ⟨c1, c2⟩] at hR
      simp (disch := (first | omega | rfl | (simp only [Yn]; omega))) only [↓reduceIte, reduceCtorEq, Za, Zb, Zc, Zd, Ze, Zf, Zg, Zh, Zi, Zj, Zk, Zl, Zm, Zn, Zo, Zp, Zq, Zr, Zs, Zt, Zu, Zv, gval, Zw, rb0, rb1, rb2, rb3, rb4, tf0, tf1, Yk, Yh, overL_one, if_pos, stX_exactN, Tryz.f20, c1, c2]
      exact hR
    · rw [decide_eq_false fun q => c2 q.2] at hR
      simp (disch := (first | omega | rfl | (simp only [Yn]; omega))) only [↓reduceIte, reduceCtorEq, Za, Zb, Zc, Zd, Ze, Zf, Zg, Zh, Zi, Zj, Zk, Zl, Zm, Zn, Zo, Zp, Zq, Zr, Zs, Zt, Zu, Zv, gval, Zw, rb0, rb1, rb2, rb3, rb4, tf0, tf1, Yk, Yh, overL_one, if_pos, stX_exactN, Tryz.f20, c1, c2]
      exact hR
  · rw [decide_eq_false fun q => c1 q.1] at hR
    simp (disch := (first | omega | rfl | (simp only [Yn]; omega))) only [↓reduceIte, reduceCtorEq, Za, Zb, Zc, Zd, Ze, Zf, Zg, Zh, Zi, Zj, Zk, Zl, Zm, Zn, Zo, Zp, Zq, Zr, Zs, Zt, Zu, Zv, gval, Zw, rb0, rb1, rb2, rb3, rb4, tf0, tf1, Yk, Yh, overL_one, if_pos, stX_exactN, Tryz.f20, c1, runG_undef]
    exact hR
set_option maxRecDepth 100000 in
theorem bounds_walk (ht : h.get 1 = some (tabBlk .u8 tab)) (hn : 2 ≤ h.nx) {a b c F B : Int} (hR : ∀ h, R (.ret (.bool true)) h) : WF Tryz.prog 2 spT 5 [.agg #[.int .i64 a, .int .i64 b, .int .i64 c], .agg (cfgC F B).toArray] h R := by
  refine wf_fn (fn := Tryz.f5) rfl rfl (by kernel_rfl) rfl ?_
  unfold cfgC
  simp (disch := (first | omega | rfl | (simp only [Yn]; omega))) only [↓reduceIte, reduceCtorEq, Za, Zb, Zc, Zd, Ze, Zf, Zg, Zh, Zi, Zj, Zk, Zl, Zm, Zn, Zo, Zp, Zq, Zr, Zs, Zt, Zu, Zv, gval, Zw, rb0, rb1, rb2, rb3, rb4, tf0, tf1, Yk, Yh, overL_one, if_pos, stX_exactN, Tryz.f5]
  refine run_draw (ps := [(6, 8), (6, 10), (6, 12), (17, 18)]) (by kernel_rfl) (by kernel_rfl) ?_
  simp (disch := (first | omega | rfl | (simp only [Yn]; omega))) only [↓reduceIte, reduceCtorEq, Za, Zb, Zc, Zd, Ze, Zf, Zg, Zh, Zi, Zj, Zk, Zl, Zm, Zn, Zo, Zp, Zq, Zr, Zs, Zt, Zu, Zv, gval, Zw, rb0, rb1, rb2, rb3, rb4, tf0, tf1, Yk, Yh, overL_one, if_pos, stX_exactN]
  refine runCR_of (bound_wf ?_)
  simp (disch := (first | omega | rfl | (simp only [Yn]; omega))) only [↓reduceIte, reduceCtorEq, Za, Zb, Zc, Zd, Ze, Zf, Zg, Zh, Zi, Zj, Zk, Zl, Zm, Zn, Zo, Zp, Zq, Zr, Zs, Zt, Zu, Zv, gval, Zw, rb0, rb1, rb2, rb3, rb4, tf0, tf1, Yk, Yh, overL_one, if_pos, stX_exactN]
  refine runCR_of (rbound_wf ?_)
  simp (disch := (first | omega | rfl | (simp only [Yn]; omega))) only [↓reduceIte, reduceCtorEq, Za, Zb, Zc, Zd, Ze, Zf, Zg, Zh, Zi, Zj, Zk, Zl, Zm, Zn, Zo, Zp, Zq, Zr, Zs, Zt, Zu, Zv, gval, Zw, rb0, rb1, rb2, rb3, rb4, tf0, tf1, Yk, Yh, overL_one, if_pos, stX_exactN, decide_true]
  refine runCR_of (roomy_wf ?_)
  simp (disch := (first | omega | rfl | (simp only [Yn]; omega))) only [↓reduceIte, reduceCtorEq, Za, Zb, Zc, Zd, Ze, Zf, Zg, Zh, Zi, Zj, Zk, Zl, Zm, Zn, Zo, Zp, Zq, Zr, Zs, Zt, Zu, Zv, gval, Zw, rb0, rb1, rb2, rb3, rb4, tf0, tf1, Yk, Yh, overL_one, if_pos, stX_exactN, decide_true]
  refine runCR_of (rroomy_wf ?_)
  obtain ⟨q, hq⟩ : ∃ q, roomyB F B = q := ⟨_, rfl⟩
  rw [hq]
  have h1 : ∀ {X Y Z U : Blk}, ((((h.new X).new Y).new Z).new U).get 1 = some (tabBlk .u8 tab) := fun {X Y Z U} => by
    rw [Heap.get_new_ne _ _ (by simp only [Heap.nx_new]; omega), Heap.get_new_ne _ _ (by simp only [Heap.nx_new]; omega), Heap.get_new_ne _ _ (by simp only [Heap.nx_new]; omega), Heap.get_new_ne _ _ (by omega), ht]
  cases q
  · simp (disch := (first | omega | rfl | (simp only [Yn]; omega))) only [↓reduceIte, reduceCtorEq, Za, Zb, Zc, Zd, Ze, Zf, Zg, Zh, Zi, Zj, Zk, Zl, Zm, Zn, Zo, Zp, Zq, Zr, Zs, Zt, Zu, Zv, gval, Zw, rb0, rb1, rb2, rb3, rb4, tf0, tf1, Yk, Yh, overL_one, if_pos, stX_exactN, show (false == false) = true from rfl]
    refine runCR_of (aw28_wf h1 ?_)
    simp (disch := (first | omega | rfl | (simp only [Yn]; omega))) only [↓reduceIte, reduceCtorEq, Za, Zb, Zc, Zd, Ze, Zf, Zg, Zh, Zi, Zj, Zk, Zl, Zm, Zn, Zo, Zp, Zq, Zr, Zs, Zt, Zu, Zv, gval, Zw, rb0, rb1, rb2, rb3, rb4, tf0, tf1, Yk, Yh, overL_one, if_pos, stX_exactN]
    exact hR _
  · simp (disch := (first | omega | rfl | (simp only [Yn]; omega))) only [↓reduceIte, reduceCtorEq, Za, Zb, Zc, Zd, Ze, Zf, Zg, Zh, Zi, Zj, Zk, Zl, Zm, Zn, Zo, Zp, Zq, Zr, Zs, Zt, Zu, Zv, gval, Zw, rb0, rb1, rb2, rb3, rb4, tf0, tf1, Yk, Yh, overL_one, if_pos, stX_exactN, show (true == true) = true from rfl]
    refine runCR_of (aw28_wf h1 ?_)
    simp (disch := (first | omega | rfl | (simp only [Yn]; omega))) only [↓reduceIte, reduceCtorEq, Za, Zb, Zc, Zd, Ze, Zf, Zg, Zh, Zi, Zj, Zk, Zl, Zm, Zn, Zo, Zp, Zq, Zr, Zs, Zt, Zu, Zv, gval, Zw, rb0, rb1, rb2, rb3, rb4, tf0, tf1, Yk, Yh, overL_one, if_pos, stX_exactN]
    exact hR _
end Go.Proofs.YtkkdpbicppdglaaGreatDoor
end
section
/- TransBounds: whatever the numbers and the machine, the law gives true. (Its card: the table of math/bits is as the program's text lays it.) -/
namespace Go.Proofs.YtkkdpbicppdglaaGreatDoor
open Go.ChangeShapes Go.WideShapes Go.ChangeAt Go.RowKit Go.AM
theorem row_cells {P : Program} {W : World} {r : Reach} {base : Nat} {t : TypeId} {v : Value} {ts : List TypeId} (hu : (match P.underlying t with | some (.struct _) => true | some (.array _ _) => true | _ => false) = true) (hts : P.cellTypes P.depth t = some ts) (h : Value.okWide P W r base t v) :
    ∃ cs, v = .agg cs ∧ cs.size = P.cellsOf t ∧ ∀ i x, cs[i]? = some x → ∃ u, ts[i % ts.length]? = some u ∧ Cell.okWide P W r base u x := by
  unfold Value.okWide at h
  split at h
  · obtain ⟨cs, rfl, h1, ts', h2, _, h4⟩ := h
    rw [hts] at h2
    cases Option.some.inj h2
    exact ⟨cs, rfl, h1, h4⟩
  · obtain ⟨cs, rfl, h1, ts', h2, _, h4⟩ := h
    rw [hts] at h2
    cases Option.some.inj h2
    exact ⟨cs, rfl, h1, h4⟩
  · rename_i n1 n2
    split at hu
    · rename_i fs hf; exact absurd hf (n1 fs)
    · rename_i n e hf; exact absurd hf (n2 n e)
    · cases hu
set_option maxRecDepth 100000 in
theorem doorZ_wf {W : World} {f : FuncId} {args args' : List Value} {cs : Array Value} {el : TypeId} {fr : Nat × Nat} (t1 : W.heap[1]? = some (.cells cs el fr)) (t2 : cs.size = 64) (t3 : ∀ i, i < 64 → cs[i]? = (tab.map (Value.int .u8))[i]?)
    (hw : WF Tryz.prog 2 spT f args (listHeap [.dead, tabBlk .u8 tab]) fun o _ => o = .ret (.bool true)) (ha : VRels (statMp [.dead, .live ⟨1, 0, 0, 64, 64, false⟩]) args args') :
    Calls Tryz.prog f args'.toArray W fun e W' => e = .returned (.bool true) ∧ Still W W' := by
  refine wf_list (ng := 2) (by kernel_rfl) spT_ok (l := [.dead, tabBlk .u8 tab]) (st := [.dead, .live ⟨1, 0, 0, 64, 64, false⟩]) rfl (fun i st b hs hb => ?_) (fun i l b hs hb => ?_) (fun g hg => ?_) hw ha
  · match i with
    | 0 => cases hs; cases hb; trivial
    | 1 => cases hs; cases hb; exact tab_rel (bs := tab) t1 t2 t3
    | i + 2 => simp at hs
  · match i with
    | 0 => cases hs
    | 1 => cases hs; cases hb; exact ⟨rfl, rfl⟩
    | i + 2 => simp at hs
  · rcases (show g = 0 ∨ g = 1 by omega) with rfl | rfl
    · exact .inr rfl
    · exact .inl ⟨_, rfl, rfl, rfl, rfl⟩
set_option maxRecDepth 100000 in
theorem transBounds_calls {W : World} {base : Nat} {v0 v1 : Value} (h0 : Value.okWide Tryz.prog W .any base 57 v0) (h1 : Value.okWide Tryz.prog W .any base 60 v1) (hL : laidMetH Tryz.prog Rows.transBoundsRow.laid W) :
    Calls Tryz.prog 5 #[v0, v1] W fun e W' => e = .returned (.bool true) ∧ Still W W' := by
  obtain ⟨tc, el, fr, w1, w2, w3⟩ := tab_laid hL
  obtain ⟨cs, rfl, s0, k0⟩ := row_cells (ts := [3, 3, 3]) (by kernel_rfl) (by kernel_rfl) h0
  obtain ⟨ds, rfl, s1, k1⟩ := row_cells (ts := [3, 3, 58, 9]) (by kernel_rfl) (by kernel_rfl) h1
  have u3 : Tryz.prog.underlying 3 = some (.int .i64) := by kernel_rfl
  have s0 : cs.size = 3 := s0.trans (by kernel_rfl)
  have s1 : ds.size = 4 := s1.trans (by kernel_rfl)
  have ci : ∀ i, i < 3 → ∃ n : Int, cs[i]? = some (.int .i64 n) := fun i hi => by
    have hx : cs[i]? = some (cs[i]'(by omega)) := Array.getElem?_eq_getElem (by omega)
    obtain ⟨u, hu, hc⟩ := k0 i _ hx
    have : u = 3 := by
      rcases (show i = 0 ∨ i = 1 ∨ i = 2 by omega) with rfl | rfl | rfl <;> (cases hu; rfl)
    subst this
    obtain ⟨n, hn, _⟩ := cell_int u3 hc
    exact ⟨n, by rw [hx, hn]⟩
  have di : ∀ i, i < 2 → ∃ n : Int, ds[i]? = some (.int .i64 n) := fun i hi => by
    have hx : ds[i]? = some (ds[i]'(by omega)) := Array.getElem?_eq_getElem (by omega)
    obtain ⟨u, hu, hc⟩ := k1 i _ hx
    have : u = 3 := by
      rcases (show i = 0 ∨ i = 1 by omega) with rfl | rfl <;> (cases hu; rfl)
    subst this
    obtain ⟨n, hn, _⟩ := cell_int u3 hc
    exact ⟨n, by rw [hx, hn]⟩
  have da : ∀ i, i < 4 → ∃ x : Value, ds[i]? = some x ∧ x.oneCell' = true := fun i hi => by
    have hx : ds[i]? = some (ds[i]'(by omega)) := Array.getElem?_eq_getElem (by omega)
    obtain ⟨u, hu, hc⟩ := k1 i _ hx
    exact ⟨_, hx, cell_one hc⟩
  obtain ⟨a, ha⟩ := ci 0 (by omega)
  obtain ⟨b, hb⟩ := ci 1 (by omega)
  obtain ⟨c, hc⟩ := ci 2 (by omega)
  obtain ⟨F, hF⟩ := di 0 (by omega)
  obtain ⟨B, hB⟩ := di 1 (by omega)
  obtain ⟨x, hx, ox⟩ := da 2 (by omega)
  obtain ⟨y, hy, oy⟩ := da 3 (by omega)
  have ec : cs.toList = [.int .i64 a, .int .i64 b, .int .i64 c] := by
    apply List.ext_getElem?
    intro i
    rw [Array.getElem?_toList]
    match i with
    | 0 => exact ha
    | 1 => exact hb
    | 2 => exact hc
    | i + 3 => rw [Array.getElem?_eq_none (by omega)]; rfl
  have ed : ds.toList = [.int .i64 F, .int .i64 B, x, y] := by
    apply List.ext_getElem?
    intro i
    rw [Array.getElem?_toList]
    match i with
    | 0 => exact hF
    | 1 => exact hB
    | 2 => exact hx
    | 3 => exact hy
    | i + 4 => rw [Array.getElem?_eq_none (by omega)]; rfl
  refine doorZ_wf (args := [.agg #[.int .i64 a, .int .i64 b, .int .i64 c], .agg (cfgC F B).toArray]) (args' := [_, _]) w1 w2 w3 (bounds_walk (by kernel_rfl) (Nat.le_of_ble_eq_true (by kernel_rfl)) fun _ => rfl) (.cons _ _ _ _ (.agg _ _ rfl ?_) (.cons _ _ _ _ (.agg _ _ rfl ?_) .nil))
  · rw [ec]
    exact .cons _ _ _ _ (.int _ _) (.cons _ _ _ _ (.int _ _) (.cons _ _ _ _ (.int _ _) .nil))
  · rw [ed]
    exact .cons _ _ _ _ (.int _ _) (.cons _ _ _ _ (.int _ _) (.cons _ _ _ _ (.any _ ox) (.cons _ _ _ _ (.any _ oy) .nil)))

set_option maxRecDepth 100000 in
theorem transBounds_lifted (os : Os) (started : os.Started) (H : Type) (enc : TypeId × Value → H) :
    ReturnsInHanded {} Tryz.checked os 5 .any (fun w args => (Rows.transBoundsSpec.pre enc Tryz.prog Tryz.f5 Rows.transBoundsRow.domain false w args ∧ laidMetH Tryz.prog Rows.transBoundsRow.laid w) ∧ sizedMet enc Tryz.prog Tryz.f5 (OpenSpec.ofChange Rows.transBoundsSpec) false w args)
      (Rows.transBoundsSpec.post enc Tryz.prog Tryz.f5 false true false false) := by
  refine returnsInHanded_of_change_and (C := Tryz.checked) (X := fun w _ => laidMetH Tryz.prog Rows.transBoundsRow.laid w) (fun _ _ _ hh h => h.of_heap hh) Tryz.own started (by kernel_rfl) Tryz.func5
    (ChangeSpec.witness_shaped (enc := enc) (C := Tryz.checked) (os := os) (X := fun w _ => laidMetH Tryz.prog Rows.transBoundsRow.laid w) false (World.laidAll Tryz.prog os Rows.transBoundsRow.laid) #[.agg #[.int .i64 0, .int .i64 0, .int .i64 0], .agg #[.int .i64 0, .int .i64 0, .slice none 0 0, .string .empty]] 8 (World.laidAll_os _ _ _)
      (World.shaped_of_ZipB (by kernel_rfl) (by kernel_rfl)) (by kernel_rfl) (by kernel_rfl) (by kernel_rfl)
      (by rw [MakeChecks.laidMetH_plain _ _ _ (by kernel_rfl)]; exact laidMet_laidAll _ (by kernel_rfl) (by kernel_rfl))) ?_
  intro W base args ds gs before hval0 hW hcnd _ hL _
  have hval : ∀ (j : Nat) t v, Tryz.f5.params[j]? = some t → args[j]? = some v → Value.okWide Tryz.prog W .any base t v := hval0
  have hW' := hW
  obtain ⟨p, q, hA0, hV, rfl, hfz, hnd⟩ := hW
  have hA1 : DataW.TrodAll enc Tryz.prog W 0 (fun _ => true) true Tryz.f5.params.toList args.toList ds p := hA0
  have hA := hA1
  rw [Tryz.params5] at hA hval
  obtain ⟨v0, v1, d0, d1, p0, p1, rfl, rfl, rfl, h0, h1⟩ := trodAll_two hA
  obtain ⟨rfl, rfl⟩ := trodVars_none hV
  refine (transBounds_calls (hval 0 57 v0 rfl rfl) (hval 1 60 v1 rfl rfl) hL).mono fun e W' ⟨he, hw⟩ => ?_
  subst he
  simp only [List.append_nil] at hW' ⊢
  exact ⟨_, rfl, post_true (bt := 4) Tryz.kids Tryz.full (by rw [Tryz.params5]; decide) (by kernel_rfl) (by kernel_rfl) rfl rfl hW' hA1 rfl rfl rfl hw⟩

end Go.Proofs.YtkkdpbicppdglaaGreatDoor
end
section
/- Closed facts of this seat's program, each by itself: together they outgrow a process. -/
namespace Go.Proofs.YtkkdpbicppdglaaGreatDoor
open Go.ChangeShapes Go.WideShapes Go.ChangeAt Go.RowKit
theorem Tryz.laidOut : laidOutB Tryz.prog = true := by kernel_rfl
theorem Tryz.mapsRowed : mapsRowed Tryz.prog = true := by kernel_rfl
theorem Tryz.plainKeys : (Rows.unixNoneRow.plainKeys == Tryz.prog.plainKeys) = true := by kernel_rfl
theorem Tryz.stopsHeard : Tryz.prog.stopsHeard = true := by kernel_rfl
theorem Tryz.mayEnter : Tryz.prog.mayEnter = true := by kernel_rfl
theorem Tryz.lifted : (Rows.unixNoneRow.lifted == Tryz.prog.liftsFinal) = true := by kernel_rfl
theorem Tryz.make : (Tryz.prog.make == some Rows.unixNoneRow.make) = true := by kernel_rfl
theorem Tryz.looks : true = Tryz.prog.looks [] := by kernel_rfl
end Go.Proofs.YtkkdpbicppdglaaGreatDoor
end
section
/- TransBounds: whatever the numbers and the machine, the law gives true. (Its card: the table of math/bits is as the program's text lays it.) -/
namespace Go.Proofs.YtkkdpbicppdglaaGreatDoor
open Go.ChangeShapes Go.WideShapes Go.ChangeAt Go.RowKit Go.AM
theorem transBounds_inPlace : (Rows.transBoundsRow.inPlace == Tryz.prog.inPlace 5) = true := by kernel_rfl
theorem transBounds_unfollowed : (Rows.transBoundsRow.unfollowed == Tryz.prog.unfollowed 5) = true := by kernel_rfl
theorem transBounds_recurses : (Rows.transBoundsRow.recurses == Tryz.prog.recurses 5) = true := by kernel_rfl
theorem transBounds_named : (Rows.transBoundsRow.named == Tryz.prog.varsNamed 5) = true := by kernel_rfl
theorem transBounds_joined : joinedFacts Tryz.prog 5 Tryz.f5 Rows.transBoundsSpec Rows.transBoundsRow = true := by
  simp only [joinedFacts, Bool.and_eq_true]
  exact ⟨⟨⟨⟨⟨⟨⟨⟨⟨⟨⟨⟨⟨⟨⟨⟨⟨⟨⟨⟨⟨⟨⟨⟨⟨⟨⟨⟨⟨⟨⟨by kernel_rfl, Tryz.laidOut⟩, Tryz.mapsRowed⟩, by kernel_rfl⟩, by kernel_rfl⟩, by kernel_rfl⟩, by kernel_rfl⟩, by kernel_rfl⟩, by kernel_rfl⟩, transBounds_inPlace⟩, transBounds_unfollowed⟩, transBounds_recurses⟩, transBounds_named⟩, by kernel_rfl⟩, by kernel_rfl⟩, by kernel_rfl⟩, by kernel_rfl⟩, by kernel_rfl⟩, by kernel_rfl⟩, by kernel_rfl⟩, by kernel_rfl⟩, by kernel_rfl⟩, Tryz.plainKeys⟩, by kernel_rfl⟩, Tryz.stopsHeard⟩, Tryz.mayEnter⟩, Tryz.lifted⟩, Tryz.make⟩, by kernel_rfl⟩, by kernel_rfl⟩, by kernel_rfl⟩, by kernel_rfl⟩
theorem transBounds_holds : Rows.TransBoundsSaid :=
  OpenClaim.holds_of_wide 5 Tryz.f5 rfl rfl rfl rfl rfl rfl rfl ⟨rfl, rfl, rfl, rfl, rfl⟩ rfl rfl rfl rfl rfl (by kernel_rfl) Tryz.func5 transBounds_joined
    (of_decide_eq_true (by kernel_rfl)) (by unfold Func.isWrapper; first | (rw [if_pos (by decide +kernel)]; kernel_rfl) | (rw [if_neg (by decide +kernel)]; exact ⟨rfl, rfl⟩))
    (fun os started H enc _ => transBounds_lifted os started H enc)
end Go.Proofs.YtkkdpbicppdglaaGreatDoor
end
