/- Lemmas of the claim: the machine of the proof and the walks of the program. Conditions: as each says. -/
import Derived.Test.YtbgminppkacdlaaGreatDoorG5
import Derived.Test.YtbgminppkacdlaaGreatDoorG6
import Derived.Test.YtbgminppkacdlaaGreatDoorG4
import Derived.Lib.TrailingZeros
section
/- Directories: names, texts' pieces. Conditions: as each rule says. -/
namespace Go.Proofs.YtbgminppkacdlaaGreatDoor
open Go.AM
open Nat renaming reduceBEq → Za, reduceEqDiff → Zb, reduceAdd → Zc, reduceSub → Zd, reduceMul → Ze, reduceLT → Zf, reduceLeDiff → Zg, reduceDiv → Zh, reduceMod → Zi, reducePow → Zj
open Int renaming reduceAdd → Zk, reduceSub → Zl, reduceMul → Zm, reduceLT → Zn, reduceLE → Zo, reduceEq → Zp, reduceNe → Zq, reduceNeg → Zr, reduceToNat → Zs, reduceDiv → Zt, reduceMod → Zu, reducePow → Zv, cast_ofNat_Int → Zw
set_option linter.unusedSimpArgs false
variable {h : Heap} {R : Out → Heap → Prop}
theorem idxA_tw (c : UInt8) : ∀ (l : List UInt8) (i : Nat), (c ∈ l ∧ idxA l c.toNat i = ((i + (l.takeWhile (· != c)).length : Nat) : Int)) ∨ (¬ c ∈ l ∧ idxA l c.toNat i = -1 ∧ l.takeWhile (· != c) = l)
  | [], i => .inr ⟨by simp, rfl, rfl⟩
  | b :: l, i => by
    have hc : idxA (b :: l) c.toNat i = cond (Nat.beq b.toNat c.toNat) (Int.ofNat i) (idxA l c.toNat (i + 1)) := rfl
    by_cases e : b = c
    · subst e
      refine .inl ⟨List.mem_cons_self, ?_⟩
      rw [hc, Nat.beq_refl]
      simp
    · have e2 : Nat.beq b.toNat c.toNat = false := by
        rw [← Bool.not_eq_true, Nat.beq_eq]
        exact fun q => e (UInt8.toNat_inj.1 q)
      have e3 : (b != c) = true := by simpa using e
      rw [hc, e2, cond_false, List.takeWhile_cons, if_pos e3]
      rcases idxA_tw c l (i + 1) with ⟨h1, h2⟩ | ⟨h1, h2, h3⟩
      · refine .inl ⟨List.mem_cons_of_mem _ h1, ?_⟩
        rw [h2, List.length_cons]; omega
      · refine .inr ⟨fun hm => ?_, h2, by rw [h3]⟩
        rcases List.mem_cons.1 hm with q | q
        · exact e q.symm
        · exact h1 q
theorem tw_take (c : UInt8) : ∀ l : List UInt8, l.take (l.takeWhile (· != c)).length = l.takeWhile (· != c)
  | [] => rfl
  | b :: l => by
    rw [List.takeWhile_cons]
    split
    · rw [List.length_cons, List.take_succ_cons, tw_take c l]
    · rfl
theorem tw_mem {c : UInt8} : ∀ {l : List UInt8}, c ∈ l → (l.takeWhile (· != c)).length < l.length
  | b :: l, hm => by
    rw [List.takeWhile_cons]
    split
    · rename_i hb
      rcases List.mem_cons.1 hm with q | q
      · rw [q] at hb; simp at hb
      · have := tw_mem q
        rw [List.length_cons, List.length_cons]; omega
    · rw [List.length_nil, List.length_cons]; omega
theorem idx_wf {l : List UInt8} {c : UInt8} (hR : R (.ret (.int .i64 (idxA l c.toNat 0))) h) : WF Tryz.prog 2 sp16 110 [.string (mkS l), .string (mkS [c])] h R := by
  refine ⟨_, h, ⟨1, fun fu d h1 h2 => ?_⟩, hR⟩
  obtain ⟨d, rfl⟩ : ∃ k, d = k + 1 := ⟨d - 1, by omega⟩
  rfl
set_option maxRecDepth 100000 in
theorem cut71_wf {l : List UInt8} {c : UInt8} (hl : l.length < 9223372036854775807) (hR : ∀ a f, R (.ret (.tuple #[.string (mkS (l.takeWhile (· != c))), .string (mkS a), .bool f])) h) : WF Tryz.prog 2 sp16 92 [.string (mkS l), .string (mkS [c])] h R := by
  refine wf_fn (fn := Tryz.f92) rfl rfl (by kernel_rfl) rfl ?_
  simp only [↓reduceIte, reduceCtorEq, Za, Zb, Zc, Zd, Ze, Zf, Zg, Zh, Zi, Zj, Zk, Zl, Zm, Zn, Zo, Zp, Zq, Zr, Zs, Zt, Zu, Zv, gval, Zw, rb0, rb1, rb2, rb3, rb4, tf0, tf1, tf2, tf3, Yk, Tryz.f92]
  refine runC_of (idx_wf ?_)
  rcases idxA_tw c l 0 with ⟨h1, h2⟩ | ⟨h1, h2, h3⟩
  · rw [h2]
    obtain ⟨k, hk⟩ : ∃ k, (l.takeWhile (· != c)).length = k := ⟨_, rfl⟩
    have hkl : k < l.length := hk ▸ tw_mem h1
    have c0 : (0 : Int) ≤ (k : Int) := by omega
    have wk : wrapF .i64 ((k : Int) + 1) = ((k + 1 : Nat) : Int) := by rw [wrapI (by omega) (by omega)]; omega
    rw [hk, Nat.zero_add]
    simp only [↓reduceIte, reduceCtorEq, Za, Zb, Zc, Zd, Ze, Zf, Zg, Zh, Zi, Zj, Zk, Zl, Zm, Zn, Zo, Zp, Zq, Zr, Zs, Zt, Zu, Zv, gval, Zw, rb0, rb1, rb2, rb3, rb4, tf0, tf1, tf2, tf3, Yk, c0]
    refine run_draw (ps := [(2, 6), (2, 7), (2, 8)]) (by kernel_rfl) (by kernel_rfl) ?_
    simp only [↓reduceIte, reduceCtorEq, Za, Zb, Zc, Zd, Ze, Zf, Zg, Zh, Zi, Zj, Zk, Zl, Zm, Zn, Zo, Zp, Zq, Zr, Zs, Zt, Zu, Zv, gval, Zw, rb0, rb1, rb2, rb3, rb4, tf0, tf1, tf2, tf3, Yk, mkS_size, wk, str_to tag_9 (Nat.le_of_lt hkl), str_from tag_9 (show k + 1 ≤ l.length from hkl)]
    have := hR (l.drop (k + 1)) true
    rw [← tw_take c l, hk] at this
    exact this
  · rw [h2]
    simp only [↓reduceIte, reduceCtorEq, Za, Zb, Zc, Zd, Ze, Zf, Zg, Zh, Zi, Zj, Zk, Zl, Zm, Zn, Zo, Zp, Zq, Zr, Zs, Zt, Zu, Zv, gval, Zw, rb0, rb1, rb2, rb3, rb4, tf0, tf1, tf2, tf3, Yk]
    have := hR [] false
    rw [h3] at this
    exact this
set_option maxRecDepth 100000 in
theorem cut_wf {l : List UInt8} {c : UInt8} (hl : l.length < 9223372036854775807) (hR : ∀ a f, R (.ret (.tuple #[.string (mkS (l.takeWhile (· != c))), .string (mkS a), .bool f])) h) : WF Tryz.prog 2 sp16 72 [.string (mkS l), .string (mkS [c])] h R := by
  refine wf_fn (fn := Tryz.f72) rfl rfl (by kernel_rfl) rfl ?_
  simp only [↓reduceIte, reduceCtorEq, Za, Zb, Zc, Zd, Ze, Zf, Zg, Zh, Zi, Zj, Zk, Zl, Zm, Zn, Zo, Zp, Zq, Zr, Zs, Zt, Zu, Zv, gval, Zw, rb0, rb1, rb2, rb3, rb4, tf0, tf1, tf2, tf3, Yk, Tryz.f72]
  refine runC_of (cut71_wf hl fun a f => ?_)
  simp only [↓reduceIte, reduceCtorEq, Za, Zb, Zc, Zd, Ze, Zf, Zg, Zh, Zi, Zj, Zk, Zl, Zm, Zn, Zo, Zp, Zq, Zr, Zs, Zt, Zu, Zv, gval, Zw, rb0, rb1, rb2, rb3, rb4, tf0, tf1, tf2, tf3, Yk]
  exact hR a f
set_option maxRecDepth 100000 in
theorem contains_wf {l : List UInt8} {c : UInt8} (hR : R (.ret (.bool (decide (c ∈ l)))) h) : WF Tryz.prog 2 sp16 74 [.string (mkS l), .string (mkS [c])] h R := by
  refine wf_fn (fn := Tryz.f74) rfl rfl (by kernel_rfl) rfl ?_
  simp only [↓reduceIte, reduceCtorEq, Za, Zb, Zc, Zd, Ze, Zf, Zg, Zh, Zi, Zj, Zk, Zl, Zm, Zn, Zo, Zp, Zq, Zr, Zs, Zt, Zu, Zv, gval, Zw, rb0, rb1, rb2, rb3, rb4, tf0, tf1, tf2, tf3, Yk, Tryz.f74]
  refine runC_of (wf_fn (fn := Tryz.f93) rfl rfl (by kernel_rfl) rfl ?_)
  simp only [↓reduceIte, reduceCtorEq, Za, Zb, Zc, Zd, Ze, Zf, Zg, Zh, Zi, Zj, Zk, Zl, Zm, Zn, Zo, Zp, Zq, Zr, Zs, Zt, Zu, Zv, gval, Zw, rb0, rb1, rb2, rb3, rb4, tf0, tf1, tf2, tf3, Yk, Tryz.f93]
  refine runC_of (idx_wf ?_)
  rcases idxA_tw c l 0 with ⟨h1, h2⟩ | ⟨h1, h2, h3⟩
  · rw [h2]
    generalize (0 + (l.takeWhile (· != c)).length) = k
    have c0 : (0 : Int) ≤ (k : Int) := by omega
    simp only [↓reduceIte, reduceCtorEq, Za, Zb, Zc, Zd, Ze, Zf, Zg, Zh, Zi, Zj, Zk, Zl, Zm, Zn, Zo, Zp, Zq, Zr, Zs, Zt, Zu, Zv, gval, Zw, rb0, rb1, rb2, rb3, rb4, tf0, tf1, tf2, tf3, Yk, c0]
    rw [decide_eq_true h1] at hR
    exact hR
  · rw [h2]
    simp only [↓reduceIte, reduceCtorEq, Za, Zb, Zc, Zd, Ze, Zf, Zg, Zh, Zi, Zj, Zk, Zl, Zm, Zn, Zo, Zp, Zq, Zr, Zs, Zt, Zu, Zv, gval, Zw, rb0, rb1, rb2, rb3, rb4, tf0, tf1, tf2, tf3, Yk]
    rw [decide_eq_false h1] at hR
    exact hR
def NmP (l : List UInt8) : Prop := l ≠ [] ∧ ¬ (47 : UInt8) ∈ l ∧ chk l = 0
instance (l : List UInt8) : Decidable (NmP l) := by unfold NmP; infer_instance
set_option maxRecDepth 100000 in
theorem name_wf {l : List UInt8} (hR : ∀ h', h.nx ≤ h'.nx → (∀ b, b < h.nx → h'.get b = h.get b) → R (.ret (.bool (decide (NmP l)))) h') : WF Tryz.prog 2 sp16 55 [.string (mkS l)] h R := by
  refine wf_fn (fn := Tryz.f55) rfl rfl (by kernel_rfl) rfl ?_
  by_cases c1 : l = []
  · have cx : decide (l ≠ []) = false := by simp [c1]
    simp only [↓reduceIte, reduceCtorEq, Za, Zb, Zc, Zd, Ze, Zf, Zg, Zh, Zi, Zj, Zk, Zl, Zm, Zn, Zo, Zp, Zq, Zr, Zs, Zt, Zu, Zv, gval, Zw, rb0, rb1, rb2, rb3, rb4, tf0, tf1, tf2, tf3, Yk, Tryz.f55, str_neG, cx, show ByteArray.empty = mkS [] from rfl, runG_undef]
    have := hR h (Nat.le_refl _) fun _ _ => rfl
    rw [decide_eq_false (fun q => q.1 c1)] at this
    exact this
  have cx : decide (l ≠ []) = true := by simp [c1]
  simp only [↓reduceIte, reduceCtorEq, Za, Zb, Zc, Zd, Ze, Zf, Zg, Zh, Zi, Zj, Zk, Zl, Zm, Zn, Zo, Zp, Zq, Zr, Zs, Zt, Zu, Zv, gval, Zw, rb0, rb1, rb2, rb3, rb4, tf0, tf1, tf2, tf3, Yk, Tryz.f55, str_neG, cx, show ByteArray.empty = mkS [] from rfl]
  refine runC_of (contains_wf (c := 47) ?_)
  by_cases c2 : (47 : UInt8) ∈ l
  · simp only [↓reduceIte, reduceCtorEq, Za, Zb, Zc, Zd, Ze, Zf, Zg, Zh, Zi, Zj, Zk, Zl, Zm, Zn, Zo, Zp, Zq, Zr, Zs, Zt, Zu, Zv, gval, Zw, rb0, rb1, rb2, rb3, rb4, tf0, tf1, tf2, tf3, Yk, decide_eq_true c2, Bool.not_true, runG_undef]
    have := hR h (Nat.le_refl _) fun _ _ => rfl
    rw [decide_eq_false (fun q => q.2.1 c2)] at this
    exact this
  · simp only [↓reduceIte, reduceCtorEq, Za, Zb, Zc, Zd, Ze, Zf, Zg, Zh, Zi, Zj, Zk, Zl, Zm, Zn, Zo, Zp, Zq, Zr, Zs, Zt, Zu, Zv, gval, Zw, rb0, rb1, rb2, rb3, rb4, tf0, tf1, tf2, tf3, Yk, decide_eq_false c2, Bool.not_false]
    refine runC_of (check_spec rfl fun h1 n1 k1 => ?_)
    have := hR h1 n1 k1
    by_cases c3 : chk l = 0
    · simp only [↓reduceIte, reduceCtorEq, Za, Zb, Zc, Zd, Ze, Zf, Zg, Zh, Zi, Zj, Zk, Zl, Zm, Zn, Zo, Zp, Zq, Zr, Zs, Zt, Zu, Zv, gval, Zw, rb0, rb1, rb2, rb3, rb4, tf0, tf1, tf2, tf3, Yk, c3]
      rw [decide_eq_true ⟨c1, c2, c3⟩] at this
      exact this
    · simp only [↓reduceIte, reduceCtorEq, Za, Zb, Zc, Zd, Ze, Zf, Zg, Zh, Zi, Zj, Zk, Zl, Zm, Zn, Zo, Zp, Zq, Zr, Zs, Zt, Zu, Zv, gval, Zw, rb0, rb1, rb2, rb3, rb4, tf0, tf1, tf2, tf3, Yk, c3]
      rw [decide_eq_false (fun q => c3 q.2.2)] at this
      exact this
end Go.Proofs.YtbgminppkacdlaaGreatDoor
end
section
/- Directories: rows of entries, the place of a name. Conditions: as each rule says. -/
namespace Go.Proofs.YtbgminppkacdlaaGreatDoor
open Go.AM
open Nat renaming reduceBEq → Za, reduceEqDiff → Zb, reduceAdd → Zc, reduceSub → Zd, reduceMul → Ze, reduceLT → Zf, reduceLeDiff → Zg, reduceDiv → Zh, reduceMod → Zi, reducePow → Zj
open Int renaming reduceAdd → Zk, reduceSub → Zl, reduceMul → Zm, reduceLT → Zn, reduceLE → Zo, reduceEq → Zp, reduceNe → Zq, reduceNeg → Zr, reduceToNat → Zs, reduceDiv → Zt, reduceMod → Zu, reducePow → Zv, cast_ofNat_Int → Zw
set_option linter.unusedSimpArgs false
variable {h : Heap} {R : Out → Heap → Prop}
def ents : List (List UInt8 × Nat) → List Value
  | [] => []
  | e :: r => .string (mkS e.1) :: .int .i64 (e.2 : Int) :: ents r
theorem ents_len : ∀ l : List (List UInt8 × Nat), (ents l).length = l.length * 2
  | [] => rfl
  | e :: r => by
    unfold ents
    rw [List.length_cons, List.length_cons, ents_len r, List.length_cons]; omega
theorem ents_app : ∀ a b : List (List UInt8 × Nat), ents (a ++ b) = ents a ++ ents b
  | [], b => rfl
  | e :: r, b => by
    show _ :: _ :: ents (r ++ b) = _ :: _ :: (ents r ++ ents b)
    rw [ents_app r b]
theorem ents_take : ∀ {l : List (List UInt8 × Nat)} {i : Nat} {e : List UInt8 × Nat}, l[i]? = some e → ((ents l).drop (i * 2)).take 2 = [.string (mkS e.1), .int .i64 (e.2 : Int)]
  | [], i, e, h => by simp at h
  | x :: r, 0, e, h => by
    rw [List.getElem?_cons_zero] at h
    cases Option.some.inj h; rfl
  | x :: r, i + 1, e, h => by
    rw [List.getElem?_cons_succ] at h
    show ((_ :: _ :: ents r).drop ((i + 1) * 2)).take 2 = _
    rw [show (i + 1) * 2 = i * 2 + 1 + 1 by omega, List.drop_succ_cons, List.drop_succ_cons]
    exact ents_take h
structure EntAt (h : Heap) (v : Value) (l : List (List UInt8 × Nat)) : Prop where
  is : (v = .slice none 0 0 ∧ l = []) ∨ ∃ b c K L, v = .slice (some ⟨b, 0, none⟩) l.length c ∧ h.get b = some (cellsB L K) ∧ l.length * 2 ≤ L.length ∧ ∀ (i : Nat) (e : List UInt8 × Nat), l[i]? = some e → (L.drop (i * 2)).take 2 = [.string (mkS e.1), .int .i64 (e.2 : Int)]
theorem EntAt.of {lo : Nat} {v : Value} {l : List (List UInt8 × Nat)} (x : RowG h lo 2 v l.length (ents l)) : EntAt h v l := by
  rcases x.is with ⟨h1, h2, h3⟩ | ⟨b, h1, h2, h3, h4⟩
  · exact ⟨.inl ⟨h1, List.length_eq_zero_iff.1 h3⟩⟩
  · exact ⟨.inr ⟨b, _, _, _, h3, h4, by rw [ents_len]; exact Nat.le_refl _, fun i e he => ents_take he⟩⟩
theorem EntAt.keep {h' : Heap} {v : Value} {l : List (List UInt8 × Nat)} (x : EntAt h v l) (hk : ∀ b ∈ blkOf v, h'.get b = h.get b) : EntAt h' v l := by
  rcases x.is with h1 | ⟨b, c, K, L, rfl, h4, h5⟩
  · exact ⟨.inl h1⟩
  · exact ⟨.inr ⟨b, c, K, L, rfl, (hk b (List.mem_singleton.2 rfl)).trans h4, h5⟩⟩
theorem EntAt.slc {v : Value} {l : List (List UInt8 × Nat)} (x : EntAt h v l) : ∃ a c, v = .slice a l.length c := by
  rcases x.is with ⟨rfl, rfl⟩ | ⟨b, c, K, L, rfl, _⟩ <;> exact ⟨_, _, rfl⟩
set_option maxRecDepth 100000 in
theorem find_wf {v : Value} {l : List (List UInt8 × Nat)} {nm : List UInt8} (x : EntAt h v l) (hv : ∀ b ∈ blkOf v, b < h.nx) (hl : l.length < 9223372036854775807)
    (hR1 : ∀ (k : Nat) e, l[k]? = some e → e.1 = nm → (∀ (j : Nat) e', j < k → l[j]? = some e' → e'.1 ≠ nm) → ∀ h', h.nx ≤ h'.nx → (∀ b, b < h.nx → h'.get b = h.get b) → R (.ret (.int .i64 k)) h')
    (hR2 : (∀ (j : Nat) e', l[j]? = some e' → e'.1 ≠ nm) → ∀ h', h.nx ≤ h'.nx → (∀ b, b < h.nx → h'.get b = h.get b) → R (.ret (.int .i64 (-1))) h') :
    WF Tryz.prog 2 sp16 50 [v, .string (mkS nm)] h R := by
  refine wf_fn (fn := Tryz.f50) rfl rfl (by kernel_rfl) rfl ?_
  obtain ⟨a, c, hs⟩ := x.slc
  rw [hs]
  simp only [↓reduceIte, reduceCtorEq, Za, Zb, Zc, Zd, Ze, Zf, Zg, Zh, Zi, Zj, Zk, Zl, Zm, Zn, Zo, Zp, Zq, Zr, Zs, Zt, Zu, Zv, gval, Zw, rb0, rb1, rb2, rb3, rb4, tf0, tf1, tf2, tf3, Yk, Tryz.f50]
  refine run_loop2 rfl (fun N e h' => ∃ p : Nat, N = l.length - p ∧ p ≤ l.length ∧ (∀ (j : Nat) e', j < p → l[j]? = some e' → e'.1 ≠ nm) ∧ e.at 1 = .string (mkS nm) ∧ e.at 7 = .slice a l.length c ∧ e.at 8 = .int .i64 l.length ∧ e.at 9 = .int .i64 p ∧ h.nx ≤ h'.nx ∧ ∀ b, b < h.nx → h'.get b = h.get b)
    (fun ex e h' => ((∃ (k : Nat) (y : List UInt8 × Nat), ex = .ret ∧ e.at 4 = .int .i64 k ∧ l[k]? = some y ∧ y.1 = nm ∧ ∀ (j : Nat) e', j < k → l[j]? = some e' → e'.1 ≠ nm) ∨ ex = .exit 0 ∧ ∀ (j : Nat) e', l[j]? = some e' → e'.1 ≠ nm) ∧ h.nx ≤ h'.nx ∧ ∀ b, b < h.nx → h'.get b = h.get b) ?_ (l.length - 0) _ _ ?_ ?_
  · rintro N e h' ⟨p, rfl, hpl, hz, e1, e7, e8, e9, hn, hk⟩ Q' hQn hQx
    by_cases hp : p < l.length
    · obtain ⟨y, hy⟩ : ∃ y, l[p]? = some y := ⟨_, List.getElem?_eq_getElem hp⟩
      rcases x.is with ⟨_, rfl⟩ | ⟨b, c', K, L, hv2, g1, hL, hA⟩
      · exact absurd hp (Nat.not_lt_zero _)
      rw [hs] at hv2
      cases hv2
      have hp0 : (0 : Int) ≤ (p : Int) := by omega
      have hp1 : (p : Int) < (l.length : Int) := by omega
      have wp : wrapF .i64 ((p : Int) + 1) = ((p + 1 : Nat) : Int) := by rw [wrapI (by omega) (by omega)]; omega
      have g1' := (hk b (hv b (by rw [hs]; exact List.mem_singleton.2 rfl))).trans g1
      have hA := hA p y hy
      have hp2 : p * 2 + 2 ≤ L.length := by omega
      by_cases c2 : y.1 = nm
      · have cx : decide (y.1 = nm) = true := decide_eq_true c2
        simp (disch := (first | omega | rfl | (simp only [Yn]; omega))) only [↓reduceIte, reduceCtorEq, Za, Zb, Zc, Zd, Ze, Zf, Zg, Zh, Zi, Zj, Zk, Zl, Zm, Zn, Zo, Zp, Zq, Zr, Zs, Zt, Zu, Zv, gval, Zw, rb0, rb1, rb2, rb3, rb4, tf0, tf1, tf2, tf3, Yk, Yh, overL_one, if_pos, stX_exactN, e1, e7, e8, e9, hp0, hp1, hp2, g1', hA, str_eqG, cx]
        exact hQx _ _ _ (by simp) ⟨.inl ⟨p, y, rfl, by simp only [Za, Zw, Ye], hy, c2, hz⟩, by simp (disch := (first | omega | rfl | (simp only [Yn]; omega))) only [Yh, Yc]; omega, fun b hb => by simp (disch := (first | omega | rfl | (simp only [Yn]; omega))) only [Yh, Yc]; exact hk b hb⟩
      · have cx : decide (y.1 = nm) = false := decide_eq_false c2
        simp (disch := (first | omega | rfl | (simp only [Yn]; omega))) only [↓reduceIte, reduceCtorEq, Za, Zb, Zc, Zd, Ze, Zf, Zg, Zh, Zi, Zj, Zk, Zl, Zm, Zn, Zo, Zp, Zq, Zr, Zs, Zt, Zu, Zv, gval, Zw, rb0, rb1, rb2, rb3, rb4, tf0, tf1, tf2, tf3, Yk, Yh, overL_one, if_pos, stX_exactN, e1, e7, e8, e9, hp0, hp1, hp2, g1', hA, str_eqG, cx, wp]
        refine hQn _ _ _ (by omega) ⟨p + 1, rfl, by omega, fun j e' hj he => ?_, by simp only [Za, Zw, Ye, e1], by simp only [Za, Zw, Ye, e7], by simp only [Za, Zw, Ye, e8], by simp only [Za, Zw, Ye], by simp (disch := (first | omega | rfl | (simp only [Yn]; omega))) only [Yh, Yc]; omega, fun b hb => by simp (disch := (first | omega | rfl | (simp only [Yn]; omega))) only [Yh, Yc]; exact hk b hb⟩
        rcases Nat.lt_or_ge j p with q | q
        · exact hz j e' q he
        · rw [show j = p by omega, hy] at he
          cases Option.some.inj he; exact c2
    · have hp' : ¬ (p : Int) < (l.length : Int) := by omega
      simp only [↓reduceIte, reduceCtorEq, Za, Zb, Zc, Zd, Ze, Zf, Zg, Zh, Zi, Zj, Zk, Zl, Zm, Zn, Zo, Zp, Zq, Zr, Zs, Zt, Zu, Zv, gval, Zw, rb0, rb1, rb2, rb3, rb4, tf0, tf1, tf2, tf3, Yk, e8, e9, hp']
      exact hQx _ _ _ (by simp) ⟨.inr ⟨rfl, fun j e' hj => hz j e' (by have := (List.getElem?_eq_some_iff.1 hj).1; omega) hj⟩, hn, hk⟩
  · exact ⟨0, rfl, by omega, fun _ _ h => absurd h (Nat.not_lt_zero _), by simp only [Za, Zw, Ye], by simp only [Za, Zw, Ye], by simp only [Za, Zw, Ye], by simp only [Za, Zw, Ye], Nat.le_refl _, fun _ _ => rfl⟩
  · rintro ex e h' - ⟨⟨k, y, rfl, e4, h1, h2, h3⟩ | ⟨rfl, h1⟩, hn, hk⟩
    · simp only [↓reduceIte, reduceCtorEq, Za, Zb, Zc, Zd, Ze, Zf, Zg, Zh, Zi, Zj, Zk, Zl, Zm, Zn, Zo, Zp, Zq, Zr, Zs, Zt, Zu, Zv, gval, Zw, rb0, rb1, rb2, rb3, rb4, tf0, tf1, tf2, tf3, Yk, e4]
      exact hR1 k y h1 h2 h3 h' hn hk
    · simp only [↓reduceIte, reduceCtorEq, Za, Zb, Zc, Zd, Ze, Zf, Zg, Zh, Zi, Zj, Zk, Zl, Zm, Zn, Zo, Zp, Zq, Zr, Zs, Zt, Zu, Zv, gval, Zw, rb0, rb1, rb2, rb3, rb4, tf0, tf1, tf2, tf3, Yk]
      exact hR2 h1 h' hn hk
end Go.Proofs.YtbgminppkacdlaaGreatDoor
end
section
/- An empty file system's words. No condition. -/
namespace Go.Proofs.YtbgminppkacdlaaGreatDoor
open Go.AM
def words0 (n : Nat) : List Int := (List.range (n * 32)).map fun i => if i = 0 then 318923232595 else if i = 1 then n else if i = 2 then 1 else if i = 3 then 4095 else if i = 32 then 2 else if i = 33 then 1 else 0
abbrev u64s (l : List Int) : List Value := l.map (.int .u64 ·)
end Go.Proofs.YtbgminppkacdlaaGreatDoor
end
section
/- Blocks and inodes: at, Get, Put, get. Conditions: the disk lies as the rule names. -/
namespace Go.Proofs.YtbgminppkacdlaaGreatDoor
open Go.AM
open Nat renaming reduceBEq → Za, reduceEqDiff → Zb, reduceAdd → Zc, reduceSub → Zd, reduceMul → Ze, reduceLT → Zf, reduceLeDiff → Zg, reduceDiv → Zh, reduceMod → Zi, reducePow → Zj
open Int renaming reduceAdd → Zk, reduceSub → Zl, reduceMul → Zm, reduceLT → Zn, reduceLE → Zo, reduceEq → Zp, reduceNe → Zq, reduceNeg → Zr, reduceToNat → Zs, reduceDiv → Zt, reduceMod → Zu, reducePow → Zv, cast_ofNat_Int → Zw
set_option linter.unusedSimpArgs false
variable {sp : Special} {h : Heap} {R : Out → Heap → Prop}
structure DiskAt (h : Heap) (bd bl n : Nat) (L : List Int) : Prop where
  is : ∃ g p : Int, h.get bd = some (cellsB [.int .i64 n, .slice (some ⟨bl, 0, none⟩) (n * 32) (n * 32), .int .i64 g, .int .i64 p] .exact)
  wd : h.get bl = some (cellsB (u64s L) .exact)
  len : L.length = n * 32
  le : n ≤ 1024
  bd_lt : bd < h.nx
  bl_lt : bl < h.nx
  ne : bd ≠ bl
theorem DiskAt.keep {h' : Heap} {bd bl n : Nat} {L : List Int} (x : DiskAt h bd bl n L) (hn : h.nx ≤ h'.nx) (h1 : h'.get bd = h.get bd) (h2 : h'.get bl = h.get bl) : DiskAt h' bd bl n L := by
  obtain ⟨g, p, e⟩ := x.is
  exact ⟨⟨g, p, h1.trans e⟩, h2.trans x.wd, x.len, x.le, Nat.lt_of_lt_of_le x.bd_lt hn, Nat.lt_of_lt_of_le x.bl_lt hn, x.ne⟩
set_option maxRecDepth 100000 in
theorem at_spec (h0 : (sp 147).isNone = true) {bd bl n : Nat} {L : List Int} (hd : DiskAt h bd bl n L) {b : Nat} (hb : b < n) (hR : R (.ret (.slice (some ⟨bl, b * 32, none⟩) 32 32)) h) :
    WF Tryz.prog 2 sp 147 [.pointer (some ⟨bd, 0, none⟩), .int .i64 b] h R := by
  refine wf_fn (fn := Tryz.f147) h0 rfl (by kernel_rfl) rfl ?_
  obtain ⟨g, p, e⟩ := hd.is
  have hle := hd.le
  have c1 : ¬ (b : Int) < 0 := by omega
  have c2 : ¬ (n : Int) ≤ (b : Int) := by omega
  have w1 : wrapF .i64 ((b : Int) * 32) = (b : Int) * 32 := wrapI (by omega) (by omega)
  have w2 : wrapF .i64 ((b : Int) + 1) = (b : Int) + 1 := wrapI (by omega) (by omega)
  have w3 : wrapF .i64 (((b : Int) + 1) * 32) = ((b : Int) + 1) * 32 := wrapI (by omega) (by omega)
  have hsl := slS_max (k := .i64) (k' := .i64) (k2 := .i64) (off := 0) (n := n * 32) (c := n * 32) (l := b * 32) (hi := (b + 1) * 32) hd.wd (by omega) (by omega)
  rw [show ((b * 32 : Nat) : Int) = (b : Int) * 32 by omega, show (((b + 1) * 32 : Nat) : Int) = ((b : Int) + 1) * 32 by omega, show (b + 1) * 32 - b * 32 = 32 by omega] at hsl
  simp (disch := (first | omega | rfl | (simp only [Yn]; omega))) only [↓reduceIte, reduceCtorEq, Za, Zb, Zc, Zd, Ze, Zf, Zg, Zh, Zi, Zj, Zk, Zl, Zm, Zn, Zo, Zp, Zq, Zr, Zs, Zt, Zu, Zv, gval, Zw, rb0, rb1, rb2, rb3, rb4, tf0, tf1, tf2, tf3, Yk, Yh, overL_one, if_pos, stX_exactN, Tryz.f147, e, c1, c2, w1, w2, w3, hsl]
  exact hR
set_option maxRecDepth 100000 in
theorem dget_spec (h0 : (sp 144).isNone = true) (h1 : (sp 147).isNone = true) {bd bl n : Nat} {L : List Int} (hd : DiskAt h bd bl n L) {b : Nat} (hb : b < n)
    (hR : ∀ h', h'.nx = h.nx + 1 → h'.get h.nx = some (cellsB (u64s ((L.drop (b * 32)).take 32)) (.loose 1)) → DiskAt h' bd bl n L → (∀ b', b' < h.nx → b' ≠ bd → h'.get b' = h.get b') → R (.ret (.tuple #[.slice (some ⟨h.nx, 0, none⟩) 32 32, .int .i64 0])) h') :
    WF Tryz.prog 2 sp 144 [.pointer (some ⟨bd, 0, none⟩), .int .i64 b] h R := by
  refine wf_fn (fn := Tryz.f144) h0 rfl (by kernel_rfl) rfl ?_
  simp only [↓reduceIte, reduceCtorEq, Za, Zb, Zc, Zd, Ze, Zf, Zg, Zh, Zi, Zj, Zk, Zl, Zm, Zn, Zo, Zp, Zq, Zr, Zs, Zt, Zu, Zv, gval, Zw, rb0, rb1, rb2, rb3, rb4, tf0, tf1, tf2, tf3, Yk, Tryz.f144]
  refine runC_of (at_spec h1 hd hb ?_)
  obtain ⟨g, p, e⟩ := hd.is
  have q1 := hd.bd_lt
  have q2 := hd.bl_lt
  have q3 := hd.ne
  simp (disch := (first | omega | rfl | (simp only [Yn]; omega))) only [↓reduceIte, reduceCtorEq, Za, Zb, Zc, Zd, Ze, Zf, Zg, Zh, Zi, Zj, Zk, Zl, Zm, Zn, Zo, Zp, Zq, Zr, Zs, Zt, Zu, Zv, gval, Zw, rb0, rb1, rb2, rb3, rb4, tf0, tf1, tf2, tf3, Yk, Yh, overL_one, if_pos, stX_exactN, e]
  obtain ⟨h1', hh1⟩ : ∃ h1', h.upd bd (cellsB [.int .i64 n, .slice (some ⟨bl, 0, none⟩) (n * 32) (n * 32), .int .i64 (wrapF .i64 (g + 1)), .int .i64 p] .exact) = h1' := ⟨_, rfl⟩
  have hw1 : h1'.get bl = some (cellsB (u64s L) .exact) := by rw [← hh1, Heap.get_upd_ne _ _ (fun e => q3 e.symm)]; exact hd.wd
  have hnx : h1'.nx = h.nx := by rw [← hh1, Heap.nx_upd]
  have hlen := hd.len
  have hcl : (u64s L).length = n * 32 := by rw [List.length_map, hlen]
  rw [hh1, aAppend_nil app_50_50 32 _ _ _ rfl (by omega) (by omega) (firstL_slc _ _ _ _ _ _ _ _ _ hw1 (by rw [hcl]; omega))]
  have hcut : ((u64s L).drop (b * 32)).take (32 * 1) = u64s ((L.drop (b * 32)).take 32) := by rw [← List.map_drop, ← List.map_take]
  rw [hcut]
  simp only [↓reduceIte, reduceCtorEq, Za, Zb, Zc, Zd, Ze, Zf, Zg, Zh, Zi, Zj, Zk, Zl, Zm, Zn, Zo, Zp, Zq, Zr, Zs, Zt, Zu, Zv, gval, Zw, rb0, rb1, rb2, rb3, rb4, tf0, tf1, tf2, tf3, Yk]
  refine hR _ (by rw [Heap.nx_new, hnx]) (by rw [Heap.get_new_at _ (by omega)]) ⟨⟨wrapF .i64 (g + 1), p, ?_⟩, ?_, hlen, hd.le, ?_, ?_, q3⟩ (fun b' h1 h2 => ?_)
  · rw [Heap.get_new_ne _ _ (by omega), ← hh1, Heap.get_upd_same]
  · rw [Heap.get_new_ne _ _ (by omega)]; exact hw1
  · rw [Heap.nx_new]; omega
  · rw [Heap.nx_new]; omega
  · rw [Heap.get_new_ne _ _ (by omega), ← hh1, Heap.get_upd_ne _ _ h2]
set_option maxRecDepth 100000 in
theorem dput_spec (h0 : (sp 146).isNone = true) (h1 : (sp 147).isNone = true) {bd bl n : Nat} {L : List Int} (hd : DiskAt h bd bl n L) {b : Nat} (hb : b < n) {bs off c : Nat} {X : List Value} {k : Kind} {W : List Int} (hs : h.get bs = some (cellsB X k)) (hX : (X.drop off).take 32 = u64s W) (hW : W.length = 32)
    (hR : ∀ h', h'.nx = h.nx → DiskAt h' bd bl n (L.take (b * 32) ++ W ++ L.drop (b * 32 + 32)) → (∀ b', b' ≠ bd → b' ≠ bl → h'.get b' = h.get b') → R (.ret (.int .i64 0)) h') (hne : bs ≠ bd) :
    WF Tryz.prog 2 sp 146 [.pointer (some ⟨bd, 0, none⟩), .int .i64 b, .slice (some ⟨bs, off, none⟩) 32 c] h R := by
  refine wf_fn (fn := Tryz.f146) h0 rfl (by kernel_rfl) rfl ?_
  simp only [↓reduceIte, reduceCtorEq, Za, Zb, Zc, Zd, Ze, Zf, Zg, Zh, Zi, Zj, Zk, Zl, Zm, Zn, Zo, Zp, Zq, Zr, Zs, Zt, Zu, Zv, gval, Zw, rb0, rb1, rb2, rb3, rb4, tf0, tf1, tf2, tf3, Yk, Tryz.f146]
  refine runC_of (at_spec h1 hd hb ?_)
  obtain ⟨g, p, e⟩ := hd.is
  have q3 := hd.ne
  simp (disch := (first | omega | rfl | (simp only [Yn]; omega))) only [↓reduceIte, reduceCtorEq, Za, Zb, Zc, Zd, Ze, Zf, Zg, Zh, Zi, Zj, Zk, Zl, Zm, Zn, Zo, Zp, Zq, Zr, Zs, Zt, Zu, Zv, gval, Zw, rb0, rb1, rb2, rb3, rb4, tf0, tf1, tf2, tf3, Yk, Yh, overL_one, if_pos, stX_exactN, e]
  obtain ⟨h1', hh1⟩ : ∃ h1', h.upd bd (cellsB [.int .i64 n, .slice (some ⟨bl, 0, none⟩) (n * 32) (n * 32), .int .i64 g, .int .i64 (wrapF .i64 (p + 1))] .exact) = h1' := ⟨_, rfl⟩
  have hw1 : h1'.get bl = some (cellsB (u64s L) .exact) := by rw [← hh1, Heap.get_upd_ne _ _ (fun e => q3 e.symm)]; exact hd.wd
  have hs1 : h1'.get bs = some (cellsB X k) := by rw [← hh1, Heap.get_upd_ne _ _ hne]; exact hs
  have hlen := hd.len
  have hcl : (u64s L).length = n * 32 := by rw [List.length_map, hlen]
  have hXl : off + 32 ≤ X.length := by
    have := congrArg List.length hX
    rw [List.length_take, List.length_drop, List.length_map, hW] at this
    omega
  have hcp := aCopy_at (P := Tryz.prog) (ts := #[50, 50]) (dt := 50) (st := 50) rfl (s := 1) (by kernel_rfl) (b := bl) (off := b * 32) (dn := 32) (c := 32) (n := 32) (x := .slice (some ⟨bs, off, none⟩) 32 c) (g := h1'.get) (L := u64s L) (cells := u64s W) (k := .exact) rfl
    (by rw [show Nat.min 32 32 = 32 from rfl, ← hX]; exact firstL_slc _ 1 32 bs off _ _ X k hs1 (by omega)) hw1 (by simp) (by rw [List.length_map, hW, hcl]; omega)
  rw [hh1]
  simp (disch := (first | omega | rfl | (simp only [Yn]; omega))) only [↓reduceIte, reduceCtorEq, Za, Zb, Zc, Zd, Ze, Zf, Zg, Zh, Zi, Zj, Zk, Zl, Zm, Zn, Zo, Zp, Zq, Zr, Zs, Zt, Zu, Zv, gval, Zw, rb0, rb1, rb2, rb3, rb4, tf0, tf1, tf2, tf3, Yk, Yh, overL_one, if_pos, stX_exactN, hcp]
  have hov : overL (u64s L) (b * 32) (u64s W) = u64s (L.take (b * 32) ++ W ++ L.drop (b * 32 + 32)) := by
    unfold overL u64s
    rw [List.map_append, List.map_append, List.map_take, List.map_drop, List.length_map, hW]
  rw [hov]
  refine hR _ (by rw [Heap.nx_upd, ← hh1, Heap.nx_upd]) ⟨⟨g, wrapF .i64 (p + 1), ?_⟩, Heap.get_upd_same _ _ _, ?_, hd.le, ?_, ?_, q3⟩ (fun b' h1 h2 => ?_)
  · rw [Heap.get_upd_ne _ _ q3, ← hh1, Heap.get_upd_same]
  · simp only [List.length_append, List.length_take, List.length_drop, hW, hlen]; omega
  · rw [Heap.nx_upd, ← hh1, Heap.nx_upd]; exact hd.bd_lt
  · rw [Heap.nx_upd, ← hh1, Heap.nx_upd]; exact hd.bl_lt
  · rw [Heap.get_upd_ne _ _ h2, ← hh1, Heap.get_upd_ne _ _ h1]
theorem inv_get : invOf Tryz.prog 22 "Get" = some 144 := by kernel_rfl
theorem inv_put : invOf Tryz.prog 22 "Put" = some 146 := by kernel_rfl
set_option maxRecDepth 100000 in
theorem get_spec (h39 : (sp 36).isNone = true) (h0 : (sp 144).isNone = true) (h1 : (sp 147).isNone = true) {bd bl n : Nat} {L : List Int} (hd : DiskAt h bd bl n L) {b : Nat} (hb : b < n)
    (hR : ∀ h', h'.nx = h.nx + 1 → h'.get h.nx = some (cellsB (u64s ((L.drop (b * 32)).take 32)) (.loose 1)) → DiskAt h' bd bl n L → (∀ b', b' < h.nx → b' ≠ bd → h'.get b' = h.get b') → R (.ret (.tuple #[.slice (some ⟨h.nx, 0, none⟩) 32 32, .int .i64 0])) h') :
    WF Tryz.prog 2 sp 36 [.iface 22 (.pointer (some ⟨bd, 0, none⟩)), .int .i64 b] h R := by
  refine wf_fn (fn := Tryz.f36) h39 rfl (by kernel_rfl) rfl ?_
  simp only [↓reduceIte, reduceCtorEq, Za, Zb, Zc, Zd, Ze, Zf, Zg, Zh, Zi, Zj, Zk, Zl, Zm, Zn, Zo, Zp, Zq, Zr, Zs, Zt, Zu, Zv, gval, Zw, rb0, rb1, rb2, rb3, rb4, tf0, tf1, tf2, tf3, Yk, Tryz.f36, u_invoke, invK_iface, inv_get]
  refine runC_of (dget_spec h0 h1 hd hb fun h' g1 g2 g3 g4 => ?_)
  simp only [↓reduceIte, reduceCtorEq, Za, Zb, Zc, Zd, Ze, Zf, Zg, Zh, Zi, Zj, Zk, Zl, Zm, Zn, Zo, Zp, Zq, Zr, Zs, Zt, Zu, Zv, gval, Zw, rb0, rb1, rb2, rb3, rb4, tf0, tf1, tf2, tf3, Yk]
  exact hR h' g1 g2 g3 g4
end Go.Proofs.YtbgminppkacdlaaGreatDoor
end
section
/- Inodes: Get. Conditions: the disk lies as the rule names. -/
namespace Go.Proofs.YtbgminppkacdlaaGreatDoor
open Go.AM
open Nat renaming reduceBEq → Za, reduceEqDiff → Zb, reduceAdd → Zc, reduceSub → Zd, reduceMul → Ze, reduceLT → Zf, reduceLeDiff → Zg, reduceDiv → Zh, reduceMod → Zi, reducePow → Zj
open Int renaming reduceAdd → Zk, reduceSub → Zl, reduceMul → Zm, reduceLT → Zn, reduceLE → Zo, reduceEq → Zp, reduceNe → Zq, reduceNeg → Zr, reduceToNat → Zs, reduceDiv → Zt, reduceMod → Zu, reducePow → Zv, cast_ofNat_Int → Zw
set_option linter.unusedSimpArgs false
variable {sp : Special} {h : Heap} {R : Out → Heap → Prop}
set_option maxRecDepth 100000 in
theorem in_spec (h0 : (sp 45).isNone = true) {i : Int} (hR : R (.ret (.bool (decide (0 ≤ i ∧ i < 32)))) h) : WF Tryz.prog 2 sp 45 [.int .i64 i] h R := by
  refine wf_fn (fn := Tryz.f45) h0 rfl (by kernel_rfl) rfl ?_
  by_cases c1 : 0 ≤ i
  · by_cases c2 : i < 32
    · simp only [↓reduceIte, reduceCtorEq, Za, Zb, Zc, Zd, Ze, Zf, Zg, Zh, Zi, Zj, Zk, Zl, Zm, Zn, Zo, Zp, Zq, Zr, Zs, Zt, Zu, Zv, gval, Zw, rb0, rb1, rb2, rb3, rb4, tf0, tf1, tf2, tf3, Yk, Tryz.f45, c1, c2]
      rw [decide_eq_true ⟨c1, c2⟩] at hR
      exact hR
    · simp only [↓reduceIte, reduceCtorEq, Za, Zb, Zc, Zd, Ze, Zf, Zg, Zh, Zi, Zj, Zk, Zl, Zm, Zn, Zo, Zp, Zq, Zr, Zs, Zt, Zu, Zv, gval, Zw, rb0, rb1, rb2, rb3, rb4, tf0, tf1, tf2, tf3, Yk, Tryz.f45, c1, c2]
      rw [decide_eq_false (fun h => c2 h.2)] at hR
      exact hR
  · simp only [↓reduceIte, reduceCtorEq, Za, Zb, Zc, Zd, Ze, Zf, Zg, Zh, Zi, Zj, Zk, Zl, Zm, Zn, Zo, Zp, Zq, Zr, Zs, Zt, Zu, Zv, gval, Zw, rb0, rb1, rb2, rb3, rb4, tf0, tf1, tf2, tf3, Yk, Tryz.f45, c1]
    rw [decide_eq_false (fun h => c1 h.1)] at hR
    exact hR
def inoAt (i : Nat) : Nat := (1 + i / 3) * 32 + i % 3 * 9
def inoI (L : List Int) (i : Nat) : List Int := (List.range 9).map fun j => wrapF .i64 (L[inoAt i + j]!)
abbrev i64s (l : List Int) : List Value := l.map (.int .i64 ·)
def partI (v : List Int) (k : Nat) : List Value := i64s (v.take (3 + k) ++ List.replicate (6 - k) 0)
theorem partI_len {v : List Int} (hv : v.length = 9) {k : Nat} (hk : k ≤ 6) : (partI v k).length = 9 := by
  unfold partI
  simp only [List.length_map, List.length_append, List.length_take, List.length_replicate]; omega
theorem partI_set {v : List Int} (hv : v.length = 9) {k : Nat} (hk : k < 6) {x : Int} (hx : v[3 + k]? = some x) : (partI v k).set (3 + k) (.int .i64 x) = partI v (k + 1) := by
  match v, hv with
  | [a, b, c, d, e, f, g, h, i], _ =>
    have : k = 0 ∨ k = 1 ∨ k = 2 ∨ k = 3 ∨ k = 4 ∨ k = 5 := by omega
    rcases this with rfl | rfl | rfl | rfl | rfl | rfl <;> (simp at hx; subst hx; rfl)
set_option maxRecDepth 100000 in
theorem iget_spec (h18 : (sp 16).isNone = true) (h39 : (sp 36).isNone = true) (h43 : (sp 45).isNone = true) (h0 : (sp 144).isNone = true) (h1 : (sp 147).isNone = true) {bd bl n : Nat} {L : List Int} (hd : DiskAt h bd bl n L) (hn : 12 ≤ n) {i : Nat} (hi : i < 32)
    (hR : ∀ h', h.nx ≤ h'.nx → DiskAt h' bd bl n L → (∀ b', b' < h.nx → b' ≠ bd → h'.get b' = h.get b') → R (.ret (.tuple #[.agg (i64s (inoI L i)).toArray, .int .i64 0])) h') :
    WF Tryz.prog 2 sp 16 [.iface 22 (.pointer (some ⟨bd, 0, none⟩)), .int .i64 i] h R := by
  refine wf_fn (fn := Tryz.f16) h18 rfl (by kernel_rfl) rfl ?_
  have q1 := hd.bd_lt
  have q2 := hd.bl_lt
  simp only [↓reduceIte, reduceCtorEq, Za, Zb, Zc, Zd, Ze, Zf, Zg, Zh, Zi, Zj, Zk, Zl, Zm, Zn, Zo, Zp, Zq, Zr, Zs, Zt, Zu, Zv, gval, Zw, rb0, rb1, rb2, rb3, rb4, tf0, tf1, tf2, tf3, Yk, Tryz.f16]
  refine runC_of (in_spec h43 ?_)
  rw [decide_eq_true (show 0 ≤ (i : Int) ∧ (i : Int) < 32 by omega)]
  have hq : (i : Int).tdiv 3 = ((i / 3 : Nat) : Int) := by rw [Int.tdiv_eq_ediv_of_nonneg (by omega)]; omega
  have hm : (i : Int).tmod 3 = ((i % 3 : Nat) : Int) := by rw [Int.tmod_eq_emod_of_nonneg (by omega)]; omega
  have e1 : wrapF .i64 ((i / 3 : Nat) : Int) = ((i / 3 : Nat) : Int) := wrapI (by omega) (by omega)
  have e2 : wrapF .i64 (1 + ((i / 3 : Nat) : Int)) = ((1 + i / 3 : Nat) : Int) := by rw [wrapI (by omega) (by omega)]; omega
  have e3 : wrapF .i64 ((i % 3 : Nat) : Int) = ((i % 3 : Nat) : Int) := wrapI (by omega) (by omega)
  have e4 : wrapF .i64 (((i % 3 : Nat) : Int) * 9) = ((i % 3 * 9 : Nat) : Int) := by rw [wrapI (by omega) (by omega)]; omega
  simp only [↓reduceIte, reduceCtorEq, Za, Zb, Zc, Zd, Ze, Zf, Zg, Zh, Zi, Zj, Zk, Zl, Zm, Zn, Zo, Zp, Zq, Zr, Zs, Zt, Zu, Zv, gval, Zw, rb0, rb1, rb2, rb3, rb4, tf0, tf1, tf2, tf3, Yk, hq, e1, e2]
  obtain ⟨ha, hha⟩ : ∃ ha, h.new (cellsB [.int .i64 0, .int .i64 0, .int .i64 0, .int .i64 0, .int .i64 0, .int .i64 0, .int .i64 0, .int .i64 0, .int .i64 0] .exact) = ha := ⟨_, rfl⟩
  have hna : ha.nx = h.nx + 1 := by rw [← hha, Heap.nx_new]
  have hka : ∀ b', b' < h.nx → ha.get b' = h.get b' := fun b' hb' => by rw [← hha, Heap.get_new_ne _ _ (by omega)]
  have hga : ha.get h.nx = some (cellsB [.int .i64 0, .int .i64 0, .int .i64 0, .int .i64 0, .int .i64 0, .int .i64 0, .int .i64 0, .int .i64 0, .int .i64 0] .exact) := by rw [← hha, Heap.get_new_same]
  rw [hha]
  refine runC_of (get_spec h39 h0 h1 (hd.keep (h' := ha) (by omega) (hka _ q1) (hka _ q2)) (b := 1 + i / 3) (by omega) fun hb g1 g2 g3 g4 => ?_)
  have hlen := hd.len
  have hbl : (u64s ((L.drop ((1 + i / 3) * 32)).take 32)).length = 32 := by rw [List.length_map, List.length_take, List.length_drop]; omega
  have hsl := slS_loose (k := .i64) (off := 0) (n := 32) (c := 32) (l := i % 3 * 9) g2 (by rw [hbl]) (by omega) (by omega)
  simp (disch := (first | omega | rfl | (simp only [Yn]; omega))) only [↓reduceIte, reduceCtorEq, Za, Zb, Zc, Zd, Ze, Zf, Zg, Zh, Zi, Zj, Zk, Zl, Zm, Zn, Zo, Zp, Zq, Zr, Zs, Zt, Zu, Zv, gval, Zw, rb0, rb1, rb2, rb3, rb4, tf0, tf1, tf2, tf3, Yk, Yh, overL_one, if_pos, stX_exactN, hm, e3, e4, hsl]
  refine run_draw (ps := [(3, 6), (2, 7), (3, 7), (3, 10), (7, 10), (2, 11), (3, 11), (6, 11), (7, 11), (2, 13), (3, 13), (6, 13), (7, 13), (10, 13), (11, 13), (12, 13)]) (by kernel_rfl) (by kernel_rfl) ?_
  obtain ⟨o, ho⟩ : ∃ o, i % 3 * 9 = o := ⟨_, rfl⟩
  have hol : o ≤ 18 := by omega
  obtain ⟨BL, hBL⟩ : ∃ BL, u64s ((L.drop ((1 + i / 3) * 32)).take 32) = BL := ⟨_, rfl⟩
  rw [hBL] at g2 hbl
  have hc : ∀ j, j < 9 → BL[o + j]? = some (.int .u64 L[inoAt i + j]!) := fun j hj => by
    rw [← hBL, List.getElem?_map, List.getElem?_take, if_pos (by omega), List.getElem?_drop, show (1 + i / 3) * 32 + (o + j) = inoAt i + j by unfold inoAt; omega]
    have hlt : inoAt i + j < L.length := by unfold inoAt; omega
    rw [List.getElem?_eq_getElem hlt, getElem!_pos L _ hlt]; rfl
  have c0 : BL[o]? = some (.int .u64 L[inoAt i]!) := hc 0 (by omega)
  have c1 := hc 1 (by omega)
  have c2 := hc 2 (by omega)
  have r0 : (0 : Int) < ((32 - o : Nat) : Int) := by omega
  have r1 : (1 : Int) < ((32 - o : Nat) : Int) := by omega
  have r2 : (2 : Int) < ((32 - o : Nat) : Int) := by omega
  rw [ho]
  have hgb : hb.get h.nx = some (cellsB [.int .i64 0, .int .i64 0, .int .i64 0, .int .i64 0, .int .i64 0, .int .i64 0, .int .i64 0, .int .i64 0, .int .i64 0] .exact) := (g4 _ (by omega) (by omega)).trans hga
  simp (disch := (first | omega | rfl | (simp only [Yn]; omega))) only [↓reduceIte, reduceCtorEq, Za, Zb, Zc, Zd, Ze, Zf, Zg, Zh, Zi, Zj, Zk, Zl, Zm, Zn, Zo, Zp, Zq, Zr, Zs, Zt, Zu, Zv, gval, Zw, rb0, rb1, rb2, rb3, rb4, tf0, tf1, tf2, tf3, Yk, Yh, overL_one, if_pos, stX_exactN, r0, r1, r2, g2, hbl, c0, c1, c2, Nat.mul_one, nbeq_ne]
  rw [Heap.upd_new]
  have hv : (inoI L i).length = 9 := by unfold inoI; simp
  have hv0 : ∀ j, j < 9 → (inoI L i)[j]? = some (wrapF .i64 L[inoAt i + j]!) := fun j hj => by
    unfold inoI; rw [List.getElem?_map, List.getElem?_range hj]; rfl
  have hp0 : [Value.int .i64 (wrapF .i64 L[inoAt i]!), .int .i64 (wrapF .i64 L[inoAt i + 1]!), .int .i64 (wrapF .i64 L[inoAt i + 2]!), .int .i64 0, .int .i64 0, .int .i64 0, .int .i64 0, .int .i64 0, .int .i64 0] = partI (inoI L i) 0 := rfl
  rw [hp0]
  have hnb : hb.nx = h.nx + 2 := by omega
  refine run_loop2 rfl (fun m e h2 => ∃ k : Nat, m = 6 - k ∧ k ≤ 6 ∧ e.at 4 = .pointer (some ⟨h.nx, 0, none⟩) ∧ e.at 6 = .slice (some ⟨ha.nx, o, none⟩) (32 - o) (32 - o) ∧ e.at 8 = .pointer (some ⟨hb.nx, 0, none⟩) ∧ e.at 44 = .int .i64 k ∧ h2.get hb.nx = some (cellsB (partI (inoI L i) k) .exact) ∧ h2.nx = hb.nx + 1 ∧ ∀ b', b' ≠ hb.nx → h2.get b' = hb.get b')
    (fun ex e h2 => ex = .exit 0 ∧ e.at 4 = .pointer (some ⟨h.nx, 0, none⟩) ∧ e.at 8 = .pointer (some ⟨hb.nx, 0, none⟩) ∧ h2.get hb.nx = some (cellsB (partI (inoI L i) 6) .exact) ∧ h2.nx = hb.nx + 1 ∧ ∀ b', b' ≠ hb.nx → h2.get b' = hb.get b') ?_ 6 _ _ ?_ ?_
  · rintro m e h2 ⟨k, rfl, hk, f4, f6, f8, f44, gd, gn, gk⟩ Q' hQn hQx
    by_cases hc6 : k < 6
    · have hc6' : (k : Int) < 6 := by omega
      have hpl := partI_len hv hk
      have w1 : wrapF .i64 (3 + (k : Int)) = ((3 + k : Nat) : Int) := by rw [wrapI (by omega) (by omega)]; omega
      have w2 : wrapF .i64 ((k : Int) + 1) = (k : Int) + 1 := wrapI (by omega) (by omega)
      have rk : ((3 + k : Nat) : Int) < ((32 - o : Nat) : Int) := by omega
      have ck := hc (3 + k) (by omega)
      have g2' : h2.get ha.nx = some (cellsB BL (.loose 1)) := (gk _ (by omega)).trans g2
      simp (disch := (first | omega | rfl | (simp only [Yn]; omega))) only [↓reduceIte, reduceCtorEq, Za, Zb, Zc, Zd, Ze, Zf, Zg, Zh, Zi, Zj, Zk, Zl, Zm, Zn, Zo, Zp, Zq, Zr, Zs, Zt, Zu, Zv, gval, Zw, rb0, rb1, rb2, rb3, rb4, tf0, tf1, tf2, tf3, Yk, Yh, overL_one, if_pos, stX_exactN, f4, f6, f8, f44, hc6', w1, w2, rk, g2', ck, hbl, gd, hpl, Nat.mul_one]
      refine hQn _ _ _ (by omega) ⟨k + 1, rfl, by omega, ?_, ?_, ?_, ?_, ?_, ?_, fun b' hb' => by rw [Heap.get_upd_ne _ _ hb']; exact gk b' hb'⟩
      · simp only [↓reduceIte, reduceCtorEq, Za, Zb, Zc, Zd, Ze, Zf, Zg, Zh, Zi, Zj, Zk, Zl, Zm, Zn, Zo, Zp, Zq, Zr, Zs, Zt, Zu, Zv, gval, Zw, rb0, rb1, rb2, rb3, rb4, tf0, tf1, tf2, tf3, Yk, f4]
      · simp only [↓reduceIte, reduceCtorEq, Za, Zb, Zc, Zd, Ze, Zf, Zg, Zh, Zi, Zj, Zk, Zl, Zm, Zn, Zo, Zp, Zq, Zr, Zs, Zt, Zu, Zv, gval, Zw, rb0, rb1, rb2, rb3, rb4, tf0, tf1, tf2, tf3, Yk, f6]
      · simp only [↓reduceIte, reduceCtorEq, Za, Zb, Zc, Zd, Ze, Zf, Zg, Zh, Zi, Zj, Zk, Zl, Zm, Zn, Zo, Zp, Zq, Zr, Zs, Zt, Zu, Zv, gval, Zw, rb0, rb1, rb2, rb3, rb4, tf0, tf1, tf2, tf3, Yk, f8]
      · simp only [↓reduceIte, reduceCtorEq, Za, Zb, Zc, Zd, Ze, Zf, Zg, Zh, Zi, Zj, Zk, Zl, Zm, Zn, Zo, Zp, Zq, Zr, Zs, Zt, Zu, Zv, gval, Zw, rb0, rb1, rb2, rb3, rb4, tf0, tf1, tf2, tf3, Yk]
        rfl
      · rw [Heap.get_upd_same, partI_set hv hc6 (hv0 (3 + k) (by omega))]
      · rw [Heap.nx_upd]; exact gn
    · obtain rfl : k = 6 := by omega
      simp (disch := (first | omega | rfl | (simp only [Yn]; omega))) only [↓reduceIte, reduceCtorEq, Za, Zb, Zc, Zd, Ze, Zf, Zg, Zh, Zi, Zj, Zk, Zl, Zm, Zn, Zo, Zp, Zq, Zr, Zs, Zt, Zu, Zv, gval, Zw, rb0, rb1, rb2, rb3, rb4, tf0, tf1, tf2, tf3, Yk, Yh, overL_one, if_pos, stX_exactN, f44]
      exact hQx _ _ _ (by simp) ⟨rfl, by simp only [↓reduceIte, reduceCtorEq, Za, Zb, Zc, Zd, Ze, Zf, Zg, Zh, Zi, Zj, Zk, Zl, Zm, Zn, Zo, Zp, Zq, Zr, Zs, Zt, Zu, Zv, gval, Zw, rb0, rb1, rb2, rb3, rb4, tf0, tf1, tf2, tf3, Yk, f4], by simp only [↓reduceIte, reduceCtorEq, Za, Zb, Zc, Zd, Ze, Zf, Zg, Zh, Zi, Zj, Zk, Zl, Zm, Zn, Zo, Zp, Zq, Zr, Zs, Zt, Zu, Zv, gval, Zw, rb0, rb1, rb2, rb3, rb4, tf0, tf1, tf2, tf3, Yk, f8], gd, gn, gk⟩
  · refine ⟨0, rfl, by omega, ?_, ?_, ?_, ?_, by rw [Heap.get_new_same], by rw [Heap.nx_new], fun b' hb' => by rw [Heap.get_new_ne _ _ hb']⟩
    · simp only [↓reduceIte, reduceCtorEq, Za, Zb, Zc, Zd, Ze, Zf, Zg, Zh, Zi, Zj, Zk, Zl, Zm, Zn, Zo, Zp, Zq, Zr, Zs, Zt, Zu, Zv, gval, Zw, rb0, rb1, rb2, rb3, rb4, tf0, tf1, tf2, tf3, Yk]
    · simp only [↓reduceIte, reduceCtorEq, Za, Zb, Zc, Zd, Ze, Zf, Zg, Zh, Zi, Zj, Zk, Zl, Zm, Zn, Zo, Zp, Zq, Zr, Zs, Zt, Zu, Zv, gval, Zw, rb0, rb1, rb2, rb3, rb4, tf0, tf1, tf2, tf3, Yk]
    · simp only [↓reduceIte, reduceCtorEq, Za, Zb, Zc, Zd, Ze, Zf, Zg, Zh, Zi, Zj, Zk, Zl, Zm, Zn, Zo, Zp, Zq, Zr, Zs, Zt, Zu, Zv, gval, Zw, rb0, rb1, rb2, rb3, rb4, tf0, tf1, tf2, tf3, Yk]
    · simp only [↓reduceIte, reduceCtorEq, Za, Zb, Zc, Zd, Ze, Zf, Zg, Zh, Zi, Zj, Zk, Zl, Zm, Zn, Zo, Zp, Zq, Zr, Zs, Zt, Zu, Zv, gval, Zw, rb0, rb1, rb2, rb3, rb4, tf0, tf1, tf2, tf3, Yk]
  · rintro ex e h2 - ⟨rfl, f4, f8, gd, gn, gk⟩
    have hg0 : h2.get h.nx = some (cellsB [.int .i64 0, .int .i64 0, .int .i64 0, .int .i64 0, .int .i64 0, .int .i64 0, .int .i64 0, .int .i64 0, .int .i64 0] .exact) := (gk _ (by omega)).trans hgb
    have hpl := partI_len hv (Nat.le_refl 6)
    have hp6 : partI (inoI L i) 6 = i64s (inoI L i) := by unfold partI; rw [List.take_of_length_le (by omega)]; simp
    have ht9 : (i64s (inoI L i)).take 9 = i64s (inoI L i) := List.take_of_length_le (by rw [List.length_map]; omega)
    have hov : ∀ Z : List Value, Z.length = 9 → overL Z 0 (i64s (inoI L i)) = i64s (inoI L i) := fun Z hZ => by
      unfold overL
      rw [List.take_zero, List.nil_append, List.length_map, hv, List.drop_eq_nil_of_le (by omega), List.append_nil]
    have hl9 : (i64s (inoI L i)).length = 9 := by rw [List.length_map, hv]
    rw [hp6] at gd
    simp (disch := (first | omega | rfl | (simp only [Yn]; omega))) only [↓reduceIte, reduceCtorEq, Za, Zb, Zc, Zd, Ze, Zf, Zg, Zh, Zi, Zj, Zk, Zl, Zm, Zn, Zo, Zp, Zq, Zr, Zs, Zt, Zu, Zv, gval, Zw, rb0, rb1, rb2, rb3, rb4, tf0, tf1, tf2, tf3, Yk, Yh, overL_one, if_pos, stX_exactN, f4, f8, gd, hl9, ht9, hg0]
    simp only [hov _ (show [Value.int .i64 0, .int .i64 0, .int .i64 0, .int .i64 0, .int .i64 0, .int .i64 0, .int .i64 0, .int .i64 0, .int .i64 0].length = 9 from rfl), hl9, ht9, Nat.le_refl, if_true]
    refine ⟨_, rfl, hR _ ?_ ?_ fun b' h1 h2' => ?_⟩
    · rw [Heap.nx_upd]; omega
    · refine g3.keep (by rw [Heap.nx_upd]; omega) ?_ ?_
      · rw [Heap.get_upd_ne _ _ (by omega)]; exact gk _ (by omega)
      · rw [Heap.get_upd_ne _ _ (by omega)]; exact gk _ (by omega)
    · rw [Heap.get_upd_ne _ _ (by omega), gk _ (by omega), g4 _ (by omega) h2', hka _ h1]
set_option maxRecDepth 100000 in
theorem iget_none (h18 : (sp 16).isNone = true) (h43 : (sp 45).isNone = true) {v : Value} {i : Int} (hi : ¬ (0 ≤ i ∧ i < 32))
    (hR : ∀ h', h.nx ≤ h'.nx → (∀ b', b' < h.nx → h'.get b' = h.get b') → R (.ret (.tuple #[.agg (i64s (List.replicate 9 0)).toArray, .int .i64 101])) h') :
    WF Tryz.prog 2 sp 16 [v, .int .i64 i] h R := by
  refine wf_fn (fn := Tryz.f16) h18 rfl (by kernel_rfl) rfl ?_
  simp only [↓reduceIte, reduceCtorEq, Za, Zb, Zc, Zd, Ze, Zf, Zg, Zh, Zi, Zj, Zk, Zl, Zm, Zn, Zo, Zp, Zq, Zr, Zs, Zt, Zu, Zv, gval, Zw, rb0, rb1, rb2, rb3, rb4, tf0, tf1, tf2, tf3, Yk, Tryz.f16]
  refine runC_of (in_spec h43 ?_)
  rw [decide_eq_false hi]
  simp (disch := (first | omega | rfl | (simp only [Yn]; omega))) only [↓reduceIte, reduceCtorEq, Za, Zb, Zc, Zd, Ze, Zf, Zg, Zh, Zi, Zj, Zk, Zl, Zm, Zn, Zo, Zp, Zq, Zr, Zs, Zt, Zu, Zv, gval, Zw, rb0, rb1, rb2, rb3, rb4, tf0, tf1, tf2, tf3, Yk, Yh, overL_one, if_pos, stX_exactN]
  refine hR _ ?_ fun b' hb' => ?_
  · rw [Heap.nx_upd, Heap.nx_new]; omega
  · rw [Heap.get_upd_ne _ _ (by omega), Heap.get_new_ne _ _ (by omega)]
end Go.Proofs.YtbgminppkacdlaaGreatDoor
end
section
/- Inodes: Put. Conditions: the disk lies as the rule names. -/
namespace Go.Proofs.YtbgminppkacdlaaGreatDoor
open Go.AM
open Nat renaming reduceBEq → Za, reduceEqDiff → Zb, reduceAdd → Zc, reduceSub → Zd, reduceMul → Ze, reduceLT → Zf, reduceLeDiff → Zg, reduceDiv → Zh, reduceMod → Zi, reducePow → Zj
open Int renaming reduceAdd → Zk, reduceSub → Zl, reduceMul → Zm, reduceLT → Zn, reduceLE → Zo, reduceEq → Zp, reduceNe → Zq, reduceNeg → Zr, reduceToNat → Zs, reduceDiv → Zt, reduceMod → Zu, reducePow → Zv, cast_ofNat_Int → Zw
set_option linter.unusedSimpArgs false
variable {sp : Special} {h : Heap} {R : Out → Heap → Prop}
def putB (B : List Int) (o : Nat) (xs : List Int) (m : Nat) : List Int := B.take o ++ (xs.take m) ++ B.drop (o + m)
theorem putB_len {B : List Int} {o : Nat} {xs : List Int} {m : Nat} (h : o + m ≤ B.length) (hm : m ≤ xs.length) : (putB B o xs m).length = B.length := by
  unfold putB
  simp only [List.length_append, List.length_take, List.length_drop]; omega
theorem putB_zero {B : List Int} {o : Nat} {xs : List Int} : putB B o xs 0 = B := by
  unfold putB
  rw [List.take_zero, List.append_nil, Nat.add_zero, List.take_append_drop]
theorem putB_set {B : List Int} {o : Nat} {xs : List Int} {m : Nat} {v : Int} (h : o + m < B.length) (hv : xs[m]? = some v) : (putB B o xs m).set (o + m) v = putB B o xs (m + 1) := by
  obtain ⟨hm, rfl⟩ := List.getElem?_eq_some_iff.1 hv
  unfold putB
  have hl : (B.take o ++ xs.take m).length = o + m := by simp only [List.length_append, List.length_take]; omega
  rw [List.set_append_right _ _ (by omega), hl, Nat.sub_self, List.drop_eq_getElem_cons h, List.set_cons_zero, List.take_succ_eq_append_getElem hm, show o + (m + 1) = o + m + 1 by omega]
  simp only [List.append_assoc, List.cons_append, List.nil_append]
theorem putB_setv {B : List Int} {o : Nat} {xs : List Int} {m : Nat} {v : Int} (h : o + m < B.length) (hv : xs[m]? = some v) : (u64s (putB B o xs m)).set (o + m) (.int .u64 v) = u64s (putB B o xs (m + 1)) := by
  rw [← putB_set h hv, ← List.map_set]
def putL (L : List Int) (i : Nat) (x : List Int) : List Int := L.take (inoAt i) ++ x.map (wrapF .u64 ·) ++ L.drop (inoAt i + 9)
theorem putL_eq {L : List Int} {i : Nat} {x : List Int} {o : Nat} (ho : i % 3 * 9 = o) (hx : x.length = 9) (hL : (1 + i / 3) * 32 + 32 ≤ L.length) :
    L.take ((1 + i / 3) * 32) ++ putB ((L.drop ((1 + i / 3) * 32)).take 32) o (x.map (wrapF .u64 ·)) 9 ++ L.drop ((1 + i / 3) * 32 + 32) = putL L i x := by
  unfold putL putB inoAt
  rw [ho]
  generalize (1 + i / 3) * 32 = b at *
  have hol : o ≤ 18 := by omega
  rw [show (x.map (wrapF .u64 ·)).take 9 = x.map (wrapF .u64 ·) from List.take_of_length_le (by rw [List.length_map]; omega), List.take_add, List.take_take, show min o 32 = o by omega]
  have key : L.drop (b + o + 9) = ((L.drop b).take 32).drop (o + 9) ++ L.drop (b + 32) := by
    have a1 : L.drop (b + o + 9) = (L.drop b).drop (o + 9) := by rw [List.drop_drop, Nat.add_assoc]
    have a2 : L.drop (b + 32) = (L.drop b).drop 32 := by rw [List.drop_drop]
    rw [a1, a2]
    conv => lhs; rw [← List.take_append_drop 32 (L.drop b)]
    rw [List.drop_append_of_le_length (by rw [List.length_take, List.length_drop]; omega)]
  rw [key]
  simp only [List.append_assoc]
set_option maxRecDepth 100000 in
theorem iput_spec (h19 : (sp 19).isNone = true) (h39 : (sp 36).isNone = true) (h43 : (sp 45).isNone = true) (h0 : (sp 144).isNone = true) (h1 : (sp 147).isNone = true) (h2' : (sp 146).isNone = true) {bd bl n : Nat} {L : List Int} (hd : DiskAt h bd bl n L) (hn : 12 ≤ n) {i : Nat} (hi : i < 32) {x : List Int} (hx : x.length = 9)
    (hR : ∀ h', h.nx ≤ h'.nx → DiskAt h' bd bl n (putL L i x) → (∀ b', b' < h.nx → b' ≠ bd → b' ≠ bl → h'.get b' = h.get b') → R (.ret (.int .i64 0)) h') :
    WF Tryz.prog 2 sp 19 [.iface 22 (.pointer (some ⟨bd, 0, none⟩)), .int .i64 i, .agg (i64s x).toArray] h R := by
  refine wf_fn (fn := Tryz.f19) h19 rfl (by kernel_rfl) rfl ?_
  have q1 := hd.bd_lt
  have q2 := hd.bl_lt
  simp only [↓reduceIte, reduceCtorEq, Za, Zb, Zc, Zd, Ze, Zf, Zg, Zh, Zi, Zj, Zk, Zl, Zm, Zn, Zo, Zp, Zq, Zr, Zs, Zt, Zu, Zv, gval, Zw, rb0, rb1, rb2, rb3, rb4, tf0, tf1, tf2, tf3, Yk, Tryz.f19]
  refine runC_of (in_spec h43 ?_)
  rw [decide_eq_true (show 0 ≤ (i : Int) ∧ (i : Int) < 32 by omega)]
  have hq : (i : Int).tdiv 3 = ((i / 3 : Nat) : Int) := by rw [Int.tdiv_eq_ediv_of_nonneg (by omega)]; omega
  have hm : (i : Int).tmod 3 = ((i % 3 : Nat) : Int) := by rw [Int.tmod_eq_emod_of_nonneg (by omega)]; omega
  have e1 : wrapF .i64 ((i / 3 : Nat) : Int) = ((i / 3 : Nat) : Int) := wrapI (by omega) (by omega)
  have e2 : wrapF .i64 (1 + ((i / 3 : Nat) : Int)) = ((1 + i / 3 : Nat) : Int) := by rw [wrapI (by omega) (by omega)]; omega
  have e3 : wrapF .i64 ((i % 3 : Nat) : Int) = ((i % 3 : Nat) : Int) := wrapI (by omega) (by omega)
  have e4 : wrapF .i64 (((i % 3 : Nat) : Int) * 9) = ((i % 3 * 9 : Nat) : Int) := by rw [wrapI (by omega) (by omega)]; omega
  simp only [↓reduceIte, reduceCtorEq, Za, Zb, Zc, Zd, Ze, Zf, Zg, Zh, Zi, Zj, Zk, Zl, Zm, Zn, Zo, Zp, Zq, Zr, Zs, Zt, Zu, Zv, gval, Zw, rb0, rb1, rb2, rb3, rb4, tf0, tf1, tf2, tf3, Yk, hq, e1, e2]
  obtain ⟨ha, hha⟩ : ∃ ha, h.new (cellsB (i64s x) .exact) = ha := ⟨_, rfl⟩
  have hna : ha.nx = h.nx + 1 := by rw [← hha, Heap.nx_new]
  have hka : ∀ b', b' < h.nx → ha.get b' = h.get b' := fun b' hb' => by rw [← hha, Heap.get_new_ne _ _ (by omega)]
  have hga : ha.get h.nx = some (cellsB (i64s x) .exact) := by rw [← hha, Heap.get_new_same]
  rw [hha]
  refine runC_of (get_spec h39 h0 h1 (hd.keep (h' := ha) (by omega) (hka _ q1) (hka _ q2)) (b := 1 + i / 3) (by omega) fun hb g1 g2 g3 g4 => ?_)
  have hlen := hd.len
  have hbl : (u64s ((L.drop ((1 + i / 3) * 32)).take 32)).length = 32 := by rw [List.length_map, List.length_take, List.length_drop]; omega
  have hsl := slS_loose (k := .i64) (off := 0) (n := 32) (c := 32) (l := i % 3 * 9) g2 (by rw [hbl]) (by omega) (by omega)
  simp (disch := (first | omega | rfl | (simp only [Yn]; omega))) only [↓reduceIte, reduceCtorEq, Za, Zb, Zc, Zd, Ze, Zf, Zg, Zh, Zi, Zj, Zk, Zl, Zm, Zn, Zo, Zp, Zq, Zr, Zs, Zt, Zu, Zv, gval, Zw, rb0, rb1, rb2, rb3, rb4, tf0, tf1, tf2, tf3, Yk, Yh, overL_one, if_pos, stX_exactN, hm, e3, e4, hsl]
  refine run_draw (ps := [(5, 7), (4, 8), (5, 8), (5, 10), (8, 10), (4, 11), (5, 11), (7, 11), (8, 11), (7, 13), (8, 13), (10, 13), (11, 13), (10, 15), (11, 15)]) (by kernel_rfl) (by kernel_rfl) ?_
  obtain ⟨o, ho⟩ : ∃ o, i % 3 * 9 = o := ⟨_, rfl⟩
  have hol : o ≤ 18 := by omega
  obtain ⟨B, hB⟩ : ∃ B, (L.drop ((1 + i / 3) * 32)).take 32 = B := ⟨_, rfl⟩
  rw [hB] at g2 hbl
  rw [List.length_map] at hbl
  obtain ⟨xs, hxs⟩ : ∃ xs, x.map (wrapF .u64 ·) = xs := ⟨_, rfl⟩
  have hxl : xs.length = 9 := by rw [← hxs, List.length_map, hx]
  have hxg : ∀ j v, x[j]? = some v → xs[j]? = some (wrapF .u64 v) := fun j v hv => by rw [← hxs, List.getElem?_map, hv]; rfl
  have hgx : hb.get h.nx = some (cellsB (i64s x) .exact) := (g4 _ (by omega) (by omega)).trans hga
  have hxi : ∀ j, j < 9 → x[j]? = some x[j]! := fun j hj => by rw [List.getElem?_eq_getElem (by omega), getElem!_pos x j (by omega)]
  have y0 : (i64s x)[0]? = some (.int .i64 x[0]!) := by rw [List.getElem?_map, hxi 0 (by omega)]; rfl
  have y1 : (i64s x)[1]? = some (.int .i64 x[1]!) := by rw [List.getElem?_map, hxi 1 (by omega)]; rfl
  have y2 : (i64s x)[2]? = some (.int .i64 x[2]!) := by rw [List.getElem?_map, hxi 2 (by omega)]; rfl
  have r0 : (0 : Int) < ((32 - o : Nat) : Int) := by omega
  have r1 : (1 : Int) < ((32 - o : Nat) : Int) := by omega
  have r2 : (2 : Int) < ((32 - o : Nat) : Int) := by omega
  have hix : (i64s x).length = 9 := by rw [List.length_map, hx]
  rw [ho]
  have z0 := putB_setv (B := B) (o := o) (xs := xs) (m := 0) (by omega) (hxg 0 _ (hxi 0 (by omega)))
  have z1 := putB_setv (B := B) (o := o) (xs := xs) (m := 1) (by omega) (hxg 1 _ (hxi 1 (by omega)))
  have z2 := putB_setv (B := B) (o := o) (xs := xs) (m := 2) (by omega) (hxg 2 _ (hxi 2 (by omega)))
  rw [← putB_zero (B := B) (o := o) (xs := xs)] at g2
  have l0 : (u64s (putB B o xs 0)).length = 32 := by rw [List.length_map, putB_len (by omega) (by omega), hbl]
  have l1 : (u64s (putB B o xs 1)).length = 32 := by rw [List.length_map, putB_len (by omega) (by omega), hbl]
  have l2 : (u64s (putB B o xs 2)).length = 32 := by rw [List.length_map, putB_len (by omega) (by omega), hbl]
  rw [Nat.add_zero] at z0
  simp (disch := (first | omega | rfl | (simp only [Yn]; omega))) only [↓reduceIte, reduceCtorEq, Za, Zb, Zc, Zd, Ze, Zf, Zg, Zh, Zi, Zj, Zk, Zl, Zm, Zn, Zo, Zp, Zq, Zr, Zs, Zt, Zu, Zv, gval, Zw, rb0, rb1, rb2, rb3, rb4, tf0, tf1, tf2, tf3, Yk, Yh, overL_one, if_pos, stX_exactN, r0, r1, r2, g2, hgx, hix, y0, y1, y2, l0, l1, l2, z0, z1, z2, Nat.mul_one, nbeq_ne]
  obtain ⟨A, hA⟩ : ∃ A, ((i64s x).drop 3).take 6 = A := ⟨_, rfl⟩
  have hAg : ∀ k, k < 6 → A[k]? = some (.int .i64 x[3 + k]!) := fun k hk => by
    rw [← hA, List.getElem?_take, if_pos hk, List.getElem?_drop, List.getElem?_map, hxi (3 + k) (by omega)]; rfl
  refine run_loop2 rfl (fun m e h2 => ∃ k : Nat, m = 6 - k ∧ k ≤ 6 ∧ e.at 0 = .iface 22 (.pointer (some ⟨bd, 0, none⟩)) ∧ e.at 1 = .int .i64 i ∧ e.at 7 = .slice (some ⟨ha.nx, 0, none⟩) 32 32 ∧ e.at 9 = .slice (some ⟨ha.nx, o, none⟩) (32 - o) (32 - o) ∧ e.at 47 = .agg A.toArray ∧ e.at 48 = .int .i64 k ∧
      h2.get ha.nx = some (cellsB (u64s (putB B o xs (3 + k))) (.loose 1)) ∧ h2.nx = hb.nx ∧ ∀ b', b' ≠ ha.nx → h2.get b' = hb.get b')
    (fun ex e h2 => ex = .exit 0 ∧ e.at 0 = .iface 22 (.pointer (some ⟨bd, 0, none⟩)) ∧ e.at 1 = .int .i64 i ∧ e.at 7 = .slice (some ⟨ha.nx, 0, none⟩) 32 32 ∧ h2.get ha.nx = some (cellsB (u64s (putB B o xs 9)) (.loose 1)) ∧ h2.nx = hb.nx ∧ ∀ b', b' ≠ ha.nx → h2.get b' = hb.get b') ?_ 6 _ _ ?_ ?_
  · rintro m e h2 ⟨k, rfl, hk, f0, f1, f7, f9, f47, f48, gd, gn, gk⟩ Q' hQn hQx
    by_cases hc6 : k < 6
    · have hc6' : (k : Int) < 6 := by omega
      have w1 : wrapF .i64 (3 + (k : Int)) = ((3 + k : Nat) : Int) := by rw [wrapI (by omega) (by omega)]; omega
      have w2 : wrapF .i64 ((k : Int) + 1) = (k : Int) + 1 := wrapI (by omega) (by omega)
      have rk : ((3 + k : Nat) : Int) < ((32 - o : Nat) : Int) := by omega
      have ak := hAg k hc6
      have lk : (u64s (putB B o xs (3 + k))).length = 32 := by rw [List.length_map, putB_len (by omega) (by omega), hbl]
      have zk := putB_setv (B := B) (o := o) (xs := xs) (m := 3 + k) (by omega) (hxg (3 + k) _ (hxi (3 + k) (by omega)))
      have hia : A.length = 6 := by rw [← hA, List.length_take, List.length_drop, hix]; rfl
      simp (disch := (first | omega | rfl | (simp only [Yn]; omega))) only [↓reduceIte, reduceCtorEq, Za, Zb, Zc, Zd, Ze, Zf, Zg, Zh, Zi, Zj, Zk, Zl, Zm, Zn, Zo, Zp, Zq, Zr, Zs, Zt, Zu, Zv, gval, Zw, rb0, rb1, rb2, rb3, rb4, tf0, tf1, tf2, tf3, Yk, Yh, overL_one, if_pos, stX_exactN, f0, f1, f7, f9, f47, f48, hc6', u_index _ _ _ arr_40, ak, w1, w2, rk, gd, lk, zk, Nat.mul_one]
      refine hQn _ _ _ (by omega) ⟨k + 1, rfl, by omega, ?_, ?_, ?_, ?_, ?_, ?_, by rw [Heap.get_upd_same]; rfl, by rw [Heap.nx_upd]; exact gn, fun b' hb' => by rw [Heap.get_upd_ne _ _ hb']; exact gk b' hb'⟩
      · simp only [↓reduceIte, reduceCtorEq, Za, Zb, Zc, Zd, Ze, Zf, Zg, Zh, Zi, Zj, Zk, Zl, Zm, Zn, Zo, Zp, Zq, Zr, Zs, Zt, Zu, Zv, gval, Zw, rb0, rb1, rb2, rb3, rb4, tf0, tf1, tf2, tf3, Yk, f0]
      · simp only [↓reduceIte, reduceCtorEq, Za, Zb, Zc, Zd, Ze, Zf, Zg, Zh, Zi, Zj, Zk, Zl, Zm, Zn, Zo, Zp, Zq, Zr, Zs, Zt, Zu, Zv, gval, Zw, rb0, rb1, rb2, rb3, rb4, tf0, tf1, tf2, tf3, Yk, f1]
      · simp only [↓reduceIte, reduceCtorEq, Za, Zb, Zc, Zd, Ze, Zf, Zg, Zh, Zi, Zj, Zk, Zl, Zm, Zn, Zo, Zp, Zq, Zr, Zs, Zt, Zu, Zv, gval, Zw, rb0, rb1, rb2, rb3, rb4, tf0, tf1, tf2, tf3, Yk, f7]
      · simp only [↓reduceIte, reduceCtorEq, Za, Zb, Zc, Zd, Ze, Zf, Zg, Zh, Zi, Zj, Zk, Zl, Zm, Zn, Zo, Zp, Zq, Zr, Zs, Zt, Zu, Zv, gval, Zw, rb0, rb1, rb2, rb3, rb4, tf0, tf1, tf2, tf3, Yk, f9]
      · simp only [↓reduceIte, reduceCtorEq, Za, Zb, Zc, Zd, Ze, Zf, Zg, Zh, Zi, Zj, Zk, Zl, Zm, Zn, Zo, Zp, Zq, Zr, Zs, Zt, Zu, Zv, gval, Zw, rb0, rb1, rb2, rb3, rb4, tf0, tf1, tf2, tf3, Yk, f47]
      · simp only [↓reduceIte, reduceCtorEq, Za, Zb, Zc, Zd, Ze, Zf, Zg, Zh, Zi, Zj, Zk, Zl, Zm, Zn, Zo, Zp, Zq, Zr, Zs, Zt, Zu, Zv, gval, Zw, rb0, rb1, rb2, rb3, rb4, tf0, tf1, tf2, tf3, Yk]
        rfl
    · obtain rfl : k = 6 := by omega
      simp (disch := (first | omega | rfl | (simp only [Yn]; omega))) only [↓reduceIte, reduceCtorEq, Za, Zb, Zc, Zd, Ze, Zf, Zg, Zh, Zi, Zj, Zk, Zl, Zm, Zn, Zo, Zp, Zq, Zr, Zs, Zt, Zu, Zv, gval, Zw, rb0, rb1, rb2, rb3, rb4, tf0, tf1, tf2, tf3, Yk, Yh, overL_one, if_pos, stX_exactN, f48]
      exact hQx _ _ _ (by simp) ⟨rfl, by simp only [↓reduceIte, reduceCtorEq, Za, Zb, Zc, Zd, Ze, Zf, Zg, Zh, Zi, Zj, Zk, Zl, Zm, Zn, Zo, Zp, Zq, Zr, Zs, Zt, Zu, Zv, gval, Zw, rb0, rb1, rb2, rb3, rb4, tf0, tf1, tf2, tf3, Yk, f0], by simp only [↓reduceIte, reduceCtorEq, Za, Zb, Zc, Zd, Ze, Zf, Zg, Zh, Zi, Zj, Zk, Zl, Zm, Zn, Zo, Zp, Zq, Zr, Zs, Zt, Zu, Zv, gval, Zw, rb0, rb1, rb2, rb3, rb4, tf0, tf1, tf2, tf3, Yk, f1], by simp only [↓reduceIte, reduceCtorEq, Za, Zb, Zc, Zd, Ze, Zf, Zg, Zh, Zi, Zj, Zk, Zl, Zm, Zn, Zo, Zp, Zq, Zr, Zs, Zt, Zu, Zv, gval, Zw, rb0, rb1, rb2, rb3, rb4, tf0, tf1, tf2, tf3, Yk, f7], gd, gn, gk⟩
  · refine ⟨0, rfl, by omega, ?_, ?_, ?_, ?_, ?_, ?_, Heap.get_upd_same _ _ _, by rw [Heap.nx_upd], fun b' hb' => by rw [Heap.get_upd_ne _ _ hb']⟩
    · simp only [↓reduceIte, reduceCtorEq, Za, Zb, Zc, Zd, Ze, Zf, Zg, Zh, Zi, Zj, Zk, Zl, Zm, Zn, Zo, Zp, Zq, Zr, Zs, Zt, Zu, Zv, gval, Zw, rb0, rb1, rb2, rb3, rb4, tf0, tf1, tf2, tf3, Yk]
    · simp only [↓reduceIte, reduceCtorEq, Za, Zb, Zc, Zd, Ze, Zf, Zg, Zh, Zi, Zj, Zk, Zl, Zm, Zn, Zo, Zp, Zq, Zr, Zs, Zt, Zu, Zv, gval, Zw, rb0, rb1, rb2, rb3, rb4, tf0, tf1, tf2, tf3, Yk]
    · simp only [↓reduceIte, reduceCtorEq, Za, Zb, Zc, Zd, Ze, Zf, Zg, Zh, Zi, Zj, Zk, Zl, Zm, Zn, Zo, Zp, Zq, Zr, Zs, Zt, Zu, Zv, gval, Zw, rb0, rb1, rb2, rb3, rb4, tf0, tf1, tf2, tf3, Yk]
    · simp only [↓reduceIte, reduceCtorEq, Za, Zb, Zc, Zd, Ze, Zf, Zg, Zh, Zi, Zj, Zk, Zl, Zm, Zn, Zo, Zp, Zq, Zr, Zs, Zt, Zu, Zv, gval, Zw, rb0, rb1, rb2, rb3, rb4, tf0, tf1, tf2, tf3, Yk]
    · simp only [↓reduceIte, reduceCtorEq, Za, Zb, Zc, Zd, Ze, Zf, Zg, Zh, Zi, Zj, Zk, Zl, Zm, Zn, Zo, Zp, Zq, Zr, Zs, Zt, Zu, Zv, gval, Zw, rb0, rb1, rb2, rb3, rb4, tf0, tf1, tf2, tf3, Yk, hA]
    · simp only [↓reduceIte, reduceCtorEq, Za, Zb, Zc, Zd, Ze, Zf, Zg, Zh, Zi, Zj, Zk, Zl, Zm, Zn, Zo, Zp, Zq, Zr, Zs, Zt, Zu, Zv, gval, Zw, rb0, rb1, rb2, rb3, rb4, tf0, tf1, tf2, tf3, Yk]
  · rintro ex e h2 - ⟨rfl, f0, f1, f7, gd, gn, gk⟩
    simp only [↓reduceIte, reduceCtorEq, Za, Zb, Zc, Zd, Ze, Zf, Zg, Zh, Zi, Zj, Zk, Zl, Zm, Zn, Zo, Zp, Zq, Zr, Zs, Zt, Zu, Zv, gval, Zw, rb0, rb1, rb2, rb3, rb4, tf0, tf1, tf2, tf3, Yk, f0, f1, f7, hq, e1, e2, u_invoke, invK_iface, inv_put]
    have hd2 : DiskAt h2 bd bl n L := g3.keep (by omega) (gk _ (by omega)) (gk _ (by omega))
    have hl9 : (putB B o xs 9).length = 32 := by rw [putB_len (by omega) (by omega), hbl]
    refine runC_of (dput_spec h2' h1 hd2 (b := 1 + i / 3) (by omega) gd (off := 0) (W := putB B o xs 9) (by rw [List.drop_zero, List.take_of_length_le (by rw [List.length_map]; omega)]) hl9 (fun h3 p1 p2 p3 => ?_) (by omega))
    simp only [↓reduceIte, reduceCtorEq, Za, Zb, Zc, Zd, Ze, Zf, Zg, Zh, Zi, Zj, Zk, Zl, Zm, Zn, Zo, Zp, Zq, Zr, Zs, Zt, Zu, Zv, gval, Zw, rb0, rb1, rb2, rb3, rb4, tf0, tf1, tf2, tf3, Yk]
    rw [← hB, ← hxs, putL_eq ho hx (by omega)] at p2
    refine hR h3 (by omega) p2 fun b' w1 w2 w3 => ?_
    rw [p3 b' w2 w3, gk b' (by omega), g4 b' (by omega) w2, hka b' w1]
end Go.Proofs.YtbgminppkacdlaaGreatDoor
end
section
/- InodePuts: the law's own steps. Conditions: the inode's numbers are ints. -/
namespace Go.Proofs.YtbgminppkacdlaaGreatDoor
open Go.AM
open Nat renaming reduceBEq → Za, reduceEqDiff → Zb, reduceAdd → Zc, reduceSub → Zd, reduceMul → Ze, reduceLT → Zf, reduceLeDiff → Zg, reduceDiv → Zh, reduceMod → Zi, reducePow → Zj
open Int renaming reduceAdd → Zk, reduceSub → Zl, reduceMul → Zm, reduceLT → Zn, reduceLE → Zo, reduceEq → Zp, reduceNe → Zq, reduceNeg → Zr, reduceToNat → Zs, reduceDiv → Zt, reduceMod → Zu, reducePow → Zv, cast_ofNat_Int → Zw
set_option linter.unusedSimpArgs false
variable {h : Heap} {R : Out → Heap → Prop}
theorem ifc23 (v : Value) : effIface Tryz.prog 22 v = ret (.iface 22 v) := by kernel_rfl
theorem overL_nine {Z V : List Value} (hz : Z.length = 9) (hv : V.length = 9) : overL Z 0 V = V := by
  unfold overL
  rw [List.take_zero, List.nil_append, hv, List.drop_eq_nil_of_le (by omega), List.append_nil]
end Go.Proofs.YtbgminppkacdlaaGreatDoor
end
section
/- File systems as numbers: their words, what Get and Put do to them. Conditions: the disk lies as the rules name. -/
namespace Go.Proofs.YtbgminppkacdlaaGreatDoor
open Go.AM
open Nat renaming reduceBEq → Za, reduceEqDiff → Zb, reduceAdd → Zc, reduceSub → Zd, reduceMul → Ze, reduceLT → Zf, reduceLeDiff → Zg, reduceDiv → Zh, reduceMod → Zi, reducePow → Zj
open Int renaming reduceAdd → Zk, reduceSub → Zl, reduceMul → Zm, reduceLT → Zn, reduceLE → Zo, reduceEq → Zp, reduceNe → Zq, reduceNeg → Zr, reduceToNat → Zs, reduceDiv → Zt, reduceMod → Zu, reducePow → Zv, cast_ofNat_Int → Zw
set_option linter.unusedSimpArgs false
variable {sp : Special} {h : Heap} {R : Out → Heap → Prop}
structure FS where
  n : Nat
  a : Nat
  b : Nat
  ino : Nat → Nat → Int
  dat : Nat → Nat → Int
def FS.D (s : FS) (b k : Nat) : Int :=
  if b = 0 then (if k = 0 then 318923232595 else if k = 1 then (s.n : Int) else if k = 2 then (s.a : Int) else if k = 3 then (s.b : Int) else 0)
  else if b < 12 then (if k < 27 then s.ino (3 * (b - 1) + k / 9) (k % 9) else 0)
  else s.dat b k
structure FS.Wf (s : FS) : Prop where
  n1 : 13 ≤ s.n
  n2 : s.n ≤ 60
  a : s.a < 4294967296
  b : s.b < bitN s.n
  ino : ∀ i j, 0 ≤ s.ino i j ∧ s.ino i j < 9223372036854775808
  dat : ∀ i j, 0 ≤ s.dat i j ∧ s.dat i j < 18446744073709551616
def flatD (n : Nat) (D : Nat → Nat → Int) : List Int := (List.range (n * 32)).map fun j => D (j / 32) (j % 32)
theorem flat_len {n : Nat} {D : Nat → Nat → Int} : (flatD n D).length = n * 32 := by unfold flatD; simp
theorem flat_get {n : Nat} {D : Nat → Nat → Int} {b k : Nat} (hb : b < n) (hk : k < 32) : (flatD n D)[b * 32 + k]? = some (D b k) := by
  unfold flatD
  rw [List.getElem?_map, List.getElem?_range (by omega)]
  show some (D ((b * 32 + k) / 32) ((b * 32 + k) % 32)) = _
  rw [show (b * 32 + k) / 32 = b by omega, show (b * 32 + k) % 32 = k by omega]
theorem flat_getj {n : Nat} {D : Nat → Nat → Int} {j : Nat} (hj : j < n * 32) : (flatD n D)[j]? = some (D (j / 32) (j % 32)) := by
  unfold flatD
  rw [List.getElem?_map, List.getElem?_range hj]; rfl
def rowD (D : Nat → Nat → Int) (b : Nat) : List Int := (List.range 32).map (D b)
theorem rowD_len {D : Nat → Nat → Int} {b : Nat} : (rowD D b).length = 32 := by unfold rowD; simp
theorem rowD_get {D : Nat → Nat → Int} {b k : Nat} (hk : k < 32) : (rowD D b)[k]? = some (D b k) := by
  unfold rowD
  rw [List.getElem?_map, List.getElem?_range hk]; rfl
theorem flat_block {n : Nat} {D : Nat → Nat → Int} {b : Nat} (hb : b < n) : ((flatD n D).drop (b * 32)).take 32 = rowD D b := by
  apply List.ext_getElem?
  intro k
  rw [List.getElem?_take]
  by_cases hk : k < 32
  · rw [if_pos hk, List.getElem?_drop, flat_get hb hk, rowD_get hk]
  · rw [if_neg hk, List.getElem?_eq_none (by rw [rowD_len]; omega)]
theorem flat_put {n : Nat} {D D' : Nat → Nat → Int} {b : Nat} {W : List Int} (hb : b < n) (hW : W.length = 32) (h1 : ∀ k, k < 32 → W[k]? = some (D' b k)) (h2 : ∀ b' k, b' < n → k < 32 → b' ≠ b → D' b' k = D b' k) : (flatD n D).take (b * 32) ++ W ++ (flatD n D).drop (b * 32 + 32) = flatD n D' := by
  have hl : (flatD n D).length = n * 32 := flat_len
  have hA : ((flatD n D).take (b * 32)).length = b * 32 := by rw [List.length_take]; omega
  apply List.ext_getElem?
  intro j
  by_cases hj : j < n * 32
  · rw [flat_getj hj]
    by_cases c1 : j < b * 32
    · rw [List.append_assoc, List.getElem?_append_left (by omega), List.getElem?_take, if_pos c1, flat_getj hj, h2 _ _ (by omega) (by omega) (by omega)]
    · by_cases c2 : j < b * 32 + 32
      · rw [List.append_assoc, List.getElem?_append_right (by omega), hA, List.getElem?_append_left (by omega), h1 _ (by omega), show j / 32 = b by omega, show j % 32 = j - b * 32 by omega]
      · rw [List.getElem?_append_right (by rw [List.length_append]; omega), List.getElem?_drop, List.length_append, hA, hW, show b * 32 + 32 + (j - (b * 32 + 32)) = j by omega, flat_getj hj, h2 _ _ (by omega) (by omega) (by omega)]
  · rw [List.getElem?_eq_none (by rw [List.length_append, List.length_append, List.length_drop]; omega), List.getElem?_eq_none (by rw [flat_len]; omega)]
def FS.putI (s : FS) (i : Nat) (x : Nat → Int) : FS := { s with ino := fun i' => if i' = i then x else s.ino i' }
def FS.putB (s : FS) (b : Nat) (w : Nat → Int) : FS := { s with dat := fun b' => if b' = b then w else s.dat b' }
def FS.maps (s : FS) (a b : Nat) : FS := { s with a := a, b := b }
def row9 (x : Nat → Int) : List Int := (List.range 9).map x
theorem row9_len {x : Nat → Int} : (row9 x).length = 9 := by unfold row9; simp
theorem row9_get {x : Nat → Int} {j : Nat} (hj : j < 9) : (row9 x)[j]? = some (x j) := by
  unfold row9
  rw [List.getElem?_map, List.getElem?_range hj]; rfl
theorem ino_D {s : FS} {i j : Nat} (hi : i < 32) (hj : j < 9) : s.D (1 + i / 3) (i % 3 * 9 + j) = s.ino i j := by
  unfold FS.D
  rw [if_neg (by omega), if_pos (by omega), if_pos (by omega), show 3 * (1 + i / 3 - 1) + (i % 3 * 9 + j) / 9 = i by omega, show (i % 3 * 9 + j) % 9 = j by omega]
theorem inoI_fs {s : FS} (hs : s.Wf) {i : Nat} (hi : i < 32) : inoI (flatD s.n s.D) i = row9 (s.ino i) := by
  unfold inoI row9
  refine List.map_congr_left fun j hj => ?_
  have hj : j < 9 := List.mem_range.1 hj
  have hn := hs.n1
  have := flat_get (n := s.n) (D := s.D) (b := 1 + i / 3) (k := i % 3 * 9 + j) (by omega) (by omega)
  rw [ino_D hi hj] at this
  rw [show inoAt i + j = (1 + i / 3) * 32 + (i % 3 * 9 + j) by unfold inoAt; omega, List.getElem!_eq_getElem?_getD, this]
  exact wrapI (by have := (hs.ino i j).1; show _ ≤ s.ino i j; omega) (hs.ino i j).2
theorem putL_fs {s : FS} (hs : s.Wf) {i : Nat} (hi : i < 32) {x : Nat → Int} (hx : ∀ j, j < 9 → 0 ≤ x j ∧ x j < 9223372036854775808) : putL (flatD s.n s.D) i (row9 x) = flatD s.n (s.putI i x).D := by
  have hn := hs.n1
  have hl : (flatD s.n s.D).length = s.n * 32 := flat_len
  have hM : ((row9 x).map (wrapF .u64 ·)).length = 9 := by rw [List.length_map, row9_len]
  have hat : inoAt i + 9 ≤ s.n * 32 := by unfold inoAt; omega
  have hA : ((flatD s.n s.D).take (inoAt i)).length = inoAt i := by rw [List.length_take]; omega
  have hD : ∀ j, j < s.n * 32 → ¬ (inoAt i ≤ j ∧ j < inoAt i + 9) → (s.putI i x).D (j / 32) (j % 32) = s.D (j / 32) (j % 32) := fun j hj hne => by
    unfold FS.D
    split
    · rfl
    · split
      · split
        · show (if 3 * (j / 32 - 1) + j % 32 / 9 = i then x else s.ino _) _ = _
          rw [if_neg]
          intro e
          apply hne
          subst e
          unfold inoAt
          omega
        · rfl
      · rfl
  unfold putL
  apply List.ext_getElem?
  intro j
  by_cases hj : j < s.n * 32
  · rw [flat_getj hj]
    by_cases c1 : j < inoAt i
    · rw [List.append_assoc, List.getElem?_append_left (by omega), List.getElem?_take, if_pos c1, flat_getj hj, hD j hj (by omega)]
    · by_cases c2 : j < inoAt i + 9
      · rw [List.append_assoc, List.getElem?_append_right (by omega), hA, List.getElem?_append_left (by omega), List.getElem?_map, row9_get (by omega)]
        have h1 := hx (j - inoAt i) (by omega)
        have e1 : j / 32 = 1 + i / 3 := by unfold inoAt at c1 c2; omega
        have e2 : j % 32 = i % 3 * 9 + (j - inoAt i) := by unfold inoAt at c1 c2 ⊢; omega
        rw [e1, e2, ino_D hi (by omega)]
        show some (wrapF .u64 (x (j - inoAt i))) = some ((if i = i then x else s.ino i) (j - inoAt i))
        rw [if_pos rfl, wrapU h1.1 (by omega)]
      · rw [List.getElem?_append_right (by rw [List.length_append]; omega), List.getElem?_drop, List.length_append, hA, hM, show inoAt i + 9 + (j - (inoAt i + 9)) = j by omega, flat_getj hj, hD j hj (by omega)]
  · rw [List.getElem?_eq_none (by rw [List.length_append, List.length_append, List.length_drop]; omega), List.getElem?_eq_none (by rw [flat_len]; omega)]
structure Fs (h : Heap) (bd bl : Nat) (s : FS) : Prop where
  d : DiskAt h bd bl s.n (flatD s.n s.D)
  wf : s.Wf
theorem Fs.keep {h' : Heap} {bd bl : Nat} {s : FS} (x : Fs h bd bl s) (hn : h.nx ≤ h'.nx) (h1 : h'.get bd = h.get bd) (h2 : h'.get bl = h.get bl) : Fs h' bd bl s := ⟨x.d.keep hn h1 h2, x.wf⟩
variable {bd bl : Nat} {s : FS}
theorem FS.Wf.putI (hs : s.Wf) {i : Nat} {x : Nat → Int} (hx : ∀ j, 0 ≤ x j ∧ x j < 9223372036854775808) : (s.putI i x).Wf := ⟨hs.n1, hs.n2, hs.a, hs.b, fun i' j => by
  show 0 ≤ (if i' = i then x else s.ino i') j ∧ (if i' = i then x else s.ino i') j < _
  split
  · exact hx j
  · exact hs.ino i' j, hs.dat⟩
theorem FS.Wf.putB (hs : s.Wf) {b : Nat} {w : Nat → Int} (hx : ∀ j, 0 ≤ w j ∧ w j < 18446744073709551616) : (s.putB b w).Wf := ⟨hs.n1, hs.n2, hs.a, hs.b, hs.ino, fun i' j => by
  show 0 ≤ (if i' = b then w else s.dat i') j ∧ (if i' = b then w else s.dat i') j < _
  split
  · exact hx j
  · exact hs.dat i' j⟩
theorem FS.Wf.maps (hs : s.Wf) {a b : Nat} (ha : a < 4294967296) (hb : b < bitN s.n) : (s.maps a b).Wf := ⟨hs.n1, hs.n2, ha, hb, hs.ino, hs.dat⟩
structure Plain (sp : Special) : Prop where
  p13 : (sp 51).isNone = true
  p14 : (sp 12).isNone = true
  p15 : (sp 35).isNone = true
  p16 : (sp 17).isNone = true
  p18 : (sp 16).isNone = true
  p19 : (sp 19).isNone = true
  p20 : (sp 14).isNone = true
  p21 : (sp 46).isNone = true
  p36 : (sp 40).isNone = true
  p37 : (sp 62).isNone = true
  p38 : (sp 64).isNone = true
  p39 : (sp 36).isNone = true
  p40 : (sp 61).isNone = true
  p41 : (sp 41).isNone = true
  p42 : (sp 63).isNone = true
  p43 : (sp 45).isNone = true
  p55 : (sp 66).isNone = true
  p56 : (sp 84).isNone = true
  p57 : (sp 87).isNone = true
  p58 : (sp 67).isNone = true
  p59 : (sp 85).isNone = true
  p60 : (sp 86).isNone = true
  p69 : (sp 89).isNone = true
  p70 : (sp 109).isNone = true
  p106 : (sp 144).isNone = true
  p108 : (sp 146).isNone = true
  p109 : (sp 147).isNone = true
theorem fget_spec (pl : Plain sp) (f : Fs h bd bl s) {b : Nat} (hb : b < s.n)
    (hR : ∀ h', h'.nx = h.nx + 1 → h'.get h.nx = some (cellsB (u64s (rowD s.D b)) (.loose 1)) → Fs h' bd bl s → (∀ b', b' < h.nx → b' ≠ bd → h'.get b' = h.get b') → R (.ret (.tuple #[.slice (some ⟨h.nx, 0, none⟩) 32 32, .int .i64 0])) h') :
    WF Tryz.prog 2 sp 36 [.iface 22 (.pointer (some ⟨bd, 0, none⟩)), .int .i64 b] h R :=
  get_spec pl.p39 pl.p106 pl.p109 f.d hb fun h' g1 g2 g3 g4 => hR h' g1 (by rw [g2, flat_block hb]) ⟨g3, f.wf⟩ g4
theorem figet_spec (pl : Plain sp) (f : Fs h bd bl s) {i : Nat} (hi : i < 32)
    (hR : ∀ h', h.nx ≤ h'.nx → Fs h' bd bl s → (∀ b', b' < h.nx → b' ≠ bd → h'.get b' = h.get b') → R (.ret (.tuple #[.agg (i64s (row9 (s.ino i))).toArray, .int .i64 0])) h') :
    WF Tryz.prog 2 sp 16 [.iface 22 (.pointer (some ⟨bd, 0, none⟩)), .int .i64 i] h R :=
  iget_spec pl.p18 pl.p39 pl.p43 pl.p106 pl.p109 f.d (by have := f.wf.n1; omega) hi fun h' g1 g2 g3 => by
    have := hR h' g1 ⟨g2, f.wf⟩ g3
    rwa [← inoI_fs f.wf hi] at this
theorem fiput_spec (pl : Plain sp) (f : Fs h bd bl s) {i : Nat} (hi : i < 32) {x : Nat → Int} (hx : ∀ j, 0 ≤ x j ∧ x j < 9223372036854775808)
    (hR : ∀ h', h.nx ≤ h'.nx → Fs h' bd bl (s.putI i x) → (∀ b', b' < h.nx → b' ≠ bd → b' ≠ bl → h'.get b' = h.get b') → R (.ret (.int .i64 0)) h') :
    WF Tryz.prog 2 sp 19 [.iface 22 (.pointer (some ⟨bd, 0, none⟩)), .int .i64 i, .agg (i64s (row9 x)).toArray] h R :=
  iput_spec pl.p19 pl.p39 pl.p43 pl.p106 pl.p109 pl.p108 f.d (by have := f.wf.n1; omega) hi row9_len fun h' g1 g2 g3 => by
    rw [putL_fs f.wf hi fun j _ => hx j] at g2
    exact hR h' g1 ⟨g2, f.wf.putI hx⟩ g3
theorem fbput_spec (pl : Plain sp) (f : Fs h bd bl s) {b : Nat} (h12 : 12 ≤ b) (hb : b < s.n) {bs off c : Nat} {X : List Value} {k : Kind} {w : Nat → Int} (hs : h.get bs = some (cellsB X k)) (hX : (X.drop off).take 32 = u64s ((List.range 32).map w)) (hw : ∀ j, 0 ≤ w j ∧ w j < 18446744073709551616)
    (hR : ∀ h', h'.nx = h.nx → Fs h' bd bl (s.putB b w) → (∀ b', b' ≠ bd → b' ≠ bl → h'.get b' = h.get b') → R (.ret (.int .i64 0)) h') (hne : bs ≠ bd) :
    WF Tryz.prog 2 sp 146 [.pointer (some ⟨bd, 0, none⟩), .int .i64 b, .slice (some ⟨bs, off, none⟩) 32 c] h R := by
  refine dput_spec pl.p108 pl.p109 f.d hb hs hX (by simp) (fun h' g1 g2 g3 => ?_) hne
  rw [flat_put (D' := (s.putB b w).D) hb (by simp) (fun k hk => ?_) (fun b' k hb' hk hne => ?_)] at g2
  · exact hR h' g1 ⟨g2, f.wf.putB hw⟩ g3
  · rw [List.getElem?_map, List.getElem?_range hk]
    unfold FS.D
    rw [if_neg (by omega), if_neg (by omega)]
    show some (w k) = some ((if b = b then w else s.dat b) k)
    rw [if_pos rfl]
  · unfold FS.D
    split
    · rfl
    · split
      · rfl
      · show (if b' = b then w else s.dat b') k = s.dat b' k
        rw [if_neg hne]
theorem fmput_spec (pl : Plain sp) (f : Fs h bd bl s) {bs off c : Nat} {X : List Value} {k : Kind} {a b : Nat} (ha : a < 4294967296) (hb : b < bitN s.n) (hs : h.get bs = some (cellsB X k)) (hX : (X.drop off).take 32 = u64s (rowD (s.maps a b).D 0))
    (hR : ∀ h', h'.nx = h.nx → Fs h' bd bl (s.maps a b) → (∀ b', b' ≠ bd → b' ≠ bl → h'.get b' = h.get b') → R (.ret (.int .i64 0)) h') (hne : bs ≠ bd) :
    WF Tryz.prog 2 sp 146 [.pointer (some ⟨bd, 0, none⟩), .int .i64 (0 : Nat), .slice (some ⟨bs, off, none⟩) 32 c] h R := by
  have hn := f.wf.n1
  refine dput_spec pl.p108 pl.p109 f.d (b := 0) (by omega) hs hX rowD_len (fun h' g1 g2 g3 => ?_) hne
  rw [flat_put (D' := (s.maps a b).D) (b := 0) (by omega) rowD_len (fun k hk => rowD_get hk) (fun b' k hb' hk hne => ?_)] at g2
  · exact hR h' g1 ⟨g2, f.wf.maps ha hb⟩ g3
  · unfold FS.D
    rw [if_neg hne, if_neg hne]; rfl
end Go.Proofs.YtbgminppkacdlaaGreatDoor
end
section
/- Bitmaps: bits.TrailingZeros64, OnesCount64, set, free. Conditions: the table lies as the rule names. -/
namespace Go.Proofs.YtbgminppkacdlaaGreatDoor
open Go.AM
open Nat renaming reduceBEq → Za, reduceEqDiff → Zb, reduceAdd → Zc, reduceSub → Zd, reduceMul → Ze, reduceLT → Zf, reduceLeDiff → Zg, reduceDiv → Zh, reduceMod → Zi, reducePow → Zj
open Int renaming reduceAdd → Zk, reduceSub → Zl, reduceMul → Zm, reduceLT → Zn, reduceLE → Zo, reduceEq → Zp, reduceNe → Zq, reduceNeg → Zr, reduceToNat → Zs, reduceDiv → Zt, reduceMod → Zu, reducePow → Zv, cast_ofNat_Int → Zw
set_option linter.unusedSimpArgs false
variable {sp : Special} {h : Heap} {R : Out → Heap → Prop}
def lowZ (p : Nat) : Nat := Go.Lib.ctz 64 (18446744073709551615 - p)
theorem testBit_not {p k : Nat} (hp : p < 18446744073709551616) (hk : k < 64) : (18446744073709551615 - p).testBit k = !p.testBit k := by
  have := Nat.testBit_two_pow_sub_succ (n := 64) (x := p) (by omega) k
  rw [show 2 ^ 64 - (p + 1) = 18446744073709551615 - p by omega, decide_eq_true hk, Bool.true_and] at this
  exact this
theorem lowZ_spec {p : Nat} (hp : p < 18446744073709551615) : lowZ p < 64 ∧ p.testBit (lowZ p) = false ∧ ∀ j, j < lowZ p → p.testBit j = true := by
  have hc : lowZ p = Go.Lib.ctzFrom 64 (18446744073709551615 - p) := by
    unfold lowZ Go.Lib.ctz
    rw [if_neg (by omega)]
  obtain ⟨m, hm, hk⟩ := Go.Lib.ctzFrom_spec 64 (18446744073709551615 - p) (by omega) (by omega)
  rw [← hc] at hm hk
  have hb : ∀ j, (18446744073709551615 - p).testBit j = (decide (j ≥ lowZ p) && (2 * m + 1).testBit (j - lowZ p)) := fun j => by
    conv => lhs; rw [hm]
    exact Nat.testBit_two_pow_mul
  refine ⟨hk, ?_, fun j hj => ?_⟩
  · have h1 := testBit_not (p := p) (k := lowZ p) (by omega) hk
    rw [hb, decide_eq_true (Nat.le_refl _), Nat.sub_self, Bool.true_and, Nat.testBit_zero, show (2 * m + 1) % 2 = 1 by omega] at h1
    cases hh : p.testBit (lowZ p) with
    | false => rfl
    | true => rw [hh] at h1; cases h1
  · have h1 := testBit_not (p := p) (k := j) (by omega) (by omega)
    rw [hb, decide_eq_false (by omega), Bool.false_and] at h1
    cases hh : p.testBit j with
    | true => rfl
    | false => rw [hh] at h1; cases h1
theorem tab_cells : tabBlk .u8 tab = cellsB (tab.map (Value.int .u8)) .ro := by
  unfold tabBlk cellsB
  rw [List.length_map]
theorem tab_at : ∀ k, k < 64 → (tab.map (Value.int .u8))[2 ^ k * 285870213051353865 % 18446744073709551616 / 288230376151711744]? = some (.int .u8 (k : Int)) := by
  have key : ∀ k : Fin 64, tab[2 ^ k.1 * 285870213051353865 % 18446744073709551616 / 288230376151711744]? = some (k.1 : Int) := by decide +kernel
  intro k hk
  rw [List.getElem?_map, key ⟨k, hk⟩]; rfl
theorem un_neg (k : IntKind) (n : Int) : effUn .neg (.int k n) = ret (.int k (wrapF k (0 - n))) := by rw [wrapF_eq]; rfl
theorem un_xor {p : Nat} (hp : p < 18446744073709551616) : effUn .xor (.int .u64 (p : Int)) = ret (.int .u64 ((18446744073709551615 - p : Nat) : Int)) := by
  show ret (.int .u64 (IntKind.u64.wrap ((BitVec.ofInt 64 18446744073709551615 ^^^ BitVec.ofInt 64 (p : Int)).toNat : Int))) = _
  rw [BitVec.toNat_xor, ofInt_toNat (by omega) (by omega), ofInt_toNat (by omega) (by omega), Int.toNat_natCast]
  have : (18446744073709551615 : Int).toNat ^^^ p = 18446744073709551615 - p := by
    apply Nat.eq_of_testBit_eq
    intro i
    rw [Nat.testBit_xor]
    have h1 := Nat.testBit_two_pow_sub_succ (n := 64) (x := p) (by omega) i
    rw [show 2 ^ 64 - (p + 1) = 18446744073709551615 - p by omega] at h1
    have h2 : ((18446744073709551615 : Int).toNat).testBit i = decide (i < 64) := by
      show (2 ^ 64 - 1).testBit i = _
      exact Nat.testBit_two_pow_sub_one 64 i
    rw [h1, h2]
    by_cases hi : i < 64
    · simp [hi]
    · have : p.testBit i = false := Nat.testBit_lt_two_pow (Nat.lt_of_lt_of_le hp (Nat.pow_le_pow_right (n := 2) (by omega) (show 64 ≤ i by omega)))
      simp [hi, this]
  rw [this]
  rw [wrap_nat (by omega)]
set_option maxRecDepth 100000 in
theorem tz_spec (h70 : (sp 109).isNone = true) (ht : h.get 1 = some (tabBlk .u8 tab)) {p : Nat} (hp : p < 18446744073709551616) (hR : R (.ret (.int .i64 (lowZ p))) h) :
    WF Tryz.prog 2 sp 109 [.int .u64 ((18446744073709551615 - p : Nat) : Int)] h R := by
  refine wf_fn (fn := Tryz.f109) h70 rfl (by kernel_rfl) rfl ?_
  obtain ⟨x, hx⟩ : ∃ x, 18446744073709551615 - p = x := ⟨_, rfl⟩
  have hxl : x < 18446744073709551616 := by omega
  have hlz : lowZ p = Go.Lib.ctz 64 x := by unfold lowZ; rw [hx]
  rw [hlz] at hR
  rw [hx]
  by_cases h0 : x = 0
  · subst h0
    simp only [↓reduceIte, reduceCtorEq, Za, Zb, Zc, Zd, Ze, Zf, Zg, Zh, Zi, Zj, Zk, Zl, Zm, Zn, Zo, Zp, Zq, Zr, Zs, Zt, Zu, Zv, gval, Zw, rb0, rb1, rb2, rb3, rb4, tf0, tf1, tf2, tf3, Yk, Tryz.f109]
    exact hR
  · have h0' : ¬ (x : Int) = 0 := by omega
    obtain ⟨l1, l2⟩ := Go.Lib.lowest_bit 64 x h0 hxl
    obtain ⟨k, hk⟩ : ∃ k, Go.Lib.ctz 64 x = k := ⟨_, rfl⟩
    rw [hk] at l1 l2 hR
    rw [tab_cells] at ht
    have hta := tab_at k l2
    have hn : wrapF .u64 (0 - (x : Int)) = ((18446744073709551616 - x : Nat) : Int) := by
      rw [wrapF_eq]
      unfold IntKind.wrap IntKind.signed IntKind.bits
      simp only [Bool.false_and, Bool.false_eq_true, if_false]
      omega
    have ha := and_u64 (a := (x : Int)) (b := ((18446744073709551616 - x : Nat) : Int)) (by omega) (by omega) (by omega) (by omega)
    rw [Int.toNat_natCast, Int.toNat_natCast, show 18446744073709551616 - x = 2 ^ 64 - x from rfl, l1] at ha
    have hix := (Go.Lib.deBruijn64_at k l2).1
    obtain ⟨idx, hidx⟩ : ∃ idx, 2 ^ k * 285870213051353865 % 18446744073709551616 / 288230376151711744 = idx := ⟨_, rfl⟩
    have hf : (wrapF .u64 (((2 ^ k : Nat) : Int) * 285870213051353865)).fdiv (2 ^ min 58 IntKind.u64.bits) = (idx : Int) := by
      have e1 : wrapF .u64 (((2 ^ k : Nat) : Int) * 285870213051353865) = ((2 ^ k * 285870213051353865 % 18446744073709551616 : Nat) : Int) := by
        generalize 2 ^ k = q
        rw [wrapF_eq]
        unfold IntKind.wrap IntKind.signed IntKind.bits
        simp only [Bool.false_and, Bool.false_eq_true, if_false]
        omega
      rw [e1, shr_nat (by omega) (by omega), Int.toNat_natCast, ← hidx]
      unfold shrN
      rw [Nat.shiftRight_eq_div_pow]
    rw [hidx] at hta hix
    have hi1 : (0 : Int) ≤ (idx : Int) ∧ (idx : Int) < 64 := ⟨Int.natCast_nonneg _, Int.ofNat_lt.2 hix⟩
    clear hidx l1
    generalize 2 ^ k = q at ha hf
    have hl64 : (tab.map (Value.int .u8)).length = 64 := rfl
    have wk : wrapF .i64 (k : Int) = (k : Int) := wrapI (by omega) (by omega)
    have hki : (idx : Int).toNat = idx := Int.toNat_natCast idx
    simp (disch := (first | omega | rfl | (simp only [Yn]; omega))) only [↓reduceIte, reduceCtorEq, Za, Zb, Zc, Zd, Ze, Zf, Zg, Zh, Zi, Zj, Zk, Zl, Zm, Zn, Zo, Zp, Zq, Zr, Zs, Zt, Zu, Zv, gval, Zw, rb0, rb1, rb2, rb3, rb4, tf0, tf1, tf2, tf3, Yk, Yh, overL_one, if_pos, stX_exactN, Tryz.f109, un_neg, h0', hn, ha, hf, hi1, ht, hta, hl64, wk, Nat.mul_one]
    exact hR
set_option maxRecDepth 100000 in
theorem free_spec (h56 : (sp 84).isNone = true) (h70 : (sp 109).isNone = true) (ht : h.get 1 = some (tabBlk .u8 tab)) {p : Nat} (hp : p < 18446744073709551616) {v : Value} (hR : R (.ret (.int .i64 (lowZ p))) h) :
    WF Tryz.prog 2 sp 84 [.int .u64 (p : Int), v] h R := by
  refine wf_fn (fn := Tryz.f84) h56 rfl (by kernel_rfl) rfl ?_
  simp only [↓reduceIte, reduceCtorEq, Za, Zb, Zc, Zd, Ze, Zf, Zg, Zh, Zi, Zj, Zk, Zl, Zm, Zn, Zo, Zp, Zq, Zr, Zs, Zt, Zu, Zv, gval, Zw, rb0, rb1, rb2, rb3, rb4, tf0, tf1, tf2, tf3, Yk, Tryz.f84, un_xor hp]
  refine runC_of (tz_spec h70 ht hp ?_)
  simp only [↓reduceIte, reduceCtorEq, Za, Zb, Zc, Zd, Ze, Zf, Zg, Zh, Zi, Zj, Zk, Zl, Zm, Zn, Zo, Zp, Zq, Zr, Zs, Zt, Zu, Zv, gval, Zw, rb0, rb1, rb2, rb3, rb4, tf0, tf1, tf2, tf3, Yk]
  exact hR
set_option maxRecDepth 100000 in
theorem set_spec (h60 : (sp 86).isNone = true) {p i : Nat} (hp : p < 18446744073709551616) (hi : i < 64) {on : Bool} (hR : R (.ret (.int .u64 ((cond on (p ||| bitN i) (without p (bitN i)) : Nat) : Int))) h) :
    WF Tryz.prog 2 sp 86 [.int .u64 (p : Int), .int .i64 i, .bool on] h R := by
  refine wf_fn (fn := Tryz.f86) h60 rfl (by kernel_rfl) rfl ?_
  have hb := bitN_lt hi
  cases on with
  | true =>
    have ho := or_u64 (a := (p : Int)) (b := (bitN i : Int)) (by omega) (by omega) (by omega) (by omega)
    rw [Int.toNat_natCast, Int.toNat_natCast] at ho
    simp (disch := omega) only [↓reduceIte, reduceCtorEq, Za, Zb, Zc, Zd, Ze, Zf, Zg, Zh, Zi, Zj, Zk, Zl, Zm, Zn, Zo, Zp, Zq, Zr, Zs, Zt, Zu, Zv, gval, Zw, rb0, rb1, rb2, rb3, rb4, tf0, tf1, tf2, tf3, Yk, Tryz.f86, if_pos, shl1_nat, ho]
    exact hR
  | false =>
    have ho := andNot_u64 (a := (p : Int)) (b := (bitN i : Int)) (by omega) (by omega) (by omega) (by omega)
    rw [Int.toNat_natCast, Int.toNat_natCast] at ho
    simp (disch := omega) only [↓reduceIte, reduceCtorEq, Za, Zb, Zc, Zd, Ze, Zf, Zg, Zh, Zi, Zj, Zk, Zl, Zm, Zn, Zo, Zp, Zq, Zr, Zs, Zt, Zu, Zv, gval, Zw, rb0, rb1, rb2, rb3, rb4, tf0, tf1, tf2, tf3, Yk, Tryz.f86, if_pos, shl1_nat, ho]
    exact hR
theorem and_nat {a b : Nat} (ha : a < 18446744073709551616) (hb : b < 18446744073709551616) : IntKind.u64.wrap ((BitVec.ofInt IntKind.u64.bits (a : Int) &&& BitVec.ofInt IntKind.u64.bits (b : Int)).toNat : Int) = ((a &&& b : Nat) : Int) := by
  have := and_u64 (a := (a : Int)) (b := (b : Int)) (by omega) (by omega) (by omega) (by omega)
  rwa [Int.toNat_natCast, Int.toNat_natCast] at this
theorem and127 {a : Nat} (ha : a < 9223372036854775808) : IntKind.i64.wrap ((BitVec.ofInt IntKind.i64.bits (a : Int) &&& BitVec.ofInt IntKind.i64.bits (127 : Int)).toNat : Int) = ((a % 128 : Nat) : Int) := by
  show IntKind.i64.wrap ((BitVec.ofInt 64 (a : Int) &&& BitVec.ofInt 64 (127 : Int)).toNat : Int) = _
  rw [BitVec.toNat_and, ofInt_toNat (by omega) (by omega), ofInt_toNat (by omega) (by omega), Int.toNat_natCast]
  have : a &&& (127 : Int).toNat = a % 128 := Nat.and_two_pow_sub_one_eq_mod a 7
  rw [this]
  unfold IntKind.wrap IntKind.signed IntKind.bits
  simp only [Bool.true_and, decide_eq_true_eq]
  split <;> omega
set_option maxRecDepth 100000 in
theorem ones_spec (h58 : (sp 67).isNone = true) {p : Nat} (hp : p < 18446744073709551616) (hR : R (.ret (.int .i64 (popc 64 p))) h) :
    WF Tryz.prog 2 sp 67 [.int .u64 (p : Int)] h R := by
  refine wf_fn (fn := Tryz.f67) h58 rfl (by kernel_rfl) rfl ?_
  obtain ⟨y, y1, y2, y3, hy, hy1, hy2, hy3, hlt, hpc⟩ := pop_sum p
  rw [← hpc] at hR
  have r0 : rep 85 8 = 6148914691236517205 := rfl
  have r1 : rep 51 8 = 3689348814741910323 := rfl
  have r2 : rep 15 8 = 1085102592571150095 := rfl
  have m0 : ((6148914691236517205 : Nat) : Int) = 6148914691236517205 := rfl
  have m1 : ((3689348814741910323 : Nat) : Int) = 3689348814741910323 := rfl
  have m2 : ((1085102592571150095 : Nat) : Int) = 1085102592571150095 := rfl
  obtain ⟨s1, hs1⟩ : ∃ s1, popS1 8 p = s1 := ⟨_, rfl⟩
  obtain ⟨s2, hs2⟩ : ∃ s2, popS2 8 s1 = s2 := ⟨_, rfl⟩
  have hy' : popS3 8 s2 = y := by rw [hy, ← hs2, ← hs1]; rfl
  unfold popS1 at hs1
  unfold popS2 at hs2
  unfold popS3 at hy'
  rw [r0] at hs1
  rw [r1] at hs2
  rw [r2] at hy'
  have shr : ∀ a s : Nat, s < 64 → ((a : Int)).fdiv (2 ^ (min s IntKind.u64.bits)) = ((a / 2 ^ s : Nat) : Int) := fun a s hs => by
    rw [shr_nat (by omega) hs, Int.toNat_natCast]
    unfold shrN
    rw [Nat.shiftRight_eq_div_pow]
  have a1 := shr p 1 (by omega)
  have a2 := and_nat (a := p / 2) (b := 6148914691236517205) (by omega) (by omega)
  have a3 := and_nat (a := p) (b := 6148914691236517205) (by omega) (by omega)
  have l1 : p / 2 &&& 6148914691236517205 ≤ 6148914691236517205 := Nat.and_le_right
  have l2 : p &&& 6148914691236517205 ≤ 6148914691236517205 := Nat.and_le_right
  generalize p / 2 &&& 6148914691236517205 = q1 at *
  generalize p &&& 6148914691236517205 = q2 at *
  have a4 : wrapF .u64 ((q1 : Int) + (q2 : Int)) = (s1 : Int) := by rw [← hs1, wrapU (by omega) (by omega)]; omega
  have a5 := shr s1 2 (by omega)
  have a6 := and_nat (a := s1 / 4) (b := 3689348814741910323) (by omega) (by omega)
  have a7 := and_nat (a := s1) (b := 3689348814741910323) (by omega) (by omega)
  have l3 : s1 / 4 &&& 3689348814741910323 ≤ 3689348814741910323 := Nat.and_le_right
  have l4 : s1 &&& 3689348814741910323 ≤ 3689348814741910323 := Nat.and_le_right
  generalize s1 / 4 &&& 3689348814741910323 = q3 at *
  generalize s1 &&& 3689348814741910323 = q4 at *
  have a8 : wrapF .u64 ((q3 : Int) + (q4 : Int)) = (s2 : Int) := by rw [← hs2, wrapU (by omega) (by omega)]; omega
  have a9 := shr s2 4 (by omega)
  have b1 : wrapF .u64 (((s2 / 2 ^ 4 : Nat) : Int) + (s2 : Int)) = ((s2 / 16 + s2 : Nat) : Int) := by rw [wrapU (by omega) (by omega)]; omega
  have b2 := and_nat (a := s2 / 16 + s2) (b := 1085102592571150095) (by omega) (by omega)
  have l5 : s2 / 16 + s2 &&& 1085102592571150095 ≤ 1085102592571150095 := Nat.and_le_right
  rw [hy'] at b2 l5
  have b3 := shr y 8 (by omega)
  have b4 : wrapF .u64 ((y : Int) + ((y / 2 ^ 8 : Nat) : Int)) = (y1 : Int) := by rw [wrapU (by omega) (by omega)]; omega
  have b5 := shr y1 16 (by omega)
  have b6 : wrapF .u64 ((y1 : Int) + ((y1 / 2 ^ 16 : Nat) : Int)) = (y2 : Int) := by rw [wrapU (by omega) (by omega)]; omega
  have b7 := shr y2 32 (by omega)
  have b8 : wrapF .u64 ((y2 : Int) + ((y2 / 2 ^ 32 : Nat) : Int)) = (y3 : Int) := by rw [wrapU (by omega) (by omega)]; omega
  have b9 : wrapF .i64 (y3 : Int) = (y3 : Int) := wrapI (by omega) (by omega)
  have c1 := and127 hlt
  rw [m0] at a2 a3
  rw [m1] at a6 a7
  rw [m2] at b2
  simp only [↓reduceIte, reduceCtorEq, Za, Zb, Zc, Zd, Ze, Zf, Zg, Zh, Zi, Zj, Zk, Zl, Zm, Zn, Zo, Zp, Zq, Zr, Zs, Zt, Zu, Zv, gval, Zw, rb0, rb1, rb2, rb3, rb4, tf0, tf1, tf2, tf3, Yk, Tryz.f67, a1, a2, a3, a4, a5, a6, a7, a8, a9, b1, b2, b3, b4, b5, b6, b7, b8, b9, c1]
  exact hR
end Go.Proofs.YtbgminppkacdlaaGreatDoor
end
section
/- Bitmaps of one word: New, Of, in, Mark, Take, Left, Words. Conditions: the map lies as the rule names. -/
namespace Go.Proofs.YtbgminppkacdlaaGreatDoor
open Go.AM
open Nat renaming reduceBEq → Za, reduceEqDiff → Zb, reduceAdd → Zc, reduceSub → Zd, reduceMul → Ze, reduceLT → Zf, reduceLeDiff → Zg, reduceDiv → Zh, reduceMod → Zi, reducePow → Zj
open Int renaming reduceAdd → Zk, reduceSub → Zl, reduceMul → Zm, reduceLT → Zn, reduceLE → Zo, reduceEq → Zp, reduceNe → Zq, reduceNeg → Zr, reduceToNat → Zs, reduceDiv → Zt, reduceMod → Zu, reducePow → Zv, cast_ofNat_Int → Zw
set_option linter.unusedSimpArgs false
variable {sp : Special} {h : Heap} {R : Out → Heap → Prop}
structure MapAt (h : Heap) (p lb n w : Nat) : Prop where
  m : h.get p = some (cellsB [.int .i64 n, .slice (some ⟨lb, 0, none⟩) 1 1] .exact)
  l : h.get lb = some (cellsB [.int .u64 w] .exact)
  n1 : 1 ≤ n
  n2 : n < 64
  w : w < bitN n
theorem MapAt.lt {p lb n w : Nat} (x : MapAt h p lb n w) : w < 18446744073709551616 := Nat.lt_trans x.w (bitN_lt x.n2)
theorem MapAt.keep {h' : Heap} {p lb n w : Nat} (x : MapAt h p lb n w) (h1 : h'.get p = h.get p) (h2 : h'.get lb = h.get lb) : MapAt h' p lb n w := ⟨h1.trans x.m, h2.trans x.l, x.n1, x.n2, x.w⟩
theorem MapAt.ne {p lb n w : Nat} (x : MapAt h p lb n w) : p ≠ lb := fun e => by
  have := x.m
  rw [e, x.l] at this
  unfold cellsB at this
  injection this with this
  injection this with _ e _
  cases e
set_option maxRecDepth 100000 in
theorem min_spec (h59 : (sp 85).isNone = true) {p lb n w : Nat} (m : MapAt h p lb n w) {i : Int} (hR : R (.ret (.bool (decide (0 ≤ i ∧ i < n)))) h) : WF Tryz.prog 2 sp 85 [.pointer (some ⟨p, 0, none⟩), .int .i64 i] h R := by
  refine wf_fn (fn := Tryz.f85) h59 rfl (by kernel_rfl) rfl ?_
  by_cases c1 : 0 ≤ i
  · by_cases c2 : i < n
    · simp only [↓reduceIte, reduceCtorEq, Za, Zb, Zc, Zd, Ze, Zf, Zg, Zh, Zi, Zj, Zk, Zl, Zm, Zn, Zo, Zp, Zq, Zr, Zs, Zt, Zu, Zv, gval, Zw, rb0, rb1, rb2, rb3, rb4, tf0, tf1, tf2, tf3, Yk, Tryz.f85, c1, c2, m.m]
      rw [decide_eq_true ⟨c1, c2⟩] at hR
      exact hR
    · simp only [↓reduceIte, reduceCtorEq, Za, Zb, Zc, Zd, Ze, Zf, Zg, Zh, Zi, Zj, Zk, Zl, Zm, Zn, Zo, Zp, Zq, Zr, Zs, Zt, Zu, Zv, gval, Zw, rb0, rb1, rb2, rb3, rb4, tf0, tf1, tf2, tf3, Yk, Tryz.f85, c1, c2, m.m]
      rw [decide_eq_false (fun h => c2 h.2)] at hR
      exact hR
  · simp only [↓reduceIte, reduceCtorEq, Za, Zb, Zc, Zd, Ze, Zf, Zg, Zh, Zi, Zj, Zk, Zl, Zm, Zn, Zo, Zp, Zq, Zr, Zs, Zt, Zu, Zv, gval, Zw, rb0, rb1, rb2, rb3, rb4, tf0, tf1, tf2, tf3, Yk, Tryz.f85, c1, m.m, runG_undef]
    rw [decide_eq_false (fun h => c1 h.1)] at hR
    exact hR
set_option maxRecDepth 100000 in
theorem mnew_spec (h69 : (sp 89).isNone = true) {n : Nat} (h1 : 1 ≤ n) (h2 : n < 64) (hR : ∀ h', h'.nx = h.nx + 2 → MapAt h' (h.nx + 1) h.nx n 0 → (∀ b, b < h.nx → h'.get b = h.get b) → R (.ret (.pointer (some ⟨h.nx + 1, 0, none⟩))) h') : WF Tryz.prog 2 sp 89 [.int .i64 n] h R := by
  refine wf_fn (fn := Tryz.f89) h69 rfl (by kernel_rfl) rfl ?_
  have c1 : ¬ (n : Int) < 1 := by omega
  have c2 : ¬ (1024 : Int) < (n : Int) := by omega
  have w1 : wrapF .i64 ((n : Int) + 63) = ((n + 63 : Nat) : Int) := by rw [wrapI (by omega) (by omega)]; omega
  have w2 : ((n + 63 : Nat) : Int).tdiv 64 = 1 := by rw [Int.tdiv_eq_ediv_of_nonneg (by omega)]; omega
  have w3 : wrapF .i64 1 = 1 := wrapI (by omega) (by omega)
  have hrow : mkRow [Value.int .u64 0] 1 = cellsB [.int .u64 ((0 : Nat) : Int)] .exact := mkRow_eq _ _ (by omega)
  simp only [↓reduceIte, reduceCtorEq, Za, Zb, Zc, Zd, Ze, Zf, Zg, Zh, Zi, Zj, Zk, Zl, Zm, Zn, Zo, Zp, Zq, Zr, Zs, Zt, Zu, Zv, gval, Zw, rb0, rb1, rb2, rb3, rb4, tf0, tf1, tf2, tf3, Yk, Tryz.f89, c1, c2, w1, w2, w3, hrow]
  refine hR _ (by rw [Heap.nx_new, Heap.nx_new]) ⟨?_, ?_, h1, h2, Nat.two_pow_pos _⟩ fun b hb => ?_
  · rw [Heap.get_new_at _ (by rw [Heap.nx_new]; omega)]
  · rw [Heap.get_new_ne _ _ (by rw [Heap.nx_new]; omega), Heap.get_new_same]; rfl
  · rw [Heap.get_new_ne _ _ (by rw [Heap.nx_new]; omega), Heap.get_new_ne _ _ (by omega)]
set_option maxRecDepth 100000 in
theorem mof_spec (h55 : (sp 66).isNone = true) (h69 : (sp 89).isNone = true) {n w : Nat} (h1 : 1 ≤ n) (h2 : n < 64) (hw : w < bitN n) {b off c : Nat} {X : List Value} {k : Kind} (hX : h.get b = some (cellsB X k)) (hXw : X[off]? = some (.int .u64 (w : Int))) (hbn : b < h.nx)
    (hR : ∀ h', h'.nx = h.nx + 2 → MapAt h' (h.nx + 1) h.nx n w → (∀ b, b < h.nx → h'.get b = h.get b) → R (.ret (.tuple #[.pointer (some ⟨h.nx + 1, 0, none⟩), .int .i64 0])) h') : WF Tryz.prog 2 sp 66 [.int .i64 n, .slice (some ⟨b, off, none⟩) 1 c] h R := by
  refine wf_fn (fn := Tryz.f66) h55 rfl (by kernel_rfl) rfl ?_
  simp only [↓reduceIte, reduceCtorEq, Za, Zb, Zc, Zd, Ze, Zf, Zg, Zh, Zi, Zj, Zk, Zl, Zm, Zn, Zo, Zp, Zq, Zr, Zs, Zt, Zu, Zv, gval, Zw, rb0, rb1, rb2, rb3, rb4, tf0, tf1, tf2, tf3, Yk, Tryz.f66]
  refine runC_of (mnew_spec h69 h1 h2 fun h3 n3 m3 k3 => ?_)
  have hX3 := (k3 b hbn).trans hX
  simp (disch := (first | omega | rfl | (simp only [Yn]; omega))) only [↓reduceIte, reduceCtorEq, Za, Zb, Zc, Zd, Ze, Zf, Zg, Zh, Zi, Zj, Zk, Zl, Zm, Zn, Zo, Zp, Zq, Zr, Zs, Zt, Zu, Zv, gval, Zw, rb0, rb1, rb2, rb3, rb4, tf0, tf1, tf2, tf3, Yk, Yh, overL_one, if_pos, stX_exactN, m3.m, show ((1 : Int) == 1) = true from rfl]
  refine Run.loop rfl ?_
  have hlX : off < X.length := by
    by_cases q : off < X.length
    · exact q
    · rw [List.getElem?_eq_none (by omega)] at hXw; cases hXw
  have z1 : wrapF .i64 1 = 1 := wrapI (by omega) (by omega)
  simp (disch := (first | omega | rfl | (simp only [Yn]; omega))) only [↓reduceIte, reduceCtorEq, Za, Zb, Zc, Zd, Ze, Zf, Zg, Zh, Zi, Zj, Zk, Zl, Zm, Zn, Zo, Zp, Zq, Zr, Zs, Zt, Zu, Zv, gval, Zw, rb0, rb1, rb2, rb3, rb4, tf0, tf1, tf2, tf3, Yk, Yh, overL_one, if_pos, stX_exactN, m3.m, m3.l, hX3, hXw, hlX, Nat.mul_one, z1]
  refine Run.loop rfl ?_
  obtain ⟨h4, hh4⟩ : ∃ h4, h3.upd h.nx (cellsB [.int .u64 (w : Int)] .exact) = h4 := ⟨_, rfl⟩
  have m4 : MapAt h4 (h.nx + 1) h.nx n w := ⟨by rw [← hh4, Heap.get_upd_ne _ _ (by omega)]; exact m3.m, by rw [← hh4, Heap.get_upd_same], h1, h2, hw⟩
  have n4 : h4.nx = h.nx + 2 := by rw [← hh4, Heap.nx_upd, n3]
  have k4 : ∀ b, b < h.nx → h4.get b = h.get b := fun b hb => by rw [← hh4, Heap.get_upd_ne _ _ (by omega)]; exact k3 b hb
  have hm : (n : Int).tmod 64 = n := by rw [Int.tmod_eq_emod_of_nonneg (by omega)]; omega
  have e1 : wrapF .i64 (n : Int) = n := wrapI (by omega) (by omega)
  have c1 : (0 : Int) < (n : Int) := by omega
  have c0 : (0 : Int) ≤ (n : Int) := by omega
  have hsh : ((w : Int)).fdiv (2 ^ (min n IntKind.u64.bits)) = 0 := by
    rw [shr_nat (by omega) h2, Int.toNat_natCast]
    unfold shrN
    rw [Nat.shiftRight_eq_div_pow, Nat.div_eq_of_lt (show w < 2 ^ n from hw)]; rfl
  have z2 : wrapF .i64 0 = 0 := wrapI (by omega) (by omega)
  rw [hh4]
  have q11 : ¬ (1 : Int) < 1 := by decide
  simp (disch := (first | omega | rfl | (simp only [Yn]; omega))) only [↓reduceIte, reduceCtorEq, Za, Zb, Zc, Zd, Ze, Zf, Zg, Zh, Zi, Zj, Zk, Zl, Zm, Zn, Zo, Zp, Zq, Zr, Zs, Zt, Zu, Zv, gval, Zw, rb0, rb1, rb2, rb3, rb4, tf0, tf1, tf2, tf3, Yk, Yh, overL_one, if_pos, stX_exactN, hm, e1, z1, q11]
  refine run_draw (ps := [(6, 11)]) (by kernel_rfl) (by kernel_rfl) ?_
  simp (disch := (first | omega | rfl | (simp only [Yn]; omega))) only [↓reduceIte, reduceCtorEq, Za, Zb, Zc, Zd, Ze, Zf, Zg, Zh, Zi, Zj, Zk, Zl, Zm, Zn, Zo, Zp, Zq, Zr, Zs, Zt, Zu, Zv, gval, Zw, rb0, rb1, rb2, rb3, rb4, tf0, tf1, tf2, tf3, Yk, Yh, overL_one, if_pos, stX_exactN, m4.m, m4.l, c1, c0, hsh, z2, show ((0 : Int) == 0) = true from rfl, Nat.mul_one]
  exact hR h4 n4 m4 k4
theorem with_bit {w n i : Nat} (hw : w < bitN n) (hi : i < n) : w ||| bitN i < bitN n := Nat.or_lt_two_pow hw (Nat.pow_lt_pow_right (by omega) hi)
theorem without_le (a b : Nat) : without a b ≤ a % 18446744073709551616 := by
  unfold without
  rw [BitVec.toNat_and, BitVec.toNat_ofNat]
  exact Nat.and_le_left
theorem without_bit {w n : Nat} (b : Nat) (hw : w < bitN n) (hn : n < 64) : without w b < bitN n := by
  have h1 := without_le w b
  have h2 := bitN_lt hn
  rw [Nat.mod_eq_of_lt (Nat.lt_trans hw h2)] at h1
  exact Nat.lt_of_le_of_lt h1 hw
def markW (w i : Nat) (on : Bool) : Nat := cond on (w ||| bitN i) (without w (bitN i))
theorem markW_lt {w n i : Nat} {on : Bool} (hw : w < bitN n) (hi : i < n) (hn : n < 64) : markW w i on < bitN n := by
  cases on with
  | true => exact with_bit hw hi
  | false => exact without_bit _ hw hn
set_option maxRecDepth 100000 in
theorem mark_spec (pl : Plain sp) {p lb n w i : Nat} (m : MapAt h p lb n w) (hi : i < n) {on : Bool} (hR : MapAt (h.upd lb (cellsB [.int .u64 (markW w i on : Nat)] .exact)) p lb n (markW w i on) → R (.ret (.int .i64 0)) (h.upd lb (cellsB [.int .u64 (markW w i on : Nat)] .exact))) :
    WF Tryz.prog 2 sp 63 [.pointer (some ⟨p, 0, none⟩), .int .i64 i, .bool on] h R := by
  refine wf_fn (fn := Tryz.f63) pl.p42 rfl (by kernel_rfl) rfl ?_
  have hn2 := m.n2
  simp only [↓reduceIte, reduceCtorEq, Za, Zb, Zc, Zd, Ze, Zf, Zg, Zh, Zi, Zj, Zk, Zl, Zm, Zn, Zo, Zp, Zq, Zr, Zs, Zt, Zu, Zv, gval, Zw, rb0, rb1, rb2, rb3, rb4, tf0, tf1, tf2, tf3, Yk, Tryz.f63]
  refine runC_of (min_spec pl.p59 m ?_)
  rw [decide_eq_true (show 0 ≤ (i : Int) ∧ (i : Int) < n by omega)]
  simp only [↓reduceIte, reduceCtorEq, Za, Zb, Zc, Zd, Ze, Zf, Zg, Zh, Zi, Zj, Zk, Zl, Zm, Zn, Zo, Zp, Zq, Zr, Zs, Zt, Zu, Zv, gval, Zw, rb0, rb1, rb2, rb3, rb4, tf0, tf1, tf2, tf3, Yk]
  have hq : (i : Int).tdiv 64 = 0 := by rw [Int.tdiv_eq_ediv_of_nonneg (by omega)]; omega
  have hr : (i : Int).tmod 64 = i := by rw [Int.tmod_eq_emod_of_nonneg (by omega)]; omega
  have z0 : wrapF .i64 0 = 0 := wrapI (by omega) (by omega)
  have zi : wrapF .i64 (i : Int) = i := wrapI (by omega) (by omega)
  refine run_draw (ps := [(3, 17), (5, 17)]) (by kernel_rfl) (by kernel_rfl) ?_
  simp (disch := (first | omega | rfl | (simp only [Yn]; omega))) only [↓reduceIte, reduceCtorEq, Za, Zb, Zc, Zd, Ze, Zf, Zg, Zh, Zi, Zj, Zk, Zl, Zm, Zn, Zo, Zp, Zq, Zr, Zs, Zt, Zu, Zv, gval, Zw, rb0, rb1, rb2, rb3, rb4, tf0, tf1, tf2, tf3, Yk, Yh, overL_one, if_pos, stX_exactN, m.m, m.l, hq, hr, z0, zi, Nat.mul_one]
  refine runCR_of (set_spec pl.p60 m.lt (by omega) ?_)
  simp (disch := (first | omega | rfl | (simp only [Yn]; omega))) only [↓reduceIte, reduceCtorEq, Za, Zb, Zc, Zd, Ze, Zf, Zg, Zh, Zi, Zj, Zk, Zl, Zm, Zn, Zo, Zp, Zq, Zr, Zs, Zt, Zu, Zv, gval, Zw, rb0, rb1, rb2, rb3, rb4, tf0, tf1, tf2, tf3, Yk, Yh, overL_one, if_pos, stX_exactN, m.m, m.l, hq, hr, z0, zi, Nat.mul_one]
  exact hR ⟨by rw [Heap.get_upd_ne _ _ m.ne]; exact m.m, by rw [Heap.get_upd_same], m.n1, m.n2, markW_lt m.w hi m.n2⟩
set_option maxRecDepth 100000 in
theorem take_spec (pl : Plain sp) (ht : h.get 1 = some (tabBlk .u8 tab)) {p lb n w : Nat} (m : MapAt h p lb n w)
    (hno : ¬ lowZ w < n → R (.ret (.int .i64 (-1))) h)
    (hok : lowZ w < n → MapAt (h.upd lb (cellsB [.int .u64 (markW w (lowZ w) true : Nat)] .exact)) p lb n (markW w (lowZ w) true) → R (.ret (.int .i64 (lowZ w))) (h.upd lb (cellsB [.int .u64 (markW w (lowZ w) true : Nat)] .exact))) :
    WF Tryz.prog 2 sp 62 [.pointer (some ⟨p, 0, none⟩)] h R := by
  refine wf_fn (fn := Tryz.f62) pl.p37 rfl (by kernel_rfl) rfl ?_
  have hn2 := m.n2
  have hwl : w < 18446744073709551615 := by have := m.w; have : bitN n ≤ 2 ^ 63 := Nat.pow_le_pow_right (by omega) (by omega); omega
  have hl := (lowZ_spec hwl).1
  simp (disch := (first | omega | rfl | (simp only [Yn]; omega))) only [↓reduceIte, reduceCtorEq, Za, Zb, Zc, Zd, Ze, Zf, Zg, Zh, Zi, Zj, Zk, Zl, Zm, Zn, Zo, Zp, Zq, Zr, Zs, Zt, Zu, Zv, gval, Zw, rb0, rb1, rb2, rb3, rb4, tf0, tf1, tf2, tf3, Yk, Yh, overL_one, if_pos, stX_exactN, Tryz.f62, m.m, m.l]
  refine Run.loop rfl ?_
  simp (disch := (first | omega | rfl | (simp only [Yn]; omega))) only [↓reduceIte, reduceCtorEq, Za, Zb, Zc, Zd, Ze, Zf, Zg, Zh, Zi, Zj, Zk, Zl, Zm, Zn, Zo, Zp, Zq, Zr, Zs, Zt, Zu, Zv, gval, Zw, rb0, rb1, rb2, rb3, rb4, tf0, tf1, tf2, tf3, Yk, Yh, overL_one, if_pos, stX_exactN, m.l, Nat.mul_one]
  refine runC_of (free_spec pl.p56 pl.p70 ht m.lt ?_)
  have z0 : wrapF .i64 0 = 0 := wrapI (by omega) (by omega)
  have z1 : wrapF .i64 1 = 1 := wrapI (by omega) (by omega)
  have z64 : wrapF .i64 64 = 64 := wrapI (by omega) (by omega)
  have zl : wrapF .i64 (lowZ w : Int) = lowZ w := wrapI (by omega) (by omega)
  have zl' : wrapF .i64 (0 + (lowZ w : Int)) = lowZ w := by rw [Int.zero_add, zl]
  have c64 : (lowZ w : Int) < 64 := by omega
  have q11 : ¬ (1 : Int) < 1 := by decide
  by_cases c : lowZ w < n
  · have c1 : (lowZ w : Int) < (n : Int) := by omega
    simp (disch := (first | omega | rfl | (simp only [Yn]; omega))) only [↓reduceIte, reduceCtorEq, Za, Zb, Zc, Zd, Ze, Zf, Zg, Zh, Zi, Zj, Zk, Zl, Zm, Zn, Zo, Zp, Zq, Zr, Zs, Zt, Zu, Zv, gval, Zw, rb0, rb1, rb2, rb3, rb4, tf0, tf1, tf2, tf3, Yk, Yh, overL_one, if_pos, stX_exactN, z0, z64, zl, zl', c64, m.m, c1]
    refine runC_of (mark_spec pl m c fun m2 => ?_)
    simp only [↓reduceIte, reduceCtorEq, Za, Zb, Zc, Zd, Ze, Zf, Zg, Zh, Zi, Zj, Zk, Zl, Zm, Zn, Zo, Zp, Zq, Zr, Zs, Zt, Zu, Zv, gval, Zw, rb0, rb1, rb2, rb3, rb4, tf0, tf1, tf2, tf3, Yk]
    exact hok c m2
  · have c1 : ¬ (lowZ w : Int) < (n : Int) := by omega
    simp (disch := (first | omega | rfl | (simp only [Yn]; omega))) only [↓reduceIte, reduceCtorEq, Za, Zb, Zc, Zd, Ze, Zf, Zg, Zh, Zi, Zj, Zk, Zl, Zm, Zn, Zo, Zp, Zq, Zr, Zs, Zt, Zu, Zv, gval, Zw, rb0, rb1, rb2, rb3, rb4, tf0, tf1, tf2, tf3, Yk, Yh, overL_one, if_pos, stX_exactN, z0, z1, z64, zl, zl', c64, m.m, c1]
    refine Run.loop rfl ?_
    simp (disch := (first | omega | rfl | (simp only [Yn]; omega))) only [↓reduceIte, reduceCtorEq, Za, Zb, Zc, Zd, Ze, Zf, Zg, Zh, Zi, Zj, Zk, Zl, Zm, Zn, Zo, Zp, Zq, Zr, Zs, Zt, Zu, Zv, gval, Zw, rb0, rb1, rb2, rb3, rb4, tf0, tf1, tf2, tf3, Yk, Yh, overL_one, if_pos, stX_exactN, q11]
    exact hno c
set_option maxRecDepth 100000 in
theorem left_spec (pl : Plain sp) {p lb n w : Nat} (m : MapAt h p lb n w) (hR : R (.ret (.int .i64 ((n : Int) - popc 64 w))) h) :
    WF Tryz.prog 2 sp 41 [.pointer (some ⟨p, 0, none⟩)] h R := by
  refine wf_fn (fn := Tryz.f41) pl.p41 rfl (by kernel_rfl) rfl ?_
  have hn2 := m.n2
  have hp := popc_le 64 w
  simp (disch := (first | omega | rfl | (simp only [Yn]; omega))) only [↓reduceIte, reduceCtorEq, Za, Zb, Zc, Zd, Ze, Zf, Zg, Zh, Zi, Zj, Zk, Zl, Zm, Zn, Zo, Zp, Zq, Zr, Zs, Zt, Zu, Zv, gval, Zw, rb0, rb1, rb2, rb3, rb4, tf0, tf1, tf2, tf3, Yk, Yh, overL_one, if_pos, stX_exactN, Tryz.f41, m.m, m.l]
  refine Run.loop rfl ?_
  simp (disch := (first | omega | rfl | (simp only [Yn]; omega))) only [↓reduceIte, reduceCtorEq, Za, Zb, Zc, Zd, Ze, Zf, Zg, Zh, Zi, Zj, Zk, Zl, Zm, Zn, Zo, Zp, Zq, Zr, Zs, Zt, Zu, Zv, gval, Zw, rb0, rb1, rb2, rb3, rb4, tf0, tf1, tf2, tf3, Yk, Yh, overL_one, if_pos, stX_exactN, m.l, Nat.mul_one]
  refine runC_of (ones_spec pl.p58 m.lt ?_)
  have z1 : wrapF .i64 1 = 1 := wrapI (by omega) (by omega)
  have zl : wrapF .i64 ((n : Int) - popc 64 w) = (n : Int) - popc 64 w := wrapI (by omega) (by omega)
  have q11 : ¬ (1 : Int) < 1 := by decide
  simp (disch := (first | omega | rfl | (simp only [Yn]; omega))) only [↓reduceIte, reduceCtorEq, Za, Zb, Zc, Zd, Ze, Zf, Zg, Zh, Zi, Zj, Zk, Zl, Zm, Zn, Zo, Zp, Zq, Zr, Zs, Zt, Zu, Zv, gval, Zw, rb0, rb1, rb2, rb3, rb4, tf0, tf1, tf2, tf3, Yk, Yh, overL_one, if_pos, stX_exactN, z1, zl]
  refine Run.loop rfl ?_
  simp (disch := (first | omega | rfl | (simp only [Yn]; omega))) only [↓reduceIte, reduceCtorEq, Za, Zb, Zc, Zd, Ze, Zf, Zg, Zh, Zi, Zj, Zk, Zl, Zm, Zn, Zo, Zp, Zq, Zr, Zs, Zt, Zu, Zv, gval, Zw, rb0, rb1, rb2, rb3, rb4, tf0, tf1, tf2, tf3, Yk, Yh, overL_one, if_pos, stX_exactN, q11]
  exact hR
theorem bs1_81 (v : Int) (nx : Nat) : effBuildSlice Tryz.prog 50 1 [(0, .int .u64 v)] nx = some ⟨.slice (some ⟨nx, 0, none⟩) 1 1, [], [cellsB [.int .u64 v] .exact]⟩ := by
  rw [u_buildSlice 50 1 nx _ mk_50 (by omega)]; rfl
set_option maxRecDepth 100000 in
theorem mwords_spec (pl : Plain sp) {p lb n w : Nat} (m : MapAt h p lb n w) (hR : ∀ h', h'.nx = h.nx + 2 → h'.get (h.nx + 1) = some (cellsB [.int .u64 w] (.loose 1)) → (∀ b, b < h.nx → h'.get b = h.get b) → R (.ret (.slice (some ⟨h.nx + 1, 0, none⟩) 1 1)) h') :
    WF Tryz.prog 2 sp 87 [.pointer (some ⟨p, 0, none⟩)] h R := by
  refine wf_fn (fn := Tryz.f87) pl.p57 rfl (by kernel_rfl) rfl ?_
  simp (disch := (first | omega | rfl | (simp only [Yn]; omega))) only [↓reduceIte, reduceCtorEq, Za, Zb, Zc, Zd, Ze, Zf, Zg, Zh, Zi, Zj, Zk, Zl, Zm, Zn, Zo, Zp, Zq, Zr, Zs, Zt, Zu, Zv, gval, Zw, rb0, rb1, rb2, rb3, rb4, tf0, tf1, tf2, tf3, Yk, Yh, overL_one, if_pos, stX_exactN, Tryz.f87, m.m, m.l]
  refine Run.loop rfl ?_
  have z1 : wrapF .i64 1 = 1 := wrapI (by omega) (by omega)
  have q11 : ¬ (1 : Int) < 1 := by decide
  have happ := aAppend_nil (P := Tryz.prog) app_50_50 1 (.slice (some ⟨h.nx, 0, none⟩) 1 1) (h.new (cellsB [.int .u64 (w : Int)] .exact)).get (h.nx + 1) rfl (by omega) (by omega) (by rw [firstL_slc _ _ _ _ _ _ _ _ _ (Heap.get_new_same _ _) (by simp)])
  simp (disch := (first | omega | rfl | (simp only [Yn]; omega))) only [↓reduceIte, reduceCtorEq, Za, Zb, Zc, Zd, Ze, Zf, Zg, Zh, Zi, Zj, Zk, Zl, Zm, Zn, Zo, Zp, Zq, Zr, Zs, Zt, Zu, Zv, gval, Zw, rb0, rb1, rb2, rb3, rb4, tf0, tf1, tf2, tf3, Yk, Yh, overL_one, if_pos, stX_exactN, m.l, Nat.mul_one, bs1_81, happ, z1]
  refine Run.loop rfl ?_
  simp (disch := (first | omega | rfl | (simp only [Yn]; omega))) only [↓reduceIte, reduceCtorEq, Za, Zb, Zc, Zd, Ze, Zf, Zg, Zh, Zi, Zj, Zk, Zl, Zm, Zn, Zo, Zp, Zq, Zr, Zs, Zt, Zu, Zv, gval, Zw, rb0, rb1, rb2, rb3, rb4, tf0, tf1, tf2, tf3, Yk, Yh, overL_one, if_pos, stX_exactN, q11]
  refine hR _ (by rw [Heap.nx_new, Heap.nx_new]) (by rw [Heap.get_new_at _ (by rw [Heap.nx_new]; omega)]) fun b hb => ?_
  rw [Heap.get_new_ne _ _ (by rw [Heap.nx_new]; omega), Heap.get_new_ne _ _ (by omega)]
end Go.Proofs.YtbgminppkacdlaaGreatDoor
end
section
/- Inodes: maps, keep, Alloc, Left. Conditions: the disk lies as the rule names. -/
namespace Go.Proofs.YtbgminppkacdlaaGreatDoor
open Go.AM
open Nat renaming reduceBEq → Za, reduceEqDiff → Zb, reduceAdd → Zc, reduceSub → Zd, reduceMul → Ze, reduceLT → Zf, reduceLeDiff → Zg, reduceDiv → Zh, reduceMod → Zi, reducePow → Zj
open Int renaming reduceAdd → Zk, reduceSub → Zl, reduceMul → Zm, reduceLT → Zn, reduceLE → Zo, reduceEq → Zp, reduceNe → Zq, reduceNeg → Zr, reduceToNat → Zs, reduceDiv → Zt, reduceMod → Zu, reducePow → Zv, cast_ofNat_Int → Zw
set_option linter.unusedSimpArgs false
variable {sp : Special} {h : Heap} {R : Out → Heap → Prop} {bd bl : Nat} {s : FS}
theorem foot_slc (t : TypeId) (x : Operand) (k : IntKind) (c : Int) (ρ : Operand → Value) : foot (.slice t x (some (.const (.int k c))) none none) ρ = blkOf (ρ x) ++ (blkOf (ρ (.const (.int k c))) ++ []) := rfl
theorem blk_slc (b o n c : Nat) (_ : Option Nat) : blkOf (.slice (some ⟨b, o, none⟩) n c) = [b] := rfl
theorem blk_int (k : IntKind) (c : Int) : blkOf (.int k c) = [] := rfl
set_option maxRecDepth 100000 in
theorem maps_spec (pl : Plain sp) (f : Fs h bd bl s)
    (hR : ∀ h' pa la pb lb, Fs h' bd bl s → MapAt h' pa la 32 s.a → MapAt h' pb lb s.n s.b → h.nx ≤ la ∧ la < pa ∧ pa < lb ∧ lb < pb ∧ pb < h'.nx → (∀ b', b' < h.nx → b' ≠ bd → h'.get b' = h.get b') → R (.ret (.tuple #[.pointer (some ⟨pa, 0, none⟩), .pointer (some ⟨pb, 0, none⟩), .int .i64 0])) h') :
    WF Tryz.prog 2 sp 40 [.iface 22 (.pointer (some ⟨bd, 0, none⟩))] h R := by
  refine wf_fn (fn := Tryz.f40) pl.p36 rfl (by kernel_rfl) rfl ?_
  have n1 := f.wf.n1
  have n2 := f.wf.n2
  simp only [↓reduceIte, reduceCtorEq, Za, Zb, Zc, Zd, Ze, Zf, Zg, Zh, Zi, Zj, Zk, Zl, Zm, Zn, Zo, Zp, Zq, Zr, Zs, Zt, Zu, Zv, gval, Zw, rb0, rb1, rb2, rb3, rb4, tf0, tf1, tf2, tf3, Yk, Tryz.f40]
  refine runC_of (fget_spec pl f (b := 0) (by omega) fun h1 m1 g1 f1 k1 => ?_)
  have hrl : (u64s (rowD s.D 0)).length = 32 := by rw [List.length_map, rowD_len]
  have r1 : (u64s (rowD s.D 0))[1]? = some (.int .u64 (s.n : Int)) := by rw [List.getElem?_map, rowD_get (by omega)]; rfl
  have r2 : (u64s (rowD s.D 0))[2]? = some (.int .u64 ((s.a : Nat) : Int)) := by rw [List.getElem?_map, rowD_get (by omega)]; rfl
  have r3 : (u64s (rowD s.D 0))[3]? = some (.int .u64 ((s.b : Nat) : Int)) := by rw [List.getElem?_map, rowD_get (by omega)]; rfl
  have w1 : wrapF .i64 (s.n : Int) = s.n := wrapI (by omega) (by omega)
  have c1 : ¬ (s.n : Int) < 1 := by omega
  have c2 : ¬ (1024 : Int) < (s.n : Int) := by omega
  have hsl : slS (some 1) (some ⟨h.nx, 0, none⟩) 32 32 (some (.int .i64 2)) (some (.int .i64 3)) none h1.get = ret (.slice (some ⟨h.nx, 2, none⟩) 1 30) := slS_mid_loose (k := .i64) (k' := .i64) (off := 0) (n := 32) (c := 32) (l := 2) (hi := 3) g1 (by rw [hrl]) (by omega) (by omega)
  simp (disch := (first | omega | rfl | (simp only [Yn]; omega))) only [↓reduceIte, reduceCtorEq, Za, Zb, Zc, Zd, Ze, Zf, Zg, Zh, Zi, Zj, Zk, Zl, Zm, Zn, Zo, Zp, Zq, Zr, Zs, Zt, Zu, Zv, gval, Zw, rb0, rb1, rb2, rb3, rb4, tf0, tf1, tf2, tf3, Yk, Yh, overL_one, if_pos, stX_exactN, show ((0 : Int) == 0) = true from rfl, g1, hrl, r1, w1, c1, c2, hsl]
  refine runC_of (mof_spec pl.p55 pl.p69 (n := 32) (w := s.a) (by omega) (by omega) f.wf.a g1 r2 (by omega) fun h2 m2 a2 k2 => ?_)
  have g2 : h2.get h.nx = some (cellsB (u64s (rowD s.D 0)) (.loose 1)) := (k2 _ (by omega)).trans g1
  have hsl2 : slS (some 1) (some ⟨h.nx, 0, none⟩) 32 32 (some (.int .i64 3)) (some (.int .i64 4)) none h2.get = ret (.slice (some ⟨h.nx, 3, none⟩) 1 29) := slS_mid_loose (k := .i64) (k' := .i64) (off := 0) (n := 32) (c := 32) (l := 3) (hi := 4) g2 (by rw [hrl]) (by omega) (by omega)
  have w2 : wrapF .i64 ((s.n : Int) + 63) = ((s.n + 63 : Nat) : Int) := by rw [wrapI (by omega) (by omega)]; omega
  have w3 : ((s.n + 63 : Nat) : Int).tdiv 64 = 1 := by rw [Int.tdiv_eq_ediv_of_nonneg (by omega)]; omega
  have w4 : wrapF .i64 1 = 1 := wrapI (by omega) (by omega)
  have w5 : wrapF .i64 (3 + 1) = 4 := wrapI (by omega) (by omega)
  have w6 : wrapF .i64 4 = 4 := wrapI (by omega) (by omega)
  simp (disch := (first | omega | rfl | (simp only [Yn]; omega))) only [↓reduceIte, reduceCtorEq, Za, Zb, Zc, Zd, Ze, Zf, Zg, Zh, Zi, Zj, Zk, Zl, Zm, Zn, Zo, Zp, Zq, Zr, Zs, Zt, Zu, Zv, gval, Zw, rb0, rb1, rb2, rb3, rb4, tf0, tf1, tf2, tf3, Yk, Yh, overL_one, if_pos, stX_exactN, w2, w3, w4, w5, w6, hsl2]
  refine runC_of (mof_spec pl.p55 pl.p69 (n := s.n) (w := s.b) (by omega) (by omega) f.wf.b g2 r3 (by omega) fun h3 m3 a3 k3 => ?_)
  simp (disch := (first | omega | rfl | (simp only [Yn]; omega))) only [↓reduceIte, reduceCtorEq, Za, Zb, Zc, Zd, Ze, Zf, Zg, Zh, Zi, Zj, Zk, Zl, Zm, Zn, Zo, Zp, Zq, Zr, Zs, Zt, Zu, Zv, gval, Zw, rb0, rb1, rb2, rb3, rb4, tf0, tf1, tf2, tf3, Yk, Yh, overL_one, if_pos, stX_exactN, show ((0 : Int) == 0) = true from rfl]
  have q1 := f.d.bd_lt
  have q2 := f.d.bl_lt
  exact hR h3 _ _ _ _ (f1.keep (by omega) (by rw [k3 _ (by omega), k2 _ (by omega)]) (by rw [k3 _ (by omega), k2 _ (by omega)])) (a2.keep (k3 _ (by omega)) (k3 _ (by omega))) a3 (by omega) (fun b' h1' h2' => by rw [k3 _ (by omega), k2 _ (by omega)]; exact k1 b' h1' h2')
set_option maxRecDepth 100000 in
theorem keep_spec (pl : Plain sp) (f : Fs h bd bl s) {pa la pb lb a b : Nat} (ma : MapAt h pa la 32 a) (mb : MapAt h pb lb s.n b) (hlt : pa < h.nx ∧ la < h.nx ∧ pb < h.nx ∧ lb < h.nx) (hne : pa ≠ bd ∧ la ≠ bd ∧ pb ≠ bd ∧ lb ≠ bd)
    (hR : ∀ h', Fs h' bd bl (s.maps a b) → h.nx ≤ h'.nx → (∀ b', b' < h.nx → b' ≠ bd → b' ≠ bl → h'.get b' = h.get b') → R (.ret (.int .i64 0)) h') :
    WF Tryz.prog 2 sp 64 [.iface 22 (.pointer (some ⟨bd, 0, none⟩)), .pointer (some ⟨pa, 0, none⟩), .pointer (some ⟨pb, 0, none⟩)] h R := by
  refine wf_fn (fn := Tryz.f64) pl.p38 rfl (by kernel_rfl) rfl ?_
  have n1 := f.wf.n1
  have n2 := f.wf.n2
  have q1 := f.d.bd_lt
  have q2 := f.d.bl_lt
  simp only [↓reduceIte, reduceCtorEq, Za, Zb, Zc, Zd, Ze, Zf, Zg, Zh, Zi, Zj, Zk, Zl, Zm, Zn, Zo, Zp, Zq, Zr, Zs, Zt, Zu, Zv, gval, Zw, rb0, rb1, rb2, rb3, rb4, tf0, tf1, tf2, tf3, Yk, Tryz.f64]
  refine runC_of (fget_spec pl f (b := 0) (by omega) fun h1 m1 g1 f1 k1 => ?_)
  have hrl : (u64s (rowD s.D 0)).length = 32 := by rw [List.length_map, rowD_len]
  have ma1 : MapAt h1 pa la 32 a := ma.keep (k1 _ (by omega) (by omega)) (k1 _ (by omega) (by omega))
  have mb1 : MapAt h1 pb lb s.n b := mb.keep (k1 _ (by omega) (by omega)) (k1 _ (by omega) (by omega))
  have hsl : slS (some 1) (some ⟨h.nx, 0, none⟩) 32 32 (some (.int .i64 2)) none none h1.get = ret (.slice (some ⟨h.nx, 2, none⟩) 30 30) := slS_loose (k := .i64) (off := 0) (n := 32) (c := 32) (l := 2) g1 (by rw [hrl]) (by omega) (by omega)
  simp (disch := (first | omega | rfl | (simp only [Yn]; omega))) only [↓reduceIte, reduceCtorEq, Za, Zb, Zc, Zd, Ze, Zf, Zg, Zh, Zi, Zj, Zk, Zl, Zm, Zn, Zo, Zp, Zq, Zr, Zs, Zt, Zu, Zv, gval, Zw, rb0, rb1, rb2, rb3, rb4, tf0, tf1, tf2, tf3, Yk, Yh, overL_one, if_pos, stX_exactN, show ((0 : Int) == 0) = true from rfl]
  refine run_draw (ps := [(1, 3)]) (by kernel_rfl) (by kernel_rfl) ?_
  simp (disch := (first | omega | rfl | (simp only [Yn]; omega))) only [↓reduceIte, reduceCtorEq, Za, Zb, Zc, Zd, Ze, Zf, Zg, Zh, Zi, Zj, Zk, Zl, Zm, Zn, Zo, Zp, Zq, Zr, Zs, Zt, Zu, Zv, gval, Zw, rb0, rb1, rb2, rb3, rb4, tf0, tf1, tf2, tf3, Yk, Yh, overL_one, if_pos, stX_exactN, hsl]
  refine runCR_of (mwords_spec pl ma1 fun h2 m2 g2 k2 => ?_)
  have gx2 : h2.get h.nx = some (cellsB (u64s (rowD s.D 0)) (.loose 1)) := (k2 _ (by omega)).trans g1
  have hcp := aCopy_at (P := Tryz.prog) (ts := #[50, 50]) (dt := 50) (st := 50) rfl (s := 1) (by kernel_rfl) (b := h.nx) (off := 2) (dn := 30) (c := 30) (n := 1) (x := .slice (some ⟨h1.nx + 1, 0, none⟩) 1 1) (g := h2.get) (L := u64s (rowD s.D 0)) (cells := [.int .u64 a]) (k := .loose 1) rfl
    (firstL_slc _ 1 1 (h1.nx + 1) 0 _ _ _ _ g2 (by simp)) gx2 (by simp) (by rw [hrl]; show 2 + 1 ≤ 32; omega)
  rw [overL_one _ (by rw [hrl]; omega)] at hcp
  have hs12 : sameB (h1.get h.nx) (h2.get h.nx) = true := sameB_of (k2 _ (by omega)).symm
  simp (disch := (first | omega | rfl | (simp only [Yn]; omega))) only [↓reduceIte, reduceCtorEq, Za, Zb, Zc, Zd, Ze, Zf, Zg, Zh, Zi, Zj, Zk, Zl, Zm, Zn, Zo, Zp, Zq, Zr, Zs, Zt, Zu, Zv, gval, Zw, rb0, rb1, rb2, rb3, rb4, tf0, tf1, tf2, tf3, Yk, Yh, overL_one, if_pos, stX_exactN, hcp, foot_slc, blk_slc, blk_int, List.append_nil, List.all_cons, List.all_nil, hs12, Bool.and_true, true_and]
  obtain ⟨h3, hh3⟩ : ∃ h3, h2.upd h.nx (cellsB ((u64s (rowD s.D 0)).set 2 (.int .u64 a)) (.loose 1)) = h3 := ⟨_, rfl⟩
  have n3 : h3.nx = h2.nx := by rw [← hh3, Heap.nx_upd]
  have g3 : h3.get h.nx = some (cellsB ((u64s (rowD s.D 0)).set 2 (.int .u64 a)) (.loose 1)) := by rw [← hh3, Heap.get_upd_same]
  have k3 : ∀ b', b' ≠ h.nx → h3.get b' = h2.get b' := fun b' hb' => by rw [← hh3, Heap.get_upd_ne _ _ hb']
  have hrl3 : ((u64s (rowD s.D 0)).set 2 (.int .u64 (a : Int))).length = 32 := by rw [List.length_set, hrl]
  have mb3 : MapAt h3 pb lb s.n b := mb1.keep (by rw [k3 _ (by omega), k2 _ (by omega)]) (by rw [k3 _ (by omega), k2 _ (by omega)])
  rw [hh3]
  have hsl2 : slS (some 1) (some ⟨h.nx, 0, none⟩) 32 32 (some (.int .i64 3)) none none h3.get = ret (.slice (some ⟨h.nx, 3, none⟩) 29 29) := slS_loose (k := .i64) (off := 0) (n := 32) (c := 32) (l := 3) g3 (by rw [hrl3]) (by omega) (by omega)
  refine run_draw (ps := [(1, 3)]) (by kernel_rfl) (by kernel_rfl) ?_
  simp (disch := (first | omega | rfl | (simp only [Yn]; omega))) only [↓reduceIte, reduceCtorEq, Za, Zb, Zc, Zd, Ze, Zf, Zg, Zh, Zi, Zj, Zk, Zl, Zm, Zn, Zo, Zp, Zq, Zr, Zs, Zt, Zu, Zv, gval, Zw, rb0, rb1, rb2, rb3, rb4, tf0, tf1, tf2, tf3, Yk, Yh, overL_one, if_pos, stX_exactN, hsl2]
  refine runCR_of (mwords_spec pl mb3 fun h4 m4 g4 k4 => ?_)
  have gx4 : h4.get h.nx = some (cellsB ((u64s (rowD s.D 0)).set 2 (.int .u64 a)) (.loose 1)) := (k4 _ (by omega)).trans g3
  have hcp2 := aCopy_at (P := Tryz.prog) (ts := #[50, 50]) (dt := 50) (st := 50) rfl (s := 1) (by kernel_rfl) (b := h.nx) (off := 3) (dn := 29) (c := 29) (n := 1) (x := .slice (some ⟨h3.nx + 1, 0, none⟩) 1 1) (g := h4.get) (L := (u64s (rowD s.D 0)).set 2 (.int .u64 a)) (cells := [.int .u64 b]) (k := .loose 1) rfl
    (firstL_slc _ 1 1 (h3.nx + 1) 0 _ _ _ _ g4 (by simp)) gx4 (by simp) (by rw [hrl3]; show 3 + 1 ≤ 32; omega)
  rw [overL_one _ (by rw [hrl3]; omega)] at hcp2
  have hs34 : sameB (h3.get h.nx) (h4.get h.nx) = true := sameB_of (k4 _ (by omega)).symm
  simp (disch := (first | omega | rfl | (simp only [Yn]; omega))) only [↓reduceIte, reduceCtorEq, Za, Zb, Zc, Zd, Ze, Zf, Zg, Zh, Zi, Zj, Zk, Zl, Zm, Zn, Zo, Zp, Zq, Zr, Zs, Zt, Zu, Zv, gval, Zw, rb0, rb1, rb2, rb3, rb4, tf0, tf1, tf2, tf3, Yk, Yh, overL_one, if_pos, stX_exactN, hcp2, foot_slc, blk_slc, blk_int, List.append_nil, List.all_cons, List.all_nil, hs34, Bool.and_true, true_and, u_invoke, invK_iface, inv_put]
  obtain ⟨h5, hh5⟩ : ∃ h5, h4.upd h.nx (cellsB (((u64s (rowD s.D 0)).set 2 (.int .u64 a)).set 3 (.int .u64 b)) (.loose 1)) = h5 := ⟨_, rfl⟩
  have n5 : h5.nx = h4.nx := by rw [← hh5, Heap.nx_upd]
  have g5 : h5.get h.nx = some (cellsB (((u64s (rowD s.D 0)).set 2 (.int .u64 a)).set 3 (.int .u64 b)) (.loose 1)) := by rw [← hh5, Heap.get_upd_same]
  have k5 : ∀ b', b' ≠ h.nx → h5.get b' = h4.get b' := fun b' hb' => by rw [← hh5, Heap.get_upd_ne _ _ hb']
  rw [hh5]
  have k15 : ∀ b', b' < h.nx → h5.get b' = h1.get b' := fun b' hb' => by rw [k5 _ (by omega), k4 _ (by omega), k3 _ (by omega), k2 _ (by omega)]
  have hrow : ((u64s (rowD s.D 0)).set 2 (.int .u64 (a : Int))).set 3 (.int .u64 (b : Int)) = u64s (rowD (s.maps a b).D 0) := by
    apply List.ext_getElem?
    intro j
    rw [List.getElem?_set, List.getElem?_set, hrl3, hrl]
    by_cases hj : j < 32
    · have e : (u64s (rowD (s.maps a b).D 0))[j]? = some (.int .u64 ((s.maps a b).D 0 j)) := by rw [List.getElem?_map, rowD_get hj]; rfl
      rw [e]
      by_cases e3 : 3 = j
      · subst e3; rfl
      · rw [if_neg e3]
        by_cases e2 : 2 = j
        · subst e2; rfl
        · rw [if_neg e2, List.getElem?_map, rowD_get hj]
          show some (Value.int .u64 (s.D 0 j)) = _
          unfold FS.D
          rw [if_pos rfl, if_pos rfl, if_neg (Ne.symm e2), if_neg (Ne.symm e3), if_neg (Ne.symm e2), if_neg (Ne.symm e3)]; rfl
    · rw [if_neg (by omega), if_neg (by omega), List.getElem?_eq_none (by rw [hrl]; omega), List.getElem?_eq_none (by rw [List.length_map, rowD_len]; omega)]
  rw [hrow] at g5
  have f5 : Fs h5 bd bl s := f1.keep (by omega) (k15 _ q1) (k15 _ q2)
  refine runC_of (fmput_spec pl f5 (a := a) (b := b) ma.w mb.w g5 (off := 0) (by rw [List.drop_zero, List.take_of_length_le (by rw [List.length_map, rowD_len]; omega)]) (fun h6 n6 f6 k6 => ?_) (by omega))
  simp only [↓reduceIte, reduceCtorEq, Za, Zb, Zc, Zd, Ze, Zf, Zg, Zh, Zi, Zj, Zk, Zl, Zm, Zn, Zo, Zp, Zq, Zr, Zs, Zt, Zu, Zv, gval, Zw, rb0, rb1, rb2, rb3, rb4, tf0, tf1, tf2, tf3, Yk]
  exact hR h6 f6 (by omega) fun b' w1 w2 w3 => by rw [k6 _ w2 w3, k15 _ w1, k1 _ w1 w2]
end Go.Proofs.YtbgminppkacdlaaGreatDoor
end
section
/- What Resize does to a file system. No condition. -/
namespace Go.Proofs.YtbgminppkacdlaaGreatDoor
open Go.AM
open Nat renaming reduceBEq → Za, reduceEqDiff → Zb, reduceAdd → Zc, reduceSub → Zd, reduceMul → Ze, reduceLT → Zf, reduceLeDiff → Zg, reduceDiv → Zh, reduceMod → Zi, reducePow → Zj
open Int renaming reduceAdd → Zk, reduceSub → Zl, reduceMul → Zm, reduceLT → Zn, reduceLE → Zo, reduceEq → Zp, reduceNe → Zq, reduceNeg → Zr, reduceToNat → Zs, reduceDiv → Zt, reduceMod → Zu, reducePow → Zv, cast_ofNat_Int → Zw
set_option linter.unusedSimpArgs false
theorem popc_mono (p : Nat) : ∀ k, popc k p ≤ popc (k + 1) p := by
  intro k
  induction k generalizing p with
  | zero => exact Nat.zero_le _
  | succ k ih =>
    show p % 2 + popc k (p / 2) ≤ p % 2 + popc (k + 1) (p / 2)
    have := ih (p / 2)
    omega
theorem popc_mono' (p k m : Nat) : popc k p ≤ popc (k + m) p := by
  induction m with
  | zero => exact Nat.le_refl _
  | succ m ih => exact Nat.le_trans ih (popc_mono p (k + m))
theorem popc_full : ∀ (k p : Nat), (∀ j, j < k → p.testBit j = true) → popc k p = k
  | 0, _, _ => rfl
  | k + 1, p, h => by
    show p % 2 + popc k (p / 2) = k + 1
    have h0 := h 0 (by omega)
    rw [Nat.testBit_zero, decide_eq_true_eq] at h0
    rw [popc_full k (p / 2) fun j hj => by rw [Nat.testBit_div_two]; exact h (j + 1) (by omega), h0]
    omega
theorem lowZ_lt {p n : Nat} (hn : n < 64) (hp : p < bitN n) (h : popc 64 p < n) : lowZ p < n := by
  have hw : p < 18446744073709551615 := by have : bitN n ≤ 2 ^ 63 := Nat.pow_le_pow_right (by omega) (by omega); omega
  obtain ⟨_, _, h3⟩ := lowZ_spec hw
  by_cases c : lowZ p < n
  · exact c
  · have h1 := popc_full n p fun j hj => h3 j (by omega)
    have h2 := popc_mono' p n (64 - n)
    rw [show n + (64 - n) = 64 by omega] at h2
    omega
theorem popc_diff : ∀ (k p q j : Nat), (∀ i, q.testBit i = (p.testBit i || decide (i = j))) → p.testBit j = false → j < k → popc k q = popc k p + 1
  | 0, _, _, _, _, _, h => absurd h (by omega)
  | k + 1, p, q, 0, h, h0, _ => by
    show q % 2 + popc k (q / 2) = p % 2 + popc k (p / 2) + 1
    have a := h 0
    rw [Nat.testBit_zero, Nat.testBit_zero] at a
    rw [Nat.testBit_zero, decide_eq_false_iff_not] at h0
    have e : q / 2 = p / 2 := by
      apply Nat.eq_of_testBit_eq
      intro i
      rw [Nat.testBit_div_two, Nat.testBit_div_two, h (i + 1), decide_eq_false (by omega), Bool.or_false]
    rw [e]
    have : q % 2 = 1 := by
      simp at a; exact a
    omega
  | k + 1, p, q, j + 1, h, h0, hj => by
    show q % 2 + popc k (q / 2) = p % 2 + popc k (p / 2) + 1
    have a := h 0
    rw [Nat.testBit_zero, Nat.testBit_zero, decide_eq_false (show ¬ 0 = j + 1 by omega), Bool.or_false, decide_eq_decide] at a
    have ih := popc_diff k (p / 2) (q / 2) j (fun i => by rw [Nat.testBit_div_two, Nat.testBit_div_two, h (i + 1)]; congr 1; rw [decide_eq_decide]; omega) (by rw [Nat.testBit_div_two]; exact h0) (by omega)
    rw [ih]
    have e : q % 2 = p % 2 := by omega
    omega
theorem popc_with {p j : Nat} (hj : j < 64) (h : p.testBit j = false) : popc 64 (p ||| bitN j) = popc 64 p + 1 :=
  popc_diff 64 p _ j (fun i => by rw [testBit_with]; congr 1; rw [decide_eq_decide]; exact ⟨Eq.symm, Eq.symm⟩) h hj
def needN (n : Nat) : Nat := (n + 31) / 32
def updN (x : Nat → Int) (j : Nat) (v : Int) : Nat → Int := fun k => if k = j then v else x k
structure Rz where
  b : Nat
  dat : Nat → Nat → Int
  x : Nat → Int
def Rz.grow1 (k : Nat) (g : Rz) : Rz := ⟨markW g.b (lowZ g.b) true, fun b' => if b' = lowZ g.b then fun _ => 0 else g.dat b', updN g.x (3 + k) (lowZ g.b)⟩
def Rz.grow (k0 : Nat) : Nat → Rz → Rz
  | 0, g => g
  | m + 1, g => (Rz.grow k0 m g).grow1 (k0 + m)
def Rz.shr1 (k : Nat) (g : Rz) : Rz := ⟨markW g.b (g.x (3 + k)).toNat false, g.dat, updN g.x (3 + k) 0⟩
def Rz.shr (k0 : Nat) : Nat → Rz → Rz
  | 0, g => g
  | m + 1, g => (Rz.shr k0 m g).shr1 (k0 + m)
def FS.size (s : FS) (i : Nat) : Nat := (s.ino i 2).toNat
def FS.rz (s : FS) (i size : Nat) : Rz := Rz.shr (needN size) (needN (s.size i) - needN size) (Rz.grow (needN (s.size i)) (needN size - needN (s.size i)) ⟨s.b, s.dat, s.ino i⟩)
def FS.cut (s : FS) (i size : Nat) (g : Rz) : Nat → Nat → Int := if size < s.size i ∧ 0 < size % 32 then fun b' => if b' = (g.x (3 + (needN size - 1))).toNat then fun k => if k < size % 32 then g.dat b' k else 0 else g.dat b' else g.dat
def FS.resize (s : FS) (i size : Nat) : FS := ⟨s.n, s.a, (s.rz i size).b, fun i' => if i' = i then updN (s.rz i size).x 2 size else s.ino i', s.cut i size (s.rz i size)⟩
structure FS.Ino (s : FS) (i : Nat) : Prop where
  sz : s.ino i 2 ≤ 192
  bl : ∀ k, k < needN (s.size i) → 12 ≤ s.ino i (3 + k) ∧ s.ino i (3 + k) < s.n
def FS.Low (s : FS) : Prop := ∀ j, j < 12 → s.b.testBit j = true
structure RzOk (n : Nat) (g : Rz) : Prop where
  b : g.b < bitN n
  low : ∀ j, j < 12 → g.b.testBit j = true
  dat : ∀ i j, 0 ≤ g.dat i j ∧ g.dat i j < 18446744073709551616
  x : ∀ j, 0 ≤ g.x j ∧ g.x j < 9223372036854775808
theorem lowZ_ge {b : Nat} (hb : b < 18446744073709551615) (h : ∀ j, j < 12 → b.testBit j = true) : 12 ≤ lowZ b := by
  obtain ⟨_, h2, _⟩ := lowZ_spec hb
  by_cases c : 12 ≤ lowZ b
  · exact c
  · rw [h _ (by omega)] at h2; cases h2
theorem bitN_small {b n : Nat} (hb : b < bitN n) (hn : n ≤ 60) : b < 18446744073709551615 := by
  have : bitN n ≤ 2 ^ 60 := Nat.pow_le_pow_right (by omega) hn
  omega
theorem RzOk.grow1 {n k : Nat} {g : Rz} (hn : n ≤ 60) (o : RzOk n g) (hl : lowZ g.b < n) : RzOk n (g.grow1 k) := by
  refine ⟨?_, fun j hj => ?_, fun i j => ?_, fun j => ?_⟩
  · show markW g.b (lowZ g.b) true < bitN n
    exact markW_lt (on := true) o.b hl (by omega)
  · show (g.b ||| bitN (lowZ g.b)).testBit j = true
    rw [testBit_with, o.low j hj, Bool.true_or]
  · show 0 ≤ (if i = lowZ g.b then fun _ => (0 : Int) else g.dat i) j ∧ (if i = lowZ g.b then fun _ => (0 : Int) else g.dat i) j < _
    split
    · show (0 : Int) ≤ 0 ∧ (0 : Int) < _
      omega
    · exact o.dat i j
  · show 0 ≤ updN g.x (3 + k) (lowZ g.b) j ∧ updN g.x (3 + k) (lowZ g.b) j < _
    unfold updN
    split
    · omega
    · exact o.x j
theorem RzOk.shr1 {n k : Nat} {g : Rz} (hn : n ≤ 60) (o : RzOk n g) (hl : 12 ≤ g.x (3 + k) ∧ g.x (3 + k) < n) : RzOk n (g.shr1 k) := by
  refine ⟨?_, fun j hj => ?_, o.dat, fun j => ?_⟩
  · show markW g.b (g.x (3 + k)).toNat false < bitN n
    exact markW_lt (on := false) o.b (by omega) (by omega)
  · show (without g.b (bitN (g.x (3 + k)).toNat)).testBit j = true
    rw [testBit_drop (by have := bitN_small o.b hn; omega), o.low j hj, decide_eq_false (by omega)]; rfl
  · show 0 ≤ updN g.x (3 + k) 0 j ∧ updN g.x (3 + k) 0 j < _
    unfold updN
    split
    · omega
    · exact o.x j
theorem popc_grow {n : Nat} {g : Rz} {k0 : Nat} (hn : n ≤ 60) (o : RzOk n g) (m : Nat) (h : popc 64 g.b + m ≤ n) : RzOk n (g.grow k0 m) ∧ popc 64 (g.grow k0 m).b = popc 64 g.b + m := by
  induction m with
  | zero => exact ⟨o, by rw [Nat.add_zero, Rz.grow]⟩
  | succ m ih =>
    obtain ⟨o1, h1⟩ := ih (by omega)
    have hl : lowZ (Rz.grow k0 m g).b < n := lowZ_lt (by omega) o1.b (by omega)
    obtain ⟨s1, s2, _⟩ := lowZ_spec (bitN_small o1.b hn)
    have e := popc_with s1 s2
    have e2 : (Rz.grow k0 (m + 1) g).b = (Rz.grow k0 m g).b ||| bitN (lowZ (Rz.grow k0 m g).b) := rfl
    rw [e2, e, h1]
    exact ⟨o1.grow1 hn hl, by omega⟩
theorem grow_x {g : Rz} {k0 : Nat} : ∀ m j, (j < 3 + k0 ∨ 3 + k0 + m ≤ j) → (g.grow k0 m).x j = g.x j
  | 0, _, _ => rfl
  | m + 1, j, h => by
    show updN (Rz.grow k0 m g).x (3 + (k0 + m)) _ j = _
    unfold updN
    rw [if_neg (by omega)]
    exact grow_x m j (by omega)
theorem shr_x {g : Rz} {k0 : Nat} : ∀ m j, (j < 3 + k0 ∨ 3 + k0 + m ≤ j) → (g.shr k0 m).x j = g.x j
  | 0, _, _ => rfl
  | m + 1, j, h => by
    show updN (Rz.shr k0 m g).x (3 + (k0 + m)) _ j = _
    unfold updN
    rw [if_neg (by omega)]
    exact shr_x m j (by omega)
theorem shr_ok {n : Nat} {g : Rz} {k0 : Nat} (hn : n ≤ 60) (o : RzOk n g) : ∀ m, (∀ k, k0 ≤ k → k < k0 + m → 12 ≤ g.x (3 + k) ∧ g.x (3 + k) < n) → RzOk n (g.shr k0 m)
  | 0, _ => o
  | m + 1, h => by
    have ih := shr_ok (k0 := k0) hn o m fun k h1 h2 => h k h1 (by omega)
    refine ih.shr1 hn ?_
    rw [shr_x m (3 + (k0 + m)) (by omega)]
    exact h _ (by omega) (by omega)
theorem shr_dat {g : Rz} {k0 : Nat} : ∀ m, (g.shr k0 m).dat = g.dat
  | 0 => rfl
  | m + 1 => shr_dat m
end Go.Proofs.YtbgminppkacdlaaGreatDoor
end
section
/- Inodes: Resize. Conditions: the disk lies as the rule names. -/
namespace Go.Proofs.YtbgminppkacdlaaGreatDoor
open Go.AM
open Nat renaming reduceBEq → Za, reduceEqDiff → Zb, reduceAdd → Zc, reduceSub → Zd, reduceMul → Ze, reduceLT → Zf, reduceLeDiff → Zg, reduceDiv → Zh, reduceMod → Zi, reducePow → Zj
open Int renaming reduceAdd → Zk, reduceSub → Zl, reduceMul → Zm, reduceLT → Zn, reduceLE → Zo, reduceEq → Zp, reduceNe → Zq, reduceNeg → Zr, reduceToNat → Zs, reduceDiv → Zt, reduceMod → Zu, reducePow → Zv, cast_ofNat_Int → Zw
set_option linter.unusedSimpArgs false
variable {sp : Special} {h : Heap} {R : Out → Heap → Prop} {bd bl : Nat} {s : FS}
theorem popc_small : ∀ (k n p : Nat), p < bitN n → popc k p ≤ n
  | 0, _, _, _ => Nat.zero_le _
  | k + 1, 0, p, h => by
    have : p = 0 := by unfold bitN at h; omega
    subst this
    have := popc_small k 0 0 (by unfold bitN; omega)
    show 0 % 2 + popc k (0 / 2) ≤ 0
    rw [show 0 / 2 = 0 from rfl]; omega
  | k + 1, n + 1, p, h => by
    have := popc_small k n (p / 2) (by unfold bitN at h ⊢; rw [Nat.pow_succ] at h; omega)
    show p % 2 + popc k (p / 2) ≤ n + 1
    omega
set_option maxRecDepth 100000 in
theorem need_spec (pl : Plain sp) {n : Nat} (hn : n ≤ 1000) (hR : R (.ret (.int .i64 (needN n))) h) : WF Tryz.prog 2 sp 61 [.int .i64 n] h R := by
  refine wf_fn (fn := Tryz.f61) pl.p40 rfl (by kernel_rfl) rfl ?_
  have w1 : wrapF .i64 ((n : Int) + 32) = ((n + 32 : Nat) : Int) := by rw [wrapI (by omega) (by omega)]; omega
  have w2 : wrapF .i64 (((n + 32 : Nat) : Int) - 1) = ((n + 31 : Nat) : Int) := by rw [wrapI (by omega) (by omega)]; omega
  have w3 : ((n + 31 : Nat) : Int).tdiv 32 = (needN n : Int) := by rw [Int.tdiv_eq_ediv_of_nonneg (by omega)]; unfold needN; omega
  have w4 : wrapF .i64 (needN n : Int) = needN n := by unfold needN; exact wrapI (by omega) (by omega)
  simp only [↓reduceIte, reduceCtorEq, Za, Zb, Zc, Zd, Ze, Zf, Zg, Zh, Zi, Zj, Zk, Zl, Zm, Zn, Zo, Zp, Zq, Zr, Zs, Zt, Zu, Zv, gval, Zw, rb0, rb1, rb2, rb3, rb4, tf0, tf1, tf2, tf3, Yk, Tryz.f61, w1, w2, w3, w4]
  exact hR
theorem ino_set {x : Nat → Int} {j : Nat} (v : Int) (hj : j < 9) : (i64s (row9 x)).set j (.int .i64 v) = i64s (row9 (updN x j v)) := by
  apply List.ext_getElem?
  intro k
  rw [List.getElem?_set, List.length_map, row9_len]
  by_cases hk : k < 9
  · rw [List.getElem?_map, List.getElem?_map, row9_get hk, row9_get hk]
    unfold updN
    by_cases e : j = k
    · subst e
      rw [if_pos rfl, if_pos hj, if_pos rfl]; rfl
    · rw [if_neg e, if_neg (Ne.symm e)]
  · rw [if_neg (by omega), List.getElem?_map, List.getElem?_map, List.getElem?_eq_none (by rw [row9_len]; omega), List.getElem?_eq_none (by rw [row9_len]; omega)]
theorem nil_put (b : Nat) : effNil Tryz.prog (.func (.method "Put") #[.iface 22 (.pointer (some ⟨b, 0, none⟩))] #[]) = ret (.func (.method "Put") #[.iface 22 (.pointer (some ⟨b, 0, none⟩))] #[]) := by kernel_rfl
theorem repeatL_one (v : Value) (n : Nat) : repeatL [v] n = List.replicate n v := by
  induction n with
  | zero => rfl
  | succ n ih => rw [List.replicate_succ, ← ih]; rfl
theorem clear81 {b off n c : Nat} {g : Nat → Option Blk} {L : List Value} (hb : g b = some (cellsB L (.loose 1))) (hn : n ≠ 0) (hl : off + n ≤ L.length) : aClear Tryz.prog #[50] (.slice (some ⟨b, off, none⟩) n c) g = some ⟨undef, [(b, cellsB (overL L off (List.replicate n (.int .u64 0))) (.loose 1))], []⟩ := by
  have hr : (List.replicate n (Value.int .u64 0)).length = n := List.length_replicate
  have hlo : (overL L off (List.replicate n (Value.int .u64 0))).length = L.length := by unfold overL; simp only [List.length_append, List.length_take, List.length_drop, hr]; omega
  unfold aClear
  simp only [show Tryz.prog.underlying 50 = some (.slice 56) from by kernel_rfl, show zeroL Tryz.prog 56 = some [.int .u64 0] from by kernel_rfl, hb, if_neg hn]
  unfold cellsB
  simp only [repeatL_one, List.length_singleton, Nat.mul_one]
  rw [if_pos hl, storeL_ofList _ _ _ (by rw [hr]; exact hl), hlo]
structure Mid (h : Heap) (bd bl : Nat) (s : FS) (p pa la pb lb : Nat) (g : Rz) : Prop where
  f : Fs h bd bl ⟨s.n, s.a, s.b, s.ino, g.dat⟩
  x : h.get p = some (cellsB (i64s (row9 g.x)) .exact)
  ma : MapAt h pa la 32 s.a
  mb : MapAt h pb lb s.n g.b
  t : h.get 1 = some (tabBlk .u8 tab)
  ok : RzOk s.n g
theorem zrow : mkRow [Value.int .u64 0] 32 = cellsB (u64s ((List.range 32).map fun _ => 0)) .exact := mkRow_eq _ _ (by omega)
set_option maxRecDepth 100000 in
theorem fresize_spec (pl : Plain sp) (ht : h.get 1 = some (tabBlk .u8 tab)) (f : Fs h bd bl s) (hz : 1 < bd ∧ 1 < bl) {i : Nat} (hi : i < 32) (ho : s.Ino i) (hlow : s.Low) {size : Int}
    (hR1 : size < 0 → ∀ h', Fs h' bd bl s → h.nx ≤ h'.nx → (∀ b', b' < h.nx → b' ≠ bd → b' ≠ bl → h'.get b' = h.get b') → R (.ret (.int .i64 101)) h')
    (hR2 : 192 < size → ∀ h', Fs h' bd bl s → h.nx ≤ h'.nx → (∀ b', b' < h.nx → b' ≠ bd → b' ≠ bl → h'.get b' = h.get b') → R (.ret (.int .i64 27)) h')
    (hR3 : ∀ sz : Nat, size = sz → sz ≤ 192 → s.n < popc 64 s.b + (needN sz - needN (s.size i)) → ∀ h', Fs h' bd bl s → h.nx ≤ h'.nx → (∀ b', b' < h.nx → b' ≠ bd → b' ≠ bl → h'.get b' = h.get b') → R (.ret (.int .i64 28)) h')
    (hR4 : ∀ sz : Nat, size = sz → sz ≤ 192 → popc 64 s.b + (needN sz - needN (s.size i)) ≤ s.n → ∀ h', Fs h' bd bl (s.resize i sz) → h.nx ≤ h'.nx → (∀ b', b' < h.nx → b' ≠ bd → b' ≠ bl → h'.get b' = h.get b') → R (.ret (.int .i64 0)) h') :
    WF Tryz.prog 2 sp 35 [.iface 22 (.pointer (some ⟨bd, 0, none⟩)), .int .i64 i, .int .i64 size] h R := by
  refine wf_fn (fn := Tryz.f35) pl.p15 rfl (by kernel_rfl) rfl ?_
  have n1 := f.wf.n1
  have n2 := f.wf.n2
  have q1 := f.d.bd_lt
  have q2 := f.d.bl_lt
  simp only [↓reduceIte, reduceCtorEq, Za, Zb, Zc, Zd, Ze, Zf, Zg, Zh, Zi, Zj, Zk, Zl, Zm, Zn, Zo, Zp, Zq, Zr, Zs, Zt, Zu, Zv, gval, Zw, rb0, rb1, rb2, rb3, rb4, tf0, tf1, tf2, tf3, Yk, Tryz.f35]
  refine runC_of (figet_spec pl f hi fun h1 m1 f1 k1 => ?_)
  have hwl : (i64s (row9 (s.ino i))).length = 9 := by rw [List.length_map, row9_len]
  have n32 : needN 192 = 6 := rfl
  simp (disch := (first | omega | rfl | (simp only [Yn]; omega))) only [↓reduceIte, reduceCtorEq, Za, Zb, Zc, Zd, Ze, Zf, Zg, Zh, Zi, Zj, Zk, Zl, Zm, Zn, Zo, Zp, Zq, Zr, Zs, Zt, Zu, Zv, gval, Zw, rb0, rb1, rb2, rb3, rb4, tf0, tf1, tf2, tf3, Yk, Yh, overL_one, if_pos, stX_exactN, hwl]
  rw [overL_nine rfl hwl, Heap.upd_new]
  obtain ⟨h2, hh2⟩ : ∃ h2, h1.new (cellsB (i64s (row9 (s.ino i))) .exact) = h2 := ⟨_, rfl⟩
  have n2' : h2.nx = h1.nx + 1 := by rw [← hh2, Heap.nx_new]
  have g2 : h2.get h1.nx = some (cellsB (i64s (row9 (s.ino i))) .exact) := by rw [← hh2, Heap.get_new_same]
  have k2 : ∀ b', b' < h1.nx → h2.get b' = h1.get b' := fun b' hb' => by rw [← hh2, Heap.get_new_ne _ _ (by omega)]
  have f2 : Fs h2 bd bl s := f1.keep (by omega) (k2 _ (by omega)) (k2 _ (by omega))
  have k12 : ∀ b', b' < h.nx → b' ≠ bd → b' ≠ bl → h2.get b' = h.get b' := fun b' w1 w2 _ => by rw [k2 _ (by omega), k1 _ w1 w2]
  rw [hh2]
  by_cases c1 : size < 0
  · simp (disch := (first | omega | rfl | (simp only [Yn]; omega))) only [↓reduceIte, reduceCtorEq, Za, Zb, Zc, Zd, Ze, Zf, Zg, Zh, Zi, Zj, Zk, Zl, Zm, Zn, Zo, Zp, Zq, Zr, Zs, Zt, Zu, Zv, gval, Zw, rb0, rb1, rb2, rb3, rb4, tf0, tf1, tf2, tf3, Yk, Yh, overL_one, if_pos, stX_exactN, c1, show ((0 : Int) == 0) = true from rfl]
    exact hR1 c1 h2 f2 (by omega) k12
  by_cases c2 : 192 < size
  · simp (disch := (first | omega | rfl | (simp only [Yn]; omega))) only [↓reduceIte, reduceCtorEq, Za, Zb, Zc, Zd, Ze, Zf, Zg, Zh, Zi, Zj, Zk, Zl, Zm, Zn, Zo, Zp, Zq, Zr, Zs, Zt, Zu, Zv, gval, Zw, rb0, rb1, rb2, rb3, rb4, tf0, tf1, tf2, tf3, Yk, Yh, overL_one, if_pos, stX_exactN, c1, c2, show ((0 : Int) == 0) = true from rfl]
    exact hR2 c2 h2 f2 (by omega) k12
  obtain ⟨sz, rfl⟩ : ∃ sz : Nat, size = sz := ⟨size.toNat, by omega⟩
  have hsz : sz ≤ 192 := by omega
  simp (disch := (first | omega | rfl | (simp only [Yn]; omega))) only [↓reduceIte, reduceCtorEq, Za, Zb, Zc, Zd, Ze, Zf, Zg, Zh, Zi, Zj, Zk, Zl, Zm, Zn, Zo, Zp, Zq, Zr, Zs, Zt, Zu, Zv, gval, Zw, rb0, rb1, rb2, rb3, rb4, tf0, tf1, tf2, tf3, Yk, Yh, overL_one, if_pos, stX_exactN, c1, c2, show ((0 : Int) == 0) = true from rfl]
  refine runC_of (maps_spec pl f2 fun h3 pa la pb lb f3 ma mb hab k3 => ?_)
  have g3 : h3.get h1.nx = some (cellsB (i64s (row9 (s.ino i))) .exact) := (k3 _ (by omega) (by omega)).trans g2
  have hs0 : s.ino i 2 = (s.size i : Int) := by unfold FS.size; have := (f.wf.ino i 2).1; omega
  have hcur : s.size i ≤ 192 := by have := ho.sz; omega
  have x2 : (i64s (row9 (s.ino i)))[2]? = some (.int .i64 (s.size i : Int)) := by rw [List.getElem?_map, row9_get (by omega), ← hs0]; rfl
  simp (disch := (first | omega | rfl | (simp only [Yn]; omega))) only [↓reduceIte, reduceCtorEq, Za, Zb, Zc, Zd, Ze, Zf, Zg, Zh, Zi, Zj, Zk, Zl, Zm, Zn, Zo, Zp, Zq, Zr, Zs, Zt, Zu, Zv, gval, Zw, rb0, rb1, rb2, rb3, rb4, tf0, tf1, tf2, tf3, Yk, Yh, overL_one, if_pos, stX_exactN, show ((0 : Int) == 0) = true from rfl, g3, x2]
  refine runC_of (need_spec pl (by omega) ?_)
  simp (disch := (first | omega | rfl | (simp only [Yn]; omega))) only [↓reduceIte, reduceCtorEq, Za, Zb, Zc, Zd, Ze, Zf, Zg, Zh, Zi, Zj, Zk, Zl, Zm, Zn, Zo, Zp, Zq, Zr, Zs, Zt, Zu, Zv, gval, Zw, rb0, rb1, rb2, rb3, rb4, tf0, tf1, tf2, tf3, Yk, Yh, overL_one, if_pos, stX_exactN]
  refine runC_of (need_spec pl (by omega) ?_)
  have hd6 : needN sz ≤ 6 := by unfold needN; omega
  have hc6 : needN (s.size i) ≤ 6 := by unfold needN; omega
  have wd : wrapF .i64 ((needN sz : Int) - (needN (s.size i) : Int)) = (needN sz : Int) - (needN (s.size i) : Int) := wrapI (by omega) (by omega)
  simp (disch := (first | omega | rfl | (simp only [Yn]; omega))) only [↓reduceIte, reduceCtorEq, Za, Zb, Zc, Zd, Ze, Zf, Zg, Zh, Zi, Zj, Zk, Zl, Zm, Zn, Zo, Zp, Zq, Zr, Zs, Zt, Zu, Zv, gval, Zw, rb0, rb1, rb2, rb3, rb4, tf0, tf1, tf2, tf3, Yk, Yh, overL_one, if_pos, stX_exactN, wd]
  refine runC_of (left_spec pl mb ?_)
  have hpn := popc_small 64 s.n s.b f.wf.b
  by_cases c3 : s.n < popc 64 s.b + (needN sz - needN (s.size i))
  · have c3' : (s.n : Int) - (popc 64 s.b : Int) < (needN sz : Int) - (needN (s.size i) : Int) := by omega
    simp (disch := (first | omega | rfl | (simp only [Yn]; omega))) only [↓reduceIte, reduceCtorEq, Za, Zb, Zc, Zd, Ze, Zf, Zg, Zh, Zi, Zj, Zk, Zl, Zm, Zn, Zo, Zp, Zq, Zr, Zs, Zt, Zu, Zv, gval, Zw, rb0, rb1, rb2, rb3, rb4, tf0, tf1, tf2, tf3, Yk, Yh, overL_one, if_pos, stX_exactN, c3']
    exact hR3 sz rfl hsz c3 h3 f3 (by omega) fun b' w1 w2 w3 => by rw [k3 _ (by omega) w2, k12 _ w1 w2 w3]
  · have c3' : ¬ (s.n : Int) - (popc 64 s.b : Int) < (needN sz : Int) - (needN (s.size i) : Int) := by omega
    simp (disch := (first | omega | rfl | (simp only [Yn]; omega))) only [↓reduceIte, reduceCtorEq, Za, Zb, Zc, Zd, Ze, Zf, Zg, Zh, Zi, Zj, Zk, Zl, Zm, Zn, Zo, Zp, Zq, Zr, Zs, Zt, Zu, Zv, gval, Zw, rb0, rb1, rb2, rb3, rb4, tf0, tf1, tf2, tf3, Yk, Yh, overL_one, if_pos, stX_exactN, c3']
    generalize hc0 : needN (s.size i) = c0 at *
    generalize hw0 : needN sz = w0 at *
    generalize hp : h1.nx = p at *
    obtain ⟨a1, a2, a3, a4, a5⟩ := hab
    have hpl : p < la := by omega
    have hph : h.nx ≤ p := by omega
    have hbit := bitN_small f.wf.b n2
    have hg0 : RzOk s.n ⟨s.b, s.dat, s.ino i⟩ := ⟨f.wf.b, hlow, f.wf.dat, f.wf.ino i⟩
    have hgr : ∀ m, m ≤ w0 - c0 → RzOk s.n (Rz.grow c0 m ⟨s.b, s.dat, s.ino i⟩) ∧ popc 64 (Rz.grow c0 m ⟨s.b, s.dat, s.ino i⟩).b = popc 64 s.b + m := fun m hm => popc_grow n2 hg0 m (by show popc 64 s.b + m ≤ s.n; omega)
    have hM3 : Mid h3 bd bl s p pa la pb lb ⟨s.b, s.dat, s.ino i⟩ := ⟨f3, g3, ma, mb, by rw [k3 1 (by omega) (by omega), k12 1 (by omega) (by omega) (by omega)]; exact ht, hg0⟩
    have hk3 : ∀ b', b' < h.nx → b' ≠ bd → b' ≠ bl → h3.get b' = h.get b' := fun b' w1 w2 w3 => by rw [k3 _ (by omega) w2, k12 _ w1 w2 w3]
    refine run_loop2 rfl (fun n' e h' => ∃ m : Nat, n' = w0 - c0 - m ∧ m ≤ w0 - c0 ∧ e.at 0 = .iface 22 (.pointer (some ⟨bd, 0, none⟩)) ∧ e.at 1 = .int .i64 i ∧ e.at 2 = .int .i64 sz ∧ e.at 7 = .pointer (some ⟨p, 0, none⟩) ∧ e.at 9 = .pointer (some ⟨pa, 0, none⟩) ∧ e.at 10 = .pointer (some ⟨pb, 0, none⟩) ∧ e.at 11 = .int .i64 c0 ∧ e.at 12 = .int .i64 w0 ∧ e.at 13 = .int .i64 ((c0 + m : Nat) : Int) ∧
        Mid h' bd bl s p pa la pb lb (Rz.grow c0 m ⟨s.b, s.dat, s.ino i⟩) ∧ h3.nx ≤ h'.nx ∧ ∀ b', b' < h.nx → b' ≠ bd → b' ≠ bl → h'.get b' = h.get b')
      (fun ex e h' => ex = .exit 1 ∧ e.at 0 = .iface 22 (.pointer (some ⟨bd, 0, none⟩)) ∧ e.at 1 = .int .i64 i ∧ e.at 2 = .int .i64 sz ∧ e.at 7 = .pointer (some ⟨p, 0, none⟩) ∧ e.at 9 = .pointer (some ⟨pa, 0, none⟩) ∧ e.at 10 = .pointer (some ⟨pb, 0, none⟩) ∧ e.at 11 = .int .i64 c0 ∧ e.at 12 = .int .i64 w0 ∧
        Mid h' bd bl s p pa la pb lb (Rz.grow c0 (w0 - c0) ⟨s.b, s.dat, s.ino i⟩) ∧ h3.nx ≤ h'.nx ∧ ∀ b', b' < h.nx → b' ≠ bd → b' ≠ bl → h'.get b' = h.get b') ?_ (w0 - c0) _ _ ?_ ?_
    · rintro n' e h4 ⟨m, rfl, hm, e0, e1, e2, e7, e9, e10, e11, e12, e13, M, hn4, hk4⟩ Q' hQn hQx
      by_cases hc : m < w0 - c0
      · have d1 : ((c0 + m : Nat) : Int) < (w0 : Int) := by omega
        obtain ⟨o, hpop⟩ := hgr m hm
        generalize hg : Rz.grow c0 m ⟨s.b, s.dat, s.ino i⟩ = g at *
        have hl : lowZ g.b < s.n := lowZ_lt (by omega) o.b (by omega)
        have hl12 := lowZ_ge (bitN_small o.b n2) o.low
        simp (disch := (first | omega | rfl | (simp only [Yn]; omega))) only [↓reduceIte, reduceCtorEq, Za, Zb, Zc, Zd, Ze, Zf, Zg, Zh, Zi, Zj, Zk, Zl, Zm, Zn, Zo, Zp, Zq, Zr, Zs, Zt, Zu, Zv, gval, Zw, rb0, rb1, rb2, rb3, rb4, tf0, tf1, tf2, tf3, Yk, Yh, overL_one, if_pos, stX_exactN, e0, e7, e10, e12, e13, d1]
        refine runC_of (take_spec pl M.t M.mb (fun q => absurd hl q) fun _ mb5 => ?_)
        have lx : ∀ x : Nat → Int, (i64s (row9 x)).length = 9 := fun x => by rw [List.length_map, row9_len]
        have hj : 3 + (c0 + m) < 9 := by omega
        have hj1 : 3 + (c0 + m) + 1 ≤ 9 := by omega
        have hset : overL (i64s (row9 g.x)) (3 + (c0 + m)) [Value.int .i64 (lowZ g.b : Int)] = i64s (row9 (updN g.x (3 + (c0 + m)) (lowZ g.b))) := (overL_one _ (by rw [lx]; exact hj)).trans (ino_set _ hj)
        have gx : (i64s (row9 (updN g.x (3 + (c0 + m)) (lowZ g.b))))[3 + (c0 + m)]? = some (.int .i64 (lowZ g.b : Int)) := by
          rw [List.getElem?_map, row9_get hj]
          unfold updN
          rw [if_pos rfl]; rfl
        have hplb : p ≠ lb := by omega
        simp (disch := (first | omega | rfl | (simp only [Yn]; omega))) only [↓reduceIte, reduceCtorEq, Za, Zb, Zc, Zd, Ze, Zf, Zg, Zh, Zi, Zj, Zk, Zl, Zm, Zn, Zo, Zp, Zq, Zr, Zs, Zt, Zu, Zv, gval, Zw, rb0, rb1, rb2, rb3, rb4, tf0, tf1, tf2, tf3, Yk, Yh, overL_one, if_pos, stX_exactN, e7, e13, M.x, lx, hj, hj1, hset, Nat.mul_one]
        obtain ⟨h5, hh5⟩ : ∃ h5, (h4.upd lb (cellsB [.int .u64 ((markW g.b (lowZ g.b) true : Nat) : Int)] .exact)).upd p (cellsB (i64s (row9 (updN g.x (3 + (c0 + m)) (lowZ g.b)))) .exact) = h5 := ⟨_, rfl⟩
        have n5 : h5.nx = h4.nx := by rw [← hh5, Heap.nx_upd, Heap.nx_upd]
        have g5 : h5.get p = some (cellsB (i64s (row9 (updN g.x (3 + (c0 + m)) (lowZ g.b)))) .exact) := by rw [← hh5, Heap.get_upd_same]
        have k5 : ∀ b', b' ≠ p → b' ≠ lb → h5.get b' = h4.get b' := fun b' w1 w2 => by rw [← hh5, Heap.get_upd_ne _ _ w1, Heap.get_upd_ne _ _ w2]
        have kl5 : h5.get lb = some (cellsB [.int .u64 ((markW g.b (lowZ g.b) true : Nat) : Int)] .exact) := by rw [← hh5, Heap.get_upd_ne _ _ (Ne.symm hplb), Heap.get_upd_same]
        rw [hh5]
        refine run_draw (ps := [(4, 5)]) (by kernel_rfl) (by kernel_rfl) ?_
        simp (disch := (first | omega | rfl | (simp only [Yn]; omega))) only [↓reduceIte, reduceCtorEq, Za, Zb, Zc, Zd, Ze, Zf, Zg, Zh, Zi, Zj, Zk, Zl, Zm, Zn, Zo, Zp, Zq, Zr, Zs, Zt, Zu, Zv, gval, Zw, rb0, rb1, rb2, rb3, rb4, tf0, tf1, tf2, tf3, Yk, Yh, overL_one, if_pos, stX_exactN, e0, e7, e13, g5, lx, hj, gx, zrow, Nat.mul_one, nbeq_ne, nil_put, u_invoke, invK_iface, inv_put]
        obtain ⟨h6, hh6⟩ : ∃ h6, h5.new (cellsB (u64s ((List.range 32).map fun _ => 0)) .exact) = h6 := ⟨_, rfl⟩
        have n6 : h6.nx = h5.nx + 1 := by rw [← hh6, Heap.nx_new]
        have g6 : h6.get h5.nx = some (cellsB (u64s ((List.range 32).map fun _ => 0)) .exact) := by rw [← hh6, Heap.get_new_same]
        have k6 : ∀ b', b' < h5.nx → h6.get b' = h5.get b' := fun b' hb' => by rw [← hh6, Heap.get_new_ne _ _ (by omega)]
        rw [hh6]
        have k46 : ∀ b', b' < h4.nx → b' ≠ p → b' ≠ lb → h6.get b' = h4.get b' := fun b' w1 w2 w3 => by rw [k6 _ (by omega), k5 _ w2 w3]
        have f6 : Fs h6 bd bl ⟨s.n, s.a, s.b, s.ino, g.dat⟩ := M.f.keep (by omega) (k46 _ M.f.d.bd_lt (by omega) (by omega)) (k46 _ M.f.d.bl_lt (by omega) (by omega))
        refine runCR_of (fbput_spec pl f6 hl12 (b := lowZ g.b) hl g6 (off := 0) (w := fun _ => 0) (by rw [List.drop_zero, List.take_of_length_le (by simp)]) (fun j => by show (0 : Int) ≤ 0 ∧ (0 : Int) < _; omega) (fun h7 n7 f7 k7 => ?_) (by omega))
        have wn : wrapF .i64 (((c0 + m : Nat) : Int) + 1) = ((c0 + (m + 1) : Nat) : Int) := by rw [wrapI (by omega) (by omega)]; omega
        have hpb5 : p.beq h5.nx = false := nbeq_ne (by omega)
        simp (disch := (first | omega | rfl | (simp only [Yn]; omega))) only [↓reduceIte, reduceCtorEq, Za, Zb, Zc, Zd, Ze, Zf, Zg, Zh, Zi, Zj, Zk, Zl, Zm, Zn, Zo, Zp, Zq, Zr, Zs, Zt, Zu, Zv, gval, Zw, rb0, rb1, rb2, rb3, rb4, tf0, tf1, tf2, tf3, Yk, Yh, overL_one, if_pos, stX_exactN, e0, e7, e13, wn, hpb5, Bool.not_false, true_and, show ((0 : Int) == 0) = true from rfl]
        have hk7 : ∀ b', b' ≠ p → b' ≠ lb → b' < h4.nx → b' ≠ bd → b' ≠ bl → h7.get b' = h4.get b' := fun b' w1 w2 w3 w4 w5 => by rw [k7 _ w4 w5, k46 _ w3 w1 w2]
        refine hQn _ _ _ (by omega) ⟨m + 1, rfl, by omega, by simp only [Za, Zw, Ye, e0], by simp only [Za, Zw, Ye, e1], by simp only [Za, Zw, Ye, e2], by simp only [Za, Zw, Ye, e7], by simp only [Za, Zw, Ye, e9], by simp only [Za, Zw, Ye, e10], by simp only [Za, Zw, Ye, e11], by simp only [Za, Zw, Ye, e12], by simp only [Za, Zw, Ye], ?_, by omega, fun b' w1 w2 w3 => by rw [hk7 _ (by omega) (by omega) (by omega) w2 w3, hk4 _ w1 w2 w3]⟩
        have hgs : Rz.grow c0 (m + 1) ⟨s.b, s.dat, s.ino i⟩ = g.grow1 (c0 + m) := by rw [← hg]; rfl
        rw [hgs]
        refine ⟨f7, ?_, M.ma.keep (hk7 _ (by omega) (by omega) (by omega) (by omega) (by omega)) (hk7 _ (by omega) (by omega) (by omega) (by omega) (by omega)), ⟨?_, ?_, M.mb.n1, M.mb.n2, by show markW g.b (lowZ g.b) true < _; exact markW_lt (on := true) o.b hl (by omega)⟩, ?_, o.grow1 n2 hl⟩
        · rw [k7 _ (by omega) (by omega), k6 _ (by omega)]; exact g5
        · rw [hk7 _ (by omega) (by omega) (by omega) (by omega) (by omega)]; exact M.mb.m
        · rw [k7 _ (by omega) (by omega), k6 _ (by omega)]; exact kl5
        · rw [hk7 1 (by omega) (by omega) (by omega) (by omega) (by omega)]; exact M.t
      · have hm0 : m = w0 - c0 := by omega
        subst hm0
        have d1 : ¬ ((c0 + (w0 - c0) : Nat) : Int) < (w0 : Int) := by omega
        simp (disch := (first | omega | rfl | (simp only [Yn]; omega))) only [↓reduceIte, reduceCtorEq, Za, Zb, Zc, Zd, Ze, Zf, Zg, Zh, Zi, Zj, Zk, Zl, Zm, Zn, Zo, Zp, Zq, Zr, Zs, Zt, Zu, Zv, gval, Zw, rb0, rb1, rb2, rb3, rb4, tf0, tf1, tf2, tf3, Yk, Yh, overL_one, if_pos, stX_exactN, e12, e13, d1]
        exact hQx _ _ _ (by simp) ⟨rfl, by simp only [Za, Zw, Ye, e0], by simp only [Za, Zw, Ye, e1], by simp only [Za, Zw, Ye, e2], by simp only [Za, Zw, Ye, e7], by simp only [Za, Zw, Ye, e9], by simp only [Za, Zw, Ye, e10], by simp only [Za, Zw, Ye, e11], by simp only [Za, Zw, Ye, e12], M, hn4, hk4⟩
    · exact ⟨0, rfl, by omega, by simp only [Za, Zw, Ye], by simp only [Za, Zw, Ye], by simp only [Za, Zw, Ye], by simp only [Za, Zw, Ye], by simp only [Za, Zw, Ye], by simp only [Za, Zw, Ye], by simp only [Za, Zw, Ye], by simp only [Za, Zw, Ye], by simp only [Za, Zw, Ye], hM3, Nat.le_refl _, hk3⟩
    · rintro ex e h4 - ⟨rfl, e0, e1, e2, e7, e9, e10, e11, e12, M, hn4, hk4⟩
      obtain ⟨og, -⟩ := hgr (w0 - c0) (Nat.le_refl _)
      generalize hg : Rz.grow c0 (w0 - c0) ⟨s.b, s.dat, s.ino i⟩ = g at *
      have lx : ∀ x : Nat → Int, (i64s (row9 x)).length = 9 := fun x => by rw [List.length_map, row9_len]
      have hgx : ∀ k, w0 ≤ k → k < w0 + (c0 - w0) → 12 ≤ g.x (3 + k) ∧ g.x (3 + k) < s.n := fun k w1 w2 => by
        have : g.x (3 + k) = s.ino i (3 + k) := by
          rw [← hg, grow_x _ _ (by omega)]
        rw [this]
        exact ho.bl k (by rw [hc0]; omega)
      simp only [↓reduceIte, reduceCtorEq, Za, Zb, Zc, Zd, Ze, Zf, Zg, Zh, Zi, Zj, Zk, Zl, Zm, Zn, Zo, Zp, Zq, Zr, Zs, Zt, Zu, Zv, gval, Zw, rb0, rb1, rb2, rb3, rb4, tf0, tf1, tf2, tf3, Yk, e12]
      refine run_loop2 rfl (fun n' e h' => ∃ m : Nat, n' = c0 - w0 - m ∧ m ≤ c0 - w0 ∧ e.at 0 = .iface 22 (.pointer (some ⟨bd, 0, none⟩)) ∧ e.at 1 = .int .i64 i ∧ e.at 2 = .int .i64 sz ∧ e.at 7 = .pointer (some ⟨p, 0, none⟩) ∧ e.at 9 = .pointer (some ⟨pa, 0, none⟩) ∧ e.at 10 = .pointer (some ⟨pb, 0, none⟩) ∧ e.at 11 = .int .i64 c0 ∧ e.at 12 = .int .i64 w0 ∧ e.at 15 = .int .i64 ((w0 + m : Nat) : Int) ∧
          Mid h' bd bl s p pa la pb lb (Rz.shr w0 m g) ∧ h3.nx ≤ h'.nx ∧ ∀ b', b' < h.nx → b' ≠ bd → b' ≠ bl → h'.get b' = h.get b')
        (fun ex e h' => ex = .exit 3 ∧ e.at 0 = .iface 22 (.pointer (some ⟨bd, 0, none⟩)) ∧ e.at 1 = .int .i64 i ∧ e.at 2 = .int .i64 sz ∧ e.at 7 = .pointer (some ⟨p, 0, none⟩) ∧ e.at 9 = .pointer (some ⟨pa, 0, none⟩) ∧ e.at 10 = .pointer (some ⟨pb, 0, none⟩) ∧ e.at 12 = .int .i64 w0 ∧
          Mid h' bd bl s p pa la pb lb (Rz.shr w0 (c0 - w0) g) ∧ h3.nx ≤ h'.nx ∧ ∀ b', b' < h.nx → b' ≠ bd → b' ≠ bl → h'.get b' = h.get b') ?_ (c0 - w0) _ _ ?_ ?_
      · rintro n' e h5 ⟨m, rfl, hm, e0, e1, e2, e7, e9, e10, e11, e12, e15, M, hn5, hk5⟩ Q' hQn hQx
        by_cases hc : m < c0 - w0
        · have d1 : ((w0 + m : Nat) : Int) < (c0 : Int) := by omega
          have hj : 3 + (w0 + m) < 9 := by omega
          have hj1 : 3 + (w0 + m) + 1 ≤ 9 := by omega
          have hv : 12 ≤ (Rz.shr w0 m g).x (3 + (w0 + m)) ∧ (Rz.shr w0 m g).x (3 + (w0 + m)) < s.n := by
            rw [shr_x m _ (by omega)]
            exact hgx _ (by omega) (by omega)
          have o := M.ok
          have hgs : Rz.shr w0 (m + 1) g = (Rz.shr w0 m g).shr1 (w0 + m) := rfl
          generalize Rz.shr w0 m g = g2 at *
          obtain ⟨v, hvv⟩ : ∃ v : Nat, g2.x (3 + (w0 + m)) = v := ⟨(g2.x (3 + (w0 + m))).toNat, by omega⟩
          have gx : (i64s (row9 g2.x))[3 + (w0 + m)]? = some (.int .i64 (v : Int)) := by
            rw [List.getElem?_map, row9_get hj, hvv]; rfl
          have hset : overL (i64s (row9 g2.x)) (3 + (w0 + m)) [Value.int .i64 0] = i64s (row9 (updN g2.x (3 + (w0 + m)) 0)) := (overL_one _ (by rw [lx]; exact hj)).trans (ino_set _ hj)
          have hplb : p ≠ lb := by omega
          have hplb' : lb ≠ p := by omega
          simp (disch := (first | omega | rfl | (simp only [Yn]; omega))) only [↓reduceIte, reduceCtorEq, Za, Zb, Zc, Zd, Ze, Zf, Zg, Zh, Zi, Zj, Zk, Zl, Zm, Zn, Zo, Zp, Zq, Zr, Zs, Zt, Zu, Zv, gval, Zw, rb0, rb1, rb2, rb3, rb4, tf0, tf1, tf2, tf3, Yk, Yh, overL_one, if_pos, stX_exactN, e0, e7, e10, e11, e15, d1, M.x, lx, hj, gx, Nat.mul_one]
          refine runC_of (mark_spec pl M.mb (i := v) (by omega) fun mb6 => ?_)
          have wn : wrapF .i64 (((w0 + m : Nat) : Int) + 1) = ((w0 + (m + 1) : Nat) : Int) := by rw [wrapI (by omega) (by omega)]; omega
          simp (disch := (first | omega | rfl | (simp only [Yn]; omega))) only [↓reduceIte, reduceCtorEq, Za, Zb, Zc, Zd, Ze, Zf, Zg, Zh, Zi, Zj, Zk, Zl, Zm, Zn, Zo, Zp, Zq, Zr, Zs, Zt, Zu, Zv, gval, Zw, rb0, rb1, rb2, rb3, rb4, tf0, tf1, tf2, tf3, Yk, Yh, overL_one, if_pos, stX_exactN, e7, e15, M.x, lx, hj, hj1, hset, wn, Nat.mul_one]
          refine hQn _ _ _ (by omega) ⟨m + 1, rfl, by omega, by simp only [Za, Zw, Ye, e0], by simp only [Za, Zw, Ye, e1], by simp only [Za, Zw, Ye, e2], by simp only [Za, Zw, Ye, e7], by simp only [Za, Zw, Ye, e9], by simp only [Za, Zw, Ye, e10], by simp only [Za, Zw, Ye, e11], by simp only [Za, Zw, Ye, e12], by simp only [Za, Zw, Ye], ?_, by rw [Heap.nx_upd, Heap.nx_upd]; omega, fun b' w1 w2 w3 => by rw [Heap.get_upd_ne _ _ (by omega), Heap.get_upd_ne _ _ (by omega), hk5 _ w1 w2 w3]⟩
          rw [hgs]
          have kk : ∀ b', b' ≠ p → b' ≠ lb → ((h5.upd lb (cellsB [.int .u64 ((markW g2.b v false : Nat) : Int)] .exact)).upd p (cellsB (i64s (row9 (updN g2.x (3 + (w0 + m)) 0))) .exact)).get b' = h5.get b' := fun b' w1 w2 => by rw [Heap.get_upd_ne _ _ w1, Heap.get_upd_ne _ _ w2]
          have hmk : (g2.shr1 (w0 + m)).b = markW g2.b v false := by
            show markW g2.b (g2.x (3 + (w0 + m))).toNat false = _
            rw [hvv, Int.toNat_natCast]
          refine ⟨M.f.keep (by rw [Heap.nx_upd, Heap.nx_upd]; omega) (kk _ (by omega) (by omega)) (kk _ (by omega) (by omega)), Heap.get_upd_same _ _ _, M.ma.keep (kk _ (by omega) (by omega)) (kk _ (by omega) (by omega)), ⟨?_, ?_, M.mb.n1, M.mb.n2, ?_⟩, ?_, o.shr1 n2 hv⟩
          · rw [kk _ (by omega) (by omega)]; exact M.mb.m
          · rw [Heap.get_upd_ne _ _ hplb', Heap.get_upd_same, hmk]
          · rw [hmk]; exact markW_lt (on := false) o.b (by omega) (by omega)
          · rw [kk _ (by omega) (by omega)]; exact M.t
        · have hm0 : m = c0 - w0 := by omega
          subst hm0
          have d1 : ¬ ((w0 + (c0 - w0) : Nat) : Int) < (c0 : Int) := by omega
          simp (disch := (first | omega | rfl | (simp only [Yn]; omega))) only [↓reduceIte, reduceCtorEq, Za, Zb, Zc, Zd, Ze, Zf, Zg, Zh, Zi, Zj, Zk, Zl, Zm, Zn, Zo, Zp, Zq, Zr, Zs, Zt, Zu, Zv, gval, Zw, rb0, rb1, rb2, rb3, rb4, tf0, tf1, tf2, tf3, Yk, Yh, overL_one, if_pos, stX_exactN, e11, e15, d1]
          exact hQx _ _ _ (by simp) ⟨rfl, by simp only [Za, Zw, Ye, e0], by simp only [Za, Zw, Ye, e1], by simp only [Za, Zw, Ye, e2], by simp only [Za, Zw, Ye, e7], by simp only [Za, Zw, Ye, e9], by simp only [Za, Zw, Ye, e10], by simp only [Za, Zw, Ye, e12], M, hn5, hk5⟩
      · exact ⟨0, rfl, by omega, by simp only [Za, Zw, Ye, e0], by simp only [Za, Zw, Ye, e1], by simp only [Za, Zw, Ye, e2], by simp only [Za, Zw, Ye, e7], by simp only [Za, Zw, Ye, e9], by simp only [Za, Zw, Ye, e10], by simp only [Za, Zw, Ye, e11], by simp only [Za, Zw, Ye, e12], by simp only [Za, Zw, Ye], M, hn4, hk4⟩
      · rintro ex e h5 - ⟨rfl, e0, e1, e2, e7, e9, e10, e12, M, hn5, hk5⟩
        have hsz0 : (Rz.shr w0 (c0 - w0) g).x 2 = (s.size i : Int) := by rw [shr_x _ _ (by omega), ← hg, grow_x _ _ (by omega)]; exact hs0
        have hrz : s.rz i sz = Rz.shr w0 (c0 - w0) g := by
          unfold FS.rz
          rw [hc0, hw0, hg]
        have hxw : 0 < w0 → sz < s.size i → (Rz.shr w0 (c0 - w0) g).x (3 + (w0 - 1)) = s.ino i (3 + (w0 - 1)) := fun w1 w2 => by
          rw [shr_x _ _ (by omega), ← hg, show w0 - c0 = 0 by rw [← hw0, ← hc0]; unfold needN; omega]; rfl
        have hres : s.resize i sz = ⟨s.n, s.a, (Rz.shr w0 (c0 - w0) g).b, fun i' => if i' = i then updN (Rz.shr w0 (c0 - w0) g).x 2 sz else s.ino i', s.cut i sz (Rz.shr w0 (c0 - w0) g)⟩ := by
          unfold FS.resize
          rw [hrz]
        generalize Rz.shr w0 (c0 - w0) g = g3 at *
        have x2 : (i64s (row9 g3.x))[2]? = some (.int .i64 (s.size i : Int)) := by rw [List.getElem?_map, row9_get (by omega), hsz0]; rfl
        have wr : (sz : Int).tmod 32 = ((sz % 32 : Nat) : Int) := by rw [Int.tmod_eq_emod_of_nonneg (by omega)]; omega
        have wr2 : wrapF .i64 ((sz % 32 : Nat) : Int) = ((sz % 32 : Nat) : Int) := wrapI (by omega) (by omega)
        have hset : overL (i64s (row9 g3.x)) 2 [Value.int .i64 (sz : Int)] = i64s (row9 (updN g3.x 2 sz)) := (overL_one _ (by rw [lx]; omega)).trans (ino_set _ (by omega))
        have hxv : ∀ j, 0 ≤ updN g3.x 2 sz j ∧ updN g3.x 2 sz j < 9223372036854775808 := fun j => by
          unfold updN
          split
          · omega
          · exact M.ok.x j
        simp (disch := (first | omega | rfl | (simp only [Yn]; omega))) only [↓reduceIte, reduceCtorEq, Za, Zb, Zc, Zd, Ze, Zf, Zg, Zh, Zi, Zj, Zk, Zl, Zm, Zn, Zo, Zp, Zq, Zr, Zs, Zt, Zu, Zv, gval, Zw, rb0, rb1, rb2, rb3, rb4, tf0, tf1, tf2, tf3, Yk, Yh, overL_one, if_pos, stX_exactN, e2, e7, M.x, lx, x2, wr, wr2]
        have l39 : 2 + 1 ≤ 9 := by omega
        have ht9 : (i64s (row9 (updN g3.x 2 sz))).take 9 = i64s (row9 (updN g3.x 2 sz)) := List.take_of_length_le (by rw [lx]; omega)
        by_cases c4 : sz < s.size i
        · have c4' : (sz : Int) < (s.size i : Int) := by omega
          by_cases c5 : 0 < sz % 32
          · have c5' : (0 : Int) < ((sz % 32 : Nat) : Int) := by omega
            have hw1 : 0 < w0 := by rw [← hw0]; unfold needN; omega
            have hj : 3 + (w0 - 1) < 9 := by omega
            have hv := ho.bl (w0 - 1) (by rw [hc0, ← hc0, ← hw0]; unfold needN; omega)
            rw [← hxw hw1 c4] at hv
            obtain ⟨v, hvv⟩ : ∃ v : Nat, g3.x (3 + (w0 - 1)) = v := ⟨(g3.x (3 + (w0 - 1))).toNat, by omega⟩
            rw [hvv] at hv
            have gx : (i64s (row9 g3.x))[3 + (w0 - 1)]? = some (.int .i64 (v : Int)) := by
              rw [List.getElem?_map, row9_get hj, hvv]; rfl
            have wm : wrapF .i64 ((w0 : Int) - 1) = ((w0 - 1 : Nat) : Int) := by rw [wrapI (by omega) (by omega)]; omega
            simp (disch := (first | omega | rfl | (simp only [Yn]; omega))) only [↓reduceIte, reduceCtorEq, Za, Zb, Zc, Zd, Ze, Zf, Zg, Zh, Zi, Zj, Zk, Zl, Zm, Zn, Zo, Zp, Zq, Zr, Zs, Zt, Zu, Zv, gval, Zw, rb0, rb1, rb2, rb3, rb4, tf0, tf1, tf2, tf3, Yk, Yh, overL_one, if_pos, stX_exactN, e0, e2, e7, e12, c4', c5', wm, M.x, lx, hj, gx, Nat.mul_one]
            refine runC_of (fget_spec pl M.f (b := v) (by show v < s.n; omega) fun h6 n6 g6 f6 k6 => ?_)
            obtain ⟨r, hr⟩ : ∃ r, sz % 32 = r := ⟨_, rfl⟩
            have hr32 : r < 32 := by omega
            have hrow : rowD (FS.D ⟨s.n, s.a, s.b, s.ino, g3.dat⟩) v = (List.range 32).map (g3.dat v) := by
              unfold rowD
              refine List.map_congr_left fun k _ => ?_
              unfold FS.D
              rw [if_neg (by omega), if_neg (by omega)]
            rw [hrow] at g6
            have hl32 : (u64s ((List.range 32).map (g3.dat v))).length = 32 := by simp
            have hsl : slS (some 1) (some ⟨h5.nx, 0, none⟩) 32 32 (some (.int .i64 (r : Int))) none none h6.get = ret (.slice (some ⟨h5.nx, r, none⟩) (32 - r) (32 - r)) := by
              have := slS_loose (k := .i64) (off := 0) (n := 32) (c := 32) (l := r) g6 (by rw [hl32]) (by omega) (by omega)
              rwa [Nat.zero_add] at this
            have hclr := clear81 (off := r) (n := 32 - r) (c := 32 - r) g6 (by omega) (by rw [hl32]; omega)
            have hov : overL (u64s ((List.range 32).map (g3.dat v))) r (List.replicate (32 - r) (.int .u64 0)) = u64s ((List.range 32).map fun k => if k < r then g3.dat v k else 0) := by
              apply List.ext_getElem?
              intro k
              rw [overC_get (by rw [List.length_replicate, hl32]; omega), List.length_replicate]
              by_cases hk : k < 32
              · have e2 : (u64s ((List.range 32).map fun k => if k < r then g3.dat v k else 0))[k]? = some (.int .u64 (if k < r then g3.dat v k else 0)) := by rw [List.getElem?_map, List.getElem?_map, List.getElem?_range hk]; rfl
                rw [e2]
                by_cases hkr : k < r
                · rw [if_neg (by omega), if_pos hkr, List.getElem?_map, List.getElem?_map, List.getElem?_range hk]; rfl
                · rw [if_pos (by omega), if_neg hkr, List.getElem?_replicate, if_pos (by omega)]
              · rw [if_neg (by omega), List.getElem?_eq_none (by simp; omega), List.getElem?_eq_none (by simp; omega)]
            rw [hov] at hclr
            rw [hr]
            simp (disch := (first | omega | rfl | (simp only [Yn]; omega))) only [↓reduceIte, reduceCtorEq, Za, Zb, Zc, Zd, Ze, Zf, Zg, Zh, Zi, Zj, Zk, Zl, Zm, Zn, Zo, Zp, Zq, Zr, Zs, Zt, Zu, Zv, gval, Zw, rb0, rb1, rb2, rb3, rb4, tf0, tf1, tf2, tf3, Yk, Yh, overL_one, if_pos, stX_exactN, hsl, hclr, show ((0 : Int) == 0) = true from rfl]
            obtain ⟨h7, hh7⟩ : ∃ h7, h6.upd h5.nx (cellsB (u64s ((List.range 32).map fun k => if k < r then g3.dat v k else 0)) (.loose 1)) = h7 := ⟨_, rfl⟩
            have n7 : h7.nx = h5.nx + 1 := by rw [← hh7, Heap.nx_upd, n6]
            have g7 : h7.get h5.nx = some (cellsB (u64s ((List.range 32).map fun k => if k < r then g3.dat v k else 0)) (.loose 1)) := by rw [← hh7, Heap.get_upd_same]
            have k7 : ∀ b', b' < h5.nx → b' ≠ bd → h7.get b' = h5.get b' := fun b' w1 w2 => by rw [← hh7, Heap.get_upd_ne _ _ (by omega), k6 _ w1 w2]
            rw [hh7]
            have X7 := (k7 p (by omega) (by omega)).trans M.x
            have f7 : Fs h7 bd bl ⟨s.n, s.a, s.b, s.ino, g3.dat⟩ := f6.keep (by omega) (by rw [← hh7, Heap.get_upd_ne _ _ (by omega)]) (by rw [← hh7, Heap.get_upd_ne _ _ (by omega)])
            refine run_draw (ps := []) (by kernel_rfl) (by kernel_rfl) ?_
            simp (disch := (first | omega | rfl | (simp only [Yn]; omega))) only [↓reduceIte, reduceCtorEq, Za, Zb, Zc, Zd, Ze, Zf, Zg, Zh, Zi, Zj, Zk, Zl, Zm, Zn, Zo, Zp, Zq, Zr, Zs, Zt, Zu, Zv, gval, Zw, rb0, rb1, rb2, rb3, rb4, tf0, tf1, tf2, tf3, Yk, Yh, overL_one, if_pos, stX_exactN, e0, e7, e12, wm, X7, lx, hj, gx, Nat.mul_one, nil_put, u_invoke, invK_iface, inv_put]
            have hwr : ∀ j, 0 ≤ (if j < r then g3.dat v j else 0) ∧ (if j < r then g3.dat v j else 0) < 18446744073709551616 := fun j => by
              split
              · exact M.ok.dat v j
              · omega
            refine runCR_of (fbput_spec pl f7 (b := v) (by omega) (by show v < s.n; omega) g7 (off := 0) (w := fun k => if k < r then g3.dat v k else 0) (by rw [List.drop_zero, List.take_of_length_le (by simp)]) hwr (fun h8 n8 f8 k8 => ?_) (by omega))
            have k58 : ∀ b', b' < h5.nx → b' ≠ bd → b' ≠ bl → h8.get b' = h5.get b' := fun b' w1 w2 w3 => by rw [k8 _ w2 w3, k7 _ w1 w2]
            have X8 := (k58 p (by omega) (by omega) (by omega)).trans M.x
            have hk8 : ∀ b', b' < h.nx → b' ≠ bd → b' ≠ bl → h8.get b' = h.get b' := fun b' w1 w2 w3 => by rw [k58 _ (by omega) w2 w3, hk5 _ w1 w2 w3]
            have hn8 : h3.nx ≤ h8.nx := by omega
            simp (disch := (first | omega | rfl | (simp only [Yn]; omega))) only [↓reduceIte, reduceCtorEq, Za, Zb, Zc, Zd, Ze, Zf, Zg, Zh, Zi, Zj, Zk, Zl, Zm, Zn, Zo, Zp, Zq, Zr, Zs, Zt, Zu, Zv, gval, Zw, rb0, rb1, rb2, rb3, rb4, tf0, tf1, tf2, tf3, Yk, Yh, overL_one, if_pos, stX_exactN, e0, e1, e2, e7, e9, e10, X8, lx, hset, l39, show ((0 : Int) == 0) = true from rfl]
            obtain ⟨h9, hh9⟩ : ∃ h9, h8.upd p (cellsB (i64s (row9 (updN g3.x 2 sz))) .exact) = h9 := ⟨_, rfl⟩
            have n9 : h9.nx = h8.nx := by rw [← hh9, Heap.nx_upd]
            have g9 : h9.get p = some (cellsB (i64s (row9 (updN g3.x 2 sz))) .exact) := by rw [← hh9, Heap.get_upd_same]
            have k9 : ∀ b', b' ≠ p → h9.get b' = h8.get b' := fun b' hb' => by rw [← hh9, Heap.get_upd_ne _ _ hb']
            rw [hh9]
            have f9 : Fs h9 bd bl ⟨s.n, s.a, s.b, s.ino, fun b' => if b' = v then (fun k => if k < r then g3.dat v k else 0) else g3.dat b'⟩ := (f8).keep (by omega) (k9 _ (by omega)) (k9 _ (by omega))
            refine runC_of (keep_spec pl f9 (a := s.a) (b := g3.b) ((M.ma.keep (k58 _ (by omega) (by omega) (by omega)) (k58 _ (by omega) (by omega) (by omega))).keep (k9 _ (by omega)) (k9 _ (by omega))) ((M.mb.keep (k58 _ (by omega) (by omega) (by omega)) (k58 _ (by omega) (by omega) (by omega))).keep (k9 _ (by omega)) (k9 _ (by omega))) (by have := hn8; omega) (by omega) fun h10 f10 n10 k10 => ?_)
            have g10 : h10.get p = some (cellsB (i64s (row9 (updN g3.x 2 sz))) .exact) := (k10 _ (by omega) (by omega) (by omega)).trans g9
            simp (disch := (first | omega | rfl | (simp only [Yn]; omega))) only [↓reduceIte, reduceCtorEq, Za, Zb, Zc, Zd, Ze, Zf, Zg, Zh, Zi, Zj, Zk, Zl, Zm, Zn, Zo, Zp, Zq, Zr, Zs, Zt, Zu, Zv, gval, Zw, rb0, rb1, rb2, rb3, rb4, tf0, tf1, tf2, tf3, Yk, Yh, overL_one, if_pos, stX_exactN, e0, e1, e7, g10, lx, ht9, show ((0 : Int) == 0) = true from rfl]
            refine runC_of (fiput_spec pl f10 hi hxv fun h11 n11 f11 k11 => ?_)
            simp only [↓reduceIte, reduceCtorEq, Za, Zb, Zc, Zd, Ze, Zf, Zg, Zh, Zi, Zj, Zk, Zl, Zm, Zn, Zo, Zp, Zq, Zr, Zs, Zt, Zu, Zv, gval, Zw, rb0, rb1, rb2, rb3, rb4, tf0, tf1, tf2, tf3, Yk]
            refine hR4 sz rfl hsz (by omega) h11 ?_ (by have := hn8; omega) fun b' w1 w2 w3 => by rw [k11 _ (by have := hn8; omega) w2 w3, k10 _ (by have := hn8; omega) w2 w3, k9 _ (by omega), hk8 _ w1 w2 w3]
            rw [hres]
            have hcut : s.cut i sz g3 = fun b' => if b' = v then (fun k => if k < r then g3.dat v k else 0) else g3.dat b' := by
                          unfold FS.cut
                          rw [if_pos ⟨c4, by omega⟩, hw0, hvv, Int.toNat_natCast, hr]
                          funext b'
                          by_cases e : b' = v
                          · rw [if_pos e, if_pos e, e]
                          · rw [if_neg e, if_neg e]
            rw [hcut]
            exact f11
          · have c5' : ¬ (0 : Int) < ((sz % 32 : Nat) : Int) := by omega
            have hX := M.x
            simp (disch := (first | omega | rfl | (simp only [Yn]; omega))) only [↓reduceIte, reduceCtorEq, Za, Zb, Zc, Zd, Ze, Zf, Zg, Zh, Zi, Zj, Zk, Zl, Zm, Zn, Zo, Zp, Zq, Zr, Zs, Zt, Zu, Zv, gval, Zw, rb0, rb1, rb2, rb3, rb4, tf0, tf1, tf2, tf3, Yk, Yh, overL_one, if_pos, stX_exactN, e0, e1, e2, e7, e9, e10, hX, lx, hset, l39, c4', c5']
            obtain ⟨h9, hh9⟩ : ∃ h9, h5.upd p (cellsB (i64s (row9 (updN g3.x 2 sz))) .exact) = h9 := ⟨_, rfl⟩
            have n9 : h9.nx = h5.nx := by rw [← hh9, Heap.nx_upd]
            have g9 : h9.get p = some (cellsB (i64s (row9 (updN g3.x 2 sz))) .exact) := by rw [← hh9, Heap.get_upd_same]
            have k9 : ∀ b', b' ≠ p → h9.get b' = h5.get b' := fun b' hb' => by rw [← hh9, Heap.get_upd_ne _ _ hb']
            rw [hh9]
            have f9 : Fs h9 bd bl ⟨s.n, s.a, s.b, s.ino, g3.dat⟩ := (M.f).keep (by omega) (k9 _ (by omega)) (k9 _ (by omega))
            refine runC_of (keep_spec pl f9 (a := s.a) (b := g3.b) ((M.ma).keep (k9 _ (by omega)) (k9 _ (by omega))) ((M.mb).keep (k9 _ (by omega)) (k9 _ (by omega))) (by have := hn5; omega) (by omega) fun h10 f10 n10 k10 => ?_)
            have g10 : h10.get p = some (cellsB (i64s (row9 (updN g3.x 2 sz))) .exact) := (k10 _ (by omega) (by omega) (by omega)).trans g9
            simp (disch := (first | omega | rfl | (simp only [Yn]; omega))) only [↓reduceIte, reduceCtorEq, Za, Zb, Zc, Zd, Ze, Zf, Zg, Zh, Zi, Zj, Zk, Zl, Zm, Zn, Zo, Zp, Zq, Zr, Zs, Zt, Zu, Zv, gval, Zw, rb0, rb1, rb2, rb3, rb4, tf0, tf1, tf2, tf3, Yk, Yh, overL_one, if_pos, stX_exactN, e0, e1, e7, g10, lx, ht9, show ((0 : Int) == 0) = true from rfl]
            refine runC_of (fiput_spec pl f10 hi hxv fun h11 n11 f11 k11 => ?_)
            simp only [↓reduceIte, reduceCtorEq, Za, Zb, Zc, Zd, Ze, Zf, Zg, Zh, Zi, Zj, Zk, Zl, Zm, Zn, Zo, Zp, Zq, Zr, Zs, Zt, Zu, Zv, gval, Zw, rb0, rb1, rb2, rb3, rb4, tf0, tf1, tf2, tf3, Yk]
            refine hR4 sz rfl hsz (by omega) h11 ?_ (by have := hn5; omega) fun b' w1 w2 w3 => by rw [k11 _ (by have := hn5; omega) w2 w3, k10 _ (by have := hn5; omega) w2 w3, k9 _ (by omega), hk5 _ w1 w2 w3]
            rw [hres]
            have hcut : s.cut i sz g3 = g3.dat := by unfold FS.cut; rw [if_neg (by omega)]
            rw [hcut]
            exact f11
        · have c4' : ¬ (sz : Int) < (s.size i : Int) := by omega
          have hX := M.x
          simp (disch := (first | omega | rfl | (simp only [Yn]; omega))) only [↓reduceIte, reduceCtorEq, Za, Zb, Zc, Zd, Ze, Zf, Zg, Zh, Zi, Zj, Zk, Zl, Zm, Zn, Zo, Zp, Zq, Zr, Zs, Zt, Zu, Zv, gval, Zw, rb0, rb1, rb2, rb3, rb4, tf0, tf1, tf2, tf3, Yk, Yh, overL_one, if_pos, stX_exactN, e0, e1, e2, e7, e9, e10, hX, lx, hset, l39, c4', runG_undef]
          obtain ⟨h9, hh9⟩ : ∃ h9, h5.upd p (cellsB (i64s (row9 (updN g3.x 2 sz))) .exact) = h9 := ⟨_, rfl⟩
          have n9 : h9.nx = h5.nx := by rw [← hh9, Heap.nx_upd]
          have g9 : h9.get p = some (cellsB (i64s (row9 (updN g3.x 2 sz))) .exact) := by rw [← hh9, Heap.get_upd_same]
          have k9 : ∀ b', b' ≠ p → h9.get b' = h5.get b' := fun b' hb' => by rw [← hh9, Heap.get_upd_ne _ _ hb']
          rw [hh9]
          have f9 : Fs h9 bd bl ⟨s.n, s.a, s.b, s.ino, g3.dat⟩ := (M.f).keep (by omega) (k9 _ (by omega)) (k9 _ (by omega))
          refine runC_of (keep_spec pl f9 (a := s.a) (b := g3.b) ((M.ma).keep (k9 _ (by omega)) (k9 _ (by omega))) ((M.mb).keep (k9 _ (by omega)) (k9 _ (by omega))) (by have := hn5; omega) (by omega) fun h10 f10 n10 k10 => ?_)
          have g10 : h10.get p = some (cellsB (i64s (row9 (updN g3.x 2 sz))) .exact) := (k10 _ (by omega) (by omega) (by omega)).trans g9
          simp (disch := (first | omega | rfl | (simp only [Yn]; omega))) only [↓reduceIte, reduceCtorEq, Za, Zb, Zc, Zd, Ze, Zf, Zg, Zh, Zi, Zj, Zk, Zl, Zm, Zn, Zo, Zp, Zq, Zr, Zs, Zt, Zu, Zv, gval, Zw, rb0, rb1, rb2, rb3, rb4, tf0, tf1, tf2, tf3, Yk, Yh, overL_one, if_pos, stX_exactN, e0, e1, e7, g10, lx, ht9, show ((0 : Int) == 0) = true from rfl]
          refine runC_of (fiput_spec pl f10 hi hxv fun h11 n11 f11 k11 => ?_)
          simp only [↓reduceIte, reduceCtorEq, Za, Zb, Zc, Zd, Ze, Zf, Zg, Zh, Zi, Zj, Zk, Zl, Zm, Zn, Zo, Zp, Zq, Zr, Zs, Zt, Zu, Zv, gval, Zw, rb0, rb1, rb2, rb3, rb4, tf0, tf1, tf2, tf3, Yk]
          refine hR4 sz rfl hsz (by omega) h11 ?_ (by have := hn5; omega) fun b' w1 w2 w3 => by rw [k11 _ (by have := hn5; omega) w2 w3, k10 _ (by have := hn5; omega) w2 w3, k9 _ (by omega), hk5 _ w1 w2 w3]
          rw [hres]
          have hcut : s.cut i sz g3 = g3.dat := by unfold FS.cut; rw [if_neg (by omega)]
          rw [hcut]
          exact f11
end Go.Proofs.YtbgminppkacdlaaGreatDoor
end
section
/- Inodes: Alloc, Left, Free. Conditions: the disk lies as the rule names. -/
namespace Go.Proofs.YtbgminppkacdlaaGreatDoor
open Go.AM
open Nat renaming reduceBEq → Za, reduceEqDiff → Zb, reduceAdd → Zc, reduceSub → Zd, reduceMul → Ze, reduceLT → Zf, reduceLeDiff → Zg, reduceDiv → Zh, reduceMod → Zi, reducePow → Zj
open Int renaming reduceAdd → Zk, reduceSub → Zl, reduceMul → Zm, reduceLT → Zn, reduceLE → Zo, reduceEq → Zp, reduceNe → Zq, reduceNeg → Zr, reduceToNat → Zs, reduceDiv → Zt, reduceMod → Zu, reducePow → Zv, cast_ofNat_Int → Zw
set_option linter.unusedSimpArgs false
variable {sp : Special} {h : Heap} {R : Out → Heap → Prop} {bd bl : Nat} {s : FS}
def inoK (k : Int) : Nat → Int := fun j => if j = 0 then k else 0
theorem inoK_ok {k : Int} (hk : 0 ≤ k ∧ k < 9223372036854775808) (j : Nat) : 0 ≤ inoK k j ∧ inoK k j < 9223372036854775808 := by
  unfold inoK
  split
  · exact hk
  · omega
def FS.alloc (s : FS) (k : Int) : FS := (s.maps (markW s.a (lowZ s.a) true) s.b).putI (lowZ s.a) (inoK k)
set_option maxRecDepth 100000 in
theorem falloc_spec (pl : Plain sp) (ht : h.get 1 = some (tabBlk .u8 tab)) (f : Fs h bd bl s) (hz : 1 < bd ∧ 1 < bl) {k : Int} (hk : 0 ≤ k ∧ k < 9223372036854775808)
    (hno : ¬ lowZ s.a < 32 → ∀ h', Fs h' bd bl s → h.nx ≤ h'.nx → (∀ b', b' < h.nx → b' ≠ bd → b' ≠ bl → h'.get b' = h.get b') → R (.ret (.tuple #[.int .i64 0, .int .i64 28])) h')
    (hok : lowZ s.a < 32 → ∀ h', Fs h' bd bl (s.alloc k) → h.nx ≤ h'.nx → (∀ b', b' < h.nx → b' ≠ bd → b' ≠ bl → h'.get b' = h.get b') → R (.ret (.tuple #[.int .i64 (lowZ s.a), .int .i64 0])) h') :
    WF Tryz.prog 2 sp 51 [.iface 22 (.pointer (some ⟨bd, 0, none⟩)), .int .i64 k] h R := by
  refine wf_fn (fn := Tryz.f51) pl.p13 rfl (by kernel_rfl) rfl ?_
  have q1 := f.d.bd_lt
  have q2 := f.d.bl_lt
  simp only [↓reduceIte, reduceCtorEq, Za, Zb, Zc, Zd, Ze, Zf, Zg, Zh, Zi, Zj, Zk, Zl, Zm, Zn, Zo, Zp, Zq, Zr, Zs, Zt, Zu, Zv, gval, Zw, rb0, rb1, rb2, rb3, rb4, tf0, tf1, tf2, tf3, Yk, Tryz.f51]
  refine runC_of (maps_spec pl f fun h3 pa la pb lb f3 ma mb hab k3 => ?_)
  obtain ⟨a1, a2, a3, a4, a5⟩ := hab
  have t3 : h3.get 1 = some (tabBlk .u8 tab) := (k3 1 (by omega) (by omega)).trans ht
  simp only [↓reduceIte, reduceCtorEq, Za, Zb, Zc, Zd, Ze, Zf, Zg, Zh, Zi, Zj, Zk, Zl, Zm, Zn, Zo, Zp, Zq, Zr, Zs, Zt, Zu, Zv, gval, Zw, rb0, rb1, rb2, rb3, rb4, tf0, tf1, tf2, tf3, Yk, show ((0 : Int) == 0) = true from rfl]
  refine runC_of (take_spec pl t3 ma (fun c => ?_) (fun c ma4 => ?_))
  · simp only [↓reduceIte, reduceCtorEq, Za, Zb, Zc, Zd, Ze, Zf, Zg, Zh, Zi, Zj, Zk, Zl, Zm, Zn, Zo, Zp, Zq, Zr, Zs, Zt, Zu, Zv, gval, Zw, rb0, rb1, rb2, rb3, rb4, tf0, tf1, tf2, tf3, Yk, show (-1 : Int) < 0 from by decide]
    exact hno c h3 f3 (by omega) fun b' w1 w2 w3 => k3 _ w1 w2
  · have c0 : ¬ (lowZ s.a : Int) < 0 := by omega
    obtain ⟨h4, hh4⟩ : ∃ h4, h3.upd la (cellsB [.int .u64 ((markW s.a (lowZ s.a) true : Nat) : Int)] .exact) = h4 := ⟨_, rfl⟩
    rw [hh4] at ma4
    have n4 : h4.nx = h3.nx := by rw [← hh4, Heap.nx_upd]
    have k4 : ∀ b', b' ≠ la → h4.get b' = h3.get b' := fun b' hb' => by rw [← hh4, Heap.get_upd_ne _ _ hb']
    rw [hh4]
    have f4 : Fs h4 bd bl s := f3.keep (by omega) (k4 _ (by omega)) (k4 _ (by omega))
    simp only [↓reduceIte, reduceCtorEq, Za, Zb, Zc, Zd, Ze, Zf, Zg, Zh, Zi, Zj, Zk, Zl, Zm, Zn, Zo, Zp, Zq, Zr, Zs, Zt, Zu, Zv, gval, Zw, rb0, rb1, rb2, rb3, rb4, tf0, tf1, tf2, tf3, Yk, c0]
    refine runC_of (keep_spec pl f4 (a := markW s.a (lowZ s.a) true) (b := s.b) ma4 (mb.keep (k4 _ (by omega)) (k4 _ (by omega))) (by omega) (by omega) fun h5 f5 n5 k5 => ?_)
    simp (disch := (first | omega | rfl | (simp only [Yn]; omega))) only [↓reduceIte, reduceCtorEq, Za, Zb, Zc, Zd, Ze, Zf, Zg, Zh, Zi, Zj, Zk, Zl, Zm, Zn, Zo, Zp, Zq, Zr, Zs, Zt, Zu, Zv, gval, Zw, rb0, rb1, rb2, rb3, rb4, tf0, tf1, tf2, tf3, Yk, Yh, overL_one, if_pos, stX_exactN, show ((0 : Int) == 0) = true from rfl]
    refine runC_of (fiput_spec pl f5 (i := lowZ s.a) c (x := inoK k) (inoK_ok hk) fun h6 n6 f6 k6 => ?_)
    simp only [↓reduceIte, reduceCtorEq, Za, Zb, Zc, Zd, Ze, Zf, Zg, Zh, Zi, Zj, Zk, Zl, Zm, Zn, Zo, Zp, Zq, Zr, Zs, Zt, Zu, Zv, gval, Zw, rb0, rb1, rb2, rb3, rb4, tf0, tf1, tf2, tf3, Yk]
    exact hok c h6 f6 (by omega) fun b' w1 w2 w3 => by rw [k6 _ (by omega) w2 w3, k5 _ (by omega) w2 w3, k4 _ (by omega), k3 _ w1 w2]
end Go.Proofs.YtbgminppkacdlaaGreatDoor
end
section
/- Texts and rows of bytes of this program. Conditions: as each rule says. -/
namespace Go.Proofs.YtbgminppkacdlaaGreatDoor
open Go.AM
open Nat renaming reduceBEq → Za, reduceEqDiff → Zb, reduceAdd → Zc, reduceSub → Zd, reduceMul → Ze, reduceLT → Zf, reduceLeDiff → Zg, reduceDiv → Zh, reduceMod → Zi, reducePow → Zj
open Int renaming reduceAdd → Zk, reduceSub → Zl, reduceMul → Zm, reduceLT → Zn, reduceLE → Zo, reduceEq → Zp, reduceNe → Zq, reduceNeg → Zr, reduceToNat → Zs, reduceDiv → Zt, reduceMod → Zu, reducePow → Zv, cast_ofNat_Int → Zw
set_option linter.unusedSimpArgs false
variable {sp : Special} {h : Heap} {R : Out → Heap → Prop}
set_option maxRecDepth 100000 in
theorem st34 : ∃ i, Tryz.prog.info? 5 = some i ∧ i.size = 1 ∧ i.bytes = 1 ∧ Tryz.prog.underlying 84 = some (.slice 5) ∧ zeroL Tryz.prog 5 = some [.int .u8 0] := ⟨_, rfl, rfl, rfl, rfl, rfl⟩
theorem appB_unf (base : Option Addr) (m : Nat) {b : Nat} {v : Int} {g : Nat → Option Blk} (nx : Nat) (hb : g b = some (cellsB [.int .u8 v] .exact)) (hm : m ≤ 1000) {old : List Value} (hold : firstL g 1 m (.slice base m m) = some old) (hk : base = none ∨ ∃ b0 L, base = some ⟨b0, 0, none⟩ ∧ g b0 = some (cellsB L (.own 5)) ∧ L.length = m) :
    ∃ wr, aAppend Tryz.prog #[84, 84] (.slice base m m) (.slice (some ⟨b, 0, none⟩) 1 1) g nx = some ⟨.slice (some ⟨nx, 0, none⟩) (m + 1) (m + 1), wr, [cellsB (old ++ [.int .u8 v]) (.own 5)]⟩ ∧ (wr = [] ∨ ∃ b0 L, base = some ⟨b0, 0, none⟩ ∧ g b0 = some (cellsB L (.own 5)) ∧ wr = [(b0, .dead)]) := by
  obtain ⟨i, hi, hs, hby, hu, hz⟩ := st34
  have hnew : firstL g 1 1 (.slice (some ⟨b, 0, none⟩) 1 1) = some [.int .u8 v] := by rw [firstL_slc _ _ _ _ _ _ _ _ _ hb (by simp)]; rfl
  unfold aAppend
  simp only [hu, hi, hz, lenV]
  rw [if_neg (by rw [hs, hby]; simp; omega), hs]
  simp only [hnew, hold]
  rw [if_neg (by omega)]
  rcases hk with rfl | ⟨b0, L, rfl, hb0, hL⟩
  · exact ⟨[], rfl, .inl rfl⟩
  · simp only [hb0]
    unfold cellsB maybeRoom
    simp only [hL, Nat.mul_one, Nat.zero_add, and_self, if_true]
    exact ⟨_, rfl, .inr ⟨b0, L, rfl, by rw [hb0]; unfold cellsB; rw [hL], rfl⟩⟩
structure BAt (h : Heap) (lo : Nat) (v : Value) (l : List UInt8) : Prop where
  is : (v = .slice none 0 0 ∧ l = []) ∨ ∃ b, lo ≤ b ∧ b < h.nx ∧ v = .slice (some ⟨b, 0, none⟩) l.length l.length ∧ h.get b = some (cellsB (u8s l) (.own 5))
theorem BAt.keep {h' : Heap} {lo : Nat} {v : Value} {l : List UInt8} (x : BAt h lo v l) (hn : h.nx ≤ h'.nx) (hk : ∀ b, lo ≤ b → b < h.nx → h'.get b = h.get b) : BAt h' lo v l := by
  rcases x.is with ⟨h1, h2⟩ | ⟨b, h1, h2, h3, h4⟩
  · exact ⟨.inl ⟨h1, h2⟩⟩
  · exact ⟨.inr ⟨b, h1, by omega, h3, (hk b h1 h2).trans h4⟩⟩
theorem bs1_34 (v : Int) (nx : Nat) : effBuildSlice Tryz.prog 84 1 [(0, .int .u8 v)] nx = some ⟨.slice (some ⟨nx, 0, none⟩) 1 1, [], [cellsB [.int .u8 v] .exact]⟩ := by
  rw [u_buildSlice 84 1 nx _ mk_84 (by omega)]; rfl
theorem growB {lo : Nat} {v : Value} {l : List UInt8} (g : BAt h lo v l) (hlo : lo ≤ h.nx) (x : UInt8) (hsz : l.length ≤ 1000) :
    ∃ E h3 w, aAppend Tryz.prog #[84, 84] v (.slice (some ⟨h.nx, 0, none⟩) 1 1) (h.new (cellsB [.int .u8 x.toNat] .exact)).get (h.nx + 1) = some E ∧ E.val = w ∧ (h.new (cellsB [.int .u8 x.toNat] .exact)).apply E = h3 ∧ BAt h3 lo w (l ++ [x]) ∧ h.nx ≤ h3.nx ∧ (∀ b', b' < lo → h3.get b' = h.get b') ∧ ∀ b', b' < h.nx → (∀ L, h.get b' ≠ some (cellsB L (.own 5))) → h3.get b' = h.get b' := by
  obtain ⟨h2, hh2⟩ : ∃ h2, h.new (cellsB [.int .u8 x.toNat] .exact) = h2 := ⟨_, rfl⟩
  have n2 : h2.nx = h.nx + 1 := by rw [← hh2, Heap.nx_new]
  have g2 : h2.get h.nx = some (cellsB [.int .u8 x.toNat] .exact) := by rw [← hh2, Heap.get_new_same]
  have k2 : ∀ b', b' < h.nx → h2.get b' = h.get b' := fun b' hb' => by rw [← hh2, Heap.get_new_ne _ _ (by omega)]
  rw [hh2, ← n2]
  rcases g.is with ⟨rfl, rfl⟩ | ⟨b, h1, h3, rfl, h5⟩
  · obtain ⟨wr, e1, e2⟩ := appB_unf none 0 h2.nx g2 (by omega) (old := []) rfl (.inl rfl)
    rcases e2 with rfl | ⟨b0, L, e, _⟩
    · refine ⟨_, _, _, e1, rfl, rfl, ⟨.inr ⟨h2.nx, by omega, ?_, rfl, ?_⟩⟩, ?_, fun b' hb' => ?_, fun b' hb' hk => ?_⟩
      · rw [Heap.apply_nw, Heap.nx_new]; omega
      · rw [Heap.apply_nw, Heap.get_new_same]; rfl
      · rw [Heap.apply_nw, Heap.nx_new]; omega
      · rw [Heap.apply_nw, Heap.get_new_ne _ _ (by omega), k2 _ (by omega)]
      · rw [Heap.apply_nw, Heap.get_new_ne _ _ (by omega), k2 _ (by omega)]
    · cases e
  · have h5' := (k2 b h3).trans h5
    obtain ⟨wr, e1, e2⟩ := appB_unf (some ⟨b, 0, none⟩) l.length h2.nx g2 hsz (old := u8s l) (by rw [firstL_slc _ _ _ _ _ _ _ _ _ h5' (by rw [u8s_len]; omega), List.drop_zero, List.take_of_length_le (by rw [u8s_len]; omega)]) (.inr ⟨b, _, rfl, h5', u8s_len l⟩)
    have hw : u8s (l ++ [x]) = u8s l ++ [.int .u8 x.toNat] := by unfold u8s; rw [List.map_append]; rfl
    rcases e2 with rfl | ⟨b0, L, e, _, rfl⟩
    · refine ⟨_, _, _, e1, rfl, rfl, ⟨.inr ⟨h2.nx, by omega, ?_, by simp, ?_⟩⟩, ?_, fun b' hb' => ?_, fun b' hb' hk => ?_⟩
      · rw [Heap.apply_nw, Heap.nx_new]; omega
      · rw [Heap.apply_nw, Heap.get_new_same, hw]
      · rw [Heap.apply_nw, Heap.nx_new]; omega
      · rw [Heap.apply_nw, Heap.get_new_ne _ _ (by omega), k2 _ (by omega)]
      · rw [Heap.apply_nw, Heap.get_new_ne _ _ (by omega), k2 _ (by omega)]
    · cases e
      refine ⟨_, _, _, e1, rfl, rfl, ⟨.inr ⟨h2.nx, by omega, ?_, by simp, ?_⟩⟩, ?_, fun b' hb' => ?_, fun b' hb' hk => ?_⟩
      · rw [Heap.apply_wr_nw, Heap.nx_new, Heap.nx_upd]; omega
      · rw [Heap.apply_wr_nw, Heap.get_new_at _ (by rw [Heap.nx_upd]; omega), hw]
      · rw [Heap.apply_wr_nw, Heap.nx_new, Heap.nx_upd]; omega
      · rw [Heap.apply_wr_nw, Heap.get_new_ne _ _ (by rw [Heap.nx_upd]; omega), Heap.get_upd_ne _ _ (by omega), k2 _ (by omega)]
      · rw [Heap.apply_wr_nw, Heap.get_new_ne _ _ (by rw [Heap.nx_upd]; omega), Heap.get_upd_ne _ _ (fun e => hk _ (by rw [e]; exact h5)), k2 _ (by omega)]
theorem conv_bytes {lo : Nat} {v : Value} {l : List UInt8} (x : BAt h lo v l) : effConv Tryz.prog 84 9 v h.get h.nx = ret (.string (mkS l)) := by
  obtain ⟨i, hi, hs, hby, hu, hz⟩ := st34
  rcases x.is with ⟨rfl, rfl⟩ | ⟨b, _, _, rfl, h4⟩
  · unfold effConv
    simp only [hu, show Tryz.prog.underlying 9 = some .string from by kernel_rfl, show Tryz.prog.underlying 5 = some (.int .u8) from by kernel_rfl]
    rfl
  · unfold effConv
    simp only [hu, show Tryz.prog.underlying 9 = some .string from by kernel_rfl, show Tryz.prog.underlying 5 = some (.int .u8) from by kernel_rfl, bytes_at h4, Option.bind_some]
theorem str_neq (x y : Operand) (l : List UInt8) (g : Nat → Option Blk) : effBin Tryz.prog .neq 9 x y (.string (mkS l)) (.string (mkS [])) g = ret (.bool (decide (l ≠ []))) := by
  rw [effBin_str]
  cases l with
  | nil => rfl
  | cons b l => rfl
theorem str_eql (x y : Operand) (l : List UInt8) (g : Nat → Option Blk) : effBin Tryz.prog .eql 9 x y (.string (mkS l)) (.string (mkS [])) g = ret (.bool (decide (l = []))) := by
  rw [effBin_str]
  cases l with
  | nil => rfl
  | cons b l => rfl
end Go.Proofs.YtbgminppkacdlaaGreatDoor
end
section
/- Directories: the Builder. Conditions: as each rule says. -/
namespace Go.Proofs.YtbgminppkacdlaaGreatDoor
open Go.AM
open Nat renaming reduceBEq → Za, reduceEqDiff → Zb, reduceAdd → Zc, reduceSub → Zd, reduceMul → Ze, reduceLT → Zf, reduceLeDiff → Zg, reduceDiv → Zh, reduceMod → Zi, reducePow → Zj
open Int renaming reduceAdd → Zk, reduceSub → Zl, reduceMul → Zm, reduceLT → Zn, reduceLE → Zo, reduceEq → Zp, reduceNe → Zq, reduceNeg → Zr, reduceToNat → Zs, reduceDiv → Zt, reduceMod → Zu, reducePow → Zv, cast_ofNat_Int → Zw
set_option linter.unusedSimpArgs false
variable {h : Heap} {R : Out → Heap → Prop}
theorem stX_bld (b off : Nat) (v : Value) (l : List Value) (t : TypeId) : stX b off (some [v]) (some 1) (some (cellsB l (.bld t))) = if off < l.length then some ⟨undef, [(b, cellsB (l.set off v) (.bld t))], []⟩ else none := stX_one b off v l (.bld t) (by intro h; cases h)
structure Bu (h : Heap) (lo : Nat) (v : Value) (l : List UInt8) : Prop where
  is : (v = .slice none 0 0 ∧ l = []) ∨ (l ≠ [] ∧ ∃ b, lo ≤ b ∧ b < h.nx ∧ v = .slice (some ⟨b, 0, none⟩) l.length l.length ∧ h.get b = some (cellsB (u8s l) (.own 5)))
theorem Bu.keep {h' : Heap} {lo : Nat} {v : Value} {l : List UInt8} (x : Bu h lo v l) (hn : h.nx ≤ h'.nx) (hk : ∀ b, lo ≤ b → b < h.nx → h.get b = some (cellsB (u8s l) (.own 5)) → h'.get b = h.get b) : Bu h' lo v l := by
  rcases x.is with h1 | ⟨h0, b, h1, h2, h3, h4⟩
  · exact ⟨.inl h1⟩
  · exact ⟨.inr ⟨h0, b, h1, by omega, h3, (hk b h1 h2 h4).trans h4⟩⟩
theorem Bu.slc {lo : Nat} {v : Value} {l : List UInt8} (x : Bu h lo v l) : ∃ a, v = .slice a l.length l.length := by
  rcases x.is with ⟨rfl, rfl⟩ | ⟨_, b, _, _, rfl, _⟩ <;> exact ⟨_, rfl⟩
set_option maxRecDepth 100000 in
theorem appU {xt : TypeId} (hxt : xt = 9 ∨ xt = 84) {base : Option Addr} {m : Nat} {x : Value} {l : List UInt8} {g : Nat → Option Blk} (nx : Nat) (hn : lenV x = some l.length) (hf : firstL g 1 l.length x = some (u8s l)) (hm : m + l.length ≤ 1000) {old : List Value} (hold : firstL g 1 m (.slice base m m) = some old)
    (hk : base = none ∧ m = 0 ∨ ∃ b0 L, base = some ⟨b0, 0, none⟩ ∧ g b0 = some (cellsB L (.own 5)) ∧ L.length = m) :
    ∃ wr nw a, aAppend Tryz.prog #[84, xt] (.slice base m m) x g nx = some ⟨.slice a (m + l.length) (m + l.length), wr, nw⟩ ∧
      (l = [] ∧ a = base ∧ nw = [] ∧ (wr = [] ∨ ∃ b0, base = some ⟨b0, 0, none⟩ ∧ ∃ x, g b0 = some x ∧ wr = [(b0, x)]) ∨ l ≠ [] ∧ a = some ⟨nx, 0, none⟩ ∧ nw = [cellsB (old ++ u8s l) (.own 5)] ∧ (wr = [] ∨ ∃ b0 L, base = some ⟨b0, 0, none⟩ ∧ g b0 = some (cellsB L (.own 5)) ∧ wr = [(b0, .dead)])) := by
  obtain ⟨i, hi, hs, hby, hu, hz⟩ := st34
  have hlen : (u8s l).length = l.length := u8s_len l
  have hu9 : ∃ k, Tryz.prog.underlying xt = some k ∧ ∀ q, k ≠ .int q := by
    rcases hxt with rfl | rfl
    · exact ⟨.string, by kernel_rfl, fun q e => by cases e⟩
    · exact ⟨_, hu, fun q e => by cases e⟩
  obtain ⟨k, hk1, hk2⟩ := hu9
  by_cases c : l = []
  · subst c
    rcases hk with ⟨rfl, rfl⟩ | ⟨b0, L, rfl, hb0, hL⟩
    · refine ⟨[], [], none, ?_, .inl ⟨rfl, rfl, rfl, .inl rfl⟩⟩
      unfold aAppend
      simp only [hu, hk1, hi, hz, hn]
      cases k <;> first | exact absurd rfl (hk2 _) | skip
      all_goals
        try simp only
        rw [if_neg (by rw [hs, hby]; simp <;> omega), hs]
        simp only [hf, hold]
        rfl
    · refine ⟨[(b0, cellsB L (.own 5))], [], _, ?_, .inl ⟨rfl, rfl, rfl, .inr ⟨b0, rfl, _, hb0, rfl⟩⟩⟩
      unfold aAppend
      simp only [hu, hk1, hi, hz, hn]
      cases k <;> first | exact absurd rfl (hk2 _) | skip
      all_goals
        try simp only
        rw [if_neg (by rw [hs, hby]; simp <;> omega), hs]
        simp only [hf, hold]
        rw [if_pos (by simp)]
        simp only [hb0]
        unfold cellsB
        simp only [List.length_nil, Nat.add_zero, Nat.zero_add, Nat.mul_one]
        rw [if_pos (by omega)]; rfl
  · have hl0 : 0 < l.length := List.length_pos_iff.2 c
    rcases hk with ⟨rfl, rfl⟩ | ⟨b0, L, rfl, hb0, hL⟩
    · refine ⟨[], [cellsB (old ++ u8s l) (.own 5)], some ⟨nx, 0, none⟩, ?_, .inr ⟨c, rfl, rfl, .inl rfl⟩⟩
      unfold aAppend
      simp only [hu, hk1, hi, hz, hn]
      cases k <;> first | exact absurd rfl (hk2 _) | skip
      all_goals
        try simp only
        rw [if_neg (by rw [hs, hby]; simp <;> omega), hs]
        simp only [hf, hold]
        rw [if_neg (by omega)]; rfl
    · refine ⟨[(b0, .dead)], [cellsB (old ++ u8s l) (.own 5)], some ⟨nx, 0, none⟩, ?_, .inr ⟨c, rfl, rfl, .inr ⟨b0, L, rfl, hb0, rfl⟩⟩⟩
      unfold aAppend
      simp only [hu, hk1, hi, hz, hn]
      cases k <;> first | exact absurd rfl (hk2 _) | skip
      all_goals
        try simp only
        rw [if_neg (by rw [hs, hby]; simp <;> omega), hs]
        simp only [hf, hold]
        rw [if_neg (by omega)]
        simp only [hb0]
        unfold cellsB maybeRoom
        simp only [hL, Nat.mul_one, Nat.zero_add, and_self, if_true]
theorem growU {xt : TypeId} (hxt : xt = 9 ∨ xt = 84) {lo : Nat} {v x : Value} {B l : List UInt8} (g : Bu h lo v B) (hlo : lo ≤ h.nx) (hn : lenV x = some l.length) (hf : firstL h.get 1 l.length x = some (u8s l)) (hm : B.length + l.length ≤ 1000) :
    ∃ E h3 a, aAppend Tryz.prog #[84, xt] v x h.get h.nx = some E ∧ E.val = .slice a (B ++ l).length (B ++ l).length ∧ h.apply E = h3 ∧ Bu h3 lo (.slice a (B ++ l).length (B ++ l).length) (B ++ l) ∧ h.nx ≤ h3.nx ∧ (∀ b', b' < lo → h3.get b' = h.get b') ∧ ∀ b', b' < h.nx → (∀ L, h.get b' ≠ some (cellsB L (.own 5))) → h3.get b' = h.get b' := by
  have hlen : (B ++ l).length = B.length + l.length := List.length_append
  rcases g.is with ⟨rfl, rfl⟩ | ⟨h0, b, h1, h2, rfl, h4⟩
  · obtain ⟨wr, nw, a, e1, e2⟩ := appU hxt (base := none) (m := 0) h.nx hn hf (by simpa using hm) (old := []) rfl (.inl ⟨rfl, rfl⟩)
    rw [Nat.zero_add] at e1
    rcases e2 with ⟨rfl, rfl, rfl, e3⟩ | ⟨c, rfl, rfl, e3⟩
    · rcases e3 with rfl | ⟨b0, e, _⟩
      · exact ⟨_, h, none, e1, rfl, by rfl, ⟨.inl ⟨rfl, rfl⟩⟩, Nat.le_refl _, fun _ _ => rfl, fun _ _ _ => rfl⟩
      · cases e
    · rcases e3 with rfl | ⟨b0, L, e, _⟩
      · refine ⟨_, _, _, e1, rfl, rfl, ⟨.inr ⟨c, h.nx, hlo, ?_, rfl, ?_⟩⟩, ?_, fun b' hb' => ?_, fun b' hb' _ => ?_⟩
        · rw [Heap.apply_nw, Heap.nx_new]; omega
        · rw [Heap.apply_nw, Heap.get_new_same]; rfl
        · rw [Heap.apply_nw, Heap.nx_new]; omega
        · rw [Heap.apply_nw, Heap.get_new_ne _ _ (by omega)]
        · rw [Heap.apply_nw, Heap.get_new_ne _ _ (by omega)]
      · cases e
  · have hBl : (u8s B).length = B.length := u8s_len B
    obtain ⟨wr, nw, a, e1, e2⟩ := appU hxt (base := some ⟨b, 0, none⟩) (m := B.length) h.nx hn hf hm (old := u8s B) (by rw [firstL_slc _ _ _ _ _ _ _ _ _ h4 (by omega), List.drop_zero, List.take_of_length_le (by omega)]) (.inr ⟨b, _, rfl, h4, hBl⟩)
    rw [← hlen] at e1
    rcases e2 with ⟨rfl, rfl, rfl, e3⟩ | ⟨c, rfl, rfl, e3⟩
    · rw [List.append_nil] at e1 ⊢
      rcases e3 with rfl | ⟨b0, e, x0, hx0, rfl⟩
      · exact ⟨_, h, _, e1, rfl, by rfl, ⟨.inr ⟨h0, b, h1, h2, rfl, h4⟩⟩, Nat.le_refl _, fun _ _ => rfl, fun _ _ _ => rfl⟩
      · cases e
        have hh : ∀ b', (h.upd b x0).get b' = h.get b' := fun b' => by
          by_cases e : b' = b
          · rw [e, Heap.get_upd_same, hx0]
          · rw [Heap.get_upd_ne _ _ e]
        exact ⟨_, _, _, e1, rfl, by rw [Heap.apply_wr], ⟨.inr ⟨h0, b, h1, by rw [Heap.nx_upd]; exact h2, rfl, (hh b).trans h4⟩⟩, by rw [Heap.nx_upd]; exact Nat.le_refl _, fun _ _ => hh _, fun _ _ _ => hh _⟩
    · have hne : B ++ l ≠ [] := fun e => c (List.append_eq_nil_iff.1 e).2
      have hw : u8s (B ++ l) = u8s B ++ u8s l := List.map_append
      rcases e3 with rfl | ⟨b0, L, e, _, rfl⟩
      · refine ⟨_, _, _, e1, rfl, rfl, ⟨.inr ⟨hne, h.nx, hlo, ?_, rfl, ?_⟩⟩, ?_, fun b' hb' => ?_, fun b' hb' _ => ?_⟩
        · rw [Heap.apply_nw, Heap.nx_new]; omega
        · rw [Heap.apply_nw, Heap.get_new_same, hw]
        · rw [Heap.apply_nw, Heap.nx_new]; omega
        · rw [Heap.apply_nw, Heap.get_new_ne _ _ (by omega)]
        · rw [Heap.apply_nw, Heap.get_new_ne _ _ (by omega)]
      · cases e
        refine ⟨_, _, _, e1, rfl, rfl, ⟨.inr ⟨hne, h.nx, hlo, ?_, rfl, ?_⟩⟩, ?_, fun b' hb' => ?_, fun b' hb' hk => ?_⟩
        · rw [Heap.apply_wr_nw, Heap.nx_new, Heap.nx_upd]; omega
        · rw [Heap.apply_wr_nw, Heap.get_new_at _ (by rw [Heap.nx_upd]; omega), hw]
        · rw [Heap.apply_wr_nw, Heap.nx_new, Heap.nx_upd]; omega
        · rw [Heap.apply_wr_nw, Heap.get_new_ne _ _ (by rw [Heap.nx_upd]; omega), Heap.get_upd_ne _ _ (by omega)]
        · rw [Heap.apply_wr_nw, Heap.get_new_ne _ _ (by rw [Heap.nx_upd]; omega), Heap.get_upd_ne _ _ (fun e => hk _ (by rw [e]; exact h4))]
structure Bld (h : Heap) (b lo : Nat) (B : List UInt8) : Prop where
  is : ∃ a v, h.get b = some (cellsB [.pointer a, v] (.bld 127)) ∧ (a = none ∨ a = some ⟨b, 0, none⟩) ∧ Bu h lo v B
  lt : b < lo
  le : lo ≤ h.nx
theorem Bld.keep {h' : Heap} {b lo : Nat} {B : List UInt8} (x : Bld h b lo B) (hn : h.nx ≤ h'.nx) (hb : h'.get b = h.get b) (hk : ∀ b', lo ≤ b' → b' < h.nx → h.get b' = some (cellsB (u8s B) (.own 5)) → h'.get b' = h.get b') : Bld h' b lo B := by
  obtain ⟨a, v, h1, h2, h3⟩ := x.is
  exact ⟨⟨a, v, hb.trans h1, h2, h3.keep hn hk⟩, x.lt, by have := x.le; omega⟩
set_option maxRecDepth 100000 in
theorem cc_wf {b lo : Nat} {B : List UInt8} (x : Bld h b lo B)
    (hR : ∀ h' v, h'.nx = h.nx → h'.get b = some (cellsB [.pointer (some ⟨b, 0, none⟩), v] (.bld 127)) → Bu h' lo v B → (∀ b', b' ≠ b → h'.get b' = h.get b') → R (.ret (.tuple #[])) h') : WF Tryz.prog 2 sp16 94 [.pointer (some ⟨b, 0, none⟩)] h R := by
  obtain ⟨a, v, g, ha, hv⟩ := x.is
  rcases ha with rfl | rfl
  · refine ⟨.ret (.tuple #[]), h.upd b (cellsB [.pointer (some ⟨b, 0, none⟩), v] (.bld 127)), ⟨1, fun fu d h1 h2 => ?_⟩, ?_⟩
    · obtain ⟨d, rfl⟩ : ∃ k, d = k + 1 := ⟨d - 1, by omega⟩
      show ccF (Tryz.laysRepeat_ren.t 72) (acall Tryz.prog 1 sp16 fu d) [.pointer (some ⟨b, 0, none⟩)] h = _
      unfold ccF
      simp only [g, cellsB]
      rfl
    · exact hR _ v (Heap.nx_upd _ _ _) (Heap.get_upd_same _ _ _) (hv.keep (by rw [Heap.nx_upd]; exact Nat.le_refl _) fun b' h1 _ _ => Heap.get_upd_ne _ _ (by have := x.lt; omega)) fun b' hb' => Heap.get_upd_ne _ _ hb'
  · refine ⟨.ret (.tuple #[]), h, ⟨1, fun fu d h1 h2 => ?_⟩, hR h v rfl g hv fun _ _ => rfl⟩
    obtain ⟨d, rfl⟩ : ∃ k, d = k + 1 := ⟨d - 1, by omega⟩
    show ccF (Tryz.laysRepeat_ren.t 72) (acall Tryz.prog 1 sp16 fu d) [.pointer (some ⟨b, 0, none⟩)] h = _
    unfold ccF
    simp only [g, cellsB]
    show cond (Nat.beq b b && Nat.beq 0 0) (some (Out.ret (.tuple #[]), h)) none = _
    rw [Nat.beq_refl]; rfl
set_option maxRecDepth 100000 in
theorem ws_wf {b lo : Nat} {B l : List UInt8} (x : Bld h b lo B) (hm : B.length + l.length ≤ 1000)
    (hR : ∀ h', Bld h' b lo (B ++ l) → h.nx ≤ h'.nx → (∀ b', b' < lo → b' ≠ b → h'.get b' = h.get b') → (∀ b', b' < h.nx → b' ≠ b → (∀ L, h.get b' ≠ some (cellsB L (.own 5))) → h'.get b' = h.get b') → R (.ret (.tuple #[.int .i64 l.length, .nilIface])) h') :
    WF Tryz.prog 2 sp16 76 [.pointer (some ⟨b, 0, none⟩), .string (mkS l)] h R := by
  refine wf_fn (fn := Tryz.f76) rfl rfl (by kernel_rfl) rfl ?_
  have xl := x.lt
  have xe := x.le
  simp only [↓reduceIte, reduceCtorEq, Za, Zb, Zc, Zd, Ze, Zf, Zg, Zh, Zi, Zj, Zk, Zl, Zm, Zn, Zo, Zp, Zq, Zr, Zs, Zt, Zu, Zv, gval, Zw, rb0, rb1, rb2, rb3, rb4, tf0, tf1, tf2, tf3, Yk, Tryz.f76]
  refine runC_of (cc_wf x fun h1 v n1 g1 v1 k1 => ?_)
  obtain ⟨E, h3, a, a1, a2, a3, a4, a5, a6, a7⟩ := growU (.inl rfl) v1 (by omega) (x := .string (mkS l)) (l := l) rfl (by exact firstL_str h1.get (mkS l)) hm
  have g3 : h3.get b = some (cellsB [.pointer (some ⟨b, 0, none⟩), v] (.bld 127)) := (a6 b xl).trans g1
  simp (disch := (first | omega | rfl | (simp only [Yn]; omega))) only [↓reduceIte, reduceCtorEq, Za, Zb, Zc, Zd, Ze, Zf, Zg, Zh, Zi, Zj, Zk, Zl, Zm, Zn, Zo, Zp, Zq, Zr, Zs, Zt, Zu, Zv, gval, Zw, rb0, rb1, rb2, rb3, rb4, tf0, tf1, tf2, tf3, Yk, Yh, overL_one, if_pos, stX_exactN, g1, a1, a2, a3, g3, stX_bld, mkS_size]
  refine hR _ ⟨⟨_, _, Heap.get_upd_same _ _ _, .inr rfl, a4.keep (by rw [Heap.nx_upd]; exact Nat.le_refl _) fun b' h1 _ _ => Heap.get_upd_ne _ _ (by omega)⟩, xl, by rw [Heap.nx_upd]; omega⟩ (by rw [Heap.nx_upd]; omega) (fun b' h1 h2 => ?_) fun b' h1 h2 h4 => ?_
  · rw [Heap.get_upd_ne _ _ h2, a6 b' h1, k1 _ h2]
  · rw [Heap.get_upd_ne _ _ h2, a7 b' (by omega) (fun L => by rw [k1 _ h2]; exact h4 L), k1 _ h2]
set_option maxRecDepth 100000 in
theorem wb_wf {b lo : Nat} {B : List UInt8} {c : UInt8} (x : Bld h b lo B) (hm : B.length + 1 ≤ 1000)
    (hR : ∀ h', Bld h' b lo (B ++ [c]) → h.nx ≤ h'.nx → (∀ b', b' < lo → b' ≠ b → h'.get b' = h.get b') → (∀ b', b' < h.nx → b' ≠ b → (∀ L, h.get b' ≠ some (cellsB L (.own 5))) → h'.get b' = h.get b') → R (.ret .nilIface) h') :
    WF Tryz.prog 2 sp16 78 [.pointer (some ⟨b, 0, none⟩), .int .u8 c.toNat] h R := by
  refine wf_fn (fn := Tryz.f78) rfl rfl (by kernel_rfl) rfl ?_
  have xl := x.lt
  have xe := x.le
  simp only [↓reduceIte, reduceCtorEq, Za, Zb, Zc, Zd, Ze, Zf, Zg, Zh, Zi, Zj, Zk, Zl, Zm, Zn, Zo, Zp, Zq, Zr, Zs, Zt, Zu, Zv, gval, Zw, rb0, rb1, rb2, rb3, rb4, tf0, tf1, tf2, tf3, Yk, Tryz.f78]
  refine runC_of (cc_wf x fun h1 v n1 g1 v1 k1 => ?_)
  obtain ⟨h2, hh2⟩ : ∃ h2, h1.new (cellsB [.int .u8 c.toNat] .exact) = h2 := ⟨_, rfl⟩
  have n2 : h2.nx = h1.nx + 1 := by rw [← hh2, Heap.nx_new]
  have k2 : ∀ b', b' < h1.nx → h2.get b' = h1.get b' := fun b' hb' => by rw [← hh2, Heap.get_new_ne _ _ (by omega)]
  have g2 : h2.get h1.nx = some (cellsB [.int .u8 c.toNat] .exact) := by rw [← hh2, Heap.get_new_same]
  obtain ⟨E, h3, a, a1, a2, a3, a4, a5, a6, a7⟩ := growU (.inr rfl) (v1.keep (h' := h2) (by omega) fun b' _ h2 _ => k2 b' h2) (by omega) (x := .slice (some ⟨h1.nx, 0, none⟩) 1 1) (l := [c]) rfl (by rw [show [c].length = 1 from rfl, firstL_slc _ _ _ _ _ _ _ _ _ g2 (by simp)]; rfl) hm
  have g3 : h3.get b = some (cellsB [.pointer (some ⟨b, 0, none⟩), v] (.bld 127)) := (a6 b xl).trans ((k2 b (by omega)).trans g1)
  simp (disch := (first | omega | rfl | (simp only [Yn]; omega))) only [↓reduceIte, reduceCtorEq, Za, Zb, Zc, Zd, Ze, Zf, Zg, Zh, Zi, Zj, Zk, Zl, Zm, Zn, Zo, Zp, Zq, Zr, Zs, Zt, Zu, Zv, gval, Zw, rb0, rb1, rb2, rb3, rb4, tf0, tf1, tf2, tf3, Yk, Yh, overL_one, if_pos, stX_exactN, g1, bs1_34, hh2, a1, a2, a3, g3, stX_bld]
  refine hR _ ⟨⟨_, _, Heap.get_upd_same _ _ _, .inr rfl, a4.keep (by rw [Heap.nx_upd]; exact Nat.le_refl _) fun b' h1 _ _ => Heap.get_upd_ne _ _ (by omega)⟩, xl, by rw [Heap.nx_upd]; omega⟩ (by rw [Heap.nx_upd]; omega) (fun b' h1 h2 => ?_) fun b' h1 h2 h4 => ?_
  · rw [Heap.get_upd_ne _ _ h2, a6 b' h1, k2 _ (by omega), k1 _ h2]
  · rw [Heap.get_upd_ne _ _ h2, a7 b' (by omega) (fun L => by rw [k2 _ (by omega), k1 _ h2]; exact h4 L), k2 _ (by omega), k1 _ h2]
theorem byL_u8s : ∀ l : List UInt8, byL (u8s l) = some l
  | [] => rfl
  | b :: l => by
    show cond (Nat.blt b.toNat 256) ((byL (u8s l)).map _) none = _
    have hb := b.toNat_lt
    rw [byL_u8s l, show Nat.blt b.toNat 256 = true by rw [Nat.blt_eq]; exact hb]
    show some (_ :: l) = _
    congr 1
    congr 1
    apply UInt8.toNat_inj.1
    simp
set_option maxRecDepth 100000 in
theorem bstr_wf {b lo : Nat} {B : List UInt8} (x : Bld h b lo B) (hB : B.length ≤ 1000)
    (hR : ∀ h' a v, h'.nx = h.nx → h'.get b = some (cellsB [a, .slice v B.length B.length] (.bld 127)) → (∀ b', b' < lo → h'.get b' = h.get b') → R (.ret (.string (mkS B))) h') : WF Tryz.prog 2 sp16 79 [.pointer (some ⟨b, 0, none⟩)] h R := by
  obtain ⟨a, v, g, ha, hv⟩ := x.is
  have xl := x.lt
  rcases hv.is with ⟨rfl, rfl⟩ | ⟨h0, g0, h1, h2, rfl, h4⟩
  · refine ⟨.ret (.string (mkS [])), h, ⟨1, fun fu d h1 h2 => ?_⟩, hR h _ _ rfl g fun _ _ => rfl⟩
    obtain ⟨d, rfl⟩ : ∃ k, d = k + 1 := ⟨d - 1, by omega⟩
    show stF (Tryz.laysRepeat_ren.t 72) (Tryz.laysRepeat_ren.t 5) (acall Tryz.prog 1 sp16 fu d) [.pointer (some ⟨b, 0, none⟩)] h = _
    unfold stF
    simp only [g, cellsB]
    rfl
  · refine ⟨.ret (.string (mkS B)), h.upd g0 .dead, ⟨1, fun fu d h1 h2 => ?_⟩, hR _ _ _ (Heap.nx_upd _ _ _) ((Heap.get_upd_ne _ _ (by omega)).trans g) fun b' hb' => Heap.get_upd_ne _ _ (by omega)⟩
    obtain ⟨d, rfl⟩ : ∃ k, d = k + 1 := ⟨d - 1, by omega⟩
    show stF (Tryz.laysRepeat_ren.t 72) (Tryz.laysRepeat_ren.t 5) (acall Tryz.prog 1 sp16 fu d) [.pointer (some ⟨b, 0, none⟩)] h = _
    unfold stF
    simp only [g, cellsB]
    have hl0 : 1 ≤ B.length := List.length_pos_iff.2 h0
    have e1 : (Nat.beq 0 0 && Nat.ble 1 B.length && Nat.ble B.length B.length && Nat.ble B.length 1000000) = true := by
      simp only [Bool.and_eq_true, Nat.ble_eq]
      exact ⟨⟨⟨rfl, hl0⟩, Nat.le_refl _⟩, by omega⟩
    show cond (Nat.beq 0 0 && Nat.ble 1 B.length && Nat.ble B.length B.length && Nat.ble B.length 1000000) (match h.get g0 with
        | some (.cells ys mm (.own t')) => cond (Nat.beq t' 5 && Nat.ble B.length mm) (match byL (loadL ys 0 B.length) with
          | some bs => some ((Out.ret (.string ⟨bs.toArray⟩), Heap.mk (h.t.set g0 .dead) h.nx) : Out × Heap)
          | none => none) none
        | _ => none) none = _
    rw [e1, cond_true, h4]
    unfold cellsB
    simp only
    rw [loadL_ofList _ _ _ (by rw [u8s_len]; omega), List.drop_zero, List.take_of_length_le (by rw [u8s_len]; exact Nat.le_refl _), byL_u8s, u8s_len]
    have e2 : (Nat.beq 5 5 && Nat.ble B.length B.length) = true := by
      simp only [Bool.and_eq_true, Nat.ble_eq]
      exact ⟨rfl, Nat.le_refl _⟩
    rw [e2]; rfl
set_option maxRecDepth 100000 in
theorem blen_wf {b n c : Nat} {a : Value} {v : Option Addr} (g : h.get b = some (cellsB [a, .slice v n c] (.bld 127))) (hR : R (.ret (.int .i64 n)) h) : WF Tryz.prog 2 sp16 80 [.pointer (some ⟨b, 0, none⟩)] h R := by
  refine wf_fn (fn := Tryz.f80) rfl rfl (by kernel_rfl) rfl ?_
  simp only [↓reduceIte, reduceCtorEq, Za, Zb, Zc, Zd, Ze, Zf, Zg, Zh, Zi, Zj, Zk, Zl, Zm, Zn, Zo, Zp, Zq, Zr, Zs, Zt, Zu, Zv, gval, Zw, rb0, rb1, rb2, rb3, rb4, tf0, tf1, tf2, tf3, Yk, Tryz.f80, g]
  exact hR
theorem repB_one (c : UInt8) : ∀ n, repB [c] n = List.replicate n c
  | 0 => rfl
  | n + 1 => by
    show [c] ++ repB [c] n = _
    rw [repB_one c n]; rfl
set_option maxRecDepth 100000 in
theorem rep_wf {c : UInt8} {n : Nat} (hn : n ≤ 1000000) (hR : R (.ret (.string (mkS (List.replicate n c)))) h) : WF Tryz.prog 2 sp16 77 [.string (mkS [c]), .int .i64 n] h R := by
  refine ⟨_, h, ⟨1, fun fu d h1 h2 => ?_⟩, hR⟩
  obtain ⟨d, rfl⟩ : ∃ k, d = k + 1 := ⟨d - 1, by omega⟩
  show pureF repV (acall Tryz.prog 1 sp16 fu d) [.string (mkS [c]), .int .i64 n] h = _
  have e : (Nat.ble n 1000000 && Nat.ble (mkS [c]).size 1000000) = true := by
    simp only [Bool.and_eq_true, Nat.ble_eq]
    exact ⟨hn, by rw [mkS_size]; exact (by decide : 1 ≤ 1000000)⟩
  show Option.map _ (cond (Nat.ble n 1000000 && Nat.ble (mkS [c]).size 1000000) _ _) = _
  rw [e]
  show some (Out.ret (.string ⟨(repB [c] n).toArray⟩), h) = _
  rw [repB_one]
end Go.Proofs.YtbgminppkacdlaaGreatDoor
end
