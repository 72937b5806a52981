/- Lemmas of the claim: the machine of the proof and the walks of the program. Conditions: as each says. -/
import Derived.Test.YtmadjdgipfdnkaaDoorG7
import Derived.Test.YtmadjdgipfdnkaaDoorG6
import Derived.Test.YtmadjdgipfdnkaaDoorG4
import Derived.Test.YtmadjdgipfdnkaaDoorRows
import Derived.ProofKit
import GoSem.ClaimSeven
import Derived.Test.YtmadjdgipfdnkaaDoorCards
import Derived.Test.YtmadjdgipfdnkaaDoorTie
section
/- Files: Resize, Write, Alloc and what they hold. No condition. -/
namespace Go.Proofs.YtmadjdgipfdnkaaDoor
open Go.AM
open Nat renaming reduceBEq → Za, reduceEqDiff → Zb, reduceAdd → Zc, reduceSub → Zd, reduceMul → Ze, reduceLT → Zf, reduceLeDiff → Zg, reduceDiv → Zh, reduceMod → Zi, reducePow → Zj, blt_eq → ZF, zero_add → Qc, add_zero → Qd
open Int renaming reduceAdd → Zk, reduceSub → Zl, reduceMul → Zm, reduceLT → Zn, reduceLE → Zo, reduceEq → Zp, reduceNe → Zq, reduceNeg → Zr, reduceToNat → Zs, reduceDiv → Zt, reduceMod → Zu, reducePow → Zv, cast_ofNat_Int → Zw, toNat_natCast → Qb
open List renaming set_cons_zero → Zx, set_cons_succ → Zy, map_toArray → Zz, cons_append → ZA, nil_append → ZB, append_nil → ZC, all_cons → ZD, all_nil → ZE, getElem?_cons_zero → ZJ, getElem?_cons_succ → ZK, length_cons → ZL, length_nil → ZM, map_cons → ZN, map_nil → ZO, isEmpty_nil → Qe, any_cons → Qf, any_nil → Qg, drop_zero → Qk, drop_succ_cons → Ql, take_succ_cons → Qm, take_zero → Qn, take_nil → Qo, drop_nil → Qp
open Bool renaming and_true → ZG, true_and → ZH, and_self → ZI, not_true → ZT, not_false → ZU, true_eq_false → ZZ, false_eq_true → Qa, or_false → Qh, false_or → Qi, and_eq_true → Qj
open Option renaming map_some → ZP, map_none → ZQ, bind_some → ZR, getD_some → ZS, isNone_some → ZV, isNone_none → ZW, isSome_some → ZX, isSome_none → ZY
set_option linter.unusedSimpArgs false
variable {s : FS} {F : Nat → Prop}
theorem byteAt_blk (s : FS) (i p : Nat) : s.byteAt i p = UInt8.ofNat (s.dat (s.blk i (p / 32)) (p % 32)).toNat := rfl
/-- another size. -/
theorem resize_inv (I : s.Inv F) {i sz : Nat} (hi : F i) (hsz : sz ≤ 192) (hle : popc 64 s.b + (needN sz - needN (s.size i)) ≤ s.n) :
    (s.resize i sz).Inv F ∧ (∀ p, p < sz → (s.resize i sz).byteAt i p = if p < s.size i then s.byteAt i p else 0) ∧ (s.resize i sz).size i = sz ∧ (∀ j, j ≠ i → (s.resize i sz).size j = s.size j) ∧ ∀ j p, F j → j ≠ i → p < s.size j → (s.resize i sz).byteAt j p = s.byteAt j p := by
  have rf := rz_facts I.wf I.low (i := i) hle
  have ro := rz_ok I.wf I.low (I.ino i hi) hle
  have hsize : (s.resize i sz).size i = sz := resize_size
  have hsizej : ∀ j, j ≠ i → (s.resize i sz).size j = s.size j := fun j hj => by
    show ((if j = i then updN (s.rz i sz).x 2 sz else s.ino j) 2).toNat = _
    rw [if_neg hj]; rfl
  have hblk : ∀ k, (s.resize i sz).blk i k = ((s.rz i sz).x (3 + k)).toNat := fun k => by
    show ((if i = i then updN (s.rz i sz).x 2 sz else s.ino i) (3 + k)).toNat = _
    rw [if_pos rfl]
    unfold updN
    rw [if_neg (by omega)]
  have hblkj : ∀ j k, j ≠ i → (s.resize i sz).blk j k = s.blk j k := fun j k hj => by
    show ((if j = i then updN (s.rz i sz).x 2 sz else s.ino j) (3 + k)).toNat = _
    rw [if_neg hj]; rfl
  have hdat : (s.resize i sz).dat = s.cut i sz (s.rz i sz) := rfl
  have hb : (s.resize i sz).b = (s.rz i sz).b := rfl
  have hino : ∀ j k, (s.resize i sz).ino j k = (if j = i then updN (s.rz i sz).x 2 sz else s.ino j) k := fun _ _ => rfl
  generalize hg : s.rz i sz = g at *
  -- the last block's end
  have hcut : ∀ b k, s.cut i sz g b k = if (sz < s.size i ∧ 0 < sz % 32) ∧ b = s.blk i (needN sz - 1) ∧ ¬ k < sz % 32 then 0 else g.dat b k := fun b k => by
    unfold FS.cut
    by_cases c : sz < s.size i ∧ 0 < sz % 32
    · rw [if_pos c, rf.old (needN sz - 1) (by unfold needN; omega) (by unfold needN; omega)]
      by_cases e : b = s.blk i (needN sz - 1)
      · rw [if_pos e]
        by_cases e2 : k < sz % 32
        · rw [if_pos e2, if_neg (fun q => q.2.2 e2)]
        · rw [if_neg e2, if_pos ⟨c, e, e2⟩]
      · rw [if_neg e, if_neg (fun q => e q.2.1)]
    · rw [if_neg c, if_neg (fun q => c q.1)]
  have hoth : ∀ j k, F j → j ≠ i → k < needN (s.size j) → g.dat (s.blk j k) = s.dat (s.blk j k) ∧ ∀ t, s.cut i sz g (s.blk j k) t = s.dat (s.blk j k) t := fun j k hj hne hk => by
    have h1 := rf.dat _ (I.bit j k hj hk)
    refine ⟨h1, fun t => ?_⟩
    rw [hcut, if_neg, h1]
    rintro ⟨⟨c1, c2⟩, c3, _⟩
    exact hne (I.sep j k i _ hj hi hk (by unfold needN; omega) c3).1
  refine ⟨⟨?_, ?_, fun j hj => ?_, fun j k hj hk => ?_, fun j k j' m hj hj' hk hm e => ?_, fun j p hj h1 h2 => ?_⟩, fun p hp => ?_, hsize, hsizej, fun j p hj hne hp => ?_⟩
  · refine ⟨I.wf.n1, I.wf.n2, I.wf.a, ?_, fun j k => ?_, fun b k => ?_⟩
    · rw [hb]; exact ro.b
    · rw [hino]
      split
      · unfold updN
        split
        · omega
        · exact ro.x k
      · exact I.wf.ino j k
    · rw [hdat, hcut]
      split
      · omega
      · exact ro.dat b k
  · intro j hj
    rw [hb]; exact ro.low j hj
  · by_cases e : j = i
    · subst e
      exact resize_ino I.wf I.low (I.ino j hj) hsz hle
    · have := I.ino j hj
      have e2 : ∀ k, (s.resize i sz).ino j k = s.ino j k := fun k => by
        rw [hino, if_neg e]
      exact ⟨by rw [e2]; exact this.sz, fun k hk => by rw [hsizej j e] at hk; rw [e2]; exact this.bl k hk⟩
  · rw [hb, rf.bit]
    by_cases e : j = i
    · subst e
      rw [hsize] at hk
      rw [hblk]
      by_cases c : k < needN (s.size j)
      · rw [rf.old k c hk]
        exact .inl ⟨I.bit j k hj c, fun k' h1 h2 e => by have := (I.sep j k j k' hj hj c h2 e).2; omega⟩
      · exact .inr ⟨k, by omega, hk, rfl⟩
    · rw [hsizej j e] at hk
      rw [hblkj j k e]
      exact .inl ⟨I.bit j k hj hk, fun k' h1 h2 q => e (I.sep j k i k' hj hi hk h2 q).1⟩
  · by_cases e1 : j = i
    · subst e1
      rw [hsize] at hk
      by_cases e2 : j' = j
      · subst e2
        rw [hsize] at hm
        rw [hblk, hblk] at e
        refine ⟨rfl, ?_⟩
        by_cases c1 : k < needN (s.size j')
        · by_cases c2 : m < needN (s.size j')
          · rw [rf.old k c1 hk, rf.old m c2 hm] at e
            exact (I.sep j' k j' m hj hj c1 c2 e).2
          · rw [rf.old k c1 hk] at e
            have h1 := I.bit j' k hj c1
            rw [e, (rf.fresh m (by omega) hm).1] at h1
            cases h1
        · by_cases c2 : m < needN (s.size j')
          · rw [rf.old m c2 hm] at e
            have h1 := I.bit j' m hj c2
            rw [← e, (rf.fresh k (by omega) hk).1] at h1
            cases h1
          · exact rf.sep k m (by omega) hk (by omega) hm e
      · rw [hsizej j' e2] at hm
        rw [hblk, hblkj j' m e2] at e
        by_cases c1 : k < needN (s.size j)
        · rw [rf.old k c1 hk] at e
          exact I.sep j k j' m hj hj' c1 hm e
        · have h1 := I.bit j' m hj' hm
          rw [← e, (rf.fresh k (by omega) hk).1] at h1
          cases h1
    · rw [hsizej j e1] at hk
      rw [hblkj j k e1] at e
      by_cases e2 : j' = i
      · subst e2
        rw [hsize] at hm
        rw [hblk] at e
        by_cases c2 : m < needN (s.size j')
        · rw [rf.old m c2 hm] at e
          exact I.sep j k j' m hj hj' hk c2 e
        · have h1 := I.bit j k hj hk
          rw [e, (rf.fresh m (by omega) hm).1] at h1
          cases h1
      · rw [hsizej j' e2] at hm
        rw [hblkj j' m e2] at e
        exact I.sep j k j' m hj hj' hk hm e
  · rw [hdat]
    by_cases e : j = i
    · subst e
      rw [hsize] at h1 h2
      have hk : p / 32 < needN sz := by omega
      rw [hblk]
      by_cases c : p / 32 < needN (s.size j)
      · rw [rf.old _ c hk, hcut]
        have hlast : p / 32 = needN sz - 1 ∧ 0 < sz % 32 ∧ sz % 32 ≤ p % 32 := by unfold needN at h2 hk ⊢; omega
        by_cases c2 : sz < s.size j
        · rw [if_pos ⟨⟨c2, hlast.2.1⟩, by rw [hlast.1], by omega⟩]
        · rw [if_neg (fun q => c2 q.1.1), rf.dat _ (I.bit j _ hj c)]
          exact I.tail j p hj (by omega) (by omega)
      · rw [hcut, if_neg (fun q => by have := q.1.1; unfold needN at c hk; omega), (rf.fresh _ (by omega) hk).2]
    · rw [hsizej j e] at h1 h2
      rw [hblkj j _ e, (hoth j _ hj e (by omega)).2]
      exact I.tail j p hj h1 h2
  · have hk : p / 32 < needN sz := by unfold needN; omega
    rw [byteAt_blk, byteAt_blk, hdat, hblk]
    by_cases c : p / 32 < needN (s.size i)
    · rw [rf.old _ c hk, hcut, if_neg, rf.dat _ (I.bit i _ hi c)]
      · by_cases c2 : p < s.size i
        · rw [if_pos c2]
        · rw [if_neg c2, I.tail i p hi (by omega) (by omega)]; rfl
      · rintro ⟨⟨c1, c2⟩, c3, c4⟩
        have := (I.sep i _ i _ hi hi c (by unfold needN; omega) c3).2
        unfold needN at this
        omega
    · rw [hcut, if_neg (fun q => by have := q.1.1; unfold needN at c hk; omega), (rf.fresh _ (by omega) hk).2, if_neg (by unfold needN at c; omega)]; rfl
  · have hk : p / 32 < needN (s.size j) := by unfold needN; omega
    rw [byteAt_blk, byteAt_blk, hdat, hblkj j _ hne, (hoth j _ hj hne hk).2]
/-- bytes that are written. -/
theorem wrD_at (I : s.Inv F) {i off : Nat} {l : List UInt8} (hi : F i) : ∀ m, off + m ≤ s.size i → ∀ j p, F j → p < 32 * needN (s.size j) → wrD (s.ino i) off l s.dat m (s.blk j (p / 32)) (p % 32) = if j = i ∧ off ≤ p ∧ p < off + m then ((l[p - off]?.getD 0).toNat : Int) else s.dat (s.blk j (p / 32)) (p % 32)
  | 0, _, j, p, _, _ => by
    rw [if_neg (by omega)]; rfl
  | m + 1, h, j, p, hj, hp => by
    show (if s.blk j (p / 32) = s.blk i ((off + m) / 32) ∧ p % 32 = (off + m) % 32 then ((l[m]?.getD 0).toNat : Int) else wrD (s.ino i) off l s.dat m (s.blk j (p / 32)) (p % 32)) = _
    rw [wrD_at I hi m (by omega) j p hj hp]
    by_cases c : s.blk j (p / 32) = s.blk i ((off + m) / 32) ∧ p % 32 = (off + m) % 32
    · obtain ⟨rfl, e⟩ := I.sep j _ i _ hj hi (by omega) (by unfold needN; omega) c.1
      have : p = off + m := by omega
      subst this
      rw [if_pos c, if_pos ⟨rfl, by omega, by omega⟩, show off + m - off = m by omega]
    · rw [if_neg c]
      by_cases c2 : j = i ∧ off ≤ p ∧ p < off + m
      · rw [if_pos c2, if_pos ⟨c2.1, by omega, by omega⟩]
      · rw [if_neg c2, if_neg]
        rintro ⟨rfl, q1, q2⟩
        have : p = off + m := by omega
        subst this
        exact c ⟨rfl, rfl⟩
theorem write_inv (I : s.Inv F) {i off : Nat} {l : List UInt8} (hi : F i) (hle : off + l.length ≤ 192) (hroom : s.size i < off + l.length → popc 64 s.b + (needN (off + l.length) - needN (s.size i)) ≤ s.n) :
    (s.write i off l).Inv F ∧ (s.write i off l).size i = max (s.size i) (off + l.length) ∧ (∀ j, j ≠ i → (s.write i off l).size j = s.size j) ∧
    (∀ p, p < max (s.size i) (off + l.length) → (s.write i off l).byteAt i p = if off ≤ p ∧ p < off + l.length then l[p - off]?.getD 0 else if p < s.size i then s.byteAt i p else 0) ∧
    ∀ j p, F j → j ≠ i → p < s.size j → (s.write i off l).byteAt j p = s.byteAt j p := by
  obtain ⟨s1, hs1⟩ : ∃ s1, s.room i (off + l.length) = s1 := ⟨_, rfl⟩
  have h1 : s1.Inv F ∧ s1.size i = max (s.size i) (off + l.length) ∧ (∀ j, j ≠ i → s1.size j = s.size j) ∧ (∀ p, p < max (s.size i) (off + l.length) → s1.byteAt i p = if p < s.size i then s.byteAt i p else 0) ∧ ∀ j p, F j → j ≠ i → p < s.size j → s1.byteAt j p = s.byteAt j p := by
    rw [← hs1]
    unfold FS.room
    by_cases c : s.size i < off + l.length
    · rw [if_pos c, Nat.max_eq_right (by omega)]
      obtain ⟨a1, a2, a3, a4, a5⟩ := resize_inv I hi hle (hroom c)
      exact ⟨a1, a3, a4, a2, a5⟩
    · rw [if_neg c, Nat.max_eq_left (by omega)]
      exact ⟨I, rfl, fun _ _ => rfl, fun p hp => by rw [if_pos hp], fun _ _ _ _ _ => rfl⟩
  obtain ⟨I1, a2, a3, a4, a5⟩ := h1
  have hw : s.write i off l = ⟨s1.n, s1.a, s1.b, s1.ino, wrD (s1.ino i) off l s1.dat l.length⟩ := by unfold FS.write; rw [hs1]
  have hle1 : off + l.length ≤ s1.size i := by rw [a2]; exact Nat.le_max_right _ _
  have key := wrD_at I1 (off := off) (l := l) hi l.length hle1
  rw [hw]
  refine ⟨⟨⟨I1.wf.n1, I1.wf.n2, I1.wf.a, I1.wf.b, I1.wf.ino, fun b k => wrD_ok I1.wf.dat _ b k⟩, I1.low, fun j hj => ⟨(I1.ino j hj).sz, (I1.ino j hj).bl⟩, I1.bit, I1.sep, fun j p hj h1 h2 => ?_⟩, a2, a3, fun p hp => ?_, fun j p hj hne hp => ?_⟩
  · show wrD (s1.ino i) off l s1.dat l.length (s1.blk j (p / 32)) (p % 32) = 0
    rw [key j p hj h2, if_neg]
    · exact I1.tail j p hj h1 h2
    · rintro ⟨rfl, q1, q2⟩
      have h1 : s1.size j ≤ p := h1
      omega
  · show UInt8.ofNat (wrD (s1.ino i) off l s1.dat l.length (s1.blk i (p / 32)) (p % 32)).toNat = _
    rw [key i p hi (by rw [a2]; unfold needN; omega)]
    by_cases c : off ≤ p ∧ p < off + l.length
    · rw [if_pos ⟨rfl, c⟩, if_pos c, Int.toNat_natCast, UInt8.ofNat_toNat]
    · rw [if_neg (fun q => c q.2), if_neg c]
      exact a4 p hp
  · show UInt8.ofNat (wrD (s1.ino i) off l s1.dat l.length (s1.blk j (p / 32)) (p % 32)).toNat = _
    rw [key j p hj (by rw [a3 j hne]; unfold needN; omega), if_neg (fun q => hne q.1)]
    exact a5 j p hj hne hp
/-- a new one. -/
theorem alloc_inv (I : s.Inv F) {k : Int} (hk : 0 ≤ k ∧ k < 9223372036854775808) (hl : lowZ s.a < 32) (hnew : ¬ F (lowZ s.a)) : (s.alloc k).Inv (fun i => F i ∨ i = lowZ s.a) ∧ (s.alloc k).size (lowZ s.a) = 0 ∧ (∀ j, j ≠ lowZ s.a → (s.alloc k).size j = s.size j) ∧ (∀ j p, j ≠ lowZ s.a → (s.alloc k).byteAt j p = s.byteAt j p) ∧ (s.alloc k).a = markW s.a (lowZ s.a) true ∧ (s.alloc k).b = s.b := by
  obtain ⟨z, hz⟩ : ∃ z, lowZ s.a = z := ⟨_, rfl⟩
  rw [hz] at hl hnew ⊢
  have hi : ∀ j, (s.alloc k).ino j = if j = z then inoK k else s.ino j := fun j => by
    show (if j = lowZ s.a then inoK k else s.ino j) = _
    rw [hz]
  have hj : ∀ j, j ≠ z → (s.alloc k).ino j = s.ino j := fun j h => by rw [hi, if_neg h]
  have hzz : (s.alloc k).ino z = inoK k := by rw [hi, if_pos rfl]
  have s0 : (s.alloc k).size z = 0 := by unfold FS.size; rw [hzz]; rfl
  have sj : ∀ j, j ≠ z → (s.alloc k).size j = s.size j := fun j h => by unfold FS.size; rw [hj j h]
  have bj : ∀ j m, j ≠ z → (s.alloc k).blk j m = s.blk j m := fun j m h => by unfold FS.blk; rw [hj j h]
  have n0 : needN 0 = 0 := rfl
  have hne : ∀ j, F j → j ≠ z := fun j h e => hnew (e ▸ h)
  refine ⟨⟨⟨I.wf.n1, I.wf.n2, ?_, I.wf.b, fun j m => ?_, I.wf.dat⟩, I.low, fun j h => ?_, fun j m h hm => ?_, fun j m j' m' h h' hm hm' e => ?_, fun j p h h1 h2 => ?_⟩, s0, sj, fun j p h => ?_, ?_, rfl⟩
  · show markW s.a (lowZ s.a) true < _
    rw [hz]
    exact markW_lt (n := 32) (on := true) I.wf.a hl (by omega)
  · rw [hi]
    split
    · exact inoK_ok hk m
    · exact I.wf.ino j m
  · rcases h with h | rfl
    · have := I.ino j h
      exact ⟨by rw [hj j (hne j h)]; exact this.sz, fun m hm => by rw [sj j (hne j h)] at hm; rw [hj j (hne j h)]; exact this.bl m hm⟩
    · exact ⟨by rw [hzz]; show (0 : Int) ≤ 192; omega, fun m hm => by rw [s0, n0] at hm; omega⟩
  · rcases h with h | rfl
    · rw [sj j (hne j h)] at hm
      rw [bj j m (hne j h)]; exact I.bit j m h hm
    · rw [s0, n0] at hm; omega
  · rcases h with h | rfl
    · rcases h' with h' | rfl
      · rw [sj j (hne j h)] at hm
        rw [sj j' (hne j' h')] at hm'
        rw [bj j m (hne j h), bj j' m' (hne j' h')] at e
        exact I.sep j m j' m' h h' hm hm' e
      · rw [s0, n0] at hm'; omega
    · rw [s0, n0] at hm; omega
  · rcases h with h | rfl
    · rw [sj j (hne j h)] at h1 h2
      rw [bj j _ (hne j h)]; exact I.tail j p h h1 h2
    · rw [s0, n0] at h2; omega
  · unfold FS.byteAt
    rw [hj j h]; rfl
  · show markW s.a (lowZ s.a) true = _
    rw [hz]
theorem new_inv {n : Nat} (h1 : 13 ≤ n) (h2 : n ≤ 60) : (FS.new n).Inv fun _ => False :=
  ⟨.new h1 h2, fun j hj => by show (4095 : Nat).testBit j = true; have := lowN_bit 12 j; rw [show lowN 12 = 4095 from rfl] at this; rw [this]; exact decide_eq_true hj, fun _ h => h.elim, fun _ _ h => h.elim, fun _ _ _ _ h => h.elim, fun _ _ h => h.elim⟩
end Go.Proofs.YtmadjdgipfdnkaaDoor
end
section
/- InodeShrinks: the law's own steps. No condition. -/
namespace Go.Proofs.YtmadjdgipfdnkaaDoor
open Go.AM
open Nat renaming reduceBEq → Za, reduceEqDiff → Zb, reduceAdd → Zc, reduceSub → Zd, reduceMul → Ze, reduceLT → Zf, reduceLeDiff → Zg, reduceDiv → Zh, reduceMod → Zi, reducePow → Zj, blt_eq → ZF, zero_add → Qc, add_zero → Qd
open Int renaming reduceAdd → Zk, reduceSub → Zl, reduceMul → Zm, reduceLT → Zn, reduceLE → Zo, reduceEq → Zp, reduceNe → Zq, reduceNeg → Zr, reduceToNat → Zs, reduceDiv → Zt, reduceMod → Zu, reducePow → Zv, cast_ofNat_Int → Zw, toNat_natCast → Qb
open List renaming set_cons_zero → Zx, set_cons_succ → Zy, map_toArray → Zz, cons_append → ZA, nil_append → ZB, append_nil → ZC, all_cons → ZD, all_nil → ZE, getElem?_cons_zero → ZJ, getElem?_cons_succ → ZK, length_cons → ZL, length_nil → ZM, map_cons → ZN, map_nil → ZO, isEmpty_nil → Qe, any_cons → Qf, any_nil → Qg, drop_zero → Qk, drop_succ_cons → Ql, take_succ_cons → Qm, take_zero → Qn, take_nil → Qo, drop_nil → Qp
open Bool renaming and_true → ZG, true_and → ZH, and_self → ZI, not_true → ZT, not_false → ZU, true_eq_false → ZZ, false_eq_true → Qa, or_false → Qh, false_or → Qi, and_eq_true → Qj
open Option renaming map_some → ZP, map_none → ZQ, bind_some → ZR, getD_some → ZS, isNone_some → ZV, isNone_none → ZW, isSome_some → ZX, isSome_none → ZY
set_option linter.unusedSimpArgs false
variable {sp : Special} {h : Heap} {R : Out → Heap → Prop} {bd bl : Nat} {s : FS} {F : Nat → Prop}
/-- the run of Pair for 40 blocks in a heap of the table alone. -/
structure PairN (n : Nat) : Prop where
  run : ∀ fu d, acall Tryd.prog (0 + 1) sp15 (fu + 400) (d + 20) 12 [.int .i64 (n : Int)] H0 = some (.ret (.tuple #[.pointer (some ⟨2, 0, none⟩), .pointer (some ⟨3, 0, none⟩), .int .i64 1]), pairH (n : Int))
  f : ((pairH (n : Int)).get 2, (pairH (n : Int)).get 1, (pairH (n : Int)).get 0, Nat.ble 5 (pairH (n : Int)).nx) = (some (cellsB [.int .i64 (n : Int), .slice (some ⟨1, 0, none⟩) (n * 32) (n * 32), .int .i64 1, .int .i64 13] .exact), some (cellsB (u64s (words0 n)) .exact), some (tabBlk .u8 tab), true)
set_option maxRecDepth 100000 in
theorem prn40 : PairN 40 := ⟨fun fu d => by kernel_rfl, by kernel_rfl⟩
theorem PairN.fs {n : Nat} (p : PairN n) (h1 : 13 ≤ n) (h2 : n ≤ 60) : Fs (pairH (n : Int)) 2 1 (FS.new n) ∧ (pairH (n : Int)).get 0 = some (tabBlk .u8 tab) ∧ 5 ≤ (pairH (n : Int)).nx := by
  have hf := p.f
  simp only [Prod.mk.injEq] at hf
  obtain ⟨f1, f2, f4, f5⟩ := hf
  have f5 := Nat.le_of_ble_eq_true f5
  refine ⟨⟨⟨⟨1, 13, f1⟩, ?_, flat_len, by show n ≤ 1024; omega, by omega, by omega, by omega⟩, .new h1 h2⟩, f4, f5⟩
  show _ = some (cellsB (u64s (flatD n (FS.new n).D)) .exact)
  rw [← words0_fs]; exact f2
theorem PairN.wf {n : Nat} {R : Out → Heap → Prop} (p : PairN n) (hR : R (.ret (.tuple #[.pointer (some ⟨2, 0, none⟩), .pointer (some ⟨3, 0, none⟩), .int .i64 1])) (pairH (n : Int))) : WF Tryd.prog 1 sp15 12 [.int .i64 (n : Int)] H0 R := by
  refine ⟨_, _, ⟨400, fun fu d h1 h2 => ?_⟩, hR⟩
  obtain ⟨fu, rfl⟩ : ∃ k, fu = k + 400 := ⟨fu - 400, by omega⟩
  obtain ⟨d, rfl⟩ : ∃ k, d = k + 20 := ⟨d - 20, by omega⟩
  exact p.run fu d
theorem popc_sub : ∀ (k p q : Nat), (∀ i, q.testBit i = true → p.testBit i = true) → popc k q ≤ popc k p
  | 0, _, _, _ => Nat.le_refl _
  | k + 1, p, q, h => by
    show q % 2 + popc k (q / 2) ≤ p % 2 + popc k (p / 2)
    have a := h 0
    rw [Nat.testBit_zero, Nat.testBit_zero, decide_eq_true_eq, decide_eq_true_eq] at a
    have ih := popc_sub k (p / 2) (q / 2) fun i hi => by rw [Nat.testBit_div_two] at hi ⊢; exact h (i + 1) hi
    omega
theorem rz_popc (f : s.Wf) (hlow : s.Low) {i sz : Nat} (hle : popc 64 s.b + (needN sz - needN (s.size i)) ≤ s.n) : popc 64 (s.rz i sz).b ≤ popc 64 s.b + (needN sz - needN (s.size i)) := by
  obtain ⟨o1, h1⟩ := popc_grow (k0 := needN (s.size i)) f.n2 (rz_start f hlow i) (needN sz - needN (s.size i)) hle
  have h1 : popc 64 (Rz.grow (needN (s.size i)) (needN sz - needN (s.size i)) ⟨s.b, s.dat, s.ino i⟩).b = popc 64 s.b + (needN sz - needN (s.size i)) := h1
  unfold FS.rz
  obtain ⟨_, g2⟩ := shr_facts (g := Rz.grow (needN (s.size i)) (needN sz - needN (s.size i)) ⟨s.b, s.dat, s.ino i⟩) (k0 := needN sz) (by have := bitN_small o1.b f.n2; omega) (needN (s.size i) - needN sz)
  have := popc_sub 64 (Rz.grow (needN (s.size i)) (needN sz - needN (s.size i)) ⟨s.b, s.dat, s.ino i⟩).b _ fun p hp => ((g2 p).1 hp).1
  omega
theorem write_popc (f : s.Wf) (hlow : s.Low) {i off : Nat} {l : List UInt8} (hroom : s.size i < off + l.length → popc 64 s.b + (needN (off + l.length) - needN (s.size i)) ≤ s.n) : popc 64 (s.write i off l).b ≤ popc 64 s.b + needN (off + l.length) := by
  show popc 64 (s.room i (off + l.length)).b ≤ _
  unfold FS.room
  split
  · rename_i c
    have := rz_popc f hlow (i := i) (hroom c)
    show popc 64 (s.rz i (off + l.length)).b ≤ _
    omega
  · omega
/-- Write at the head of an empty file. -/
theorem fwrite_head (pl : Plain sp) (ht : h.get 0 = some (tabBlk .u8 tab)) (f : Fs h bd bl s) (hz : bd ≠ 0 ∧ bl ≠ 0) {i : Nat} (hi : i < 32) (I : s.Inv F) (hF : F i) (h0 : s.size i = 0) {l : List UInt8} (hl : l.length ≤ 192) (hp : popc 64 s.b + 6 ≤ s.n)
    (hR : ∀ s' h', s'.Inv F → s'.n = s.n → s'.size i = l.length → popc 64 s'.b ≤ popc 64 s.b + 6 → (∀ p, p < l.length → s'.byteAt i p = l[p]?.getD 0) → Fs h' bd bl s' → h.nx ≤ h'.nx → (∀ b', b' < h.nx → b' ≠ bd → b' ≠ bl → h'.get b' = h.get b') → R (.ret (.int .i64 0)) h') :
    WF Tryd.prog 1 sp 14 [.iface 23 (.pointer (some ⟨bd, 0, none⟩)), .int .i64 i, .int .i64 0, .string (mkS l)] h R := by
  have n0 : needN 0 = 0 := rfl
  have n6 : needN l.length ≤ 6 := by unfold needN; omega
  refine fwrite_spec pl ht f hz hi (I.ino i hF) I.low (off := 0) (by omega) (l := l) (by omega) (fun c => absurd c (by decide)) (fun c _ => by omega) (fun o e c _ _ c2 h' f' n' k' => ?_) (fun o e c hl0 h' f' n' k' => ?_) fun o e c c2 cc h' f' n' k' => ?_
  · obtain rfl : o = 0 := by omega
    rw [Nat.zero_add, h0, n0] at c2; omega
  · subst hl0
    exact hR s h' I rfl h0 (by omega) (fun p hp => by simp at hp) f' n' k'
  · obtain rfl : o = 0 := by omega
    obtain ⟨a1, a2, a3, a4, a5⟩ := write_inv I (off := 0) (l := l) hF (by omega) cc
    rw [h0, Nat.zero_add, Nat.max_eq_right (by omega)] at a2 a4
    have hn : (s.write i 0 l).n = s.n := by
      show (s.room i (0 + l.length)).n = s.n
      unfold FS.room
      split <;> rfl
    have hpp := write_popc I.wf I.low (i := i) (off := 0) (l := l) cc
    rw [Nat.zero_add] at hpp
    refine hR _ h' a1 hn a2 (by omega) (fun p hp => ?_) f' n' k'
    rw [a4 p hp, if_pos ⟨by omega, by omega⟩, Nat.sub_zero]
set_option maxRecDepth 100000 in
set_option maxHeartbeats 2000000 in
theorem shr_walk {S : ByteArray} {to ag : Int} (hR : ∀ h, R (.ret (.bool true)) h) : WF Tryd.prog 1 sp15 5 [.string S, .int .i64 to, .int .i64 ag] H0 R := by
  have pl : Plain sp15 := by constructor <;> rfl
  obtain ⟨l, rfl⟩ : ∃ l, S = mkS l := ⟨S.data.toList, (mkS_data S).symm⟩
  refine wf_fn (fn := Tryd.f5) rfl rfl (by kernel_rfl) rfl ?_
  simp only [↓reduceIte, reduceCtorEq, Za, Zb, Zc, Zd, Ze, Zf, Zg, Zh, Zi, Zj, Zk, Zl, Zm, Zn, Zo, Zp, Zq, Zr, Zs, Zt, Zu, Zv, gval, Zw, Zx, Zy, Zz, ZA, ZB, ZC, ZD, ZE, ZF, decide_eq_true_eq, ZG, ZH, ZI, ZJ, ZK, ZL, ZM, ZN, ZO, ZP, ZQ, ZR, ZS, Option.some.injEq, exists_eq_left', ZT, ZU, ZV, ZW, ZX, ZY, true_and, and_true, true_or, or_true, false_or, or_false, ite_true, ite_false, cond_true, cond_false, ZZ, Qa, if_true, if_false, decide_true, decide_false, Qb, Qc, Qd, Qe, Qf, Qg, Qh, Qi, Qj, Qk, Ql, Qm, Qn, Qo, Qp, rb0, rb1, rb2, rb3, rb4, tf0, tf1, tf2, tf3, tf4, Tryd.f5]
  refine runC_of (prn40.wf ?_)
  obtain ⟨f1, t1, m1⟩ := prn40.fs (by omega) (by omega)
  generalize pairH ((40 : Nat) : Int) = h1 at *
  simp only [↓reduceIte, reduceCtorEq, Za, Zb, Zc, Zd, Ze, Zf, Zg, Zh, Zi, Zj, Zk, Zl, Zm, Zn, Zo, Zp, Zq, Zr, Zs, Zt, Zu, Zv, gval, Zw, Zx, Zy, Zz, ZA, ZB, ZC, ZD, ZE, ZF, decide_eq_true_eq, ZG, ZH, ZI, ZJ, ZK, ZL, ZM, ZN, ZO, ZP, ZQ, ZR, ZS, Option.some.injEq, exists_eq_left', ZT, ZU, ZV, ZW, ZX, ZY, true_and, and_true, true_or, or_true, false_or, or_false, ite_true, ite_false, cond_true, cond_false, ZZ, Qa, if_true, if_false, decide_true, decide_false, Qb, Qc, Qd, Qe, Qf, Qg, Qh, Qi, Qj, Qk, Ql, Qm, Qn, Qo, Qp, rb0, rb1, rb2, rb3, rb4, tf0, tf1, tf2, tf3, tf4, ifc23, show ((1 : Int) == 0) = false from rfl]
  have hz1 : lowZ (FS.new 40).a = 1 := lowZ_low (m := 1) (by omega)
  refine runC_of (falloc_spec pl t1 f1 (by omega) (k := 1) (by omega) (fun c => absurd (by rw [hz1]; omega) c) fun _ h2 f2 n2 k2 => ?_)
  rw [hz1]
  obtain ⟨I2, z2, _, _, _, hb2⟩ := alloc_inv (new_inv (n := 40) (by omega) (by omega)) (k := 1) (by omega) (by rw [hz1]; omega) (fun q => q)
  rw [hz1] at I2 z2
  have hp2 : popc 64 ((FS.new 40).alloc 1).b = 12 := by rw [hb2]; exact popc_low (m := 12) (by omega)
  have hn2 : ((FS.new 40).alloc 1).n = 40 := rfl
  generalize (FS.new 40).alloc 1 = s2 at *
  have t2 := (k2 0 (by omega) (by omega) (by omega)).trans t1
  have hsz : (mkS l).size = l.length := rfl
  by_cases c1 : (192 : Int) < (l.length : Int)
  · simp (disch := (first | omega | rfl | (simp only [Heap.nx_upd, Heap.nx_new]; omega))) only [↓reduceIte, reduceCtorEq, Za, Zb, Zc, Zd, Ze, Zf, Zg, Zh, Zi, Zj, Zk, Zl, Zm, Zn, Zo, Zp, Zq, Zr, Zs, Zt, Zu, Zv, gval, Zw, Zx, Zy, Zz, ZA, ZB, ZC, ZD, ZE, ZF, decide_eq_true_eq, ZG, ZH, ZI, ZJ, ZK, ZL, ZM, ZN, ZO, ZP, ZQ, ZR, ZS, Option.some.injEq, exists_eq_left', ZT, ZU, ZV, ZW, ZX, ZY, true_and, and_true, true_or, or_true, false_or, or_false, ite_true, ite_false, cond_true, cond_false, ZZ, Qa, if_true, if_false, decide_true, decide_false, Qb, Qc, Qd, Qe, Qf, Qg, Qh, Qi, Qj, Qk, Ql, Qm, Qn, Qo, Qp, rb0, rb1, rb2, rb3, rb4, tf0, tf1, tf2, tf3, tf4, Heap.get_upd_ne, Heap.get_new_ne, Heap.get_new_at, overL_one, if_pos, stX_exactN, hsz, c1, runG_undef, show ((0 : Int) == 0) = true from rfl]
    refine runC_of (aw_wf t2 ?_)
    simp only [↓reduceIte, reduceCtorEq, Za, Zb, Zc, Zd, Ze, Zf, Zg, Zh, Zi, Zj, Zk, Zl, Zm, Zn, Zo, Zp, Zq, Zr, Zs, Zt, Zu, Zv, gval, Zw, Zx, Zy, Zz, ZA, ZB, ZC, ZD, ZE, ZF, decide_eq_true_eq, ZG, ZH, ZI, ZJ, ZK, ZL, ZM, ZN, ZO, ZP, ZQ, ZR, ZS, Option.some.injEq, exists_eq_left', ZT, ZU, ZV, ZW, ZX, ZY, true_and, and_true, true_or, or_true, false_or, or_false, ite_true, ite_false, cond_true, cond_false, ZZ, Qa, if_true, if_false, decide_true, decide_false, Qb, Qc, Qd, Qe, Qf, Qg, Qh, Qi, Qj, Qk, Ql, Qm, Qn, Qo, Qp, rb0, rb1, rb2, rb3, rb4, tf0, tf1, tf2, tf3, tf4, hR]
  by_cases c2 : to < 0
  · simp (disch := (first | omega | rfl | (simp only [Heap.nx_upd, Heap.nx_new]; omega))) only [↓reduceIte, reduceCtorEq, Za, Zb, Zc, Zd, Ze, Zf, Zg, Zh, Zi, Zj, Zk, Zl, Zm, Zn, Zo, Zp, Zq, Zr, Zs, Zt, Zu, Zv, gval, Zw, Zx, Zy, Zz, ZA, ZB, ZC, ZD, ZE, ZF, decide_eq_true_eq, ZG, ZH, ZI, ZJ, ZK, ZL, ZM, ZN, ZO, ZP, ZQ, ZR, ZS, Option.some.injEq, exists_eq_left', ZT, ZU, ZV, ZW, ZX, ZY, true_and, and_true, true_or, or_true, false_or, or_false, ite_true, ite_false, cond_true, cond_false, ZZ, Qa, if_true, if_false, decide_true, decide_false, Qb, Qc, Qd, Qe, Qf, Qg, Qh, Qi, Qj, Qk, Ql, Qm, Qn, Qo, Qp, rb0, rb1, rb2, rb3, rb4, tf0, tf1, tf2, tf3, tf4, Heap.get_upd_ne, Heap.get_new_ne, Heap.get_new_at, overL_one, if_pos, stX_exactN, hsz, c1, c2, runG_undef, show ((0 : Int) == 0) = true from rfl]
    refine runC_of (aw_wf t2 ?_)
    simp only [↓reduceIte, reduceCtorEq, Za, Zb, Zc, Zd, Ze, Zf, Zg, Zh, Zi, Zj, Zk, Zl, Zm, Zn, Zo, Zp, Zq, Zr, Zs, Zt, Zu, Zv, gval, Zw, Zx, Zy, Zz, ZA, ZB, ZC, ZD, ZE, ZF, decide_eq_true_eq, ZG, ZH, ZI, ZJ, ZK, ZL, ZM, ZN, ZO, ZP, ZQ, ZR, ZS, Option.some.injEq, exists_eq_left', ZT, ZU, ZV, ZW, ZX, ZY, true_and, and_true, true_or, or_true, false_or, or_false, ite_true, ite_false, cond_true, cond_false, ZZ, Qa, if_true, if_false, decide_true, decide_false, Qb, Qc, Qd, Qe, Qf, Qg, Qh, Qi, Qj, Qk, Ql, Qm, Qn, Qo, Qp, rb0, rb1, rb2, rb3, rb4, tf0, tf1, tf2, tf3, tf4, hR]
  by_cases c3 : (l.length : Int) < to
  · simp (disch := (first | omega | rfl | (simp only [Heap.nx_upd, Heap.nx_new]; omega))) only [↓reduceIte, reduceCtorEq, Za, Zb, Zc, Zd, Ze, Zf, Zg, Zh, Zi, Zj, Zk, Zl, Zm, Zn, Zo, Zp, Zq, Zr, Zs, Zt, Zu, Zv, gval, Zw, Zx, Zy, Zz, ZA, ZB, ZC, ZD, ZE, ZF, decide_eq_true_eq, ZG, ZH, ZI, ZJ, ZK, ZL, ZM, ZN, ZO, ZP, ZQ, ZR, ZS, Option.some.injEq, exists_eq_left', ZT, ZU, ZV, ZW, ZX, ZY, true_and, and_true, true_or, or_true, false_or, or_false, ite_true, ite_false, cond_true, cond_false, ZZ, Qa, if_true, if_false, decide_true, decide_false, Qb, Qc, Qd, Qe, Qf, Qg, Qh, Qi, Qj, Qk, Ql, Qm, Qn, Qo, Qp, rb0, rb1, rb2, rb3, rb4, tf0, tf1, tf2, tf3, tf4, Heap.get_upd_ne, Heap.get_new_ne, Heap.get_new_at, overL_one, if_pos, stX_exactN, hsz, c1, c2, c3, runG_undef, show ((0 : Int) == 0) = true from rfl]
    refine runC_of (aw_wf t2 ?_)
    simp only [↓reduceIte, reduceCtorEq, Za, Zb, Zc, Zd, Ze, Zf, Zg, Zh, Zi, Zj, Zk, Zl, Zm, Zn, Zo, Zp, Zq, Zr, Zs, Zt, Zu, Zv, gval, Zw, Zx, Zy, Zz, ZA, ZB, ZC, ZD, ZE, ZF, decide_eq_true_eq, ZG, ZH, ZI, ZJ, ZK, ZL, ZM, ZN, ZO, ZP, ZQ, ZR, ZS, Option.some.injEq, exists_eq_left', ZT, ZU, ZV, ZW, ZX, ZY, true_and, and_true, true_or, or_true, false_or, or_false, ite_true, ite_false, cond_true, cond_false, ZZ, Qa, if_true, if_false, decide_true, decide_false, Qb, Qc, Qd, Qe, Qf, Qg, Qh, Qi, Qj, Qk, Ql, Qm, Qn, Qo, Qp, rb0, rb1, rb2, rb3, rb4, tf0, tf1, tf2, tf3, tf4, hR]
  by_cases c4 : ag < to
  · simp (disch := (first | omega | rfl | (simp only [Heap.nx_upd, Heap.nx_new]; omega))) only [↓reduceIte, reduceCtorEq, Za, Zb, Zc, Zd, Ze, Zf, Zg, Zh, Zi, Zj, Zk, Zl, Zm, Zn, Zo, Zp, Zq, Zr, Zs, Zt, Zu, Zv, gval, Zw, Zx, Zy, Zz, ZA, ZB, ZC, ZD, ZE, ZF, decide_eq_true_eq, ZG, ZH, ZI, ZJ, ZK, ZL, ZM, ZN, ZO, ZP, ZQ, ZR, ZS, Option.some.injEq, exists_eq_left', ZT, ZU, ZV, ZW, ZX, ZY, true_and, and_true, true_or, or_true, false_or, or_false, ite_true, ite_false, cond_true, cond_false, ZZ, Qa, if_true, if_false, decide_true, decide_false, Qb, Qc, Qd, Qe, Qf, Qg, Qh, Qi, Qj, Qk, Ql, Qm, Qn, Qo, Qp, rb0, rb1, rb2, rb3, rb4, tf0, tf1, tf2, tf3, tf4, Heap.get_upd_ne, Heap.get_new_ne, Heap.get_new_at, overL_one, if_pos, stX_exactN, hsz, c1, c2, c3, c4, runG_undef, show ((0 : Int) == 0) = true from rfl]
    refine runC_of (aw_wf t2 ?_)
    simp only [↓reduceIte, reduceCtorEq, Za, Zb, Zc, Zd, Ze, Zf, Zg, Zh, Zi, Zj, Zk, Zl, Zm, Zn, Zo, Zp, Zq, Zr, Zs, Zt, Zu, Zv, gval, Zw, Zx, Zy, Zz, ZA, ZB, ZC, ZD, ZE, ZF, decide_eq_true_eq, ZG, ZH, ZI, ZJ, ZK, ZL, ZM, ZN, ZO, ZP, ZQ, ZR, ZS, Option.some.injEq, exists_eq_left', ZT, ZU, ZV, ZW, ZX, ZY, true_and, and_true, true_or, or_true, false_or, or_false, ite_true, ite_false, cond_true, cond_false, ZZ, Qa, if_true, if_false, decide_true, decide_false, Qb, Qc, Qd, Qe, Qf, Qg, Qh, Qi, Qj, Qk, Ql, Qm, Qn, Qo, Qp, rb0, rb1, rb2, rb3, rb4, tf0, tf1, tf2, tf3, tf4, hR]
  by_cases c5 : 192 < ag
  · simp (disch := (first | omega | rfl | (simp only [Heap.nx_upd, Heap.nx_new]; omega))) only [↓reduceIte, reduceCtorEq, Za, Zb, Zc, Zd, Ze, Zf, Zg, Zh, Zi, Zj, Zk, Zl, Zm, Zn, Zo, Zp, Zq, Zr, Zs, Zt, Zu, Zv, gval, Zw, Zx, Zy, Zz, ZA, ZB, ZC, ZD, ZE, ZF, decide_eq_true_eq, ZG, ZH, ZI, ZJ, ZK, ZL, ZM, ZN, ZO, ZP, ZQ, ZR, ZS, Option.some.injEq, exists_eq_left', ZT, ZU, ZV, ZW, ZX, ZY, true_and, and_true, true_or, or_true, false_or, or_false, ite_true, ite_false, cond_true, cond_false, ZZ, Qa, if_true, if_false, decide_true, decide_false, Qb, Qc, Qd, Qe, Qf, Qg, Qh, Qi, Qj, Qk, Ql, Qm, Qn, Qo, Qp, rb0, rb1, rb2, rb3, rb4, tf0, tf1, tf2, tf3, tf4, Heap.get_upd_ne, Heap.get_new_ne, Heap.get_new_at, overL_one, if_pos, stX_exactN, hsz, c1, c2, c3, c4, c5, runG_undef, show ((0 : Int) == 0) = true from rfl]
    refine runC_of (aw_wf t2 ?_)
    simp only [↓reduceIte, reduceCtorEq, Za, Zb, Zc, Zd, Ze, Zf, Zg, Zh, Zi, Zj, Zk, Zl, Zm, Zn, Zo, Zp, Zq, Zr, Zs, Zt, Zu, Zv, gval, Zw, Zx, Zy, Zz, ZA, ZB, ZC, ZD, ZE, ZF, decide_eq_true_eq, ZG, ZH, ZI, ZJ, ZK, ZL, ZM, ZN, ZO, ZP, ZQ, ZR, ZS, Option.some.injEq, exists_eq_left', ZT, ZU, ZV, ZW, ZX, ZY, true_and, and_true, true_or, or_true, false_or, or_false, ite_true, ite_false, cond_true, cond_false, ZZ, Qa, if_true, if_false, decide_true, decide_false, Qb, Qc, Qd, Qe, Qf, Qg, Qh, Qi, Qj, Qk, Ql, Qm, Qn, Qo, Qp, rb0, rb1, rb2, rb3, rb4, tf0, tf1, tf2, tf3, tf4, hR]
  obtain ⟨tn, rfl⟩ : ∃ tn : Nat, to = tn := ⟨to.toNat, by omega⟩
  obtain ⟨an, rfl⟩ : ∃ an : Nat, ag = an := ⟨ag.toNat, by omega⟩
  simp (disch := (first | omega | rfl | (simp only [Heap.nx_upd, Heap.nx_new]; omega))) only [↓reduceIte, reduceCtorEq, Za, Zb, Zc, Zd, Ze, Zf, Zg, Zh, Zi, Zj, Zk, Zl, Zm, Zn, Zo, Zp, Zq, Zr, Zs, Zt, Zu, Zv, gval, Zw, Zx, Zy, Zz, ZA, ZB, ZC, ZD, ZE, ZF, decide_eq_true_eq, ZG, ZH, ZI, ZJ, ZK, ZL, ZM, ZN, ZO, ZP, ZQ, ZR, ZS, Option.some.injEq, exists_eq_left', ZT, ZU, ZV, ZW, ZX, ZY, true_and, and_true, true_or, or_true, false_or, or_false, ite_true, ite_false, cond_true, cond_false, ZZ, Qa, if_true, if_false, decide_true, decide_false, Qb, Qc, Qd, Qe, Qf, Qg, Qh, Qi, Qj, Qk, Ql, Qm, Qn, Qo, Qp, rb0, rb1, rb2, rb3, rb4, tf0, tf1, tf2, tf3, tf4, Heap.get_upd_ne, Heap.get_new_ne, Heap.get_new_at, overL_one, if_pos, stX_exactN, hsz, c1, c2, c3, c4, c5, ifc23, show ((0 : Int) == 0) = true from rfl]
  refine runC_of (fwrite_head pl t2 f2 (by omega) (i := 1) (by omega) I2 (.inr rfl) z2 (l := l) (by omega) (by omega) fun s3 h3 I3 n3' z3 p3 b3 f3 n3 k3 => ?_)
  have t3 := (k3 0 (by omega) (by omega) (by omega)).trans t2
  simp only [↓reduceIte, reduceCtorEq, Za, Zb, Zc, Zd, Ze, Zf, Zg, Zh, Zi, Zj, Zk, Zl, Zm, Zn, Zo, Zp, Zq, Zr, Zs, Zt, Zu, Zv, gval, Zw, Zx, Zy, Zz, ZA, ZB, ZC, ZD, ZE, ZF, decide_eq_true_eq, ZG, ZH, ZI, ZJ, ZK, ZL, ZM, ZN, ZO, ZP, ZQ, ZR, ZS, Option.some.injEq, exists_eq_left', ZT, ZU, ZV, ZW, ZX, ZY, true_and, and_true, true_or, or_true, false_or, or_false, ite_true, ite_false, cond_true, cond_false, ZZ, Qa, if_true, if_false, decide_true, decide_false, Qb, Qc, Qd, Qe, Qf, Qg, Qh, Qi, Qj, Qk, Ql, Qm, Qn, Qo, Qp, rb0, rb1, rb2, rb3, rb4, tf0, tf1, tf2, tf3, tf4, ifc23]
  have hpn3 := popc_small 64 s3.n s3.b I3.wf.b
  have nd1 : needN tn - needN (s3.size 1) = 0 := by rw [z3]; unfold needN; omega
  refine runC_of (fresize_spec pl t3 f3 (by omega) (i := 1) (by omega) (I3.ino 1 (.inr rfl)) I3.low (size := (tn : Int)) (fun q => absurd q (by omega)) (fun q => absurd q (by omega)) (fun sz e _ cc => ?_) fun sz e hs4 cc h4 f4 n4 k4 => ?_)
  · obtain rfl : sz = tn := by omega
    omega
  obtain rfl : sz = tn := by omega
  obtain ⟨I4, b4, z4, _, _⟩ := resize_inv I3 (i := 1) (sz := sz) (.inr rfl) hs4 cc
  have p4 : popc 64 (s3.resize 1 sz).b ≤ popc 64 s3.b + (needN sz - needN (s3.size 1)) := rz_popc I3.wf I3.low cc
  have n4' : (s3.resize 1 sz).n = s3.n := rfl
  generalize s3.resize 1 sz = s4 at *
  have t4 := (k4 0 (by omega) (by omega) (by omega)).trans t3
  simp only [↓reduceIte, reduceCtorEq, Za, Zb, Zc, Zd, Ze, Zf, Zg, Zh, Zi, Zj, Zk, Zl, Zm, Zn, Zo, Zp, Zq, Zr, Zs, Zt, Zu, Zv, gval, Zw, Zx, Zy, Zz, ZA, ZB, ZC, ZD, ZE, ZF, decide_eq_true_eq, ZG, ZH, ZI, ZJ, ZK, ZL, ZM, ZN, ZO, ZP, ZQ, ZR, ZS, Option.some.injEq, exists_eq_left', ZT, ZU, ZV, ZW, ZX, ZY, true_and, and_true, true_or, or_true, false_or, or_false, ite_true, ite_false, cond_true, cond_false, ZZ, Qa, if_true, if_false, decide_true, decide_false, Qb, Qc, Qd, Qe, Qf, Qg, Qh, Qi, Qj, Qk, Ql, Qm, Qn, Qo, Qp, rb0, rb1, rb2, rb3, rb4, tf0, tf1, tf2, tf3, tf4, ifc23]
  have nd2 : needN an - needN (s4.size 1) ≤ 6 := by unfold needN; omega
  refine runC_of (fresize_spec pl t4 f4 (by omega) (i := 1) (by omega) (I4.ino 1 (.inr rfl)) I4.low (size := (an : Int)) (fun q => absurd q (by omega)) (fun q => absurd q (by omega)) (fun sz e _ cc => ?_) fun sa e hs5 cc h5 f5 n5 k5 => ?_)
  · obtain rfl : sz = an := by omega
    omega
  obtain rfl : sa = an := by omega
  obtain ⟨I5, b5, z5, _, _⟩ := resize_inv I4 (i := 1) (sz := sa) (.inr rfl) hs5 cc
  generalize s4.resize 1 sa = s5 at *
  have t5 := (k5 0 (by omega) (by omega) (by omega)).trans t4
  simp only [↓reduceIte, reduceCtorEq, Za, Zb, Zc, Zd, Ze, Zf, Zg, Zh, Zi, Zj, Zk, Zl, Zm, Zn, Zo, Zp, Zq, Zr, Zs, Zt, Zu, Zv, gval, Zw, Zx, Zy, Zz, ZA, ZB, ZC, ZD, ZE, ZF, decide_eq_true_eq, ZG, ZH, ZI, ZJ, ZK, ZL, ZM, ZN, ZO, ZP, ZQ, ZR, ZS, Option.some.injEq, exists_eq_left', ZT, ZU, ZV, ZW, ZX, ZY, true_and, and_true, true_or, or_true, false_or, or_false, ite_true, ite_false, cond_true, cond_false, ZZ, Qa, if_true, if_false, decide_true, decide_false, Qb, Qc, Qd, Qe, Qf, Qg, Qh, Qi, Qj, Qk, Ql, Qm, Qn, Qo, Qp, rb0, rb1, rb2, rb3, rb4, tf0, tf1, tf2, tf3, tf4, ifc23]
  refine runC_of (fread_spec pl f5 (i := ((1 : Nat) : Int)) (off := 0) (n := 192) (fun k e hk => (show 1 = k by omega) ▸ I5.ino 1 (.inr rfl)) (by omega) (by omega) (fun q => absurd q (by omega)) fun k o m e hk e2 e3 h6 f6 n6 k6 => ?_)
  obtain rfl : k = 1 := by omega
  obtain rfl : o = 0 := by omega
  obtain rfl : m = 192 := by omega
  have hend : endR (s5.size 1) 0 192 = sa := by rw [z5]; unfold endR; rw [if_neg (by omega)]
  rw [hend]
  have t6 := (k6 0 (by omega) (by omega)).trans t5
  have htl : (mkS (s5.text 1 0 sa)).size = sa := text_len.trans (Nat.sub_zero _)
  simp (disch := (first | omega | rfl | (simp only [Heap.nx_upd, Heap.nx_new]; omega))) only [↓reduceIte, reduceCtorEq, Za, Zb, Zc, Zd, Ze, Zf, Zg, Zh, Zi, Zj, Zk, Zl, Zm, Zn, Zo, Zp, Zq, Zr, Zs, Zt, Zu, Zv, gval, Zw, Zx, Zy, Zz, ZA, ZB, ZC, ZD, ZE, ZF, decide_eq_true_eq, ZG, ZH, ZI, ZJ, ZK, ZL, ZM, ZN, ZO, ZP, ZQ, ZR, ZS, Option.some.injEq, exists_eq_left', ZT, ZU, ZV, ZW, ZX, ZY, true_and, and_true, true_or, or_true, false_or, or_false, ite_true, ite_false, cond_true, cond_false, ZZ, Qa, if_true, if_false, decide_true, decide_false, Qb, Qc, Qd, Qe, Qf, Qg, Qh, Qi, Qj, Qk, Ql, Qm, Qn, Qo, Qp, rb0, rb1, rb2, rb3, rb4, tf0, tf1, tf2, tf3, tf4, Heap.get_upd_ne, Heap.get_new_ne, Heap.get_new_at, overL_one, if_pos, stX_exactN, htl, show ((0 : Int) == 0) = true from rfl, beq_self_eq_true]
  obtain ⟨T, hT⟩ : ∃ T, s5.text 1 0 sa = T := ⟨_, rfl⟩
  have hTa : ∀ k, k < sa → T[k]? = some (s5.byteAt 1 k) := fun k hk => by
    rw [← hT]
    unfold FS.text
    rw [List.getElem?_map, List.getElem?_range (by omega)]
    show some (s5.byteAt 1 (0 + k)) = _
    rw [Nat.zero_add]
  rw [hT] at htl ⊢
  refine run_loop2 rfl (fun m e h' => ∃ k : Nat, m = sa - k ∧ k ≤ sa ∧ h' = h6 ∧ e.at 0 = .string (mkS l) ∧ e.at 1 = .int .i64 sz ∧ e.at 2 = .int .i64 sa ∧ e.at 15 = .string (mkS T) ∧ e.at 17 = .int .i64 k)
    (fun ex e h' => ex = .exit 0 ∧ h' = h6) ?_ sa _ _ ?_ ?_
  · rintro m e h7 ⟨k, rfl, hk, rfl, e0, e1, e2, e15, e17⟩ Q' hQn hQx
    by_cases hc : k < sa
    · have d1 : (k : Int) < (sa : Int) := by omega
      have wk : wrapF .i64 ((k : Int) + 1) = ((k + 1 : Nat) : Int) := by rw [wrapI (by omega) (by omega)]; omega
      by_cases hc2 : k < sz
      · have d2 : (k : Int) < (sz : Int) := by omega
        have hkl : k < l.length := by omega
        obtain ⟨b, hb⟩ : ∃ b, l[k]? = some b := ⟨_, List.getElem?_eq_getElem hkl⟩
        have hTb : T[k]? = some b := by
          rw [hTa k hc, b5 k hc, if_pos (by rw [z4]; exact hc2), b4 k hc2, if_pos (by rw [z3]; exact hkl), b3 k hkl, hb]; rfl
        have i1 := str_index (P := Tryd.prog) (t := 9) (by kernel_rfl) hTb
        have i2 := str_index (P := Tryd.prog) (t := 9) (by kernel_rfl) hb
        have d3 : ¬ (sz : Int) ≤ (k : Int) := by omega
        simp only [↓reduceIte, reduceCtorEq, Za, Zb, Zc, Zd, Ze, Zf, Zg, Zh, Zi, Zj, Zk, Zl, Zm, Zn, Zo, Zp, Zq, Zr, Zs, Zt, Zu, Zv, gval, Zw, Zx, Zy, Zz, ZA, ZB, ZC, ZD, ZE, ZF, decide_eq_true_eq, ZG, ZH, ZI, ZJ, ZK, ZL, ZM, ZN, ZO, ZP, ZQ, ZR, ZS, Option.some.injEq, exists_eq_left', ZT, ZU, ZV, ZW, ZX, ZY, true_and, and_true, true_or, or_true, false_or, or_false, ite_true, ite_false, cond_true, cond_false, ZZ, Qa, if_true, if_false, decide_true, decide_false, Qb, Qc, Qd, Qe, Qf, Qg, Qh, Qi, Qj, Qk, Ql, Qm, Qn, Qo, Qp, rb0, rb1, rb2, rb3, rb4, tf0, tf1, tf2, tf3, tf4, e17, e2, d1]
        refine run_draw (ps := []) (by kernel_rfl) (by kernel_rfl) ?_
        simp (disch := (first | omega | rfl | (simp only [Heap.nx_upd, Heap.nx_new]; omega))) only [↓reduceIte, reduceCtorEq, Za, Zb, Zc, Zd, Ze, Zf, Zg, Zh, Zi, Zj, Zk, Zl, Zm, Zn, Zo, Zp, Zq, Zr, Zs, Zt, Zu, Zv, gval, Zw, Zx, Zy, Zz, ZA, ZB, ZC, ZD, ZE, ZF, decide_eq_true_eq, ZG, ZH, ZI, ZJ, ZK, ZL, ZM, ZN, ZO, ZP, ZQ, ZR, ZS, Option.some.injEq, exists_eq_left', ZT, ZU, ZV, ZW, ZX, ZY, true_and, and_true, true_or, or_true, false_or, or_false, ite_true, ite_false, cond_true, cond_false, ZZ, Qa, if_true, if_false, decide_true, decide_false, Qb, Qc, Qd, Qe, Qf, Qg, Qh, Qi, Qj, Qk, Ql, Qm, Qn, Qo, Qp, rb0, rb1, rb2, rb3, rb4, tf0, tf1, tf2, tf3, tf4, Heap.get_upd_ne, Heap.get_new_ne, Heap.get_new_at, overL_one, if_pos, stX_exactN, e0, e1, e15, e17, d2, d3, i1, i2, beq_self_eq_true, Bool.not_true, runG_undef, wk]
        exact hQn _ _ _ (by omega) ⟨k + 1, rfl, by omega, rfl, by simp only [at_put, at_args, Nat.reduceBEq, cond_true, cond_false, List.getElem?_cons_zero, List.getElem?_cons_succ, Option.getD_some, Nat.add_zero, Int.cast_ofNat_Int, e0], by simp only [at_put, at_args, Nat.reduceBEq, cond_true, cond_false, List.getElem?_cons_zero, List.getElem?_cons_succ, Option.getD_some, Nat.add_zero, Int.cast_ofNat_Int, e1], by simp only [at_put, at_args, Nat.reduceBEq, cond_true, cond_false, List.getElem?_cons_zero, List.getElem?_cons_succ, Option.getD_some, Nat.add_zero, Int.cast_ofNat_Int, e2], by simp only [at_put, at_args, Nat.reduceBEq, cond_true, cond_false, List.getElem?_cons_zero, List.getElem?_cons_succ, Option.getD_some, Nat.add_zero, Int.cast_ofNat_Int, e15], by simp only [at_put, at_args, Nat.reduceBEq, cond_true, cond_false, List.getElem?_cons_zero, List.getElem?_cons_succ, Option.getD_some, Nat.add_zero, Int.cast_ofNat_Int]⟩
      · have d2 : ¬ (k : Int) < (sz : Int) := by omega
        have hTb : T[k]? = some 0 := by
          rw [hTa k hc, b5 k hc, if_neg (by rw [z4]; exact hc2)]
        have i1 := str_index (P := Tryd.prog) (t := 9) (by kernel_rfl) hTb
        have d3 : (sz : Int) ≤ (k : Int) := by omega
        have u0 : (((0 : UInt8).toNat : Nat) : Int) = 0 := rfl
        rw [u0] at i1
        simp only [↓reduceIte, reduceCtorEq, Za, Zb, Zc, Zd, Ze, Zf, Zg, Zh, Zi, Zj, Zk, Zl, Zm, Zn, Zo, Zp, Zq, Zr, Zs, Zt, Zu, Zv, gval, Zw, Zx, Zy, Zz, ZA, ZB, ZC, ZD, ZE, ZF, decide_eq_true_eq, ZG, ZH, ZI, ZJ, ZK, ZL, ZM, ZN, ZO, ZP, ZQ, ZR, ZS, Option.some.injEq, exists_eq_left', ZT, ZU, ZV, ZW, ZX, ZY, true_and, and_true, true_or, or_true, false_or, or_false, ite_true, ite_false, cond_true, cond_false, ZZ, Qa, if_true, if_false, decide_true, decide_false, Qb, Qc, Qd, Qe, Qf, Qg, Qh, Qi, Qj, Qk, Ql, Qm, Qn, Qo, Qp, rb0, rb1, rb2, rb3, rb4, tf0, tf1, tf2, tf3, tf4, e17, e2, d1]
        refine run_draw (ps := []) (by kernel_rfl) (by kernel_rfl) ?_
        simp (disch := (first | omega | rfl | (simp only [Heap.nx_upd, Heap.nx_new]; omega))) only [↓reduceIte, reduceCtorEq, Za, Zb, Zc, Zd, Ze, Zf, Zg, Zh, Zi, Zj, Zk, Zl, Zm, Zn, Zo, Zp, Zq, Zr, Zs, Zt, Zu, Zv, gval, Zw, Zx, Zy, Zz, ZA, ZB, ZC, ZD, ZE, ZF, decide_eq_true_eq, ZG, ZH, ZI, ZJ, ZK, ZL, ZM, ZN, ZO, ZP, ZQ, ZR, ZS, Option.some.injEq, exists_eq_left', ZT, ZU, ZV, ZW, ZX, ZY, true_and, and_true, true_or, or_true, false_or, or_false, ite_true, ite_false, cond_true, cond_false, ZZ, Qa, if_true, if_false, decide_true, decide_false, Qb, Qc, Qd, Qe, Qf, Qg, Qh, Qi, Qj, Qk, Ql, Qm, Qn, Qo, Qp, rb0, rb1, rb2, rb3, rb4, tf0, tf1, tf2, tf3, tf4, Heap.get_upd_ne, Heap.get_new_ne, Heap.get_new_at, overL_one, if_pos, stX_exactN, e0, e1, e15, e17, d2, d3, i1, beq_self_eq_true, Bool.not_true, runG_undef, wk, show ((0 : Int) == 0) = true from rfl]
        exact hQn _ _ _ (by omega) ⟨k + 1, rfl, by omega, rfl, by simp only [at_put, at_args, Nat.reduceBEq, cond_true, cond_false, List.getElem?_cons_zero, List.getElem?_cons_succ, Option.getD_some, Nat.add_zero, Int.cast_ofNat_Int, e0], by simp only [at_put, at_args, Nat.reduceBEq, cond_true, cond_false, List.getElem?_cons_zero, List.getElem?_cons_succ, Option.getD_some, Nat.add_zero, Int.cast_ofNat_Int, e1], by simp only [at_put, at_args, Nat.reduceBEq, cond_true, cond_false, List.getElem?_cons_zero, List.getElem?_cons_succ, Option.getD_some, Nat.add_zero, Int.cast_ofNat_Int, e2], by simp only [at_put, at_args, Nat.reduceBEq, cond_true, cond_false, List.getElem?_cons_zero, List.getElem?_cons_succ, Option.getD_some, Nat.add_zero, Int.cast_ofNat_Int, e15], by simp only [at_put, at_args, Nat.reduceBEq, cond_true, cond_false, List.getElem?_cons_zero, List.getElem?_cons_succ, Option.getD_some, Nat.add_zero, Int.cast_ofNat_Int]⟩
    · obtain rfl : k = sa := by omega
      have d1 : ¬ (k : Int) < (k : Int) := by omega
      simp only [↓reduceIte, reduceCtorEq, Za, Zb, Zc, Zd, Ze, Zf, Zg, Zh, Zi, Zj, Zk, Zl, Zm, Zn, Zo, Zp, Zq, Zr, Zs, Zt, Zu, Zv, gval, Zw, Zx, Zy, Zz, ZA, ZB, ZC, ZD, ZE, ZF, decide_eq_true_eq, ZG, ZH, ZI, ZJ, ZK, ZL, ZM, ZN, ZO, ZP, ZQ, ZR, ZS, Option.some.injEq, exists_eq_left', ZT, ZU, ZV, ZW, ZX, ZY, true_and, and_true, true_or, or_true, false_or, or_false, ite_true, ite_false, cond_true, cond_false, ZZ, Qa, if_true, if_false, decide_true, decide_false, Qb, Qc, Qd, Qe, Qf, Qg, Qh, Qi, Qj, Qk, Ql, Qm, Qn, Qo, Qp, rb0, rb1, rb2, rb3, rb4, tf0, tf1, tf2, tf3, tf4, e17, e2, d1]
      exact hQx _ _ _ (by simp) ⟨rfl, rfl⟩
  · exact ⟨0, rfl, by omega, rfl, by simp only [at_put, at_args, Nat.reduceBEq, cond_true, cond_false, List.getElem?_cons_zero, List.getElem?_cons_succ, Option.getD_some, Nat.add_zero, Int.cast_ofNat_Int], by simp only [at_put, at_args, Nat.reduceBEq, cond_true, cond_false, List.getElem?_cons_zero, List.getElem?_cons_succ, Option.getD_some, Nat.add_zero, Int.cast_ofNat_Int], by simp only [at_put, at_args, Nat.reduceBEq, cond_true, cond_false, List.getElem?_cons_zero, List.getElem?_cons_succ, Option.getD_some, Nat.add_zero, Int.cast_ofNat_Int], by simp only [at_put, at_args, Nat.reduceBEq, cond_true, cond_false, List.getElem?_cons_zero, List.getElem?_cons_succ, Option.getD_some, Nat.add_zero, Int.cast_ofNat_Int], by simp only [at_put, at_args, Nat.reduceBEq, cond_true, cond_false, List.getElem?_cons_zero, List.getElem?_cons_succ, Option.getD_some, Nat.add_zero, Int.cast_ofNat_Int]⟩
  · rintro ex e h7 - ⟨rfl, rfl⟩
    simp only [↓reduceIte, reduceCtorEq, Za, Zb, Zc, Zd, Ze, Zf, Zg, Zh, Zi, Zj, Zk, Zl, Zm, Zn, Zo, Zp, Zq, Zr, Zs, Zt, Zu, Zv, gval, Zw, Zx, Zy, Zz, ZA, ZB, ZC, ZD, ZE, ZF, decide_eq_true_eq, ZG, ZH, ZI, ZJ, ZK, ZL, ZM, ZN, ZO, ZP, ZQ, ZR, ZS, Option.some.injEq, exists_eq_left', ZT, ZU, ZV, ZW, ZX, ZY, true_and, and_true, true_or, or_true, false_or, or_false, ite_true, ite_false, cond_true, cond_false, ZZ, Qa, if_true, if_false, decide_true, decide_false, Qb, Qc, Qd, Qe, Qf, Qg, Qh, Qi, Qj, Qk, Ql, Qm, Qn, Qo, Qp, rb0, rb1, rb2, rb3, rb4, tf0, tf1, tf2, tf3, tf4]
    refine runC_of (aw_wf t6 ?_)
    simp only [↓reduceIte, reduceCtorEq, Za, Zb, Zc, Zd, Ze, Zf, Zg, Zh, Zi, Zj, Zk, Zl, Zm, Zn, Zo, Zp, Zq, Zr, Zs, Zt, Zu, Zv, gval, Zw, Zx, Zy, Zz, ZA, ZB, ZC, ZD, ZE, ZF, decide_eq_true_eq, ZG, ZH, ZI, ZJ, ZK, ZL, ZM, ZN, ZO, ZP, ZQ, ZR, ZS, Option.some.injEq, exists_eq_left', ZT, ZU, ZV, ZW, ZX, ZY, true_and, and_true, true_or, or_true, false_or, or_false, ite_true, ite_false, cond_true, cond_false, ZZ, Qa, if_true, if_false, decide_true, decide_false, Qb, Qc, Qd, Qe, Qf, Qg, Qh, Qi, Qj, Qk, Ql, Qm, Qn, Qo, Qp, rb0, rb1, rb2, rb3, rb4, tf0, tf1, tf2, tf3, tf4, hR]
end Go.Proofs.YtmadjdgipfdnkaaDoor
end
section
/- From a walk behind the table's block and one more to the row. Conditions: as the rule says. -/
namespace Go.Proofs.YtmadjdgipfdnkaaDoor
open Go.AM
theorem h0_new (X : Blk) : listHeap [tabBlk .u8 tab, X] = H0.new X := by kernel_rfl
theorem doorX_wf {W : World} {sp : Special} (hsp : SpecOk Tryd.prog 1 sp) {f : FuncId} {args args' : List Value} {X : Blk} {s : AM.Stat} {cs : Array Value} {el : TypeId} {fr : Nat × Nat} (t1 : W.heap[0]? = some (.cells cs el fr)) (t2 : cs.size = 64) (t3 : ∀ i, i < 64 → cs[i]? = (tab.map (Value.int .u8))[i]?)
    (r3 : ∀ m, BRel m W s (some X)) (r4 : ∀ l1, s = .live l1 → roB (some X) = true ∧ l1.rw = false) (hw : WF Tryd.prog 1 sp f args (H0.new X) fun o _ => o = .ret (.bool true)) (ha : VRels (statMp [.live ⟨0, 0, 0, 64, 64, false⟩, s]) args args') :
    Calls Tryd.prog f args'.toArray W fun e W' => e = .returned (.bool true) ∧ Still W W' := by
  refine wf_list (ng := 1) (by kernel_rfl) hsp (l := [tabBlk .u8 tab, X]) (st := [.live ⟨0, 0, 0, 64, 64, false⟩, s]) rfl (fun i st b hs hb => ?_) (fun i l b hs hb => ?_) (fun g hg => ?_) (by rw [h0_new]; exact hw) ha
  · match i with
    | 0 => cases hs; cases hb; exact tab_rel (bs := tab) t1 t2 t3
    | 1 => cases hs; cases hb; exact r3 _
    | i + 2 => simp at hs
  · match i with
    | 0 => cases hs; cases hb; exact ⟨rfl, rfl⟩
    | 1 => cases hb; exact r4 l (by simpa using hs)
    | i + 2 => simp at hs
  · obtain rfl : g = 0 := by omega
    exact .inl ⟨_, rfl, rfl, rfl, rfl⟩
theorem door0_wf {W : World} {sp : Special} (hsp : SpecOk Tryd.prog 1 sp) {f : FuncId} {args args' : List Value} {cs : Array Value} {el : TypeId} {fr : Nat × Nat} (t1 : W.heap[0]? = some (.cells cs el fr)) (t2 : cs.size = 64) (t3 : ∀ i, i < 64 → cs[i]? = (tab.map (Value.int .u8))[i]?)
    (hw : WF Tryd.prog 1 sp f args H0 fun o _ => o = .ret (.bool true)) (ha : VRels (statMp [.live ⟨0, 0, 0, 64, 64, false⟩]) args args') :
    Calls Tryd.prog f args'.toArray W fun e W' => e = .returned (.bool true) ∧ Still W W' := by
  refine wf_list (ng := 1) (by kernel_rfl) hsp (l := [tabBlk .u8 tab]) (st := [.live ⟨0, 0, 0, 64, 64, false⟩]) rfl (fun i st b hs hb => ?_) (fun i l b hs hb => ?_) (fun g hg => ?_) hw ha
  · match i with
    | 0 => cases hs; cases hb; exact tab_rel (bs := tab) t1 t2 t3
    | i + 1 => simp at hs
  · match i with
    | 0 => cases hs; cases hb; exact ⟨rfl, rfl⟩
    | i + 1 => simp at hs
  · obtain rfl : g = 0 := by omega
    exact .inl ⟨_, rfl, rfl, rfl, rfl⟩
end Go.Proofs.YtmadjdgipfdnkaaDoor
end
section
/- Closed facts of this seat's program, each by itself. -/
namespace Go.Proofs.YtmadjdgipfdnkaaDoor
open Go.ChangeShapes Go.WideShapes Go.ChangeAt Go.RowKit
theorem Tryd.laidOut : laidOutB Tryd.prog = true := by kernel_rfl
theorem Tryd.mapsRowed : mapsRowed Tryd.prog = true := by kernel_rfl
theorem Tryd.plainKeys : (Rows.inodePutsRow.plainKeys == Tryd.prog.plainKeys) = true := by kernel_rfl
theorem Tryd.stopsHeard : Tryd.prog.stopsHeard = true := by kernel_rfl
theorem Tryd.mayEnter : Tryd.prog.mayEnter = true := by kernel_rfl
theorem Tryd.lifted : (Rows.inodePutsRow.lifted == Tryd.prog.liftsFinal) = true := by kernel_rfl
theorem Tryd.make : (Tryd.prog.make == some Rows.inodePutsRow.make) = true := by kernel_rfl
theorem Tryd.looks : false = Tryd.prog.looks [] := by kernel_rfl
end Go.Proofs.YtmadjdgipfdnkaaDoor
end
section
/- InodeShrinks: whatever the text and the numbers, the law gives true. (Its card: the table of math/bits is as the program's text lays it.) -/
namespace Go.Proofs.YtmadjdgipfdnkaaDoor
open Go.ChangeShapes Go.WideShapes Go.ChangeAt Go.RowKit Go.AM
set_option maxRecDepth 100000 in
theorem inodeShrinks_calls {W : World} {base : Nat} {v0 v1 v2 : Value} (h0 : Value.okWide Tryd.prog W .any base 9 v0) (h1 : Value.okWide Tryd.prog W .any base 3 v1) (h2 : Value.okWide Tryd.prog W .any base 3 v2) (hL : laidMetH Tryd.prog Rows.inodeShrinksRow.laid W) :
    Calls Tryd.prog 5 #[v0, v1, v2] W fun e W' => e = .returned (.bool true) ∧ Still W W' := by
  obtain ⟨tc, el, fr, w1, w2, w3⟩ := tab_laid hL
  obtain ⟨S, rfl⟩ := okWide_string (by kernel_rfl) h0
  obtain ⟨i, rfl, _⟩ := val_int (u := 3) (k := .i64) (by kernel_rfl) h1
  obtain ⟨j, rfl, _⟩ := val_int (u := 3) (k := .i64) (by kernel_rfl) h2
  exact door0_wf sp15_ok (args := [.string S, .int .i64 i, .int .i64 j]) (args' := [_, _, _]) w1 w2 w3 (shr_walk fun _ => rfl) (.cons _ _ _ _ (.string _) (.cons _ _ _ _ (.int _ _) (.cons _ _ _ _ (.int _ _) .nil)))

set_option maxRecDepth 100000 in
theorem inodeShrinks_lifted (os : Os) (started : os.Started) (H : Type) (enc : TypeId × Value → H) :
    ReturnsInHanded {} Tryd.checked os 5 .any (fun w args => (Rows.inodeShrinksSpec.pre enc Tryd.prog Tryd.f5 Rows.inodeShrinksRow.domain false w args ∧ laidMetH Tryd.prog Rows.inodeShrinksRow.laid w) ∧ sizedMet enc Tryd.prog Tryd.f5 (OpenSpec.ofChange Rows.inodeShrinksSpec) false w args)
      (Rows.inodeShrinksSpec.post enc Tryd.prog Tryd.f5 false true false false) := by
  refine returnsInHanded_of_change_and (C := Tryd.checked) (X := fun w _ => laidMetH Tryd.prog Rows.inodeShrinksRow.laid w) (fun _ _ _ hh h => h.of_heap hh) Tryd.own started (by kernel_rfl) Tryd.func5
    (ChangeSpec.witness_shaped (enc := enc) (C := Tryd.checked) (os := os) (X := fun w _ => laidMetH Tryd.prog Rows.inodeShrinksRow.laid w) false (World.laidAll Tryd.prog os Rows.inodeShrinksRow.laid) #[.string .empty, .int .i64 0, .int .i64 0] 8 (World.laidAll_os _ _ _)
      (World.shaped_of_ZipB (by kernel_rfl) (by kernel_rfl)) (by kernel_rfl) (by kernel_rfl) (by kernel_rfl)
      (by rw [MakeChecks.laidMetH_plain _ _ _ (by kernel_rfl)]; exact laidMet_laidAll _ (by kernel_rfl) (by kernel_rfl))) ?_
  intro W base args ds gs before hval0 hW hcnd _ hL _
  have hval : ∀ (j : Nat) t v, Tryd.f5.params[j]? = some t → args[j]? = some v → Value.okWide Tryd.prog W .any base t v := hval0
  have hW' := hW
  obtain ⟨p, q, hA0, hV, rfl, hfz, hnd⟩ := hW
  have hA1 : DataW.TrodAll enc Tryd.prog W 0 (fun _ => true) true Tryd.f5.params.toList args.toList ds p := hA0
  have hA := hA1
  rw [Tryd.params5] at hA hval
  obtain ⟨v0, v1, v2, d0, d1, d2, p0, p1, p2, rfl, rfl, rfl, h0, h1, h2⟩ := trodAll_three hA
  obtain ⟨rfl, rfl⟩ := trodVars_none hV
  refine (inodeShrinks_calls (hval 0 9 v0 rfl rfl) (hval 1 3 v1 rfl rfl) (hval 2 3 v2 rfl rfl) hL).mono fun e W' ⟨he, hw⟩ => ?_
  subst he
  simp only [List.append_nil] at hW' ⊢
  exact ⟨_, rfl, post_true (bt := 4) Tryd.kids Tryd.full (by rw [Tryd.params5]; decide) (by kernel_rfl) (by kernel_rfl) rfl rfl hW' hA1 rfl rfl rfl hw⟩

end Go.Proofs.YtmadjdgipfdnkaaDoor
end
section
/- InodeShrinks: whatever the text and the numbers, the law gives true. (Its card: the table of math/bits is as the program's text lays it.) -/
namespace Go.Proofs.YtmadjdgipfdnkaaDoor
open Go.ChangeShapes Go.WideShapes Go.ChangeAt Go.RowKit Go.AM
theorem inodeShrinks_inPlace : (Rows.inodeShrinksRow.inPlace == Tryd.prog.inPlace 5) = true := by kernel_rfl
theorem inodeShrinks_unfollowed : (Rows.inodeShrinksRow.unfollowed == Tryd.prog.unfollowed 5) = true := by kernel_rfl
theorem inodeShrinks_recurses : (Rows.inodeShrinksRow.recurses == Tryd.prog.recurses 5) = true := by kernel_rfl
theorem inodeShrinks_named : (Rows.inodeShrinksRow.named == Tryd.prog.varsNamed 5) = true := by kernel_rfl
theorem inodeShrinks_joined : joinedFacts Tryd.prog 5 Tryd.f5 Rows.inodeShrinksSpec Rows.inodeShrinksRow = true := by
  simp only [joinedFacts, Bool.and_eq_true]
  exact ⟨⟨⟨⟨⟨⟨⟨⟨⟨⟨⟨⟨⟨⟨⟨⟨⟨⟨⟨⟨⟨⟨⟨⟨⟨⟨⟨⟨⟨⟨⟨by kernel_rfl, Tryd.laidOut⟩, Tryd.mapsRowed⟩, by kernel_rfl⟩, by kernel_rfl⟩, by kernel_rfl⟩, by kernel_rfl⟩, by kernel_rfl⟩, by kernel_rfl⟩, inodeShrinks_inPlace⟩, inodeShrinks_unfollowed⟩, inodeShrinks_recurses⟩, inodeShrinks_named⟩, by kernel_rfl⟩, by kernel_rfl⟩, by kernel_rfl⟩, by kernel_rfl⟩, by kernel_rfl⟩, by kernel_rfl⟩, by kernel_rfl⟩, by kernel_rfl⟩, by kernel_rfl⟩, Tryd.plainKeys⟩, by kernel_rfl⟩, Tryd.stopsHeard⟩, Tryd.mayEnter⟩, Tryd.lifted⟩, Tryd.make⟩, by kernel_rfl⟩, by kernel_rfl⟩, by kernel_rfl⟩, by kernel_rfl⟩
theorem inodeShrinks_holds : Rows.InodeShrinksSaid :=
  OpenClaim.holds_of_wide 5 Tryd.f5 rfl rfl rfl rfl rfl rfl rfl ⟨rfl, rfl, rfl, rfl, rfl⟩ rfl rfl rfl rfl rfl (by kernel_rfl) Tryd.func5 inodeShrinks_joined
    (of_decide_eq_true (by kernel_rfl)) (by unfold Func.isWrapper; first | (rw [if_pos (by decide +kernel)]; kernel_rfl) | (rw [if_neg (by decide +kernel)]; exact ⟨rfl, rfl⟩))
    (fun os started H enc _ => inodeShrinks_lifted os started H enc)
end Go.Proofs.YtmadjdgipfdnkaaDoor
end
