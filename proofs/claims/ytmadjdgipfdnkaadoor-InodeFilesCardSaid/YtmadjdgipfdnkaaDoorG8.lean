/- Lemmas of the claim: the machine of the proof and the walks of the program. Conditions: as each says. -/
import Derived.Test.YtmadjdgipfdnkaaDoorG7
import Derived.Test.YtmadjdgipfdnkaaDoorG5
import Derived.Test.YtmadjdgipfdnkaaDoorG6
import Derived.Test.YtmadjdgipfdnkaaDoorG4
import Derived.Test.YtmadjdgipfdnkaaDoorRows
import Derived.ProofKit
import GoSem.ClaimSeven
import Derived.Test.YtmadjdgipfdnkaaDoorCards
import Derived.Test.YtmadjdgipfdnkaaDoorTie
section
/- Files: Resize, Write, Alloc and what they hold. No condition. -/
namespace Go.Proofs.YtmadjdgipfdnkaaDoor
open Go.AM
open Nat renaming reduceBEq → Za, reduceEqDiff → Zb, reduceAdd → Zc, reduceSub → Zd, reduceMul → Ze, reduceLT → Zf, reduceLeDiff → Zg, reduceDiv → Zh, reduceMod → Zi, reducePow → Zj, blt_eq → ZF, zero_add → Qc, add_zero → Qd
open Int renaming reduceAdd → Zk, reduceSub → Zl, reduceMul → Zm, reduceLT → Zn, reduceLE → Zo, reduceEq → Zp, reduceNe → Zq, reduceNeg → Zr, reduceToNat → Zs, reduceDiv → Zt, reduceMod → Zu, reducePow → Zv, cast_ofNat_Int → Zw, toNat_natCast → Qb
open List renaming set_cons_zero → Zx, set_cons_succ → Zy, map_toArray → Zz, cons_append → ZA, nil_append → ZB, append_nil → ZC, all_cons → ZD, all_nil → ZE, getElem?_cons_zero → ZJ, getElem?_cons_succ → ZK, length_cons → ZL, length_nil → ZM, map_cons → ZN, map_nil → ZO, isEmpty_nil → Qe, any_cons → Qf, any_nil → Qg, drop_zero → Qk, drop_succ_cons → Ql, take_succ_cons → Qm, take_zero → Qn, take_nil → Qo, drop_nil → Qp
open Bool renaming and_true → ZG, true_and → ZH, and_self → ZI, not_true → ZT, not_false → ZU, true_eq_false → ZZ, false_eq_true → Qa, or_false → Qh, false_or → Qi, and_eq_true → Qj
open Option renaming map_some → ZP, map_none → ZQ, bind_some → ZR, getD_some → ZS, isNone_some → ZV, isNone_none → ZW, isSome_some → ZX, isSome_none → ZY
set_option linter.unusedSimpArgs false
variable {s : FS} {F : Nat → Prop}
theorem byteAt_blk (s : FS) (i p : Nat) : s.byteAt i p = UInt8.ofNat (s.dat (s.blk i (p / 32)) (p % 32)).toNat := rfl
/-- another size. -/
theorem resize_inv (I : s.Inv F) {i sz : Nat} (hi : F i) (hsz : sz ≤ 192) (hle : popc 64 s.b + (needN sz - needN (s.size i)) ≤ s.n) :
    (s.resize i sz).Inv F ∧ (∀ p, p < sz → (s.resize i sz).byteAt i p = if p < s.size i then s.byteAt i p else 0) ∧ (s.resize i sz).size i = sz ∧ (∀ j, j ≠ i → (s.resize i sz).size j = s.size j) ∧ ∀ j p, F j → j ≠ i → p < s.size j → (s.resize i sz).byteAt j p = s.byteAt j p := by
  have rf := rz_facts I.wf I.low (i := i) hle
  have ro := rz_ok I.wf I.low (I.ino i hi) hle
  have hsize : (s.resize i sz).size i = sz := resize_size
  have hsizej : ∀ j, j ≠ i → (s.resize i sz).size j = s.size j := fun j hj => by
    show ((if j = i then updN (s.rz i sz).x 2 sz else s.ino j) 2).toNat = _
    rw [if_neg hj]; rfl
  have hblk : ∀ k, (s.resize i sz).blk i k = ((s.rz i sz).x (3 + k)).toNat := fun k => by
    show ((if i = i then updN (s.rz i sz).x 2 sz else s.ino i) (3 + k)).toNat = _
    rw [if_pos rfl]
    unfold updN
    rw [if_neg (by omega)]
  have hblkj : ∀ j k, j ≠ i → (s.resize i sz).blk j k = s.blk j k := fun j k hj => by
    show ((if j = i then updN (s.rz i sz).x 2 sz else s.ino j) (3 + k)).toNat = _
    rw [if_neg hj]; rfl
  have hdat : (s.resize i sz).dat = s.cut i sz (s.rz i sz) := rfl
  have hb : (s.resize i sz).b = (s.rz i sz).b := rfl
  have hino : ∀ j k, (s.resize i sz).ino j k = (if j = i then updN (s.rz i sz).x 2 sz else s.ino j) k := fun _ _ => rfl
  generalize hg : s.rz i sz = g at *
  -- the last block's end
  have hcut : ∀ b k, s.cut i sz g b k = if (sz < s.size i ∧ 0 < sz % 32) ∧ b = s.blk i (needN sz - 1) ∧ ¬ k < sz % 32 then 0 else g.dat b k := fun b k => by
    unfold FS.cut
    by_cases c : sz < s.size i ∧ 0 < sz % 32
    · rw [if_pos c, rf.old (needN sz - 1) (by unfold needN; omega) (by unfold needN; omega)]
      by_cases e : b = s.blk i (needN sz - 1)
      · rw [if_pos e]
        by_cases e2 : k < sz % 32
        · rw [if_pos e2, if_neg (fun q => q.2.2 e2)]
        · rw [if_neg e2, if_pos ⟨c, e, e2⟩]
      · rw [if_neg e, if_neg (fun q => e q.2.1)]
    · rw [if_neg c, if_neg (fun q => c q.1)]
  have hoth : ∀ j k, F j → j ≠ i → k < needN (s.size j) → g.dat (s.blk j k) = s.dat (s.blk j k) ∧ ∀ t, s.cut i sz g (s.blk j k) t = s.dat (s.blk j k) t := fun j k hj hne hk => by
    have h1 := rf.dat _ (I.bit j k hj hk)
    refine ⟨h1, fun t => ?_⟩
    rw [hcut, if_neg, h1]
    rintro ⟨⟨c1, c2⟩, c3, _⟩
    exact hne (I.sep j k i _ hj hi hk (by unfold needN; omega) c3).1
  refine ⟨⟨?_, ?_, fun j hj => ?_, fun j k hj hk => ?_, fun j k j' m hj hj' hk hm e => ?_, fun j p hj h1 h2 => ?_⟩, fun p hp => ?_, hsize, hsizej, fun j p hj hne hp => ?_⟩
  · refine ⟨I.wf.n1, I.wf.n2, I.wf.a, ?_, fun j k => ?_, fun b k => ?_⟩
    · rw [hb]; exact ro.b
    · rw [hino]
      split
      · unfold updN
        split
        · omega
        · exact ro.x k
      · exact I.wf.ino j k
    · rw [hdat, hcut]
      split
      · omega
      · exact ro.dat b k
  · intro j hj
    rw [hb]; exact ro.low j hj
  · by_cases e : j = i
    · subst e
      exact resize_ino I.wf I.low (I.ino j hj) hsz hle
    · have := I.ino j hj
      have e2 : ∀ k, (s.resize i sz).ino j k = s.ino j k := fun k => by
        rw [hino, if_neg e]
      exact ⟨by rw [e2]; exact this.sz, fun k hk => by rw [hsizej j e] at hk; rw [e2]; exact this.bl k hk⟩
  · rw [hb, rf.bit]
    by_cases e : j = i
    · subst e
      rw [hsize] at hk
      rw [hblk]
      by_cases c : k < needN (s.size j)
      · rw [rf.old k c hk]
        exact .inl ⟨I.bit j k hj c, fun k' h1 h2 e => by have := (I.sep j k j k' hj hj c h2 e).2; omega⟩
      · exact .inr ⟨k, by omega, hk, rfl⟩
    · rw [hsizej j e] at hk
      rw [hblkj j k e]
      exact .inl ⟨I.bit j k hj hk, fun k' h1 h2 q => e (I.sep j k i k' hj hi hk h2 q).1⟩
  · by_cases e1 : j = i
    · subst e1
      rw [hsize] at hk
      by_cases e2 : j' = j
      · subst e2
        rw [hsize] at hm
        rw [hblk, hblk] at e
        refine ⟨rfl, ?_⟩
        by_cases c1 : k < needN (s.size j')
        · by_cases c2 : m < needN (s.size j')
          · rw [rf.old k c1 hk, rf.old m c2 hm] at e
            exact (I.sep j' k j' m hj hj c1 c2 e).2
          · rw [rf.old k c1 hk] at e
            have h1 := I.bit j' k hj c1
            rw [e, (rf.fresh m (by omega) hm).1] at h1
            cases h1
        · by_cases c2 : m < needN (s.size j')
          · rw [rf.old m c2 hm] at e
            have h1 := I.bit j' m hj c2
            rw [← e, (rf.fresh k (by omega) hk).1] at h1
            cases h1
          · exact rf.sep k m (by omega) hk (by omega) hm e
      · rw [hsizej j' e2] at hm
        rw [hblk, hblkj j' m e2] at e
        by_cases c1 : k < needN (s.size j)
        · rw [rf.old k c1 hk] at e
          exact I.sep j k j' m hj hj' c1 hm e
        · have h1 := I.bit j' m hj' hm
          rw [← e, (rf.fresh k (by omega) hk).1] at h1
          cases h1
    · rw [hsizej j e1] at hk
      rw [hblkj j k e1] at e
      by_cases e2 : j' = i
      · subst e2
        rw [hsize] at hm
        rw [hblk] at e
        by_cases c2 : m < needN (s.size j')
        · rw [rf.old m c2 hm] at e
          exact I.sep j k j' m hj hj' hk c2 e
        · have h1 := I.bit j k hj hk
          rw [e, (rf.fresh m (by omega) hm).1] at h1
          cases h1
      · rw [hsizej j' e2] at hm
        rw [hblkj j' m e2] at e
        exact I.sep j k j' m hj hj' hk hm e
  · rw [hdat]
    by_cases e : j = i
    · subst e
      rw [hsize] at h1 h2
      have hk : p / 32 < needN sz := by omega
      rw [hblk]
      by_cases c : p / 32 < needN (s.size j)
      · rw [rf.old _ c hk, hcut]
        have hlast : p / 32 = needN sz - 1 ∧ 0 < sz % 32 ∧ sz % 32 ≤ p % 32 := by unfold needN at h2 hk ⊢; omega
        by_cases c2 : sz < s.size j
        · rw [if_pos ⟨⟨c2, hlast.2.1⟩, by rw [hlast.1], by omega⟩]
        · rw [if_neg (fun q => c2 q.1.1), rf.dat _ (I.bit j _ hj c)]
          exact I.tail j p hj (by omega) (by omega)
      · rw [hcut, if_neg (fun q => by have := q.1.1; unfold needN at c hk; omega), (rf.fresh _ (by omega) hk).2]
    · rw [hsizej j e] at h1 h2
      rw [hblkj j _ e, (hoth j _ hj e (by omega)).2]
      exact I.tail j p hj h1 h2
  · have hk : p / 32 < needN sz := by unfold needN; omega
    rw [byteAt_blk, byteAt_blk, hdat, hblk]
    by_cases c : p / 32 < needN (s.size i)
    · rw [rf.old _ c hk, hcut, if_neg, rf.dat _ (I.bit i _ hi c)]
      · by_cases c2 : p < s.size i
        · rw [if_pos c2]
        · rw [if_neg c2, I.tail i p hi (by omega) (by omega)]; rfl
      · rintro ⟨⟨c1, c2⟩, c3, c4⟩
        have := (I.sep i _ i _ hi hi c (by unfold needN; omega) c3).2
        unfold needN at this
        omega
    · rw [hcut, if_neg (fun q => by have := q.1.1; unfold needN at c hk; omega), (rf.fresh _ (by omega) hk).2, if_neg (by unfold needN at c; omega)]; rfl
  · have hk : p / 32 < needN (s.size j) := by unfold needN; omega
    rw [byteAt_blk, byteAt_blk, hdat, hblkj j _ hne, (hoth j _ hj hne hk).2]
/-- bytes that are written. -/
theorem wrD_at (I : s.Inv F) {i off : Nat} {l : List UInt8} (hi : F i) : ∀ m, off + m ≤ s.size i → ∀ j p, F j → p < 32 * needN (s.size j) → wrD (s.ino i) off l s.dat m (s.blk j (p / 32)) (p % 32) = if j = i ∧ off ≤ p ∧ p < off + m then ((l[p - off]?.getD 0).toNat : Int) else s.dat (s.blk j (p / 32)) (p % 32)
  | 0, _, j, p, _, _ => by
    rw [if_neg (by omega)]; rfl
  | m + 1, h, j, p, hj, hp => by
    show (if s.blk j (p / 32) = s.blk i ((off + m) / 32) ∧ p % 32 = (off + m) % 32 then ((l[m]?.getD 0).toNat : Int) else wrD (s.ino i) off l s.dat m (s.blk j (p / 32)) (p % 32)) = _
    rw [wrD_at I hi m (by omega) j p hj hp]
    by_cases c : s.blk j (p / 32) = s.blk i ((off + m) / 32) ∧ p % 32 = (off + m) % 32
    · obtain ⟨rfl, e⟩ := I.sep j _ i _ hj hi (by omega) (by unfold needN; omega) c.1
      have : p = off + m := by omega
      subst this
      rw [if_pos c, if_pos ⟨rfl, by omega, by omega⟩, show off + m - off = m by omega]
    · rw [if_neg c]
      by_cases c2 : j = i ∧ off ≤ p ∧ p < off + m
      · rw [if_pos c2, if_pos ⟨c2.1, by omega, by omega⟩]
      · rw [if_neg c2, if_neg]
        rintro ⟨rfl, q1, q2⟩
        have : p = off + m := by omega
        subst this
        exact c ⟨rfl, rfl⟩
theorem write_inv (I : s.Inv F) {i off : Nat} {l : List UInt8} (hi : F i) (hle : off + l.length ≤ 192) (hroom : s.size i < off + l.length → popc 64 s.b + (needN (off + l.length) - needN (s.size i)) ≤ s.n) :
    (s.write i off l).Inv F ∧ (s.write i off l).size i = max (s.size i) (off + l.length) ∧ (∀ j, j ≠ i → (s.write i off l).size j = s.size j) ∧
    (∀ p, p < max (s.size i) (off + l.length) → (s.write i off l).byteAt i p = if off ≤ p ∧ p < off + l.length then l[p - off]?.getD 0 else if p < s.size i then s.byteAt i p else 0) ∧
    ∀ j p, F j → j ≠ i → p < s.size j → (s.write i off l).byteAt j p = s.byteAt j p := by
  obtain ⟨s1, hs1⟩ : ∃ s1, s.room i (off + l.length) = s1 := ⟨_, rfl⟩
  have h1 : s1.Inv F ∧ s1.size i = max (s.size i) (off + l.length) ∧ (∀ j, j ≠ i → s1.size j = s.size j) ∧ (∀ p, p < max (s.size i) (off + l.length) → s1.byteAt i p = if p < s.size i then s.byteAt i p else 0) ∧ ∀ j p, F j → j ≠ i → p < s.size j → s1.byteAt j p = s.byteAt j p := by
    rw [← hs1]
    unfold FS.room
    by_cases c : s.size i < off + l.length
    · rw [if_pos c, Nat.max_eq_right (by omega)]
      obtain ⟨a1, a2, a3, a4, a5⟩ := resize_inv I hi hle (hroom c)
      exact ⟨a1, a3, a4, a2, a5⟩
    · rw [if_neg c, Nat.max_eq_left (by omega)]
      exact ⟨I, rfl, fun _ _ => rfl, fun p hp => by rw [if_pos hp], fun _ _ _ _ _ => rfl⟩
  obtain ⟨I1, a2, a3, a4, a5⟩ := h1
  have hw : s.write i off l = ⟨s1.n, s1.a, s1.b, s1.ino, wrD (s1.ino i) off l s1.dat l.length⟩ := by unfold FS.write; rw [hs1]
  have hle1 : off + l.length ≤ s1.size i := by rw [a2]; exact Nat.le_max_right _ _
  have key := wrD_at I1 (off := off) (l := l) hi l.length hle1
  rw [hw]
  refine ⟨⟨⟨I1.wf.n1, I1.wf.n2, I1.wf.a, I1.wf.b, I1.wf.ino, fun b k => wrD_ok I1.wf.dat _ b k⟩, I1.low, fun j hj => ⟨(I1.ino j hj).sz, (I1.ino j hj).bl⟩, I1.bit, I1.sep, fun j p hj h1 h2 => ?_⟩, a2, a3, fun p hp => ?_, fun j p hj hne hp => ?_⟩
  · show wrD (s1.ino i) off l s1.dat l.length (s1.blk j (p / 32)) (p % 32) = 0
    rw [key j p hj h2, if_neg]
    · exact I1.tail j p hj h1 h2
    · rintro ⟨rfl, q1, q2⟩
      have h1 : s1.size j ≤ p := h1
      omega
  · show UInt8.ofNat (wrD (s1.ino i) off l s1.dat l.length (s1.blk i (p / 32)) (p % 32)).toNat = _
    rw [key i p hi (by rw [a2]; unfold needN; omega)]
    by_cases c : off ≤ p ∧ p < off + l.length
    · rw [if_pos ⟨rfl, c⟩, if_pos c, Int.toNat_natCast, UInt8.ofNat_toNat]
    · rw [if_neg (fun q => c q.2), if_neg c]
      exact a4 p hp
  · show UInt8.ofNat (wrD (s1.ino i) off l s1.dat l.length (s1.blk j (p / 32)) (p % 32)).toNat = _
    rw [key j p hj (by rw [a3 j hne]; unfold needN; omega), if_neg (fun q => hne q.1)]
    exact a5 j p hj hne hp
/-- a new one. -/
theorem alloc_inv (I : s.Inv F) {k : Int} (hk : 0 ≤ k ∧ k < 9223372036854775808) (hl : lowZ s.a < 32) (hnew : ¬ F (lowZ s.a)) : (s.alloc k).Inv (fun i => F i ∨ i = lowZ s.a) ∧ (s.alloc k).size (lowZ s.a) = 0 ∧ (∀ j, j ≠ lowZ s.a → (s.alloc k).size j = s.size j) ∧ (∀ j p, j ≠ lowZ s.a → (s.alloc k).byteAt j p = s.byteAt j p) ∧ (s.alloc k).a = markW s.a (lowZ s.a) true ∧ (s.alloc k).b = s.b := by
  obtain ⟨z, hz⟩ : ∃ z, lowZ s.a = z := ⟨_, rfl⟩
  rw [hz] at hl hnew ⊢
  have hi : ∀ j, (s.alloc k).ino j = if j = z then inoK k else s.ino j := fun j => by
    show (if j = lowZ s.a then inoK k else s.ino j) = _
    rw [hz]
  have hj : ∀ j, j ≠ z → (s.alloc k).ino j = s.ino j := fun j h => by rw [hi, if_neg h]
  have hzz : (s.alloc k).ino z = inoK k := by rw [hi, if_pos rfl]
  have s0 : (s.alloc k).size z = 0 := by unfold FS.size; rw [hzz]; rfl
  have sj : ∀ j, j ≠ z → (s.alloc k).size j = s.size j := fun j h => by unfold FS.size; rw [hj j h]
  have bj : ∀ j m, j ≠ z → (s.alloc k).blk j m = s.blk j m := fun j m h => by unfold FS.blk; rw [hj j h]
  have n0 : needN 0 = 0 := rfl
  have hne : ∀ j, F j → j ≠ z := fun j h e => hnew (e ▸ h)
  refine ⟨⟨⟨I.wf.n1, I.wf.n2, ?_, I.wf.b, fun j m => ?_, I.wf.dat⟩, I.low, fun j h => ?_, fun j m h hm => ?_, fun j m j' m' h h' hm hm' e => ?_, fun j p h h1 h2 => ?_⟩, s0, sj, fun j p h => ?_, ?_, rfl⟩
  · show markW s.a (lowZ s.a) true < _
    rw [hz]
    exact markW_lt (n := 32) (on := true) I.wf.a hl (by omega)
  · rw [hi]
    split
    · exact inoK_ok hk m
    · exact I.wf.ino j m
  · rcases h with h | rfl
    · have := I.ino j h
      exact ⟨by rw [hj j (hne j h)]; exact this.sz, fun m hm => by rw [sj j (hne j h)] at hm; rw [hj j (hne j h)]; exact this.bl m hm⟩
    · exact ⟨by rw [hzz]; show (0 : Int) ≤ 192; omega, fun m hm => by rw [s0, n0] at hm; omega⟩
  · rcases h with h | rfl
    · rw [sj j (hne j h)] at hm
      rw [bj j m (hne j h)]; exact I.bit j m h hm
    · rw [s0, n0] at hm; omega
  · rcases h with h | rfl
    · rcases h' with h' | rfl
      · rw [sj j (hne j h)] at hm
        rw [sj j' (hne j' h')] at hm'
        rw [bj j m (hne j h), bj j' m' (hne j' h')] at e
        exact I.sep j m j' m' h h' hm hm' e
      · rw [s0, n0] at hm'; omega
    · rw [s0, n0] at hm; omega
  · rcases h with h | rfl
    · rw [sj j (hne j h)] at h1 h2
      rw [bj j _ (hne j h)]; exact I.tail j p h h1 h2
    · rw [s0, n0] at h2; omega
  · unfold FS.byteAt
    rw [hj j h]; rfl
  · show markW s.a (lowZ s.a) true = _
    rw [hz]
theorem new_inv {n : Nat} (h1 : 13 ≤ n) (h2 : n ≤ 60) : (FS.new n).Inv fun _ => False :=
  ⟨.new h1 h2, fun j hj => by show (4095 : Nat).testBit j = true; have := lowN_bit 12 j; rw [show lowN 12 = 4095 from rfl] at this; rw [this]; exact decide_eq_true hj, fun _ h => h.elim, fun _ _ h => h.elim, fun _ _ _ _ h => h.elim, fun _ _ h => h.elim⟩
end Go.Proofs.YtmadjdgipfdnkaaDoor
end
section
/- Rows of bytes that are a text's: how they grow. Conditions: as each rule says. -/
namespace Go.Proofs.YtmadjdgipfdnkaaDoor
open Go.AM
open Nat renaming reduceBEq → Za, reduceEqDiff → Zb, reduceAdd → Zc, reduceSub → Zd, reduceMul → Ze, reduceLT → Zf, reduceLeDiff → Zg, reduceDiv → Zh, reduceMod → Zi, reducePow → Zj, blt_eq → ZF, zero_add → Qc, add_zero → Qd
open Int renaming reduceAdd → Zk, reduceSub → Zl, reduceMul → Zm, reduceLT → Zn, reduceLE → Zo, reduceEq → Zp, reduceNe → Zq, reduceNeg → Zr, reduceToNat → Zs, reduceDiv → Zt, reduceMod → Zu, reducePow → Zv, cast_ofNat_Int → Zw, toNat_natCast → Qb
open List renaming set_cons_zero → Zx, set_cons_succ → Zy, map_toArray → Zz, cons_append → ZA, nil_append → ZB, append_nil → ZC, all_cons → ZD, all_nil → ZE, getElem?_cons_zero → ZJ, getElem?_cons_succ → ZK, length_cons → ZL, length_nil → ZM, map_cons → ZN, map_nil → ZO, isEmpty_nil → Qe, any_cons → Qf, any_nil → Qg, drop_zero → Qk, drop_succ_cons → Ql, take_succ_cons → Qm, take_zero → Qn, take_nil → Qo, drop_nil → Qp
open Bool renaming and_true → ZG, true_and → ZH, and_self → ZI, not_true → ZT, not_false → ZU, true_eq_false → ZZ, false_eq_true → Qa, or_false → Qh, false_or → Qi, and_eq_true → Qj
open Option renaming map_some → ZP, map_none → ZQ, bind_some → ZR, getD_some → ZS, isNone_some → ZV, isNone_none → ZW, isSome_some → ZX, isSome_none → ZY
set_option linter.unusedSimpArgs false
variable {sp : Special} {h : Heap} {R : Out → Heap → Prop}
/-- a text's bytes, in a row of their own. -/
structure BB (h : Heap) (lo : Nat) (v : Value) (l : List UInt8) : Prop where
  is : ∃ b, lo ≤ b ∧ b < h.nx ∧ v = .slice (some ⟨b, 0, none⟩) l.length l.length ∧ h.get b = some (cellsB (u8s l) .bytes)
theorem BB.keep {h' : Heap} {lo : Nat} {v : Value} {l : List UInt8} (x : BB h lo v l) (hn : h.nx ≤ h'.nx) (hk : ∀ b, lo ≤ b → b < h.nx → h'.get b = h.get b) : BB h' lo v l := by
  obtain ⟨b, h1, h2, h3, h4⟩ := x.is
  exact ⟨b, h1, by omega, h3, (hk b h1 h2).trans h4⟩
theorem conv_str (l : List UInt8) (g : Nat → Option Blk) (nx : Nat) : effConv Tryd.prog 9 34 (.string (mkS l)) g nx = some ⟨.slice (some ⟨nx, 0, none⟩) l.length l.length, [], [cellsB (u8s l) .bytes]⟩ := by
  obtain ⟨i, hi, hs, hby, hu, hz⟩ := st34
  unfold effConv
  simp only [hu, show Tryd.prog.underlying 9 = some .string from by kernel_rfl, show Tryd.prog.underlying 5 = some (.int .u8) from by kernel_rfl]
  unfold cellsB
  rw [u8s_len]
  rfl
theorem appBB (b0 : Nat) {L : List Value} {b : Nat} {v : Int} {g : Nat → Option Blk} (nx : Nat) (hb : g b = some (cellsB [.int .u8 v] .exact)) (hm : L.length ≤ 1000) (h0 : g b0 = some (cellsB L .bytes)) :
    aAppend Tryd.prog #[34, 34] (.slice (some ⟨b0, 0, none⟩) L.length L.length) (.slice (some ⟨b, 0, none⟩) 1 1) g nx = some ⟨.slice (some ⟨nx, 0, none⟩) (L.length + 1) (L.length + 1), [(b0, .dead)], [cellsB (L ++ [.int .u8 v]) .bytes]⟩ := by
  obtain ⟨i, hi, hs, hby, hu, hz⟩ := st34
  have hnew : firstL g 1 1 (.slice (some ⟨b, 0, none⟩) 1 1) = some [.int .u8 v] := by rw [firstL_slc _ _ _ _ _ _ _ _ _ hb (by simp)]; rfl
  have hold : firstL g 1 L.length (.slice (some ⟨b0, 0, none⟩) L.length L.length) = some L := by rw [firstL_slc _ _ _ _ _ _ _ _ _ h0 (by omega), List.drop_zero, List.take_of_length_le (by omega)]
  unfold aAppend
  simp only [hu, hi, hz, lenV]
  rw [if_neg (by rw [hs, hby]; simp; omega), hs]
  simp only [hnew, hold]
  rw [if_neg (by omega)]
  simp only [h0]
  unfold cellsB maybeRoom
  simp only [Nat.mul_one, Nat.zero_add, if_true]
theorem growBB {lo : Nat} {v : Value} {l : List UInt8} (g : BB h lo v l) (hlo : lo ≤ h.nx) (x : UInt8) (hsz : l.length ≤ 1000) :
    ∃ E h3 w, aAppend Tryd.prog #[34, 34] v (.slice (some ⟨h.nx, 0, none⟩) 1 1) (h.new (cellsB [.int .u8 x.toNat] .exact)).get (h.nx + 1) = some E ∧ E.val = w ∧ (h.new (cellsB [.int .u8 x.toNat] .exact)).apply E = h3 ∧ BB h3 lo w (l ++ [x]) ∧ h.nx ≤ h3.nx ∧ ∀ b', b' < lo → h3.get b' = h.get b' := by
  obtain ⟨h2, hh2⟩ : ∃ h2, h.new (cellsB [.int .u8 x.toNat] .exact) = h2 := ⟨_, rfl⟩
  have n2 : h2.nx = h.nx + 1 := by rw [← hh2, Heap.nx_new]
  have g2 : h2.get h.nx = some (cellsB [.int .u8 x.toNat] .exact) := by rw [← hh2, Heap.get_new_same]
  have k2 : ∀ b', b' < h.nx → h2.get b' = h.get b' := fun b' hb' => by rw [← hh2, Heap.get_new_ne _ _ (by omega)]
  rw [hh2, ← n2]
  obtain ⟨b, h1, h3, rfl, h5⟩ := g.is
  have h5' := (k2 b h3).trans h5
  have e1 := appBB b (L := u8s l) h2.nx g2 (by rw [u8s_len]; exact hsz) h5'
  rw [u8s_len] at e1
  have hw : u8s (l ++ [x]) = u8s l ++ [.int .u8 x.toNat] := by unfold u8s; rw [List.map_append]; rfl
  refine ⟨_, _, _, e1, rfl, rfl, ⟨h2.nx, by omega, ?_, by simp, ?_⟩, ?_, fun b' hb' => ?_⟩
  · rw [Heap.apply_wr_nw, Heap.nx_new, Heap.nx_upd]; omega
  · rw [Heap.apply_wr_nw, Heap.get_new_at _ (by rw [Heap.nx_upd]; omega), hw]
  · rw [Heap.apply_wr_nw, Heap.nx_new, Heap.nx_upd]; omega
  · rw [Heap.apply_wr_nw, Heap.get_new_ne _ _ (by rw [Heap.nx_upd]; omega), Heap.get_upd_ne _ _ (by omega), k2 _ (by omega)]
theorem u8s_set (l : List UInt8) (i : Nat) (b : UInt8) : (u8s l).set i (.int .u8 b.toNat) = u8s (l.set i b) := by
  unfold u8s
  rw [List.map_set]
/-- the first n bytes, as a text. -/
theorem conv_take {b n c : Nat} {l : List UInt8} (hb : h.get b = some (cellsB (u8s l) .bytes)) (hn : n ≤ l.length) : effConv Tryd.prog 34 9 (.slice (some ⟨b, 0, none⟩) n c) h.get h.nx = ret (.string (mkS (l.take n))) := by
  obtain ⟨i, hi, hs, hby, hu, hz⟩ := st34
  unfold effConv
  simp only [hu, show Tryd.prog.underlying 9 = some .string from by kernel_rfl, show Tryd.prog.underlying 5 = some (.int .u8) from by kernel_rfl]
  have : bytesAt (h.get b) 0 n = some (mkS (l.take n)) := by
    rw [hb]
    unfold bytesAt cellsB
    simp only
    rw [if_pos (by rw [u8s_len]; omega), loadL_ofList _ _ _ (by rw [u8s_len]; omega), List.drop_zero]
    have : (u8s l).take n = u8s (l.take n) := by unfold u8s; rw [List.map_take]
    rw [this, bytes_go]
    simp
  rw [this]; rfl
theorem cut_bytes {b n : Nat} {l : List UInt8} {g : Nat → Option Blk} (hb : g b = some (cellsB (u8s l) .bytes)) (hn : n ≤ l.length) : slS (some 1) (some ⟨b, 0, none⟩) l.length l.length none (some (.int .i64 (n : Int))) none g = ret (.slice (some ⟨b, 0, none⟩) n l.length) := by
  unfold slS
  rw [u_bounds, bnd_int, if_pos ⟨by omega, by omega⟩]
  simp only [Int.toNat_natCast, bnd_none]
  rw [if_pos hn]
  simp only [u_sliceAddr, hb]
  have : sadX (some (cellsB (u8s l) .bytes)) b 0 0 l.length l.length 1 false = some (some ⟨b, 0, none⟩) := by
    unfold sadX cellsB
    simp [u8s_len]
  rw [show (none : Option Value).isSome = false from rfl, this]
  simp
theorem str_same (x y : Operand) (l : List UInt8) (g : Nat → Option Blk) : effBin Tryd.prog .neq 9 x y (.string (mkS l)) (.string (mkS l)) g = ret (.bool false) := by
  rw [effBin_str]
  have : strOp .neq (mkS l) (mkS l) = some (.bool false) := by
    unfold strOp
    simp
  rw [this]; rfl
end Go.Proofs.YtmadjdgipfdnkaaDoor
end
section
/- InodeFiles: what the plain texts are. No condition. -/
namespace Go.Proofs.YtmadjdgipfdnkaaDoor
open Go.AM
open Nat renaming reduceBEq → Za, reduceEqDiff → Zb, reduceAdd → Zc, reduceSub → Zd, reduceMul → Ze, reduceLT → Zf, reduceLeDiff → Zg, reduceDiv → Zh, reduceMod → Zi, reducePow → Zj, blt_eq → ZF, zero_add → Qc, add_zero → Qd
open Int renaming reduceAdd → Zk, reduceSub → Zl, reduceMul → Zm, reduceLT → Zn, reduceLE → Zo, reduceEq → Zp, reduceNe → Zq, reduceNeg → Zr, reduceToNat → Zs, reduceDiv → Zt, reduceMod → Zu, reducePow → Zv, cast_ofNat_Int → Zw, toNat_natCast → Qb
open List renaming set_cons_zero → Zx, set_cons_succ → Zy, map_toArray → Zz, cons_append → ZA, nil_append → ZB, append_nil → ZC, all_cons → ZD, all_nil → ZE, getElem?_cons_zero → ZJ, getElem?_cons_succ → ZK, length_cons → ZL, length_nil → ZM, map_cons → ZN, map_nil → ZO, isEmpty_nil → Qe, any_cons → Qf, any_nil → Qg, drop_zero → Qk, drop_succ_cons → Ql, take_succ_cons → Qm, take_zero → Qn, take_nil → Qo, drop_nil → Qp
open Bool renaming and_true → ZG, true_and → ZH, and_self → ZI, not_true → ZT, not_false → ZU, true_eq_false → ZZ, false_eq_true → Qa, or_false → Qh, false_or → Qi, and_eq_true → Qj
open Option renaming map_some → ZP, map_none → ZQ, bind_some → ZR, getD_some → ZS, isNone_some → ZV, isNone_none → ZW, isSome_some → ZX, isSome_none → ZY
set_option linter.unusedSimpArgs false
variable {s : FS} {F : Nat → Prop}
theorem FS.Inv.congr {F' : Nat → Prop} (I : s.Inv F) (h : ∀ i, F i ↔ F' i) : s.Inv F' := by
  have : F = F' := funext fun i => propext (h i)
  exact this ▸ I
/-- what file i holds. -/
def FS.txt (s : FS) (i : Nat) : List UInt8 := s.text i 0 (s.size i)
theorem txt_len {i : Nat} : (s.txt i).length = s.size i := text_len.trans (Nat.sub_zero _)
theorem txt_at {i p : Nat} (h : p < s.size i) : (s.txt i)[p]? = some (s.byteAt i p) := by
  unfold FS.txt FS.text
  rw [List.getElem?_map, List.getElem?_range (by omega)]
  show some (s.byteAt i (0 + p)) = _
  rw [Nat.zero_add]
theorem txt_ext {i : Nat} {l : List UInt8} (h1 : l.length = s.size i) (h2 : ∀ p, p < s.size i → l[p]? = some (s.byteAt i p)) : s.txt i = l := by
  apply List.ext_getElem?
  intro p
  by_cases hp : p < s.size i
  · rw [txt_at hp, h2 p hp]
  · rw [List.getElem?_eq_none (by rw [txt_len]; omega), List.getElem?_eq_none (by omega)]
theorem txt_same {s' : FS} {i : Nat} (h1 : s'.size i = s.size i) (h2 : ∀ p, p < s.size i → s'.byteAt i p = s.byteAt i p) : s'.txt i = s.txt i :=
  txt_ext (by rw [txt_len, h1]) fun p hp => by rw [h1] at hp; rw [h2 p hp, txt_at hp]
/-- with nothing behind it, up to n. -/
def padN (l : List UInt8) (n : Nat) : List UInt8 := l ++ List.replicate (n - l.length) 0
theorem padN_len {l : List UInt8} {n : Nat} : (padN l n).length = max l.length n := by
  unfold padN
  rw [List.length_append, List.length_replicate]; omega
theorem padN_at {l : List UInt8} {n p : Nat} (hp : p < max l.length n) : (padN l n)[p]? = some (if p < l.length then l[p]?.getD 0 else 0) := by
  unfold padN
  rw [List.getElem?_append]
  by_cases c : p < l.length
  · rw [if_pos c, if_pos c, List.getElem?_eq_getElem c]; rfl
  · rw [if_neg c, if_neg c, List.getElem?_replicate, if_pos (by omega)]
theorem padN_snoc {l : List UInt8} {n : Nat} (h : l.length ≤ n) : padN l n ++ [0] = padN l (n + 1) := by
  unfold padN
  rw [List.append_assoc, show n + 1 - l.length = n - l.length + 1 by omega, List.replicate_succ']
theorem padN_self {l : List UInt8} {n : Nat} (h : n ≤ l.length) : padN l n = l := by
  unfold padN
  rw [show n - l.length = 0 by omega]; exact List.append_nil _
/-- with j bytes of m from o on. -/
def ovr (l : List UInt8) (o : Nat) (m : List UInt8) : Nat → List UInt8
  | 0 => l
  | j + 1 => (ovr l o m j).set (o + j) (m[j]?.getD 0)
theorem ovr_len {l : List UInt8} {o : Nat} {m : List UInt8} : ∀ j, (ovr l o m j).length = l.length
  | 0 => rfl
  | j + 1 => by
    show ((ovr l o m j).set _ _).length = _
    rw [List.length_set, ovr_len j]
theorem ovr_at {l : List UInt8} {o : Nat} {m : List UInt8} : ∀ j p, p < l.length → (ovr l o m j)[p]? = some (if o ≤ p ∧ p < o + j then m[p - o]?.getD 0 else l[p]?.getD 0)
  | 0, p, hp => by
    rw [if_neg (by omega)]
    show l[p]? = _
    rw [List.getElem?_eq_getElem hp]; rfl
  | j + 1, p, hp => by
    show ((ovr l o m j).set (o + j) (m[j]?.getD 0))[p]? = _
    rw [List.getElem?_set, ovr_len, ovr_at j p hp]
    by_cases c : o + j = p
    · subst c
      rw [if_pos rfl, if_pos hp, if_pos ⟨by omega, by omega⟩, show o + j - o = j by omega]
    · rw [if_neg c]
      by_cases c2 : o ≤ p ∧ p < o + j
      · rw [if_pos c2, if_pos ⟨c2.1, by omega⟩]
      · rw [if_neg c2, if_neg (by omega)]
theorem write_txt (I : s.Inv F) {i off : Nat} {l : List UInt8} (hi : F i) (hle : off + l.length ≤ 192) (hroom : s.size i < off + l.length → popc 64 s.b + (needN (off + l.length) - needN (s.size i)) ≤ s.n) :
    (s.write i off l).txt i = ovr (padN (s.txt i) (off + l.length)) off l l.length := by
  obtain ⟨_, a2, _, a4, _⟩ := write_inv I hi hle hroom
  refine txt_ext (by rw [ovr_len, padN_len, txt_len, a2]) fun p hp => ?_
  rw [a2] at hp
  rw [ovr_at _ p (by rw [padN_len, txt_len]; exact hp), a4 p hp, padN_at (by rw [txt_len]; exact hp), txt_len]
  by_cases c : off ≤ p ∧ p < off + l.length
  · rw [if_pos c, if_pos c]
  · rw [if_neg c, if_neg c]
    by_cases c2 : p < s.size i
    · rw [if_pos c2, if_pos c2, txt_at c2]; rfl
    · rw [if_neg c2, if_neg c2]; rfl
theorem resize_txt (I : s.Inv F) {i sz : Nat} (hi : F i) (hsz : sz ≤ 192) (hle : popc 64 s.b + (needN sz - needN (s.size i)) ≤ s.n) : (s.resize i sz).txt i = (padN (s.txt i) sz).take sz := by
  obtain ⟨_, a2, a3, _, _⟩ := resize_inv I hi hsz hle
  refine txt_ext (by rw [List.length_take, padN_len, txt_len, a3]; omega) fun p hp => ?_
  rw [a3] at hp
  rw [List.getElem?_take, if_pos hp, padN_at (by rw [txt_len]; omega), a2 p hp, txt_len]
  by_cases c2 : p < s.size i
  · rw [if_pos c2, if_pos c2, txt_at c2]; rfl
  · rw [if_neg c2, if_neg c2]
/-- the texts, in the law's array. -/
def wantL (s : FS) : List Value := (List.range 3).map fun k => .string (mkS (s.txt (k + 1)))
theorem wantL_len : (wantL s).length = 3 := by unfold wantL; simp
theorem wantL_at {k : Nat} (h : k < 3) : (wantL s)[k]? = some (.string (mkS (s.txt (k + 1)))) := by
  unfold wantL
  rw [List.getElem?_map, List.getElem?_range h]; rfl
theorem wantL_set {s' : FS} {k : Nat} (h : k < 3) (ho : ∀ j, j < 3 → j ≠ k → s'.txt (j + 1) = s.txt (j + 1)) : (wantL s).set k (.string (mkS (s'.txt (k + 1)))) = wantL s' := by
  apply List.ext_getElem?
  intro j
  rw [List.getElem?_set, wantL_len]
  by_cases hj : j < 3
  · rw [wantL_at hj, wantL_at hj]
    by_cases e : k = j
    · subst e
      rw [if_pos rfl, if_pos h]
    · rw [if_neg e, ho j hj (Ne.symm e)]
  · rw [if_neg (by omega), List.getElem?_eq_none (by rw [wantL_len]; omega), List.getElem?_eq_none (by rw [wantL_len]; omega)]
/-- the law's inodes. -/
def isL (k : Nat) : List Value := (List.range 3).map fun j => .int .i64 (if j < k then ((j + 1 : Nat) : Int) else 0)
theorem isL_len {k : Nat} : (isL k).length = 3 := by unfold isL; simp
theorem isL_at {k j : Nat} (h : j < 3) : (isL k)[j]? = some (.int .i64 (if j < k then ((j + 1 : Nat) : Int) else 0)) := by
  unfold isL
  rw [List.getElem?_map, List.getElem?_range h]; rfl
theorem isL_set {k : Nat} (h : k < 3) : (isL k).set k (.int .i64 ((k + 1 : Nat) : Int)) = isL (k + 1) := by
  apply List.ext_getElem?
  intro j
  rw [List.getElem?_set, isL_len]
  by_cases hj : j < 3
  · rw [isL_at hj, isL_at hj]
    by_cases e : k = j
    · subst e
      rw [if_pos rfl, if_pos h, if_pos (by omega)]
    · rw [if_neg e]
      by_cases c : j < k
      · rw [if_pos c, if_pos (by omega)]
      · rw [if_neg c, if_neg (by omega)]
  · rw [if_neg (by omega), List.getElem?_eq_none (by rw [isL_len]; omega), List.getElem?_eq_none (by rw [isL_len]; omega)]
end Go.Proofs.YtmadjdgipfdnkaaDoor
end
section
/- InodeFiles: the law's own steps. Conditions: the deeds lie as the rule names. -/
namespace Go.Proofs.YtmadjdgipfdnkaaDoor
open Go.AM
open Nat renaming reduceBEq → Za, reduceEqDiff → Zb, reduceAdd → Zc, reduceSub → Zd, reduceMul → Ze, reduceLT → Zf, reduceLeDiff → Zg, reduceDiv → Zh, reduceMod → Zi, reducePow → Zj, blt_eq → ZF, zero_add → Qc, add_zero → Qd
open Int renaming reduceAdd → Zk, reduceSub → Zl, reduceMul → Zm, reduceLT → Zn, reduceLE → Zo, reduceEq → Zp, reduceNe → Zq, reduceNeg → Zr, reduceToNat → Zs, reduceDiv → Zt, reduceMod → Zu, reducePow → Zv, cast_ofNat_Int → Zw, toNat_natCast → Qb
open List renaming set_cons_zero → Zx, set_cons_succ → Zy, map_toArray → Zz, cons_append → ZA, nil_append → ZB, append_nil → ZC, all_cons → ZD, all_nil → ZE, getElem?_cons_zero → ZJ, getElem?_cons_succ → ZK, length_cons → ZL, length_nil → ZM, map_cons → ZN, map_nil → ZO, isEmpty_nil → Qe, any_cons → Qf, any_nil → Qg, drop_zero → Qk, drop_succ_cons → Ql, take_succ_cons → Qm, take_zero → Qn, take_nil → Qo, drop_nil → Qp
open Bool renaming and_true → ZG, true_and → ZH, and_self → ZI, not_true → ZT, not_false → ZU, true_eq_false → ZZ, false_eq_true → Qa, or_false → Qh, false_or → Qi, and_eq_true → Qj
open Option renaming map_some → ZP, map_none → ZQ, bind_some → ZR, getD_some → ZS, isNone_some → ZV, isNone_none → ZW, isSome_some → ZX, isSome_none → ZY
set_option linter.unusedSimpArgs false
variable {sp : Special} {h : Heap} {R : Out → Heap → Prop} {s : FS}
structure FI (h : Heap) (X : Blk) (q6 q7 : Nat) (s : FS) : Prop where
  f : Fs h 3 2 s
  I : s.Inv fun i => 1 ≤ i ∧ i ≤ 3
  g6 : h.get q6 = some (cellsB (isL 3) .exact)
  g7 : h.get q7 = some (cellsB (wantL s) .exact)
  x : h.get 1 = some X
  t : h.get 0 = some (tabBlk .u8 tab)
  lt : 5 ≤ q6 ∧ q6 < q7 ∧ q7 < h.nx
theorem FI.keep {h' : Heap} {X : Blk} {q6 q7 : Nat} (i : FI h X q6 q7 s) (hn : h.nx ≤ h'.nx) (hk : ∀ b, b < h.nx → h'.get b = h.get b) : FI h' X q6 q7 s := by
  obtain ⟨l1, l2, l3⟩ := i.lt
  exact ⟨i.f.keep hn (hk _ (by omega)) (hk _ (by omega)), i.I, by rw [hk _ (by omega)]; exact i.g6, by rw [hk _ (by omega)]; exact i.g7, by rw [hk _ (by omega)]; exact i.x, by rw [hk _ (by omega)]; exact i.t, l1, l2, by omega⟩
set_option maxRecDepth 100000 in
set_option maxHeartbeats 4000000 in
theorem files_walk (p60 : ∀ X, PairX X 60) {a : Option Addr} {n cp : Nat} {l : List Value} {X : Blk} (hl : l.length = 5 * n) (hc5 : ∀ i y, l[i]? = some y → cell5 i y) (hX : n = 0 ∨ (a = some ⟨1, 0, none⟩ ∧ X = cellsB l .ro)) (hR : ∀ h, R (.ret (.bool true)) h) : WF Tryd.prog 1 sp15 3 [.slice a n cp] (H0.new X) R := by
  have pl : Plain sp15 := by constructor <;> rfl
  refine wf_fn (fn := Tryd.f3) rfl rfl (by kernel_rfl) rfl ?_
  simp only [↓reduceIte, reduceCtorEq, Za, Zb, Zc, Zd, Ze, Zf, Zg, Zh, Zi, Zj, Zk, Zl, Zm, Zn, Zo, Zp, Zq, Zr, Zs, Zt, Zu, Zv, gval, Zw, Zx, Zy, Zz, ZA, ZB, ZC, ZD, ZE, ZF, decide_eq_true_eq, ZG, ZH, ZI, ZJ, ZK, ZL, ZM, ZN, ZO, ZP, ZQ, ZR, ZS, Option.some.injEq, exists_eq_left', ZT, ZU, ZV, ZW, ZX, ZY, true_and, and_true, true_or, or_true, false_or, or_false, ite_true, ite_false, cond_true, cond_false, ZZ, Qa, if_true, if_false, decide_true, decide_false, Qb, Qc, Qd, Qe, Qf, Qg, Qh, Qi, Qj, Qk, Ql, Qm, Qn, Qo, Qp, rb0, rb1, rb2, rb3, rb4, tf0, tf1, tf2, tf3, tf4, Tryd.f3]
  refine runC_of ((p60 X).wf ?_)
  obtain ⟨f1, x1, t1, m1⟩ := (p60 X).fs (by omega) (by omega)
  generalize pairXH X ((60 : Nat) : Int) = h1 at *
  simp only [↓reduceIte, reduceCtorEq, Za, Zb, Zc, Zd, Ze, Zf, Zg, Zh, Zi, Zj, Zk, Zl, Zm, Zn, Zo, Zp, Zq, Zr, Zs, Zt, Zu, Zv, gval, Zw, Zx, Zy, Zz, ZA, ZB, ZC, ZD, ZE, ZF, decide_eq_true_eq, ZG, ZH, ZI, ZJ, ZK, ZL, ZM, ZN, ZO, ZP, ZQ, ZR, ZS, Option.some.injEq, exists_eq_left', ZT, ZU, ZV, ZW, ZX, ZY, true_and, and_true, true_or, or_true, false_or, or_false, ite_true, ite_false, cond_true, cond_false, ZZ, Qa, if_true, if_false, decide_true, decide_false, Qb, Qc, Qd, Qe, Qf, Qg, Qh, Qi, Qj, Qk, Ql, Qm, Qn, Qo, Qp, rb0, rb1, rb2, rb3, rb4, tf0, tf1, tf2, tf3, tf4, show ((1 : Int) == 0) = false from rfl]
  obtain ⟨q6, hq6⟩ : ∃ q6, h1.nx = q6 := ⟨_, rfl⟩
  obtain ⟨h2, hh2⟩ : ∃ h2, (h1.new (cellsB (isL 0) .exact)).new (cellsB [.string (mkS []), .string (mkS []), .string (mkS [])] .exact) = h2 := ⟨_, rfl⟩
  have e2' : (h1.new (cellsB [.int .i64 0, .int .i64 0, .int .i64 0] .exact)).new (cellsB [.string .empty, .string .empty, .string .empty] .exact) = h2 := hh2
  rw [e2']
  simp only [hq6]
  have n2 : h2.nx = q6 + 2 := by rw [← hh2, Heap.nx_new, Heap.nx_new, hq6]
  have g26 : h2.get q6 = some (cellsB (isL 0) .exact) := by rw [← hh2, Heap.get_new_ne _ _ (by rw [Heap.nx_new]; omega), ← hq6, Heap.get_new_same]
  have g27 : h2.get (q6 + 1) = some (cellsB [.string (mkS []), .string (mkS []), .string (mkS [])] .exact) := by rw [← hh2, Heap.get_new_at _ (by rw [Heap.nx_new]; omega)]
  have k2 : ∀ b, b < q6 → h2.get b = h1.get b := fun b hb => by rw [← hh2, Heap.get_new_ne _ _ (by rw [Heap.nx_new]; omega), Heap.get_new_ne _ _ (by omega)]
  have f2 : Fs h2 3 2 (FS.new 60) := f1.keep (by omega) (k2 _ (by omega)) (k2 _ (by omega))
  refine run_loop2 rfl (fun m e h' => ∃ (k : Nat) (s : FS), m = 3 - k ∧ k ≤ 3 ∧ e.at 0 = .slice a n cp ∧ e.at 3 = .pointer (some ⟨3, 0, none⟩) ∧ e.at 6 = .pointer (some ⟨q6, 0, none⟩) ∧ e.at 7 = .pointer (some ⟨q6 + 1, 0, none⟩) ∧ e.at 8 = .int .i64 k ∧ Fs h' 3 2 s ∧ s.Inv (fun i => 1 ≤ i ∧ i ≤ k) ∧ s.a = lowN (k + 1) ∧ (∀ j, 1 ≤ j → j ≤ k → s.size j = 0) ∧ h'.get q6 = some (cellsB (isL k) .exact) ∧ h'.get (q6 + 1) = some (cellsB [.string (mkS []), .string (mkS []), .string (mkS [])] .exact) ∧ h'.get 1 = some X ∧ h'.get 0 = some (tabBlk .u8 tab) ∧ q6 + 1 < h'.nx)
    (fun ex e h' => ex = .exit 0 ∧ ∃ s : FS, e.at 0 = .slice a n cp ∧ e.at 3 = .pointer (some ⟨3, 0, none⟩) ∧ e.at 6 = .pointer (some ⟨q6, 0, none⟩) ∧ e.at 7 = .pointer (some ⟨q6 + 1, 0, none⟩) ∧ FI h' X q6 (q6 + 1) s) ?_ 3 _ _ ?_ ?_
  · rintro m e h3 ⟨k, s, rfl, hk, e0, e3, e6, e7, e8, f3, I3, a3, z3, g6, g7, x3, t3, lt3⟩ Q' hQn hQx
    by_cases hc : k < 3
    · have c1 : (k : Int) < 3 := by omega
      have hz : lowZ s.a = k + 1 := by rw [a3]; exact lowZ_low (by omega)
      have wk : wrapF .i64 ((k : Int) + 1) = ((k + 1 : Nat) : Int) := by rw [wrapI (by omega) (by omega)]; omega
      obtain ⟨I4, z4, zj, _, a4, _⟩ := alloc_inv I3 (k := 1) (by omega) (by rw [hz]; omega) (by rw [hz]; omega)
      rw [hz] at I4 z4 zj a4
      have I5 : (s.alloc 1).Inv fun i => 1 ≤ i ∧ i ≤ k + 1 := I4.congr fun i => ⟨fun q => by omega, fun q => by omega⟩
      simp only [↓reduceIte, reduceCtorEq, Za, Zb, Zc, Zd, Ze, Zf, Zg, Zh, Zi, Zj, Zk, Zl, Zm, Zn, Zo, Zp, Zq, Zr, Zs, Zt, Zu, Zv, gval, Zw, Zx, Zy, Zz, ZA, ZB, ZC, ZD, ZE, ZF, decide_eq_true_eq, ZG, ZH, ZI, ZJ, ZK, ZL, ZM, ZN, ZO, ZP, ZQ, ZR, ZS, Option.some.injEq, exists_eq_left', ZT, ZU, ZV, ZW, ZX, ZY, true_and, and_true, true_or, or_true, false_or, or_false, ite_true, ite_false, cond_true, cond_false, ZZ, Qa, if_true, if_false, decide_true, decide_false, Qb, Qc, Qd, Qe, Qf, Qg, Qh, Qi, Qj, Qk, Ql, Qm, Qn, Qo, Qp, rb0, rb1, rb2, rb3, rb4, tf0, tf1, tf2, tf3, tf4, e3, e8, c1, ifc23]
      refine runC_of (falloc_spec pl t3 f3 (by omega) (k := 1) (by omega) (fun q => absurd (by rw [hz]; omega) q) fun _ h4 f4 n4 k4 => ?_)
      rw [hz]
      have g46 : h4.get q6 = some (cellsB (isL k) .exact) := (k4 q6 (by omega) (by omega) (by omega)).trans g6
      have hset : overL (isL k) k [Value.int .i64 ((k + 1 : Nat) : Int)] = isL (k + 1) := (overL_one _ (by rw [isL_len]; exact hc)).trans (isL_set hc)
      have k1 : k + 1 ≤ 3 := by omega
      simp (disch := (first | omega | rfl | (simp only [Heap.nx_upd, Heap.nx_new]; omega))) only [↓reduceIte, reduceCtorEq, Za, Zb, Zc, Zd, Ze, Zf, Zg, Zh, Zi, Zj, Zk, Zl, Zm, Zn, Zo, Zp, Zq, Zr, Zs, Zt, Zu, Zv, gval, Zw, Zx, Zy, Zz, ZA, ZB, ZC, ZD, ZE, ZF, decide_eq_true_eq, ZG, ZH, ZI, ZJ, ZK, ZL, ZM, ZN, ZO, ZP, ZQ, ZR, ZS, Option.some.injEq, exists_eq_left', ZT, ZU, ZV, ZW, ZX, ZY, true_and, and_true, true_or, or_true, false_or, or_false, ite_true, ite_false, cond_true, cond_false, ZZ, Qa, if_true, if_false, decide_true, decide_false, Qb, Qc, Qd, Qe, Qf, Qg, Qh, Qi, Qj, Qk, Ql, Qm, Qn, Qo, Qp, rb0, rb1, rb2, rb3, rb4, tf0, tf1, tf2, tf3, tf4, Heap.get_upd_ne, Heap.get_new_ne, Heap.get_new_at, overL_one, if_pos, stX_exactN, e6, e8, g46, isL_len, hc, k1, hset, wk, Nat.mul_one, Nat.zero_add, show ((0 : Int) == 0) = true from rfl]
      refine hQn _ _ _ (by omega) ⟨k + 1, s.alloc 1, rfl, by omega, by simp only [at_put, at_args, Nat.reduceBEq, cond_true, cond_false, List.getElem?_cons_zero, List.getElem?_cons_succ, Option.getD_some, Nat.add_zero, Int.cast_ofNat_Int, e0], by simp only [at_put, at_args, Nat.reduceBEq, cond_true, cond_false, List.getElem?_cons_zero, List.getElem?_cons_succ, Option.getD_some, Nat.add_zero, Int.cast_ofNat_Int, e3], by simp only [at_put, at_args, Nat.reduceBEq, cond_true, cond_false, List.getElem?_cons_zero, List.getElem?_cons_succ, Option.getD_some, Nat.add_zero, Int.cast_ofNat_Int, e6], by simp only [at_put, at_args, Nat.reduceBEq, cond_true, cond_false, List.getElem?_cons_zero, List.getElem?_cons_succ, Option.getD_some, Nat.add_zero, Int.cast_ofNat_Int, e7], by simp only [at_put, at_args, Nat.reduceBEq, cond_true, cond_false, List.getElem?_cons_zero, List.getElem?_cons_succ, Option.getD_some, Nat.add_zero, Int.cast_ofNat_Int], f4.keep (by rw [Heap.nx_upd]; exact Nat.le_refl _) (Heap.get_upd_ne _ _ (by omega)) (Heap.get_upd_ne _ _ (by omega)), I5, ?_, fun j h1 h2 => ?_, Heap.get_upd_same _ _ _, ?_, ?_, ?_, by rw [Heap.nx_upd]; omega⟩
      · rw [a4, a3]; exact lowN_mark (k + 1)
      · by_cases e : j = k + 1
        · rw [e]; exact z4
        · rw [zj j e]; exact z3 j h1 (by omega)
      · rw [Heap.get_upd_ne _ _ (by omega), k4 _ (by omega) (by omega) (by omega)]; exact g7
      · rw [Heap.get_upd_ne _ _ (by omega), k4 _ (by omega) (by omega) (by omega)]; exact x3
      · rw [Heap.get_upd_ne _ _ (by omega), k4 _ (by omega) (by omega) (by omega)]; exact t3
    · obtain rfl : k = 3 := by omega
      have ht : ∀ j, 1 ≤ j → j ≤ 3 → s.txt j = [] := fun j h1 h2 => List.eq_nil_of_length_eq_zero (by rw [txt_len]; exact z3 j h1 h2)
      simp (disch := (first | omega | rfl | (simp only [Heap.nx_upd, Heap.nx_new]; omega))) only [↓reduceIte, reduceCtorEq, Za, Zb, Zc, Zd, Ze, Zf, Zg, Zh, Zi, Zj, Zk, Zl, Zm, Zn, Zo, Zp, Zq, Zr, Zs, Zt, Zu, Zv, gval, Zw, Zx, Zy, Zz, ZA, ZB, ZC, ZD, ZE, ZF, decide_eq_true_eq, ZG, ZH, ZI, ZJ, ZK, ZL, ZM, ZN, ZO, ZP, ZQ, ZR, ZS, Option.some.injEq, exists_eq_left', ZT, ZU, ZV, ZW, ZX, ZY, true_and, and_true, true_or, or_true, false_or, or_false, ite_true, ite_false, cond_true, cond_false, ZZ, Qa, if_true, if_false, decide_true, decide_false, Qb, Qc, Qd, Qe, Qf, Qg, Qh, Qi, Qj, Qk, Ql, Qm, Qn, Qo, Qp, rb0, rb1, rb2, rb3, rb4, tf0, tf1, tf2, tf3, tf4, Heap.get_upd_ne, Heap.get_new_ne, Heap.get_new_at, overL_one, if_pos, stX_exactN, e8]
      refine hQx _ _ _ (by simp) ⟨rfl, s, by simp only [at_put, at_args, Nat.reduceBEq, cond_true, cond_false, List.getElem?_cons_zero, List.getElem?_cons_succ, Option.getD_some, Nat.add_zero, Int.cast_ofNat_Int, e0], by simp only [at_put, at_args, Nat.reduceBEq, cond_true, cond_false, List.getElem?_cons_zero, List.getElem?_cons_succ, Option.getD_some, Nat.add_zero, Int.cast_ofNat_Int, e3], by simp only [at_put, at_args, Nat.reduceBEq, cond_true, cond_false, List.getElem?_cons_zero, List.getElem?_cons_succ, Option.getD_some, Nat.add_zero, Int.cast_ofNat_Int, e6], by simp only [at_put, at_args, Nat.reduceBEq, cond_true, cond_false, List.getElem?_cons_zero, List.getElem?_cons_succ, Option.getD_some, Nat.add_zero, Int.cast_ofNat_Int, e7], f3, I3, g6, ?_, x3, t3, by omega, by omega, lt3⟩
      have : wantL s = [.string (mkS []), .string (mkS []), .string (mkS [])] := by
        unfold wantL
        show [Value.string (mkS (s.txt 1)), Value.string (mkS (s.txt 2)), Value.string (mkS (s.txt 3))] = _
        rw [ht 1 (by omega) (by omega), ht 2 (by omega) (by omega), ht 3 (by omega) (by omega)]
      rw [this]; exact g7
  · exact ⟨0, _, rfl, by omega, by simp only [at_put, at_args, Nat.reduceBEq, cond_true, cond_false, List.getElem?_cons_zero, List.getElem?_cons_succ, Option.getD_some, Nat.add_zero, Int.cast_ofNat_Int], by simp only [at_put, at_args, Nat.reduceBEq, cond_true, cond_false, List.getElem?_cons_zero, List.getElem?_cons_succ, Option.getD_some, Nat.add_zero, Int.cast_ofNat_Int], by simp only [at_put, at_args, Nat.reduceBEq, cond_true, cond_false, List.getElem?_cons_zero, List.getElem?_cons_succ, Option.getD_some, Nat.add_zero, Int.cast_ofNat_Int], by simp only [at_put, at_args, Nat.reduceBEq, cond_true, cond_false, List.getElem?_cons_zero, List.getElem?_cons_succ, Option.getD_some, Nat.add_zero, Int.cast_ofNat_Int], by simp only [at_put, at_args, Nat.reduceBEq, cond_true, cond_false, List.getElem?_cons_zero, List.getElem?_cons_succ, Option.getD_some, Nat.add_zero, Int.cast_ofNat_Int], f2, (new_inv (by omega) (by omega)).congr fun i => ⟨fun q => q.elim, fun q => by omega⟩, rfl, fun j h1 h2 => by omega, g26, g27, (k2 1 (by omega)).trans x1, (k2 0 (by omega)).trans t1, by omega⟩
  · rintro ex e h3 - ⟨rfl, s, e0, e3, e6, e7, V3⟩
    simp only [↓reduceIte, reduceCtorEq, Za, Zb, Zc, Zd, Ze, Zf, Zg, Zh, Zi, Zj, Zk, Zl, Zm, Zn, Zo, Zp, Zq, Zr, Zs, Zt, Zu, Zv, gval, Zw, Zx, Zy, Zz, ZA, ZB, ZC, ZD, ZE, ZF, decide_eq_true_eq, ZG, ZH, ZI, ZJ, ZK, ZL, ZM, ZN, ZO, ZP, ZQ, ZR, ZS, Option.some.injEq, exists_eq_left', ZT, ZU, ZV, ZW, ZX, ZY, true_and, and_true, true_or, or_true, false_or, or_false, ite_true, ite_false, cond_true, cond_false, ZZ, Qa, if_true, if_false, decide_true, decide_false, Qb, Qc, Qd, Qe, Qf, Qg, Qh, Qi, Qj, Qk, Ql, Qm, Qn, Qo, Qp, rb0, rb1, rb2, rb3, rb4, tf0, tf1, tf2, tf3, tf4]
    obtain ⟨q7, hq7⟩ : ∃ q7, q6 + 1 = q7 := ⟨_, rfl⟩
    rw [hq7] at e7 V3
    refine run_loop2 rfl (fun m e h' => ∃ (i : Nat) (s : FS), m = 100 - i ∧ i ≤ 100 ∧ e.at 0 = .slice a n cp ∧ e.at 3 = .pointer (some ⟨3, 0, none⟩) ∧ e.at 6 = .pointer (some ⟨q6, 0, none⟩) ∧ e.at 7 = .pointer (some ⟨q7, 0, none⟩) ∧ e.at 11 = .int .i64 i ∧ FI h' X q6 q7 s)
      (fun ex e h' => ex = .exit 2 ∧ h'.get 0 = some (tabBlk .u8 tab)) ?_ 100 _ _ ?_ ?_
    · rintro m e h4 ⟨i, s, rfl, hi, e0, e3, e6, e7, e11, V⟩ Q' hQn hQx
      by_cases hc : i < n ∧ i < 100
      · obtain ⟨hin, hi100⟩ := hc
        have c1 : (i : Int) < (n : Int) := by omega
        have c2 : (i : Int) < 100 := by omega
        rcases hX with hX | ⟨rfl, rfl⟩
        · omega
        have hcell : ∀ j, j < 5 → ∃ y, l[i * 5 + j]? = some y ∧ cell5 (i * 5 + j) y := fun j hj => ⟨_, List.getElem?_eq_getElem (by omega), hc5 _ _ (List.getElem?_eq_getElem (by omega))⟩
        have hint : ∀ j, j < 4 → ∃ v : Int, l[i * 5 + j]? = some (.int .i64 v) ∧ -9223372036854775808 ≤ v ∧ v < 9223372036854775808 := fun j hj => by
          obtain ⟨y, y1, y2⟩ := hcell j (by omega)
          unfold cell5 at y2
          rw [if_neg (by omega)] at y2
          obtain ⟨v, rfl, hw⟩ := y2
          unfold Lit.wf at hw
          rw [Bool.and_eq_true, decide_eq_true_eq, decide_eq_true_eq] at hw
          exact ⟨v, y1, Int.le_trans (by decide) hw.1, Int.lt_of_le_of_lt hw.2 (by decide)⟩
        obtain ⟨K, hK, _⟩ := hint 0 (by omega)
        obtain ⟨I, hI, hIb⟩ := hint 1 (by omega)
        obtain ⟨O, hO, hOb⟩ := hint 2 (by omega)
        obtain ⟨N, hN, hNb⟩ := hint 3 (by omega)
        obtain ⟨sl, hS, hSl⟩ : ∃ sl : List UInt8, l[i * 5 + 4]? = some (.string (mkS sl)) ∧ sl.length ≤ maxLen := by
          obtain ⟨y, y1, y2⟩ := hcell 4 (by omega)
          unfold cell5 at y2
          rw [if_pos (by omega)] at y2
          obtain ⟨S, rfl, hw⟩ := y2
          exact ⟨S.data.toList, by rw [mkS_data]; exact y1, by simpa using hw⟩
        have hA : (l.drop (i * 5)).take 5 = [.int .i64 K, .int .i64 I, .int .i64 O, .int .i64 N, .string (mkS sl)] := by
          apply List.ext_getElem?
          intro j
          rw [List.getElem?_take]
          match j with
          | 0 => rw [if_pos (by omega), List.getElem?_drop, hK]; rfl
          | 1 => rw [if_pos (by omega), List.getElem?_drop, hI]; rfl
          | 2 => rw [if_pos (by omega), List.getElem?_drop, hO]; rfl
          | 3 => rw [if_pos (by omega), List.getElem?_drop, hN]; rfl
          | 4 => rw [if_pos (by omega), List.getElem?_drop, hS]; rfl
          | j + 5 => rw [if_neg (by omega)]; rfl
        have hAl : i * 5 + 5 ≤ l.length := by omega
        have r1 := Int.lt_tmod_of_pos I (b := 3) (by omega)
        have r2 := Int.tmod_lt_of_pos I (b := 3) (by omega)
        obtain ⟨z, hzz⟩ : ∃ z, I.tmod 3 = z := ⟨_, rfl⟩
        rw [hzz] at r1 r2
        have w1 : wrapF .i64 z = z := wrapI (by omega) (by omega)
        have w2 : wrapF .i64 (z + 3) = z + 3 := wrapI (by omega) (by omega)
        obtain ⟨k, hk⟩ : ∃ k : Nat, (z + 3).tmod 3 = (k : Int) := ⟨((z + 3).tmod 3).toNat, by have := Int.tmod_nonneg 3 (show 0 ≤ z + 3 by omega); omega⟩
        have hk3 : k < 3 := by have := Int.tmod_lt_of_pos (z + 3) (b := 3) (by omega); omega
        have w3 : wrapF .i64 (k : Int) = k := wrapI (by omega) (by omega)
        have hk3i : (k : Int) < 3 := by omega
        have hk0i : (0 : Int) ≤ (k : Int) := by omega
        obtain ⟨v1, v2, v3⟩ := V.lt
        have gw := wantL_at (s := s) hk3
        have gi : (isL 3)[k]? = some (.int .i64 ((k + 1 : Nat) : Int)) := by rw [isL_at hk3, if_pos hk3]
        have lW : (wantL s).length = 3 := wantL_len
        have lI : (isL 3).length = 3 := isL_len
        simp (disch := (first | omega | rfl | (simp only [Heap.nx_upd, Heap.nx_new]; omega))) only [↓reduceIte, reduceCtorEq, Za, Zb, Zc, Zd, Ze, Zf, Zg, Zh, Zi, Zj, Zk, Zl, Zm, Zn, Zo, Zp, Zq, Zr, Zs, Zt, Zu, Zv, gval, Zw, Zx, Zy, Zz, ZA, ZB, ZC, ZD, ZE, ZF, decide_eq_true_eq, ZG, ZH, ZI, ZJ, ZK, ZL, ZM, ZN, ZO, ZP, ZQ, ZR, ZS, Option.some.injEq, exists_eq_left', ZT, ZU, ZV, ZW, ZX, ZY, true_and, and_true, true_or, or_true, false_or, or_false, ite_true, ite_false, cond_true, cond_false, ZZ, Qa, if_true, if_false, decide_true, decide_false, Qb, Qc, Qd, Qe, Qf, Qg, Qh, Qi, Qj, Qk, Ql, Qm, Qn, Qo, Qp, rb0, rb1, rb2, rb3, rb4, tf0, tf1, tf2, tf3, tf4, Heap.get_upd_ne, Heap.get_new_ne, Heap.get_new_at, overL_one, if_pos, stX_exactN, e0, e3, e6, e7, e11, c1, c2, V.x, hA, hAl, hin, hzz, w1, w2, hk, w3, hk3, hk3i, hk0i, V.g7, gw, lW, conv_str, Nat.mul_one, Nat.zero_add]
        obtain ⟨d, hd⟩ : ∃ d, h4.nx = d := ⟨_, rfl⟩
        obtain ⟨h5, hh5⟩ : ∃ h5, ((h4.new (cellsB [.int .i64 0, .int .i64 0, .int .i64 0, .int .i64 0, .string .empty] .exact)).upd h4.nx (cellsB [.int .i64 K, .int .i64 I, .int .i64 O, .int .i64 N, .string (mkS sl)] .exact)).new (cellsB (u8s (s.txt (k + 1))) .bytes) = h5 := ⟨_, rfl⟩
        have n5 : h5.nx = d + 2 := by rw [← hh5, Heap.nx_new, Heap.nx_upd, Heap.nx_new, hd]
        have g5d : h5.get d = some (cellsB [.int .i64 K, .int .i64 I, .int .i64 O, .int .i64 N, .string (mkS sl)] .exact) := by rw [← hh5, ← hd, Heap.get_new_ne _ _ (by rw [Heap.nx_upd, Heap.nx_new]; omega), Heap.get_upd_same]
        have g5b : h5.get (d + 1) = some (cellsB (u8s (s.txt (k + 1))) .bytes) := by rw [← hh5, ← hd, Heap.get_new_at _ (by rw [Heap.nx_upd, Heap.nx_new]; omega)]
        have k5 : ∀ b, b < d → h5.get b = h4.get b := fun b hb => by rw [← hh5, Heap.get_new_ne _ _ (by rw [Heap.nx_upd, Heap.nx_new]; omega), Heap.get_upd_ne _ _ (by omega), Heap.get_new_ne _ _ (by omega)]
        have V5 : FI h5 (cellsB l .ro) q6 q7 s := V.keep (by omega) (fun b hb => k5 b (by omega))
        rw [hh5]
        simp only [hd]
        refine runB_join (fun ex e' h' => ex = .normal ∧ ∃ (s' : FS) (b nn cc : Nat) (L : List UInt8), e'.at 0 = .slice (some ⟨1, 0, none⟩) n cp ∧ e'.at 3 = .pointer (some ⟨3, 0, none⟩) ∧ e'.at 6 = .pointer (some ⟨q6, 0, none⟩) ∧ e'.at 7 = .pointer (some ⟨q7, 0, none⟩) ∧ e'.at 11 = .int .i64 i ∧ e'.at 13 = .int .i64 k ∧ e'.at 14 = .slice (some ⟨b, 0, none⟩) nn cc ∧
            h'.get b = some (cellsB (u8s L) .bytes) ∧ nn ≤ L.length ∧ d < b ∧ b < h'.nx ∧ L.take nn = s'.txt (k + 1) ∧ Fs h' 3 2 s' ∧ (s'.Inv fun i => 1 ≤ i ∧ i ≤ 3) ∧ (∀ j, j < 3 → j ≠ k → s'.txt (j + 1) = s.txt (j + 1)) ∧ h'.get q6 = some (cellsB (isL 3) .exact) ∧ h'.get q7 = some (cellsB (wantL s) .exact) ∧ h'.get 1 = some (cellsB l .ro) ∧ h'.get 0 = some (tabBlk .u8 tab)) ?_ ?_
        · intro Q2 hQ2
          have hi3 : (1 : Nat) ≤ k + 1 ∧ k + 1 ≤ 3 := by omega
          -- where nothing is changed
          have hnone : ∀ e' h', e'.at 0 = .slice (some ⟨1, 0, none⟩) n cp → e'.at 3 = .pointer (some ⟨3, 0, none⟩) → e'.at 6 = .pointer (some ⟨q6, 0, none⟩) → e'.at 7 = .pointer (some ⟨q7, 0, none⟩) → e'.at 11 = .int .i64 i → e'.at 13 = .int .i64 k → e'.at 14 = .slice (some ⟨d + 1, 0, none⟩) (s.txt (k + 1)).length (s.txt (k + 1)).length → Fs h' 3 2 s → h5.nx ≤ h'.nx → (∀ b', b' < h5.nx → b' ≠ 3 → b' ≠ 2 → h'.get b' = h5.get b') → Q2 .normal e' h' := fun e' h' z0 z3 z6 z7 z11 z13 z14 ff hn hk' =>
            hQ2 _ _ _ ⟨rfl, s, d + 1, _, _, s.txt (k + 1), z0, z3, z6, z7, z11, z13, z14, by rw [hk' _ (by omega) (by omega) (by omega)]; exact g5b, Nat.le_refl _, by omega, by omega, List.take_length, ff, V.I, fun _ _ _ => rfl, by rw [hk' _ (by omega) (by omega) (by omega)]; exact V5.g6, by rw [hk' _ (by omega) (by omega) (by omega)]; exact V5.g7, by rw [hk' _ (by omega) (by omega) (by omega)]; exact V5.x, by rw [hk' _ (by omega) (by omega) (by omega)]; exact V5.t⟩
          have hoth : ∀ s' : FS, (∀ j, j ≠ k + 1 → s'.size j = s.size j) → (∀ j p, (1 ≤ j ∧ j ≤ 3) → j ≠ k + 1 → p < s.size j → s'.byteAt j p = s.byteAt j p) → ∀ j, j < 3 → j ≠ k → s'.txt (j + 1) = s.txt (j + 1) := fun s' y1 y2 j j1 j2 => txt_same (y1 _ (by omega)) fun p hp => y2 _ p (by omega) (by omega) hp
          have hmx : maxLen < 9223372036854775808 := by decide
          by_cases k3 : K = 3
          · subst k3
            simp only [↓reduceIte, reduceCtorEq, Za, Zb, Zc, Zd, Ze, Zf, Zg, Zh, Zi, Zj, Zk, Zl, Zm, Zn, Zo, Zp, Zq, Zr, Zs, Zt, Zu, Zv, gval, Zw, Zx, Zy, Zz, ZA, ZB, ZC, ZD, ZE, ZF, decide_eq_true_eq, ZG, ZH, ZI, ZJ, ZK, ZL, ZM, ZN, ZO, ZP, ZQ, ZR, ZS, Option.some.injEq, exists_eq_left', ZT, ZU, ZV, ZW, ZX, ZY, true_and, and_true, true_or, or_true, false_or, or_false, ite_true, ite_false, cond_true, cond_false, ZZ, Qa, if_true, if_false, decide_true, decide_false, Qb, Qc, Qd, Qe, Qf, Qg, Qh, Qi, Qj, Qk, Ql, Qm, Qn, Qo, Qp, rb0, rb1, rb2, rb3, rb4, tf0, tf1, tf2, tf3, tf4]
            refine run_draw (ps := []) (by kernel_rfl) (by kernel_rfl) ?_
            simp (disch := (first | omega | rfl | (simp only [Heap.nx_upd, Heap.nx_new]; omega))) only [↓reduceIte, reduceCtorEq, Za, Zb, Zc, Zd, Ze, Zf, Zg, Zh, Zi, Zj, Zk, Zl, Zm, Zn, Zo, Zp, Zq, Zr, Zs, Zt, Zu, Zv, gval, Zw, Zx, Zy, Zz, ZA, ZB, ZC, ZD, ZE, ZF, decide_eq_true_eq, ZG, ZH, ZI, ZJ, ZK, ZL, ZM, ZN, ZO, ZP, ZQ, ZR, ZS, Option.some.injEq, exists_eq_left', ZT, ZU, ZV, ZW, ZX, ZY, true_and, and_true, true_or, or_true, false_or, or_false, ite_true, ite_false, cond_true, cond_false, ZZ, Qa, if_true, if_false, decide_true, decide_false, Qb, Qc, Qd, Qe, Qf, Qg, Qh, Qi, Qj, Qk, Ql, Qm, Qn, Qo, Qp, rb0, rb1, rb2, rb3, rb4, tf0, tf1, tf2, tf3, tf4, Heap.get_upd_ne, Heap.get_new_ne, Heap.get_new_at, overL_one, if_pos, stX_exactN, e3, e6, ifc23, g5d, V5.g6, gi, lI, hk3, hk3i, hk0i, Nat.mul_one, Nat.zero_add]
            refine runCR_of (fwrite_spec pl V5.t V5.f (by omega) (i := k + 1) (by omega) (V.I.ino _ hi3) V.I.low hOb (l := sl) (by omega) (fun _ h6 f6 n6 k6 => ?_) (fun _ _ h6 f6 n6 k6 => ?_) (fun _ _ _ _ _ _ h6 f6 n6 k6 => ?_) (fun _ _ _ hnil h6 f6 n6 k6 => ?_) fun o eo hle hsl hroom h6 f6 n6 k6 => ?_)
            · simp (disch := (first | omega | rfl | (simp only [Heap.nx_upd, Heap.nx_new]; omega))) only [↓reduceIte, reduceCtorEq, Za, Zb, Zc, Zd, Ze, Zf, Zg, Zh, Zi, Zj, Zk, Zl, Zm, Zn, Zo, Zp, Zq, Zr, Zs, Zt, Zu, Zv, gval, Zw, Zx, Zy, Zz, ZA, ZB, ZC, ZD, ZE, ZF, decide_eq_true_eq, ZG, ZH, ZI, ZJ, ZK, ZL, ZM, ZN, ZO, ZP, ZQ, ZR, ZS, Option.some.injEq, exists_eq_left', ZT, ZU, ZV, ZW, ZX, ZY, true_and, and_true, true_or, or_true, false_or, or_false, ite_true, ite_false, cond_true, cond_false, ZZ, Qa, if_true, if_false, decide_true, decide_false, Qb, Qc, Qd, Qe, Qf, Qg, Qh, Qi, Qj, Qk, Ql, Qm, Qn, Qo, Qp, rb0, rb1, rb2, rb3, rb4, tf0, tf1, tf2, tf3, tf4, Heap.get_upd_ne, Heap.get_new_ne, Heap.get_new_at, overL_one, if_pos, stX_exactN, show ((101 : Int) == 0) = false from rfl, runG_undef]
              exact hnone _ _ (by simp only [at_put, at_args, Nat.reduceBEq, cond_true, cond_false, List.getElem?_cons_zero, List.getElem?_cons_succ, Option.getD_some, Nat.add_zero, Int.cast_ofNat_Int, e0]) (by simp only [at_put, at_args, Nat.reduceBEq, cond_true, cond_false, List.getElem?_cons_zero, List.getElem?_cons_succ, Option.getD_some, Nat.add_zero, Int.cast_ofNat_Int, e3]) (by simp only [at_put, at_args, Nat.reduceBEq, cond_true, cond_false, List.getElem?_cons_zero, List.getElem?_cons_succ, Option.getD_some, Nat.add_zero, Int.cast_ofNat_Int, e6]) (by simp only [at_put, at_args, Nat.reduceBEq, cond_true, cond_false, List.getElem?_cons_zero, List.getElem?_cons_succ, Option.getD_some, Nat.add_zero, Int.cast_ofNat_Int, e7]) (by simp only [at_put, at_args, Nat.reduceBEq, cond_true, cond_false, List.getElem?_cons_zero, List.getElem?_cons_succ, Option.getD_some, Nat.add_zero, Int.cast_ofNat_Int, e11]) (by simp only [at_put, at_args, Nat.reduceBEq, cond_true, cond_false, List.getElem?_cons_zero, List.getElem?_cons_succ, Option.getD_some, Nat.add_zero, Int.cast_ofNat_Int]) (by simp only [at_put, at_args, Nat.reduceBEq, cond_true, cond_false, List.getElem?_cons_zero, List.getElem?_cons_succ, Option.getD_some, Nat.add_zero, Int.cast_ofNat_Int]) f6 n6 k6
            · simp (disch := (first | omega | rfl | (simp only [Heap.nx_upd, Heap.nx_new]; omega))) only [↓reduceIte, reduceCtorEq, Za, Zb, Zc, Zd, Ze, Zf, Zg, Zh, Zi, Zj, Zk, Zl, Zm, Zn, Zo, Zp, Zq, Zr, Zs, Zt, Zu, Zv, gval, Zw, Zx, Zy, Zz, ZA, ZB, ZC, ZD, ZE, ZF, decide_eq_true_eq, ZG, ZH, ZI, ZJ, ZK, ZL, ZM, ZN, ZO, ZP, ZQ, ZR, ZS, Option.some.injEq, exists_eq_left', ZT, ZU, ZV, ZW, ZX, ZY, true_and, and_true, true_or, or_true, false_or, or_false, ite_true, ite_false, cond_true, cond_false, ZZ, Qa, if_true, if_false, decide_true, decide_false, Qb, Qc, Qd, Qe, Qf, Qg, Qh, Qi, Qj, Qk, Ql, Qm, Qn, Qo, Qp, rb0, rb1, rb2, rb3, rb4, tf0, tf1, tf2, tf3, tf4, Heap.get_upd_ne, Heap.get_new_ne, Heap.get_new_at, overL_one, if_pos, stX_exactN, show ((27 : Int) == 0) = false from rfl, runG_undef]
              exact hnone _ _ (by simp only [at_put, at_args, Nat.reduceBEq, cond_true, cond_false, List.getElem?_cons_zero, List.getElem?_cons_succ, Option.getD_some, Nat.add_zero, Int.cast_ofNat_Int, e0]) (by simp only [at_put, at_args, Nat.reduceBEq, cond_true, cond_false, List.getElem?_cons_zero, List.getElem?_cons_succ, Option.getD_some, Nat.add_zero, Int.cast_ofNat_Int, e3]) (by simp only [at_put, at_args, Nat.reduceBEq, cond_true, cond_false, List.getElem?_cons_zero, List.getElem?_cons_succ, Option.getD_some, Nat.add_zero, Int.cast_ofNat_Int, e6]) (by simp only [at_put, at_args, Nat.reduceBEq, cond_true, cond_false, List.getElem?_cons_zero, List.getElem?_cons_succ, Option.getD_some, Nat.add_zero, Int.cast_ofNat_Int, e7]) (by simp only [at_put, at_args, Nat.reduceBEq, cond_true, cond_false, List.getElem?_cons_zero, List.getElem?_cons_succ, Option.getD_some, Nat.add_zero, Int.cast_ofNat_Int, e11]) (by simp only [at_put, at_args, Nat.reduceBEq, cond_true, cond_false, List.getElem?_cons_zero, List.getElem?_cons_succ, Option.getD_some, Nat.add_zero, Int.cast_ofNat_Int]) (by simp only [at_put, at_args, Nat.reduceBEq, cond_true, cond_false, List.getElem?_cons_zero, List.getElem?_cons_succ, Option.getD_some, Nat.add_zero, Int.cast_ofNat_Int]) f6 n6 k6
            · simp (disch := (first | omega | rfl | (simp only [Heap.nx_upd, Heap.nx_new]; omega))) only [↓reduceIte, reduceCtorEq, Za, Zb, Zc, Zd, Ze, Zf, Zg, Zh, Zi, Zj, Zk, Zl, Zm, Zn, Zo, Zp, Zq, Zr, Zs, Zt, Zu, Zv, gval, Zw, Zx, Zy, Zz, ZA, ZB, ZC, ZD, ZE, ZF, decide_eq_true_eq, ZG, ZH, ZI, ZJ, ZK, ZL, ZM, ZN, ZO, ZP, ZQ, ZR, ZS, Option.some.injEq, exists_eq_left', ZT, ZU, ZV, ZW, ZX, ZY, true_and, and_true, true_or, or_true, false_or, or_false, ite_true, ite_false, cond_true, cond_false, ZZ, Qa, if_true, if_false, decide_true, decide_false, Qb, Qc, Qd, Qe, Qf, Qg, Qh, Qi, Qj, Qk, Ql, Qm, Qn, Qo, Qp, rb0, rb1, rb2, rb3, rb4, tf0, tf1, tf2, tf3, tf4, Heap.get_upd_ne, Heap.get_new_ne, Heap.get_new_at, overL_one, if_pos, stX_exactN, show ((28 : Int) == 0) = false from rfl, runG_undef]
              exact hnone _ _ (by simp only [at_put, at_args, Nat.reduceBEq, cond_true, cond_false, List.getElem?_cons_zero, List.getElem?_cons_succ, Option.getD_some, Nat.add_zero, Int.cast_ofNat_Int, e0]) (by simp only [at_put, at_args, Nat.reduceBEq, cond_true, cond_false, List.getElem?_cons_zero, List.getElem?_cons_succ, Option.getD_some, Nat.add_zero, Int.cast_ofNat_Int, e3]) (by simp only [at_put, at_args, Nat.reduceBEq, cond_true, cond_false, List.getElem?_cons_zero, List.getElem?_cons_succ, Option.getD_some, Nat.add_zero, Int.cast_ofNat_Int, e6]) (by simp only [at_put, at_args, Nat.reduceBEq, cond_true, cond_false, List.getElem?_cons_zero, List.getElem?_cons_succ, Option.getD_some, Nat.add_zero, Int.cast_ofNat_Int, e7]) (by simp only [at_put, at_args, Nat.reduceBEq, cond_true, cond_false, List.getElem?_cons_zero, List.getElem?_cons_succ, Option.getD_some, Nat.add_zero, Int.cast_ofNat_Int, e11]) (by simp only [at_put, at_args, Nat.reduceBEq, cond_true, cond_false, List.getElem?_cons_zero, List.getElem?_cons_succ, Option.getD_some, Nat.add_zero, Int.cast_ofNat_Int]) (by simp only [at_put, at_args, Nat.reduceBEq, cond_true, cond_false, List.getElem?_cons_zero, List.getElem?_cons_succ, Option.getD_some, Nat.add_zero, Int.cast_ofNat_Int]) f6 n6 k6
            · subst hnil
              have g6d := (k6 d (by omega) (by omega) (by omega)).trans g5d
              simp (disch := (first | omega | rfl | (simp only [Heap.nx_upd, Heap.nx_new]; omega))) only [↓reduceIte, reduceCtorEq, Za, Zb, Zc, Zd, Ze, Zf, Zg, Zh, Zi, Zj, Zk, Zl, Zm, Zn, Zo, Zp, Zq, Zr, Zs, Zt, Zu, Zv, gval, Zw, Zx, Zy, Zz, ZA, ZB, ZC, ZD, ZE, ZF, decide_eq_true_eq, ZG, ZH, ZI, ZJ, ZK, ZL, ZM, ZN, ZO, ZP, ZQ, ZR, ZS, Option.some.injEq, exists_eq_left', ZT, ZU, ZV, ZW, ZX, ZY, true_and, and_true, true_or, or_true, false_or, or_false, ite_true, ite_false, cond_true, cond_false, ZZ, Qa, if_true, if_false, decide_true, decide_false, Qb, Qc, Qd, Qe, Qf, Qg, Qh, Qi, Qj, Qk, Ql, Qm, Qn, Qo, Qp, rb0, rb1, rb2, rb3, rb4, tf0, tf1, tf2, tf3, tf4, Heap.get_upd_ne, Heap.get_new_ne, Heap.get_new_at, overL_one, if_pos, stX_exactN, show ((0 : Int) == 0) = true from rfl, g6d, str_ne_f]
              exact hnone _ _ (by simp only [at_put, at_args, Nat.reduceBEq, cond_true, cond_false, List.getElem?_cons_zero, List.getElem?_cons_succ, Option.getD_some, Nat.add_zero, Int.cast_ofNat_Int, e0]) (by simp only [at_put, at_args, Nat.reduceBEq, cond_true, cond_false, List.getElem?_cons_zero, List.getElem?_cons_succ, Option.getD_some, Nat.add_zero, Int.cast_ofNat_Int, e3]) (by simp only [at_put, at_args, Nat.reduceBEq, cond_true, cond_false, List.getElem?_cons_zero, List.getElem?_cons_succ, Option.getD_some, Nat.add_zero, Int.cast_ofNat_Int, e6]) (by simp only [at_put, at_args, Nat.reduceBEq, cond_true, cond_false, List.getElem?_cons_zero, List.getElem?_cons_succ, Option.getD_some, Nat.add_zero, Int.cast_ofNat_Int, e7]) (by simp only [at_put, at_args, Nat.reduceBEq, cond_true, cond_false, List.getElem?_cons_zero, List.getElem?_cons_succ, Option.getD_some, Nat.add_zero, Int.cast_ofNat_Int, e11]) (by simp only [at_put, at_args, Nat.reduceBEq, cond_true, cond_false, List.getElem?_cons_zero, List.getElem?_cons_succ, Option.getD_some, Nat.add_zero, Int.cast_ofNat_Int]) (by simp only [at_put, at_args, Nat.reduceBEq, cond_true, cond_false, List.getElem?_cons_zero, List.getElem?_cons_succ, Option.getD_some, Nat.add_zero, Int.cast_ofNat_Int]) f6 n6 k6
            · have g6d := (k6 d (by omega) (by omega) (by omega)).trans g5d
              have hnef := fun x y g => str_ne_t x y hsl g
              simp (disch := (first | omega | rfl | (simp only [Heap.nx_upd, Heap.nx_new]; omega))) only [↓reduceIte, reduceCtorEq, Za, Zb, Zc, Zd, Ze, Zf, Zg, Zh, Zi, Zj, Zk, Zl, Zm, Zn, Zo, Zp, Zq, Zr, Zs, Zt, Zu, Zv, gval, Zw, Zx, Zy, Zz, ZA, ZB, ZC, ZD, ZE, ZF, decide_eq_true_eq, ZG, ZH, ZI, ZJ, ZK, ZL, ZM, ZN, ZO, ZP, ZQ, ZR, ZS, Option.some.injEq, exists_eq_left', ZT, ZU, ZV, ZW, ZX, ZY, true_and, and_true, true_or, or_true, false_or, or_false, ite_true, ite_false, cond_true, cond_false, ZZ, Qa, if_true, if_false, decide_true, decide_false, Qb, Qc, Qd, Qe, Qf, Qg, Qh, Qi, Qj, Qk, Ql, Qm, Qn, Qo, Qp, rb0, rb1, rb2, rb3, rb4, tf0, tf1, tf2, tf3, tf4, Heap.get_upd_ne, Heap.get_new_ne, Heap.get_new_at, overL_one, if_pos, stX_exactN, show ((0 : Int) == 0) = true from rfl, g6d, hnef]
              have hssz : (mkS sl).size = sl.length := rfl
              have woe : wrapF .i64 ((o : Int) + (sl.length : Int)) = ((o + sl.length : Nat) : Int) := by rw [wrapI (by omega) (by omega)]; omega
              subst eo
              have hpad := padN_self (l := s.txt (k + 1)) (Nat.le_refl _)
              obtain ⟨W, hW⟩ : ∃ W, s.txt (k + 1) = W := ⟨_, rfl⟩
              rw [hW] at hpad
              have h192 : (s.txt (k + 1)).length ≤ 192 := by rw [txt_len]; have := (V.I.ino _ hi3).sz; unfold FS.size; omega
              rw [hW] at h192
              have B6 : BB h6 (d + 1) (.slice (some ⟨d + 1, 0, none⟩) W.length W.length) (padN W W.length) := by
                rw [hpad]
                exact ⟨d + 1, Nat.le_refl _, by omega, rfl, by rw [k6 _ (by omega) (by omega) (by omega), ← hW]; exact g5b⟩
              have t0 : W.length ≤ W.length ∧ (W.length ≤ (o + sl.length) ∨ W.length = W.length) := ⟨Nat.le_refl _, .inr rfl⟩
              refine run_loop2 rfl (fun m e h' => ∃ (t : Nat) (v : Value), m = (o + sl.length) - t ∧ W.length ≤ t ∧ (t ≤ (o + sl.length) ∨ t = W.length) ∧ e.at 0 = .slice (some ⟨1, 0, none⟩) n cp ∧ e.at 3 = .pointer (some ⟨3, 0, none⟩) ∧ e.at 6 = .pointer (some ⟨q6, 0, none⟩) ∧ e.at 7 = .pointer (some ⟨q7, 0, none⟩) ∧ e.at 11 = .int .i64 i ∧ e.at 12 = .pointer (some ⟨d, 0, none⟩) ∧ e.at 13 = .int .i64 k ∧ e.at 14 = v ∧ BB h' (d + 1) v (padN W t) ∧ h6.nx ≤ h'.nx ∧ ∀ b', b' < d + 1 → h'.get b' = h6.get b')
                (fun ex e h' => ex = .exit 5 ∧ ∃ (v : Value), e.at 0 = .slice (some ⟨1, 0, none⟩) n cp ∧ e.at 3 = .pointer (some ⟨3, 0, none⟩) ∧ e.at 6 = .pointer (some ⟨q6, 0, none⟩) ∧ e.at 7 = .pointer (some ⟨q7, 0, none⟩) ∧ e.at 11 = .int .i64 i ∧ e.at 12 = .pointer (some ⟨d, 0, none⟩) ∧ e.at 13 = .int .i64 k ∧ e.at 14 = v ∧ BB h' (d + 1) v (padN W (o + sl.length)) ∧ h6.nx ≤ h'.nx ∧ ∀ b', b' < d + 1 → h'.get b' = h6.get b') ?_ ((o + sl.length) - W.length) _ _ ?_ ?_
              · rintro m e h7 ⟨t, v, rfl, ht1, ht2, z0, z3, z6, z7, z11, z12, z13, z14, B7, hn7, hk7⟩ Q3 hQn3 hQx3
                have hlen : (padN W t).length = t := by rw [padN_len]; omega
                obtain ⟨Ef, h8, vw, a1, a2, a3, a4, a5, a6⟩ := growBB B7 (by omega) 0 (by rw [hlen]; omega)
                rw [show (((0 : UInt8).toNat : Nat) : Int) = 0 from rfl] at a1 a3
                obtain ⟨b, b1, b2, hv, b4⟩ := B7.is
                rw [hlen] at hv
                subst hv
                have g7d := (hk7 d (by omega)).trans g6d
                by_cases hct : t < (o + sl.length)
                · have d1 : (t : Int) < (((o + sl.length) : Nat) : Int) := by omega
                  simp (disch := (first | omega | rfl | (simp only [Heap.nx_upd, Heap.nx_new]; omega))) only [↓reduceIte, reduceCtorEq, Za, Zb, Zc, Zd, Ze, Zf, Zg, Zh, Zi, Zj, Zk, Zl, Zm, Zn, Zo, Zp, Zq, Zr, Zs, Zt, Zu, Zv, gval, Zw, Zx, Zy, Zz, ZA, ZB, ZC, ZD, ZE, ZF, decide_eq_true_eq, ZG, ZH, ZI, ZJ, ZK, ZL, ZM, ZN, ZO, ZP, ZQ, ZR, ZS, Option.some.injEq, exists_eq_left', ZT, ZU, ZV, ZW, ZX, ZY, true_and, and_true, true_or, or_true, false_or, or_false, ite_true, ite_false, cond_true, cond_false, ZZ, Qa, if_true, if_false, decide_true, decide_false, Qb, Qc, Qd, Qe, Qf, Qg, Qh, Qi, Qj, Qk, Ql, Qm, Qn, Qo, Qp, rb0, rb1, rb2, rb3, rb4, tf0, tf1, tf2, tf3, tf4, Heap.get_upd_ne, Heap.get_new_ne, Heap.get_new_at, overL_one, if_pos, stX_exactN, z12, z14, g7d, hssz, hlen, woe, d1, bs1_34, a1, a2, a3]
                  refine hQn3 _ _ _ (by omega) ⟨t + 1, vw, rfl, by omega, by omega, by simp only [at_put, at_args, Nat.reduceBEq, cond_true, cond_false, List.getElem?_cons_zero, List.getElem?_cons_succ, Option.getD_some, Nat.add_zero, Int.cast_ofNat_Int, z0], by simp only [at_put, at_args, Nat.reduceBEq, cond_true, cond_false, List.getElem?_cons_zero, List.getElem?_cons_succ, Option.getD_some, Nat.add_zero, Int.cast_ofNat_Int, z3], by simp only [at_put, at_args, Nat.reduceBEq, cond_true, cond_false, List.getElem?_cons_zero, List.getElem?_cons_succ, Option.getD_some, Nat.add_zero, Int.cast_ofNat_Int, z6], by simp only [at_put, at_args, Nat.reduceBEq, cond_true, cond_false, List.getElem?_cons_zero, List.getElem?_cons_succ, Option.getD_some, Nat.add_zero, Int.cast_ofNat_Int, z7], by simp only [at_put, at_args, Nat.reduceBEq, cond_true, cond_false, List.getElem?_cons_zero, List.getElem?_cons_succ, Option.getD_some, Nat.add_zero, Int.cast_ofNat_Int, z11], by simp only [at_put, at_args, Nat.reduceBEq, cond_true, cond_false, List.getElem?_cons_zero, List.getElem?_cons_succ, Option.getD_some, Nat.add_zero, Int.cast_ofNat_Int, z12], by simp only [at_put, at_args, Nat.reduceBEq, cond_true, cond_false, List.getElem?_cons_zero, List.getElem?_cons_succ, Option.getD_some, Nat.add_zero, Int.cast_ofNat_Int, z13], by simp only [at_put, at_args, Nat.reduceBEq, cond_true, cond_false, List.getElem?_cons_zero, List.getElem?_cons_succ, Option.getD_some, Nat.add_zero, Int.cast_ofNat_Int], ?_, by omega, fun b' hb' => by rw [a6 _ hb']; exact hk7 b' hb'⟩
                  rw [← padN_snoc ht1]; exact a4
                · have d1 : ¬ (t : Int) < (((o + sl.length) : Nat) : Int) := by omega
                  simp (disch := (first | omega | rfl | (simp only [Heap.nx_upd, Heap.nx_new]; omega))) only [↓reduceIte, reduceCtorEq, Za, Zb, Zc, Zd, Ze, Zf, Zg, Zh, Zi, Zj, Zk, Zl, Zm, Zn, Zo, Zp, Zq, Zr, Zs, Zt, Zu, Zv, gval, Zw, Zx, Zy, Zz, ZA, ZB, ZC, ZD, ZE, ZF, decide_eq_true_eq, ZG, ZH, ZI, ZJ, ZK, ZL, ZM, ZN, ZO, ZP, ZQ, ZR, ZS, Option.some.injEq, exists_eq_left', ZT, ZU, ZV, ZW, ZX, ZY, true_and, and_true, true_or, or_true, false_or, or_false, ite_true, ite_false, cond_true, cond_false, ZZ, Qa, if_true, if_false, decide_true, decide_false, Qb, Qc, Qd, Qe, Qf, Qg, Qh, Qi, Qj, Qk, Ql, Qm, Qn, Qo, Qp, rb0, rb1, rb2, rb3, rb4, tf0, tf1, tf2, tf3, tf4, Heap.get_upd_ne, Heap.get_new_ne, Heap.get_new_at, overL_one, if_pos, stX_exactN, z12, z14, g7d, hssz, hlen, woe, d1]
                  refine hQx3 _ _ _ (by simp) ⟨rfl, .slice (some ⟨b, 0, none⟩) t t, by simp only [at_put, at_args, Nat.reduceBEq, cond_true, cond_false, List.getElem?_cons_zero, List.getElem?_cons_succ, Option.getD_some, Nat.add_zero, Int.cast_ofNat_Int, z0], by simp only [at_put, at_args, Nat.reduceBEq, cond_true, cond_false, List.getElem?_cons_zero, List.getElem?_cons_succ, Option.getD_some, Nat.add_zero, Int.cast_ofNat_Int, z3], by simp only [at_put, at_args, Nat.reduceBEq, cond_true, cond_false, List.getElem?_cons_zero, List.getElem?_cons_succ, Option.getD_some, Nat.add_zero, Int.cast_ofNat_Int, z6], by simp only [at_put, at_args, Nat.reduceBEq, cond_true, cond_false, List.getElem?_cons_zero, List.getElem?_cons_succ, Option.getD_some, Nat.add_zero, Int.cast_ofNat_Int, z7], by simp only [at_put, at_args, Nat.reduceBEq, cond_true, cond_false, List.getElem?_cons_zero, List.getElem?_cons_succ, Option.getD_some, Nat.add_zero, Int.cast_ofNat_Int, z11], by simp only [at_put, at_args, Nat.reduceBEq, cond_true, cond_false, List.getElem?_cons_zero, List.getElem?_cons_succ, Option.getD_some, Nat.add_zero, Int.cast_ofNat_Int, z12], by simp only [at_put, at_args, Nat.reduceBEq, cond_true, cond_false, List.getElem?_cons_zero, List.getElem?_cons_succ, Option.getD_some, Nat.add_zero, Int.cast_ofNat_Int, z13], by simp only [at_put, at_args, Nat.reduceBEq, cond_true, cond_false, List.getElem?_cons_zero, List.getElem?_cons_succ, Option.getD_some, Nat.add_zero, Int.cast_ofNat_Int, z14], ?_, hn7, hk7⟩
                  have : padN W (o + sl.length) = padN W t := by
                    rcases ht2 with q | q
                    · rw [show t = (o + sl.length) by omega]
                    · rw [padN_self (by omega), padN_self (by omega)]
                  rw [this]
                  exact ⟨b, b1, b2, by rw [hlen], b4⟩
              · exact ⟨W.length, .slice (some ⟨d + 1, 0, none⟩) W.length W.length, rfl, t0.1, t0.2, by simp only [at_put, at_args, Nat.reduceBEq, cond_true, cond_false, List.getElem?_cons_zero, List.getElem?_cons_succ, Option.getD_some, Nat.add_zero, Int.cast_ofNat_Int, e0], by simp only [at_put, at_args, Nat.reduceBEq, cond_true, cond_false, List.getElem?_cons_zero, List.getElem?_cons_succ, Option.getD_some, Nat.add_zero, Int.cast_ofNat_Int, e3], by simp only [at_put, at_args, Nat.reduceBEq, cond_true, cond_false, List.getElem?_cons_zero, List.getElem?_cons_succ, Option.getD_some, Nat.add_zero, Int.cast_ofNat_Int, e6], by simp only [at_put, at_args, Nat.reduceBEq, cond_true, cond_false, List.getElem?_cons_zero, List.getElem?_cons_succ, Option.getD_some, Nat.add_zero, Int.cast_ofNat_Int, e7], by simp only [at_put, at_args, Nat.reduceBEq, cond_true, cond_false, List.getElem?_cons_zero, List.getElem?_cons_succ, Option.getD_some, Nat.add_zero, Int.cast_ofNat_Int, e11], by simp only [at_put, at_args, Nat.reduceBEq, cond_true, cond_false, List.getElem?_cons_zero, List.getElem?_cons_succ, Option.getD_some, Nat.add_zero, Int.cast_ofNat_Int], by simp only [at_put, at_args, Nat.reduceBEq, cond_true, cond_false, List.getElem?_cons_zero, List.getElem?_cons_succ, Option.getD_some, Nat.add_zero, Int.cast_ofNat_Int], by simp only [at_put, at_args, Nat.reduceBEq, cond_true, cond_false, List.getElem?_cons_zero, List.getElem?_cons_succ, Option.getD_some, Nat.add_zero, Int.cast_ofNat_Int, hW], B6, Nat.le_refl _, fun _ _ => rfl⟩
              · rintro ex e h7 - ⟨rfl, v, z0, z3, z6, z7, z11, z12, z13, z14, B7, hn7, hk7⟩
                obtain ⟨b, b1, b2, rfl, b4⟩ := B7.is
                have g7d := (hk7 d (by omega)).trans g6d
                have hPl : o + sl.length ≤ (padN W (o + sl.length)).length := by rw [padN_len]; omega
                obtain ⟨P, hP⟩ : ∃ P, padN W (o + sl.length) = P := ⟨_, rfl⟩
                have hPm : P.length ≤ 192 := by rw [← hP, padN_len]; omega
                rw [hP] at b4 hPl z14
                simp only [↓reduceIte, reduceCtorEq, Za, Zb, Zc, Zd, Ze, Zf, Zg, Zh, Zi, Zj, Zk, Zl, Zm, Zn, Zo, Zp, Zq, Zr, Zs, Zt, Zu, Zv, gval, Zw, Zx, Zy, Zz, ZA, ZB, ZC, ZD, ZE, ZF, decide_eq_true_eq, ZG, ZH, ZI, ZJ, ZK, ZL, ZM, ZN, ZO, ZP, ZQ, ZR, ZS, Option.some.injEq, exists_eq_left', ZT, ZU, ZV, ZW, ZX, ZY, true_and, and_true, true_or, or_true, false_or, or_false, ite_true, ite_false, cond_true, cond_false, ZZ, Qa, if_true, if_false, decide_true, decide_false, Qb, Qc, Qd, Qe, Qf, Qg, Qh, Qi, Qj, Qk, Ql, Qm, Qn, Qo, Qp, rb0, rb1, rb2, rb3, rb4, tf0, tf1, tf2, tf3, tf4]
                refine run_loop2 rfl (fun m e h' => ∃ j : Nat, m = sl.length - j ∧ j ≤ sl.length ∧ e.at 0 = .slice (some ⟨1, 0, none⟩) n cp ∧ e.at 3 = .pointer (some ⟨3, 0, none⟩) ∧ e.at 6 = .pointer (some ⟨q6, 0, none⟩) ∧ e.at 7 = .pointer (some ⟨q7, 0, none⟩) ∧ e.at 11 = .int .i64 i ∧ e.at 12 = .pointer (some ⟨d, 0, none⟩) ∧ e.at 13 = .int .i64 k ∧ e.at 14 = .slice (some ⟨b, 0, none⟩) P.length P.length ∧ e.at 15 = .int .i64 j ∧ h'.get b = some (cellsB (u8s (ovr P o sl j)) .bytes) ∧ h'.nx = h7.nx ∧ ∀ b', b' ≠ b → h'.get b' = h7.get b')
                  (fun ex e h' => ex = .exit 7 ∧ e.at 0 = .slice (some ⟨1, 0, none⟩) n cp ∧ e.at 3 = .pointer (some ⟨3, 0, none⟩) ∧ e.at 6 = .pointer (some ⟨q6, 0, none⟩) ∧ e.at 7 = .pointer (some ⟨q7, 0, none⟩) ∧ e.at 11 = .int .i64 i ∧ e.at 13 = .int .i64 k ∧ e.at 14 = .slice (some ⟨b, 0, none⟩) P.length P.length ∧ h'.get b = some (cellsB (u8s (ovr P o sl sl.length)) .bytes) ∧ h'.nx = h7.nx ∧ ∀ b', b' ≠ b → h'.get b' = h7.get b') ?_ sl.length _ _ ?_ ?_
                · rintro m e h8 ⟨j, rfl, hj, z0, z3, z6, z7, z11, z12, z13, z14, z15, g8, n8, k8⟩ Q3 hQn3 hQx3
                  have g8d := (k8 d (by omega)).trans g7d
                  have hssz : (mkS sl).size = sl.length := rfl
                  by_cases hcj : j < sl.length
                  · have d1 : (j : Int) < (sl.length : Int) := by omega
                    obtain ⟨c, hcb⟩ : ∃ c, sl[j]? = some c := ⟨_, List.getElem?_eq_getElem hcj⟩
                    have i1 := str_index (P := Tryd.prog) (t := 9) (by kernel_rfl) hcb
                    have woj : wrapF .i64 ((o : Int) + (j : Int)) = ((o + j : Nat) : Int) := by rw [wrapI (by omega) (by omega)]; omega
                    have wj : wrapF .i64 ((j : Int) + 1) = ((j + 1 : Nat) : Int) := by rw [wrapI (by omega) (by omega)]; omega
                    have hoj : o + j < P.length := by omega
                    have d2 : ((o + j : Nat) : Int) < (P.length : Int) := by omega
                    have d0 : (0 : Int) ≤ ((o + j : Nat) : Int) := by omega
                    have lO : (u8s (ovr P o sl j)).length = P.length := by rw [u8s_len, ovr_len]
                    have hset : (u8s (ovr P o sl j)).set (o + j) (.int .u8 c.toNat) = u8s (ovr P o sl (j + 1)) := by
                      rw [u8s_set]
                      show _ = u8s ((ovr P o sl j).set (o + j) (sl[j]?.getD 0))
                      rw [hcb]; rfl
                    simp (disch := (first | omega | rfl | (simp only [Heap.nx_upd, Heap.nx_new]; omega))) only [↓reduceIte, reduceCtorEq, Za, Zb, Zc, Zd, Ze, Zf, Zg, Zh, Zi, Zj, Zk, Zl, Zm, Zn, Zo, Zp, Zq, Zr, Zs, Zt, Zu, Zv, gval, Zw, Zx, Zy, Zz, ZA, ZB, ZC, ZD, ZE, ZF, decide_eq_true_eq, ZG, ZH, ZI, ZJ, ZK, ZL, ZM, ZN, ZO, ZP, ZQ, ZR, ZS, Option.some.injEq, exists_eq_left', ZT, ZU, ZV, ZW, ZX, ZY, true_and, and_true, true_or, or_true, false_or, or_false, ite_true, ite_false, cond_true, cond_false, ZZ, Qa, if_true, if_false, decide_true, decide_false, Qb, Qc, Qd, Qe, Qf, Qg, Qh, Qi, Qj, Qk, Ql, Qm, Qn, Qo, Qp, rb0, rb1, rb2, rb3, rb4, tf0, tf1, tf2, tf3, tf4, Heap.get_upd_ne, Heap.get_new_ne, Heap.get_new_at, overL_one, if_pos, stX_exactN, z12, z15, g8d, hssz, d1]
                    refine run_draw (ps := []) (by kernel_rfl) (by kernel_rfl) ?_
                    simp (disch := (first | omega | rfl | (simp only [Heap.nx_upd, Heap.nx_new]; omega))) only [↓reduceIte, reduceCtorEq, Za, Zb, Zc, Zd, Ze, Zf, Zg, Zh, Zi, Zj, Zk, Zl, Zm, Zn, Zo, Zp, Zq, Zr, Zs, Zt, Zu, Zv, gval, Zw, Zx, Zy, Zz, ZA, ZB, ZC, ZD, ZE, ZF, decide_eq_true_eq, ZG, ZH, ZI, ZJ, ZK, ZL, ZM, ZN, ZO, ZP, ZQ, ZR, ZS, Option.some.injEq, exists_eq_left', ZT, ZU, ZV, ZW, ZX, ZY, true_and, and_true, true_or, or_true, false_or, or_false, ite_true, ite_false, cond_true, cond_false, ZZ, Qa, if_true, if_false, decide_true, decide_false, Qb, Qc, Qd, Qe, Qf, Qg, Qh, Qi, Qj, Qk, Ql, Qm, Qn, Qo, Qp, rb0, rb1, rb2, rb3, rb4, tf0, tf1, tf2, tf3, tf4, Heap.get_upd_ne, Heap.get_new_ne, Heap.get_new_at, overL_one, if_pos, stX_exactN, z12, z14, z15, g8d, woj, i1, d0, d2, hoj, g8, lO, hset, wj, Nat.mul_one, Nat.zero_add]
                    exact hQn3 _ _ _ (by omega) ⟨j + 1, rfl, by omega, by simp only [at_put, at_args, Nat.reduceBEq, cond_true, cond_false, List.getElem?_cons_zero, List.getElem?_cons_succ, Option.getD_some, Nat.add_zero, Int.cast_ofNat_Int, z0], by simp only [at_put, at_args, Nat.reduceBEq, cond_true, cond_false, List.getElem?_cons_zero, List.getElem?_cons_succ, Option.getD_some, Nat.add_zero, Int.cast_ofNat_Int, z3], by simp only [at_put, at_args, Nat.reduceBEq, cond_true, cond_false, List.getElem?_cons_zero, List.getElem?_cons_succ, Option.getD_some, Nat.add_zero, Int.cast_ofNat_Int, z6], by simp only [at_put, at_args, Nat.reduceBEq, cond_true, cond_false, List.getElem?_cons_zero, List.getElem?_cons_succ, Option.getD_some, Nat.add_zero, Int.cast_ofNat_Int, z7], by simp only [at_put, at_args, Nat.reduceBEq, cond_true, cond_false, List.getElem?_cons_zero, List.getElem?_cons_succ, Option.getD_some, Nat.add_zero, Int.cast_ofNat_Int, z11], by simp only [at_put, at_args, Nat.reduceBEq, cond_true, cond_false, List.getElem?_cons_zero, List.getElem?_cons_succ, Option.getD_some, Nat.add_zero, Int.cast_ofNat_Int, z12], by simp only [at_put, at_args, Nat.reduceBEq, cond_true, cond_false, List.getElem?_cons_zero, List.getElem?_cons_succ, Option.getD_some, Nat.add_zero, Int.cast_ofNat_Int, z13], by simp only [at_put, at_args, Nat.reduceBEq, cond_true, cond_false, List.getElem?_cons_zero, List.getElem?_cons_succ, Option.getD_some, Nat.add_zero, Int.cast_ofNat_Int, z14], by simp only [at_put, at_args, Nat.reduceBEq, cond_true, cond_false, List.getElem?_cons_zero, List.getElem?_cons_succ, Option.getD_some, Nat.add_zero, Int.cast_ofNat_Int], Heap.get_upd_same _ _ _, by rw [Heap.nx_upd]; exact n8, fun b' hb' => by rw [Heap.get_upd_ne _ _ hb']; exact k8 b' hb'⟩
                  · obtain rfl : j = sl.length := by omega
                    have d1 : ¬ (sl.length : Int) < (sl.length : Int) := by omega
                    simp (disch := (first | omega | rfl | (simp only [Heap.nx_upd, Heap.nx_new]; omega))) only [↓reduceIte, reduceCtorEq, Za, Zb, Zc, Zd, Ze, Zf, Zg, Zh, Zi, Zj, Zk, Zl, Zm, Zn, Zo, Zp, Zq, Zr, Zs, Zt, Zu, Zv, gval, Zw, Zx, Zy, Zz, ZA, ZB, ZC, ZD, ZE, ZF, decide_eq_true_eq, ZG, ZH, ZI, ZJ, ZK, ZL, ZM, ZN, ZO, ZP, ZQ, ZR, ZS, Option.some.injEq, exists_eq_left', ZT, ZU, ZV, ZW, ZX, ZY, true_and, and_true, true_or, or_true, false_or, or_false, ite_true, ite_false, cond_true, cond_false, ZZ, Qa, if_true, if_false, decide_true, decide_false, Qb, Qc, Qd, Qe, Qf, Qg, Qh, Qi, Qj, Qk, Ql, Qm, Qn, Qo, Qp, rb0, rb1, rb2, rb3, rb4, tf0, tf1, tf2, tf3, tf4, Heap.get_upd_ne, Heap.get_new_ne, Heap.get_new_at, overL_one, if_pos, stX_exactN, z12, z15, g8d, hssz, d1]
                    exact hQx3 _ _ _ (by simp) ⟨rfl, by simp only [at_put, at_args, Nat.reduceBEq, cond_true, cond_false, List.getElem?_cons_zero, List.getElem?_cons_succ, Option.getD_some, Nat.add_zero, Int.cast_ofNat_Int, z0], by simp only [at_put, at_args, Nat.reduceBEq, cond_true, cond_false, List.getElem?_cons_zero, List.getElem?_cons_succ, Option.getD_some, Nat.add_zero, Int.cast_ofNat_Int, z3], by simp only [at_put, at_args, Nat.reduceBEq, cond_true, cond_false, List.getElem?_cons_zero, List.getElem?_cons_succ, Option.getD_some, Nat.add_zero, Int.cast_ofNat_Int, z6], by simp only [at_put, at_args, Nat.reduceBEq, cond_true, cond_false, List.getElem?_cons_zero, List.getElem?_cons_succ, Option.getD_some, Nat.add_zero, Int.cast_ofNat_Int, z7], by simp only [at_put, at_args, Nat.reduceBEq, cond_true, cond_false, List.getElem?_cons_zero, List.getElem?_cons_succ, Option.getD_some, Nat.add_zero, Int.cast_ofNat_Int, z11], by simp only [at_put, at_args, Nat.reduceBEq, cond_true, cond_false, List.getElem?_cons_zero, List.getElem?_cons_succ, Option.getD_some, Nat.add_zero, Int.cast_ofNat_Int, z13], by simp only [at_put, at_args, Nat.reduceBEq, cond_true, cond_false, List.getElem?_cons_zero, List.getElem?_cons_succ, Option.getD_some, Nat.add_zero, Int.cast_ofNat_Int, z14], g8, n8, k8⟩
                · exact ⟨0, rfl, by omega, by simp only [at_put, at_args, Nat.reduceBEq, cond_true, cond_false, List.getElem?_cons_zero, List.getElem?_cons_succ, Option.getD_some, Nat.add_zero, Int.cast_ofNat_Int, z0], by simp only [at_put, at_args, Nat.reduceBEq, cond_true, cond_false, List.getElem?_cons_zero, List.getElem?_cons_succ, Option.getD_some, Nat.add_zero, Int.cast_ofNat_Int, z3], by simp only [at_put, at_args, Nat.reduceBEq, cond_true, cond_false, List.getElem?_cons_zero, List.getElem?_cons_succ, Option.getD_some, Nat.add_zero, Int.cast_ofNat_Int, z6], by simp only [at_put, at_args, Nat.reduceBEq, cond_true, cond_false, List.getElem?_cons_zero, List.getElem?_cons_succ, Option.getD_some, Nat.add_zero, Int.cast_ofNat_Int, z7], by simp only [at_put, at_args, Nat.reduceBEq, cond_true, cond_false, List.getElem?_cons_zero, List.getElem?_cons_succ, Option.getD_some, Nat.add_zero, Int.cast_ofNat_Int, z11], by simp only [at_put, at_args, Nat.reduceBEq, cond_true, cond_false, List.getElem?_cons_zero, List.getElem?_cons_succ, Option.getD_some, Nat.add_zero, Int.cast_ofNat_Int, z12], by simp only [at_put, at_args, Nat.reduceBEq, cond_true, cond_false, List.getElem?_cons_zero, List.getElem?_cons_succ, Option.getD_some, Nat.add_zero, Int.cast_ofNat_Int, z13], by simp only [at_put, at_args, Nat.reduceBEq, cond_true, cond_false, List.getElem?_cons_zero, List.getElem?_cons_succ, Option.getD_some, Nat.add_zero, Int.cast_ofNat_Int, z14, hP], by simp only [at_put, at_args, Nat.reduceBEq, cond_true, cond_false, List.getElem?_cons_zero, List.getElem?_cons_succ, Option.getD_some, Nat.add_zero, Int.cast_ofNat_Int], b4, rfl, fun _ _ => rfl⟩
                · rintro ex e h8 - ⟨rfl, z0, z3, z6, z7, z11, z13, z14, g8, n8, k8⟩
                  simp only [↓reduceIte, reduceCtorEq, Za, Zb, Zc, Zd, Ze, Zf, Zg, Zh, Zi, Zj, Zk, Zl, Zm, Zn, Zo, Zp, Zq, Zr, Zs, Zt, Zu, Zv, gval, Zw, Zx, Zy, Zz, ZA, ZB, ZC, ZD, ZE, ZF, decide_eq_true_eq, ZG, ZH, ZI, ZJ, ZK, ZL, ZM, ZN, ZO, ZP, ZQ, ZR, ZS, Option.some.injEq, exists_eq_left', ZT, ZU, ZV, ZW, ZX, ZY, true_and, and_true, true_or, or_true, false_or, or_false, ite_true, ite_false, cond_true, cond_false, ZZ, Qa, if_true, if_false, decide_true, decide_false, Qb, Qc, Qd, Qe, Qf, Qg, Qh, Qi, Qj, Qk, Ql, Qm, Qn, Qo, Qp, rb0, rb1, rb2, rb3, rb4, tf0, tf1, tf2, tf3, tf4]
                  have hk58 : ∀ b', b' < d → b' ≠ 3 → b' ≠ 2 → h8.get b' = h5.get b' := fun b' y1 y2 y3 => by rw [k8 _ (by omega), hk7 _ (by omega), k6 _ (by omega) y2 y3]
                  obtain ⟨I7, r2, r3, r4, r5⟩ := write_inv V.I (i := k + 1) (off := o) (l := sl) hi3 hle hroom
                  refine hQ2 _ _ _ ⟨rfl, s.write (k + 1) o sl, b, P.length, P.length, ovr P o sl sl.length, by simp only [at_put, at_args, Nat.reduceBEq, cond_true, cond_false, List.getElem?_cons_zero, List.getElem?_cons_succ, Option.getD_some, Nat.add_zero, Int.cast_ofNat_Int, z0], by simp only [at_put, at_args, Nat.reduceBEq, cond_true, cond_false, List.getElem?_cons_zero, List.getElem?_cons_succ, Option.getD_some, Nat.add_zero, Int.cast_ofNat_Int, z3], by simp only [at_put, at_args, Nat.reduceBEq, cond_true, cond_false, List.getElem?_cons_zero, List.getElem?_cons_succ, Option.getD_some, Nat.add_zero, Int.cast_ofNat_Int, z6], by simp only [at_put, at_args, Nat.reduceBEq, cond_true, cond_false, List.getElem?_cons_zero, List.getElem?_cons_succ, Option.getD_some, Nat.add_zero, Int.cast_ofNat_Int, z7], by simp only [at_put, at_args, Nat.reduceBEq, cond_true, cond_false, List.getElem?_cons_zero, List.getElem?_cons_succ, Option.getD_some, Nat.add_zero, Int.cast_ofNat_Int, z11], by simp only [at_put, at_args, Nat.reduceBEq, cond_true, cond_false, List.getElem?_cons_zero, List.getElem?_cons_succ, Option.getD_some, Nat.add_zero, Int.cast_ofNat_Int, z13], by simp only [at_put, at_args, Nat.reduceBEq, cond_true, cond_false, List.getElem?_cons_zero, List.getElem?_cons_succ, Option.getD_some, Nat.add_zero, Int.cast_ofNat_Int, z14], g8, by rw [ovr_len]; exact Nat.le_refl _, by omega, by omega, ?_, f6.keep (by omega) (by rw [k8 _ (by omega), hk7 _ (by omega)]) (by rw [k8 _ (by omega), hk7 _ (by omega)]), I7, hoth _ r3 r5, by rw [hk58 _ (by omega) (by omega) (by omega)]; exact V5.g6, by rw [hk58 _ (by omega) (by omega) (by omega)]; exact V5.g7, by rw [hk58 _ (by omega) (by omega) (by omega)]; exact V5.x, by rw [hk58 _ (by omega) (by omega) (by omega)]; exact V5.t⟩
                  rw [List.take_of_length_le (by rw [ovr_len]; exact Nat.le_refl _), write_txt V.I hi3 hle hroom, hW, hP]
          · simp only [↓reduceIte, reduceCtorEq, Za, Zb, Zc, Zd, Ze, Zf, Zg, Zh, Zi, Zj, Zk, Zl, Zm, Zn, Zo, Zp, Zq, Zr, Zs, Zt, Zu, Zv, gval, Zw, Zx, Zy, Zz, ZA, ZB, ZC, ZD, ZE, ZF, decide_eq_true_eq, ZG, ZH, ZI, ZJ, ZK, ZL, ZM, ZN, ZO, ZP, ZQ, ZR, ZS, Option.some.injEq, exists_eq_left', ZT, ZU, ZV, ZW, ZX, ZY, true_and, and_true, true_or, or_true, false_or, or_false, ite_true, ite_false, cond_true, cond_false, ZZ, Qa, if_true, if_false, decide_true, decide_false, Qb, Qc, Qd, Qe, Qf, Qg, Qh, Qi, Qj, Qk, Ql, Qm, Qn, Qo, Qp, rb0, rb1, rb2, rb3, rb4, tf0, tf1, tf2, tf3, tf4, k3]
            by_cases k4 : K = 4
            · subst k4
              simp only [↓reduceIte, reduceCtorEq, Za, Zb, Zc, Zd, Ze, Zf, Zg, Zh, Zi, Zj, Zk, Zl, Zm, Zn, Zo, Zp, Zq, Zr, Zs, Zt, Zu, Zv, gval, Zw, Zx, Zy, Zz, ZA, ZB, ZC, ZD, ZE, ZF, decide_eq_true_eq, ZG, ZH, ZI, ZJ, ZK, ZL, ZM, ZN, ZO, ZP, ZQ, ZR, ZS, Option.some.injEq, exists_eq_left', ZT, ZU, ZV, ZW, ZX, ZY, true_and, and_true, true_or, or_true, false_or, or_false, ite_true, ite_false, cond_true, cond_false, ZZ, Qa, if_true, if_false, decide_true, decide_false, Qb, Qc, Qd, Qe, Qf, Qg, Qh, Qi, Qj, Qk, Ql, Qm, Qn, Qo, Qp, rb0, rb1, rb2, rb3, rb4, tf0, tf1, tf2, tf3, tf4]
              refine run_draw (ps := []) (by kernel_rfl) (by kernel_rfl) ?_
              simp (disch := (first | omega | rfl | (simp only [Heap.nx_upd, Heap.nx_new]; omega))) only [↓reduceIte, reduceCtorEq, Za, Zb, Zc, Zd, Ze, Zf, Zg, Zh, Zi, Zj, Zk, Zl, Zm, Zn, Zo, Zp, Zq, Zr, Zs, Zt, Zu, Zv, gval, Zw, Zx, Zy, Zz, ZA, ZB, ZC, ZD, ZE, ZF, decide_eq_true_eq, ZG, ZH, ZI, ZJ, ZK, ZL, ZM, ZN, ZO, ZP, ZQ, ZR, ZS, Option.some.injEq, exists_eq_left', ZT, ZU, ZV, ZW, ZX, ZY, true_and, and_true, true_or, or_true, false_or, or_false, ite_true, ite_false, cond_true, cond_false, ZZ, Qa, if_true, if_false, decide_true, decide_false, Qb, Qc, Qd, Qe, Qf, Qg, Qh, Qi, Qj, Qk, Ql, Qm, Qn, Qo, Qp, rb0, rb1, rb2, rb3, rb4, tf0, tf1, tf2, tf3, tf4, Heap.get_upd_ne, Heap.get_new_ne, Heap.get_new_at, overL_one, if_pos, stX_exactN, e3, e6, ifc23, g5d, V5.g6, gi, lI, hk3, hk3i, hk0i, Nat.mul_one, Nat.zero_add]
              refine runCR_of (fresize_spec pl V5.t V5.f (by omega) (i := k + 1) (by omega) (V.I.ino _ hi3) V.I.low (fun _ h6 f6 n6 k6 => ?_) (fun _ h6 f6 n6 k6 => ?_) (fun _ _ _ _ h6 f6 n6 k6 => ?_) fun sz esz hsz hroom h6 f6 n6 k6 => ?_)
              · simp (disch := (first | omega | rfl | (simp only [Heap.nx_upd, Heap.nx_new]; omega))) only [↓reduceIte, reduceCtorEq, Za, Zb, Zc, Zd, Ze, Zf, Zg, Zh, Zi, Zj, Zk, Zl, Zm, Zn, Zo, Zp, Zq, Zr, Zs, Zt, Zu, Zv, gval, Zw, Zx, Zy, Zz, ZA, ZB, ZC, ZD, ZE, ZF, decide_eq_true_eq, ZG, ZH, ZI, ZJ, ZK, ZL, ZM, ZN, ZO, ZP, ZQ, ZR, ZS, Option.some.injEq, exists_eq_left', ZT, ZU, ZV, ZW, ZX, ZY, true_and, and_true, true_or, or_true, false_or, or_false, ite_true, ite_false, cond_true, cond_false, ZZ, Qa, if_true, if_false, decide_true, decide_false, Qb, Qc, Qd, Qe, Qf, Qg, Qh, Qi, Qj, Qk, Ql, Qm, Qn, Qo, Qp, rb0, rb1, rb2, rb3, rb4, tf0, tf1, tf2, tf3, tf4, Heap.get_upd_ne, Heap.get_new_ne, Heap.get_new_at, overL_one, if_pos, stX_exactN, show ((101 : Int) == 0) = false from rfl]
                exact hnone _ _ (by simp only [at_put, at_args, Nat.reduceBEq, cond_true, cond_false, List.getElem?_cons_zero, List.getElem?_cons_succ, Option.getD_some, Nat.add_zero, Int.cast_ofNat_Int, e0]) (by simp only [at_put, at_args, Nat.reduceBEq, cond_true, cond_false, List.getElem?_cons_zero, List.getElem?_cons_succ, Option.getD_some, Nat.add_zero, Int.cast_ofNat_Int, e3]) (by simp only [at_put, at_args, Nat.reduceBEq, cond_true, cond_false, List.getElem?_cons_zero, List.getElem?_cons_succ, Option.getD_some, Nat.add_zero, Int.cast_ofNat_Int, e6]) (by simp only [at_put, at_args, Nat.reduceBEq, cond_true, cond_false, List.getElem?_cons_zero, List.getElem?_cons_succ, Option.getD_some, Nat.add_zero, Int.cast_ofNat_Int, e7]) (by simp only [at_put, at_args, Nat.reduceBEq, cond_true, cond_false, List.getElem?_cons_zero, List.getElem?_cons_succ, Option.getD_some, Nat.add_zero, Int.cast_ofNat_Int, e11]) (by simp only [at_put, at_args, Nat.reduceBEq, cond_true, cond_false, List.getElem?_cons_zero, List.getElem?_cons_succ, Option.getD_some, Nat.add_zero, Int.cast_ofNat_Int]) (by simp only [at_put, at_args, Nat.reduceBEq, cond_true, cond_false, List.getElem?_cons_zero, List.getElem?_cons_succ, Option.getD_some, Nat.add_zero, Int.cast_ofNat_Int]) f6 n6 k6
              · simp (disch := (first | omega | rfl | (simp only [Heap.nx_upd, Heap.nx_new]; omega))) only [↓reduceIte, reduceCtorEq, Za, Zb, Zc, Zd, Ze, Zf, Zg, Zh, Zi, Zj, Zk, Zl, Zm, Zn, Zo, Zp, Zq, Zr, Zs, Zt, Zu, Zv, gval, Zw, Zx, Zy, Zz, ZA, ZB, ZC, ZD, ZE, ZF, decide_eq_true_eq, ZG, ZH, ZI, ZJ, ZK, ZL, ZM, ZN, ZO, ZP, ZQ, ZR, ZS, Option.some.injEq, exists_eq_left', ZT, ZU, ZV, ZW, ZX, ZY, true_and, and_true, true_or, or_true, false_or, or_false, ite_true, ite_false, cond_true, cond_false, ZZ, Qa, if_true, if_false, decide_true, decide_false, Qb, Qc, Qd, Qe, Qf, Qg, Qh, Qi, Qj, Qk, Ql, Qm, Qn, Qo, Qp, rb0, rb1, rb2, rb3, rb4, tf0, tf1, tf2, tf3, tf4, Heap.get_upd_ne, Heap.get_new_ne, Heap.get_new_at, overL_one, if_pos, stX_exactN, show ((27 : Int) == 0) = false from rfl]
                exact hnone _ _ (by simp only [at_put, at_args, Nat.reduceBEq, cond_true, cond_false, List.getElem?_cons_zero, List.getElem?_cons_succ, Option.getD_some, Nat.add_zero, Int.cast_ofNat_Int, e0]) (by simp only [at_put, at_args, Nat.reduceBEq, cond_true, cond_false, List.getElem?_cons_zero, List.getElem?_cons_succ, Option.getD_some, Nat.add_zero, Int.cast_ofNat_Int, e3]) (by simp only [at_put, at_args, Nat.reduceBEq, cond_true, cond_false, List.getElem?_cons_zero, List.getElem?_cons_succ, Option.getD_some, Nat.add_zero, Int.cast_ofNat_Int, e6]) (by simp only [at_put, at_args, Nat.reduceBEq, cond_true, cond_false, List.getElem?_cons_zero, List.getElem?_cons_succ, Option.getD_some, Nat.add_zero, Int.cast_ofNat_Int, e7]) (by simp only [at_put, at_args, Nat.reduceBEq, cond_true, cond_false, List.getElem?_cons_zero, List.getElem?_cons_succ, Option.getD_some, Nat.add_zero, Int.cast_ofNat_Int, e11]) (by simp only [at_put, at_args, Nat.reduceBEq, cond_true, cond_false, List.getElem?_cons_zero, List.getElem?_cons_succ, Option.getD_some, Nat.add_zero, Int.cast_ofNat_Int]) (by simp only [at_put, at_args, Nat.reduceBEq, cond_true, cond_false, List.getElem?_cons_zero, List.getElem?_cons_succ, Option.getD_some, Nat.add_zero, Int.cast_ofNat_Int]) f6 n6 k6
              · simp (disch := (first | omega | rfl | (simp only [Heap.nx_upd, Heap.nx_new]; omega))) only [↓reduceIte, reduceCtorEq, Za, Zb, Zc, Zd, Ze, Zf, Zg, Zh, Zi, Zj, Zk, Zl, Zm, Zn, Zo, Zp, Zq, Zr, Zs, Zt, Zu, Zv, gval, Zw, Zx, Zy, Zz, ZA, ZB, ZC, ZD, ZE, ZF, decide_eq_true_eq, ZG, ZH, ZI, ZJ, ZK, ZL, ZM, ZN, ZO, ZP, ZQ, ZR, ZS, Option.some.injEq, exists_eq_left', ZT, ZU, ZV, ZW, ZX, ZY, true_and, and_true, true_or, or_true, false_or, or_false, ite_true, ite_false, cond_true, cond_false, ZZ, Qa, if_true, if_false, decide_true, decide_false, Qb, Qc, Qd, Qe, Qf, Qg, Qh, Qi, Qj, Qk, Ql, Qm, Qn, Qo, Qp, rb0, rb1, rb2, rb3, rb4, tf0, tf1, tf2, tf3, tf4, Heap.get_upd_ne, Heap.get_new_ne, Heap.get_new_at, overL_one, if_pos, stX_exactN, show ((28 : Int) == 0) = false from rfl]
                exact hnone _ _ (by simp only [at_put, at_args, Nat.reduceBEq, cond_true, cond_false, List.getElem?_cons_zero, List.getElem?_cons_succ, Option.getD_some, Nat.add_zero, Int.cast_ofNat_Int, e0]) (by simp only [at_put, at_args, Nat.reduceBEq, cond_true, cond_false, List.getElem?_cons_zero, List.getElem?_cons_succ, Option.getD_some, Nat.add_zero, Int.cast_ofNat_Int, e3]) (by simp only [at_put, at_args, Nat.reduceBEq, cond_true, cond_false, List.getElem?_cons_zero, List.getElem?_cons_succ, Option.getD_some, Nat.add_zero, Int.cast_ofNat_Int, e6]) (by simp only [at_put, at_args, Nat.reduceBEq, cond_true, cond_false, List.getElem?_cons_zero, List.getElem?_cons_succ, Option.getD_some, Nat.add_zero, Int.cast_ofNat_Int, e7]) (by simp only [at_put, at_args, Nat.reduceBEq, cond_true, cond_false, List.getElem?_cons_zero, List.getElem?_cons_succ, Option.getD_some, Nat.add_zero, Int.cast_ofNat_Int, e11]) (by simp only [at_put, at_args, Nat.reduceBEq, cond_true, cond_false, List.getElem?_cons_zero, List.getElem?_cons_succ, Option.getD_some, Nat.add_zero, Int.cast_ofNat_Int]) (by simp only [at_put, at_args, Nat.reduceBEq, cond_true, cond_false, List.getElem?_cons_zero, List.getElem?_cons_succ, Option.getD_some, Nat.add_zero, Int.cast_ofNat_Int]) f6 n6 k6
              · have g6d := (k6 d (by omega) (by omega) (by omega)).trans g5d
                simp (disch := (first | omega | rfl | (simp only [Heap.nx_upd, Heap.nx_new]; omega))) only [↓reduceIte, reduceCtorEq, Za, Zb, Zc, Zd, Ze, Zf, Zg, Zh, Zi, Zj, Zk, Zl, Zm, Zn, Zo, Zp, Zq, Zr, Zs, Zt, Zu, Zv, gval, Zw, Zx, Zy, Zz, ZA, ZB, ZC, ZD, ZE, ZF, decide_eq_true_eq, ZG, ZH, ZI, ZJ, ZK, ZL, ZM, ZN, ZO, ZP, ZQ, ZR, ZS, Option.some.injEq, exists_eq_left', ZT, ZU, ZV, ZW, ZX, ZY, true_and, and_true, true_or, or_true, false_or, or_false, ite_true, ite_false, cond_true, cond_false, ZZ, Qa, if_true, if_false, decide_true, decide_false, Qb, Qc, Qd, Qe, Qf, Qg, Qh, Qi, Qj, Qk, Ql, Qm, Qn, Qo, Qp, rb0, rb1, rb2, rb3, rb4, tf0, tf1, tf2, tf3, tf4, Heap.get_upd_ne, Heap.get_new_ne, Heap.get_new_at, overL_one, if_pos, stX_exactN, show ((0 : Int) == 0) = true from rfl]
                subst esz
                have hpad := padN_self (l := s.txt (k + 1)) (Nat.le_refl _)
                obtain ⟨W, hW⟩ : ∃ W, s.txt (k + 1) = W := ⟨_, rfl⟩
                rw [hW] at hpad
                have h192 : (s.txt (k + 1)).length ≤ 192 := by rw [txt_len]; have := (V.I.ino _ hi3).sz; unfold FS.size; omega
                rw [hW] at h192
                have B6 : BB h6 (d + 1) (.slice (some ⟨d + 1, 0, none⟩) W.length W.length) (padN W W.length) := by
                  rw [hpad]
                  exact ⟨d + 1, Nat.le_refl _, by omega, rfl, by rw [k6 _ (by omega) (by omega) (by omega), ← hW]; exact g5b⟩
                have t0 : W.length ≤ W.length ∧ (W.length ≤ sz ∨ W.length = W.length) := ⟨Nat.le_refl _, .inr rfl⟩
                refine run_loop2 rfl (fun m e h' => ∃ (t : Nat) (v : Value), m = sz - t ∧ W.length ≤ t ∧ (t ≤ sz ∨ t = W.length) ∧ e.at 0 = .slice (some ⟨1, 0, none⟩) n cp ∧ e.at 3 = .pointer (some ⟨3, 0, none⟩) ∧ e.at 6 = .pointer (some ⟨q6, 0, none⟩) ∧ e.at 7 = .pointer (some ⟨q7, 0, none⟩) ∧ e.at 11 = .int .i64 i ∧ e.at 12 = .pointer (some ⟨d, 0, none⟩) ∧ e.at 13 = .int .i64 k ∧ e.at 14 = v ∧ BB h' (d + 1) v (padN W t) ∧ h6.nx ≤ h'.nx ∧ ∀ b', b' < d + 1 → h'.get b' = h6.get b')
                  (fun ex e h' => ex = .exit 9 ∧ ∃ (v : Value), e.at 0 = .slice (some ⟨1, 0, none⟩) n cp ∧ e.at 3 = .pointer (some ⟨3, 0, none⟩) ∧ e.at 6 = .pointer (some ⟨q6, 0, none⟩) ∧ e.at 7 = .pointer (some ⟨q7, 0, none⟩) ∧ e.at 11 = .int .i64 i ∧ e.at 12 = .pointer (some ⟨d, 0, none⟩) ∧ e.at 13 = .int .i64 k ∧ e.at 14 = v ∧ BB h' (d + 1) v (padN W (sz)) ∧ h6.nx ≤ h'.nx ∧ ∀ b', b' < d + 1 → h'.get b' = h6.get b') ?_ (sz - W.length) _ _ ?_ ?_
                · rintro m e h7 ⟨t, v, rfl, ht1, ht2, z0, z3, z6, z7, z11, z12, z13, z14, B7, hn7, hk7⟩ Q3 hQn3 hQx3
                  have hlen : (padN W t).length = t := by rw [padN_len]; omega
                  obtain ⟨Ef, h8, vw, a1, a2, a3, a4, a5, a6⟩ := growBB B7 (by omega) 0 (by rw [hlen]; omega)
                  rw [show (((0 : UInt8).toNat : Nat) : Int) = 0 from rfl] at a1 a3
                  obtain ⟨b, b1, b2, hv, b4⟩ := B7.is
                  rw [hlen] at hv
                  subst hv
                  have g7d := (hk7 d (by omega)).trans g6d
                  by_cases hct : t < sz
                  · have d1 : (t : Int) < (sz : Int) := by omega
                    simp (disch := (first | omega | rfl | (simp only [Heap.nx_upd, Heap.nx_new]; omega))) only [↓reduceIte, reduceCtorEq, Za, Zb, Zc, Zd, Ze, Zf, Zg, Zh, Zi, Zj, Zk, Zl, Zm, Zn, Zo, Zp, Zq, Zr, Zs, Zt, Zu, Zv, gval, Zw, Zx, Zy, Zz, ZA, ZB, ZC, ZD, ZE, ZF, decide_eq_true_eq, ZG, ZH, ZI, ZJ, ZK, ZL, ZM, ZN, ZO, ZP, ZQ, ZR, ZS, Option.some.injEq, exists_eq_left', ZT, ZU, ZV, ZW, ZX, ZY, true_and, and_true, true_or, or_true, false_or, or_false, ite_true, ite_false, cond_true, cond_false, ZZ, Qa, if_true, if_false, decide_true, decide_false, Qb, Qc, Qd, Qe, Qf, Qg, Qh, Qi, Qj, Qk, Ql, Qm, Qn, Qo, Qp, rb0, rb1, rb2, rb3, rb4, tf0, tf1, tf2, tf3, tf4, Heap.get_upd_ne, Heap.get_new_ne, Heap.get_new_at, overL_one, if_pos, stX_exactN, z12, z14, g7d, hlen, d1, bs1_34, a1, a2, a3]
                    refine hQn3 _ _ _ (by omega) ⟨t + 1, vw, rfl, by omega, by omega, by simp only [at_put, at_args, Nat.reduceBEq, cond_true, cond_false, List.getElem?_cons_zero, List.getElem?_cons_succ, Option.getD_some, Nat.add_zero, Int.cast_ofNat_Int, z0], by simp only [at_put, at_args, Nat.reduceBEq, cond_true, cond_false, List.getElem?_cons_zero, List.getElem?_cons_succ, Option.getD_some, Nat.add_zero, Int.cast_ofNat_Int, z3], by simp only [at_put, at_args, Nat.reduceBEq, cond_true, cond_false, List.getElem?_cons_zero, List.getElem?_cons_succ, Option.getD_some, Nat.add_zero, Int.cast_ofNat_Int, z6], by simp only [at_put, at_args, Nat.reduceBEq, cond_true, cond_false, List.getElem?_cons_zero, List.getElem?_cons_succ, Option.getD_some, Nat.add_zero, Int.cast_ofNat_Int, z7], by simp only [at_put, at_args, Nat.reduceBEq, cond_true, cond_false, List.getElem?_cons_zero, List.getElem?_cons_succ, Option.getD_some, Nat.add_zero, Int.cast_ofNat_Int, z11], by simp only [at_put, at_args, Nat.reduceBEq, cond_true, cond_false, List.getElem?_cons_zero, List.getElem?_cons_succ, Option.getD_some, Nat.add_zero, Int.cast_ofNat_Int, z12], by simp only [at_put, at_args, Nat.reduceBEq, cond_true, cond_false, List.getElem?_cons_zero, List.getElem?_cons_succ, Option.getD_some, Nat.add_zero, Int.cast_ofNat_Int, z13], by simp only [at_put, at_args, Nat.reduceBEq, cond_true, cond_false, List.getElem?_cons_zero, List.getElem?_cons_succ, Option.getD_some, Nat.add_zero, Int.cast_ofNat_Int], ?_, by omega, fun b' hb' => by rw [a6 _ hb']; exact hk7 b' hb'⟩
                    rw [← padN_snoc ht1]; exact a4
                  · have d1 : ¬ (t : Int) < (sz : Int) := by omega
                    simp (disch := (first | omega | rfl | (simp only [Heap.nx_upd, Heap.nx_new]; omega))) only [↓reduceIte, reduceCtorEq, Za, Zb, Zc, Zd, Ze, Zf, Zg, Zh, Zi, Zj, Zk, Zl, Zm, Zn, Zo, Zp, Zq, Zr, Zs, Zt, Zu, Zv, gval, Zw, Zx, Zy, Zz, ZA, ZB, ZC, ZD, ZE, ZF, decide_eq_true_eq, ZG, ZH, ZI, ZJ, ZK, ZL, ZM, ZN, ZO, ZP, ZQ, ZR, ZS, Option.some.injEq, exists_eq_left', ZT, ZU, ZV, ZW, ZX, ZY, true_and, and_true, true_or, or_true, false_or, or_false, ite_true, ite_false, cond_true, cond_false, ZZ, Qa, if_true, if_false, decide_true, decide_false, Qb, Qc, Qd, Qe, Qf, Qg, Qh, Qi, Qj, Qk, Ql, Qm, Qn, Qo, Qp, rb0, rb1, rb2, rb3, rb4, tf0, tf1, tf2, tf3, tf4, Heap.get_upd_ne, Heap.get_new_ne, Heap.get_new_at, overL_one, if_pos, stX_exactN, z12, z14, g7d, hlen, d1]
                    refine hQx3 _ _ _ (by simp) ⟨rfl, .slice (some ⟨b, 0, none⟩) t t, by simp only [at_put, at_args, Nat.reduceBEq, cond_true, cond_false, List.getElem?_cons_zero, List.getElem?_cons_succ, Option.getD_some, Nat.add_zero, Int.cast_ofNat_Int, z0], by simp only [at_put, at_args, Nat.reduceBEq, cond_true, cond_false, List.getElem?_cons_zero, List.getElem?_cons_succ, Option.getD_some, Nat.add_zero, Int.cast_ofNat_Int, z3], by simp only [at_put, at_args, Nat.reduceBEq, cond_true, cond_false, List.getElem?_cons_zero, List.getElem?_cons_succ, Option.getD_some, Nat.add_zero, Int.cast_ofNat_Int, z6], by simp only [at_put, at_args, Nat.reduceBEq, cond_true, cond_false, List.getElem?_cons_zero, List.getElem?_cons_succ, Option.getD_some, Nat.add_zero, Int.cast_ofNat_Int, z7], by simp only [at_put, at_args, Nat.reduceBEq, cond_true, cond_false, List.getElem?_cons_zero, List.getElem?_cons_succ, Option.getD_some, Nat.add_zero, Int.cast_ofNat_Int, z11], by simp only [at_put, at_args, Nat.reduceBEq, cond_true, cond_false, List.getElem?_cons_zero, List.getElem?_cons_succ, Option.getD_some, Nat.add_zero, Int.cast_ofNat_Int, z12], by simp only [at_put, at_args, Nat.reduceBEq, cond_true, cond_false, List.getElem?_cons_zero, List.getElem?_cons_succ, Option.getD_some, Nat.add_zero, Int.cast_ofNat_Int, z13], by simp only [at_put, at_args, Nat.reduceBEq, cond_true, cond_false, List.getElem?_cons_zero, List.getElem?_cons_succ, Option.getD_some, Nat.add_zero, Int.cast_ofNat_Int, z14], ?_, hn7, hk7⟩
                    have : padN W (sz) = padN W t := by
                      rcases ht2 with q | q
                      · rw [show t = sz by omega]
                      · rw [padN_self (by omega), padN_self (by omega)]
                    rw [this]
                    exact ⟨b, b1, b2, by rw [hlen], b4⟩
                · exact ⟨W.length, .slice (some ⟨d + 1, 0, none⟩) W.length W.length, rfl, t0.1, t0.2, by simp only [at_put, at_args, Nat.reduceBEq, cond_true, cond_false, List.getElem?_cons_zero, List.getElem?_cons_succ, Option.getD_some, Nat.add_zero, Int.cast_ofNat_Int, e0], by simp only [at_put, at_args, Nat.reduceBEq, cond_true, cond_false, List.getElem?_cons_zero, List.getElem?_cons_succ, Option.getD_some, Nat.add_zero, Int.cast_ofNat_Int, e3], by simp only [at_put, at_args, Nat.reduceBEq, cond_true, cond_false, List.getElem?_cons_zero, List.getElem?_cons_succ, Option.getD_some, Nat.add_zero, Int.cast_ofNat_Int, e6], by simp only [at_put, at_args, Nat.reduceBEq, cond_true, cond_false, List.getElem?_cons_zero, List.getElem?_cons_succ, Option.getD_some, Nat.add_zero, Int.cast_ofNat_Int, e7], by simp only [at_put, at_args, Nat.reduceBEq, cond_true, cond_false, List.getElem?_cons_zero, List.getElem?_cons_succ, Option.getD_some, Nat.add_zero, Int.cast_ofNat_Int, e11], by simp only [at_put, at_args, Nat.reduceBEq, cond_true, cond_false, List.getElem?_cons_zero, List.getElem?_cons_succ, Option.getD_some, Nat.add_zero, Int.cast_ofNat_Int], by simp only [at_put, at_args, Nat.reduceBEq, cond_true, cond_false, List.getElem?_cons_zero, List.getElem?_cons_succ, Option.getD_some, Nat.add_zero, Int.cast_ofNat_Int], by simp only [at_put, at_args, Nat.reduceBEq, cond_true, cond_false, List.getElem?_cons_zero, List.getElem?_cons_succ, Option.getD_some, Nat.add_zero, Int.cast_ofNat_Int, hW], B6, Nat.le_refl _, fun _ _ => rfl⟩
                · rintro ex e h7 - ⟨rfl, v, z0, z3, z6, z7, z11, z12, z13, z14, B7, hn7, hk7⟩
                  obtain ⟨b, b1, b2, rfl, b4⟩ := B7.is
                  have g7d := (hk7 d (by omega)).trans g6d
                  have hlen : sz ≤ (padN W sz).length := by rw [padN_len]; omega
                  have hcut := cut_bytes b4 hlen
                  simp (disch := (first | omega | rfl | (simp only [Heap.nx_upd, Heap.nx_new]; omega))) only [↓reduceIte, reduceCtorEq, Za, Zb, Zc, Zd, Ze, Zf, Zg, Zh, Zi, Zj, Zk, Zl, Zm, Zn, Zo, Zp, Zq, Zr, Zs, Zt, Zu, Zv, gval, Zw, Zx, Zy, Zz, ZA, ZB, ZC, ZD, ZE, ZF, decide_eq_true_eq, ZG, ZH, ZI, ZJ, ZK, ZL, ZM, ZN, ZO, ZP, ZQ, ZR, ZS, Option.some.injEq, exists_eq_left', ZT, ZU, ZV, ZW, ZX, ZY, true_and, and_true, true_or, or_true, false_or, or_false, ite_true, ite_false, cond_true, cond_false, ZZ, Qa, if_true, if_false, decide_true, decide_false, Qb, Qc, Qd, Qe, Qf, Qg, Qh, Qi, Qj, Qk, Ql, Qm, Qn, Qo, Qp, rb0, rb1, rb2, rb3, rb4, tf0, tf1, tf2, tf3, tf4, Heap.get_upd_ne, Heap.get_new_ne, Heap.get_new_at, overL_one, if_pos, stX_exactN, z12, z14, g7d, hcut]
                  have hk57 : ∀ b', b' < d → b' ≠ 3 → b' ≠ 2 → h7.get b' = h5.get b' := fun b' y1 y2 y3 => by rw [hk7 _ (by omega), k6 _ (by omega) y2 y3]
                  obtain ⟨I7, r2, r3, r4, r5⟩ := resize_inv V.I (i := k + 1) hi3 hsz hroom
                  refine hQ2 _ _ _ ⟨rfl, s.resize (k + 1) sz, b, sz, (padN W sz).length, padN W sz, by simp only [at_put, at_args, Nat.reduceBEq, cond_true, cond_false, List.getElem?_cons_zero, List.getElem?_cons_succ, Option.getD_some, Nat.add_zero, Int.cast_ofNat_Int, z0], by simp only [at_put, at_args, Nat.reduceBEq, cond_true, cond_false, List.getElem?_cons_zero, List.getElem?_cons_succ, Option.getD_some, Nat.add_zero, Int.cast_ofNat_Int, z3], by simp only [at_put, at_args, Nat.reduceBEq, cond_true, cond_false, List.getElem?_cons_zero, List.getElem?_cons_succ, Option.getD_some, Nat.add_zero, Int.cast_ofNat_Int, z6], by simp only [at_put, at_args, Nat.reduceBEq, cond_true, cond_false, List.getElem?_cons_zero, List.getElem?_cons_succ, Option.getD_some, Nat.add_zero, Int.cast_ofNat_Int, z7], by simp only [at_put, at_args, Nat.reduceBEq, cond_true, cond_false, List.getElem?_cons_zero, List.getElem?_cons_succ, Option.getD_some, Nat.add_zero, Int.cast_ofNat_Int, z11], by simp only [at_put, at_args, Nat.reduceBEq, cond_true, cond_false, List.getElem?_cons_zero, List.getElem?_cons_succ, Option.getD_some, Nat.add_zero, Int.cast_ofNat_Int, z13], by simp only [at_put, at_args, Nat.reduceBEq, cond_true, cond_false, List.getElem?_cons_zero, List.getElem?_cons_succ, Option.getD_some, Nat.add_zero, Int.cast_ofNat_Int], b4, hlen, by omega, b2, ?_, f6.keep hn7 (hk7 _ (by omega)) (hk7 _ (by omega)), I7, hoth _ r4 r5, by rw [hk57 _ (by omega) (by omega) (by omega)]; exact V5.g6, by rw [hk57 _ (by omega) (by omega) (by omega)]; exact V5.g7, by rw [hk57 _ (by omega) (by omega) (by omega)]; exact V5.x, by rw [hk57 _ (by omega) (by omega) (by omega)]; exact V5.t⟩
                  rw [resize_txt V.I hi3 hsz hroom, hW]
            · simp only [↓reduceIte, reduceCtorEq, Za, Zb, Zc, Zd, Ze, Zf, Zg, Zh, Zi, Zj, Zk, Zl, Zm, Zn, Zo, Zp, Zq, Zr, Zs, Zt, Zu, Zv, gval, Zw, Zx, Zy, Zz, ZA, ZB, ZC, ZD, ZE, ZF, decide_eq_true_eq, ZG, ZH, ZI, ZJ, ZK, ZL, ZM, ZN, ZO, ZP, ZQ, ZR, ZS, Option.some.injEq, exists_eq_left', ZT, ZU, ZV, ZW, ZX, ZY, true_and, and_true, true_or, or_true, false_or, or_false, ite_true, ite_false, cond_true, cond_false, ZZ, Qa, if_true, if_false, decide_true, decide_false, Qb, Qc, Qd, Qe, Qf, Qg, Qh, Qi, Qj, Qk, Ql, Qm, Qn, Qo, Qp, rb0, rb1, rb2, rb3, rb4, tf0, tf1, tf2, tf3, tf4, k4]
              exact hnone _ _ (by simp only [at_put, at_args, Nat.reduceBEq, cond_true, cond_false, List.getElem?_cons_zero, List.getElem?_cons_succ, Option.getD_some, Nat.add_zero, Int.cast_ofNat_Int, e0]) (by simp only [at_put, at_args, Nat.reduceBEq, cond_true, cond_false, List.getElem?_cons_zero, List.getElem?_cons_succ, Option.getD_some, Nat.add_zero, Int.cast_ofNat_Int, e3]) (by simp only [at_put, at_args, Nat.reduceBEq, cond_true, cond_false, List.getElem?_cons_zero, List.getElem?_cons_succ, Option.getD_some, Nat.add_zero, Int.cast_ofNat_Int, e6]) (by simp only [at_put, at_args, Nat.reduceBEq, cond_true, cond_false, List.getElem?_cons_zero, List.getElem?_cons_succ, Option.getD_some, Nat.add_zero, Int.cast_ofNat_Int, e7]) (by simp only [at_put, at_args, Nat.reduceBEq, cond_true, cond_false, List.getElem?_cons_zero, List.getElem?_cons_succ, Option.getD_some, Nat.add_zero, Int.cast_ofNat_Int, e11]) (by simp only [at_put, at_args, Nat.reduceBEq, cond_true, cond_false, List.getElem?_cons_zero, List.getElem?_cons_succ, Option.getD_some, Nat.add_zero, Int.cast_ofNat_Int]) (by simp only [at_put, at_args, Nat.reduceBEq, cond_true, cond_false, List.getElem?_cons_zero, List.getElem?_cons_succ, Option.getD_some, Nat.add_zero, Int.cast_ofNat_Int]) V5.f (Nat.le_refl _) (fun _ _ _ _ => rfl)
        · rintro ex e' h6 ⟨rfl, s', b, nn, cc, L, z0, z3, z6, z7, z11, z13, z14, gb, hnn, hdb, hb6, htk, f6, I6, ho6, g66, g67, x6, t6⟩
          have hcv := conv_take (c := cc) gb hnn
          rw [htk] at hcv
          have hk1 : k + 1 ≤ 3 := by omega
          have hset : overL (wantL s) k [Value.string (mkS (s'.txt (k + 1)))] = wantL s' := (overL_one _ (by rw [wantL_len]; exact hk3)).trans (wantL_set hk3 ho6)
          simp (disch := (first | omega | rfl | (simp only [Heap.nx_upd, Heap.nx_new]; omega))) only [↓reduceIte, reduceCtorEq, Za, Zb, Zc, Zd, Ze, Zf, Zg, Zh, Zi, Zj, Zk, Zl, Zm, Zn, Zo, Zp, Zq, Zr, Zs, Zt, Zu, Zv, gval, Zw, Zx, Zy, Zz, ZA, ZB, ZC, ZD, ZE, ZF, decide_eq_true_eq, ZG, ZH, ZI, ZJ, ZK, ZL, ZM, ZN, ZO, ZP, ZQ, ZR, ZS, Option.some.injEq, exists_eq_left', ZT, ZU, ZV, ZW, ZX, ZY, true_and, and_true, true_or, or_true, false_or, or_false, ite_true, ite_false, cond_true, cond_false, ZZ, Qa, if_true, if_false, decide_true, decide_false, Qb, Qc, Qd, Qe, Qf, Qg, Qh, Qi, Qj, Qk, Ql, Qm, Qn, Qo, Qp, rb0, rb1, rb2, rb3, rb4, tf0, tf1, tf2, tf3, tf4, Heap.get_upd_ne, Heap.get_new_ne, Heap.get_new_at, overL_one, if_pos, stX_exactN, z7, z13, z14, hcv, g67, lW, hk3, hk3i, hk0i, hk1, hset, Nat.mul_one, Nat.zero_add]
          obtain ⟨h7, hh7⟩ : ∃ h7, h6.upd q7 (cellsB (wantL s') .exact) = h7 := ⟨_, rfl⟩
          have n7 : h7.nx = h6.nx := by rw [← hh7, Heap.nx_upd]
          have k7 : ∀ b', b' ≠ q7 → h7.get b' = h6.get b' := fun b' hb' => by rw [← hh7, Heap.get_upd_ne _ _ hb']
          have V7 : FI h7 (cellsB l .ro) q6 q7 s' := ⟨f6.keep (by omega) (k7 _ (by omega)) (k7 _ (by omega)), I6, by rw [k7 _ (by omega)]; exact g66, by rw [← hh7, Heap.get_upd_same], by rw [k7 _ (by omega)]; exact x6, by rw [k7 _ (by omega)]; exact t6, by omega⟩
          rw [hh7]
          refine run_loop2 rfl (fun m e h' => ∃ kk : Nat, m = 3 - kk ∧ kk ≤ 3 ∧ e.at 0 = .slice (some ⟨1, 0, none⟩) n cp ∧ e.at 3 = .pointer (some ⟨3, 0, none⟩) ∧ e.at 6 = .pointer (some ⟨q6, 0, none⟩) ∧ e.at 7 = .pointer (some ⟨q7, 0, none⟩) ∧ e.at 11 = .int .i64 i ∧ e.at 16 = .int .i64 kk ∧ FI h' (cellsB l .ro) q6 q7 s')
            (fun ex e h' => ex = .exit 11 ∧ e.at 0 = .slice (some ⟨1, 0, none⟩) n cp ∧ e.at 3 = .pointer (some ⟨3, 0, none⟩) ∧ e.at 6 = .pointer (some ⟨q6, 0, none⟩) ∧ e.at 7 = .pointer (some ⟨q7, 0, none⟩) ∧ e.at 11 = .int .i64 i ∧ FI h' (cellsB l .ro) q6 q7 s') ?_ 3 _ _ ?_ ?_
          · rintro m e h8 ⟨kk, rfl, hkk, z0, z3, z6, z7, z11, z16, V8⟩ Q2 hQn2 hQx2
            by_cases hc : kk < 3
            · have d1 : (kk : Int) < 3 := by omega
              have d0 : (0 : Int) ≤ (kk : Int) := by omega
              have gi8 : (isL 3)[kk]? = some (.int .i64 ((kk + 1 : Nat) : Int)) := by rw [isL_at hc, if_pos hc]
              have gw8 := wantL_at (s := s') hc
              have wk : wrapF .i64 ((kk : Int) + 1) = ((kk + 1 : Nat) : Int) := by rw [wrapI (by omega) (by omega)]; omega
              simp (disch := (first | omega | rfl | (simp only [Heap.nx_upd, Heap.nx_new]; omega))) only [↓reduceIte, reduceCtorEq, Za, Zb, Zc, Zd, Ze, Zf, Zg, Zh, Zi, Zj, Zk, Zl, Zm, Zn, Zo, Zp, Zq, Zr, Zs, Zt, Zu, Zv, gval, Zw, Zx, Zy, Zz, ZA, ZB, ZC, ZD, ZE, ZF, decide_eq_true_eq, ZG, ZH, ZI, ZJ, ZK, ZL, ZM, ZN, ZO, ZP, ZQ, ZR, ZS, Option.some.injEq, exists_eq_left', ZT, ZU, ZV, ZW, ZX, ZY, true_and, and_true, true_or, or_true, false_or, or_false, ite_true, ite_false, cond_true, cond_false, ZZ, Qa, if_true, if_false, decide_true, decide_false, Qb, Qc, Qd, Qe, Qf, Qg, Qh, Qi, Qj, Qk, Ql, Qm, Qn, Qo, Qp, rb0, rb1, rb2, rb3, rb4, tf0, tf1, tf2, tf3, tf4, Heap.get_upd_ne, Heap.get_new_ne, Heap.get_new_at, overL_one, if_pos, stX_exactN, z3, z6, z16, d1, d0, ifc23, V8.g6, gi8, lI, hc, Nat.mul_one, Nat.zero_add]
              refine runC_of (fread_spec pl V8.f (i := ((kk + 1 : Nat) : Int)) (off := 0) (n := 192) (fun k' e hk' => V8.I.ino k' (by omega)) (by omega) (by omega) (fun q => absurd q (by omega)) fun k' o m' ek hk' eo em h9 f9 n9 k9 => ?_)
              obtain rfl : k' = kk + 1 := by omega
              obtain rfl : o = 0 := by omega
              obtain rfl : m' = 192 := by omega
              have hsz := (V8.I.ino (kk + 1) (by omega)).sz
              have hend : endR (s'.size (kk + 1)) 0 192 = s'.size (kk + 1) := by
                unfold endR
                rw [if_neg]
                unfold FS.size
                omega
              rw [hend]
              obtain ⟨y1, y2, y3⟩ := V8.lt
              have V9 : FI h9 (cellsB l .ro) q6 q7 s' := ⟨f9, I6, by rw [k9 _ (by omega) (by omega)]; exact V8.g6, by rw [k9 _ (by omega) (by omega)]; exact V8.g7, by rw [k9 _ (by omega) (by omega)]; exact V8.x, by rw [k9 _ (by omega) (by omega)]; exact V8.t, by omega⟩
              have hss := fun x y g => str_same x y (s'.txt (kk + 1)) g
              have htx : s'.text (kk + 1) 0 (s'.size (kk + 1)) = s'.txt (kk + 1) := rfl
              rw [htx]
              have lW' : (wantL s').length = 3 := wantL_len
              simp (disch := (first | omega | rfl | (simp only [Heap.nx_upd, Heap.nx_new]; omega))) only [↓reduceIte, reduceCtorEq, Za, Zb, Zc, Zd, Ze, Zf, Zg, Zh, Zi, Zj, Zk, Zl, Zm, Zn, Zo, Zp, Zq, Zr, Zs, Zt, Zu, Zv, gval, Zw, Zx, Zy, Zz, ZA, ZB, ZC, ZD, ZE, ZF, decide_eq_true_eq, ZG, ZH, ZI, ZJ, ZK, ZL, ZM, ZN, ZO, ZP, ZQ, ZR, ZS, Option.some.injEq, exists_eq_left', ZT, ZU, ZV, ZW, ZX, ZY, true_and, and_true, true_or, or_true, false_or, or_false, ite_true, ite_false, cond_true, cond_false, ZZ, Qa, if_true, if_false, decide_true, decide_false, Qb, Qc, Qd, Qe, Qf, Qg, Qh, Qi, Qj, Qk, Ql, Qm, Qn, Qo, Qp, rb0, rb1, rb2, rb3, rb4, tf0, tf1, tf2, tf3, tf4, Heap.get_upd_ne, Heap.get_new_ne, Heap.get_new_at, overL_one, if_pos, stX_exactN, z7, z16, V9.g7, gw8, lW', hc, d1, d0, hss, wk, Nat.mul_one, Nat.zero_add, show ((0 : Int) == 0) = true from rfl]
              exact hQn2 _ _ _ (by omega) ⟨kk + 1, rfl, by omega, by simp only [at_put, at_args, Nat.reduceBEq, cond_true, cond_false, List.getElem?_cons_zero, List.getElem?_cons_succ, Option.getD_some, Nat.add_zero, Int.cast_ofNat_Int, z0], by simp only [at_put, at_args, Nat.reduceBEq, cond_true, cond_false, List.getElem?_cons_zero, List.getElem?_cons_succ, Option.getD_some, Nat.add_zero, Int.cast_ofNat_Int, z3], by simp only [at_put, at_args, Nat.reduceBEq, cond_true, cond_false, List.getElem?_cons_zero, List.getElem?_cons_succ, Option.getD_some, Nat.add_zero, Int.cast_ofNat_Int, z6], by simp only [at_put, at_args, Nat.reduceBEq, cond_true, cond_false, List.getElem?_cons_zero, List.getElem?_cons_succ, Option.getD_some, Nat.add_zero, Int.cast_ofNat_Int, z7], by simp only [at_put, at_args, Nat.reduceBEq, cond_true, cond_false, List.getElem?_cons_zero, List.getElem?_cons_succ, Option.getD_some, Nat.add_zero, Int.cast_ofNat_Int, z11], by simp only [at_put, at_args, Nat.reduceBEq, cond_true, cond_false, List.getElem?_cons_zero, List.getElem?_cons_succ, Option.getD_some, Nat.add_zero, Int.cast_ofNat_Int], V9⟩
            · obtain rfl : kk = 3 := by omega
              simp (disch := (first | omega | rfl | (simp only [Heap.nx_upd, Heap.nx_new]; omega))) only [↓reduceIte, reduceCtorEq, Za, Zb, Zc, Zd, Ze, Zf, Zg, Zh, Zi, Zj, Zk, Zl, Zm, Zn, Zo, Zp, Zq, Zr, Zs, Zt, Zu, Zv, gval, Zw, Zx, Zy, Zz, ZA, ZB, ZC, ZD, ZE, ZF, decide_eq_true_eq, ZG, ZH, ZI, ZJ, ZK, ZL, ZM, ZN, ZO, ZP, ZQ, ZR, ZS, Option.some.injEq, exists_eq_left', ZT, ZU, ZV, ZW, ZX, ZY, true_and, and_true, true_or, or_true, false_or, or_false, ite_true, ite_false, cond_true, cond_false, ZZ, Qa, if_true, if_false, decide_true, decide_false, Qb, Qc, Qd, Qe, Qf, Qg, Qh, Qi, Qj, Qk, Ql, Qm, Qn, Qo, Qp, rb0, rb1, rb2, rb3, rb4, tf0, tf1, tf2, tf3, tf4, Heap.get_upd_ne, Heap.get_new_ne, Heap.get_new_at, overL_one, if_pos, stX_exactN, z16]
              exact hQx2 _ _ _ (by simp) ⟨rfl, by simp only [at_put, at_args, Nat.reduceBEq, cond_true, cond_false, List.getElem?_cons_zero, List.getElem?_cons_succ, Option.getD_some, Nat.add_zero, Int.cast_ofNat_Int, z0], by simp only [at_put, at_args, Nat.reduceBEq, cond_true, cond_false, List.getElem?_cons_zero, List.getElem?_cons_succ, Option.getD_some, Nat.add_zero, Int.cast_ofNat_Int, z3], by simp only [at_put, at_args, Nat.reduceBEq, cond_true, cond_false, List.getElem?_cons_zero, List.getElem?_cons_succ, Option.getD_some, Nat.add_zero, Int.cast_ofNat_Int, z6], by simp only [at_put, at_args, Nat.reduceBEq, cond_true, cond_false, List.getElem?_cons_zero, List.getElem?_cons_succ, Option.getD_some, Nat.add_zero, Int.cast_ofNat_Int, z7], by simp only [at_put, at_args, Nat.reduceBEq, cond_true, cond_false, List.getElem?_cons_zero, List.getElem?_cons_succ, Option.getD_some, Nat.add_zero, Int.cast_ofNat_Int, z11], V8⟩
          · exact ⟨0, rfl, by omega, by simp only [at_put, at_args, Nat.reduceBEq, cond_true, cond_false, List.getElem?_cons_zero, List.getElem?_cons_succ, Option.getD_some, Nat.add_zero, Int.cast_ofNat_Int, z0], by simp only [at_put, at_args, Nat.reduceBEq, cond_true, cond_false, List.getElem?_cons_zero, List.getElem?_cons_succ, Option.getD_some, Nat.add_zero, Int.cast_ofNat_Int, z3], by simp only [at_put, at_args, Nat.reduceBEq, cond_true, cond_false, List.getElem?_cons_zero, List.getElem?_cons_succ, Option.getD_some, Nat.add_zero, Int.cast_ofNat_Int, z6], by simp only [at_put, at_args, Nat.reduceBEq, cond_true, cond_false, List.getElem?_cons_zero, List.getElem?_cons_succ, Option.getD_some, Nat.add_zero, Int.cast_ofNat_Int, z7], by simp only [at_put, at_args, Nat.reduceBEq, cond_true, cond_false, List.getElem?_cons_zero, List.getElem?_cons_succ, Option.getD_some, Nat.add_zero, Int.cast_ofNat_Int, z11], by simp only [at_put, at_args, Nat.reduceBEq, cond_true, cond_false, List.getElem?_cons_zero, List.getElem?_cons_succ, Option.getD_some, Nat.add_zero, Int.cast_ofNat_Int], V7⟩
          · rintro ex e h8 - ⟨rfl, z0, z3, z6, z7, z11, V8⟩
            have wi : wrapF .i64 ((i : Int) + 1) = ((i + 1 : Nat) : Int) := by rw [wrapI (by omega) (by omega)]; omega
            simp (disch := (first | omega | rfl | (simp only [Heap.nx_upd, Heap.nx_new]; omega))) only [↓reduceIte, reduceCtorEq, Za, Zb, Zc, Zd, Ze, Zf, Zg, Zh, Zi, Zj, Zk, Zl, Zm, Zn, Zo, Zp, Zq, Zr, Zs, Zt, Zu, Zv, gval, Zw, Zx, Zy, Zz, ZA, ZB, ZC, ZD, ZE, ZF, decide_eq_true_eq, ZG, ZH, ZI, ZJ, ZK, ZL, ZM, ZN, ZO, ZP, ZQ, ZR, ZS, Option.some.injEq, exists_eq_left', ZT, ZU, ZV, ZW, ZX, ZY, true_and, and_true, true_or, or_true, false_or, or_false, ite_true, ite_false, cond_true, cond_false, ZZ, Qa, if_true, if_false, decide_true, decide_false, Qb, Qc, Qd, Qe, Qf, Qg, Qh, Qi, Qj, Qk, Ql, Qm, Qn, Qo, Qp, rb0, rb1, rb2, rb3, rb4, tf0, tf1, tf2, tf3, tf4, Heap.get_upd_ne, Heap.get_new_ne, Heap.get_new_at, overL_one, if_pos, stX_exactN, z11, wi]
            exact hQn _ _ _ (by omega) ⟨i + 1, s', rfl, by omega, by simp only [at_put, at_args, Nat.reduceBEq, cond_true, cond_false, List.getElem?_cons_zero, List.getElem?_cons_succ, Option.getD_some, Nat.add_zero, Int.cast_ofNat_Int, z0], by simp only [at_put, at_args, Nat.reduceBEq, cond_true, cond_false, List.getElem?_cons_zero, List.getElem?_cons_succ, Option.getD_some, Nat.add_zero, Int.cast_ofNat_Int, z3], by simp only [at_put, at_args, Nat.reduceBEq, cond_true, cond_false, List.getElem?_cons_zero, List.getElem?_cons_succ, Option.getD_some, Nat.add_zero, Int.cast_ofNat_Int, z6], by simp only [at_put, at_args, Nat.reduceBEq, cond_true, cond_false, List.getElem?_cons_zero, List.getElem?_cons_succ, Option.getD_some, Nat.add_zero, Int.cast_ofNat_Int, z7], by simp only [at_put, at_args, Nat.reduceBEq, cond_true, cond_false, List.getElem?_cons_zero, List.getElem?_cons_succ, Option.getD_some, Nat.add_zero, Int.cast_ofNat_Int], V8⟩
      · by_cases hi2 : i < n
        · have c1 : (i : Int) < (n : Int) := by omega
          have c2 : ¬ (i : Int) < 100 := by omega
          simp only [↓reduceIte, reduceCtorEq, Za, Zb, Zc, Zd, Ze, Zf, Zg, Zh, Zi, Zj, Zk, Zl, Zm, Zn, Zo, Zp, Zq, Zr, Zs, Zt, Zu, Zv, gval, Zw, Zx, Zy, Zz, ZA, ZB, ZC, ZD, ZE, ZF, decide_eq_true_eq, ZG, ZH, ZI, ZJ, ZK, ZL, ZM, ZN, ZO, ZP, ZQ, ZR, ZS, Option.some.injEq, exists_eq_left', ZT, ZU, ZV, ZW, ZX, ZY, true_and, and_true, true_or, or_true, false_or, or_false, ite_true, ite_false, cond_true, cond_false, ZZ, Qa, if_true, if_false, decide_true, decide_false, Qb, Qc, Qd, Qe, Qf, Qg, Qh, Qi, Qj, Qk, Ql, Qm, Qn, Qo, Qp, rb0, rb1, rb2, rb3, rb4, tf0, tf1, tf2, tf3, tf4, e0, e11, c1, c2]
          exact hQx _ _ _ (by simp) ⟨rfl, V.t⟩
        · have c1 : ¬ (i : Int) < (n : Int) := by omega
          simp only [↓reduceIte, reduceCtorEq, Za, Zb, Zc, Zd, Ze, Zf, Zg, Zh, Zi, Zj, Zk, Zl, Zm, Zn, Zo, Zp, Zq, Zr, Zs, Zt, Zu, Zv, gval, Zw, Zx, Zy, Zz, ZA, ZB, ZC, ZD, ZE, ZF, decide_eq_true_eq, ZG, ZH, ZI, ZJ, ZK, ZL, ZM, ZN, ZO, ZP, ZQ, ZR, ZS, Option.some.injEq, exists_eq_left', ZT, ZU, ZV, ZW, ZX, ZY, true_and, and_true, true_or, or_true, false_or, or_false, ite_true, ite_false, cond_true, cond_false, ZZ, Qa, if_true, if_false, decide_true, decide_false, Qb, Qc, Qd, Qe, Qf, Qg, Qh, Qi, Qj, Qk, Ql, Qm, Qn, Qo, Qp, rb0, rb1, rb2, rb3, rb4, tf0, tf1, tf2, tf3, tf4, e0, e11, c1, runG_undef]
          exact hQx _ _ _ (by simp) ⟨rfl, V.t⟩
    · exact ⟨0, s, rfl, by omega, by simp only [at_put, at_args, Nat.reduceBEq, cond_true, cond_false, List.getElem?_cons_zero, List.getElem?_cons_succ, Option.getD_some, Nat.add_zero, Int.cast_ofNat_Int, e0], by simp only [at_put, at_args, Nat.reduceBEq, cond_true, cond_false, List.getElem?_cons_zero, List.getElem?_cons_succ, Option.getD_some, Nat.add_zero, Int.cast_ofNat_Int, e3], by simp only [at_put, at_args, Nat.reduceBEq, cond_true, cond_false, List.getElem?_cons_zero, List.getElem?_cons_succ, Option.getD_some, Nat.add_zero, Int.cast_ofNat_Int, e6], by simp only [at_put, at_args, Nat.reduceBEq, cond_true, cond_false, List.getElem?_cons_zero, List.getElem?_cons_succ, Option.getD_some, Nat.add_zero, Int.cast_ofNat_Int, e7], by simp only [at_put, at_args, Nat.reduceBEq, cond_true, cond_false, List.getElem?_cons_zero, List.getElem?_cons_succ, Option.getD_some, Nat.add_zero, Int.cast_ofNat_Int], V3⟩
    · rintro ex e h4 - ⟨rfl, t4⟩
      simp only [↓reduceIte, reduceCtorEq, Za, Zb, Zc, Zd, Ze, Zf, Zg, Zh, Zi, Zj, Zk, Zl, Zm, Zn, Zo, Zp, Zq, Zr, Zs, Zt, Zu, Zv, gval, Zw, Zx, Zy, Zz, ZA, ZB, ZC, ZD, ZE, ZF, decide_eq_true_eq, ZG, ZH, ZI, ZJ, ZK, ZL, ZM, ZN, ZO, ZP, ZQ, ZR, ZS, Option.some.injEq, exists_eq_left', ZT, ZU, ZV, ZW, ZX, ZY, true_and, and_true, true_or, or_true, false_or, or_false, ite_true, ite_false, cond_true, cond_false, ZZ, Qa, if_true, if_false, decide_true, decide_false, Qb, Qc, Qd, Qe, Qf, Qg, Qh, Qi, Qj, Qk, Ql, Qm, Qn, Qo, Qp, rb0, rb1, rb2, rb3, rb4, tf0, tf1, tf2, tf3, tf4]
      refine runC_of (aw_wf t4 ?_)
      simp only [↓reduceIte, reduceCtorEq, Za, Zb, Zc, Zd, Ze, Zf, Zg, Zh, Zi, Zj, Zk, Zl, Zm, Zn, Zo, Zp, Zq, Zr, Zs, Zt, Zu, Zv, gval, Zw, Zx, Zy, Zz, ZA, ZB, ZC, ZD, ZE, ZF, decide_eq_true_eq, ZG, ZH, ZI, ZJ, ZK, ZL, ZM, ZN, ZO, ZP, ZQ, ZR, ZS, Option.some.injEq, exists_eq_left', ZT, ZU, ZV, ZW, ZX, ZY, true_and, and_true, true_or, or_true, false_or, or_false, ite_true, ite_false, cond_true, cond_false, ZZ, Qa, if_true, if_false, decide_true, decide_false, Qb, Qc, Qd, Qe, Qf, Qg, Qh, Qi, Qj, Qk, Ql, Qm, Qn, Qo, Qp, rb0, rb1, rb2, rb3, rb4, tf0, tf1, tf2, tf3, tf4, hR]
end Go.Proofs.YtmadjdgipfdnkaaDoor
end
section
/- Pairs of 60 blocks, run once. No condition. -/
namespace Go.Proofs.YtmadjdgipfdnkaaDoor
open Go.AM
set_option maxRecDepth 100000 in
theorem pr60' (X : Blk) : PairX X 60 := ⟨fun fu d => by kernel_rfl, by kernel_rfl⟩
end Go.Proofs.YtmadjdgipfdnkaaDoor
end
section
/- From a walk behind the table's block and one more to the row. Conditions: as the rule says. -/
namespace Go.Proofs.YtmadjdgipfdnkaaDoor
open Go.AM
theorem h0_new (X : Blk) : listHeap [tabBlk .u8 tab, X] = H0.new X := by kernel_rfl
theorem doorX_wf {W : World} {sp : Special} (hsp : SpecOk Tryd.prog 1 sp) {f : FuncId} {args args' : List Value} {X : Blk} {s : AM.Stat} {cs : Array Value} {el : TypeId} {fr : Nat × Nat} (t1 : W.heap[0]? = some (.cells cs el fr)) (t2 : cs.size = 64) (t3 : ∀ i, i < 64 → cs[i]? = (tab.map (Value.int .u8))[i]?)
    (r3 : ∀ m, BRel m W s (some X)) (r4 : ∀ l1, s = .live l1 → roB (some X) = true ∧ l1.rw = false) (hw : WF Tryd.prog 1 sp f args (H0.new X) fun o _ => o = .ret (.bool true)) (ha : VRels (statMp [.live ⟨0, 0, 0, 64, 64, false⟩, s]) args args') :
    Calls Tryd.prog f args'.toArray W fun e W' => e = .returned (.bool true) ∧ Still W W' := by
  refine wf_list (ng := 1) (by kernel_rfl) hsp (l := [tabBlk .u8 tab, X]) (st := [.live ⟨0, 0, 0, 64, 64, false⟩, s]) rfl (fun i st b hs hb => ?_) (fun i l b hs hb => ?_) (fun g hg => ?_) (by rw [h0_new]; exact hw) ha
  · match i with
    | 0 => cases hs; cases hb; exact tab_rel (bs := tab) t1 t2 t3
    | 1 => cases hs; cases hb; exact r3 _
    | i + 2 => simp at hs
  · match i with
    | 0 => cases hs; cases hb; exact ⟨rfl, rfl⟩
    | 1 => cases hb; exact r4 l (by simpa using hs)
    | i + 2 => simp at hs
  · obtain rfl : g = 0 := by omega
    exact .inl ⟨_, rfl, rfl, rfl, rfl⟩
theorem door0_wf {W : World} {sp : Special} (hsp : SpecOk Tryd.prog 1 sp) {f : FuncId} {args args' : List Value} {cs : Array Value} {el : TypeId} {fr : Nat × Nat} (t1 : W.heap[0]? = some (.cells cs el fr)) (t2 : cs.size = 64) (t3 : ∀ i, i < 64 → cs[i]? = (tab.map (Value.int .u8))[i]?)
    (hw : WF Tryd.prog 1 sp f args H0 fun o _ => o = .ret (.bool true)) (ha : VRels (statMp [.live ⟨0, 0, 0, 64, 64, false⟩]) args args') :
    Calls Tryd.prog f args'.toArray W fun e W' => e = .returned (.bool true) ∧ Still W W' := by
  refine wf_list (ng := 1) (by kernel_rfl) hsp (l := [tabBlk .u8 tab]) (st := [.live ⟨0, 0, 0, 64, 64, false⟩]) rfl (fun i st b hs hb => ?_) (fun i l b hs hb => ?_) (fun g hg => ?_) hw ha
  · match i with
    | 0 => cases hs; cases hb; exact tab_rel (bs := tab) t1 t2 t3
    | i + 1 => simp at hs
  · match i with
    | 0 => cases hs; cases hb; exact ⟨rfl, rfl⟩
    | i + 1 => simp at hs
  · obtain rfl : g = 0 := by omega
    exact .inl ⟨_, rfl, rfl, rfl, rfl⟩
end Go.Proofs.YtmadjdgipfdnkaaDoor
end
section
/- Closed facts of this seat's program, each by itself. -/
namespace Go.Proofs.YtmadjdgipfdnkaaDoor
open Go.ChangeShapes Go.WideShapes Go.ChangeAt Go.RowKit
theorem Tryd.laidOut : laidOutB Tryd.prog = true := by kernel_rfl
theorem Tryd.mapsRowed : mapsRowed Tryd.prog = true := by kernel_rfl
theorem Tryd.plainKeys : (Rows.inodePutsRow.plainKeys == Tryd.prog.plainKeys) = true := by kernel_rfl
theorem Tryd.stopsHeard : Tryd.prog.stopsHeard = true := by kernel_rfl
theorem Tryd.mayEnter : Tryd.prog.mayEnter = true := by kernel_rfl
theorem Tryd.lifted : (Rows.inodePutsRow.lifted == Tryd.prog.liftsFinal) = true := by kernel_rfl
theorem Tryd.make : (Tryd.prog.make == some Rows.inodePutsRow.make) = true := by kernel_rfl
theorem Tryd.looks : false = Tryd.prog.looks [] := by kernel_rfl
end Go.Proofs.YtmadjdgipfdnkaaDoor
end
section
/- InodeFiles: whatever the deeds, the law gives true. (Its card: the table of math/bits is as the program's text lays it.) -/
namespace Go.Proofs.YtmadjdgipfdnkaaDoor
open Go.ChangeShapes Go.WideShapes Go.ChangeAt Go.RowKit Go.AM
theorem deed_fields : ∃ fs : Array Field, Tryd.prog.underlying 33 = some (.struct fs) ∧ ∀ i, i < 5 → ∃ f, fs[i]? = some f ∧ f.offset = i ∧ Tryd.prog.cellsOf f.type = 1 ∧ (if i = 4 then Tryd.prog.underlying f.type = some .string else Tryd.prog.underlying f.type = some (.int .i64)) := by
  refine ⟨#[⟨ "Kind", 3, 0, false, "", "", 0⟩, ⟨ "I", 3, 1, false, "", "", 8⟩, ⟨ "Off", 3, 2, false, "", "", 16⟩, ⟨ "N", 3, 3, false, "", "", 24⟩, ⟨ "S", 9, 4, false, "", "", 32⟩], by kernel_rfl, fun i hi => ?_⟩
  have c3 : Tryd.prog.cellsOf 3 = 1 := by kernel_rfl
  have c9 : Tryd.prog.cellsOf 9 = 1 := by kernel_rfl
  have u3 : Tryd.prog.underlying 3 = some (.int .i64) := by kernel_rfl
  have u9 : Tryd.prog.underlying 9 = some .string := by kernel_rfl
  have : i = 0 ∨ i = 1 ∨ i = 2 ∨ i = 3 ∨ i = 4 := by omega
  rcases this with rfl | rfl | rfl | rfl | rfl
  · exact ⟨_, rfl, rfl, c3, by rw [if_neg (by decide)]; exact u3⟩
  · exact ⟨_, rfl, rfl, c3, by rw [if_neg (by decide)]; exact u3⟩
  · exact ⟨_, rfl, rfl, c3, by rw [if_neg (by decide)]; exact u3⟩
  · exact ⟨_, rfl, rfl, c3, by rw [if_neg (by decide)]; exact u3⟩
  · exact ⟨_, rfl, rfl, c9, by rw [if_pos rfl]; exact u9⟩
set_option maxRecDepth 100000 in
theorem inodeFiles_calls {H : Type} {enc : TypeId × Value → H} {W : World} {base : Nat} {v0 : Value} {d0 : DataW H} {p0 : List MemPlace} (h0 : Value.okWide Tryd.prog W .any base 22 v0) (t0 : DataW.Trod enc Tryd.prog W 0 (fun _ => true) true 22 v0 d0 p0) (hL : laidMetH Tryd.prog Rows.inodeFilesRow.laid W) :
    Calls Tryd.prog 3 #[v0] W fun e W' => e = .returned (.bool true) ∧ Still W W' := by
  obtain ⟨tc, el, fr, w1, w2, w3⟩ := tab_laid hL
  have hcells : v0.cells.toList = [v0] := by
    obtain ⟨a, n, c, rfl⟩ := okWide_slice (e := 33) (by kernel_rfl) h0
    rfl
  obtain ⟨fuel, t0⟩ := t0
  rw [hcells] at t0
  obtain ⟨fs, he, hf⟩ := deed_fields
  obtain ⟨v, a, n, l, c, s, x, z1, zl, ⟨zm, zc⟩, rw, r1, r2, r3, r4⟩ := rows5_block 1 (e := 33) (by kernel_rfl) he (by kernel_rfl) hf t0
  cases z1
  exact doorX_wf sp15_ok (args := [.slice a n c]) (args' := [_]) (X := x) (s := s) w1 w2 w3 r3 r4 (files_walk pr60' (cp := c) zl rw r1 fun _ => rfl) (.cons _ _ _ _ (r2 _ rfl) .nil)

set_option maxRecDepth 100000 in
theorem inodeFiles_lifted (os : Os) (started : os.Started) (H : Type) (enc : TypeId × Value → H) :
    ReturnsInHanded {} Tryd.checked os 3 .any (fun w args => (Rows.inodeFilesSpec.pre enc Tryd.prog Tryd.f3 Rows.inodeFilesRow.domain false w args ∧ laidMetH Tryd.prog Rows.inodeFilesRow.laid w) ∧ sizedMet enc Tryd.prog Tryd.f3 (OpenSpec.ofChange Rows.inodeFilesSpec) false w args)
      (Rows.inodeFilesSpec.post enc Tryd.prog Tryd.f3 false true false false) := by
  refine returnsInHanded_of_change_and (C := Tryd.checked) (X := fun w _ => laidMetH Tryd.prog Rows.inodeFilesRow.laid w) (fun _ _ _ hh h => h.of_heap hh) Tryd.own started (by kernel_rfl) Tryd.func3
    (ChangeSpec.witness_shaped (enc := enc) (C := Tryd.checked) (os := os) (X := fun w _ => laidMetH Tryd.prog Rows.inodeFilesRow.laid w) false (World.laidAll Tryd.prog os Rows.inodeFilesRow.laid) #[.slice none 0 0] 8 (World.laidAll_os _ _ _)
      (World.shaped_of_ZipB (by kernel_rfl) (by kernel_rfl)) (by kernel_rfl) (by kernel_rfl) (by kernel_rfl)
      (by rw [MakeChecks.laidMetH_plain _ _ _ (by kernel_rfl)]; exact laidMet_laidAll _ (by kernel_rfl) (by kernel_rfl))) ?_
  intro W base args ds gs before hval0 hW hcnd _ hL _
  have hval : ∀ (j : Nat) t v, Tryd.f3.params[j]? = some t → args[j]? = some v → Value.okWide Tryd.prog W .any base t v := hval0
  have hW' := hW
  obtain ⟨p, q, hA0, hV, rfl, hfz, hnd⟩ := hW
  have hA1 : DataW.TrodAll enc Tryd.prog W 0 (fun _ => true) true Tryd.f3.params.toList args.toList ds p := hA0
  have hA := hA1
  rw [Tryd.params3] at hA hval
  obtain ⟨v0, d0, rfl, rfl, h0⟩ := trodAll_one hA
  obtain ⟨rfl, rfl⟩ := trodVars_none hV
  refine (inodeFiles_calls (hval 0 22 v0 rfl rfl) h0 hL).mono fun e W' ⟨he, hw⟩ => ?_
  subst he
  simp only [List.append_nil] at hW' ⊢
  exact ⟨_, rfl, post_true (bt := 4) Tryd.kids Tryd.full (by rw [Tryd.params3]; decide) (by kernel_rfl) (by kernel_rfl) rfl rfl hW' hA1 rfl rfl rfl hw⟩

end Go.Proofs.YtmadjdgipfdnkaaDoor
end
section
/- InodeFiles: whatever the deeds, the law gives true. (Its card: the table of math/bits is as the program's text lays it.) -/
namespace Go.Proofs.YtmadjdgipfdnkaaDoor
open Go.ChangeShapes Go.WideShapes Go.ChangeAt Go.RowKit Go.AM
theorem inodeFiles_inPlace : (Rows.inodeFilesRow.inPlace == Tryd.prog.inPlace 3) = true := by kernel_rfl
theorem inodeFiles_unfollowed : (Rows.inodeFilesRow.unfollowed == Tryd.prog.unfollowed 3) = true := by kernel_rfl
theorem inodeFiles_recurses : (Rows.inodeFilesRow.recurses == Tryd.prog.recurses 3) = true := by kernel_rfl
theorem inodeFiles_named : (Rows.inodeFilesRow.named == Tryd.prog.varsNamed 3) = true := by kernel_rfl
theorem inodeFiles_joined : joinedFacts Tryd.prog 3 Tryd.f3 Rows.inodeFilesSpec Rows.inodeFilesRow = true := by
  simp only [joinedFacts, Bool.and_eq_true]
  exact ⟨⟨⟨⟨⟨⟨⟨⟨⟨⟨⟨⟨⟨⟨⟨⟨⟨⟨⟨⟨⟨⟨⟨⟨⟨⟨⟨⟨⟨⟨⟨by kernel_rfl, Tryd.laidOut⟩, Tryd.mapsRowed⟩, by kernel_rfl⟩, by kernel_rfl⟩, by kernel_rfl⟩, by kernel_rfl⟩, by kernel_rfl⟩, by kernel_rfl⟩, inodeFiles_inPlace⟩, inodeFiles_unfollowed⟩, inodeFiles_recurses⟩, inodeFiles_named⟩, by kernel_rfl⟩, by kernel_rfl⟩, by kernel_rfl⟩, by kernel_rfl⟩, by kernel_rfl⟩, by kernel_rfl⟩, by kernel_rfl⟩, by kernel_rfl⟩, by kernel_rfl⟩, Tryd.plainKeys⟩, by kernel_rfl⟩, Tryd.stopsHeard⟩, Tryd.mayEnter⟩, Tryd.lifted⟩, Tryd.make⟩, by kernel_rfl⟩, by kernel_rfl⟩, by kernel_rfl⟩, by kernel_rfl⟩
theorem inodeFiles_holds : Rows.InodeFilesSaid :=
  OpenClaim.holds_of_wide 3 Tryd.f3 rfl rfl rfl rfl rfl rfl rfl ⟨rfl, rfl, rfl, rfl, rfl⟩ rfl rfl rfl rfl rfl (by kernel_rfl) Tryd.func3 inodeFiles_joined
    (of_decide_eq_true (by kernel_rfl)) (by unfold Func.isWrapper; first | (rw [if_pos (by decide +kernel)]; kernel_rfl) | (rw [if_neg (by decide +kernel)]; exact ⟨rfl, rfl⟩))
    (fun os started H enc _ => inodeFiles_lifted os started H enc)
end Go.Proofs.YtmadjdgipfdnkaaDoor
end
