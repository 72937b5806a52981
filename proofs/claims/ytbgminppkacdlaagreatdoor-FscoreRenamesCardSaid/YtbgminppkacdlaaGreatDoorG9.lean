/- Lemmas of the claim: the machine of the proof and the walks of the program. Conditions: as each says. -/
import Derived.Test.YtbgminppkacdlaaGreatDoorG8
import Derived.Test.YtbgminppkacdlaaGreatDoorG7
import Derived.Test.YtbgminppkacdlaaGreatDoorG4
import Derived.Test.YtbgminppkacdlaaGreatDoorRows
import Derived.Test.YtbgminppkacdlaaGreatDoorCards
import Derived.Test.YtbgminppkacdlaaGreatDoorTie
import Derived.ProofKit
import GoSem.ClaimSeven
section
/- File systems of a root and one file: links, what is let go. No condition on the program. -/
namespace Go.Proofs.YtbgminppkacdlaaGreatDoor
open Go.AM
open Nat renaming reduceBEq → Za, reduceEqDiff → Zb, reduceAdd → Zc, reduceSub → Zd, reduceMul → Ze, reduceLT → Zf, reduceLeDiff → Zg, reduceDiv → Zh, reduceMod → Zi, reducePow → Zj
open Int renaming reduceAdd → Zk, reduceSub → Zl, reduceMul → Zm, reduceLT → Zn, reduceLE → Zo, reduceEq → Zp, reduceNe → Zq, reduceNeg → Zr, reduceToNat → Zs, reduceDiv → Zt, reduceMod → Zu, reducePow → Zv, cast_ofNat_Int → Zw
set_option linter.unusedSimpArgs false
variable {s : FS} {F : Nat → Prop}
def FS.lnk (s : FS) (i : Nat) (v : Int) : FS := s.putI i (updN (s.ino i) 1 v)
theorem lnk_ino {i : Nat} {v : Int} (j k : Nat) : (s.lnk i v).ino j k = if j = i ∧ k = 1 then v else s.ino j k := by
  show (if j = i then updN (s.ino i) 1 v else s.ino j) k = _
  by_cases e : j = i
  · subst e
    rw [if_pos rfl]
    unfold updN
    by_cases c : k = 1
    · rw [if_pos c, if_pos ⟨rfl, c⟩]
    · rw [if_neg c, if_neg fun q => c q.2]
  · rw [if_neg e, if_neg fun q => e q.1]
theorem lnk_size {i : Nat} {v : Int} (j : Nat) : (s.lnk i v).size j = s.size j := by
  unfold FS.size
  rw [lnk_ino, if_neg (by omega)]
theorem lnk_blk {i : Nat} {v : Int} (j k : Nat) : (s.lnk i v).blk j k = s.blk j k := by
  unfold FS.blk
  rw [lnk_ino, if_neg (by omega)]
theorem lnk_txt {i : Nat} {v : Int} (j : Nat) : (s.lnk i v).txt j = s.txt j := by
  refine txt_same (lnk_size j) fun p _ => ?_
  unfold FS.byteAt
  rw [lnk_ino, if_neg (by omega)]; rfl
theorem lnk_inv (I : s.Inv F) {i : Nat} {v : Int} (hv : 0 ≤ v ∧ v < 9223372036854775808) : (s.lnk i v).Inv F := by
  refine ⟨⟨I.wf.n1, I.wf.n2, I.wf.a, I.wf.b, fun j m => ?_, I.wf.dat⟩, I.low, fun j h => ⟨?_, fun m hm => ?_⟩, fun j m h hm => ?_, fun j m j' m' h h' hm hm' e => ?_, fun j p h h1 h2 => ?_⟩
  · rw [lnk_ino]
    split
    · exact hv
    · exact I.wf.ino j m
  · rw [lnk_ino, if_neg (by omega)]; exact (I.ino j h).sz
  · rw [lnk_size] at hm
    rw [lnk_ino, if_neg (by omega)]; exact (I.ino j h).bl m hm
  · rw [lnk_size] at hm
    rw [lnk_blk]; exact I.bit j m h hm
  · rw [lnk_size] at hm hm'
    rw [lnk_blk, lnk_blk] at e
    exact I.sep j m j' m' h h' hm hm' e
  · rw [lnk_size] at h1 h2
    rw [lnk_blk]; exact I.tail j p h h1 h2
theorem Dr.lnk {i j : Nat} {v : Int} {l : List (List UInt8 × Nat)} (d : Dr s F j l) : Dr (s.lnk i v) F j l := ⟨d.f, d.lt, by rw [lnk_ino, if_neg (by omega)]; exact d.kind, (lnk_txt j).trans d.txt, d.ok⟩
theorem free_inv (I : s.Inv F) {i : Nat} (hi : F i) (hi32 : i < 32) : (s.free i).Inv (fun j => F j ∧ j ≠ i) ∧ (∀ j, j ≠ i → (s.free i).ino j = s.ino j) ∧ (∀ j, F j → j ≠ i → (s.free i).txt j = s.txt j) ∧ (s.free i).a = markW s.a i false ∧ (s.free i).n = s.n ∧ ∀ k, (s.free i).ino i k = 0 := by
  have hle : popc 64 s.b + (needN 0 - needN (s.size i)) ≤ s.n := by have := popc_inv I; rw [show needN 0 = 0 from rfl]; omega
  obtain ⟨b1, b2, b3, b4, b5⟩ := resize_inv I (i := i) (sz := 0) hi (by omega) hle
  have hin : ∀ j, j ≠ i → (s.free i).ino j = (s.resize i 0).ino j := fun j hj => by
    show (if j = i then _ else (s.resize i 0).ino j) = _
    rw [if_neg hj]
  have hri : ∀ j, j ≠ i → (s.resize i 0).ino j = s.ino j := fun j hj => by
    show (if j = i then _ else s.ino j) = _
    rw [if_neg hj]
  have hz : ∀ k, (s.free i).ino i k = 0 := fun k => by
    show (if i = i then (fun _ => (0 : Int)) else (s.resize i 0).ino i) k = 0
    rw [if_pos rfl]
  have sj : ∀ j, j ≠ i → (s.free i).size j = (s.resize i 0).size j := fun j h => by unfold FS.size; rw [hin j h]
  have bj : ∀ j m, j ≠ i → (s.free i).blk j m = (s.resize i 0).blk j m := fun j m h => by unfold FS.blk; rw [hin j h]
  refine ⟨⟨⟨b1.wf.n1, b1.wf.n2, ?_, b1.wf.b, fun j m => ?_, b1.wf.dat⟩, b1.low, fun j h => ⟨?_, fun m hm => ?_⟩, fun j m h hm => ?_, fun j m j' m' h h' hm hm' e => ?_, fun j p h h1 h2 => ?_⟩, fun j h => (hin j h).trans (hri j h), fun j hF h => ?_, rfl, rfl, hz⟩
  · show markW s.a i false < _
    exact markW_lt (n := 32) (on := false) I.wf.a hi32 (by omega)
  · by_cases e : j = i
    · rw [e, hz]; omega
    · rw [hin j e]; exact b1.wf.ino j m
  · rw [hin j h.2]; exact (b1.ino j h.1).sz
  · rw [sj j h.2] at hm
    rw [hin j h.2]; exact (b1.ino j h.1).bl m hm
  · rw [sj j h.2] at hm
    rw [bj j m h.2]; exact b1.bit j m h.1 hm
  · rw [sj j h.2] at hm
    rw [sj j' h'.2] at hm'
    rw [bj j m h.2, bj j' m' h'.2] at e
    exact b1.sep j m j' m' h.1 h'.1 hm hm' e
  · rw [sj j h.2] at h1 h2
    rw [bj j _ h.2]; exact b1.tail j p h.1 h1 h2
  · refine (txt_same (sj j h) fun p _ => ?_).trans (txt_same (b4 j h) fun p hp => b5 j p hF h hp)
    unfold FS.byteAt
    rw [hin j h]; rfl
structure RF (s : FS) (l : List (List UInt8 × Nat)) (lk : Nat) (t : List UInt8) (p : Nat) : Prop where
  I : s.Inv fun i => i ≤ 1
  D : Dr s (fun i => i ≤ 1) 0 l
  kind : s.ino 1 0 = 1
  lk : s.ino 1 1 = lk
  tx : s.txt 1 = t
  a : s.a = 3
  n : s.n = 60
  pop : popc 64 s.b ≤ p
  fr : ∀ j, 1 < j → s.ino j 0 = 0
  uq : ∀ e ∈ l, e.2 = 1
structure RE (s : FS) : Prop where
  I : s.Inv fun i => i = 0
  D : Dr s (fun i => i = 0) 0 []
  a : s.a = 1
  n : s.n = 60
  fr : ∀ j, 0 < j → s.ino j 0 = 0
theorem RF.size {l : List (List UInt8 × Nat)} {lk p : Nat} {t : List UInt8} (r : RF s l lk t p) : s.size 1 = t.length := by rw [← txt_len, r.tx]
theorem RF.links {l : List (List UInt8 × Nat)} {lk v p : Nat} {t : List UInt8} (r : RF s l lk t p) (hv : v < 9223372036854775808) : RF (s.lnk 1 v) l v t p := by
  refine ⟨lnk_inv r.I ⟨by omega, by omega⟩, r.D.lnk, ?_, ?_, (lnk_txt 1).trans r.tx, r.a, r.n, r.pop, fun j hj => ?_, r.uq⟩
  · rw [lnk_ino, if_neg (by omega)]; exact r.kind
  · rw [lnk_ino, if_pos ⟨rfl, rfl⟩]
  · rw [lnk_ino, if_neg (by omega)]; exact r.fr j hj
theorem RF.root {s2 : FS} {l l2 : List (List UInt8 × Nat)} {lk p : Nat} {t : List UInt8} (r : RF s l lk t p) (dw : DW s s2 (fun i => i ≤ 1) 0 (enc l2)) (ok : ∀ e ∈ l2, EntOk e) (hl : l2.length ≤ 3) (uq : ∀ e ∈ l2, e.2 = 1) : RF s2 l2 lk t (p + 1) := by
  refine ⟨dw.inv, r.D.anew dw ok, (dw.kind 1).trans r.kind, (dw.lnk 1).trans r.lk, (dw.oth 1 (by omega) (by omega)).trans r.tx, dw.a.trans r.a, dw.n.trans r.n, ?_, fun j hj => (dw.kind j).trans (r.fr j hj), uq⟩
  have h1 := dw.pop
  have h2 := r.pop
  rw [enc_len ok] at h1
  have h3 : needN (9 * l2.length) ≤ 1 := by unfold needN; omega
  omega
theorem RF.write {l : List (List UInt8 × Nat)} {lk p : Nat} {t : List UInt8} (r : RF s l lk [] p) (ht : t.length ≤ 192) (hp : p ≤ 30) : RF (s.write 1 0 t) l lk t (p + 6) := by
  have hs : s.size 1 = 0 := r.size
  have h6 : needN t.length ≤ 6 := by unfold needN; omega
  have h0 : needN 0 = 0 := rfl
  have hroom : s.size 1 < t.length → popc 64 s.b + (needN t.length - needN (s.size 1)) ≤ s.n := fun _ => by have := r.pop; rw [r.n]; omega
  obtain ⟨a1, a2, a3, a4, a5⟩ := write_inv r.I (i := 1) (off := 0) (l := t) (by omega) (by omega) (by rw [Nat.zero_add]; exact hroom)
  rw [Nat.zero_add] at a2 a4
  have wk := fun j => write_kind (s := s) (i := 1) (l := t) j
  refine ⟨a1, ⟨by omega, by omega, (wk 0).1.trans r.D.kind, (txt_same (a3 0 (by omega)) fun q hq => a5 0 q (by omega) (by omega) hq).trans r.D.txt, r.D.ok⟩, (wk 1).1.trans r.kind, (wk 1).2.2.2.trans r.lk, txt_ext (by rw [a2]; omega) fun q hq => ?_, (wk 1).2.2.1.trans r.a, (wk 1).2.1.trans r.n, ?_, fun j hj => (wk j).1.trans (r.fr j hj), r.uq⟩
  · rw [a2] at hq
    have hq2 : q < t.length := by omega
    rw [a4 q (by omega), if_pos ⟨by omega, by omega⟩, Nat.sub_zero, List.getElem?_eq_getElem hq2]; rfl
  · have := write_pop r.I.wf r.I.low (i := 1) (l := t) hroom
    have h2 := r.pop
    omega
theorem RF.free {lk p : Nat} {t : List UInt8} (r : RF s [] lk t p) : RE (s.free 1) := by
  obtain ⟨I, hj, tx, ha, hn, hz⟩ := free_inv r.I (i := 1) (by omega) (by omega)
  refine ⟨I.congr fun i => ⟨fun q => by omega, fun q => by omega⟩, ⟨rfl, by omega, ?_, ?_, fun e he => by cases he⟩, ?_, hn.trans r.n, fun j h => ?_⟩
  · rw [hj 0 (by omega)]; exact r.D.kind
  · exact (tx 0 (by omega) (by omega)).trans r.D.txt
  · rw [ha, r.a]; decide
  · by_cases e : j = 1
    · rw [e]; exact hz 0
    · rw [hj j e]; exact r.fr j (by omega)
theorem RE.alloc (r : RE s) (hp : popc 64 s.b ≤ 12) : lowZ s.a = 1 ∧ RF (s.alloc 1) [] 0 [] 12 := by
  have hz : lowZ s.a = 1 := by rw [r.a]; decide
  obtain ⟨I4, z4, zj, zb, a4, b4⟩ := alloc_inv r.I (k := 1) (by omega) (by rw [hz]; omega) (by rw [hz]; omega)
  rw [hz] at I4 z4 zj zb a4
  have hin : ∀ j k, (s.alloc 1).ino j k = if j = 1 then inoK 1 k else s.ino j k := fun j k => by
    show (if j = lowZ s.a then inoK 1 else s.ino j) k = _
    rw [hz]
    split <;> rfl
  refine ⟨hz, I4.congr fun i => ⟨fun q => by omega, fun q => by omega⟩, ⟨by omega, by omega, ?_, ?_, fun e he => by cases he⟩, ?_, ?_, ?_, ?_, r.n, by rw [b4]; exact hp, fun j hj => ?_, fun e he => by cases he⟩
  · rw [hin, if_neg (by omega)]; exact r.D.kind
  · exact (txt_same (zj 0 (by omega)) fun p _ => zb 0 p (by omega)).trans r.D.txt
  · rw [hin, if_pos rfl]; rfl
  · rw [hin, if_pos rfl]; rfl
  · exact List.eq_nil_of_length_eq_zero (by rw [txt_len]; exact z4)
  · rw [a4, r.a]; decide
  · rw [hin, if_neg (by omega)]; exact r.fr j (by omega)
end Go.Proofs.YtbgminppkacdlaaGreatDoor
end
section
/- File systems of a root and one file: the root's block. No condition on the program. -/
namespace Go.Proofs.YtbgminppkacdlaaGreatDoor
open Go.AM
open Nat renaming reduceBEq → Za, reduceEqDiff → Zb, reduceAdd → Zc, reduceSub → Zd, reduceMul → Ze, reduceLT → Zf, reduceLeDiff → Zg, reduceDiv → Zh, reduceMod → Zi, reducePow → Zj
open Int renaming reduceAdd → Zk, reduceSub → Zl, reduceMul → Zm, reduceLT → Zn, reduceLE → Zo, reduceEq → Zp, reduceNe → Zq, reduceNeg → Zr, reduceToNat → Zs, reduceDiv → Zt, reduceMod → Zu, reducePow → Zv, cast_ofNat_Int → Zw
set_option linter.unusedSimpArgs false
variable {s : FS} {F : Nat → Prop}
theorem rz_same {i sz : Nat} (h : needN sz = needN (s.size i)) : s.rz i sz = ⟨s.b, s.dat, s.ino i⟩ := by
  unfold FS.rz
  rw [h, Nat.sub_self]; rfl
theorem rz_one {i sz : Nat} (h0 : needN (s.size i) = 0) (h1 : needN sz = 1) : s.rz i sz = ⟨markW s.b (lowZ s.b) true, (Rz.grow1 0 ⟨s.b, s.dat, s.ino i⟩).dat, updN (s.ino i) 3 (lowZ s.b)⟩ := by
  unfold FS.rz
  rw [h0, h1]; rfl
theorem rz_zero {i : Nat} (h1 : needN (s.size i) = 1) : s.rz i 0 = ⟨markW s.b (s.blk i 0) false, s.dat, updN (s.ino i) 3 0⟩ := by
  unfold FS.rz
  rw [h1]; rfl
theorem wr_nil {i : Nat} : (s.write i 0 []).b = s.b ∧ (s.write i 0 []).ino = s.ino := by
  show (s.room i (0 + 0)).b = s.b ∧ (s.room i (0 + 0)).ino = s.ino
  unfold FS.room
  rw [if_neg (by omega)]
  exact ⟨rfl, rfl⟩
structure RB (s : FS) (l : List (List UInt8 × Nat)) : Prop where
  no : l = [] → s.b.testBit 12 = false
  at12 : l ≠ [] → s.blk 0 0 = 12
theorem mark_off {b : Nat} (hb : b < 18446744073709551616) {k : Nat} (p : Nat) : (markW b k false).testBit p = (b.testBit p && !decide (k = p)) := by
  show (without b (bitN k)).testBit p = _
  exact testBit_drop hb k p
theorem mark_on {b k : Nat} (p : Nat) : (markW b k true).testBit p = (b.testBit p || decide (k = p)) := testBit_with _ _ _
theorem low12 (I : s.Inv F) (h : s.b.testBit 12 = false) : lowZ s.b = 12 := by
  have hs := bitN_small I.wf.b I.wf.n2
  have h1 := lowZ_ge hs I.low
  obtain ⟨_, _, h3⟩ := lowZ_spec hs
  rcases Nat.lt_or_ge 12 (lowZ s.b) with c | c
  · rw [h3 12 c] at h; cases h
  · omega
theorem root_add (I : s.Inv F) {s2 : FS} {l2 : List (List UInt8 × Nat)} (h0 : s.size 0 = 0) (dw : DW s s2 F 0 (enc l2)) (ok : ∀ e ∈ l2, EntOk e) (hl : 1 ≤ l2.length ∧ l2.length ≤ 3) (hb : s.b.testBit 12 = false) : s2.b = markW s.b 12 true ∧ s2.blk 0 0 = 12 := by
  have hT : (enc l2).length = 9 * l2.length := enc_len ok
  have hn1 : needN (enc l2).length = 1 := by rw [hT]; unfold needN; omega
  have hz := low12 I hb
  rcases dw.sh with ⟨h, _⟩ | h
  · rw [h] at hT; simp at hT; omega
  · obtain ⟨T, hTT⟩ : ∃ T, enc l2 = T := ⟨_, rfl⟩
    rw [hTT] at h hT hn1
    have n0 : needN (s.size 0) = 0 := by rw [h0]; rfl
    have hr : s.room 0 (0 + T.length) = s.resize 0 T.length := by
      unfold FS.room
      rw [Nat.zero_add, if_pos (by omega)]
    have b1 : (s.write 0 0 T).b = markW s.b 12 true := by
      show (s.room 0 (0 + T.length)).b = _
      rw [hr]
      show (s.rz 0 T.length).b = _
      rw [rz_one n0 hn1, hz]
    have i1 : ∀ k, (s.write 0 0 T).ino 0 k = updN (updN (s.ino 0) 3 12) 2 (T.length : Nat) k := fun k => by
      show (s.room 0 (0 + T.length)).ino 0 k = _
      rw [hr]
      show (if 0 = 0 then updN (s.rz 0 T.length).x 2 (T.length : Nat) else s.ino 0) k = _
      rw [if_pos rfl, rz_one n0 hn1, hz]; rfl
    have z1 : needN T.length = needN ((s.write 0 0 T).size 0) := by
      unfold FS.size
      rw [i1]
      show _ = needN ((T.length : Nat) : Int).toNat
      rw [Int.toNat_natCast]
    subst h
    refine ⟨?_, ?_⟩
    · show ((s.write 0 0 T).rz 0 T.length).b = _
      rw [rz_same z1]; exact b1
    · unfold FS.blk
      show ((if 0 = 0 then updN ((s.write 0 0 T).rz 0 T.length).x 2 (T.length : Nat) else (s.write 0 0 T).ino 0) (3 + 0)).toNat = 12
      rw [if_pos rfl, rz_same z1]
      show ((s.write 0 0 T).ino 0 3).toNat = 12
      rw [i1]; rfl
theorem root_gone (_I : s.Inv F) {s2 : FS} (h0 : needN (s.size 0) = 1) (dw : DW s s2 F 0 (enc [])) (hk : s.blk 0 0 = 12) : s2.b = markW s.b 12 false := by
  rcases dw.sh with ⟨_, h⟩ | h
  · subst h
    show (s.rz 0 0).b = _
    rw [rz_zero h0, hk]
  · subst h
    obtain ⟨w1, w2⟩ := wr_nil (s := s) (i := 0)
    have h0' : needN ((s.write 0 0 []).size 0) = 1 := by unfold FS.size; rw [w2]; exact h0
    show ((s.write 0 0 []).rz 0 0).b = _
    rw [rz_zero h0', w1]
    unfold FS.blk
    rw [w2]
    show markW s.b (s.blk 0 0) false = _
    rw [hk]
theorem mark_back {b : Nat} (hb : b < 18446744073709551616) (h : b.testBit 12 = true) : markW (markW b 12 false) 12 true = b := by
  apply Nat.eq_of_testBit_eq
  intro p
  rw [mark_on, mark_off hb]
  by_cases e : 12 = p
  · subst e; rw [h]; rfl
  · simp [e]
end Go.Proofs.YtbgminppkacdlaaGreatDoor
end
section
/- The file system's core: its small functions. Conditions: the disk lies as the rules name. -/
namespace Go.Proofs.YtbgminppkacdlaaGreatDoor
open Go.AM
open Nat renaming reduceBEq → Za, reduceEqDiff → Zb, reduceAdd → Zc, reduceSub → Zd, reduceMul → Ze, reduceLT → Zf, reduceLeDiff → Zg, reduceDiv → Zh, reduceMod → Zi, reducePow → Zj
open Int renaming reduceAdd → Zk, reduceSub → Zl, reduceMul → Zm, reduceLT → Zn, reduceLE → Zo, reduceEq → Zp, reduceNe → Zq, reduceNeg → Zr, reduceToNat → Zs, reduceDiv → Zt, reduceMod → Zu, reducePow → Zv, cast_ofNat_Int → Zw
set_option linter.unusedSimpArgs false
variable {h : Heap} {R : Out → Heap → Prop} {bd bl : Nat} {s : FS} {F : Nat → Prop}
def stopV (e : Int) : Value := .iface 86 (.agg #[.int .i64 e])
theorem ifcStop (v : Value) : effIface Tryz.prog 86 v = ret (.iface 86 v) := by kernel_rfl
set_option maxRecDepth 100000 in
theorem need_wf {e : Int} (h0 : e = 0 → R (.ret (.tuple #[])) h) (h1 : e ≠ 0 → R (.pan (stopV e)) h) : WF Tryz.prog 2 sp16 31 [.int .i64 e] h R := by
  refine wf_fn (fn := Tryz.f31) rfl rfl (by kernel_rfl) rfl ?_
  by_cases c : e = 0
  · simp only [↓reduceIte, reduceCtorEq, Za, Zb, Zc, Zd, Ze, Zf, Zg, Zh, Zi, Zj, Zk, Zl, Zm, Zn, Zo, Zp, Zq, Zr, Zs, Zt, Zu, Zv, gval, Zw, rb0, rb1, rb2, rb3, rb4, tf0, tf1, tf2, tf3, Yk, Tryz.f31, c]
    exact h0 c
  · simp only [↓reduceIte, reduceCtorEq, Za, Zb, Zc, Zd, Ze, Zf, Zg, Zh, Zi, Zj, Zk, Zl, Zm, Zn, Zo, Zp, Zq, Zr, Zs, Zt, Zu, Zv, gval, Zw, rb0, rb1, rb2, rb3, rb4, tf0, tf1, tf2, tf3, Yk, Tryz.f31, c, ifcStop, q_panic, q_panicI, fnQ_pan]
    exact h1 c
set_option maxRecDepth 100000 in
theorem refuse_wf {b : Bool} {e : Int} (he : e ≠ 0) (h0 : b = false → R (.ret (.tuple #[])) h) (h1 : b = true → R (.pan (stopV e)) h) : WF Tryz.prog 2 sp16 25 [.bool b, .int .i64 e] h R := by
  refine wf_fn (fn := Tryz.f25) rfl rfl (by kernel_rfl) rfl ?_
  cases b
  · simp only [↓reduceIte, reduceCtorEq, Za, Zb, Zc, Zd, Ze, Zf, Zg, Zh, Zi, Zj, Zk, Zl, Zm, Zn, Zo, Zp, Zq, Zr, Zs, Zt, Zu, Zv, gval, Zw, rb0, rb1, rb2, rb3, rb4, tf0, tf1, tf2, tf3, Yk, Tryz.f25]
    exact h0 rfl
  · simp only [↓reduceIte, reduceCtorEq, Za, Zb, Zc, Zd, Ze, Zf, Zg, Zh, Zi, Zj, Zk, Zl, Zm, Zn, Zo, Zp, Zq, Zr, Zs, Zt, Zu, Zv, gval, Zw, rb0, rb1, rb2, rb3, rb4, tf0, tf1, tf2, tf3, Yk, Tryz.f25]
    refine runC_of (need_wf (fun c => absurd c he) fun _ => ?_)
    simp only [↓reduceIte, reduceCtorEq, Za, Zb, Zc, Zd, Ze, Zf, Zg, Zh, Zi, Zj, Zk, Zl, Zm, Zn, Zo, Zp, Zq, Zr, Zs, Zt, Zu, Zv, gval, Zw, rb0, rb1, rb2, rb3, rb4, tf0, tf1, tf2, tf3, Yk, afterC_pan, fnQ_pan]
    exact h1 rfl
set_option maxRecDepth 100000 in
theorem fpar_wf (f : Fs h bd bl s) (I : s.Inv F) {ent : Nat → Option (List (List UInt8 × Nat))} (hd : ∀ k l, ent k = some l → Dr s F k l ∧ l.length ≤ 21) (hn : ∀ k, ent k = none → k < 32 → s.ino k 0 ≠ 2) {p : List UInt8}
    (h0 : (parP ent p).2.2 = 0 → ∀ h', Fs h' bd bl s → h.nx ≤ h'.nx → (∀ b', b' < h.nx → b' ≠ bd → h'.get b' = h.get b') → R (.ret (.tuple #[.int .i64 ((parP ent p).1 : Nat), .string (mkS (parP ent p).2.1)])) h')
    (h1 : (parP ent p).2.2 ≠ 0 → ∀ h', Fs h' bd bl s → h.nx ≤ h'.nx → (∀ b', b' < h.nx → b' ≠ bd → h'.get b' = h.get b') → R (.pan (stopV (parP ent p).2.2)) h') :
    WF Tryz.prog 2 sp16 22 [.iface 22 (.pointer (some ⟨bd, 0, none⟩)), .string (mkS p)] h R := by
  refine wf_fn (fn := Tryz.f22) rfl rfl (by kernel_rfl) rfl ?_
  simp only [↓reduceIte, reduceCtorEq, Za, Zb, Zc, Zd, Ze, Zf, Zg, Zh, Zi, Zj, Zk, Zl, Zm, Zn, Zo, Zp, Zq, Zr, Zs, Zt, Zu, Zv, gval, Zw, rb0, rb1, rb2, rb3, rb4, tf0, tf1, tf2, tf3, Yk, Tryz.f22]
  refine runC_of (parent_wf f I hd hn fun h2 f2 n2 k2 => ?_)
  simp only [↓reduceIte, reduceCtorEq, Za, Zb, Zc, Zd, Ze, Zf, Zg, Zh, Zi, Zj, Zk, Zl, Zm, Zn, Zo, Zp, Zq, Zr, Zs, Zt, Zu, Zv, gval, Zw, rb0, rb1, rb2, rb3, rb4, tf0, tf1, tf2, tf3, Yk]
  refine runC_of (need_wf (fun c => ?_) fun c => ?_)
  · simp only [↓reduceIte, reduceCtorEq, Za, Zb, Zc, Zd, Ze, Zf, Zg, Zh, Zi, Zj, Zk, Zl, Zm, Zn, Zo, Zp, Zq, Zr, Zs, Zt, Zu, Zv, gval, Zw, rb0, rb1, rb2, rb3, rb4, tf0, tf1, tf2, tf3, Yk]
    exact h0 c h2 f2 n2 k2
  · simp only [↓reduceIte, reduceCtorEq, Za, Zb, Zc, Zd, Ze, Zf, Zg, Zh, Zi, Zj, Zk, Zl, Zm, Zn, Zo, Zp, Zq, Zr, Zs, Zt, Zu, Zv, gval, Zw, rb0, rb1, rb2, rb3, rb4, tf0, tf1, tf2, tf3, Yk, afterC_pan, fnQ_pan]
    exact h1 c h2 f2 n2 k2
set_option maxRecDepth 100000 in
theorem fwalk_wf (f : Fs h bd bl s) (I : s.Inv F) {ent : Nat → Option (List (List UInt8 × Nat))} (hd : ∀ k l, ent k = some l → Dr s F k l ∧ l.length ≤ 21) (hn : ∀ k, ent k = none → k < 32 → s.ino k 0 ≠ 2) {p : List UInt8}
    (h0 : (walkP ent p).2 = 0 → ∀ h', Fs h' bd bl s → h.nx ≤ h'.nx → (∀ b', b' < h.nx → b' ≠ bd → h'.get b' = h.get b') → R (.ret (.int .i64 ((walkP ent p).1 : Nat))) h')
    (h1 : (walkP ent p).2 ≠ 0 → ∀ h', Fs h' bd bl s → h.nx ≤ h'.nx → (∀ b', b' < h.nx → b' ≠ bd → h'.get b' = h.get b') → R (.pan (stopV (walkP ent p).2)) h') :
    WF Tryz.prog 2 sp16 30 [.iface 22 (.pointer (some ⟨bd, 0, none⟩)), .string (mkS p)] h R := by
  refine wf_fn (fn := Tryz.f30) rfl rfl (by kernel_rfl) rfl ?_
  simp only [↓reduceIte, reduceCtorEq, Za, Zb, Zc, Zd, Ze, Zf, Zg, Zh, Zi, Zj, Zk, Zl, Zm, Zn, Zo, Zp, Zq, Zr, Zs, Zt, Zu, Zv, gval, Zw, rb0, rb1, rb2, rb3, rb4, tf0, tf1, tf2, tf3, Yk, Tryz.f30]
  refine runC_of (walk28_wf f I hd hn fun h2 f2 n2 k2 => ?_)
  simp only [↓reduceIte, reduceCtorEq, Za, Zb, Zc, Zd, Ze, Zf, Zg, Zh, Zi, Zj, Zk, Zl, Zm, Zn, Zo, Zp, Zq, Zr, Zs, Zt, Zu, Zv, gval, Zw, rb0, rb1, rb2, rb3, rb4, tf0, tf1, tf2, tf3, Yk]
  refine runC_of (need_wf (fun c => ?_) fun c => ?_)
  · simp only [↓reduceIte, reduceCtorEq, Za, Zb, Zc, Zd, Ze, Zf, Zg, Zh, Zi, Zj, Zk, Zl, Zm, Zn, Zo, Zp, Zq, Zr, Zs, Zt, Zu, Zv, gval, Zw, rb0, rb1, rb2, rb3, rb4, tf0, tf1, tf2, tf3, Yk]
    exact h0 c h2 f2 n2 k2
  · simp only [↓reduceIte, reduceCtorEq, Za, Zb, Zc, Zd, Ze, Zf, Zg, Zh, Zi, Zj, Zk, Zl, Zm, Zn, Zo, Zp, Zq, Zr, Zs, Zt, Zu, Zv, gval, Zw, rb0, rb1, rb2, rb3, rb4, tf0, tf1, tf2, tf3, Yk, afterC_pan, fnQ_pan]
    exact h1 c h2 f2 n2 k2
set_option maxRecDepth 100000 in
theorem kind_wf (f : Fs h bd bl s) {i : Nat} (hi : i < 32) (hR : ∀ h', Fs h' bd bl s → h.nx ≤ h'.nx → (∀ b', b' < h.nx → b' ≠ bd → h'.get b' = h.get b') → R (.ret (.int .i64 (s.ino i 0))) h') :
    WF Tryz.prog 2 sp16 26 [.iface 22 (.pointer (some ⟨bd, 0, none⟩)), .int .i64 i] h R := by
  refine wf_fn (fn := Tryz.f26) rfl rfl (by kernel_rfl) rfl ?_
  have q1 := f.d.bd_lt
  have q2 := f.d.bl_lt
  simp only [↓reduceIte, reduceCtorEq, Za, Zb, Zc, Zd, Ze, Zf, Zg, Zh, Zi, Zj, Zk, Zl, Zm, Zn, Zo, Zp, Zq, Zr, Zs, Zt, Zu, Zv, gval, Zw, rb0, rb1, rb2, rb3, rb4, tf0, tf1, tf2, tf3, Yk, Tryz.f26]
  refine runC_of (figet_any pl16 f (i := (i : Int)) (fun c => absurd ⟨by omega, by omega⟩ c) fun k ek _ h1 f1 n1 k1 => ?_)
  obtain rfl : i = k := by omega
  have hwl : (i64s (row9 (s.ino i))).length = 9 := by rw [List.length_map, row9_len]
  have hx0 : (i64s (row9 (s.ino i)))[0]? = some (.int .i64 (s.ino i 0)) := by rw [List.getElem?_map, row9_get (by omega)]; rfl
  simp (disch := (first | omega | rfl | (simp only [Yn]; omega))) only [↓reduceIte, reduceCtorEq, Za, Zb, Zc, Zd, Ze, Zf, Zg, Zh, Zi, Zj, Zk, Zl, Zm, Zn, Zo, Zp, Zq, Zr, Zs, Zt, Zu, Zv, gval, Zw, rb0, rb1, rb2, rb3, rb4, tf0, tf1, tf2, tf3, Yk, Yh, overL_one, if_pos, stX_exactN, hwl]
  rw [overL_nine rfl hwl, Heap.upd_new]
  obtain ⟨h2, hh2⟩ : ∃ h2, h1.new (cellsB (i64s (row9 (s.ino i))) .exact) = h2 := ⟨_, rfl⟩
  have n2 : h2.nx = h1.nx + 1 := by rw [← hh2, Heap.nx_new]
  have g2 : h2.get h1.nx = some (cellsB (i64s (row9 (s.ino i))) .exact) := by rw [← hh2, Heap.get_new_same]
  have k2 : ∀ b', b' < h1.nx → h2.get b' = h1.get b' := fun b' hb' => by rw [← hh2, Heap.get_new_ne _ _ (by omega)]
  rw [hh2]
  refine runC_of (need_wf (fun _ => ?_) fun c => absurd rfl c)
  simp (disch := (first | omega | rfl | (simp only [Yn]; omega))) only [↓reduceIte, reduceCtorEq, Za, Zb, Zc, Zd, Ze, Zf, Zg, Zh, Zi, Zj, Zk, Zl, Zm, Zn, Zo, Zp, Zq, Zr, Zs, Zt, Zu, Zv, gval, Zw, rb0, rb1, rb2, rb3, rb4, tf0, tf1, tf2, tf3, Yk, Yh, overL_one, if_pos, stX_exactN, g2, hx0, hwl]
  exact hR h2 (f1.keep (by omega) (k2 _ (by omega)) (k2 _ (by omega))) (by omega) fun b' w1 w2 => by rw [k2 _ (by omega)]; exact k1 b' w1 w2
end Go.Proofs.YtbgminppkacdlaaGreatDoor
end
section
/- The file system's core: links, room. Conditions: the disk lies as the rules name. -/
namespace Go.Proofs.YtbgminppkacdlaaGreatDoor
open Go.AM
open Nat renaming reduceBEq → Za, reduceEqDiff → Zb, reduceAdd → Zc, reduceSub → Zd, reduceMul → Ze, reduceLT → Zf, reduceLeDiff → Zg, reduceDiv → Zh, reduceMod → Zi, reducePow → Zj
open Int renaming reduceAdd → Zk, reduceSub → Zl, reduceMul → Zm, reduceLT → Zn, reduceLE → Zo, reduceEq → Zp, reduceNe → Zq, reduceNeg → Zr, reduceToNat → Zs, reduceDiv → Zt, reduceMod → Zu, reducePow → Zv, cast_ofNat_Int → Zw
set_option linter.unusedSimpArgs false
variable {h : Heap} {R : Out → Heap → Prop} {bd bl : Nat} {s : FS} {F : Nat → Prop}
theorem row9_set {x : Nat → Int} {v : Int} : (i64s (row9 x)).set 1 (.int .i64 v) = i64s (row9 (updN x 1 v)) := by
  apply List.ext_getElem?
  intro j
  rw [List.getElem?_set]
  by_cases c : 1 = j
  · subst c
    rw [if_pos rfl, if_pos (by rw [List.length_map, row9_len]; omega), List.getElem?_map, row9_get (by omega)]; rfl
  · rw [if_neg c, List.getElem?_map, List.getElem?_map]
    by_cases h9 : j < 9
    · rw [row9_get h9, row9_get h9]
      show some (Value.int .i64 (x j)) = some (Value.int .i64 (if j = 1 then v else x j))
      rw [if_neg (by omega)]
    · rw [List.getElem?_eq_none (by rw [row9_len]; omega), List.getElem?_eq_none (by rw [row9_len]; omega)]
set_option maxRecDepth 100000 in
set_option maxHeartbeats 1000000 in
theorem links_wf (f : Fs h bd bl s) {i : Nat} (hi : i < 32) {b v : Int} (hv : wrapF .i64 (s.ino i 1 + b) = v) (hv2 : 0 ≤ v ∧ v < 9223372036854775808)
    (hR : ∀ h', Fs h' bd bl (s.lnk i v) → h.nx ≤ h'.nx → (∀ b', b' < h.nx → b' ≠ bd → b' ≠ bl → h'.get b' = h.get b') → R (.ret (.int .i64 v)) h') :
    WF Tryz.prog 2 sp16 33 [.iface 22 (.pointer (some ⟨bd, 0, none⟩)), .int .i64 i, .int .i64 b] h R := by
  refine wf_fn (fn := Tryz.f33) rfl rfl (by kernel_rfl) rfl ?_
  have q1 := f.d.bd_lt
  have q2 := f.d.bl_lt
  simp only [↓reduceIte, reduceCtorEq, Za, Zb, Zc, Zd, Ze, Zf, Zg, Zh, Zi, Zj, Zk, Zl, Zm, Zn, Zo, Zp, Zq, Zr, Zs, Zt, Zu, Zv, gval, Zw, rb0, rb1, rb2, rb3, rb4, tf0, tf1, tf2, tf3, Yk, Tryz.f33]
  refine runC_of (figet_any pl16 f (i := (i : Int)) (fun c => absurd ⟨by omega, by omega⟩ c) fun k ek _ h1 f1 n1 k1 => ?_)
  obtain rfl : i = k := by omega
  have hwl : (i64s (row9 (s.ino i))).length = 9 := by rw [List.length_map, row9_len]
  have hx1 : (i64s (row9 (s.ino i)))[1]? = some (.int .i64 (s.ino i 1)) := by rw [List.getElem?_map, row9_get (by omega)]; rfl
  simp (disch := (first | omega | rfl | (simp only [Yn]; omega))) only [↓reduceIte, reduceCtorEq, Za, Zb, Zc, Zd, Ze, Zf, Zg, Zh, Zi, Zj, Zk, Zl, Zm, Zn, Zo, Zp, Zq, Zr, Zs, Zt, Zu, Zv, gval, Zw, rb0, rb1, rb2, rb3, rb4, tf0, tf1, tf2, tf3, Yk, Yh, overL_one, if_pos, stX_exactN, hwl]
  rw [overL_nine rfl hwl, Heap.upd_new]
  obtain ⟨h2, hh2⟩ : ∃ h2, h1.new (cellsB (i64s (row9 (s.ino i))) .exact) = h2 := ⟨_, rfl⟩
  have n2 : h2.nx = h1.nx + 1 := by rw [← hh2, Heap.nx_new]
  have g2 : h2.get h1.nx = some (cellsB (i64s (row9 (s.ino i))) .exact) := by rw [← hh2, Heap.get_new_same]
  have k2 : ∀ b', b' < h1.nx → h2.get b' = h1.get b' := fun b' hb' => by rw [← hh2, Heap.get_new_ne _ _ (by omega)]
  rw [hh2]
  refine runC_of (need_wf (fun _ => ?_) fun c => absurd rfl c)
  simp (disch := (first | omega | rfl | (simp only [Yn]; omega))) only [↓reduceIte, reduceCtorEq, Za, Zb, Zc, Zd, Ze, Zf, Zg, Zh, Zi, Zj, Zk, Zl, Zm, Zn, Zo, Zp, Zq, Zr, Zs, Zt, Zu, Zv, gval, Zw, rb0, rb1, rb2, rb3, rb4, tf0, tf1, tf2, tf3, Yk, Yh, overL_one, if_pos, stX_exactN, g2, hx1, hwl, hv, row9_set]
  obtain ⟨h3, hh3⟩ : ∃ h3, h2.upd h1.nx (cellsB (i64s (row9 (updN (s.ino i) 1 v))) .exact) = h3 := ⟨_, rfl⟩
  have n3 : h3.nx = h2.nx := by rw [← hh3, Heap.nx_upd]
  have g3 : h3.get h1.nx = some (cellsB (i64s (row9 (updN (s.ino i) 1 v))) .exact) := by rw [← hh3, Heap.get_upd_same]
  have k3 : ∀ b', b' ≠ h1.nx → h3.get b' = h2.get b' := fun b' hb' => by rw [← hh3, Heap.get_upd_ne _ _ hb']
  have hwl3 : (i64s (row9 (updN (s.ino i) 1 v))).length = 9 := by rw [List.length_map, row9_len]
  have hx3 : (i64s (row9 (updN (s.ino i) 1 v)))[1]? = some (.int .i64 v) := by rw [List.getElem?_map, row9_get (by omega)]; rfl
  have f3 : Fs h3 bd bl s := f1.keep (by omega) (by rw [k3 _ (by omega), k2 _ (by omega)]) (by rw [k3 _ (by omega), k2 _ (by omega)])
  have ht9 : List.take 9 (i64s (row9 (updN (s.ino i) 1 v))) = i64s (row9 (updN (s.ino i) 1 v)) := List.take_of_length_le (by omega)
  simp (disch := (first | omega | rfl | (simp only [Yn]; omega))) only [↓reduceIte, reduceCtorEq, Za, Zb, Zc, Zd, Ze, Zf, Zg, Zh, Zi, Zj, Zk, Zl, Zm, Zn, Zo, Zp, Zq, Zr, Zs, Zt, Zu, Zv, gval, Zw, rb0, rb1, rb2, rb3, rb4, tf0, tf1, tf2, tf3, Yk, Yh, overL_one, if_pos, stX_exactN, hwl3, ht9, hh3]
  refine runC_of (fiput_spec pl16 f3 hi (x := updN (s.ino i) 1 v) (fun j => ?_) fun h4 n4 f4 k4 => ?_)
  · show 0 ≤ (if j = 1 then v else s.ino i j) ∧ (if j = 1 then v else s.ino i j) < _
    split
    · exact hv2
    · exact f.wf.ino i j
  simp only [↓reduceIte, reduceCtorEq, Za, Zb, Zc, Zd, Ze, Zf, Zg, Zh, Zi, Zj, Zk, Zl, Zm, Zn, Zo, Zp, Zq, Zr, Zs, Zt, Zu, Zv, gval, Zw, rb0, rb1, rb2, rb3, rb4, tf0, tf1, tf2, tf3, Yk]
  refine runC_of (need_wf (fun _ => ?_) fun c => absurd rfl c)
  have g4 := (k4 h1.nx (by omega) (by omega) (by omega)).trans g3
  simp (disch := (first | omega | rfl | (simp only [Yn]; omega))) only [↓reduceIte, reduceCtorEq, Za, Zb, Zc, Zd, Ze, Zf, Zg, Zh, Zi, Zj, Zk, Zl, Zm, Zn, Zo, Zp, Zq, Zr, Zs, Zt, Zu, Zv, gval, Zw, rb0, rb1, rb2, rb3, rb4, tf0, tf1, tf2, tf3, Yk, Yh, overL_one, if_pos, stX_exactN, g4, hwl3, hx3]
  exact hR h4 f4 (by omega) fun b' w1 w2 w3 => by rw [k4 _ (by omega) w2 w3, k3 _ (by omega), k2 _ (by omega)]; exact k1 b' w1 w2
end Go.Proofs.YtbgminppkacdlaaGreatDoor
end
section
/- The file system's core: room, a new inode. Conditions: the disk lies as the rules name. -/
namespace Go.Proofs.YtbgminppkacdlaaGreatDoor
open Go.AM
open Nat renaming reduceBEq → Za, reduceEqDiff → Zb, reduceAdd → Zc, reduceSub → Zd, reduceMul → Ze, reduceLT → Zf, reduceLeDiff → Zg, reduceDiv → Zh, reduceMod → Zi, reducePow → Zj
open Int renaming reduceAdd → Zk, reduceSub → Zl, reduceMul → Zm, reduceLT → Zn, reduceLE → Zo, reduceEq → Zp, reduceNe → Zq, reduceNeg → Zr, reduceToNat → Zs, reduceDiv → Zt, reduceMod → Zu, reducePow → Zv, cast_ofNat_Int → Zw
set_option linter.unusedSimpArgs false
variable {h : Heap} {R : Out → Heap → Prop} {bd bl : Nat} {s : FS} {F : Nat → Prop}
set_option maxRecDepth 100000 in
set_option maxHeartbeats 1000000 in
theorem room_wf (f : Fs h bd bl s) {k : Nat} {l : List (List UInt8 × Nat)} (D : Dr s F k l) (hl : l.length ≤ 20) (hp : popc 64 s.b < s.n)
    (hR : ∀ h', Fs h' bd bl s → h.nx ≤ h'.nx → (∀ b', b' < h.nx → b' ≠ bd → h'.get b' = h.get b') → R (.ret (.bool true)) h') :
    WF Tryz.prog 2 sp16 44 [.iface 22 (.pointer (some ⟨bd, 0, none⟩)), .int .i64 k] h R := by
  refine wf_fn (fn := Tryz.f44) rfl rfl (by kernel_rfl) rfl ?_
  have q1 := f.d.bd_lt
  have q2 := f.d.bl_lt
  have hk := D.lt
  have hz : s.ino k 2 = ((9 * l.length : Nat) : Int) := by
    have h1 := D.size
    unfold FS.size at h1
    have h2 := (f.wf.ino k 2).1
    omega
  simp only [↓reduceIte, reduceCtorEq, Za, Zb, Zc, Zd, Ze, Zf, Zg, Zh, Zi, Zj, Zk, Zl, Zm, Zn, Zo, Zp, Zq, Zr, Zs, Zt, Zu, Zv, gval, Zw, rb0, rb1, rb2, rb3, rb4, tf0, tf1, tf2, tf3, Yk, Tryz.f44]
  refine runC_of (figet_any pl16 f (i := (k : Int)) (fun c => absurd ⟨by omega, by omega⟩ c) fun k' ek _ h1 f1 n1 k1 => ?_)
  obtain rfl : k = k' := by omega
  have hwl : (i64s (row9 (s.ino k))).length = 9 := by rw [List.length_map, row9_len]
  have hx2 : (i64s (row9 (s.ino k)))[2]? = some (.int .i64 ((9 * l.length : Nat) : Int)) := by rw [List.getElem?_map, row9_get (by omega), hz]; rfl
  simp (disch := (first | omega | rfl | (simp only [Yn]; omega))) only [↓reduceIte, reduceCtorEq, Za, Zb, Zc, Zd, Ze, Zf, Zg, Zh, Zi, Zj, Zk, Zl, Zm, Zn, Zo, Zp, Zq, Zr, Zs, Zt, Zu, Zv, gval, Zw, rb0, rb1, rb2, rb3, rb4, tf0, tf1, tf2, tf3, Yk, Yh, overL_one, if_pos, stX_exactN, hwl]
  rw [overL_nine rfl hwl, Heap.upd_new]
  obtain ⟨h2, hh2⟩ : ∃ h2, h1.new (cellsB (i64s (row9 (s.ino k))) .exact) = h2 := ⟨_, rfl⟩
  have n2 : h2.nx = h1.nx + 1 := by rw [← hh2, Heap.nx_new]
  have g2 : h2.get h1.nx = some (cellsB (i64s (row9 (s.ino k))) .exact) := by rw [← hh2, Heap.get_new_same]
  have k2 : ∀ b', b' < h1.nx → h2.get b' = h1.get b' := fun b' hb' => by rw [← hh2, Heap.get_new_ne _ _ (by omega)]
  rw [hh2]
  refine runC_of (need_wf (fun _ => ?_) fun c => absurd rfl c)
  simp only [↓reduceIte, reduceCtorEq, Za, Zb, Zc, Zd, Ze, Zf, Zg, Zh, Zi, Zj, Zk, Zl, Zm, Zn, Zo, Zp, Zq, Zr, Zs, Zt, Zu, Zv, gval, Zw, rb0, rb1, rb2, rb3, rb4, tf0, tf1, tf2, tf3, Yk]
  refine runC_of (fleft_spec pl16 (f1.keep (h' := h2) (by omega) (k2 _ (by omega)) (k2 _ (by omega))) fun h3 f3 n3 k3 => ?_)
  have g3 := (k3 h1.nx (by omega) (by omega)).trans g2
  have w9 : wrapF .i64 (((9 * l.length : Nat) : Int) + 9) = ((9 * l.length + 9 : Nat) : Int) := by rw [wrapI (by omega) (by omega)]; omega
  have c1 : ¬ (192 : Int) < ((9 * l.length + 9 : Nat) : Int) := by omega
  have c2 : (0 : Int) < (s.n : Int) - (popc 64 s.b : Int) := by omega
  simp (disch := (first | omega | rfl | (simp only [Yn]; omega))) only [↓reduceIte, reduceCtorEq, Za, Zb, Zc, Zd, Ze, Zf, Zg, Zh, Zi, Zj, Zk, Zl, Zm, Zn, Zo, Zp, Zq, Zr, Zs, Zt, Zu, Zv, gval, Zw, rb0, rb1, rb2, rb3, rb4, tf0, tf1, tf2, tf3, Yk, Yh, overL_one, if_pos, stX_exactN, g3, hx2, hwl, w9, c1, c2, runG_undef]
  exact hR h3 f3 (by omega) fun b' w1 w2 => by rw [k3 _ (by omega) w2, k2 _ (by omega)]; exact k1 b' w1 w2
def entR (l : List (List UInt8 × Nat)) (k : Nat) : Option (List (List UInt8 × Nat)) := if k = 0 then some l else none
theorem RE.ent (r : RE s) (k : Nat) (l : List (List UInt8 × Nat)) (h : entR [] k = some l) : Dr s (fun i => i = 0) k l ∧ l.length ≤ 21 := by
  unfold entR at h
  split at h
  · rename_i e
    cases Option.some.inj h
    rw [e]; exact ⟨r.D, by simp⟩
  · cases h
theorem RE.no (r : RE s) (k : Nat) (h : entR [] k = none) (_ : k < 32) : s.ino k 0 ≠ 2 := by
  unfold entR at h
  split at h
  · cases h
  · rename_i e
    rw [r.fr k (by omega)]; decide
theorem RF.ent {l : List (List UInt8 × Nat)} {lk p : Nat} {t : List UInt8} (r : RF s l lk t p) (hl : l.length ≤ 3) (k : Nat) (l2 : List (List UInt8 × Nat)) (h : entR l k = some l2) : Dr s (fun i => i ≤ 1) k l2 ∧ l2.length ≤ 21 := by
  unfold entR at h
  split at h
  · rename_i e
    cases Option.some.inj h
    rw [e]; exact ⟨r.D, by omega⟩
  · cases h
theorem RF.no {l : List (List UInt8 × Nat)} {lk p : Nat} {t : List UInt8} (r : RF s l lk t p) (k : Nat) (h : entR l k = none) (_ : k < 32) : s.ino k 0 ≠ 2 := by
  unfold entR at h
  split at h
  · cases h
  · rename_i e
    by_cases c : k = 1
    · rw [c, r.kind]; decide
    · rw [r.fr k (by omega)]; decide
set_option maxRecDepth 100000 in
set_option maxHeartbeats 1000000 in
theorem newino_wf (ht : h.get 1 = some (tabBlk .u8 tab)) (f : Fs h bd bl s) (hz : 1 < bd ∧ 1 < bl) (r : RE s) (hp : popc 64 s.b ≤ 12) (hb12 : s.b.testBit 12 = false) {nm : List UInt8} (hn : NmP nm)
    (hR : ∀ s2 h', RF s2 [(nm, 1)] 1 [] 13 → s2.blk 0 0 = 12 → Fs h' bd bl s2 → h.nx ≤ h'.nx → (∀ b', b' < h.nx → b' ≠ bd → b' ≠ bl → h'.get b' = h.get b') → R (.ret (.int .i64 1)) h') :
    WF Tryz.prog 2 sp16 24 [.iface 22 (.pointer (some ⟨bd, 0, none⟩)), .int .i64 0, .string (mkS nm), .int .i64 1] h R := by
  refine wf_fn (fn := Tryz.f24) rfl rfl (by kernel_rfl) rfl ?_
  have q1 := f.d.bd_lt
  have q2 := f.d.bl_lt
  simp only [↓reduceIte, reduceCtorEq, Za, Zb, Zc, Zd, Ze, Zf, Zg, Zh, Zi, Zj, Zk, Zl, Zm, Zn, Zo, Zp, Zq, Zr, Zs, Zt, Zu, Zv, gval, Zw, rb0, rb1, rb2, rb3, rb4, tf0, tf1, tf2, tf3, Yk, Tryz.f24]
  refine runC_of (fleft_spec pl16 f fun h1 f1 n1 k1 => ?_)
  have c1 : ¬ (32 : Int) - ((popc 64 s.a : Nat) : Int) = 0 := by rw [r.a]; decide
  simp only [↓reduceIte, reduceCtorEq, Za, Zb, Zc, Zd, Ze, Zf, Zg, Zh, Zi, Zj, Zk, Zl, Zm, Zn, Zo, Zp, Zq, Zr, Zs, Zt, Zu, Zv, gval, Zw, rb0, rb1, rb2, rb3, rb4, tf0, tf1, tf2, tf3, Yk, c1]
  refine runC_of (room_wf f1 r.D (by simp) (by rw [r.n]; omega) fun h2 f2 n2 k2 => ?_)
  simp only [↓reduceIte, reduceCtorEq, Za, Zb, Zc, Zd, Ze, Zf, Zg, Zh, Zi, Zj, Zk, Zl, Zm, Zn, Zo, Zp, Zq, Zr, Zs, Zt, Zu, Zv, gval, Zw, rb0, rb1, rb2, rb3, rb4, tf0, tf1, tf2, tf3, Yk]
  refine runC_of (refuse_wf (by decide) (fun _ => ?_) fun c => absurd c (by decide))
  obtain ⟨hl1, r1⟩ := r.alloc hp
  have t2 := (k2 1 (by omega) (by omega)).trans ((k1 1 (by omega) (by omega)).trans ht)
  simp only [↓reduceIte, reduceCtorEq, Za, Zb, Zc, Zd, Ze, Zf, Zg, Zh, Zi, Zj, Zk, Zl, Zm, Zn, Zo, Zp, Zq, Zr, Zs, Zt, Zu, Zv, gval, Zw, rb0, rb1, rb2, rb3, rb4, tf0, tf1, tf2, tf3, Yk]
  refine runC_of (falloc_spec pl16 t2 f2 hz (k := 1) (by omega) (fun q => absurd (by rw [hl1]; omega) q) fun _ h3 f3 n3 k3 => ?_)
  rw [hl1]
  simp only [↓reduceIte, reduceCtorEq, Za, Zb, Zc, Zd, Ze, Zf, Zg, Zh, Zi, Zj, Zk, Zl, Zm, Zn, Zo, Zp, Zq, Zr, Zs, Zt, Zu, Zv, gval, Zw, rb0, rb1, rb2, rb3, rb4, tf0, tf1, tf2, tf3, Yk]
  refine runC_of (need_wf (fun _ => ?_) fun c => absurd rfl c)
  have t3 := (k3 1 (by omega) (by omega) (by omega)).trans t2
  simp only [↓reduceIte, reduceCtorEq, Za, Zb, Zc, Zd, Ze, Zf, Zg, Zh, Zi, Zj, Zk, Zl, Zm, Zn, Zo, Zp, Zq, Zr, Zs, Zt, Zu, Zv, gval, Zw, rb0, rb1, rb2, rb3, rb4, tf0, tf1, tf2, tf3, Yk]
  refine runC_of (add_wf t3 f3 hz r1.I r1.D (by simp) (nm := nm) (tn := 1) (fun q => ?_) (fun _ q => ?_) (fun _ _ q => ?_) fun t et _ _ _ _ s4 h4 dw f4 n4 k4 => ?_)
  · exact absurd q (fun q => by
      rcases q with q | q | q
      · exact q hn
      · omega
      · omega)
  · obtain ⟨e, he, _⟩ := q
    cases he
  · exfalso
    rcases q with q | q
    · simp at q
    · rw [r1.n] at q
      have := r1.pop
      simp at q
      unfold needN at q; omega
  · obtain rfl : t = 1 := by omega
    have ok4 : ∀ e ∈ ([] : List (List UInt8 × Nat)) ++ [(nm, 1)], EntOk e := fun e he => by
      have : e = (nm, 1) := by simpa using he
      rw [this]
      have hc := hn.2.2
      unfold chk at hc
      refine ⟨?_, ?_, by show 1 < 256; omega⟩
      · show nm.length ≤ 8
        by_cases q8 : 8 < nm.length
        · rw [if_pos q8] at hc; exact absurd hc (by decide)
        · omega
      · intro hm
        have hm : (0 : UInt8) ∈ nm := hm
        by_cases q8 : 8 < nm.length
        · rw [if_pos q8] at hc; exact absurd hc (by decide)
        · rw [if_neg q8, if_pos hm] at hc; exact absurd hc (by decide)
    have r4 : RF s4 [(nm, 1)] 0 [] 13 := r1.root dw ok4 (by simp) fun e he => by
      have : e = (nm, 1) := by simpa using he
      rw [this]
    simp only [↓reduceIte, reduceCtorEq, Za, Zb, Zc, Zd, Ze, Zf, Zg, Zh, Zi, Zj, Zk, Zl, Zm, Zn, Zo, Zp, Zq, Zr, Zs, Zt, Zu, Zv, gval, Zw, rb0, rb1, rb2, rb3, rb4, tf0, tf1, tf2, tf3, Yk]
    refine runC_of (need_wf (fun _ => ?_) fun c => absurd rfl c)
    simp only [↓reduceIte, reduceCtorEq, Za, Zb, Zc, Zd, Ze, Zf, Zg, Zh, Zi, Zj, Zk, Zl, Zm, Zn, Zo, Zp, Zq, Zr, Zs, Zt, Zu, Zv, gval, Zw, rb0, rb1, rb2, rb3, rb4, tf0, tf1, tf2, tf3, Yk]
    refine runC_of (links_wf f4 (i := 1) (by omega) (b := 1) (v := 1) (by rw [r4.lk]; decide) (by omega) fun h5 f5 n5 k5 => ?_)
    simp only [↓reduceIte, reduceCtorEq, Za, Zb, Zc, Zd, Ze, Zf, Zg, Zh, Zi, Zj, Zk, Zl, Zm, Zn, Zo, Zp, Zq, Zr, Zs, Zt, Zu, Zv, gval, Zw, rb0, rb1, rb2, rb3, rb4, tf0, tf1, tf2, tf3, Yk]
    have hk4 := (root_add r1.I (by rw [r1.D.size]; rfl) dw ok4 (by simp) hb12).2
    exact hR _ h5 (r4.links (v := 1) (by omega)) ((lnk_blk 0 0).trans hk4) f5 (by omega) fun b' w1 w2 w3 => by rw [k5 _ (by omega) w2 w3, k4 _ (by omega) w2 w3, k3 _ (by omega) w2 w3, k2 _ (by omega) w2, k1 _ w1 w2]
end Go.Proofs.YtbgminppkacdlaaGreatDoor
end
section
/- The file system's core: try. Conditions: as the rule says. -/
namespace Go.Proofs.YtbgminppkacdlaaGreatDoor
open Go.AM
open Nat renaming reduceBEq → Za, reduceEqDiff → Zb, reduceAdd → Zc, reduceSub → Zd, reduceMul → Ze, reduceLT → Zf, reduceLeDiff → Zg, reduceDiv → Zh, reduceMod → Zi, reducePow → Zj
open Int renaming reduceAdd → Zk, reduceSub → Zl, reduceMul → Zm, reduceLT → Zn, reduceLE → Zo, reduceEq → Zp, reduceNe → Zq, reduceNeg → Zr, reduceToNat → Zs, reduceDiv → Zt, reduceMod → Zu, reducePow → Zv, cast_ofNat_Int → Zw
set_option linter.unusedSimpArgs false
variable {h : Heap} {R : Out → Heap → Prop} {bd bl : Nat} {s : FS} {F : Nat → Prop}
theorem neqNil (x : Operand) (v : Value) (g : Nat → Option Blk) : effBin Tryz.prog .neq 20 x (.const v) .nilIface .nilIface g = ret (.bool false) := by
  cases x <;> kernel_rfl
theorem assStop (e : Int) : effAssert Tryz.prog (.iface 86 (.agg #[.int .i64 e])) 86 true = ret (.tuple #[.agg #[.int .i64 e], .bool true]) := by kernel_rfl
def TryD (R : Out → Heap → Prop) (p : Nat) (o : Out) (h2 : Heap) : Prop := h2.get p = some (cellsB [.int .i64 0] .exact) ∧ p < h2.nx ∧ match o with
  | .ret _ => ∀ h3, h2.nx ≤ h3.nx → (∀ b, b < h2.nx → b ≠ p → h3.get b = h2.get b) → R (.ret (.int .i64 0)) h3
  | .pan v => ∃ e : Int, v = stopV e ∧ ∀ h3, h2.nx ≤ h3.nx → (∀ b, b < h2.nx → b ≠ p → h3.get b = h2.get b) → R (.ret (.int .i64 e)) h3
set_option maxRecDepth 100000 in
theorem ftry_wf {fc : FuncId} {cap : Array Value} (hc : WF Tryz.prog 2 sp16 fc cap.toList (h.new (cellsB [.int .i64 0] .exact)) (TryD R h.nx)) :
    WF Tryz.prog 2 sp16 20 [.iface 22 (.pointer (some ⟨bd, 0, none⟩)), .func (.func fc) #[] cap] h R := by
  refine wf_try (T := tryT) rfl ?_
  simp (disch := (first | omega | rfl | (simp only [Yn]; omega))) only [↓reduceIte, reduceCtorEq, Za, Zb, Zc, Zd, Ze, Zf, Zg, Zh, Zi, Zj, Zk, Zl, Zm, Zn, Zo, Zp, Zq, Zr, Zs, Zt, Zu, Zv, gval, Zw, rb0, rb1, rb2, rb3, rb4, tf0, tf1, tf2, tf3, Yk, Yh, overL_one, if_pos, stX_exactN, tryT, seqL, seqR, bodyOf, Tryz.f20, Tryz.f47]
  obtain ⟨o, h2, hev, hg, hlt, hm⟩ := hc
  refine ⟨fc, #[], cap, ?_, o, h2, ?_, ?_⟩
  · show Env.at _ 1 = _
    simp only [Za, Zw, Ye]
  · simpa using hev
  have hp : ∀ {e : Env} {v w : Value}, ((e.put (some 4) (.pointer (some ⟨h.nx, 0, none⟩))).put (some 5) v |>.put (some 6) w).at 4 = .pointer (some ⟨h.nx, 0, none⟩) := fun {e v w} => by simp only [Za, Zw, Ye]
  cases o with
  | ret v =>
    unfold TryC TryE
    simp (disch := (first | omega | rfl | (simp only [Yn]; omega))) only [↓reduceIte, reduceCtorEq, Za, Zb, Zc, Zd, Ze, Zf, Zg, Zh, Zi, Zj, Zk, Zl, Zm, Zn, Zo, Zp, Zq, Zr, Zs, Zt, Zu, Zv, gval, Zw, rb0, rb1, rb2, rb3, rb4, tf0, tf1, tf2, tf3, Yk, Yh, overL_one, if_pos, stX_exactN, hg, neqNil]
    exact ⟨_, rfl, hm _ (by rw [Heap.nx_upd]; exact Nat.le_refl _) fun b _ hb => Heap.get_upd_ne _ _ hb⟩
  | pan v =>
    obtain ⟨e, rfl, hm⟩ := hm
    unfold TryC TryE stopV
    simp (disch := (first | omega | rfl | (simp only [Yn]; omega))) only [↓reduceIte, reduceCtorEq, Za, Zb, Zc, Zd, Ze, Zf, Zg, Zh, Zi, Zj, Zk, Zl, Zm, Zn, Zo, Zp, Zq, Zr, Zs, Zt, Zu, Zv, gval, Zw, rb0, rb1, rb2, rb3, rb4, tf0, tf1, tf2, tf3, Yk, Yh, overL_one, if_pos, stX_exactN, hg, assStop]
    exact ⟨_, rfl, hm _ (by simp only [Heap.nx_upd, Heap.nx_new]; omega) fun b hb hne => by rw [Heap.get_upd_ne _ _ hne, Heap.get_upd_ne _ _ (by omega), Heap.get_new_ne _ _ (by omega)]⟩
end Go.Proofs.YtbgminppkacdlaaGreatDoor
end
section
/- The file system's core: paths in a root of files; Create. Conditions: the disk lies as the rules name. -/
namespace Go.Proofs.YtbgminppkacdlaaGreatDoor
open Go.AM
open Nat renaming reduceBEq → Za, reduceEqDiff → Zb, reduceAdd → Zc, reduceSub → Zd, reduceMul → Ze, reduceLT → Zf, reduceLeDiff → Zg, reduceDiv → Zh, reduceMod → Zi, reducePow → Zj
open Int renaming reduceAdd → Zk, reduceSub → Zl, reduceMul → Zm, reduceLT → Zn, reduceLE → Zo, reduceEq → Zp, reduceNe → Zq, reduceNeg → Zr, reduceToNat → Zs, reduceDiv → Zt, reduceMod → Zu, reducePow → Zv, cast_ofNat_Int → Zw
set_option linter.unusedSimpArgs false
variable {h : Heap} {R : Out → Heap → Prop} {bd bl : Nat} {s : FS} {F : Nat → Prop}
theorem cutP_mem {p : List UInt8} {st : List (List UInt8) × Nat} {i : Nat} {x : List UInt8} (h : x ∈ (cutP p st i).1) : x ∈ st.1 ∨ (st.2 < i ∧ x = (p.drop st.2).take (i - st.2)) := by
  unfold cutP at h
  simp only at h
  split at h
  · rename_i c
    rcases List.mem_append.1 h with q | q
    · exact .inl q
    · exact .inr ⟨c, List.mem_singleton.1 q⟩
  · exact .inl h
theorem cutS_ok (p : List UInt8) : ∀ i, i ≤ p.length → (∀ x ∈ (cutS p i).1, x ≠ [] ∧ ¬ (47 : UInt8) ∈ x) ∧ ∀ j, (cutS p i).2 ≤ j → j < i → p[j]? ≠ some 47
  | 0, _ => ⟨(fun x h => by cases h), fun j _ h => by omega⟩
  | i + 1, hi => by
    obtain ⟨h1, h2⟩ := cutS_ok p i (by omega)
    have hle := cutS_le p i
    have hs : cutS p (i + 1) = if p[i]? = some 47 then cutP p (cutS p i) i else cutS p i := rfl
    rw [hs]
    split
    · refine ⟨fun x hx => ?_, fun j hj hj2 => ?_⟩
      · rcases cutP_mem hx with q | ⟨c, rfl⟩
        · exact h1 x q
        · refine ⟨fun e => ?_, fun hm => ?_⟩
          · have := congrArg List.length e
            rw [List.length_take, List.length_drop] at this
            simp at this; omega
          · obtain ⟨j, hj⟩ := List.mem_iff_getElem?.1 hm
            rw [List.getElem?_take] at hj
            split at hj
            · rw [List.getElem?_drop] at hj
              exact h2 _ (by omega) (by omega) hj
            · cases hj
      · have : (cutP p (cutS p i) i).2 = i + 1 := rfl
        omega
    · rename_i c
      refine ⟨h1, fun j hj hj2 => ?_⟩
      rcases Nat.lt_or_ge j i with q | q
      · exact h2 j hj q
      · rw [show j = i by omega]; exact c
theorem parts_ok (p : List UInt8) : ∀ x ∈ parts p, x ≠ [] ∧ ¬ (47 : UInt8) ∈ x := by
  obtain ⟨h1, h2⟩ := cutS_ok p p.length (Nat.le_refl _)
  have hle := cutS_le p p.length
  intro x hx
  rcases cutP_mem hx with q | ⟨c, rfl⟩
  · exact h1 x q
  · refine ⟨fun e => ?_, fun hm => ?_⟩
    · have := congrArg List.length e
      rw [List.length_take, List.length_drop] at this
      simp at this; omega
    · obtain ⟨j, hj⟩ := List.mem_iff_getElem?.1 hm
      rw [List.getElem?_take] at hj
      split at hj
      · rw [List.getElem?_drop] at hj
        exact h2 _ (by omega) (by omega) hj
      · cases hj
theorem errL_zero : ∀ {L : List (List UInt8)}, errL L = 0 → ∀ x ∈ L, chk x = 0
  | [], _, _, h => by cases h
  | y :: r, h, x, hx => by
    unfold errL at h
    by_cases c : chk y = 0
    · rw [if_neg (by rw [c]; exact fun q => q rfl)] at h
      rcases List.mem_cons.1 hx with q | q
      · rw [q]; exact c
      · exact errL_zero h x q
    · rw [if_pos c] at h
      exact absurd h c
theorem splL_nm {p : List UInt8} (h : splE p = 0) : ∀ x ∈ splL p, NmP x := by
  have hl : splL p = parts p := by unfold splL; rw [if_pos h]
  have he : errL (parts p) = 0 := by
    unfold splE at h
    split at h
    · exact absurd h (by decide)
    · split at h
      · exact absurd h (by decide)
      · exact h
  intro x hx
  rw [hl] at hx
  have := parts_ok p x hx
  exact ⟨this.1, this.2, errL_zero he x hx⟩
theorem lookE_uq {nm : List UInt8} : ∀ {l : List (List UInt8 × Nat)} {k : Nat}, (∀ e ∈ l, e.2 = 1) → lookE nm l = some k → k = 1
  | [], _, _, h => by cases h
  | e :: r, k, u, h => by
    unfold lookE at h
    split at h
    · rw [← Option.some.inj h]; exact u e List.mem_cons_self
    · exact lookE_uq (fun x hx => u x (List.mem_cons_of_mem _ hx)) h
theorem walk_root {l : List (List UInt8 × Nat)} (u : ∀ e ∈ l, e.2 = 1) : ∀ (L : List (List UInt8)), (walkM (entR l) 0 L).2 = 0 → L = [] ∧ walkM (entR l) 0 L = (0, 0) ∨ ∃ n, L = [n] ∧ lookE n l = some 1 ∧ walkM (entR l) 0 L = (1, 0)
  | [], _ => .inl ⟨rfl, rfl⟩
  | n :: r, h => by
    right
    have he : entR l 0 = some l := rfl
    have hw : walkM (entR l) 0 (n :: r) = (match lookE n l with
      | none => ((0 : Nat), (2 : Int))
      | some t => walkM (entR l) t r) := rfl
    rcases hk : lookE n l with _ | k
    · rw [hw, hk] at h; exact absurd (show (2 : Int) = 0 from h) (by decide)
    · obtain rfl := lookE_uq u hk
      rw [hw, hk] at h ⊢
      cases r with
      | nil => exact ⟨n, rfl, hk, rfl⟩
      | cons m r =>
        have : walkM (entR l) 1 (m :: r) = (0, 20) := rfl
        have h : (walkM (entR l) 1 (m :: r)).2 = 0 := h
        rw [this] at h; exact absurd h (by decide)
theorem one_of : ∀ {L : List (List UInt8)} {z : List UInt8}, L.getLast? = some z → L.dropLast = [] → L = [z]
  | [], _, h, _ => by simp at h
  | [a], _, h, _ => by simp at h; rw [h]
  | a :: b :: r, _, _, h => by simp at h
theorem par_root {l : List (List UInt8 × Nat)} (u : ∀ e ∈ l, e.2 = 1) {p : List UInt8} (h : (parP (entR l) p).2.2 = 0) : ∃ nm, splE p = 0 ∧ splL p = [nm] ∧ NmP nm ∧ parP (entR l) p = (0, nm, 0) := by
  unfold parP at h ⊢
  by_cases c : splE p = 0
  · rw [if_pos c] at h ⊢
    rcases hz : (splL p).getLast? with _ | z
    · rw [hz] at h; exact absurd (show (22 : Int) = 0 from h) (by decide)
    · rw [hz] at h
      simp only at h ⊢
      by_cases cw : (walkM (entR l) 0 (splL p).dropLast).2 = 0
      · rw [if_pos cw] at h ⊢
        rcases walk_root u _ cw with ⟨hd, hw⟩ | ⟨n, hd, _, hw⟩
        · have hs : splL p = [z] := one_of hz hd
          rw [hw] at h ⊢
          refine ⟨z, c, hs, splL_nm c z (by rw [hs]; exact List.mem_singleton.2 rfl), ?_⟩
          rfl
        · rw [hw] at h
          exact absurd (show (20 : Int) = 0 from h) (by decide)
      · rw [if_neg cw] at h
        exact absurd h cw
  · rw [if_neg c] at h
    exact absurd h c
theorem par_of {l : List (List UInt8 × Nat)} {p nm : List UInt8} (c : splE p = 0) (hs : splL p = [nm]) : parP (entR l) p = (0, nm, 0) := by
  unfold parP
  rw [if_pos c, hs]; rfl
theorem walk_of {l : List (List UInt8 × Nat)} {p nm : List UInt8} (c : splE p = 0) (hs : splL p = [nm]) {k : Nat} (hk : lookE nm l = some k) : walkP (entR l) p = (k, 0) := by
  unfold walkP
  rw [if_pos c, hs]
  show (match lookE nm l with
      | none => ((0 : Nat), (2 : Int))
      | some t => walkM (entR l) t []) = _
  rw [hk]; rfl
end Go.Proofs.YtbgminppkacdlaaGreatDoor
end
section
/- The file system's core: Create. Conditions: the disk lies as the rules name. -/
namespace Go.Proofs.YtbgminppkacdlaaGreatDoor
open Go.AM
open Nat renaming reduceBEq → Za, reduceEqDiff → Zb, reduceAdd → Zc, reduceSub → Zd, reduceMul → Ze, reduceLT → Zf, reduceLeDiff → Zg, reduceDiv → Zh, reduceMod → Zi, reducePow → Zj
open Int renaming reduceAdd → Zk, reduceSub → Zl, reduceMul → Zm, reduceLT → Zn, reduceLE → Zo, reduceEq → Zp, reduceNe → Zq, reduceNeg → Zr, reduceToNat → Zs, reduceDiv → Zt, reduceMod → Zu, reducePow → Zv, cast_ofNat_Int → Zw
set_option linter.unusedSimpArgs false
variable {h : Heap} {R : Out → Heap → Prop} {bd bl : Nat} {s : FS} {F : Nat → Prop}
set_option maxRecDepth 100000 in
set_option maxHeartbeats 2000000 in
theorem create_wf (ht : h.get 1 = some (tabBlk .u8 tab)) (f : Fs h bd bl s) (hz : 1 < bd ∧ 1 < bl) (r : RE s) (hp : popc 64 s.b ≤ 12) (hb12 : s.b.testBit 12 = false) {p : List UInt8}
    (hR0 : ∀ (E : Int) h', E ≠ 0 → Fs h' bd bl s → h.nx ≤ h'.nx → (∀ b', b' < h.nx → b' ≠ bd → b' ≠ bl → h'.get b' = h.get b') → R (.ret (.tuple #[.int .i64 0, .int .i64 E])) h')
    (hR1 : ∀ nm s2 h', splE p = 0 → splL p = [nm] → NmP nm → RF s2 [(nm, 1)] 1 [] 13 → s2.blk 0 0 = 12 → Fs h' bd bl s2 → h.nx ≤ h'.nx → (∀ b', b' < h.nx → b' ≠ bd → b' ≠ bl → h'.get b' = h.get b') → R (.ret (.tuple #[.int .i64 1, .int .i64 0])) h') :
    WF Tryz.prog 2 sp16 8 [.iface 22 (.pointer (some ⟨bd, 0, none⟩)), .string (mkS p)] h R := by
  refine wf_fn (fn := Tryz.f8) rfl rfl (by kernel_rfl) rfl ?_
  have q1 := f.d.bd_lt
  have q2 := f.d.bl_lt
  simp (disch := (first | omega | rfl | (simp only [Yn]; omega))) only [↓reduceIte, reduceCtorEq, Za, Zb, Zc, Zd, Ze, Zf, Zg, Zh, Zi, Zj, Zk, Zl, Zm, Zn, Zo, Zp, Zq, Zr, Zs, Zt, Zu, Zv, gval, Zw, rb0, rb1, rb2, rb3, rb4, tf0, tf1, tf2, tf3, Yk, Yh, overL_one, if_pos, stX_exactN, Tryz.f8]
  refine runC_of (ftry_wf ?_)
  obtain ⟨h4, hh4⟩ : ∃ h4, (((h.new (cellsB [.iface 22 (.pointer (some ⟨bd, 0, none⟩))] .exact)).new (cellsB [.string (mkS p)] .exact)).new (cellsB [.int .i64 0] .exact)).new (cellsB [.int .i64 0] .exact) = h4 := ⟨_, rfl⟩
  rw [hh4]
  have n4 : h4.nx = h.nx + 4 := by rw [← hh4]; simp only [Heap.nx_new]
  have ga : h4.get h.nx = some (cellsB [.iface 22 (.pointer (some ⟨bd, 0, none⟩))] .exact) := by rw [← hh4]; simp (disch := (first | omega | rfl | (simp only [Yn]; omega))) only [Yh, Yc]
  have gb : h4.get (h.nx + 1) = some (cellsB [.string (mkS p)] .exact) := by rw [← hh4]; simp (disch := (first | omega | rfl | (simp only [Yn]; omega))) only [Yh, Yc]
  have gc : h4.get (h.nx + 1 + 1) = some (cellsB [.int .i64 0] .exact) := by rw [← hh4]; simp (disch := (first | omega | rfl | (simp only [Yn]; omega))) only [Yh, Yc]
  have gd : h4.get (h.nx + 1 + 1 + 1) = some (cellsB [.int .i64 0] .exact) := by rw [← hh4]; simp (disch := (first | omega | rfl | (simp only [Yn]; omega))) only [Yh, Yc]
  have k4 : ∀ b', b' < h.nx → h4.get b' = h.get b' := fun b' hb' => by rw [← hh4]; simp (disch := (first | omega | rfl | (simp only [Yn]; omega))) only [Yh, Yc]
  have f4 : Fs h4 bd bl s := f.keep (by omega) (k4 _ q1) (k4 _ q2)
  refine wf_fn (fn := Tryz.f21) rfl rfl (by kernel_rfl) rfl ?_
  simp (disch := (first | omega | rfl | (simp only [Yn]; omega))) only [↓reduceIte, reduceCtorEq, Za, Zb, Zc, Zd, Ze, Zf, Zg, Zh, Zi, Zj, Zk, Zl, Zm, Zn, Zo, Zp, Zq, Zr, Zs, Zt, Zu, Zv, gval, Zw, rb0, rb1, rb2, rb3, rb4, tf0, tf1, tf2, tf3, Yk, Yh, overL_one, if_pos, stX_exactN, Tryz.f21, ga, gb]
  refine runC_of (fpar_wf f4 r.I r.ent r.no (p := p) (fun hE h5 f5 n5 k5 => ?_) fun hE h5 f5 n5 k5 => ?_)
  rotate_left
  · simp only [↓reduceIte, reduceCtorEq, Za, Zb, Zc, Zd, Ze, Zf, Zg, Zh, Zi, Zj, Zk, Zl, Zm, Zn, Zo, Zp, Zq, Zr, Zs, Zt, Zu, Zv, gval, Zw, rb0, rb1, rb2, rb3, rb4, tf0, tf1, tf2, tf3, Yk, afterC_pan, fnQ_pan]
    refine ⟨(k5 _ (by omega) (by omega)).trans gd, by omega, _, rfl, fun h6 n6 k6 => ?_⟩
    have g6 := (k6 (h.nx + 1 + 1) (by omega) (by omega)).trans ((k5 _ (by omega) (by omega)).trans gc)
    simp (disch := (first | omega | rfl | (simp only [Yn]; omega))) only [↓reduceIte, reduceCtorEq, Za, Zb, Zc, Zd, Ze, Zf, Zg, Zh, Zi, Zj, Zk, Zl, Zm, Zn, Zo, Zp, Zq, Zr, Zs, Zt, Zu, Zv, gval, Zw, rb0, rb1, rb2, rb3, rb4, tf0, tf1, tf2, tf3, Yk, Yh, overL_one, if_pos, stX_exactN, g6]
    refine hR0 _ _ hE (f5.keep (by rw [Heap.nx_upd]; omega) ?_ ?_) (by rw [Heap.nx_upd]; omega) fun b' w1 w2 w3 => ?_
    · rw [Heap.get_upd_ne _ _ (by omega), k6 _ (by omega) (by omega)]
    · rw [Heap.get_upd_ne _ _ (by omega), k6 _ (by omega) (by omega)]
    · rw [Heap.get_upd_ne _ _ (by omega), k6 _ (by omega) (by omega), k5 _ (by omega) w2]; exact k4 _ w1
  · obtain ⟨nm, cE, cL, cN, hpar⟩ := par_root (l := []) (fun _ h => by cases h) hE
    rw [hpar]
    have ga5 := (k5 h.nx (by omega) (by omega)).trans ga
    simp (disch := (first | omega | rfl | (simp only [Yn]; omega))) only [↓reduceIte, reduceCtorEq, Za, Zb, Zc, Zd, Ze, Zf, Zg, Zh, Zi, Zj, Zk, Zl, Zm, Zn, Zo, Zp, Zq, Zr, Zs, Zt, Zu, Zv, gval, Zw, rb0, rb1, rb2, rb3, rb4, tf0, tf1, tf2, tf3, Yk, Yh, overL_one, if_pos, stX_exactN, ga5]
    refine runC_of (dfind_wf f5 r.I r.D (by simp) (fun j e hj => absurd hj (by simp)) fun _ h6 f6 n6 k6 => ?_)
    have ga6 := (k6 h.nx (by omega) (by omega)).trans ga5
    simp (disch := (first | omega | rfl | (simp only [Yn]; omega))) only [↓reduceIte, reduceCtorEq, Za, Zb, Zc, Zd, Ze, Zf, Zg, Zh, Zi, Zj, Zk, Zl, Zm, Zn, Zo, Zp, Zq, Zr, Zs, Zt, Zu, Zv, gval, Zw, rb0, rb1, rb2, rb3, rb4, tf0, tf1, tf2, tf3, Yk, Yh, overL_one, if_pos, stX_exactN, ga6]
    have t6 : h6.get 1 = some (tabBlk .u8 tab) := by rw [k6 1 (by omega) (by omega), k5 1 (by omega) (by omega), k4 _ (by omega)]; exact ht
    refine runC_of (newino_wf t6 f6 hz r hp hb12 cN fun s2 h7 r7 hk7 f7 n7 k7 => ?_)
    have gc7 := (k7 (h.nx + 1 + 1) (by omega) (by omega) (by omega)).trans ((k6 _ (by omega) (by omega)).trans ((k5 _ (by omega) (by omega)).trans gc))
    have gd7 := (k7 (h.nx + 1 + 1 + 1) (by omega) (by omega) (by omega)).trans ((k6 _ (by omega) (by omega)).trans ((k5 _ (by omega) (by omega)).trans gd))
    simp (disch := (first | omega | rfl | (simp only [Yn]; omega))) only [↓reduceIte, reduceCtorEq, Za, Zb, Zc, Zd, Ze, Zf, Zg, Zh, Zi, Zj, Zk, Zl, Zm, Zn, Zo, Zp, Zq, Zr, Zs, Zt, Zu, Zv, gval, Zw, rb0, rb1, rb2, rb3, rb4, tf0, tf1, tf2, tf3, Yk, Yh, overL_one, if_pos, stX_exactN, gc7]
    refine ⟨?_, ?_, fun h8 n8 k8 => ?_⟩
    · rw [Heap.get_upd_ne _ _ (by omega)]; exact gd7
    · rw [Heap.nx_upd]; omega
    rw [Heap.nx_upd] at n8 k8
    have g8 := (k8 (h.nx + 1 + 1) (by omega) (by omega)).trans (Heap.get_upd_same _ _ _)
    simp (disch := (first | omega | rfl | (simp only [Yn]; omega))) only [↓reduceIte, reduceCtorEq, Za, Zb, Zc, Zd, Ze, Zf, Zg, Zh, Zi, Zj, Zk, Zl, Zm, Zn, Zo, Zp, Zq, Zr, Zs, Zt, Zu, Zv, gval, Zw, rb0, rb1, rb2, rb3, rb4, tf0, tf1, tf2, tf3, Yk, Yh, overL_one, if_pos, stX_exactN, g8]
    refine hR1 nm s2 _ cE cL cN r7 hk7 (f7.keep (by rw [Heap.nx_upd]; omega) ?_ ?_) (by rw [Heap.nx_upd]; omega) fun b' w1 w2 w3 => ?_
    · rw [Heap.get_upd_ne _ _ (by omega), k8 _ (by omega) (by omega), Heap.get_upd_ne _ _ (by omega)]
    · rw [Heap.get_upd_ne _ _ (by omega), k8 _ (by omega) (by omega), Heap.get_upd_ne _ _ (by omega)]
    · rw [Heap.get_upd_ne _ _ (by omega), k8 _ (by omega) (by omega), Heap.get_upd_ne _ _ (by omega), k7 _ (by omega) w2 w3, k6 _ (by omega) w2, k5 _ (by omega) w2]; exact k4 _ w1
end Go.Proofs.YtbgminppkacdlaaGreatDoor
end
section
/- Rows of names: what stays when one is taken out. No condition on the program. -/
namespace Go.Proofs.YtbgminppkacdlaaGreatDoor
open Go.AM
open Nat renaming reduceBEq → Za, reduceEqDiff → Zb, reduceAdd → Zc, reduceSub → Zd, reduceMul → Ze, reduceLT → Zf, reduceLeDiff → Zg, reduceDiv → Zh, reduceMod → Zi, reducePow → Zj
open Int renaming reduceAdd → Zk, reduceSub → Zl, reduceMul → Zm, reduceLT → Zn, reduceLE → Zo, reduceEq → Zp, reduceNe → Zq, reduceNeg → Zr, reduceToNat → Zs, reduceDiv → Zt, reduceMod → Zu, reducePow → Zv, cast_ofNat_Int → Zw
set_option linter.unusedSimpArgs false
def nms (l : List (List UInt8 × Nat)) : List (List UInt8) := l.map (·.1)
theorem nms_app {a b : List (List UInt8 × Nat)} : nms (a ++ b) = nms a ++ nms b := List.map_append
end Go.Proofs.YtbgminppkacdlaaGreatDoor
end
section
/- Directories: List. Conditions: the disk lies as the rule names. -/
namespace Go.Proofs.YtbgminppkacdlaaGreatDoor
open Go.AM
open Nat renaming reduceBEq → Za, reduceEqDiff → Zb, reduceAdd → Zc, reduceSub → Zd, reduceMul → Ze, reduceLT → Zf, reduceLeDiff → Zg, reduceDiv → Zh, reduceMod → Zi, reducePow → Zj
open Int renaming reduceAdd → Zk, reduceSub → Zl, reduceMul → Zm, reduceLT → Zn, reduceLE → Zo, reduceEq → Zp, reduceNe → Zq, reduceNeg → Zr, reduceToNat → Zs, reduceDiv → Zt, reduceMod → Zu, reducePow → Zv, cast_ofNat_Int → Zw
set_option linter.unusedSimpArgs false
variable {h : Heap} {R : Out → Heap → Prop} {bd bl : Nat} {s : FS} {F : Nat → Prop}
def tos (l : List (List UInt8 × Nat)) : List Value := l.map fun e => .int .i64 (e.2 : Int)
theorem tos_take {l : List (List UInt8 × Nat)} {j : Nat} {y : List UInt8 × Nat} (h : l[j]? = some y) : tos (l.take (j + 1)) = tos (l.take j) ++ [.int .i64 (y.2 : Int)] := by
  rw [List.take_add_one, h]; unfold tos; rw [List.map_append]; rfl
theorem nms_take {l : List (List UInt8 × Nat)} {j : Nat} {y : List UInt8 × Nat} (h : l[j]? = some y) : strs (nms (l.take (j + 1))) = strs (nms (l.take j)) ++ [.string (mkS y.1)] := by
  rw [List.take_add_one, h, nms_app, strs_app]; rfl
theorem bs1_50 (v : Int) (nx : Nat) : effBuildSlice Tryz.prog 45 1 [(0, .int .i64 v)] nx = some ⟨.slice (some ⟨nx, 0, none⟩) 1 1, [], [cellsB [.int .i64 v] .exact]⟩ := by
  rw [u_buildSlice 45 1 nx _ mk_45 (by omega)]; rfl
theorem disj_of {a b : List Nat} (h : ∀ x ∈ a, x ∉ b) : disj a b = true := by
  unfold disj
  rw [List.all_eq_true]
  intro x hx
  rw [Bool.not_eq_true', List.any_eq_false]
  intro y hy
  rw [Bool.not_eq_true, ← Bool.not_eq_true, Nat.beq_eq]
  exact fun e => h x hx (e ▸ hy)
theorem foot_app (a b : Operand) (ts : Array TypeId) (ρ : Operand → Value) : foot (.call ⟨.builtin .append, #[a, b], ts⟩) ρ = blkOf (ρ a) ++ blkOf (ρ b) := by
  show blkOf (ρ a) ++ (blkOf (ρ b) ++ []) = _
  rw [List.append_nil]
theorem growG2 {P : Program} {h : Heap} {ts : Array TypeId} {z : List Value} {lo s mb n k : Nat} {v x : Value} {L new : List Value} (ht : appT P ts = some (z, s, mb)) (g : RowG h lo s v n L) (hlo : lo ≤ h.nx) (hx : lenV x = some k) (hk : k ≠ 0) (hsz : (n + k) * mb * 4 ≤ 2 ^ 40) (hnew : firstL h.get s k x = some new) (hl : new.length = k * s) :
    ∃ E h3 w, aAppend P ts v x h.get h.nx = some E ∧ E.val = w ∧ h.apply E = h3 ∧ RowG h3 lo s w (n + k) (L ++ new) ∧ h3.nx = h.nx + 1 ∧ (∀ b', b' < h.nx → b' ∉ blkOf v → h3.get b' = h.get b') ∧ blkOf w = [h.nx] ∧ ∀ y ∈ E.wr.map (·.1) ++ newIds h.nx E.nw, y ∈ blkOf v ∨ y = h.nx := by
  obtain ⟨E, h3, w, a1, a2, a3, a4, a5, a6, a7⟩ := growG ht g hlo hx hk hsz hnew hl
  refine ⟨E, h3, w, a1, a2, a3, a4, a5, a6, a7, ?_⟩
  rcases g.is with ⟨rfl, rfl, rfl⟩ | ⟨b, h1, h2, rfl, h4⟩
  · rw [aAppend_nil ht k x h.get h.nx hx hk (by simpa using hsz) hnew] at a1
    cases Option.some.inj a1
    intro y hy
    simp only [List.map_nil, List.nil_append, newIds_cons, newIds_nil, List.mem_singleton] at hy
    exact .inr hy
  · rw [aAppend_loose ht b n k x h.get h.nx h4 g.len hx hk hsz hnew] at a1
    cases Option.some.inj a1
    intro y hy
    simp only [List.map_cons, List.map_nil, newIds_cons, newIds_nil, List.cons_append, List.nil_append, List.mem_cons, List.not_mem_nil, or_false] at hy
    rcases hy with rfl | rfl
    · exact .inl (List.mem_singleton.2 rfl)
    · exact .inr rfl
set_option maxRecDepth 100000 in
set_option maxHeartbeats 1000000 in
theorem list_wf (f : Fs h bd bl s) {k : Nat} {l : List (List UInt8 × Nat)} (I : s.Inv F) (D : Dr s F k l) (hl : l.length ≤ 21)
    (hR : ∀ h' v w, Fs h' bd bl s → h.nx ≤ h'.nx → (∀ b', b' < h.nx → b' ≠ bd → h'.get b' = h.get b') → RowG h' h.nx 1 v l.length (strs (nms l)) → RowG h' h.nx 1 w l.length (tos l) → R (.ret (.tuple #[v, w])) h') :
    WF Tryz.prog 2 sp16 57 [.iface 22 (.pointer (some ⟨bd, 0, none⟩)), .int .i64 k] h R := by
  refine wf_fn (fn := Tryz.f57) rfl rfl (by kernel_rfl) rfl ?_
  have q1 := f.d.bd_lt
  have q2 := f.d.bl_lt
  simp only [↓reduceIte, reduceCtorEq, Za, Zb, Zc, Zd, Ze, Zf, Zg, Zh, Zi, Zj, Zk, Zl, Zm, Zn, Zo, Zp, Zq, Zr, Zs, Zt, Zu, Zv, gval, Zw, rb0, rb1, rb2, rb3, rb4, tf0, tf1, tf2, tf3, Yk, Tryz.f57]
  refine runC_of (read_wf f I D fun h1 v f1 n1 k1 r1 => ?_)
  obtain ⟨a, hs⟩ := r1.slc
  have x := EntAt.of r1
  have hv := fun b hb => (r1.lt b hb).2
  rw [hs] at x hv ⊢
  simp only [↓reduceIte, reduceCtorEq, Za, Zb, Zc, Zd, Ze, Zf, Zg, Zh, Zi, Zj, Zk, Zl, Zm, Zn, Zo, Zp, Zq, Zr, Zs, Zt, Zu, Zv, gval, Zw, rb0, rb1, rb2, rb3, rb4, tf0, tf1, tf2, tf3, Yk]
  refine run_loop2 rfl (fun N e h' => ∃ (j : Nat) (v w : Value), N = l.length - j ∧ j ≤ l.length ∧ e.at 8 = v ∧ e.at 9 = w ∧ e.at 18 = .slice a l.length l.length ∧ e.at 19 = .int .i64 l.length ∧ e.at 20 = .int .i64 j ∧ RowG h' h1.nx 1 v j (strs (nms (l.take j))) ∧ RowG h' h1.nx 1 w j (tos (l.take j)) ∧ (∀ b ∈ blkOf v, b ∉ blkOf w) ∧ h1.nx ≤ h'.nx ∧ ∀ b', b' < h1.nx → h'.get b' = h1.get b')
    (fun ex e h' => ex = .exit 0 ∧ ∃ v w : Value, e.at 8 = v ∧ e.at 9 = w ∧ RowG h' h1.nx 1 v l.length (strs (nms l)) ∧ RowG h' h1.nx 1 w l.length (tos l) ∧ h1.nx ≤ h'.nx ∧ ∀ b', b' < h1.nx → h'.get b' = h1.get b') ?_ (l.length - 0) _ _ ?_ ?_
  · rintro N e h' ⟨j, v, w, rfl, hj, e8, e9, e18, e19, e20, rv, rw', dj, hn, hk⟩ Q' hQn hQx
    by_cases hc : j < l.length
    · obtain ⟨y, hy⟩ : ∃ y, l[j]? = some y := ⟨_, List.getElem?_eq_getElem hc⟩
      rcases x.is with ⟨_, rfl⟩ | ⟨b, c', K, L, hv2, gb, hL, hA⟩
      · exact absurd hc (Nat.not_lt_zero _)
      cases hv2
      have hp0 : (0 : Int) ≤ (j : Int) := by omega
      have hp1 : (j : Int) < (l.length : Int) := by omega
      have wp : wrapF .i64 ((j : Int) + 1) = ((j + 1 : Nat) : Int) := by rw [wrapI (by omega) (by omega)]; omega
      have gb' := (hk b (hv b (List.mem_singleton.2 rfl))).trans gb
      have hA := hA j y hy
      have hp2 : j * 2 + 2 ≤ L.length := by omega
      obtain ⟨h2, hh2⟩ : ∃ h2, h'.new (cellsB [.string (mkS y.1), .int .i64 (y.2 : Int)] .exact) = h2 := ⟨_, rfl⟩
      have n2 : h2.nx = h'.nx + 1 := by rw [← hh2, Heap.nx_new]
      have g2 : h2.get h'.nx = some (cellsB [.string (mkS y.1), .int .i64 (y.2 : Int)] .exact) := by rw [← hh2, Heap.get_new_same]
      have k2 : ∀ b', b' < h'.nx → h2.get b' = h'.get b' := fun b' hb' => by rw [← hh2, Heap.get_new_ne _ _ (by omega)]
      obtain ⟨h3, hh3⟩ : ∃ h3, h2.new (cellsB [.string (mkS y.1)] .exact) = h3 := ⟨_, rfl⟩
      have n3 : h3.nx = h2.nx + 1 := by rw [← hh3, Heap.nx_new]
      have g3 : h3.get h2.nx = some (cellsB [.string (mkS y.1)] .exact) := by rw [← hh3, Heap.get_new_same]
      have k3 : ∀ b', b' < h2.nx → h3.get b' = h2.get b' := fun b' hb' => by rw [← hh3, Heap.get_new_ne _ _ (by omega)]
      have rv3 : RowG h3 h1.nx 1 v j (strs (nms (l.take j))) := rv.keep (by omega) fun b' _ w2 _ => by rw [k3 _ (by omega), k2 _ w2]
      obtain ⟨E, h4, v4, a1, a2, a3, a4, a5, a6, a7, a8⟩ := growG2 app_100_100 rv3 (by omega) (x := .slice (some ⟨h2.nx, 0, none⟩) 1 1) (k := 1) rfl (by omega) (by omega) (new := [.string (mkS y.1)]) (by rw [firstL_slc _ _ _ _ _ _ _ _ _ g3 (by simp)]; rfl) rfl
      have g4 : h4.get h'.nx = some (cellsB [.string (mkS y.1), .int .i64 (y.2 : Int)] .exact) := by
        rw [a6 _ (by omega) (fun hm => by have := (rv.lt _ hm).2; omega), k3 _ (by omega)]; exact g2
      obtain ⟨h5, hh5⟩ : ∃ h5, h4.new (cellsB [.int .i64 (y.2 : Int)] .exact) = h5 := ⟨_, rfl⟩
      have n5 : h5.nx = h4.nx + 1 := by rw [← hh5, Heap.nx_new]
      have g5 : h5.get h4.nx = some (cellsB [.int .i64 (y.2 : Int)] .exact) := by rw [← hh5, Heap.get_new_same]
      have k5 : ∀ b', b' < h4.nx → h5.get b' = h4.get b' := fun b' hb' => by rw [← hh5, Heap.get_new_ne _ _ (by omega)]
      have rw5 : RowG h5 h1.nx 1 w j (tos (l.take j)) := rw'.keep (by omega) fun b' _ w2 w3 => by rw [k5 _ (by omega), a6 _ (by omega) (fun hm => dj _ hm w3), k3 _ (by omega), k2 _ w2]
      obtain ⟨E6, h6, w6, c1, c2, c3, c4, c5, c6, c7, c8⟩ := growG2 app_45_45 rw5 (by omega) (x := .slice (some ⟨h4.nx, 0, none⟩) 1 1) (k := 1) rfl (by omega) (by omega) (new := [.int .i64 (y.2 : Int)]) (by rw [firstL_slc _ _ _ _ _ _ _ _ _ g5 (by simp)]; rfl) rfl
      simp (disch := (first | omega | rfl | (simp only [Yn]; omega))) only [↓reduceIte, reduceCtorEq, Za, Zb, Zc, Zd, Ze, Zf, Zg, Zh, Zi, Zj, Zk, Zl, Zm, Zn, Zo, Zp, Zq, Zr, Zs, Zt, Zu, Zv, gval, Zw, rb0, rb1, rb2, rb3, rb4, tf0, tf1, tf2, tf3, Yk, Yh, overL_one, if_pos, stX_exactN, e8, e9, e18, e19, e20, hp0, hp1, hp2, gb', hA]
      rw [Heap.upd_new, hh2]
      refine run_draw (ps := [(3, 7), (4, 7), (2, 8), (3, 8), (4, 8)]) (by kernel_rfl) (by kernel_rfl) ?_
      simp (disch := (first | omega | rfl | (simp only [Yn]; omega))) only [↓reduceIte, reduceCtorEq, Za, Zb, Zc, Zd, Ze, Zf, Zg, Zh, Zi, Zj, Zk, Zl, Zm, Zn, Zo, Zp, Zq, Zr, Zs, Zt, Zu, Zv, gval, Zw, rb0, rb1, rb2, rb3, rb4, tf0, tf1, tf2, tf3, Yk, Yh, overL_one, if_pos, stX_exactN, e8, e9, g2, bs1_56 (mkS y.1), hh3, a1, a2, a3, g4, bs1_50, hh5, c1, c2, c3, foot_app, wp]
      have out : ∀ x, x ∈ blkOf v ∨ x = h3.nx → x ≠ h'.nx ∧ x ≠ h4.nx := fun x hx => by
        rcases hx with q | q
        · have := (rv.lt x q).2; omega
        · omega
      refine ⟨⟨by rw [nbeq (by omega)]; rfl, disj_of fun x hx hm => (out x (a8 x hx)).1 (List.mem_singleton.1 hm), by rw [nbeq (by omega)]; rfl, by rw [nbeq (by omega)]; rfl, disj_of fun x hx hm => (out x (a8 x hx)).2 (List.mem_singleton.1 hm), disj_of fun x hx hm => ?_⟩, ?_⟩
      · have hm := List.mem_singleton.1 hm
        rcases List.mem_append.1 hx with q | q
        · have := (rv.lt x q).2; omega
        · have := List.mem_singleton.1 q; omega
      simp only [↓reduceIte, reduceCtorEq, Za, Zb, Zc, Zd, Ze, Zf, Zg, Zh, Zi, Zj, Zk, Zl, Zm, Zn, Zo, Zp, Zq, Zr, Zs, Zt, Zu, Zv, gval, Zw, rb0, rb1, rb2, rb3, rb4, tf0, tf1, tf2, tf3, Yk, e20, wp]
      refine hQn _ _ _ (by omega) ⟨j + 1, v4, w6, rfl, by omega, by simp only [Za, Zw, Ye], by simp only [Za, Zw, Ye], by simp only [Za, Zw, Ye, e18], by simp only [Za, Zw, Ye, e19], by simp only [Za, Zw, Ye], ?_, ?_, ?_, by omega, fun b' hb' => ?_⟩
      · rw [nms_take hy]
        exact a4.keep (by omega) fun b' _ w2 w3 => by
          rw [c6 _ (by omega) (fun hm => ?_), k5 _ w2]
          have := (rw'.lt b' hm).2
          rw [a7] at w3
          have := List.mem_singleton.1 w3; omega
      · rw [tos_take hy]; exact c4
      · rw [a7, c7]
        intro b' m1 m2
        have := List.mem_singleton.1 m1
        have := List.mem_singleton.1 m2
        omega
      · rw [c6 _ (by omega) (fun hm => by have := (rw'.lt b' hm).1; omega), k5 _ (by omega), a6 _ (by omega) (fun hm => by have := (rv.lt b' hm).1; omega), k3 _ (by omega), k2 _ (by omega)]; exact hk b' hb'
    · have hp1 : ¬ (j : Int) < (l.length : Int) := by omega
      simp only [↓reduceIte, reduceCtorEq, Za, Zb, Zc, Zd, Ze, Zf, Zg, Zh, Zi, Zj, Zk, Zl, Zm, Zn, Zo, Zp, Zq, Zr, Zs, Zt, Zu, Zv, gval, Zw, rb0, rb1, rb2, rb3, rb4, tf0, tf1, tf2, tf3, Yk, e19, e20, hp1]
      obtain rfl : j = l.length := by omega
      rw [List.take_length] at rv rw'
      exact hQx _ _ _ (by simp) ⟨rfl, v, w, by simp only [Za, Zw, Ye, e8], by simp only [Za, Zw, Ye, e9], rv, rw', hn, hk⟩
  · exact ⟨0, _, _, rfl, by omega, by simp only [Za, Zw, Ye], by simp only [Za, Zw, Ye], by simp only [Za, Zw, Ye], by simp only [Za, Zw, Ye], by simp only [Za, Zw, Ye], .nil, .nil, (fun _ hb => absurd hb List.not_mem_nil), Nat.le_refl _, fun _ _ => rfl⟩
  · rintro ex e h' - ⟨rfl, v, w, e8, e9, rv, rw', hn, hk⟩
    simp only [↓reduceIte, reduceCtorEq, Za, Zb, Zc, Zd, Ze, Zf, Zg, Zh, Zi, Zj, Zk, Zl, Zm, Zn, Zo, Zp, Zq, Zr, Zs, Zt, Zu, Zv, gval, Zw, rb0, rb1, rb2, rb3, rb4, tf0, tf1, tf2, tf3, Yk, e8, e9]
    exact hR h' v w (f1.keep hn (hk _ (by omega)) (hk _ (by omega))) (by omega) (fun b' h1 h2 => by rw [hk _ (by omega)]; exact k1 b' h1 h2) (rv.mono (by omega)) (rw'.mono (by omega))
end Go.Proofs.YtbgminppkacdlaaGreatDoor
end
section
/- The file system's core: drop, Unlink, Close, an empty Tree. Conditions: the disk lies as the rules name. -/
namespace Go.Proofs.YtbgminppkacdlaaGreatDoor
open Go.AM
open Nat renaming reduceBEq → Za, reduceEqDiff → Zb, reduceAdd → Zc, reduceSub → Zd, reduceMul → Ze, reduceLT → Zf, reduceLeDiff → Zg, reduceDiv → Zh, reduceMod → Zi, reducePow → Zj
open Int renaming reduceAdd → Zk, reduceSub → Zl, reduceMul → Zm, reduceLT → Zn, reduceLE → Zo, reduceEq → Zp, reduceNe → Zq, reduceNeg → Zr, reduceToNat → Zs, reduceDiv → Zt, reduceMod → Zu, reducePow → Zv, cast_ofNat_Int → Zw
set_option linter.unusedSimpArgs false
variable {h : Heap} {R : Out → Heap → Prop} {bd bl : Nat} {s : FS} {F : Nat → Prop}
set_option maxRecDepth 100000 in
theorem len_run (h : Heap) (fu d : Nat) : acall Tryz.prog (1 + 1) sp16 (fu + 100) (d + 10) 82 [.int .u64 0] h = some (.ret (.int .i64 0), h) := by kernel_rfl
end Go.Proofs.YtbgminppkacdlaaGreatDoor
end
section
/- The file system's core: Link. Conditions: the disk lies as the rules name. -/
namespace Go.Proofs.YtbgminppkacdlaaGreatDoor
open Go.AM
open Nat renaming reduceBEq → Za, reduceEqDiff → Zb, reduceAdd → Zc, reduceSub → Zd, reduceMul → Ze, reduceLT → Zf, reduceLeDiff → Zg, reduceDiv → Zh, reduceMod → Zi, reducePow → Zj
open Int renaming reduceAdd → Zk, reduceSub → Zl, reduceMul → Zm, reduceLT → Zn, reduceLE → Zo, reduceEq → Zp, reduceNe → Zq, reduceNeg → Zr, reduceToNat → Zs, reduceDiv → Zt, reduceMod → Zu, reducePow → Zv, cast_ofNat_Int → Zw
set_option linter.unusedSimpArgs false
variable {h : Heap} {R : Out → Heap → Prop} {bd bl : Nat} {s : FS} {F : Nat → Prop}
theorem nm_ent {nm : List UInt8} (hn : NmP nm) : EntOk (nm, 1) := by
  have hc := hn.2.2
  unfold chk at hc
  refine ⟨?_, ?_, by show 1 < 256; omega⟩
  · show nm.length ≤ 8
    by_cases q8 : 8 < nm.length
    · rw [if_pos q8] at hc; exact absurd hc (by decide)
    · omega
  · intro hm
    have hm : (0 : UInt8) ∈ nm := hm
    by_cases q8 : 8 < nm.length
    · rw [if_pos q8] at hc; exact absurd hc (by decide)
    · rw [if_neg q8, if_pos hm] at hc; exact absurd hc (by decide)
end Go.Proofs.YtbgminppkacdlaaGreatDoor
end
section
/- The file system's core: the Tree of one file. Conditions: the disk lies as the rules name. -/
namespace Go.Proofs.YtbgminppkacdlaaGreatDoor
open Go.AM
open Nat renaming reduceBEq → Za, reduceEqDiff → Zb, reduceAdd → Zc, reduceSub → Zd, reduceMul → Ze, reduceLT → Zf, reduceLeDiff → Zg, reduceDiv → Zh, reduceMod → Zi, reducePow → Zj
open Int renaming reduceAdd → Zk, reduceSub → Zl, reduceMul → Zm, reduceLT → Zn, reduceLE → Zo, reduceEq → Zp, reduceNe → Zq, reduceNeg → Zr, reduceToNat → Zs, reduceDiv → Zt, reduceMod → Zu, reducePow → Zv, cast_ofNat_Int → Zw
set_option linter.unusedSimpArgs false
variable {h : Heap} {R : Out → Heap → Prop} {bd bl : Nat} {s : FS} {F : Nat → Prop}
set_option maxRecDepth 100000 in
theorem len_run1 (h : Heap) (fu d : Nat) : acall Tryz.prog (1 + 1) sp16 (fu + 100) (d + 10) 82 [.int .u64 1] h = some (.ret (.int .i64 1), h) := by kernel_rfl
theorem len1_wf (hR : R (.ret (.int .i64 1)) h) : WF Tryz.prog 2 sp16 82 [.int .u64 1] h R := by
  refine ⟨_, h, ⟨100, fun fu d h1 h2 => ?_⟩, hR⟩
  obtain ⟨fu, rfl⟩ : ∃ k, fu = k + 100 := ⟨fu - 100, by omega⟩
  obtain ⟨d, rfl⟩ : ∃ k, d = k + 10 := ⟨d - 10, by omega⟩
  exact len_run1 h fu d
set_option maxRecDepth 100000 in
theorem sortOne_wf {a : Option Addr} {fc : FuncId} {cap : Array Value} (hR : R (.ret (.tuple #[])) h) : WF Tryz.prog 2 sp16 58 [.slice a 1 1, .func (.func fc) #[] cap] h R := by
  refine wf_fn (fn := Tryz.f58) rfl rfl (by kernel_rfl) rfl ?_
  have w1 : wrapF .i64 (1 : Int) = 1 := by decide
  have w1u : wrapF .u64 (1 : Int) = 1 := by decide
  simp only [↓reduceIte, reduceCtorEq, Za, Zb, Zc, Zd, Ze, Zf, Zg, Zh, Zi, Zj, Zk, Zl, Zm, Zn, Zo, Zp, Zq, Zr, Zs, Zt, Zu, Zv, gval, Zw, rb0, rb1, rb2, rb3, rb4, tf0, tf1, tf2, tf3, Yk, Tryz.f58, w1u]
  refine runC_of (len1_wf ?_)
  simp only [↓reduceIte, reduceCtorEq, Za, Zb, Zc, Zd, Ze, Zf, Zg, Zh, Zi, Zj, Zk, Zl, Zm, Zn, Zo, Zp, Zq, Zr, Zs, Zt, Zu, Zv, gval, Zw, rb0, rb1, rb2, rb3, rb4, tf0, tf1, tf2, tf3, Yk]
  refine runC_of (wf_fn (fn := Tryz.f81) rfl rfl (by kernel_rfl) rfl ?_)
  simp only [↓reduceIte, reduceCtorEq, Za, Zb, Zc, Zd, Ze, Zf, Zg, Zh, Zi, Zj, Zk, Zl, Zm, Zn, Zo, Zp, Zq, Zr, Zs, Zt, Zu, Zv, gval, Zw, rb0, rb1, rb2, rb3, rb4, tf0, tf1, tf2, tf3, Yk, Tryz.f81]
  refine Run.loop rfl ?_
  simp only [↓reduceIte, reduceCtorEq, Za, Zb, Zc, Zd, Ze, Zf, Zg, Zh, Zi, Zj, Zk, Zl, Zm, Zn, Zo, Zp, Zq, Zr, Zs, Zt, Zu, Zv, gval, Zw, rb0, rb1, rb2, rb3, rb4, tf0, tf1, tf2, tf3, Yk, w1]
  refine runC_of (wf_fn (fn := Tryz.f98) rfl rfl (by kernel_rfl) rfl ?_)
  simp only [↓reduceIte, reduceCtorEq, Za, Zb, Zc, Zd, Ze, Zf, Zg, Zh, Zi, Zj, Zk, Zl, Zm, Zn, Zo, Zp, Zq, Zr, Zs, Zt, Zu, Zv, gval, Zw, rb0, rb1, rb2, rb3, rb4, tf0, tf1, tf2, tf3, Yk, Tryz.f98, w1]
  refine Run.loop rfl ?_
  simp only [↓reduceIte, reduceCtorEq, Za, Zb, Zc, Zd, Ze, Zf, Zg, Zh, Zi, Zj, Zk, Zl, Zm, Zn, Zo, Zp, Zq, Zr, Zs, Zt, Zu, Zv, gval, Zw, rb0, rb1, rb2, rb3, rb4, tf0, tf1, tf2, tf3, Yk]
  exact hR
theorem str_add (t : TypeId) (x y : Operand) {a b : List UInt8} (hl : a.length + b.length ≤ 1000) (g : Nat → Option Blk) : effBin Tryz.prog .add t x y (.string (mkS a)) (.string (mkS b)) g = ret (.string (mkS (a ++ b))) := by
  rw [effBin_str]
  have h2 : strOp .add (mkS a) (mkS b) = some (.string (mkS a ++ mkS b)) := by
    unfold strOp
    simp only [mkS_size]
    rw [if_pos (by omega)]
  rw [h2]
  show ret (.string (mkS a ++ mkS b)) = _
  have : mkS a ++ mkS b = mkS (a ++ b) := by
    have h1 : (mkS a ++ mkS b).data = (mkS (a ++ b)).data := by
      rw [ByteArray.data_append]
      show a.toArray ++ b.toArray = (a ++ b).toArray
      rw [List.append_toArray]
    cases hx : mkS a ++ mkS b with
    | mk d => rw [hx] at h1; exact congrArg ByteArray.mk h1
  rw [this]
theorem bsNode (x y : ByteArray) (nx : Nat) : effBuildSlice Tryz.prog 30 1 [(0, .agg #[.string x, .bool false, .string y])] nx = some ⟨.slice (some ⟨nx, 0, none⟩) 1 1, [], [cellsB [.string x, .bool false, .string y] .exact]⟩ := by
  rw [u_buildSlice 30 1 nx _ mk_30 (by omega)]; rfl
structure NodesAt (h : Heap) (lo : Nat) (v : Value) (n : Nat) (t : List UInt8) : Prop where
  is : ∃ b L, lo ≤ b ∧ b < h.nx ∧ v = .slice (some ⟨b, 0, none⟩) n n ∧ h.get b = some (cellsB L (.loose 3)) ∧ L.length = n * 3 ∧ ∀ i, i < n → L[i * 3 + 2]? = some (.string (mkS t))
set_option maxRecDepth 100000 in
set_option maxHeartbeats 2000000 in
theorem tree1_wf (f : Fs h bd bl s) {na : List UInt8} {lk pp : Nat} {t : List UInt8} (r : RF s [(na, 1)] lk t pp) (hn8 : na.length ≤ 8) (ht : t.length ≤ 192)
    (hR : ∀ h' v, Fs h' bd bl s → h.nx ≤ h'.nx → (∀ b', b' < h.nx → b' ≠ bd → h'.get b' = h.get b') → NodesAt h' h.nx v 1 t → R (.ret v) h') :
    WF Tryz.prog 2 sp16 11 [.iface 22 (.pointer (some ⟨bd, 0, none⟩))] h R := by
  refine wf_fn (fn := Tryz.f11) rfl rfl (by kernel_rfl) rfl ?_
  have q1 := f.d.bd_lt
  have q2 := f.d.bl_lt
  have s0 : ByteArray.mk #[] = mkS [] := rfl
  have s47 : ByteArray.mk #[47] = mkS [47] := rfl
  simp only [↓reduceIte, reduceCtorEq, Za, Zb, Zc, Zd, Ze, Zf, Zg, Zh, Zi, Zj, Zk, Zl, Zm, Zn, Zo, Zp, Zq, Zr, Zs, Zt, Zu, Zv, gval, Zw, rb0, rb1, rb2, rb3, rb4, tf0, tf1, tf2, tf3, Yk, Tryz.f11]
  refine runC_of (wf_fn (fn := Tryz.f34) rfl rfl (by kernel_rfl) rfl ?_)
  simp only [↓reduceIte, reduceCtorEq, Za, Zb, Zc, Zd, Ze, Zf, Zg, Zh, Zi, Zj, Zk, Zl, Zm, Zn, Zo, Zp, Zq, Zr, Zs, Zt, Zu, Zv, gval, Zw, rb0, rb1, rb2, rb3, rb4, tf0, tf1, tf2, tf3, Yk, Tryz.f34]
  refine runC_of (list_wf f r.I r.D (by simp) fun h1 v w f1 n1 k1 rv rw' => ?_)
  rcases rv.is with ⟨_, hx, _⟩ | ⟨b1, u1, u2, u3, g1⟩
  · cases hx
  rcases rw'.is with ⟨_, hx, _⟩ | ⟨b2, v1, v2, v3, g2⟩
  · cases hx
  have u3 : v = .slice (some ⟨b1, 0, none⟩) 1 1 := u3
  have v3 : w = .slice (some ⟨b2, 0, none⟩) 1 1 := v3
  subst u3
  subst v3
  have g1 : h1.get b1 = some (cellsB [.string (mkS na)] (.loose 1)) := g1
  have g2 : h1.get b2 = some (cellsB [.int .i64 1] (.loose 1)) := g2
  have hrow : mkRow [Value.int .i64 0] 1 = cellsB [.int .i64 0] .exact := mkRow_eq _ _ (by omega)
  have w1 : wrapF .i64 (1 : Int) = 1 := by decide
  simp (disch := (first | omega | rfl | (simp only [Yn]; omega))) only [↓reduceIte, reduceCtorEq, Za, Zb, Zc, Zd, Ze, Zf, Zg, Zh, Zi, Zj, Zk, Zl, Zm, Zn, Zo, Zp, Zq, Zr, Zs, Zt, Zu, Zv, gval, Zw, rb0, rb1, rb2, rb3, rb4, tf0, tf1, tf2, tf3, Yk, Yh, overL_one, if_pos, stX_exactN, hrow]
  refine Run.loop rfl ?_
  simp (disch := (first | omega | rfl | (simp only [Yn]; omega))) only [↓reduceIte, reduceCtorEq, Za, Zb, Zc, Zd, Ze, Zf, Zg, Zh, Zi, Zj, Zk, Zl, Zm, Zn, Zo, Zp, Zq, Zr, Zs, Zt, Zu, Zv, gval, Zw, rb0, rb1, rb2, rb3, rb4, tf0, tf1, tf2, tf3, Yk, Yh, overL_one, if_pos, stX_exactN, hrow, w1]
  refine Run.loop rfl ?_
  simp (disch := (first | omega | rfl | (simp only [Yn]; omega))) only [↓reduceIte, reduceCtorEq, Za, Zb, Zc, Zd, Ze, Zf, Zg, Zh, Zi, Zj, Zk, Zl, Zm, Zn, Zo, Zp, Zq, Zr, Zs, Zt, Zu, Zv, gval, Zw, rb0, rb1, rb2, rb3, rb4, tf0, tf1, tf2, tf3, Yk, Yh, overL_one, if_pos, stX_exactN]
  refine runC_of (sortOne_wf ?_)
  obtain ⟨h2, hh2⟩ : ∃ h2, (((h1.new (cellsB [.slice none 0 0] .exact)).upd h1.nx (cellsB [.slice (some ⟨b1, 0, none⟩) 1 1] .exact)).new (cellsB [.int .i64 0] .exact)).upd (h1.nx + 1) (cellsB [.int .i64 0] .exact) = h2 := ⟨_, rfl⟩
  have n2 : h2.nx = h1.nx + 2 := by rw [← hh2]; simp only [Heap.nx_new, Heap.nx_upd]
  have g3 : h2.get h1.nx = some (cellsB [.slice (some ⟨b1, 0, none⟩) 1 1] .exact) := by rw [← hh2]; simp (disch := (first | omega | rfl | (simp only [Yn]; omega))) only [Yh, Yc]
  have g4 : h2.get (h1.nx + 1) = some (cellsB [.int .i64 0] .exact) := by rw [← hh2]; simp (disch := (first | omega | rfl | (simp only [Yn]; omega))) only [Yh, Yc]
  have k2 : ∀ b', b' < h1.nx → h2.get b' = h1.get b' := fun b' hb' => by rw [← hh2]; simp (disch := (first | omega | rfl | (simp only [Yn]; omega))) only [Yh, Yc]
  rw [hh2]
  simp (disch := (first | omega | rfl | (simp only [Yn]; omega))) only [↓reduceIte, reduceCtorEq, Za, Zb, Zc, Zd, Ze, Zf, Zg, Zh, Zi, Zj, Zk, Zl, Zm, Zn, Zo, Zp, Zq, Zr, Zs, Zt, Zu, Zv, gval, Zw, rb0, rb1, rb2, rb3, rb4, tf0, tf1, tf2, tf3, Yk, Yh, overL_one, if_pos, stX_exactN]
  refine Run.loop rfl ?_
  have g12 := (k2 b1 u2).trans g1
  have g22 := (k2 b2 v2).trans g2
  have j1 : ([] : List UInt8).length + ([47] : List UInt8).length ≤ 1000 := by simp
  have j2 : ([47] : List UInt8).length + na.length ≤ 1000 := by simp; omega
  simp (disch := (first | omega | rfl | (simp only [Yn]; omega))) only [↓reduceIte, reduceCtorEq, Za, Zb, Zc, Zd, Ze, Zf, Zg, Zh, Zi, Zj, Zk, Zl, Zm, Zn, Zo, Zp, Zq, Zr, Zs, Zt, Zu, Zv, gval, Zw, rb0, rb1, rb2, rb3, rb4, tf0, tf1, tf2, tf3, Yk, Yh, overL_one, if_pos, stX_exactN, g3, g4, g12, g22, s0, s47, str_add _ _ _ j1, str_add _ _ _ j2]
  have f2 : Fs h2 bd bl s := f1.keep (by omega) (k2 _ (by omega)) (k2 _ (by omega))
  refine runC_of (figet_any pl16 f2 (i := 1) (fun c => absurd ⟨by omega, by omega⟩ c) fun k' ek _ h3 f3 n3 k3 => ?_)
  obtain rfl : 1 = k' := by omega
  have hwl : (i64s (row9 (s.ino 1))).length = 9 := by rw [List.length_map, row9_len]
  have hx0 : (i64s (row9 (s.ino 1)))[0]? = some (.int .i64 1) := by rw [List.getElem?_map, row9_get (by omega), r.kind]; rfl
  simp (disch := (first | omega | rfl | (simp only [Yn]; omega))) only [↓reduceIte, reduceCtorEq, Za, Zb, Zc, Zd, Ze, Zf, Zg, Zh, Zi, Zj, Zk, Zl, Zm, Zn, Zo, Zp, Zq, Zr, Zs, Zt, Zu, Zv, gval, Zw, rb0, rb1, rb2, rb3, rb4, tf0, tf1, tf2, tf3, Yk, Yh, overL_one, if_pos, stX_exactN, hwl]
  rw [overL_nine rfl hwl, Heap.upd_new]
  obtain ⟨h4, hh4⟩ : ∃ h4, h3.new (cellsB (i64s (row9 (s.ino 1))) .exact) = h4 := ⟨_, rfl⟩
  have n4 : h4.nx = h3.nx + 1 := by rw [← hh4, Heap.nx_new]
  have g5 : h4.get h3.nx = some (cellsB (i64s (row9 (s.ino 1))) .exact) := by rw [← hh4, Heap.get_new_same]
  have k4 : ∀ b', b' < h3.nx → h4.get b' = h3.get b' := fun b' hb' => by rw [← hh4, Heap.get_new_ne _ _ (by omega)]
  rw [hh4]
  have f4 : Fs h4 bd bl s := f3.keep (by omega) (k4 _ (by omega)) (k4 _ (by omega))
  have hb2 : b2 ≠ bd := by omega
  have g24 : h4.get b2 = some (cellsB [.int .i64 1] (.loose 1)) := by rw [k4 _ (by omega), k3 _ (by omega) hb2]; exact g22
  simp (disch := (first | omega | rfl | (simp only [Yn]; omega))) only [↓reduceIte, reduceCtorEq, Za, Zb, Zc, Zd, Ze, Zf, Zg, Zh, Zi, Zj, Zk, Zl, Zm, Zn, Zo, Zp, Zq, Zr, Zs, Zt, Zu, Zv, gval, Zw, rb0, rb1, rb2, rb3, rb4, tf0, tf1, tf2, tf3, Yk, Yh, overL_one, if_pos, stX_exactN, g5, hx0, hwl, g24]
  refine runC_of (fread_spec pl16 f4 (i := 1) (off := 0) (n := 192) (fun j ej _ => (show 1 = j by omega) ▸ r.I.ino 1 (by omega)) (by omega) (by omega) (fun q => by omega) fun j o m ej _ eo em h5 f5 n5 k5 => ?_)
  obtain rfl : 1 = j := by omega
  obtain rfl : o = 0 := by omega
  obtain rfl : m = 192 := by omega
  have hsz : s.size 1 = t.length := r.size
  rw [endR_all (by omega)]
  have htx : s.text 1 0 (s.size 1) = t := r.tx
  rw [htx]
  obtain ⟨h6, hh6⟩ : ∃ h6, h5.new (cellsB [.string (mkS (47 :: na)), .bool false, .string (mkS t)] .exact) = h6 := ⟨_, rfl⟩
  have n6 : h6.nx = h5.nx + 1 := by rw [← hh6, Heap.nx_new]
  have g6 : h6.get h5.nx = some (cellsB [.string (mkS (47 :: na)), .bool false, .string (mkS t)] .exact) := by rw [← hh6, Heap.get_new_same]
  have k6 : ∀ b', b' < h5.nx → h6.get b' = h5.get b' := fun b' hb' => by rw [← hh6, Heap.get_new_ne _ _ (by omega)]
  obtain ⟨E, h7, v7, a1, a2, a3, a4, a5, a6, a7⟩ := growG app_30_30 (RowG.nil (h := h6) (lo := h.nx) (s := 3)) (by omega) (x := .slice (some ⟨h5.nx, 0, none⟩) 1 1) (k := 1) rfl (by omega) (by omega) (new := [.string (mkS (47 :: na)), .bool false, .string (mkS t)]) (by rw [firstL_slc _ _ _ _ _ _ _ _ _ g6 (by simp)]; rfl) rfl
  simp (disch := (first | omega | rfl | (simp only [Yn]; omega))) only [↓reduceIte, reduceCtorEq, Za, Zb, Zc, Zd, Ze, Zf, Zg, Zh, Zi, Zj, Zk, Zl, Zm, Zn, Zo, Zp, Zq, Zr, Zs, Zt, Zu, Zv, gval, Zw, rb0, rb1, rb2, rb3, rb4, tf0, tf1, tf2, tf3, Yk, Yh, overL_one, if_pos, stX_exactN, bsNode, hh6, a1, a2, a3, w1]
  refine Run.loop rfl ?_
  simp (disch := (first | omega | rfl | (simp only [Yn]; omega))) only [↓reduceIte, reduceCtorEq, Za, Zb, Zc, Zd, Ze, Zf, Zg, Zh, Zi, Zj, Zk, Zl, Zm, Zn, Zo, Zp, Zq, Zr, Zs, Zt, Zu, Zv, gval, Zw, rb0, rb1, rb2, rb3, rb4, tf0, tf1, tf2, tf3, Yk, Yh, overL_one, if_pos, stX_exactN]
  have kk : ∀ b', b' < h.nx → b' ≠ bd → h7.get b' = h.get b' := fun b' x1 x2 => by
    rw [a6 _ (by omega) (fun hm => absurd hm List.not_mem_nil), k6 _ (by omega), k5 _ (by omega) x2, k4 _ (by omega), k3 _ (by omega) x2, k2 _ (by omega)]; exact k1 b' x1 x2
  have f7 : Fs h7 bd bl s := f5.keep (by omega) (by rw [a6 _ (by omega) (fun hm => absurd hm List.not_mem_nil), k6 _ (by omega)]) (by rw [a6 _ (by omega) (fun hm => absurd hm List.not_mem_nil), k6 _ (by omega)])
  rcases a4.is with ⟨_, hx, _⟩ | ⟨b7, x1, x2, x3, g7⟩
  · cases hx
  have x3 : v7 = .slice (some ⟨b7, 0, none⟩) 1 1 := x3
  subst x3
  refine hR h7 _ f7 (by omega) kk ⟨b7, _, x1, x2, rfl, g7, rfl, fun i hi => ?_⟩
  obtain rfl : i = 0 := by omega
  rfl
end Go.Proofs.YtbgminppkacdlaaGreatDoor
end
section
/- A disk of 60 blocks, and an empty file system on it: run once. No condition. -/
namespace Go.Proofs.YtbgminppkacdlaaGreatDoor
open Go.AM
open Nat renaming reduceBEq → Za, reduceEqDiff → Zb, reduceAdd → Zc, reduceSub → Zd, reduceMul → Ze, reduceLT → Zf, reduceLeDiff → Zg, reduceDiv → Zh, reduceMod → Zi, reducePow → Zj
open Int renaming reduceAdd → Zk, reduceSub → Zl, reduceMul → Zm, reduceLT → Zn, reduceLE → Zo, reduceEq → Zp, reduceNe → Zq, reduceNeg → Zr, reduceToNat → Zs, reduceDiv → Zt, reduceMod → Zu, reducePow → Zv, cast_ofNat_Int → Zw
set_option linter.unusedSimpArgs false
variable {R : Out → Heap → Prop}
theorem new_root {n : Nat} (h1 : 13 ≤ n) (h2 : n ≤ 60) : (FS.new n).Inv (fun i => i = 0) ∧ Dr (FS.new n) (fun i => i = 0) 0 [] := by
  have I := new_inv h1 h2
  have hs : (FS.new n).size 0 = 0 := rfl
  refine ⟨⟨I.wf, I.low, fun i hi => ?_, fun i k hi hk => ?_, fun i k j m hi hj hk => ?_, fun i p hi hp hp2 => ?_⟩, ⟨rfl, by omega, rfl, ?_, fun e he => by cases he⟩⟩
  · subst hi
    exact ⟨by show (0 : Int) ≤ 192; decide, fun q hq => absurd hq (by rw [hs]; unfold needN; omega)⟩
  · subst hi; rw [hs] at hk; unfold needN at hk; omega
  · subst hi; rw [hs] at hk; unfold needN at hk; omega
  · subst hi; rw [hs] at hp2; unfold needN at hp2; omega
  · exact List.eq_nil_of_length_eq_zero (by rw [txt_len]; rfl)
theorem re_new : RE (FS.new 60) ∧ popc 64 (FS.new 60).b ≤ 12 := by
  obtain ⟨I, D⟩ := new_root (n := 60) (by omega) (by omega)
  refine ⟨⟨I, D, rfl, rfl, fun j hj => ?_⟩, ?_⟩
  · show (if j = 0 then _ else (0 : Int)) = 0
    rw [if_neg (by omega)]
  · show popc 64 4095 ≤ 12
    decide
noncomputable def nwH : Heap := match acall Tryz.prog (1 + 1) sp16 400 20 6 [.int .i64 60] H0 with
  | some (_, h) => h
  | none => H0
noncomputable def fmH : Heap := match acall Tryz.prog (1 + 1) sp16 400 20 7 [.iface 22 (.pointer (some ⟨3, 0, none⟩)), .int .i64 60] nwH with
  | some (_, h) => h
  | none => H0
set_option maxRecDepth 100000 in
theorem nw_run : ∀ fu d, acall Tryz.prog (1 + 1) sp16 (fu + 400) (d + 20) 6 [.int .i64 60] H0 = some (.ret (.pointer (some ⟨3, 0, none⟩)), nwH) := fun fu d => by kernel_rfl
set_option maxRecDepth 100000 in
theorem fm_run : ∀ fu d, acall Tryz.prog (1 + 1) sp16 (fu + 400) (d + 20) 7 [.iface 22 (.pointer (some ⟨3, 0, none⟩)), .int .i64 60] nwH = some (.ret (.int .i64 0), fmH) := fun fu d => by kernel_rfl
set_option maxRecDepth 100000 in
theorem fm_f : (fmH.get 3, fmH.get 2, fmH.get 1, Nat.ble 4 fmH.nx) = (some (cellsB [.int .i64 60, .slice (some ⟨2, 0, none⟩) 1920 1920, .int .i64 1, .int .i64 13] .exact), some (cellsB (u64s (words0 60)) .exact), some (tabBlk .u8 tab), true) := by kernel_rfl
theorem nw_wf (hR : R (.ret (.pointer (some ⟨3, 0, none⟩))) nwH) : WF Tryz.prog 2 sp16 6 [.int .i64 60] H0 R := by
  refine ⟨_, _, ⟨400, fun fu d h1 h2 => ?_⟩, hR⟩
  obtain ⟨fu, rfl⟩ : ∃ k, fu = k + 400 := ⟨fu - 400, by omega⟩
  obtain ⟨d, rfl⟩ : ∃ k, d = k + 20 := ⟨d - 20, by omega⟩
  exact nw_run fu d
theorem fm_wf (hR : ∀ h, Fs h 3 2 (FS.new 60) → h.get 1 = some (tabBlk .u8 tab) → 4 ≤ h.nx → R (.ret (.int .i64 0)) h) : WF Tryz.prog 2 sp16 7 [.iface 22 (.pointer (some ⟨3, 0, none⟩)), .int .i64 60] nwH R := by
  have hf := fm_f
  simp only [Prod.mk.injEq] at hf
  obtain ⟨f1, f2, f3, f5⟩ := hf
  have f5 := Nat.le_of_ble_eq_true f5
  refine ⟨_, _, ⟨400, fun fu d h1 h2 => ?_⟩, hR _ ⟨⟨⟨1, 13, f1⟩, ?_, flat_len, by show 60 ≤ 1024; omega, by omega, by omega, by omega⟩, .new (by omega) (by omega)⟩ f3 f5⟩
  · obtain ⟨fu, rfl⟩ : ∃ k, fu = k + 400 := ⟨fu - 400, by omega⟩
    obtain ⟨d, rfl⟩ : ∃ k, d = k + 20 := ⟨d - 20, by omega⟩
    exact fm_run fu d
  · show _ = some (cellsB (u64s (flatD 60 (FS.new 60).D)) .exact)
    rw [← words0_fs]; exact f2
end Go.Proofs.YtbgminppkacdlaaGreatDoor
end
section
/- FscoreOpen: the law's own steps. Conditions: the text's length is a length. -/
namespace Go.Proofs.YtbgminppkacdlaaGreatDoor
open Go.AM
open Nat renaming reduceBEq → Za, reduceEqDiff → Zb, reduceAdd → Zc, reduceSub → Zd, reduceMul → Ze, reduceLT → Zf, reduceLeDiff → Zg, reduceDiv → Zh, reduceMod → Zi, reducePow → Zj
open Int renaming reduceAdd → Zk, reduceSub → Zl, reduceMul → Zm, reduceLT → Zn, reduceLE → Zo, reduceEq → Zp, reduceNe → Zq, reduceNeg → Zr, reduceToNat → Zs, reduceDiv → Zt, reduceMod → Zu, reducePow → Zv, cast_ofNat_Int → Zw
set_option linter.unusedSimpArgs false
variable {h : Heap} {R : Out → Heap → Prop} {bd bl : Nat} {s : FS} {F : Nat → Prop}
theorem write_ino0 {t : List UInt8} (k : Nat) : (s.write 1 0 t).ino 0 k = s.ino 0 k := by
  show (s.room 1 (0 + t.length)).ino 0 k = _
  unfold FS.room
  split
  · show (if (0 : Nat) = 1 then updN (s.rz 1 (0 + t.length)).x 2 ((0 + t.length : Nat) : Int) else s.ino 0) k = _
    rw [if_neg (by omega)]
  · rfl
theorem RF.more {l : List (List UInt8 × Nat)} {lk p q : Nat} {t : List UInt8} (r : RF s l lk t p) (h : p ≤ q) : RF s l lk t q := ⟨r.I, r.D, r.kind, r.lk, r.tx, r.a, r.n, Nat.le_trans r.pop h, r.fr, r.uq⟩
theorem write1_wf (ht : h.get 1 = some (tabBlk .u8 tab)) (f : Fs h bd bl s) (hz : 1 < bd ∧ 1 < bl) {l : List (List UInt8 × Nat)} {lk p : Nat} (r : RF s l lk [] p) (hp : p ≤ 30) {t : List UInt8} (hl : t.length ≤ maxLen)
    (hR0 : ∀ (E : Int) h', E ≠ 0 → (192 < t.length → E = 27) → 192 < t.length → Fs h' bd bl s → h.nx ≤ h'.nx → (∀ b', b' < h.nx → b' ≠ bd → b' ≠ bl → h'.get b' = h.get b') → R (.ret (.int .i64 E)) h')
    (hR1 : t.length ≤ 192 → ∀ s2 h', RF s2 l lk t (p + 6) → s2.blk 0 0 = s.blk 0 0 → Fs h' bd bl s2 → h.nx ≤ h'.nx → (∀ b', b' < h.nx → b' ≠ bd → b' ≠ bl → h'.get b' = h.get b') → R (.ret (.int .i64 0)) h') :
    WF Tryz.prog 2 sp16 12 [.iface 22 (.pointer (some ⟨bd, 0, none⟩)), .int .i64 1, .int .i64 0, .string (mkS t)] h R := by
  have hmax : maxLen ≤ 9223372036854775807 := by decide
  refine fwrite_spec pl16 ht f hz (i := 1) (by omega) (r.I.ino 1 (by omega)) r.I.low (off := 0) (by omega) (l := t) (by omega) (fun c => absurd c (by decide)) (fun c _ h' f' n' k' => hR0 27 h' (by decide) (fun _ => rfl) (by omega) f' n' k') (fun o eo _ _ _ c2 => ?_) (fun o eo _ c h' f' n' k' => ?_) fun o eo c2 c _ h' f' n' k' => ?_
  · exfalso
    obtain rfl : o = 0 := by omega
    have h1 := r.pop
    rw [r.n, Nat.zero_add] at c2
    unfold needN at c2; omega
  · subst c
    exact hR1 (by simp) s h' (r.more (by omega)) rfl f' n' k'
  · obtain rfl : o = 0 := by omega
    exact hR1 (by omega) _ h' (r.write (by omega) hp) (congrArg Int.toNat (write_ino0 3)) f' n' k'
end Go.Proofs.YtbgminppkacdlaaGreatDoor
end
section
/- The file system's core: Rename of the one file. Conditions: the disk lies as the rules name. -/
namespace Go.Proofs.YtbgminppkacdlaaGreatDoor
open Go.AM
open Nat renaming reduceBEq → Za, reduceEqDiff → Zb, reduceAdd → Zc, reduceSub → Zd, reduceMul → Ze, reduceLT → Zf, reduceLeDiff → Zg, reduceDiv → Zh, reduceMod → Zi, reducePow → Zj
open Int renaming reduceAdd → Zk, reduceSub → Zl, reduceMul → Zm, reduceLT → Zn, reduceLE → Zo, reduceEq → Zp, reduceNe → Zq, reduceNeg → Zr, reduceToNat → Zs, reduceDiv → Zt, reduceMod → Zu, reducePow → Zv, cast_ofNat_Int → Zw
set_option linter.unusedSimpArgs false
variable {h : Heap} {R : Out → Heap → Prop} {bd bl : Nat} {s : FS} {F : Nat → Prop}
set_option maxRecDepth 100000 in
set_option maxHeartbeats 2000000 in
theorem rename_wf (ht : h.get 1 = some (tabBlk .u8 tab)) (f : Fs h bd bl s) (hz : 1 < bd ∧ 1 < bl) {na : List UInt8} {pp : Nat} {t : List UInt8} (hpp : pp ≤ 30) (r : RF s [(na, 1)] 1 t pp) (hk12 : s.blk 0 0 = 12) {pa pb : List UInt8} (cE : splE pa = 0) (cL : splL pa = [na]) {v : Value} (hv2 : ∃ a n c, v = .slice a n c)
    (hR0 : ∀ (E : Int) h', E ≠ 0 → h.nx ≤ h'.nx → (∀ b', b' < h.nx → b' ≠ bd → b' ≠ bl → h'.get b' = h.get b') → R (.ret (.int .i64 E)) h')
    (hR1 : ∀ nb s2 h', NmP nb → RF s2 [(nb, 1)] 1 t (pp + 2) → s2.a = s.a → s2.b = s.b → Fs h' bd bl s2 → h.nx ≤ h'.nx → (∀ b', b' < h.nx → b' ≠ bd → b' ≠ bl → h'.get b' = h.get b') → R (.ret (.int .i64 0)) h') :
    WF Tryz.prog 2 sp16 15 [.iface 22 (.pointer (some ⟨bd, 0, none⟩)), .string (mkS pa), .string (mkS pb), v] h R := by
  refine wf_fn (fn := Tryz.f15) rfl rfl (by kernel_rfl) rfl ?_
  have q1 := f.d.bd_lt
  have q2 := f.d.bl_lt
  obtain ⟨va, vn, vc, rfl⟩ := hv2
  simp (disch := (first | omega | rfl | (simp only [Yn]; omega))) only [↓reduceIte, reduceCtorEq, Za, Zb, Zc, Zd, Ze, Zf, Zg, Zh, Zi, Zj, Zk, Zl, Zm, Zn, Zo, Zp, Zq, Zr, Zs, Zt, Zu, Zv, gval, Zw, rb0, rb1, rb2, rb3, rb4, tf0, tf1, tf2, tf3, Yk, Yh, overL_one, if_pos, stX_exactN, Tryz.f15]
  refine runC_of (ftry_wf ?_)
  obtain ⟨h4, hh4⟩ : ∃ h4, ((((h.new (cellsB [.iface 22 (.pointer (some ⟨bd, 0, none⟩))] .exact)).new (cellsB [.string (mkS pa)] .exact)).new (cellsB [.string (mkS pb)] .exact)).new (cellsB [.slice va vn vc] .exact)).new (cellsB [.int .i64 0] .exact) = h4 := ⟨_, rfl⟩
  rw [hh4]
  have n4 : h4.nx = h.nx + 5 := by rw [← hh4]; simp only [Heap.nx_new]
  have ga : h4.get h.nx = some (cellsB [.iface 22 (.pointer (some ⟨bd, 0, none⟩))] .exact) := by rw [← hh4]; simp (disch := (first | omega | rfl | (simp only [Yn]; omega))) only [Yh, Yc]
  have gb : h4.get (h.nx + 1) = some (cellsB [.string (mkS pa)] .exact) := by rw [← hh4]; simp (disch := (first | omega | rfl | (simp only [Yn]; omega))) only [Yh, Yc]
  have gc : h4.get (h.nx + 1 + 1) = some (cellsB [.string (mkS pb)] .exact) := by rw [← hh4]; simp (disch := (first | omega | rfl | (simp only [Yn]; omega))) only [Yh, Yc]
  have gd : h4.get (h.nx + 1 + 1 + 1 + 1) = some (cellsB [.int .i64 0] .exact) := by rw [← hh4]; simp (disch := (first | omega | rfl | (simp only [Yn]; omega))) only [Yh, Yc]
  have k4 : ∀ b', b' < h.nx → h4.get b' = h.get b' := fun b' hb' => by rw [← hh4]; simp (disch := (first | omega | rfl | (simp only [Yn]; omega))) only [Yh, Yc]
  have f4 : Fs h4 bd bl s := f.keep (by omega) (k4 _ q1) (k4 _ q2)
  refine wf_fn (fn := Tryz.f42) rfl rfl (by kernel_rfl) rfl ?_
  have hm : lookE na [(na, 1)] = some 1 := by unfold lookE; rw [if_pos rfl]
  have hw := walk_of cE cL hm
  have hp := par_of (l := [(na, 1)]) cE cL
  have hl : ([(na, 1)] : List (List UInt8 × Nat)).length ≤ 3 := by simp
  simp (disch := (first | omega | rfl | (simp only [Yn]; omega))) only [↓reduceIte, reduceCtorEq, Za, Zb, Zc, Zd, Ze, Zf, Zg, Zh, Zi, Zj, Zk, Zl, Zm, Zn, Zo, Zp, Zq, Zr, Zs, Zt, Zu, Zv, gval, Zw, rb0, rb1, rb2, rb3, rb4, tf0, tf1, tf2, tf3, Yk, Yh, overL_one, if_pos, stX_exactN, Tryz.f42, ga, gb]
  refine runC_of (fpar_wf f4 r.I (r.ent hl) r.no (p := pa) (fun _ h5 f5 n5 k5 => ?_) fun hE => absurd (by rw [hp]) hE)
  rw [hp]
  have ga5 := (k5 h.nx (by omega) (by omega)).trans ga
  have gb5 := (k5 (h.nx + 1) (by omega) (by omega)).trans gb
  simp (disch := (first | omega | rfl | (simp only [Yn]; omega))) only [↓reduceIte, reduceCtorEq, Za, Zb, Zc, Zd, Ze, Zf, Zg, Zh, Zi, Zj, Zk, Zl, Zm, Zn, Zo, Zp, Zq, Zr, Zs, Zt, Zu, Zv, gval, Zw, rb0, rb1, rb2, rb3, rb4, tf0, tf1, tf2, tf3, Yk, Yh, overL_one, if_pos, stX_exactN, ga5, gb5]
  refine runC_of (fwalk_wf f5 r.I (r.ent hl) r.no (p := pa) (fun _ h6 f6 n6 k6 => ?_) fun hE => absurd (by rw [hw]) hE)
  rw [hw]
  have ga6 := (k6 h.nx (by omega) (by omega)).trans ga5
  have gc6 := (k6 (h.nx + 1 + 1) (by omega) (by omega)).trans ((k5 _ (by omega) (by omega)).trans gc)
  have gd6 := (k6 (h.nx + 1 + 1 + 1 + 1) (by omega) (by omega)).trans ((k5 _ (by omega) (by omega)).trans gd)
  have k06 : ∀ b', b' < h.nx → b' ≠ bd → h6.get b' = h.get b' := fun b' w1 w2 => by rw [k6 _ (by omega) w2, k5 _ (by omega) w2]; exact k4 _ w1
  simp (disch := (first | omega | rfl | (simp only [Yn]; omega))) only [↓reduceIte, reduceCtorEq, Za, Zb, Zc, Zd, Ze, Zf, Zg, Zh, Zi, Zj, Zk, Zl, Zm, Zn, Zo, Zp, Zq, Zr, Zs, Zt, Zu, Zv, gval, Zw, rb0, rb1, rb2, rb3, rb4, tf0, tf1, tf2, tf3, Yk, Yh, overL_one, if_pos, stX_exactN, ga6, gc6]
  refine runC_of (fpar_wf f6 r.I (r.ent hl) r.no (p := pb) (fun hE h7 f7 n7 k7 => ?_) fun hE h7 f7 n7 k7 => ?_)
  rotate_left
  · simp only [↓reduceIte, reduceCtorEq, Za, Zb, Zc, Zd, Ze, Zf, Zg, Zh, Zi, Zj, Zk, Zl, Zm, Zn, Zo, Zp, Zq, Zr, Zs, Zt, Zu, Zv, gval, Zw, rb0, rb1, rb2, rb3, rb4, tf0, tf1, tf2, tf3, Yk, afterC_pan, fnQ_pan]
    refine ⟨(k7 _ (by omega) (by omega)).trans gd6, by omega, _, rfl, fun h8 n8 k8 => ?_⟩
    simp only [↓reduceIte, reduceCtorEq, Za, Zb, Zc, Zd, Ze, Zf, Zg, Zh, Zi, Zj, Zk, Zl, Zm, Zn, Zo, Zp, Zq, Zr, Zs, Zt, Zu, Zv, gval, Zw, rb0, rb1, rb2, rb3, rb4, tf0, tf1, tf2, tf3, Yk]
    exact hR0 _ _ hE (by omega) fun b' w1 w2 w3 => by rw [k8 _ (by omega) (by omega), k7 _ (by omega) w2]; exact k06 b' w1 w2
  · obtain ⟨nb, bE, bL, bN, hpar⟩ := par_root r.uq hE
    rw [hpar]
    have ga7 := (k7 h.nx (by omega) (by omega)).trans ga6
    have gd7 := (k7 (h.nx + 1 + 1 + 1 + 1) (by omega) (by omega)).trans gd6
    simp (disch := (first | omega | rfl | (simp only [Yn]; omega))) only [↓reduceIte, reduceCtorEq, Za, Zb, Zc, Zd, Ze, Zf, Zg, Zh, Zi, Zj, Zk, Zl, Zm, Zn, Zo, Zp, Zq, Zr, Zs, Zt, Zu, Zv, gval, Zw, rb0, rb1, rb2, rb3, rb4, tf0, tf1, tf2, tf3, Yk, Yh, overL_one, if_pos, stX_exactN, ga7]
    refine runC_of (kind_wf f7 (i := 1) (by omega) fun h8 f8 n8 k8 => ?_)
    rw [r.kind]
    simp only [↓reduceIte, reduceCtorEq, Za, Zb, Zc, Zd, Ze, Zf, Zg, Zh, Zi, Zj, Zk, Zl, Zm, Zn, Zo, Zp, Zq, Zr, Zs, Zt, Zu, Zv, gval, Zw, rb0, rb1, rb2, rb3, rb4, tf0, tf1, tf2, tf3, Yk, runG_undef]
    refine runC_of (refuse_wf (by decide) (fun _ => ?_) fun c => absurd c (by decide))
    have ga8 := (k8 h.nx (by omega) (by omega)).trans ga7
    have gd8 := (k8 (h.nx + 1 + 1 + 1 + 1) (by omega) (by omega)).trans gd7
    have k08 : ∀ b', b' < h.nx → b' ≠ bd → h8.get b' = h.get b' := fun b' w1 w2 => by rw [k8 _ (by omega) w2, k7 _ (by omega) w2]; exact k06 b' w1 w2
    simp (disch := (first | omega | rfl | (simp only [Yn]; omega))) only [↓reduceIte, reduceCtorEq, Za, Zb, Zc, Zd, Ze, Zf, Zg, Zh, Zi, Zj, Zk, Zl, Zm, Zn, Zo, Zp, Zq, Zr, Zs, Zt, Zu, Zv, gval, Zw, rb0, rb1, rb2, rb3, rb4, tf0, tf1, tf2, tf3, Yk, Yh, overL_one, if_pos, stX_exactN, ga8]
    refine runC_of (dfind_wf f8 r.I r.D (by simp) (fun j e hj he h9 f9 n9 k9 => ?_) fun hno h9 f9 n9 k9 => ?_)
    · obtain rfl : j = 0 := by
        have := (List.getElem?_eq_some_iff.1 hj).1
        simp at this; omega
      obtain rfl : (na, 1) = e := Option.some.inj hj
      have he : na = nb := he
      simp only [↓reduceIte, reduceCtorEq, Za, Zb, Zc, Zd, Ze, Zf, Zg, Zh, Zi, Zj, Zk, Zl, Zm, Zn, Zo, Zp, Zq, Zr, Zs, Zt, Zu, Zv, gval, Zw, rb0, rb1, rb2, rb3, rb4, tf0, tf1, tf2, tf3, Yk]
      refine ⟨(k9 _ (by omega) (by omega)).trans gd8, by omega, fun h10 n10 k10 => ?_⟩
      simp only [↓reduceIte, reduceCtorEq, Za, Zb, Zc, Zd, Ze, Zf, Zg, Zh, Zi, Zj, Zk, Zl, Zm, Zn, Zo, Zp, Zq, Zr, Zs, Zt, Zu, Zv, gval, Zw, rb0, rb1, rb2, rb3, rb4, tf0, tf1, tf2, tf3, Yk]
      exact hR1 nb s h10 bN (he ▸ r.more (by omega)) rfl rfl (f9.keep n10 (k10 _ (by omega) (by omega)) (k10 _ (by omega) (by omega))) (by omega) fun b' w1 w2 w3 => by rw [k10 _ (by omega) (by omega), k9 _ (by omega) w2]; exact k08 b' w1 w2
    · have hne : na ≠ nb := hno (na, 1) (List.mem_singleton.2 rfl)
      simp only [↓reduceIte, reduceCtorEq, Za, Zb, Zc, Zd, Ze, Zf, Zg, Zh, Zi, Zj, Zk, Zl, Zm, Zn, Zo, Zp, Zq, Zr, Zs, Zt, Zu, Zv, gval, Zw, rb0, rb1, rb2, rb3, rb4, tf0, tf1, tf2, tf3, Yk, runG_undef]
      refine runC_of (refuse_wf (by decide) (fun _ => ?_) fun c => absurd c (by decide))
      have ga9 := (k9 h.nx (by omega) (by omega)).trans ga8
      have gd9 := (k9 (h.nx + 1 + 1 + 1 + 1) (by omega) (by omega)).trans gd8
      have k09 : ∀ b', b' < h.nx → b' ≠ bd → h9.get b' = h.get b' := fun b' w1 w2 => by rw [k9 _ (by omega) w2]; exact k08 b' w1 w2
      have t9 : h9.get 1 = some (tabBlk .u8 tab) := by rw [k09 1 (by omega) (by omega)]; exact ht
      simp (disch := (first | omega | rfl | (simp only [Yn]; omega))) only [↓reduceIte, reduceCtorEq, Za, Zb, Zc, Zd, Ze, Zf, Zg, Zh, Zi, Zj, Zk, Zl, Zm, Zn, Zo, Zp, Zq, Zr, Zs, Zt, Zu, Zv, gval, Zw, rb0, rb1, rb2, rb3, rb4, tf0, tf1, tf2, tf3, Yk, Yh, overL_one, if_pos, stX_exactN, ga9]
      refine runC_of (remove_wf t9 f9 hz r.I r.D (by simp) (fun hno => absurd rfl (hno (na, 1) (List.mem_singleton.2 rfl))) fun j e hj he _ s10 h10 dw f10 n10 k10 => ?_)
      obtain rfl : j = 0 := by
        have := (List.getElem?_eq_some_iff.1 hj).1
        simp at this; omega
      have dw : DW s s10 (fun i => i ≤ 1) 0 (enc []) := dw
      have r10 : RF s10 [] 1 t (pp + 1) := r.root dw (fun e he => by cases he) (by simp) fun e he => by cases he
      have hneed : needN (s.size 0) = 1 := by rw [r.D.size]; unfold needN; simp
      have hb64 : s.b < 18446744073709551616 := Nat.lt_trans (bitN_small r.I.wf.b r.I.wf.n2) (by decide)
      have hbit : s.b.testBit 12 = true := by
        have := r.I.bit 0 0 (by omega) (by rw [hneed]; omega)
        rw [hk12] at this; exact this
      have hb10 := root_gone r.I hneed dw hk12
      have h12 : s10.b.testBit 12 = false := by rw [hb10, mark_off hb64]; simp
      have ga10 := (k10 h.nx (by omega) (by omega) (by omega)).trans ga9
      have gd10 := (k10 (h.nx + 1 + 1 + 1 + 1) (by omega) (by omega) (by omega)).trans gd9
      have t10 := (k10 1 (by omega) (by omega) (by omega)).trans t9
      simp only [↓reduceIte, reduceCtorEq, Za, Zb, Zc, Zd, Ze, Zf, Zg, Zh, Zi, Zj, Zk, Zl, Zm, Zn, Zo, Zp, Zq, Zr, Zs, Zt, Zu, Zv, gval, Zw, rb0, rb1, rb2, rb3, rb4, tf0, tf1, tf2, tf3, Yk]
      refine runC_of (need_wf (fun _ => ?_) fun c => absurd rfl c)
      simp (disch := (first | omega | rfl | (simp only [Yn]; omega))) only [↓reduceIte, reduceCtorEq, Za, Zb, Zc, Zd, Ze, Zf, Zg, Zh, Zi, Zj, Zk, Zl, Zm, Zn, Zo, Zp, Zq, Zr, Zs, Zt, Zu, Zv, gval, Zw, rb0, rb1, rb2, rb3, rb4, tf0, tf1, tf2, tf3, Yk, Yh, overL_one, if_pos, stX_exactN, ga10]
      refine runC_of (add_wf t10 f10 hz r10.I r10.D (by simp) (nm := nb) (tn := 1) (fun q => ?_) (fun _ q => ?_) (fun _ _ q => ?_) fun tt et _ _ _ _ s11 h11 dw2 f11 n11 k11 => ?_)
      · exact absurd q (fun q => by
          rcases q with q | q | q
          · exact q bN
          · omega
          · omega)
      · obtain ⟨e, he, _⟩ := q
        cases he
      · exfalso
        rcases q with q | q
        · simp at q
        · have h1 := r10.pop
          rw [r10.n] at q
          simp at q
          unfold needN at q; omega
      · obtain rfl : tt = 1 := by omega
        have ok11 : ∀ e ∈ ([] : List (List UInt8 × Nat)) ++ [(nb, 1)], EntOk e := fun e he => by
          rw [List.mem_singleton.1 (show e ∈ [(nb, 1)] from he)]; exact nm_ent bN
        have r11 : RF s11 [(nb, 1)] 1 t (pp + 2) := r10.root dw2 ok11 (by simp) fun e he => by
          rw [List.mem_singleton.1 (show e ∈ [(nb, 1)] from he)]
        have hb11 := (root_add r10.I (by rw [r10.D.size]; rfl) dw2 ok11 (by simp) h12).1
        simp only [↓reduceIte, reduceCtorEq, Za, Zb, Zc, Zd, Ze, Zf, Zg, Zh, Zi, Zj, Zk, Zl, Zm, Zn, Zo, Zp, Zq, Zr, Zs, Zt, Zu, Zv, gval, Zw, rb0, rb1, rb2, rb3, rb4, tf0, tf1, tf2, tf3, Yk]
        refine runC_of (need_wf (fun _ => ?_) fun c => absurd rfl c)
        simp only [↓reduceIte, reduceCtorEq, Za, Zb, Zc, Zd, Ze, Zf, Zg, Zh, Zi, Zj, Zk, Zl, Zm, Zn, Zo, Zp, Zq, Zr, Zs, Zt, Zu, Zv, gval, Zw, rb0, rb1, rb2, rb3, rb4, tf0, tf1, tf2, tf3, Yk]
        refine ⟨(k11 _ (by omega) (by omega) (by omega)).trans gd10, by omega, fun h12 n12 k12 => ?_⟩
        simp only [↓reduceIte, reduceCtorEq, Za, Zb, Zc, Zd, Ze, Zf, Zg, Zh, Zi, Zj, Zk, Zl, Zm, Zn, Zo, Zp, Zq, Zr, Zs, Zt, Zu, Zv, gval, Zw, rb0, rb1, rb2, rb3, rb4, tf0, tf1, tf2, tf3, Yk]
        exact hR1 nb s11 h12 bN r11 (dw2.a.trans dw.a) (by rw [hb11, hb10, mark_back hb64 hbit]) (f11.keep n12 (k12 _ (by omega) (by omega)) (k12 _ (by omega) (by omega))) (by omega) fun b' w1 w2 w3 => by rw [k12 _ (by omega) (by omega), k11 _ (by omega) w2 w3, k10 _ (by omega) w2 w3]; exact k09 b' w1 w2
end Go.Proofs.YtbgminppkacdlaaGreatDoor
end
section
/- FscoreRenames: the law's own steps. Conditions: the text's length is a length. -/
namespace Go.Proofs.YtbgminppkacdlaaGreatDoor
open Go.AM
open Nat renaming reduceBEq → Za, reduceEqDiff → Zb, reduceAdd → Zc, reduceSub → Zd, reduceMul → Ze, reduceLT → Zf, reduceLeDiff → Zg, reduceDiv → Zh, reduceMod → Zi, reducePow → Zj
open Int renaming reduceAdd → Zk, reduceSub → Zl, reduceMul → Zm, reduceLT → Zn, reduceLE → Zo, reduceEq → Zp, reduceNe → Zq, reduceNeg → Zr, reduceToNat → Zs, reduceDiv → Zt, reduceMod → Zu, reducePow → Zv, cast_ofNat_Int → Zw
set_option linter.unusedSimpArgs false
variable {h : Heap} {R : Out → Heap → Prop} {bd bl : Nat} {s : FS} {F : Nat → Prop}
set_option maxRecDepth 100000 in
set_option maxHeartbeats 4000000 in
theorem frename_walk {p p2 t : List UInt8} (hl : t.length ≤ maxLen) (hR : ∀ h, R (.ret (.bool true)) h) : WF Tryz.prog 2 sp16 4 [.string (mkS p), .string (mkS p2), .string (mkS t)] H0 R := by
  refine wf_fn (fn := Tryz.f4) rfl rfl (by kernel_rfl) rfl ?_
  simp only [↓reduceIte, reduceCtorEq, Za, Zb, Zc, Zd, Ze, Zf, Zg, Zh, Zi, Zj, Zk, Zl, Zm, Zn, Zo, Zp, Zq, Zr, Zs, Zt, Zu, Zv, gval, Zw, rb0, rb1, rb2, rb3, rb4, tf0, tf1, tf2, tf3, Yk, Tryz.f4]
  refine runC_of (nw_wf ?_)
  simp only [↓reduceIte, reduceCtorEq, Za, Zb, Zc, Zd, Ze, Zf, Zg, Zh, Zi, Zj, Zk, Zl, Zm, Zn, Zo, Zp, Zq, Zr, Zs, Zt, Zu, Zv, gval, Zw, rb0, rb1, rb2, rb3, rb4, tf0, tf1, tf2, tf3, Yk, ifc23]
  refine runC_of (fm_wf fun h1 f1 t1 n1 => ?_)
  obtain ⟨r0, rp0⟩ := re_new
  have hz : (3 : Nat) ≠ 0 ∧ (2 : Nat) ≠ 0 := by omega
  by_cases c : (192 : Int) < (t.length : Nat)
  · simp only [↓reduceIte, reduceCtorEq, Za, Zb, Zc, Zd, Ze, Zf, Zg, Zh, Zi, Zj, Zk, Zl, Zm, Zn, Zo, Zp, Zq, Zr, Zs, Zt, Zu, Zv, gval, Zw, rb0, rb1, rb2, rb3, rb4, tf0, tf1, tf2, tf3, Yk, ifc23, c, mkS_size, decide_true]
    refine runC_of (aw17_wf t1 ?_)
    simp only [↓reduceIte, reduceCtorEq, Za, Zb, Zc, Zd, Ze, Zf, Zg, Zh, Zi, Zj, Zk, Zl, Zm, Zn, Zo, Zp, Zq, Zr, Zs, Zt, Zu, Zv, gval, Zw, rb0, rb1, rb2, rb3, rb4, tf0, tf1, tf2, tf3, Yk]
    exact hR _
  have hlen : t.length ≤ 192 := by omega
  simp only [↓reduceIte, reduceCtorEq, Za, Zb, Zc, Zd, Ze, Zf, Zg, Zh, Zi, Zj, Zk, Zl, Zm, Zn, Zo, Zp, Zq, Zr, Zs, Zt, Zu, Zv, gval, Zw, rb0, rb1, rb2, rb3, rb4, tf0, tf1, tf2, tf3, Yk, ifc23, c, mkS_size]
  refine runC_of (create_wf t1 f1 (by omega) r0 rp0 (by show (4095 : Nat).testBit 12 = false; decide) (fun E h2 hE f2 n2 k2 => ?_) fun nm s2 h2 cE cL cN r2 hk2 f2 n2 k2 => ?_)
  · simp only [↓reduceIte, reduceCtorEq, Za, Zb, Zc, Zd, Ze, Zf, Zg, Zh, Zi, Zj, Zk, Zl, Zm, Zn, Zo, Zp, Zq, Zr, Zs, Zt, Zu, Zv, gval, Zw, rb0, rb1, rb2, rb3, rb4, tf0, tf1, tf2, tf3, Yk, hE, runG_undef]
    refine runC_of (aw17_wf ((k2 1 (by omega) (by omega) (by omega)).trans t1) ?_)
    simp only [↓reduceIte, reduceCtorEq, Za, Zb, Zc, Zd, Ze, Zf, Zg, Zh, Zi, Zj, Zk, Zl, Zm, Zn, Zo, Zp, Zq, Zr, Zs, Zt, Zu, Zv, gval, Zw, rb0, rb1, rb2, rb3, rb4, tf0, tf1, tf2, tf3, Yk]
    exact hR _
  have t2 := (k2 1 (by omega) (by omega) (by omega)).trans t1
  simp only [↓reduceIte, reduceCtorEq, Za, Zb, Zc, Zd, Ze, Zf, Zg, Zh, Zi, Zj, Zk, Zl, Zm, Zn, Zo, Zp, Zq, Zr, Zs, Zt, Zu, Zv, gval, Zw, rb0, rb1, rb2, rb3, rb4, tf0, tf1, tf2, tf3, Yk, ifc23]
  refine runC_of (write1_wf t2 f2 (by omega) r2 (by omega) hl (fun E h3 hE _ c3 f3 n3 k3 => absurd c3 (by omega)) fun _ s3 h3 r3 hk3 f3 n3 k3 => ?_)
  have hk3 : s3.blk 0 0 = 12 := hk3.trans hk2
  have t3 := (k3 1 (by omega) (by omega) (by omega)).trans t2
  simp only [↓reduceIte, reduceCtorEq, Za, Zb, Zc, Zd, Ze, Zf, Zg, Zh, Zi, Zj, Zk, Zl, Zm, Zn, Zo, Zp, Zq, Zr, Zs, Zt, Zu, Zv, gval, Zw, rb0, rb1, rb2, rb3, rb4, tf0, tf1, tf2, tf3, Yk, ifc23]
  refine runC_of (fleft_spec pl16 f3 fun h4 f4 n4 k4 => ?_)
  have t4 : h4.get 1 = some (tabBlk .u8 tab) := (k4 _ (by omega) (by omega)).trans t3
  simp only [↓reduceIte, reduceCtorEq, Za, Zb, Zc, Zd, Ze, Zf, Zg, Zh, Zi, Zj, Zk, Zl, Zm, Zn, Zo, Zp, Zq, Zr, Zs, Zt, Zu, Zv, gval, Zw, rb0, rb1, rb2, rb3, rb4, tf0, tf1, tf2, tf3, Yk, ifc23]
  refine runC_of (rename_wf t4 f4 (by omega) (by omega) r3 hk3 cE cL (pb := p2) ⟨_, _, _, rfl⟩ (fun E h5 hE n5 k5 => ?_) fun nb s5 h5 bN r5 ha5 hb5 f5 n5 k5 => ?_)
  · simp only [↓reduceIte, reduceCtorEq, Za, Zb, Zc, Zd, Ze, Zf, Zg, Zh, Zi, Zj, Zk, Zl, Zm, Zn, Zo, Zp, Zq, Zr, Zs, Zt, Zu, Zv, gval, Zw, rb0, rb1, rb2, rb3, rb4, tf0, tf1, tf2, tf3, Yk, hE]
    refine runC_of (aw17_wf ((k5 1 (by omega) (by omega) (by omega)).trans t4) ?_)
    simp only [↓reduceIte, reduceCtorEq, Za, Zb, Zc, Zd, Ze, Zf, Zg, Zh, Zi, Zj, Zk, Zl, Zm, Zn, Zo, Zp, Zq, Zr, Zs, Zt, Zu, Zv, gval, Zw, rb0, rb1, rb2, rb3, rb4, tf0, tf1, tf2, tf3, Yk]
    exact hR _
  have t5 := (k5 1 (by omega) (by omega) (by omega)).trans t4
  simp only [↓reduceIte, reduceCtorEq, Za, Zb, Zc, Zd, Ze, Zf, Zg, Zh, Zi, Zj, Zk, Zl, Zm, Zn, Zo, Zp, Zq, Zr, Zs, Zt, Zu, Zv, gval, Zw, rb0, rb1, rb2, rb3, rb4, tf0, tf1, tf2, tf3, Yk, ifc23]
  refine runC_of (tree1_wf f5 r5 (nm_ent bN).1 hlen fun h6 v f6 n6 k6 hv => ?_)
  obtain ⟨b6, L, u6, v6, rfl, g6, l6, e6⟩ := hv.is
  have e60 : L[2]? = some (.string (mkS t)) := e6 0 (by omega)
  have t6 : h6.get 1 = some (tabBlk .u8 tab) := (k6 _ (by omega) (by omega)).trans t5
  simp only [↓reduceIte, reduceCtorEq, Za, Zb, Zc, Zd, Ze, Zf, Zg, Zh, Zi, Zj, Zk, Zl, Zm, Zn, Zo, Zp, Zq, Zr, Zs, Zt, Zu, Zv, gval, Zw, rb0, rb1, rb2, rb3, rb4, tf0, tf1, tf2, tf3, Yk, ifc23]
  refine runC_of (fleft_spec pl16 f6 fun h7 f7 n7 k7 => ?_)
  have t7 : h7.get 1 = some (tabBlk .u8 tab) := (k7 _ (by omega) (by omega)).trans t6
  have en : s5.n = s3.n := r5.n.trans r3.n.symm
  simp only [↓reduceIte, reduceCtorEq, Za, Zb, Zc, Zd, Ze, Zf, Zg, Zh, Zi, Zj, Zk, Zl, Zm, Zn, Zo, Zp, Zq, Zr, Zs, Zt, Zu, Zv, gval, Zw, rb0, rb1, rb2, rb3, rb4, tf0, tf1, tf2, tf3, Yk, ifc23, ha5, hb5, en]
  refine runC_of (figet_any pl16 f7 (i := 1) (fun c => absurd ⟨by omega, by omega⟩ c) fun k' ek _ h8 f8 n8 k8 => ?_)
  obtain rfl : 1 = k' := by omega
  have t8 : h8.get 1 = some (tabBlk .u8 tab) := (k8 _ (by omega) (by omega)).trans t7
  have g8 := (k8 b6 (by omega) (by omega)).trans ((k7 b6 (by omega) (by omega)).trans g6)
  have hwl : (i64s (row9 (s5.ino 1))).length = 9 := by rw [List.length_map, row9_len]
  have hx1 : (i64s (row9 (s5.ino 1)))[1]? = some (.int .i64 1) := by rw [List.getElem?_map, row9_get (by omega), r5.lk]; rfl
  simp (disch := (first | omega | rfl | (simp only [Yn]; omega))) only [↓reduceIte, reduceCtorEq, Za, Zb, Zc, Zd, Ze, Zf, Zg, Zh, Zi, Zj, Zk, Zl, Zm, Zn, Zo, Zp, Zq, Zr, Zs, Zt, Zu, Zv, gval, Zw, rb0, rb1, rb2, rb3, rb4, tf0, tf1, tf2, tf3, Yk, Yh, overL_one, if_pos, stX_exactN, hwl]
  rw [overL_nine rfl hwl, Heap.upd_new]
  obtain ⟨h9, hh9⟩ : ∃ h9, h8.new (cellsB (i64s (row9 (s5.ino 1))) .exact) = h9 := ⟨_, rfl⟩
  have n9 : h9.nx = h8.nx + 1 := by rw [← hh9, Heap.nx_new]
  have g9 : h9.get h8.nx = some (cellsB (i64s (row9 (s5.ino 1))) .exact) := by rw [← hh9, Heap.get_new_same]
  have k9 : ∀ b', b' < h8.nx → h9.get b' = h8.get b' := fun b' hb' => by rw [← hh9, Heap.get_new_ne _ _ (by omega)]
  rw [hh9]
  simp (disch := (first | omega | rfl | (simp only [Yn]; omega))) only [↓reduceIte, reduceCtorEq, Za, Zb, Zc, Zd, Ze, Zf, Zg, Zh, Zi, Zj, Zk, Zl, Zm, Zn, Zo, Zp, Zq, Zr, Zs, Zt, Zu, Zv, gval, Zw, rb0, rb1, rb2, rb3, rb4, tf0, tf1, tf2, tf3, Yk, Yh, overL_one, if_pos, stX_exactN, g8, l6, e60, g9, hx1, hwl, str_eqG, decide_true]
  refine runC_of (aw17_wf ((k9 _ (by omega)).trans t8) ?_)
  simp only [↓reduceIte, reduceCtorEq, Za, Zb, Zc, Zd, Ze, Zf, Zg, Zh, Zi, Zj, Zk, Zl, Zm, Zn, Zo, Zp, Zq, Zr, Zs, Zt, Zu, Zv, gval, Zw, rb0, rb1, rb2, rb3, rb4, tf0, tf1, tf2, tf3, Yk]
  exact hR _
end Go.Proofs.YtbgminppkacdlaaGreatDoor
end
section
/- FscoreRenames: whatever the paths and the text, the law gives true. (Its card: the table of math/bits is as the program's text lays it.) -/
namespace Go.Proofs.YtbgminppkacdlaaGreatDoor
open Go.ChangeShapes Go.WideShapes Go.ChangeAt Go.RowKit Go.AM
set_option maxRecDepth 100000 in
theorem doorZ_wf {W : World} {f : FuncId} {args args' : List Value} {cs : Array Value} {el : TypeId} {fr : Nat × Nat} (t1 : W.heap[1]? = some (.cells cs el fr)) (t2 : cs.size = 64) (t3 : ∀ i, i < 64 → cs[i]? = (tab.map (Value.int .u8))[i]?)
    (hw : WF Tryz.prog 2 sp16 f args H0 fun o _ => o = .ret (.bool true)) (ha : VRels (statMp [.dead, .live ⟨1, 0, 0, 64, 64, false⟩]) args args') :
    Calls Tryz.prog f args'.toArray W fun e W' => e = .returned (.bool true) ∧ Still W W' := by
  refine wf_list (ng := 2) (by kernel_rfl) sp16_ok (l := [.dead, tabBlk .u8 tab]) (st := [.dead, .live ⟨1, 0, 0, 64, 64, false⟩]) rfl (fun i st b hs hb => ?_) (fun i l b hs hb => ?_) (fun g hg => ?_) hw ha
  · match i with
    | 0 => cases hs; cases hb; trivial
    | 1 => cases hs; cases hb; exact tab_rel (bs := tab) t1 t2 t3
    | i + 2 => simp at hs
  · match i with
    | 0 => cases hs
    | 1 => cases hs; cases hb; exact ⟨rfl, rfl⟩
    | i + 2 => simp at hs
  · rcases (show g = 0 ∨ g = 1 by omega) with rfl | rfl
    · exact .inr rfl
    · exact .inl ⟨_, rfl, rfl, rfl, rfl⟩
set_option maxRecDepth 100000 in
theorem fscoreRenames_calls {H : Type} {enc : TypeId × Value → H} {W : World} {base : Nat} {v0 v1 v2 : Value} {d0 d1 d2 : DataW H} {p0 p1 p2 : List MemPlace} (h0 : Value.okWide Tryz.prog W .any base 9 v0) (_t0 : DataW.Trod enc Tryz.prog W 0 (fun _ => true) true 9 v0 d0 p0) (h1 : Value.okWide Tryz.prog W .any base 9 v1) (_t1 : DataW.Trod enc Tryz.prog W 0 (fun _ => true) true 9 v1 d1 p1) (h2 : Value.okWide Tryz.prog W .any base 9 v2) (t2 : DataW.Trod enc Tryz.prog W 0 (fun _ => true) true 9 v2 d2 p2) (hL : laidMetH Tryz.prog Rows.fscoreRenamesRow.laid W) :
    Calls Tryz.prog 4 #[v0, v1, v2] W fun e W' => e = .returned (.bool true) ∧ Still W W' := by
  obtain ⟨tc, el, fr, w1, w2, w3⟩ := tab_laid hL
  have u9 : Tryz.prog.underlying 9 = some .string := by kernel_rfl
  obtain ⟨S, rfl⟩ := okWide_string u9 h0
  obtain ⟨S1, rfl⟩ := okWide_string u9 h1
  obtain ⟨S2, rfl⟩ := okWide_string u9 h2
  obtain ⟨fuel, t2⟩ := t2
  have hlen : S2.size ≤ maxLen := by
    obtain ⟨z, hz, _, hs⟩ := DataW.trod_string u9 t2
    have : S2 = z := by
      have hc : [Value.string S2] = [Value.string z] := hz
      cases hc; rfl
    rw [this]; exact hs
  rw [← mkS_data S, ← mkS_data S1, ← mkS_data S2]
  exact doorZ_wf (args := [.string _, .string _, .string _]) (args' := [_, _, _]) w1 w2 w3 (frename_walk (by simpa using hlen) fun _ => rfl) (.cons _ _ _ _ (.string _) (.cons _ _ _ _ (.string _) (.cons _ _ _ _ (.string _) .nil)))

set_option maxRecDepth 100000 in
theorem fscoreRenames_lifted (os : Os) (started : os.Started) (H : Type) (enc : TypeId × Value → H) :
    ReturnsInHanded {} Tryz.checked os 4 .any (fun w args => (Rows.fscoreRenamesSpec.pre enc Tryz.prog Tryz.f4 Rows.fscoreRenamesRow.domain false w args ∧ laidMetH Tryz.prog Rows.fscoreRenamesRow.laid w) ∧ sizedMet enc Tryz.prog Tryz.f4 (OpenSpec.ofChange Rows.fscoreRenamesSpec) false w args)
      (Rows.fscoreRenamesSpec.post enc Tryz.prog Tryz.f4 false true false false) := by
  refine returnsInHanded_of_change_and (C := Tryz.checked) (X := fun w _ => laidMetH Tryz.prog Rows.fscoreRenamesRow.laid w) (fun _ _ _ hh h => h.of_heap hh) Tryz.own started (by kernel_rfl) Tryz.func4
    (ChangeSpec.witness_shaped (enc := enc) (C := Tryz.checked) (os := os) (X := fun w _ => laidMetH Tryz.prog Rows.fscoreRenamesRow.laid w) false (World.laidAll Tryz.prog os Rows.fscoreRenamesRow.laid) #[.string .empty, .string .empty, .string .empty] 8 (World.laidAll_os _ _ _)
      (World.shaped_of_ZipB (by kernel_rfl) (by kernel_rfl)) (by kernel_rfl) (by kernel_rfl) (by kernel_rfl)
      (by rw [MakeChecks.laidMetH_plain _ _ _ (by kernel_rfl)]; exact laidMet_laidAll _ (by kernel_rfl) (by kernel_rfl))) ?_
  intro W base args ds gs before hval0 hW hcnd _ hL _
  have hval : ∀ (j : Nat) t v, Tryz.f4.params[j]? = some t → args[j]? = some v → Value.okWide Tryz.prog W .any base t v := hval0
  have hW' := hW
  obtain ⟨p, q, hA0, hV, rfl, hfz, hnd⟩ := hW
  have hA1 : DataW.TrodAll enc Tryz.prog W 0 (fun _ => true) true Tryz.f4.params.toList args.toList ds p := hA0
  have hA := hA1
  rw [Tryz.params4] at hA hval
  obtain ⟨v0, v1, v2, d0, d1, d2, p0, p1, p2, rfl, rfl, rfl, h0, h1, h2⟩ := trodAll_three hA
  obtain ⟨rfl, rfl⟩ := trodVars_none hV
  refine (fscoreRenames_calls (hval 0 9 v0 rfl rfl) h0 (hval 1 9 v1 rfl rfl) h1 (hval 2 9 v2 rfl rfl) h2 hL).mono fun e W' ⟨he, hw⟩ => ?_
  subst he
  simp only [List.append_nil] at hW' ⊢
  exact ⟨_, rfl, post_true (bt := 4) Tryz.kids Tryz.full (by rw [Tryz.params4]; decide) (by kernel_rfl) (by kernel_rfl) rfl rfl hW' hA1 rfl rfl rfl hw⟩

end Go.Proofs.YtbgminppkacdlaaGreatDoor
end
section
/- Closed facts of this seat's program, each by itself: together they outgrow a process. -/
namespace Go.Proofs.YtbgminppkacdlaaGreatDoor
open Go.ChangeShapes Go.WideShapes Go.ChangeAt Go.RowKit
theorem Tryz.laidOut : laidOutB Tryz.prog = true := by kernel_rfl
theorem Tryz.mapsRowed : mapsRowed Tryz.prog = true := by kernel_rfl
theorem Tryz.plainKeys : (Rows.fscoreOpenRow.plainKeys == Tryz.prog.plainKeys) = true := by kernel_rfl
theorem Tryz.stopsHeard : Tryz.prog.stopsHeard = true := by kernel_rfl
theorem Tryz.mayEnter : Tryz.prog.mayEnter = true := by kernel_rfl
theorem Tryz.lifted : (Rows.fscoreOpenRow.lifted == Tryz.prog.liftsFinal) = true := by kernel_rfl
theorem Tryz.make : (Tryz.prog.make == some Rows.fscoreOpenRow.make) = true := by kernel_rfl
theorem Tryz.looks : true = Tryz.prog.looks [] := by kernel_rfl
end Go.Proofs.YtbgminppkacdlaaGreatDoor
end
section
/- FscoreRenames: whatever the paths and the text, the law gives true. (Its card: the table of math/bits is as the program's text lays it.) -/
namespace Go.Proofs.YtbgminppkacdlaaGreatDoor
open Go.ChangeShapes Go.WideShapes Go.ChangeAt Go.RowKit Go.AM
theorem fscoreRenames_inPlace : (Rows.fscoreRenamesRow.inPlace == Tryz.prog.inPlace 4) = true := by kernel_rfl
theorem fscoreRenames_unfollowed : (Rows.fscoreRenamesRow.unfollowed == Tryz.prog.unfollowed 4) = true := by kernel_rfl
theorem fscoreRenames_recurses : (Rows.fscoreRenamesRow.recurses == Tryz.prog.recurses 4) = true := by kernel_rfl
theorem fscoreRenames_named : (Rows.fscoreRenamesRow.named == Tryz.prog.varsNamed 4) = true := by kernel_rfl
theorem fscoreRenames_joined : joinedFacts Tryz.prog 4 Tryz.f4 Rows.fscoreRenamesSpec Rows.fscoreRenamesRow = true := by
  simp only [joinedFacts, Bool.and_eq_true]
  exact ⟨⟨⟨⟨⟨⟨⟨⟨⟨⟨⟨⟨⟨⟨⟨⟨⟨⟨⟨⟨⟨⟨⟨⟨⟨⟨⟨⟨⟨⟨⟨by kernel_rfl, Tryz.laidOut⟩, Tryz.mapsRowed⟩, by kernel_rfl⟩, by kernel_rfl⟩, by kernel_rfl⟩, by kernel_rfl⟩, by kernel_rfl⟩, by kernel_rfl⟩, fscoreRenames_inPlace⟩, fscoreRenames_unfollowed⟩, fscoreRenames_recurses⟩, fscoreRenames_named⟩, by kernel_rfl⟩, by kernel_rfl⟩, by kernel_rfl⟩, by kernel_rfl⟩, by kernel_rfl⟩, by kernel_rfl⟩, by kernel_rfl⟩, by kernel_rfl⟩, by kernel_rfl⟩, Tryz.plainKeys⟩, by kernel_rfl⟩, Tryz.stopsHeard⟩, Tryz.mayEnter⟩, Tryz.lifted⟩, Tryz.make⟩, by kernel_rfl⟩, by kernel_rfl⟩, by kernel_rfl⟩, by kernel_rfl⟩
theorem fscoreRenames_holds : Rows.FscoreRenamesSaid :=
  OpenClaim.holds_of_wide 4 Tryz.f4 rfl rfl rfl rfl rfl rfl rfl ⟨rfl, rfl, rfl, rfl, rfl⟩ rfl rfl rfl rfl rfl (by kernel_rfl) Tryz.func4 fscoreRenames_joined
    (of_decide_eq_true (by kernel_rfl)) (by unfold Func.isWrapper; first | (rw [if_pos (by decide +kernel)]; kernel_rfl) | (rw [if_neg (by decide +kernel)]; exact ⟨rfl, rfl⟩))
    (fun os started H enc _ => fscoreRenames_lifted os started H enc)
end Go.Proofs.YtbgminppkacdlaaGreatDoor
end
