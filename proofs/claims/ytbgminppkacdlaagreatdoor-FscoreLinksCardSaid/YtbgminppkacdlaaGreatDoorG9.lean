/- Lemmas of the claim: the machine of the proof and the walks of the program. Conditions: as each says. -/
import Derived.Test.YtbgminppkacdlaaGreatDoorG8
import Derived.Test.YtbgminppkacdlaaGreatDoorG7
import Derived.Test.YtbgminppkacdlaaGreatDoorG4
import Derived.Test.YtbgminppkacdlaaGreatDoorRows
import Derived.Test.YtbgminppkacdlaaGreatDoorCards
import Derived.Test.YtbgminppkacdlaaGreatDoorTie
import Derived.ProofKit
import GoSem.ClaimSeven
section
/- File systems of a root and one file: links, what is let go. No condition on the program. -/
namespace Go.Proofs.YtbgminppkacdlaaGreatDoor
open Go.AM
open Nat renaming reduceBEq → Za, reduceEqDiff → Zb, reduceAdd → Zc, reduceSub → Zd, reduceMul → Ze, reduceLT → Zf, reduceLeDiff → Zg, reduceDiv → Zh, reduceMod → Zi, reducePow → Zj
open Int renaming reduceAdd → Zk, reduceSub → Zl, reduceMul → Zm, reduceLT → Zn, reduceLE → Zo, reduceEq → Zp, reduceNe → Zq, reduceNeg → Zr, reduceToNat → Zs, reduceDiv → Zt, reduceMod → Zu, reducePow → Zv, cast_ofNat_Int → Zw
set_option linter.unusedSimpArgs false
variable {s : FS} {F : Nat → Prop}
def FS.lnk (s : FS) (i : Nat) (v : Int) : FS := s.putI i (updN (s.ino i) 1 v)
theorem lnk_ino {i : Nat} {v : Int} (j k : Nat) : (s.lnk i v).ino j k = if j = i ∧ k = 1 then v else s.ino j k := by
  show (if j = i then updN (s.ino i) 1 v else s.ino j) k = _
  by_cases e : j = i
  · subst e
    rw [if_pos rfl]
    unfold updN
    by_cases c : k = 1
    · rw [if_pos c, if_pos ⟨rfl, c⟩]
    · rw [if_neg c, if_neg fun q => c q.2]
  · rw [if_neg e, if_neg fun q => e q.1]
theorem lnk_size {i : Nat} {v : Int} (j : Nat) : (s.lnk i v).size j = s.size j := by
  unfold FS.size
  rw [lnk_ino, if_neg (by omega)]
theorem lnk_blk {i : Nat} {v : Int} (j k : Nat) : (s.lnk i v).blk j k = s.blk j k := by
  unfold FS.blk
  rw [lnk_ino, if_neg (by omega)]
theorem lnk_txt {i : Nat} {v : Int} (j : Nat) : (s.lnk i v).txt j = s.txt j := by
  refine txt_same (lnk_size j) fun p _ => ?_
  unfold FS.byteAt
  rw [lnk_ino, if_neg (by omega)]; rfl
theorem lnk_inv (I : s.Inv F) {i : Nat} {v : Int} (hv : 0 ≤ v ∧ v < 9223372036854775808) : (s.lnk i v).Inv F := by
  refine ⟨⟨I.wf.n1, I.wf.n2, I.wf.a, I.wf.b, fun j m => ?_, I.wf.dat⟩, I.low, fun j h => ⟨?_, fun m hm => ?_⟩, fun j m h hm => ?_, fun j m j' m' h h' hm hm' e => ?_, fun j p h h1 h2 => ?_⟩
  · rw [lnk_ino]
    split
    · exact hv
    · exact I.wf.ino j m
  · rw [lnk_ino, if_neg (by omega)]; exact (I.ino j h).sz
  · rw [lnk_size] at hm
    rw [lnk_ino, if_neg (by omega)]; exact (I.ino j h).bl m hm
  · rw [lnk_size] at hm
    rw [lnk_blk]; exact I.bit j m h hm
  · rw [lnk_size] at hm hm'
    rw [lnk_blk, lnk_blk] at e
    exact I.sep j m j' m' h h' hm hm' e
  · rw [lnk_size] at h1 h2
    rw [lnk_blk]; exact I.tail j p h h1 h2
theorem Dr.lnk {i j : Nat} {v : Int} {l : List (List UInt8 × Nat)} (d : Dr s F j l) : Dr (s.lnk i v) F j l := ⟨d.f, d.lt, by rw [lnk_ino, if_neg (by omega)]; exact d.kind, (lnk_txt j).trans d.txt, d.ok⟩
theorem free_inv (I : s.Inv F) {i : Nat} (hi : F i) (hi32 : i < 32) : (s.free i).Inv (fun j => F j ∧ j ≠ i) ∧ (∀ j, j ≠ i → (s.free i).ino j = s.ino j) ∧ (∀ j, F j → j ≠ i → (s.free i).txt j = s.txt j) ∧ (s.free i).a = markW s.a i false ∧ (s.free i).n = s.n ∧ ∀ k, (s.free i).ino i k = 0 := by
  have hle : popc 64 s.b + (needN 0 - needN (s.size i)) ≤ s.n := by have := popc_inv I; rw [show needN 0 = 0 from rfl]; omega
  obtain ⟨b1, b2, b3, b4, b5⟩ := resize_inv I (i := i) (sz := 0) hi (by omega) hle
  have hin : ∀ j, j ≠ i → (s.free i).ino j = (s.resize i 0).ino j := fun j hj => by
    show (if j = i then _ else (s.resize i 0).ino j) = _
    rw [if_neg hj]
  have hri : ∀ j, j ≠ i → (s.resize i 0).ino j = s.ino j := fun j hj => by
    show (if j = i then _ else s.ino j) = _
    rw [if_neg hj]
  have hz : ∀ k, (s.free i).ino i k = 0 := fun k => by
    show (if i = i then (fun _ => (0 : Int)) else (s.resize i 0).ino i) k = 0
    rw [if_pos rfl]
  have sj : ∀ j, j ≠ i → (s.free i).size j = (s.resize i 0).size j := fun j h => by unfold FS.size; rw [hin j h]
  have bj : ∀ j m, j ≠ i → (s.free i).blk j m = (s.resize i 0).blk j m := fun j m h => by unfold FS.blk; rw [hin j h]
  refine ⟨⟨⟨b1.wf.n1, b1.wf.n2, ?_, b1.wf.b, fun j m => ?_, b1.wf.dat⟩, b1.low, fun j h => ⟨?_, fun m hm => ?_⟩, fun j m h hm => ?_, fun j m j' m' h h' hm hm' e => ?_, fun j p h h1 h2 => ?_⟩, fun j h => (hin j h).trans (hri j h), fun j hF h => ?_, rfl, rfl, hz⟩
  · show markW s.a i false < _
    exact markW_lt (n := 32) (on := false) I.wf.a hi32 (by omega)
  · by_cases e : j = i
    · rw [e, hz]; omega
    · rw [hin j e]; exact b1.wf.ino j m
  · rw [hin j h.2]; exact (b1.ino j h.1).sz
  · rw [sj j h.2] at hm
    rw [hin j h.2]; exact (b1.ino j h.1).bl m hm
  · rw [sj j h.2] at hm
    rw [bj j m h.2]; exact b1.bit j m h.1 hm
  · rw [sj j h.2] at hm
    rw [sj j' h'.2] at hm'
    rw [bj j m h.2, bj j' m' h'.2] at e
    exact b1.sep j m j' m' h.1 h'.1 hm hm' e
  · rw [sj j h.2] at h1 h2
    rw [bj j _ h.2]; exact b1.tail j p h.1 h1 h2
  · refine (txt_same (sj j h) fun p _ => ?_).trans (txt_same (b4 j h) fun p hp => b5 j p hF h hp)
    unfold FS.byteAt
    rw [hin j h]; rfl
structure RF (s : FS) (l : List (List UInt8 × Nat)) (lk : Nat) (t : List UInt8) (p : Nat) : Prop where
  I : s.Inv fun i => i ≤ 1
  D : Dr s (fun i => i ≤ 1) 0 l
  kind : s.ino 1 0 = 1
  lk : s.ino 1 1 = lk
  tx : s.txt 1 = t
  a : s.a = 3
  n : s.n = 60
  pop : popc 64 s.b ≤ p
  fr : ∀ j, 1 < j → s.ino j 0 = 0
  uq : ∀ e ∈ l, e.2 = 1
structure RE (s : FS) : Prop where
  I : s.Inv fun i => i = 0
  D : Dr s (fun i => i = 0) 0 []
  a : s.a = 1
  n : s.n = 60
  fr : ∀ j, 0 < j → s.ino j 0 = 0
theorem RF.size {l : List (List UInt8 × Nat)} {lk p : Nat} {t : List UInt8} (r : RF s l lk t p) : s.size 1 = t.length := by rw [← txt_len, r.tx]
theorem RF.links {l : List (List UInt8 × Nat)} {lk v p : Nat} {t : List UInt8} (r : RF s l lk t p) (hv : v < 9223372036854775808) : RF (s.lnk 1 v) l v t p := by
  refine ⟨lnk_inv r.I ⟨by omega, by omega⟩, r.D.lnk, ?_, ?_, (lnk_txt 1).trans r.tx, r.a, r.n, r.pop, fun j hj => ?_, r.uq⟩
  · rw [lnk_ino, if_neg (by omega)]; exact r.kind
  · rw [lnk_ino, if_pos ⟨rfl, rfl⟩]
  · rw [lnk_ino, if_neg (by omega)]; exact r.fr j hj
theorem RF.root {s2 : FS} {l l2 : List (List UInt8 × Nat)} {lk p : Nat} {t : List UInt8} (r : RF s l lk t p) (dw : DW s s2 (fun i => i ≤ 1) 0 (enc l2)) (ok : ∀ e ∈ l2, EntOk e) (hl : l2.length ≤ 3) (uq : ∀ e ∈ l2, e.2 = 1) : RF s2 l2 lk t (p + 1) := by
  refine ⟨dw.inv, r.D.anew dw ok, (dw.kind 1).trans r.kind, (dw.lnk 1).trans r.lk, (dw.oth 1 (by omega) (by omega)).trans r.tx, dw.a.trans r.a, dw.n.trans r.n, ?_, fun j hj => (dw.kind j).trans (r.fr j hj), uq⟩
  have h1 := dw.pop
  have h2 := r.pop
  rw [enc_len ok] at h1
  have h3 : needN (9 * l2.length) ≤ 1 := by unfold needN; omega
  omega
theorem RF.write {l : List (List UInt8 × Nat)} {lk p : Nat} {t : List UInt8} (r : RF s l lk [] p) (ht : t.length ≤ 192) (hp : p ≤ 30) : RF (s.write 1 0 t) l lk t (p + 6) := by
  have hs : s.size 1 = 0 := r.size
  have h6 : needN t.length ≤ 6 := by unfold needN; omega
  have h0 : needN 0 = 0 := rfl
  have hroom : s.size 1 < t.length → popc 64 s.b + (needN t.length - needN (s.size 1)) ≤ s.n := fun _ => by have := r.pop; rw [r.n]; omega
  obtain ⟨a1, a2, a3, a4, a5⟩ := write_inv r.I (i := 1) (off := 0) (l := t) (by omega) (by omega) (by rw [Nat.zero_add]; exact hroom)
  rw [Nat.zero_add] at a2 a4
  have wk := fun j => write_kind (s := s) (i := 1) (l := t) j
  refine ⟨a1, ⟨by omega, by omega, (wk 0).1.trans r.D.kind, (txt_same (a3 0 (by omega)) fun q hq => a5 0 q (by omega) (by omega) hq).trans r.D.txt, r.D.ok⟩, (wk 1).1.trans r.kind, (wk 1).2.2.2.trans r.lk, txt_ext (by rw [a2]; omega) fun q hq => ?_, (wk 1).2.2.1.trans r.a, (wk 1).2.1.trans r.n, ?_, fun j hj => (wk j).1.trans (r.fr j hj), r.uq⟩
  · rw [a2] at hq
    have hq2 : q < t.length := by omega
    rw [a4 q (by omega), if_pos ⟨by omega, by omega⟩, Nat.sub_zero, List.getElem?_eq_getElem hq2]; rfl
  · have := write_pop r.I.wf r.I.low (i := 1) (l := t) hroom
    have h2 := r.pop
    omega
theorem RF.free {lk p : Nat} {t : List UInt8} (r : RF s [] lk t p) : RE (s.free 1) := by
  obtain ⟨I, hj, tx, ha, hn, hz⟩ := free_inv r.I (i := 1) (by omega) (by omega)
  refine ⟨I.congr fun i => ⟨fun q => by omega, fun q => by omega⟩, ⟨rfl, by omega, ?_, ?_, fun e he => by cases he⟩, ?_, hn.trans r.n, fun j h => ?_⟩
  · rw [hj 0 (by omega)]; exact r.D.kind
  · exact (tx 0 (by omega) (by omega)).trans r.D.txt
  · rw [ha, r.a]; decide
  · by_cases e : j = 1
    · rw [e]; exact hz 0
    · rw [hj j e]; exact r.fr j (by omega)
theorem RE.alloc (r : RE s) (hp : popc 64 s.b ≤ 12) : lowZ s.a = 1 ∧ RF (s.alloc 1) [] 0 [] 12 := by
  have hz : lowZ s.a = 1 := by rw [r.a]; decide
  obtain ⟨I4, z4, zj, zb, a4, b4⟩ := alloc_inv r.I (k := 1) (by omega) (by rw [hz]; omega) (by rw [hz]; omega)
  rw [hz] at I4 z4 zj zb a4
  have hin : ∀ j k, (s.alloc 1).ino j k = if j = 1 then inoK 1 k else s.ino j k := fun j k => by
    show (if j = lowZ s.a then inoK 1 else s.ino j) k = _
    rw [hz]
    split <;> rfl
  refine ⟨hz, I4.congr fun i => ⟨fun q => by omega, fun q => by omega⟩, ⟨by omega, by omega, ?_, ?_, fun e he => by cases he⟩, ?_, ?_, ?_, ?_, r.n, by rw [b4]; exact hp, fun j hj => ?_, fun e he => by cases he⟩
  · rw [hin, if_neg (by omega)]; exact r.D.kind
  · exact (txt_same (zj 0 (by omega)) fun p _ => zb 0 p (by omega)).trans r.D.txt
  · rw [hin, if_pos rfl]; rfl
  · rw [hin, if_pos rfl]; rfl
  · exact List.eq_nil_of_length_eq_zero (by rw [txt_len]; exact z4)
  · rw [a4, r.a]; decide
  · rw [hin, if_neg (by omega)]; exact r.fr j (by omega)
end Go.Proofs.YtbgminppkacdlaaGreatDoor
end
section
/- File systems of a root and one file: the root's block. No condition on the program. -/
namespace Go.Proofs.YtbgminppkacdlaaGreatDoor
open Go.AM
open Nat renaming reduceBEq → Za, reduceEqDiff → Zb, reduceAdd → Zc, reduceSub → Zd, reduceMul → Ze, reduceLT → Zf, reduceLeDiff → Zg, reduceDiv → Zh, reduceMod → Zi, reducePow → Zj
open Int renaming reduceAdd → Zk, reduceSub → Zl, reduceMul → Zm, reduceLT → Zn, reduceLE → Zo, reduceEq → Zp, reduceNe → Zq, reduceNeg → Zr, reduceToNat → Zs, reduceDiv → Zt, reduceMod → Zu, reducePow → Zv, cast_ofNat_Int → Zw
set_option linter.unusedSimpArgs false
variable {s : FS} {F : Nat → Prop}
theorem rz_same {i sz : Nat} (h : needN sz = needN (s.size i)) : s.rz i sz = ⟨s.b, s.dat, s.ino i⟩ := by
  unfold FS.rz
  rw [h, Nat.sub_self]; rfl
theorem rz_one {i sz : Nat} (h0 : needN (s.size i) = 0) (h1 : needN sz = 1) : s.rz i sz = ⟨markW s.b (lowZ s.b) true, (Rz.grow1 0 ⟨s.b, s.dat, s.ino i⟩).dat, updN (s.ino i) 3 (lowZ s.b)⟩ := by
  unfold FS.rz
  rw [h0, h1]; rfl
structure RB (s : FS) (l : List (List UInt8 × Nat)) : Prop where
  no : l = [] → s.b.testBit 12 = false
  at12 : l ≠ [] → s.blk 0 0 = 12
theorem low12 (I : s.Inv F) (h : s.b.testBit 12 = false) : lowZ s.b = 12 := by
  have hs := bitN_small I.wf.b I.wf.n2
  have h1 := lowZ_ge hs I.low
  obtain ⟨_, _, h3⟩ := lowZ_spec hs
  rcases Nat.lt_or_ge 12 (lowZ s.b) with c | c
  · rw [h3 12 c] at h; cases h
  · omega
theorem root_add (I : s.Inv F) {s2 : FS} {l2 : List (List UInt8 × Nat)} (h0 : s.size 0 = 0) (dw : DW s s2 F 0 (enc l2)) (ok : ∀ e ∈ l2, EntOk e) (hl : 1 ≤ l2.length ∧ l2.length ≤ 3) (hb : s.b.testBit 12 = false) : s2.b = markW s.b 12 true ∧ s2.blk 0 0 = 12 := by
  have hT : (enc l2).length = 9 * l2.length := enc_len ok
  have hn1 : needN (enc l2).length = 1 := by rw [hT]; unfold needN; omega
  have hz := low12 I hb
  rcases dw.sh with ⟨h, _⟩ | h
  · rw [h] at hT; simp at hT; omega
  · obtain ⟨T, hTT⟩ : ∃ T, enc l2 = T := ⟨_, rfl⟩
    rw [hTT] at h hT hn1
    have n0 : needN (s.size 0) = 0 := by rw [h0]; rfl
    have hr : s.room 0 (0 + T.length) = s.resize 0 T.length := by
      unfold FS.room
      rw [Nat.zero_add, if_pos (by omega)]
    have b1 : (s.write 0 0 T).b = markW s.b 12 true := by
      show (s.room 0 (0 + T.length)).b = _
      rw [hr]
      show (s.rz 0 T.length).b = _
      rw [rz_one n0 hn1, hz]
    have i1 : ∀ k, (s.write 0 0 T).ino 0 k = updN (updN (s.ino 0) 3 12) 2 (T.length : Nat) k := fun k => by
      show (s.room 0 (0 + T.length)).ino 0 k = _
      rw [hr]
      show (if 0 = 0 then updN (s.rz 0 T.length).x 2 (T.length : Nat) else s.ino 0) k = _
      rw [if_pos rfl, rz_one n0 hn1, hz]; rfl
    have z1 : needN T.length = needN ((s.write 0 0 T).size 0) := by
      unfold FS.size
      rw [i1]
      show _ = needN ((T.length : Nat) : Int).toNat
      rw [Int.toNat_natCast]
    subst h
    refine ⟨?_, ?_⟩
    · show ((s.write 0 0 T).rz 0 T.length).b = _
      rw [rz_same z1]; exact b1
    · unfold FS.blk
      show ((if 0 = 0 then updN ((s.write 0 0 T).rz 0 T.length).x 2 (T.length : Nat) else (s.write 0 0 T).ino 0) (3 + 0)).toNat = 12
      rw [if_pos rfl, rz_same z1]
      show ((s.write 0 0 T).ino 0 3).toNat = 12
      rw [i1]; rfl
end Go.Proofs.YtbgminppkacdlaaGreatDoor
end
section
/- The file system's core: its small functions. Conditions: the disk lies as the rules name. -/
namespace Go.Proofs.YtbgminppkacdlaaGreatDoor
open Go.AM
open Nat renaming reduceBEq → Za, reduceEqDiff → Zb, reduceAdd → Zc, reduceSub → Zd, reduceMul → Ze, reduceLT → Zf, reduceLeDiff → Zg, reduceDiv → Zh, reduceMod → Zi, reducePow → Zj
open Int renaming reduceAdd → Zk, reduceSub → Zl, reduceMul → Zm, reduceLT → Zn, reduceLE → Zo, reduceEq → Zp, reduceNe → Zq, reduceNeg → Zr, reduceToNat → Zs, reduceDiv → Zt, reduceMod → Zu, reducePow → Zv, cast_ofNat_Int → Zw
set_option linter.unusedSimpArgs false
variable {h : Heap} {R : Out → Heap → Prop} {bd bl : Nat} {s : FS} {F : Nat → Prop}
def stopV (e : Int) : Value := .iface 86 (.agg #[.int .i64 e])
theorem ifcStop (v : Value) : effIface Tryz.prog 86 v = ret (.iface 86 v) := by kernel_rfl
set_option maxRecDepth 100000 in
theorem need_wf {e : Int} (h0 : e = 0 → R (.ret (.tuple #[])) h) (h1 : e ≠ 0 → R (.pan (stopV e)) h) : WF Tryz.prog 2 sp16 31 [.int .i64 e] h R := by
  refine wf_fn (fn := Tryz.f31) rfl rfl (by kernel_rfl) rfl ?_
  by_cases c : e = 0
  · simp only [↓reduceIte, reduceCtorEq, Za, Zb, Zc, Zd, Ze, Zf, Zg, Zh, Zi, Zj, Zk, Zl, Zm, Zn, Zo, Zp, Zq, Zr, Zs, Zt, Zu, Zv, gval, Zw, rb0, rb1, rb2, rb3, rb4, tf0, tf1, tf2, tf3, Yk, Tryz.f31, c]
    exact h0 c
  · simp only [↓reduceIte, reduceCtorEq, Za, Zb, Zc, Zd, Ze, Zf, Zg, Zh, Zi, Zj, Zk, Zl, Zm, Zn, Zo, Zp, Zq, Zr, Zs, Zt, Zu, Zv, gval, Zw, rb0, rb1, rb2, rb3, rb4, tf0, tf1, tf2, tf3, Yk, Tryz.f31, c, ifcStop, q_panic, q_panicI, fnQ_pan]
    exact h1 c
set_option maxRecDepth 100000 in
theorem refuse_wf {b : Bool} {e : Int} (he : e ≠ 0) (h0 : b = false → R (.ret (.tuple #[])) h) (h1 : b = true → R (.pan (stopV e)) h) : WF Tryz.prog 2 sp16 25 [.bool b, .int .i64 e] h R := by
  refine wf_fn (fn := Tryz.f25) rfl rfl (by kernel_rfl) rfl ?_
  cases b
  · simp only [↓reduceIte, reduceCtorEq, Za, Zb, Zc, Zd, Ze, Zf, Zg, Zh, Zi, Zj, Zk, Zl, Zm, Zn, Zo, Zp, Zq, Zr, Zs, Zt, Zu, Zv, gval, Zw, rb0, rb1, rb2, rb3, rb4, tf0, tf1, tf2, tf3, Yk, Tryz.f25]
    exact h0 rfl
  · simp only [↓reduceIte, reduceCtorEq, Za, Zb, Zc, Zd, Ze, Zf, Zg, Zh, Zi, Zj, Zk, Zl, Zm, Zn, Zo, Zp, Zq, Zr, Zs, Zt, Zu, Zv, gval, Zw, rb0, rb1, rb2, rb3, rb4, tf0, tf1, tf2, tf3, Yk, Tryz.f25]
    refine runC_of (need_wf (fun c => absurd c he) fun _ => ?_)
    simp only [↓reduceIte, reduceCtorEq, Za, Zb, Zc, Zd, Ze, Zf, Zg, Zh, Zi, Zj, Zk, Zl, Zm, Zn, Zo, Zp, Zq, Zr, Zs, Zt, Zu, Zv, gval, Zw, rb0, rb1, rb2, rb3, rb4, tf0, tf1, tf2, tf3, Yk, afterC_pan, fnQ_pan]
    exact h1 rfl
set_option maxRecDepth 100000 in
theorem fpar_wf (f : Fs h bd bl s) (I : s.Inv F) {ent : Nat → Option (List (List UInt8 × Nat))} (hd : ∀ k l, ent k = some l → Dr s F k l ∧ l.length ≤ 21) (hn : ∀ k, ent k = none → k < 32 → s.ino k 0 ≠ 2) {p : List UInt8}
    (h0 : (parP ent p).2.2 = 0 → ∀ h', Fs h' bd bl s → h.nx ≤ h'.nx → (∀ b', b' < h.nx → b' ≠ bd → h'.get b' = h.get b') → R (.ret (.tuple #[.int .i64 ((parP ent p).1 : Nat), .string (mkS (parP ent p).2.1)])) h')
    (h1 : (parP ent p).2.2 ≠ 0 → ∀ h', Fs h' bd bl s → h.nx ≤ h'.nx → (∀ b', b' < h.nx → b' ≠ bd → h'.get b' = h.get b') → R (.pan (stopV (parP ent p).2.2)) h') :
    WF Tryz.prog 2 sp16 22 [.iface 22 (.pointer (some ⟨bd, 0, none⟩)), .string (mkS p)] h R := by
  refine wf_fn (fn := Tryz.f22) rfl rfl (by kernel_rfl) rfl ?_
  simp only [↓reduceIte, reduceCtorEq, Za, Zb, Zc, Zd, Ze, Zf, Zg, Zh, Zi, Zj, Zk, Zl, Zm, Zn, Zo, Zp, Zq, Zr, Zs, Zt, Zu, Zv, gval, Zw, rb0, rb1, rb2, rb3, rb4, tf0, tf1, tf2, tf3, Yk, Tryz.f22]
  refine runC_of (parent_wf f I hd hn fun h2 f2 n2 k2 => ?_)
  simp only [↓reduceIte, reduceCtorEq, Za, Zb, Zc, Zd, Ze, Zf, Zg, Zh, Zi, Zj, Zk, Zl, Zm, Zn, Zo, Zp, Zq, Zr, Zs, Zt, Zu, Zv, gval, Zw, rb0, rb1, rb2, rb3, rb4, tf0, tf1, tf2, tf3, Yk]
  refine runC_of (need_wf (fun c => ?_) fun c => ?_)
  · simp only [↓reduceIte, reduceCtorEq, Za, Zb, Zc, Zd, Ze, Zf, Zg, Zh, Zi, Zj, Zk, Zl, Zm, Zn, Zo, Zp, Zq, Zr, Zs, Zt, Zu, Zv, gval, Zw, rb0, rb1, rb2, rb3, rb4, tf0, tf1, tf2, tf3, Yk]
    exact h0 c h2 f2 n2 k2
  · simp only [↓reduceIte, reduceCtorEq, Za, Zb, Zc, Zd, Ze, Zf, Zg, Zh, Zi, Zj, Zk, Zl, Zm, Zn, Zo, Zp, Zq, Zr, Zs, Zt, Zu, Zv, gval, Zw, rb0, rb1, rb2, rb3, rb4, tf0, tf1, tf2, tf3, Yk, afterC_pan, fnQ_pan]
    exact h1 c h2 f2 n2 k2
set_option maxRecDepth 100000 in
theorem fwalk_wf (f : Fs h bd bl s) (I : s.Inv F) {ent : Nat → Option (List (List UInt8 × Nat))} (hd : ∀ k l, ent k = some l → Dr s F k l ∧ l.length ≤ 21) (hn : ∀ k, ent k = none → k < 32 → s.ino k 0 ≠ 2) {p : List UInt8}
    (h0 : (walkP ent p).2 = 0 → ∀ h', Fs h' bd bl s → h.nx ≤ h'.nx → (∀ b', b' < h.nx → b' ≠ bd → h'.get b' = h.get b') → R (.ret (.int .i64 ((walkP ent p).1 : Nat))) h')
    (h1 : (walkP ent p).2 ≠ 0 → ∀ h', Fs h' bd bl s → h.nx ≤ h'.nx → (∀ b', b' < h.nx → b' ≠ bd → h'.get b' = h.get b') → R (.pan (stopV (walkP ent p).2)) h') :
    WF Tryz.prog 2 sp16 30 [.iface 22 (.pointer (some ⟨bd, 0, none⟩)), .string (mkS p)] h R := by
  refine wf_fn (fn := Tryz.f30) rfl rfl (by kernel_rfl) rfl ?_
  simp only [↓reduceIte, reduceCtorEq, Za, Zb, Zc, Zd, Ze, Zf, Zg, Zh, Zi, Zj, Zk, Zl, Zm, Zn, Zo, Zp, Zq, Zr, Zs, Zt, Zu, Zv, gval, Zw, rb0, rb1, rb2, rb3, rb4, tf0, tf1, tf2, tf3, Yk, Tryz.f30]
  refine runC_of (walk28_wf f I hd hn fun h2 f2 n2 k2 => ?_)
  simp only [↓reduceIte, reduceCtorEq, Za, Zb, Zc, Zd, Ze, Zf, Zg, Zh, Zi, Zj, Zk, Zl, Zm, Zn, Zo, Zp, Zq, Zr, Zs, Zt, Zu, Zv, gval, Zw, rb0, rb1, rb2, rb3, rb4, tf0, tf1, tf2, tf3, Yk]
  refine runC_of (need_wf (fun c => ?_) fun c => ?_)
  · simp only [↓reduceIte, reduceCtorEq, Za, Zb, Zc, Zd, Ze, Zf, Zg, Zh, Zi, Zj, Zk, Zl, Zm, Zn, Zo, Zp, Zq, Zr, Zs, Zt, Zu, Zv, gval, Zw, rb0, rb1, rb2, rb3, rb4, tf0, tf1, tf2, tf3, Yk]
    exact h0 c h2 f2 n2 k2
  · simp only [↓reduceIte, reduceCtorEq, Za, Zb, Zc, Zd, Ze, Zf, Zg, Zh, Zi, Zj, Zk, Zl, Zm, Zn, Zo, Zp, Zq, Zr, Zs, Zt, Zu, Zv, gval, Zw, rb0, rb1, rb2, rb3, rb4, tf0, tf1, tf2, tf3, Yk, afterC_pan, fnQ_pan]
    exact h1 c h2 f2 n2 k2
set_option maxRecDepth 100000 in
theorem kind_wf (f : Fs h bd bl s) {i : Nat} (hi : i < 32) (hR : ∀ h', Fs h' bd bl s → h.nx ≤ h'.nx → (∀ b', b' < h.nx → b' ≠ bd → h'.get b' = h.get b') → R (.ret (.int .i64 (s.ino i 0))) h') :
    WF Tryz.prog 2 sp16 26 [.iface 22 (.pointer (some ⟨bd, 0, none⟩)), .int .i64 i] h R := by
  refine wf_fn (fn := Tryz.f26) rfl rfl (by kernel_rfl) rfl ?_
  have q1 := f.d.bd_lt
  have q2 := f.d.bl_lt
  simp only [↓reduceIte, reduceCtorEq, Za, Zb, Zc, Zd, Ze, Zf, Zg, Zh, Zi, Zj, Zk, Zl, Zm, Zn, Zo, Zp, Zq, Zr, Zs, Zt, Zu, Zv, gval, Zw, rb0, rb1, rb2, rb3, rb4, tf0, tf1, tf2, tf3, Yk, Tryz.f26]
  refine runC_of (figet_any pl16 f (i := (i : Int)) (fun c => absurd ⟨by omega, by omega⟩ c) fun k ek _ h1 f1 n1 k1 => ?_)
  obtain rfl : i = k := by omega
  have hwl : (i64s (row9 (s.ino i))).length = 9 := by rw [List.length_map, row9_len]
  have hx0 : (i64s (row9 (s.ino i)))[0]? = some (.int .i64 (s.ino i 0)) := by rw [List.getElem?_map, row9_get (by omega)]; rfl
  simp (disch := (first | omega | rfl | (simp only [Yn]; omega))) only [↓reduceIte, reduceCtorEq, Za, Zb, Zc, Zd, Ze, Zf, Zg, Zh, Zi, Zj, Zk, Zl, Zm, Zn, Zo, Zp, Zq, Zr, Zs, Zt, Zu, Zv, gval, Zw, rb0, rb1, rb2, rb3, rb4, tf0, tf1, tf2, tf3, Yk, Yh, overL_one, if_pos, stX_exactN, hwl]
  rw [overL_nine rfl hwl, Heap.upd_new]
  obtain ⟨h2, hh2⟩ : ∃ h2, h1.new (cellsB (i64s (row9 (s.ino i))) .exact) = h2 := ⟨_, rfl⟩
  have n2 : h2.nx = h1.nx + 1 := by rw [← hh2, Heap.nx_new]
  have g2 : h2.get h1.nx = some (cellsB (i64s (row9 (s.ino i))) .exact) := by rw [← hh2, Heap.get_new_same]
  have k2 : ∀ b', b' < h1.nx → h2.get b' = h1.get b' := fun b' hb' => by rw [← hh2, Heap.get_new_ne _ _ (by omega)]
  rw [hh2]
  refine runC_of (need_wf (fun _ => ?_) fun c => absurd rfl c)
  simp (disch := (first | omega | rfl | (simp only [Yn]; omega))) only [↓reduceIte, reduceCtorEq, Za, Zb, Zc, Zd, Ze, Zf, Zg, Zh, Zi, Zj, Zk, Zl, Zm, Zn, Zo, Zp, Zq, Zr, Zs, Zt, Zu, Zv, gval, Zw, rb0, rb1, rb2, rb3, rb4, tf0, tf1, tf2, tf3, Yk, Yh, overL_one, if_pos, stX_exactN, g2, hx0, hwl]
  exact hR h2 (f1.keep (by omega) (k2 _ (by omega)) (k2 _ (by omega))) (by omega) fun b' w1 w2 => by rw [k2 _ (by omega)]; exact k1 b' w1 w2
end Go.Proofs.YtbgminppkacdlaaGreatDoor
end
section
/- The file system's core: links, room. Conditions: the disk lies as the rules name. -/
namespace Go.Proofs.YtbgminppkacdlaaGreatDoor
open Go.AM
open Nat renaming reduceBEq → Za, reduceEqDiff → Zb, reduceAdd → Zc, reduceSub → Zd, reduceMul → Ze, reduceLT → Zf, reduceLeDiff → Zg, reduceDiv → Zh, reduceMod → Zi, reducePow → Zj
open Int renaming reduceAdd → Zk, reduceSub → Zl, reduceMul → Zm, reduceLT → Zn, reduceLE → Zo, reduceEq → Zp, reduceNe → Zq, reduceNeg → Zr, reduceToNat → Zs, reduceDiv → Zt, reduceMod → Zu, reducePow → Zv, cast_ofNat_Int → Zw
set_option linter.unusedSimpArgs false
variable {h : Heap} {R : Out → Heap → Prop} {bd bl : Nat} {s : FS} {F : Nat → Prop}
theorem row9_set {x : Nat → Int} {v : Int} : (i64s (row9 x)).set 1 (.int .i64 v) = i64s (row9 (updN x 1 v)) := by
  apply List.ext_getElem?
  intro j
  rw [List.getElem?_set]
  by_cases c : 1 = j
  · subst c
    rw [if_pos rfl, if_pos (by rw [List.length_map, row9_len]; omega), List.getElem?_map, row9_get (by omega)]; rfl
  · rw [if_neg c, List.getElem?_map, List.getElem?_map]
    by_cases h9 : j < 9
    · rw [row9_get h9, row9_get h9]
      show some (Value.int .i64 (x j)) = some (Value.int .i64 (if j = 1 then v else x j))
      rw [if_neg (by omega)]
    · rw [List.getElem?_eq_none (by rw [row9_len]; omega), List.getElem?_eq_none (by rw [row9_len]; omega)]
set_option maxRecDepth 100000 in
set_option maxHeartbeats 1000000 in
theorem links_wf (f : Fs h bd bl s) {i : Nat} (hi : i < 32) {b v : Int} (hv : wrapF .i64 (s.ino i 1 + b) = v) (hv2 : 0 ≤ v ∧ v < 9223372036854775808)
    (hR : ∀ h', Fs h' bd bl (s.lnk i v) → h.nx ≤ h'.nx → (∀ b', b' < h.nx → b' ≠ bd → b' ≠ bl → h'.get b' = h.get b') → R (.ret (.int .i64 v)) h') :
    WF Tryz.prog 2 sp16 33 [.iface 22 (.pointer (some ⟨bd, 0, none⟩)), .int .i64 i, .int .i64 b] h R := by
  refine wf_fn (fn := Tryz.f33) rfl rfl (by kernel_rfl) rfl ?_
  have q1 := f.d.bd_lt
  have q2 := f.d.bl_lt
  simp only [↓reduceIte, reduceCtorEq, Za, Zb, Zc, Zd, Ze, Zf, Zg, Zh, Zi, Zj, Zk, Zl, Zm, Zn, Zo, Zp, Zq, Zr, Zs, Zt, Zu, Zv, gval, Zw, rb0, rb1, rb2, rb3, rb4, tf0, tf1, tf2, tf3, Yk, Tryz.f33]
  refine runC_of (figet_any pl16 f (i := (i : Int)) (fun c => absurd ⟨by omega, by omega⟩ c) fun k ek _ h1 f1 n1 k1 => ?_)
  obtain rfl : i = k := by omega
  have hwl : (i64s (row9 (s.ino i))).length = 9 := by rw [List.length_map, row9_len]
  have hx1 : (i64s (row9 (s.ino i)))[1]? = some (.int .i64 (s.ino i 1)) := by rw [List.getElem?_map, row9_get (by omega)]; rfl
  simp (disch := (first | omega | rfl | (simp only [Yn]; omega))) only [↓reduceIte, reduceCtorEq, Za, Zb, Zc, Zd, Ze, Zf, Zg, Zh, Zi, Zj, Zk, Zl, Zm, Zn, Zo, Zp, Zq, Zr, Zs, Zt, Zu, Zv, gval, Zw, rb0, rb1, rb2, rb3, rb4, tf0, tf1, tf2, tf3, Yk, Yh, overL_one, if_pos, stX_exactN, hwl]
  rw [overL_nine rfl hwl, Heap.upd_new]
  obtain ⟨h2, hh2⟩ : ∃ h2, h1.new (cellsB (i64s (row9 (s.ino i))) .exact) = h2 := ⟨_, rfl⟩
  have n2 : h2.nx = h1.nx + 1 := by rw [← hh2, Heap.nx_new]
  have g2 : h2.get h1.nx = some (cellsB (i64s (row9 (s.ino i))) .exact) := by rw [← hh2, Heap.get_new_same]
  have k2 : ∀ b', b' < h1.nx → h2.get b' = h1.get b' := fun b' hb' => by rw [← hh2, Heap.get_new_ne _ _ (by omega)]
  rw [hh2]
  refine runC_of (need_wf (fun _ => ?_) fun c => absurd rfl c)
  simp (disch := (first | omega | rfl | (simp only [Yn]; omega))) only [↓reduceIte, reduceCtorEq, Za, Zb, Zc, Zd, Ze, Zf, Zg, Zh, Zi, Zj, Zk, Zl, Zm, Zn, Zo, Zp, Zq, Zr, Zs, Zt, Zu, Zv, gval, Zw, rb0, rb1, rb2, rb3, rb4, tf0, tf1, tf2, tf3, Yk, Yh, overL_one, if_pos, stX_exactN, g2, hx1, hwl, hv, row9_set]
  obtain ⟨h3, hh3⟩ : ∃ h3, h2.upd h1.nx (cellsB (i64s (row9 (updN (s.ino i) 1 v))) .exact) = h3 := ⟨_, rfl⟩
  have n3 : h3.nx = h2.nx := by rw [← hh3, Heap.nx_upd]
  have g3 : h3.get h1.nx = some (cellsB (i64s (row9 (updN (s.ino i) 1 v))) .exact) := by rw [← hh3, Heap.get_upd_same]
  have k3 : ∀ b', b' ≠ h1.nx → h3.get b' = h2.get b' := fun b' hb' => by rw [← hh3, Heap.get_upd_ne _ _ hb']
  have hwl3 : (i64s (row9 (updN (s.ino i) 1 v))).length = 9 := by rw [List.length_map, row9_len]
  have hx3 : (i64s (row9 (updN (s.ino i) 1 v)))[1]? = some (.int .i64 v) := by rw [List.getElem?_map, row9_get (by omega)]; rfl
  have f3 : Fs h3 bd bl s := f1.keep (by omega) (by rw [k3 _ (by omega), k2 _ (by omega)]) (by rw [k3 _ (by omega), k2 _ (by omega)])
  have ht9 : List.take 9 (i64s (row9 (updN (s.ino i) 1 v))) = i64s (row9 (updN (s.ino i) 1 v)) := List.take_of_length_le (by omega)
  simp (disch := (first | omega | rfl | (simp only [Yn]; omega))) only [↓reduceIte, reduceCtorEq, Za, Zb, Zc, Zd, Ze, Zf, Zg, Zh, Zi, Zj, Zk, Zl, Zm, Zn, Zo, Zp, Zq, Zr, Zs, Zt, Zu, Zv, gval, Zw, rb0, rb1, rb2, rb3, rb4, tf0, tf1, tf2, tf3, Yk, Yh, overL_one, if_pos, stX_exactN, hwl3, ht9, hh3]
  refine runC_of (fiput_spec pl16 f3 hi (x := updN (s.ino i) 1 v) (fun j => ?_) fun h4 n4 f4 k4 => ?_)
  · show 0 ≤ (if j = 1 then v else s.ino i j) ∧ (if j = 1 then v else s.ino i j) < _
    split
    · exact hv2
    · exact f.wf.ino i j
  simp only [↓reduceIte, reduceCtorEq, Za, Zb, Zc, Zd, Ze, Zf, Zg, Zh, Zi, Zj, Zk, Zl, Zm, Zn, Zo, Zp, Zq, Zr, Zs, Zt, Zu, Zv, gval, Zw, rb0, rb1, rb2, rb3, rb4, tf0, tf1, tf2, tf3, Yk]
  refine runC_of (need_wf (fun _ => ?_) fun c => absurd rfl c)
  have g4 := (k4 h1.nx (by omega) (by omega) (by omega)).trans g3
  simp (disch := (first | omega | rfl | (simp only [Yn]; omega))) only [↓reduceIte, reduceCtorEq, Za, Zb, Zc, Zd, Ze, Zf, Zg, Zh, Zi, Zj, Zk, Zl, Zm, Zn, Zo, Zp, Zq, Zr, Zs, Zt, Zu, Zv, gval, Zw, rb0, rb1, rb2, rb3, rb4, tf0, tf1, tf2, tf3, Yk, Yh, overL_one, if_pos, stX_exactN, g4, hwl3, hx3]
  exact hR h4 f4 (by omega) fun b' w1 w2 w3 => by rw [k4 _ (by omega) w2 w3, k3 _ (by omega), k2 _ (by omega)]; exact k1 b' w1 w2
end Go.Proofs.YtbgminppkacdlaaGreatDoor
end
section
/- The file system's core: room, a new inode. Conditions: the disk lies as the rules name. -/
namespace Go.Proofs.YtbgminppkacdlaaGreatDoor
open Go.AM
open Nat renaming reduceBEq → Za, reduceEqDiff → Zb, reduceAdd → Zc, reduceSub → Zd, reduceMul → Ze, reduceLT → Zf, reduceLeDiff → Zg, reduceDiv → Zh, reduceMod → Zi, reducePow → Zj
open Int renaming reduceAdd → Zk, reduceSub → Zl, reduceMul → Zm, reduceLT → Zn, reduceLE → Zo, reduceEq → Zp, reduceNe → Zq, reduceNeg → Zr, reduceToNat → Zs, reduceDiv → Zt, reduceMod → Zu, reducePow → Zv, cast_ofNat_Int → Zw
set_option linter.unusedSimpArgs false
variable {h : Heap} {R : Out → Heap → Prop} {bd bl : Nat} {s : FS} {F : Nat → Prop}
set_option maxRecDepth 100000 in
set_option maxHeartbeats 1000000 in
theorem room_wf (f : Fs h bd bl s) {k : Nat} {l : List (List UInt8 × Nat)} (D : Dr s F k l) (hl : l.length ≤ 20) (hp : popc 64 s.b < s.n)
    (hR : ∀ h', Fs h' bd bl s → h.nx ≤ h'.nx → (∀ b', b' < h.nx → b' ≠ bd → h'.get b' = h.get b') → R (.ret (.bool true)) h') :
    WF Tryz.prog 2 sp16 44 [.iface 22 (.pointer (some ⟨bd, 0, none⟩)), .int .i64 k] h R := by
  refine wf_fn (fn := Tryz.f44) rfl rfl (by kernel_rfl) rfl ?_
  have q1 := f.d.bd_lt
  have q2 := f.d.bl_lt
  have hk := D.lt
  have hz : s.ino k 2 = ((9 * l.length : Nat) : Int) := by
    have h1 := D.size
    unfold FS.size at h1
    have h2 := (f.wf.ino k 2).1
    omega
  simp only [↓reduceIte, reduceCtorEq, Za, Zb, Zc, Zd, Ze, Zf, Zg, Zh, Zi, Zj, Zk, Zl, Zm, Zn, Zo, Zp, Zq, Zr, Zs, Zt, Zu, Zv, gval, Zw, rb0, rb1, rb2, rb3, rb4, tf0, tf1, tf2, tf3, Yk, Tryz.f44]
  refine runC_of (figet_any pl16 f (i := (k : Int)) (fun c => absurd ⟨by omega, by omega⟩ c) fun k' ek _ h1 f1 n1 k1 => ?_)
  obtain rfl : k = k' := by omega
  have hwl : (i64s (row9 (s.ino k))).length = 9 := by rw [List.length_map, row9_len]
  have hx2 : (i64s (row9 (s.ino k)))[2]? = some (.int .i64 ((9 * l.length : Nat) : Int)) := by rw [List.getElem?_map, row9_get (by omega), hz]; rfl
  simp (disch := (first | omega | rfl | (simp only [Yn]; omega))) only [↓reduceIte, reduceCtorEq, Za, Zb, Zc, Zd, Ze, Zf, Zg, Zh, Zi, Zj, Zk, Zl, Zm, Zn, Zo, Zp, Zq, Zr, Zs, Zt, Zu, Zv, gval, Zw, rb0, rb1, rb2, rb3, rb4, tf0, tf1, tf2, tf3, Yk, Yh, overL_one, if_pos, stX_exactN, hwl]
  rw [overL_nine rfl hwl, Heap.upd_new]
  obtain ⟨h2, hh2⟩ : ∃ h2, h1.new (cellsB (i64s (row9 (s.ino k))) .exact) = h2 := ⟨_, rfl⟩
  have n2 : h2.nx = h1.nx + 1 := by rw [← hh2, Heap.nx_new]
  have g2 : h2.get h1.nx = some (cellsB (i64s (row9 (s.ino k))) .exact) := by rw [← hh2, Heap.get_new_same]
  have k2 : ∀ b', b' < h1.nx → h2.get b' = h1.get b' := fun b' hb' => by rw [← hh2, Heap.get_new_ne _ _ (by omega)]
  rw [hh2]
  refine runC_of (need_wf (fun _ => ?_) fun c => absurd rfl c)
  simp only [↓reduceIte, reduceCtorEq, Za, Zb, Zc, Zd, Ze, Zf, Zg, Zh, Zi, Zj, Zk, Zl, Zm, Zn, Zo, Zp, Zq, Zr, Zs, Zt, Zu, Zv, gval, Zw, rb0, rb1, rb2, rb3, rb4, tf0, tf1, tf2, tf3, Yk]
  refine runC_of (fleft_spec pl16 (f1.keep (h' := h2) (by omega) (k2 _ (by omega)) (k2 _ (by omega))) fun h3 f3 n3 k3 => ?_)
  have g3 := (k3 h1.nx (by omega) (by omega)).trans g2
  have w9 : wrapF .i64 (((9 * l.length : Nat) : Int) + 9) = ((9 * l.length + 9 : Nat) : Int) := by rw [wrapI (by omega) (by omega)]; omega
  have c1 : ¬ (192 : Int) < ((9 * l.length + 9 : Nat) : Int) := by omega
  have c2 : (0 : Int) < (s.n : Int) - (popc 64 s.b : Int) := by omega
  simp (disch := (first | omega | rfl | (simp only [Yn]; omega))) only [↓reduceIte, reduceCtorEq, Za, Zb, Zc, Zd, Ze, Zf, Zg, Zh, Zi, Zj, Zk, Zl, Zm, Zn, Zo, Zp, Zq, Zr, Zs, Zt, Zu, Zv, gval, Zw, rb0, rb1, rb2, rb3, rb4, tf0, tf1, tf2, tf3, Yk, Yh, overL_one, if_pos, stX_exactN, g3, hx2, hwl, w9, c1, c2, runG_undef]
  exact hR h3 f3 (by omega) fun b' w1 w2 => by rw [k3 _ (by omega) w2, k2 _ (by omega)]; exact k1 b' w1 w2
def entR (l : List (List UInt8 × Nat)) (k : Nat) : Option (List (List UInt8 × Nat)) := if k = 0 then some l else none
theorem RE.ent (r : RE s) (k : Nat) (l : List (List UInt8 × Nat)) (h : entR [] k = some l) : Dr s (fun i => i = 0) k l ∧ l.length ≤ 21 := by
  unfold entR at h
  split at h
  · rename_i e
    cases Option.some.inj h
    rw [e]; exact ⟨r.D, by simp⟩
  · cases h
theorem RE.no (r : RE s) (k : Nat) (h : entR [] k = none) (_ : k < 32) : s.ino k 0 ≠ 2 := by
  unfold entR at h
  split at h
  · cases h
  · rename_i e
    rw [r.fr k (by omega)]; decide
theorem RF.ent {l : List (List UInt8 × Nat)} {lk p : Nat} {t : List UInt8} (r : RF s l lk t p) (hl : l.length ≤ 3) (k : Nat) (l2 : List (List UInt8 × Nat)) (h : entR l k = some l2) : Dr s (fun i => i ≤ 1) k l2 ∧ l2.length ≤ 21 := by
  unfold entR at h
  split at h
  · rename_i e
    cases Option.some.inj h
    rw [e]; exact ⟨r.D, by omega⟩
  · cases h
theorem RF.no {l : List (List UInt8 × Nat)} {lk p : Nat} {t : List UInt8} (r : RF s l lk t p) (k : Nat) (h : entR l k = none) (_ : k < 32) : s.ino k 0 ≠ 2 := by
  unfold entR at h
  split at h
  · cases h
  · rename_i e
    by_cases c : k = 1
    · rw [c, r.kind]; decide
    · rw [r.fr k (by omega)]; decide
set_option maxRecDepth 100000 in
set_option maxHeartbeats 1000000 in
theorem newino_wf (ht : h.get 1 = some (tabBlk .u8 tab)) (f : Fs h bd bl s) (hz : 1 < bd ∧ 1 < bl) (r : RE s) (hp : popc 64 s.b ≤ 12) (hb12 : s.b.testBit 12 = false) {nm : List UInt8} (hn : NmP nm)
    (hR : ∀ s2 h', RF s2 [(nm, 1)] 1 [] 13 → s2.blk 0 0 = 12 → Fs h' bd bl s2 → h.nx ≤ h'.nx → (∀ b', b' < h.nx → b' ≠ bd → b' ≠ bl → h'.get b' = h.get b') → R (.ret (.int .i64 1)) h') :
    WF Tryz.prog 2 sp16 24 [.iface 22 (.pointer (some ⟨bd, 0, none⟩)), .int .i64 0, .string (mkS nm), .int .i64 1] h R := by
  refine wf_fn (fn := Tryz.f24) rfl rfl (by kernel_rfl) rfl ?_
  have q1 := f.d.bd_lt
  have q2 := f.d.bl_lt
  simp only [↓reduceIte, reduceCtorEq, Za, Zb, Zc, Zd, Ze, Zf, Zg, Zh, Zi, Zj, Zk, Zl, Zm, Zn, Zo, Zp, Zq, Zr, Zs, Zt, Zu, Zv, gval, Zw, rb0, rb1, rb2, rb3, rb4, tf0, tf1, tf2, tf3, Yk, Tryz.f24]
  refine runC_of (fleft_spec pl16 f fun h1 f1 n1 k1 => ?_)
  have c1 : ¬ (32 : Int) - ((popc 64 s.a : Nat) : Int) = 0 := by rw [r.a]; decide
  simp only [↓reduceIte, reduceCtorEq, Za, Zb, Zc, Zd, Ze, Zf, Zg, Zh, Zi, Zj, Zk, Zl, Zm, Zn, Zo, Zp, Zq, Zr, Zs, Zt, Zu, Zv, gval, Zw, rb0, rb1, rb2, rb3, rb4, tf0, tf1, tf2, tf3, Yk, c1]
  refine runC_of (room_wf f1 r.D (by simp) (by rw [r.n]; omega) fun h2 f2 n2 k2 => ?_)
  simp only [↓reduceIte, reduceCtorEq, Za, Zb, Zc, Zd, Ze, Zf, Zg, Zh, Zi, Zj, Zk, Zl, Zm, Zn, Zo, Zp, Zq, Zr, Zs, Zt, Zu, Zv, gval, Zw, rb0, rb1, rb2, rb3, rb4, tf0, tf1, tf2, tf3, Yk]
  refine runC_of (refuse_wf (by decide) (fun _ => ?_) fun c => absurd c (by decide))
  obtain ⟨hl1, r1⟩ := r.alloc hp
  have t2 := (k2 1 (by omega) (by omega)).trans ((k1 1 (by omega) (by omega)).trans ht)
  simp only [↓reduceIte, reduceCtorEq, Za, Zb, Zc, Zd, Ze, Zf, Zg, Zh, Zi, Zj, Zk, Zl, Zm, Zn, Zo, Zp, Zq, Zr, Zs, Zt, Zu, Zv, gval, Zw, rb0, rb1, rb2, rb3, rb4, tf0, tf1, tf2, tf3, Yk]
  refine runC_of (falloc_spec pl16 t2 f2 hz (k := 1) (by omega) (fun q => absurd (by rw [hl1]; omega) q) fun _ h3 f3 n3 k3 => ?_)
  rw [hl1]
  simp only [↓reduceIte, reduceCtorEq, Za, Zb, Zc, Zd, Ze, Zf, Zg, Zh, Zi, Zj, Zk, Zl, Zm, Zn, Zo, Zp, Zq, Zr, Zs, Zt, Zu, Zv, gval, Zw, rb0, rb1, rb2, rb3, rb4, tf0, tf1, tf2, tf3, Yk]
  refine runC_of (need_wf (fun _ => ?_) fun c => absurd rfl c)
  have t3 := (k3 1 (by omega) (by omega) (by omega)).trans t2
  simp only [↓reduceIte, reduceCtorEq, Za, Zb, Zc, Zd, Ze, Zf, Zg, Zh, Zi, Zj, Zk, Zl, Zm, Zn, Zo, Zp, Zq, Zr, Zs, Zt, Zu, Zv, gval, Zw, rb0, rb1, rb2, rb3, rb4, tf0, tf1, tf2, tf3, Yk]
  refine runC_of (add_wf t3 f3 hz r1.I r1.D (by simp) (nm := nm) (tn := 1) (fun q => ?_) (fun _ q => ?_) (fun _ _ q => ?_) fun t et _ _ _ _ s4 h4 dw f4 n4 k4 => ?_)
  · exact absurd q (fun q => by
      rcases q with q | q | q
      · exact q hn
      · omega
      · omega)
  · obtain ⟨e, he, _⟩ := q
    cases he
  · exfalso
    rcases q with q | q
    · simp at q
    · rw [r1.n] at q
      have := r1.pop
      simp at q
      unfold needN at q; omega
  · obtain rfl : t = 1 := by omega
    have ok4 : ∀ e ∈ ([] : List (List UInt8 × Nat)) ++ [(nm, 1)], EntOk e := fun e he => by
      have : e = (nm, 1) := by simpa using he
      rw [this]
      have hc := hn.2.2
      unfold chk at hc
      refine ⟨?_, ?_, by show 1 < 256; omega⟩
      · show nm.length ≤ 8
        by_cases q8 : 8 < nm.length
        · rw [if_pos q8] at hc; exact absurd hc (by decide)
        · omega
      · intro hm
        have hm : (0 : UInt8) ∈ nm := hm
        by_cases q8 : 8 < nm.length
        · rw [if_pos q8] at hc; exact absurd hc (by decide)
        · rw [if_neg q8, if_pos hm] at hc; exact absurd hc (by decide)
    have r4 : RF s4 [(nm, 1)] 0 [] 13 := r1.root dw ok4 (by simp) fun e he => by
      have : e = (nm, 1) := by simpa using he
      rw [this]
    simp only [↓reduceIte, reduceCtorEq, Za, Zb, Zc, Zd, Ze, Zf, Zg, Zh, Zi, Zj, Zk, Zl, Zm, Zn, Zo, Zp, Zq, Zr, Zs, Zt, Zu, Zv, gval, Zw, rb0, rb1, rb2, rb3, rb4, tf0, tf1, tf2, tf3, Yk]
    refine runC_of (need_wf (fun _ => ?_) fun c => absurd rfl c)
    simp only [↓reduceIte, reduceCtorEq, Za, Zb, Zc, Zd, Ze, Zf, Zg, Zh, Zi, Zj, Zk, Zl, Zm, Zn, Zo, Zp, Zq, Zr, Zs, Zt, Zu, Zv, gval, Zw, rb0, rb1, rb2, rb3, rb4, tf0, tf1, tf2, tf3, Yk]
    refine runC_of (links_wf f4 (i := 1) (by omega) (b := 1) (v := 1) (by rw [r4.lk]; decide) (by omega) fun h5 f5 n5 k5 => ?_)
    simp only [↓reduceIte, reduceCtorEq, Za, Zb, Zc, Zd, Ze, Zf, Zg, Zh, Zi, Zj, Zk, Zl, Zm, Zn, Zo, Zp, Zq, Zr, Zs, Zt, Zu, Zv, gval, Zw, rb0, rb1, rb2, rb3, rb4, tf0, tf1, tf2, tf3, Yk]
    have hk4 := (root_add r1.I (by rw [r1.D.size]; rfl) dw ok4 (by simp) hb12).2
    exact hR _ h5 (r4.links (v := 1) (by omega)) ((lnk_blk 0 0).trans hk4) f5 (by omega) fun b' w1 w2 w3 => by rw [k5 _ (by omega) w2 w3, k4 _ (by omega) w2 w3, k3 _ (by omega) w2 w3, k2 _ (by omega) w2, k1 _ w1 w2]
end Go.Proofs.YtbgminppkacdlaaGreatDoor
end
section
/- The file system's core: try. Conditions: as the rule says. -/
namespace Go.Proofs.YtbgminppkacdlaaGreatDoor
open Go.AM
open Nat renaming reduceBEq → Za, reduceEqDiff → Zb, reduceAdd → Zc, reduceSub → Zd, reduceMul → Ze, reduceLT → Zf, reduceLeDiff → Zg, reduceDiv → Zh, reduceMod → Zi, reducePow → Zj
open Int renaming reduceAdd → Zk, reduceSub → Zl, reduceMul → Zm, reduceLT → Zn, reduceLE → Zo, reduceEq → Zp, reduceNe → Zq, reduceNeg → Zr, reduceToNat → Zs, reduceDiv → Zt, reduceMod → Zu, reducePow → Zv, cast_ofNat_Int → Zw
set_option linter.unusedSimpArgs false
variable {h : Heap} {R : Out → Heap → Prop} {bd bl : Nat} {s : FS} {F : Nat → Prop}
theorem neqNil (x : Operand) (v : Value) (g : Nat → Option Blk) : effBin Tryz.prog .neq 20 x (.const v) .nilIface .nilIface g = ret (.bool false) := by
  cases x <;> kernel_rfl
theorem assStop (e : Int) : effAssert Tryz.prog (.iface 86 (.agg #[.int .i64 e])) 86 true = ret (.tuple #[.agg #[.int .i64 e], .bool true]) := by kernel_rfl
def TryD (R : Out → Heap → Prop) (p : Nat) (o : Out) (h2 : Heap) : Prop := h2.get p = some (cellsB [.int .i64 0] .exact) ∧ p < h2.nx ∧ match o with
  | .ret _ => ∀ h3, h2.nx ≤ h3.nx → (∀ b, b < h2.nx → b ≠ p → h3.get b = h2.get b) → R (.ret (.int .i64 0)) h3
  | .pan v => ∃ e : Int, v = stopV e ∧ ∀ h3, h2.nx ≤ h3.nx → (∀ b, b < h2.nx → b ≠ p → h3.get b = h2.get b) → R (.ret (.int .i64 e)) h3
set_option maxRecDepth 100000 in
theorem ftry_wf {fc : FuncId} {cap : Array Value} (hc : WF Tryz.prog 2 sp16 fc cap.toList (h.new (cellsB [.int .i64 0] .exact)) (TryD R h.nx)) :
    WF Tryz.prog 2 sp16 20 [.iface 22 (.pointer (some ⟨bd, 0, none⟩)), .func (.func fc) #[] cap] h R := by
  refine wf_try (T := tryT) rfl ?_
  simp (disch := (first | omega | rfl | (simp only [Yn]; omega))) only [↓reduceIte, reduceCtorEq, Za, Zb, Zc, Zd, Ze, Zf, Zg, Zh, Zi, Zj, Zk, Zl, Zm, Zn, Zo, Zp, Zq, Zr, Zs, Zt, Zu, Zv, gval, Zw, rb0, rb1, rb2, rb3, rb4, tf0, tf1, tf2, tf3, Yk, Yh, overL_one, if_pos, stX_exactN, tryT, seqL, seqR, bodyOf, Tryz.f20, Tryz.f47]
  obtain ⟨o, h2, hev, hg, hlt, hm⟩ := hc
  refine ⟨fc, #[], cap, ?_, o, h2, ?_, ?_⟩
  · show Env.at _ 1 = _
    simp only [Za, Zw, Ye]
  · simpa using hev
  have hp : ∀ {e : Env} {v w : Value}, ((e.put (some 4) (.pointer (some ⟨h.nx, 0, none⟩))).put (some 5) v |>.put (some 6) w).at 4 = .pointer (some ⟨h.nx, 0, none⟩) := fun {e v w} => by simp only [Za, Zw, Ye]
  cases o with
  | ret v =>
    unfold TryC TryE
    simp (disch := (first | omega | rfl | (simp only [Yn]; omega))) only [↓reduceIte, reduceCtorEq, Za, Zb, Zc, Zd, Ze, Zf, Zg, Zh, Zi, Zj, Zk, Zl, Zm, Zn, Zo, Zp, Zq, Zr, Zs, Zt, Zu, Zv, gval, Zw, rb0, rb1, rb2, rb3, rb4, tf0, tf1, tf2, tf3, Yk, Yh, overL_one, if_pos, stX_exactN, hg, neqNil]
    exact ⟨_, rfl, hm _ (by rw [Heap.nx_upd]; exact Nat.le_refl _) fun b _ hb => Heap.get_upd_ne _ _ hb⟩
  | pan v =>
    obtain ⟨e, rfl, hm⟩ := hm
    unfold TryC TryE stopV
    simp (disch := (first | omega | rfl | (simp only [Yn]; omega))) only [↓reduceIte, reduceCtorEq, Za, Zb, Zc, Zd, Ze, Zf, Zg, Zh, Zi, Zj, Zk, Zl, Zm, Zn, Zo, Zp, Zq, Zr, Zs, Zt, Zu, Zv, gval, Zw, rb0, rb1, rb2, rb3, rb4, tf0, tf1, tf2, tf3, Yk, Yh, overL_one, if_pos, stX_exactN, hg, assStop]
    exact ⟨_, rfl, hm _ (by simp only [Heap.nx_upd, Heap.nx_new]; omega) fun b hb hne => by rw [Heap.get_upd_ne _ _ hne, Heap.get_upd_ne _ _ (by omega), Heap.get_new_ne _ _ (by omega)]⟩
end Go.Proofs.YtbgminppkacdlaaGreatDoor
end
section
/- The file system's core: paths in a root of files; Create. Conditions: the disk lies as the rules name. -/
namespace Go.Proofs.YtbgminppkacdlaaGreatDoor
open Go.AM
open Nat renaming reduceBEq → Za, reduceEqDiff → Zb, reduceAdd → Zc, reduceSub → Zd, reduceMul → Ze, reduceLT → Zf, reduceLeDiff → Zg, reduceDiv → Zh, reduceMod → Zi, reducePow → Zj
open Int renaming reduceAdd → Zk, reduceSub → Zl, reduceMul → Zm, reduceLT → Zn, reduceLE → Zo, reduceEq → Zp, reduceNe → Zq, reduceNeg → Zr, reduceToNat → Zs, reduceDiv → Zt, reduceMod → Zu, reducePow → Zv, cast_ofNat_Int → Zw
set_option linter.unusedSimpArgs false
variable {h : Heap} {R : Out → Heap → Prop} {bd bl : Nat} {s : FS} {F : Nat → Prop}
theorem cutP_mem {p : List UInt8} {st : List (List UInt8) × Nat} {i : Nat} {x : List UInt8} (h : x ∈ (cutP p st i).1) : x ∈ st.1 ∨ (st.2 < i ∧ x = (p.drop st.2).take (i - st.2)) := by
  unfold cutP at h
  simp only at h
  split at h
  · rename_i c
    rcases List.mem_append.1 h with q | q
    · exact .inl q
    · exact .inr ⟨c, List.mem_singleton.1 q⟩
  · exact .inl h
theorem cutS_ok (p : List UInt8) : ∀ i, i ≤ p.length → (∀ x ∈ (cutS p i).1, x ≠ [] ∧ ¬ (47 : UInt8) ∈ x) ∧ ∀ j, (cutS p i).2 ≤ j → j < i → p[j]? ≠ some 47
  | 0, _ => ⟨(fun x h => by cases h), fun j _ h => by omega⟩
  | i + 1, hi => by
    obtain ⟨h1, h2⟩ := cutS_ok p i (by omega)
    have hle := cutS_le p i
    have hs : cutS p (i + 1) = if p[i]? = some 47 then cutP p (cutS p i) i else cutS p i := rfl
    rw [hs]
    split
    · refine ⟨fun x hx => ?_, fun j hj hj2 => ?_⟩
      · rcases cutP_mem hx with q | ⟨c, rfl⟩
        · exact h1 x q
        · refine ⟨fun e => ?_, fun hm => ?_⟩
          · have := congrArg List.length e
            rw [List.length_take, List.length_drop] at this
            simp at this; omega
          · obtain ⟨j, hj⟩ := List.mem_iff_getElem?.1 hm
            rw [List.getElem?_take] at hj
            split at hj
            · rw [List.getElem?_drop] at hj
              exact h2 _ (by omega) (by omega) hj
            · cases hj
      · have : (cutP p (cutS p i) i).2 = i + 1 := rfl
        omega
    · rename_i c
      refine ⟨h1, fun j hj hj2 => ?_⟩
      rcases Nat.lt_or_ge j i with q | q
      · exact h2 j hj q
      · rw [show j = i by omega]; exact c
theorem parts_ok (p : List UInt8) : ∀ x ∈ parts p, x ≠ [] ∧ ¬ (47 : UInt8) ∈ x := by
  obtain ⟨h1, h2⟩ := cutS_ok p p.length (Nat.le_refl _)
  have hle := cutS_le p p.length
  intro x hx
  rcases cutP_mem hx with q | ⟨c, rfl⟩
  · exact h1 x q
  · refine ⟨fun e => ?_, fun hm => ?_⟩
    · have := congrArg List.length e
      rw [List.length_take, List.length_drop] at this
      simp at this; omega
    · obtain ⟨j, hj⟩ := List.mem_iff_getElem?.1 hm
      rw [List.getElem?_take] at hj
      split at hj
      · rw [List.getElem?_drop] at hj
        exact h2 _ (by omega) (by omega) hj
      · cases hj
theorem errL_zero : ∀ {L : List (List UInt8)}, errL L = 0 → ∀ x ∈ L, chk x = 0
  | [], _, _, h => by cases h
  | y :: r, h, x, hx => by
    unfold errL at h
    by_cases c : chk y = 0
    · rw [if_neg (by rw [c]; exact fun q => q rfl)] at h
      rcases List.mem_cons.1 hx with q | q
      · rw [q]; exact c
      · exact errL_zero h x q
    · rw [if_pos c] at h
      exact absurd h c
theorem splL_nm {p : List UInt8} (h : splE p = 0) : ∀ x ∈ splL p, NmP x := by
  have hl : splL p = parts p := by unfold splL; rw [if_pos h]
  have he : errL (parts p) = 0 := by
    unfold splE at h
    split at h
    · exact absurd h (by decide)
    · split at h
      · exact absurd h (by decide)
      · exact h
  intro x hx
  rw [hl] at hx
  have := parts_ok p x hx
  exact ⟨this.1, this.2, errL_zero he x hx⟩
theorem lookE_uq {nm : List UInt8} : ∀ {l : List (List UInt8 × Nat)} {k : Nat}, (∀ e ∈ l, e.2 = 1) → lookE nm l = some k → k = 1
  | [], _, _, h => by cases h
  | e :: r, k, u, h => by
    unfold lookE at h
    split at h
    · rw [← Option.some.inj h]; exact u e List.mem_cons_self
    · exact lookE_uq (fun x hx => u x (List.mem_cons_of_mem _ hx)) h
theorem walk_root {l : List (List UInt8 × Nat)} (u : ∀ e ∈ l, e.2 = 1) : ∀ (L : List (List UInt8)), (walkM (entR l) 0 L).2 = 0 → L = [] ∧ walkM (entR l) 0 L = (0, 0) ∨ ∃ n, L = [n] ∧ lookE n l = some 1 ∧ walkM (entR l) 0 L = (1, 0)
  | [], _ => .inl ⟨rfl, rfl⟩
  | n :: r, h => by
    right
    have he : entR l 0 = some l := rfl
    have hw : walkM (entR l) 0 (n :: r) = (match lookE n l with
      | none => ((0 : Nat), (2 : Int))
      | some t => walkM (entR l) t r) := rfl
    rcases hk : lookE n l with _ | k
    · rw [hw, hk] at h; exact absurd (show (2 : Int) = 0 from h) (by decide)
    · obtain rfl := lookE_uq u hk
      rw [hw, hk] at h ⊢
      cases r with
      | nil => exact ⟨n, rfl, hk, rfl⟩
      | cons m r =>
        have : walkM (entR l) 1 (m :: r) = (0, 20) := rfl
        have h : (walkM (entR l) 1 (m :: r)).2 = 0 := h
        rw [this] at h; exact absurd h (by decide)
theorem one_of : ∀ {L : List (List UInt8)} {z : List UInt8}, L.getLast? = some z → L.dropLast = [] → L = [z]
  | [], _, h, _ => by simp at h
  | [a], _, h, _ => by simp at h; rw [h]
  | a :: b :: r, _, _, h => by simp at h
theorem par_root {l : List (List UInt8 × Nat)} (u : ∀ e ∈ l, e.2 = 1) {p : List UInt8} (h : (parP (entR l) p).2.2 = 0) : ∃ nm, splE p = 0 ∧ splL p = [nm] ∧ NmP nm ∧ parP (entR l) p = (0, nm, 0) := by
  unfold parP at h ⊢
  by_cases c : splE p = 0
  · rw [if_pos c] at h ⊢
    rcases hz : (splL p).getLast? with _ | z
    · rw [hz] at h; exact absurd (show (22 : Int) = 0 from h) (by decide)
    · rw [hz] at h
      simp only at h ⊢
      by_cases cw : (walkM (entR l) 0 (splL p).dropLast).2 = 0
      · rw [if_pos cw] at h ⊢
        rcases walk_root u _ cw with ⟨hd, hw⟩ | ⟨n, hd, _, hw⟩
        · have hs : splL p = [z] := one_of hz hd
          rw [hw] at h ⊢
          refine ⟨z, c, hs, splL_nm c z (by rw [hs]; exact List.mem_singleton.2 rfl), ?_⟩
          rfl
        · rw [hw] at h
          exact absurd (show (20 : Int) = 0 from h) (by decide)
      · rw [if_neg cw] at h
        exact absurd h cw
  · rw [if_neg c] at h
    exact absurd h c
theorem par_of {l : List (List UInt8 × Nat)} {p nm : List UInt8} (c : splE p = 0) (hs : splL p = [nm]) : parP (entR l) p = (0, nm, 0) := by
  unfold parP
  rw [if_pos c, hs]; rfl
theorem walk_of {l : List (List UInt8 × Nat)} {p nm : List UInt8} (c : splE p = 0) (hs : splL p = [nm]) {k : Nat} (hk : lookE nm l = some k) : walkP (entR l) p = (k, 0) := by
  unfold walkP
  rw [if_pos c, hs]
  show (match lookE nm l with
      | none => ((0 : Nat), (2 : Int))
      | some t => walkM (entR l) t []) = _
  rw [hk]; rfl
end Go.Proofs.YtbgminppkacdlaaGreatDoor
end
section
/- The file system's core: Create. Conditions: the disk lies as the rules name. -/
namespace Go.Proofs.YtbgminppkacdlaaGreatDoor
open Go.AM
open Nat renaming reduceBEq → Za, reduceEqDiff → Zb, reduceAdd → Zc, reduceSub → Zd, reduceMul → Ze, reduceLT → Zf, reduceLeDiff → Zg, reduceDiv → Zh, reduceMod → Zi, reducePow → Zj
open Int renaming reduceAdd → Zk, reduceSub → Zl, reduceMul → Zm, reduceLT → Zn, reduceLE → Zo, reduceEq → Zp, reduceNe → Zq, reduceNeg → Zr, reduceToNat → Zs, reduceDiv → Zt, reduceMod → Zu, reducePow → Zv, cast_ofNat_Int → Zw
set_option linter.unusedSimpArgs false
variable {h : Heap} {R : Out → Heap → Prop} {bd bl : Nat} {s : FS} {F : Nat → Prop}
set_option maxRecDepth 100000 in
set_option maxHeartbeats 2000000 in
theorem create_wf (ht : h.get 1 = some (tabBlk .u8 tab)) (f : Fs h bd bl s) (hz : 1 < bd ∧ 1 < bl) (r : RE s) (hp : popc 64 s.b ≤ 12) (hb12 : s.b.testBit 12 = false) {p : List UInt8}
    (hR0 : ∀ (E : Int) h', E ≠ 0 → Fs h' bd bl s → h.nx ≤ h'.nx → (∀ b', b' < h.nx → b' ≠ bd → b' ≠ bl → h'.get b' = h.get b') → R (.ret (.tuple #[.int .i64 0, .int .i64 E])) h')
    (hR1 : ∀ nm s2 h', splE p = 0 → splL p = [nm] → NmP nm → RF s2 [(nm, 1)] 1 [] 13 → s2.blk 0 0 = 12 → Fs h' bd bl s2 → h.nx ≤ h'.nx → (∀ b', b' < h.nx → b' ≠ bd → b' ≠ bl → h'.get b' = h.get b') → R (.ret (.tuple #[.int .i64 1, .int .i64 0])) h') :
    WF Tryz.prog 2 sp16 8 [.iface 22 (.pointer (some ⟨bd, 0, none⟩)), .string (mkS p)] h R := by
  refine wf_fn (fn := Tryz.f8) rfl rfl (by kernel_rfl) rfl ?_
  have q1 := f.d.bd_lt
  have q2 := f.d.bl_lt
  simp (disch := (first | omega | rfl | (simp only [Yn]; omega))) only [↓reduceIte, reduceCtorEq, Za, Zb, Zc, Zd, Ze, Zf, Zg, Zh, Zi, Zj, Zk, Zl, Zm, Zn, Zo, Zp, Zq, Zr, Zs, Zt, Zu, Zv, gval, Zw, rb0, rb1, rb2, rb3, rb4, tf0, tf1, tf2, tf3, Yk, Yh, overL_one, if_pos, stX_exactN, Tryz.f8]
  refine runC_of (ftry_wf ?_)
  obtain ⟨h4, hh4⟩ : ∃ h4, (((h.new (cellsB [.iface 22 (.pointer (some ⟨bd, 0, none⟩))] .exact)).new (cellsB [.string (mkS p)] .exact)).new (cellsB [.int .i64 0] .exact)).new (cellsB [.int .i64 0] .exact) = h4 := ⟨_, rfl⟩
  rw [hh4]
  have n4 : h4.nx = h.nx + 4 := by rw [← hh4]; simp only [Heap.nx_new]
  have ga : h4.get h.nx = some (cellsB [.iface 22 (.pointer (some ⟨bd, 0, none⟩))] .exact) := by rw [← hh4]; simp (disch := (first | omega | rfl | (simp only [Yn]; omega))) only [Yh, Yc]
  have gb : h4.get (h.nx + 1) = some (cellsB [.string (mkS p)] .exact) := by rw [← hh4]; simp (disch := (first | omega | rfl | (simp only [Yn]; omega))) only [Yh, Yc]
  have gc : h4.get (h.nx + 1 + 1) = some (cellsB [.int .i64 0] .exact) := by rw [← hh4]; simp (disch := (first | omega | rfl | (simp only [Yn]; omega))) only [Yh, Yc]
  have gd : h4.get (h.nx + 1 + 1 + 1) = some (cellsB [.int .i64 0] .exact) := by rw [← hh4]; simp (disch := (first | omega | rfl | (simp only [Yn]; omega))) only [Yh, Yc]
  have k4 : ∀ b', b' < h.nx → h4.get b' = h.get b' := fun b' hb' => by rw [← hh4]; simp (disch := (first | omega | rfl | (simp only [Yn]; omega))) only [Yh, Yc]
  have f4 : Fs h4 bd bl s := f.keep (by omega) (k4 _ q1) (k4 _ q2)
  refine wf_fn (fn := Tryz.f21) rfl rfl (by kernel_rfl) rfl ?_
  simp (disch := (first | omega | rfl | (simp only [Yn]; omega))) only [↓reduceIte, reduceCtorEq, Za, Zb, Zc, Zd, Ze, Zf, Zg, Zh, Zi, Zj, Zk, Zl, Zm, Zn, Zo, Zp, Zq, Zr, Zs, Zt, Zu, Zv, gval, Zw, rb0, rb1, rb2, rb3, rb4, tf0, tf1, tf2, tf3, Yk, Yh, overL_one, if_pos, stX_exactN, Tryz.f21, ga, gb]
  refine runC_of (fpar_wf f4 r.I r.ent r.no (p := p) (fun hE h5 f5 n5 k5 => ?_) fun hE h5 f5 n5 k5 => ?_)
  rotate_left
  · simp only [↓reduceIte, reduceCtorEq, Za, Zb, Zc, Zd, Ze, Zf, Zg, Zh, Zi, Zj, Zk, Zl, Zm, Zn, Zo, Zp, Zq, Zr, Zs, Zt, Zu, Zv, gval, Zw, rb0, rb1, rb2, rb3, rb4, tf0, tf1, tf2, tf3, Yk, afterC_pan, fnQ_pan]
    refine ⟨(k5 _ (by omega) (by omega)).trans gd, by omega, _, rfl, fun h6 n6 k6 => ?_⟩
    have g6 := (k6 (h.nx + 1 + 1) (by omega) (by omega)).trans ((k5 _ (by omega) (by omega)).trans gc)
    simp (disch := (first | omega | rfl | (simp only [Yn]; omega))) only [↓reduceIte, reduceCtorEq, Za, Zb, Zc, Zd, Ze, Zf, Zg, Zh, Zi, Zj, Zk, Zl, Zm, Zn, Zo, Zp, Zq, Zr, Zs, Zt, Zu, Zv, gval, Zw, rb0, rb1, rb2, rb3, rb4, tf0, tf1, tf2, tf3, Yk, Yh, overL_one, if_pos, stX_exactN, g6]
    refine hR0 _ _ hE (f5.keep (by rw [Heap.nx_upd]; omega) ?_ ?_) (by rw [Heap.nx_upd]; omega) fun b' w1 w2 w3 => ?_
    · rw [Heap.get_upd_ne _ _ (by omega), k6 _ (by omega) (by omega)]
    · rw [Heap.get_upd_ne _ _ (by omega), k6 _ (by omega) (by omega)]
    · rw [Heap.get_upd_ne _ _ (by omega), k6 _ (by omega) (by omega), k5 _ (by omega) w2]; exact k4 _ w1
  · obtain ⟨nm, cE, cL, cN, hpar⟩ := par_root (l := []) (fun _ h => by cases h) hE
    rw [hpar]
    have ga5 := (k5 h.nx (by omega) (by omega)).trans ga
    simp (disch := (first | omega | rfl | (simp only [Yn]; omega))) only [↓reduceIte, reduceCtorEq, Za, Zb, Zc, Zd, Ze, Zf, Zg, Zh, Zi, Zj, Zk, Zl, Zm, Zn, Zo, Zp, Zq, Zr, Zs, Zt, Zu, Zv, gval, Zw, rb0, rb1, rb2, rb3, rb4, tf0, tf1, tf2, tf3, Yk, Yh, overL_one, if_pos, stX_exactN, ga5]
    refine runC_of (dfind_wf f5 r.I r.D (by simp) (fun j e hj => absurd hj (by simp)) fun _ h6 f6 n6 k6 => ?_)
    have ga6 := (k6 h.nx (by omega) (by omega)).trans ga5
    simp (disch := (first | omega | rfl | (simp only [Yn]; omega))) only [↓reduceIte, reduceCtorEq, Za, Zb, Zc, Zd, Ze, Zf, Zg, Zh, Zi, Zj, Zk, Zl, Zm, Zn, Zo, Zp, Zq, Zr, Zs, Zt, Zu, Zv, gval, Zw, rb0, rb1, rb2, rb3, rb4, tf0, tf1, tf2, tf3, Yk, Yh, overL_one, if_pos, stX_exactN, ga6]
    have t6 : h6.get 1 = some (tabBlk .u8 tab) := by rw [k6 1 (by omega) (by omega), k5 1 (by omega) (by omega), k4 _ (by omega)]; exact ht
    refine runC_of (newino_wf t6 f6 hz r hp hb12 cN fun s2 h7 r7 hk7 f7 n7 k7 => ?_)
    have gc7 := (k7 (h.nx + 1 + 1) (by omega) (by omega) (by omega)).trans ((k6 _ (by omega) (by omega)).trans ((k5 _ (by omega) (by omega)).trans gc))
    have gd7 := (k7 (h.nx + 1 + 1 + 1) (by omega) (by omega) (by omega)).trans ((k6 _ (by omega) (by omega)).trans ((k5 _ (by omega) (by omega)).trans gd))
    simp (disch := (first | omega | rfl | (simp only [Yn]; omega))) only [↓reduceIte, reduceCtorEq, Za, Zb, Zc, Zd, Ze, Zf, Zg, Zh, Zi, Zj, Zk, Zl, Zm, Zn, Zo, Zp, Zq, Zr, Zs, Zt, Zu, Zv, gval, Zw, rb0, rb1, rb2, rb3, rb4, tf0, tf1, tf2, tf3, Yk, Yh, overL_one, if_pos, stX_exactN, gc7]
    refine ⟨?_, ?_, fun h8 n8 k8 => ?_⟩
    · rw [Heap.get_upd_ne _ _ (by omega)]; exact gd7
    · rw [Heap.nx_upd]; omega
    rw [Heap.nx_upd] at n8 k8
    have g8 := (k8 (h.nx + 1 + 1) (by omega) (by omega)).trans (Heap.get_upd_same _ _ _)
    simp (disch := (first | omega | rfl | (simp only [Yn]; omega))) only [↓reduceIte, reduceCtorEq, Za, Zb, Zc, Zd, Ze, Zf, Zg, Zh, Zi, Zj, Zk, Zl, Zm, Zn, Zo, Zp, Zq, Zr, Zs, Zt, Zu, Zv, gval, Zw, rb0, rb1, rb2, rb3, rb4, tf0, tf1, tf2, tf3, Yk, Yh, overL_one, if_pos, stX_exactN, g8]
    refine hR1 nm s2 _ cE cL cN r7 hk7 (f7.keep (by rw [Heap.nx_upd]; omega) ?_ ?_) (by rw [Heap.nx_upd]; omega) fun b' w1 w2 w3 => ?_
    · rw [Heap.get_upd_ne _ _ (by omega), k8 _ (by omega) (by omega), Heap.get_upd_ne _ _ (by omega)]
    · rw [Heap.get_upd_ne _ _ (by omega), k8 _ (by omega) (by omega), Heap.get_upd_ne _ _ (by omega)]
    · rw [Heap.get_upd_ne _ _ (by omega), k8 _ (by omega) (by omega), Heap.get_upd_ne _ _ (by omega), k7 _ (by omega) w2 w3, k6 _ (by omega) w2, k5 _ (by omega) w2]; exact k4 _ w1
end Go.Proofs.YtbgminppkacdlaaGreatDoor
end
section
/- Rows of names: what stays when one is taken out. No condition on the program. -/
namespace Go.Proofs.YtbgminppkacdlaaGreatDoor
open Go.AM
open Nat renaming reduceBEq → Za, reduceEqDiff → Zb, reduceAdd → Zc, reduceSub → Zd, reduceMul → Ze, reduceLT → Zf, reduceLeDiff → Zg, reduceDiv → Zh, reduceMod → Zi, reducePow → Zj
open Int renaming reduceAdd → Zk, reduceSub → Zl, reduceMul → Zm, reduceLT → Zn, reduceLE → Zo, reduceEq → Zp, reduceNe → Zq, reduceNeg → Zr, reduceToNat → Zs, reduceDiv → Zt, reduceMod → Zu, reducePow → Zv, cast_ofNat_Int → Zw
set_option linter.unusedSimpArgs false
def nms (l : List (List UInt8 × Nat)) : List (List UInt8) := l.map (·.1)
theorem nms_app {a b : List (List UInt8 × Nat)} : nms (a ++ b) = nms a ++ nms b := List.map_append
end Go.Proofs.YtbgminppkacdlaaGreatDoor
end
section
/- Directories: List. Conditions: the disk lies as the rule names. -/
namespace Go.Proofs.YtbgminppkacdlaaGreatDoor
open Go.AM
open Nat renaming reduceBEq → Za, reduceEqDiff → Zb, reduceAdd → Zc, reduceSub → Zd, reduceMul → Ze, reduceLT → Zf, reduceLeDiff → Zg, reduceDiv → Zh, reduceMod → Zi, reducePow → Zj
open Int renaming reduceAdd → Zk, reduceSub → Zl, reduceMul → Zm, reduceLT → Zn, reduceLE → Zo, reduceEq → Zp, reduceNe → Zq, reduceNeg → Zr, reduceToNat → Zs, reduceDiv → Zt, reduceMod → Zu, reducePow → Zv, cast_ofNat_Int → Zw
set_option linter.unusedSimpArgs false
variable {h : Heap} {R : Out → Heap → Prop} {bd bl : Nat} {s : FS} {F : Nat → Prop}
def tos (l : List (List UInt8 × Nat)) : List Value := l.map fun e => .int .i64 (e.2 : Int)
theorem tos_take {l : List (List UInt8 × Nat)} {j : Nat} {y : List UInt8 × Nat} (h : l[j]? = some y) : tos (l.take (j + 1)) = tos (l.take j) ++ [.int .i64 (y.2 : Int)] := by
  rw [List.take_add_one, h]; unfold tos; rw [List.map_append]; rfl
theorem nms_take {l : List (List UInt8 × Nat)} {j : Nat} {y : List UInt8 × Nat} (h : l[j]? = some y) : strs (nms (l.take (j + 1))) = strs (nms (l.take j)) ++ [.string (mkS y.1)] := by
  rw [List.take_add_one, h, nms_app, strs_app]; rfl
theorem bs1_50 (v : Int) (nx : Nat) : effBuildSlice Tryz.prog 45 1 [(0, .int .i64 v)] nx = some ⟨.slice (some ⟨nx, 0, none⟩) 1 1, [], [cellsB [.int .i64 v] .exact]⟩ := by
  rw [u_buildSlice 45 1 nx _ mk_45 (by omega)]; rfl
theorem disj_of {a b : List Nat} (h : ∀ x ∈ a, x ∉ b) : disj a b = true := by
  unfold disj
  rw [List.all_eq_true]
  intro x hx
  rw [Bool.not_eq_true', List.any_eq_false]
  intro y hy
  rw [Bool.not_eq_true, ← Bool.not_eq_true, Nat.beq_eq]
  exact fun e => h x hx (e ▸ hy)
theorem foot_app (a b : Operand) (ts : Array TypeId) (ρ : Operand → Value) : foot (.call ⟨.builtin .append, #[a, b], ts⟩) ρ = blkOf (ρ a) ++ blkOf (ρ b) := by
  show blkOf (ρ a) ++ (blkOf (ρ b) ++ []) = _
  rw [List.append_nil]
theorem growG2 {P : Program} {h : Heap} {ts : Array TypeId} {z : List Value} {lo s mb n k : Nat} {v x : Value} {L new : List Value} (ht : appT P ts = some (z, s, mb)) (g : RowG h lo s v n L) (hlo : lo ≤ h.nx) (hx : lenV x = some k) (hk : k ≠ 0) (hsz : (n + k) * mb * 4 ≤ 2 ^ 40) (hnew : firstL h.get s k x = some new) (hl : new.length = k * s) :
    ∃ E h3 w, aAppend P ts v x h.get h.nx = some E ∧ E.val = w ∧ h.apply E = h3 ∧ RowG h3 lo s w (n + k) (L ++ new) ∧ h3.nx = h.nx + 1 ∧ (∀ b', b' < h.nx → b' ∉ blkOf v → h3.get b' = h.get b') ∧ blkOf w = [h.nx] ∧ ∀ y ∈ E.wr.map (·.1) ++ newIds h.nx E.nw, y ∈ blkOf v ∨ y = h.nx := by
  obtain ⟨E, h3, w, a1, a2, a3, a4, a5, a6, a7⟩ := growG ht g hlo hx hk hsz hnew hl
  refine ⟨E, h3, w, a1, a2, a3, a4, a5, a6, a7, ?_⟩
  rcases g.is with ⟨rfl, rfl, rfl⟩ | ⟨b, h1, h2, rfl, h4⟩
  · rw [aAppend_nil ht k x h.get h.nx hx hk (by simpa using hsz) hnew] at a1
    cases Option.some.inj a1
    intro y hy
    simp only [List.map_nil, List.nil_append, newIds_cons, newIds_nil, List.mem_singleton] at hy
    exact .inr hy
  · rw [aAppend_loose ht b n k x h.get h.nx h4 g.len hx hk hsz hnew] at a1
    cases Option.some.inj a1
    intro y hy
    simp only [List.map_cons, List.map_nil, newIds_cons, newIds_nil, List.cons_append, List.nil_append, List.mem_cons, List.not_mem_nil, or_false] at hy
    rcases hy with rfl | rfl
    · exact .inl (List.mem_singleton.2 rfl)
    · exact .inr rfl
set_option maxRecDepth 100000 in
set_option maxHeartbeats 1000000 in
theorem list_wf (f : Fs h bd bl s) {k : Nat} {l : List (List UInt8 × Nat)} (I : s.Inv F) (D : Dr s F k l) (hl : l.length ≤ 21)
    (hR : ∀ h' v w, Fs h' bd bl s → h.nx ≤ h'.nx → (∀ b', b' < h.nx → b' ≠ bd → h'.get b' = h.get b') → RowG h' h.nx 1 v l.length (strs (nms l)) → RowG h' h.nx 1 w l.length (tos l) → R (.ret (.tuple #[v, w])) h') :
    WF Tryz.prog 2 sp16 57 [.iface 22 (.pointer (some ⟨bd, 0, none⟩)), .int .i64 k] h R := by
  refine wf_fn (fn := Tryz.f57) rfl rfl (by kernel_rfl) rfl ?_
  have q1 := f.d.bd_lt
  have q2 := f.d.bl_lt
  simp only [↓reduceIte, reduceCtorEq, Za, Zb, Zc, Zd, Ze, Zf, Zg, Zh, Zi, Zj, Zk, Zl, Zm, Zn, Zo, Zp, Zq, Zr, Zs, Zt, Zu, Zv, gval, Zw, rb0, rb1, rb2, rb3, rb4, tf0, tf1, tf2, tf3, Yk, Tryz.f57]
  refine runC_of (read_wf f I D fun h1 v f1 n1 k1 r1 => ?_)
  obtain ⟨a, hs⟩ := r1.slc
  have x := EntAt.of r1
  have hv := fun b hb => (r1.lt b hb).2
  rw [hs] at x hv ⊢
  simp only [↓reduceIte, reduceCtorEq, Za, Zb, Zc, Zd, Ze, Zf, Zg, Zh, Zi, Zj, Zk, Zl, Zm, Zn, Zo, Zp, Zq, Zr, Zs, Zt, Zu, Zv, gval, Zw, rb0, rb1, rb2, rb3, rb4, tf0, tf1, tf2, tf3, Yk]
  refine run_loop2 rfl (fun N e h' => ∃ (j : Nat) (v w : Value), N = l.length - j ∧ j ≤ l.length ∧ e.at 8 = v ∧ e.at 9 = w ∧ e.at 18 = .slice a l.length l.length ∧ e.at 19 = .int .i64 l.length ∧ e.at 20 = .int .i64 j ∧ RowG h' h1.nx 1 v j (strs (nms (l.take j))) ∧ RowG h' h1.nx 1 w j (tos (l.take j)) ∧ (∀ b ∈ blkOf v, b ∉ blkOf w) ∧ h1.nx ≤ h'.nx ∧ ∀ b', b' < h1.nx → h'.get b' = h1.get b')
    (fun ex e h' => ex = .exit 0 ∧ ∃ v w : Value, e.at 8 = v ∧ e.at 9 = w ∧ RowG h' h1.nx 1 v l.length (strs (nms l)) ∧ RowG h' h1.nx 1 w l.length (tos l) ∧ h1.nx ≤ h'.nx ∧ ∀ b', b' < h1.nx → h'.get b' = h1.get b') ?_ (l.length - 0) _ _ ?_ ?_
  · rintro N e h' ⟨j, v, w, rfl, hj, e8, e9, e18, e19, e20, rv, rw', dj, hn, hk⟩ Q' hQn hQx
    by_cases hc : j < l.length
    · obtain ⟨y, hy⟩ : ∃ y, l[j]? = some y := ⟨_, List.getElem?_eq_getElem hc⟩
      rcases x.is with ⟨_, rfl⟩ | ⟨b, c', K, L, hv2, gb, hL, hA⟩
      · exact absurd hc (Nat.not_lt_zero _)
      cases hv2
      have hp0 : (0 : Int) ≤ (j : Int) := by omega
      have hp1 : (j : Int) < (l.length : Int) := by omega
      have wp : wrapF .i64 ((j : Int) + 1) = ((j + 1 : Nat) : Int) := by rw [wrapI (by omega) (by omega)]; omega
      have gb' := (hk b (hv b (List.mem_singleton.2 rfl))).trans gb
      have hA := hA j y hy
      have hp2 : j * 2 + 2 ≤ L.length := by omega
      obtain ⟨h2, hh2⟩ : ∃ h2, h'.new (cellsB [.string (mkS y.1), .int .i64 (y.2 : Int)] .exact) = h2 := ⟨_, rfl⟩
      have n2 : h2.nx = h'.nx + 1 := by rw [← hh2, Heap.nx_new]
      have g2 : h2.get h'.nx = some (cellsB [.string (mkS y.1), .int .i64 (y.2 : Int)] .exact) := by rw [← hh2, Heap.get_new_same]
      have k2 : ∀ b', b' < h'.nx → h2.get b' = h'.get b' := fun b' hb' => by rw [← hh2, Heap.get_new_ne _ _ (by omega)]
      obtain ⟨h3, hh3⟩ : ∃ h3, h2.new (cellsB [.string (mkS y.1)] .exact) = h3 := ⟨_, rfl⟩
      have n3 : h3.nx = h2.nx + 1 := by rw [← hh3, Heap.nx_new]
      have g3 : h3.get h2.nx = some (cellsB [.string (mkS y.1)] .exact) := by rw [← hh3, Heap.get_new_same]
      have k3 : ∀ b', b' < h2.nx → h3.get b' = h2.get b' := fun b' hb' => by rw [← hh3, Heap.get_new_ne _ _ (by omega)]
      have rv3 : RowG h3 h1.nx 1 v j (strs (nms (l.take j))) := rv.keep (by omega) fun b' _ w2 _ => by rw [k3 _ (by omega), k2 _ w2]
      obtain ⟨E, h4, v4, a1, a2, a3, a4, a5, a6, a7, a8⟩ := growG2 app_100_100 rv3 (by omega) (x := .slice (some ⟨h2.nx, 0, none⟩) 1 1) (k := 1) rfl (by omega) (by omega) (new := [.string (mkS y.1)]) (by rw [firstL_slc _ _ _ _ _ _ _ _ _ g3 (by simp)]; rfl) rfl
      have g4 : h4.get h'.nx = some (cellsB [.string (mkS y.1), .int .i64 (y.2 : Int)] .exact) := by
        rw [a6 _ (by omega) (fun hm => by have := (rv.lt _ hm).2; omega), k3 _ (by omega)]; exact g2
      obtain ⟨h5, hh5⟩ : ∃ h5, h4.new (cellsB [.int .i64 (y.2 : Int)] .exact) = h5 := ⟨_, rfl⟩
      have n5 : h5.nx = h4.nx + 1 := by rw [← hh5, Heap.nx_new]
      have g5 : h5.get h4.nx = some (cellsB [.int .i64 (y.2 : Int)] .exact) := by rw [← hh5, Heap.get_new_same]
      have k5 : ∀ b', b' < h4.nx → h5.get b' = h4.get b' := fun b' hb' => by rw [← hh5, Heap.get_new_ne _ _ (by omega)]
      have rw5 : RowG h5 h1.nx 1 w j (tos (l.take j)) := rw'.keep (by omega) fun b' _ w2 w3 => by rw [k5 _ (by omega), a6 _ (by omega) (fun hm => dj _ hm w3), k3 _ (by omega), k2 _ w2]
      obtain ⟨E6, h6, w6, c1, c2, c3, c4, c5, c6, c7, c8⟩ := growG2 app_45_45 rw5 (by omega) (x := .slice (some ⟨h4.nx, 0, none⟩) 1 1) (k := 1) rfl (by omega) (by omega) (new := [.int .i64 (y.2 : Int)]) (by rw [firstL_slc _ _ _ _ _ _ _ _ _ g5 (by simp)]; rfl) rfl
      simp (disch := (first | omega | rfl | (simp only [Yn]; omega))) only [↓reduceIte, reduceCtorEq, Za, Zb, Zc, Zd, Ze, Zf, Zg, Zh, Zi, Zj, Zk, Zl, Zm, Zn, Zo, Zp, Zq, Zr, Zs, Zt, Zu, Zv, gval, Zw, rb0, rb1, rb2, rb3, rb4, tf0, tf1, tf2, tf3, Yk, Yh, overL_one, if_pos, stX_exactN, e8, e9, e18, e19, e20, hp0, hp1, hp2, gb', hA]
      rw [Heap.upd_new, hh2]
      refine run_draw (ps := [(3, 7), (4, 7), (2, 8), (3, 8), (4, 8)]) (by kernel_rfl) (by kernel_rfl) ?_
      simp (disch := (first | omega | rfl | (simp only [Yn]; omega))) only [↓reduceIte, reduceCtorEq, Za, Zb, Zc, Zd, Ze, Zf, Zg, Zh, Zi, Zj, Zk, Zl, Zm, Zn, Zo, Zp, Zq, Zr, Zs, Zt, Zu, Zv, gval, Zw, rb0, rb1, rb2, rb3, rb4, tf0, tf1, tf2, tf3, Yk, Yh, overL_one, if_pos, stX_exactN, e8, e9, g2, bs1_56 (mkS y.1), hh3, a1, a2, a3, g4, bs1_50, hh5, c1, c2, c3, foot_app, wp]
      have out : ∀ x, x ∈ blkOf v ∨ x = h3.nx → x ≠ h'.nx ∧ x ≠ h4.nx := fun x hx => by
        rcases hx with q | q
        · have := (rv.lt x q).2; omega
        · omega
      refine ⟨⟨by rw [nbeq (by omega)]; rfl, disj_of fun x hx hm => (out x (a8 x hx)).1 (List.mem_singleton.1 hm), by rw [nbeq (by omega)]; rfl, by rw [nbeq (by omega)]; rfl, disj_of fun x hx hm => (out x (a8 x hx)).2 (List.mem_singleton.1 hm), disj_of fun x hx hm => ?_⟩, ?_⟩
      · have hm := List.mem_singleton.1 hm
        rcases List.mem_append.1 hx with q | q
        · have := (rv.lt x q).2; omega
        · have := List.mem_singleton.1 q; omega
      simp only [↓reduceIte, reduceCtorEq, Za, Zb, Zc, Zd, Ze, Zf, Zg, Zh, Zi, Zj, Zk, Zl, Zm, Zn, Zo, Zp, Zq, Zr, Zs, Zt, Zu, Zv, gval, Zw, rb0, rb1, rb2, rb3, rb4, tf0, tf1, tf2, tf3, Yk, e20, wp]
      refine hQn _ _ _ (by omega) ⟨j + 1, v4, w6, rfl, by omega, by simp only [Za, Zw, Ye], by simp only [Za, Zw, Ye], by simp only [Za, Zw, Ye, e18], by simp only [Za, Zw, Ye, e19], by simp only [Za, Zw, Ye], ?_, ?_, ?_, by omega, fun b' hb' => ?_⟩
      · rw [nms_take hy]
        exact a4.keep (by omega) fun b' _ w2 w3 => by
          rw [c6 _ (by omega) (fun hm => ?_), k5 _ w2]
          have := (rw'.lt b' hm).2
          rw [a7] at w3
          have := List.mem_singleton.1 w3; omega
      · rw [tos_take hy]; exact c4
      · rw [a7, c7]
        intro b' m1 m2
        have := List.mem_singleton.1 m1
        have := List.mem_singleton.1 m2
        omega
      · rw [c6 _ (by omega) (fun hm => by have := (rw'.lt b' hm).1; omega), k5 _ (by omega), a6 _ (by omega) (fun hm => by have := (rv.lt b' hm).1; omega), k3 _ (by omega), k2 _ (by omega)]; exact hk b' hb'
    · have hp1 : ¬ (j : Int) < (l.length : Int) := by omega
      simp only [↓reduceIte, reduceCtorEq, Za, Zb, Zc, Zd, Ze, Zf, Zg, Zh, Zi, Zj, Zk, Zl, Zm, Zn, Zo, Zp, Zq, Zr, Zs, Zt, Zu, Zv, gval, Zw, rb0, rb1, rb2, rb3, rb4, tf0, tf1, tf2, tf3, Yk, e19, e20, hp1]
      obtain rfl : j = l.length := by omega
      rw [List.take_length] at rv rw'
      exact hQx _ _ _ (by simp) ⟨rfl, v, w, by simp only [Za, Zw, Ye, e8], by simp only [Za, Zw, Ye, e9], rv, rw', hn, hk⟩
  · exact ⟨0, _, _, rfl, by omega, by simp only [Za, Zw, Ye], by simp only [Za, Zw, Ye], by simp only [Za, Zw, Ye], by simp only [Za, Zw, Ye], by simp only [Za, Zw, Ye], .nil, .nil, (fun _ hb => absurd hb List.not_mem_nil), Nat.le_refl _, fun _ _ => rfl⟩
  · rintro ex e h' - ⟨rfl, v, w, e8, e9, rv, rw', hn, hk⟩
    simp only [↓reduceIte, reduceCtorEq, Za, Zb, Zc, Zd, Ze, Zf, Zg, Zh, Zi, Zj, Zk, Zl, Zm, Zn, Zo, Zp, Zq, Zr, Zs, Zt, Zu, Zv, gval, Zw, rb0, rb1, rb2, rb3, rb4, tf0, tf1, tf2, tf3, Yk, e8, e9]
    exact hR h' v w (f1.keep hn (hk _ (by omega)) (hk _ (by omega))) (by omega) (fun b' h1 h2 => by rw [hk _ (by omega)]; exact k1 b' h1 h2) (rv.mono (by omega)) (rw'.mono (by omega))
end Go.Proofs.YtbgminppkacdlaaGreatDoor
end
section
/- The file system's core: drop, Unlink, Close, an empty Tree. Conditions: the disk lies as the rules name. -/
namespace Go.Proofs.YtbgminppkacdlaaGreatDoor
open Go.AM
open Nat renaming reduceBEq → Za, reduceEqDiff → Zb, reduceAdd → Zc, reduceSub → Zd, reduceMul → Ze, reduceLT → Zf, reduceLeDiff → Zg, reduceDiv → Zh, reduceMod → Zi, reducePow → Zj
open Int renaming reduceAdd → Zk, reduceSub → Zl, reduceMul → Zm, reduceLT → Zn, reduceLE → Zo, reduceEq → Zp, reduceNe → Zq, reduceNeg → Zr, reduceToNat → Zs, reduceDiv → Zt, reduceMod → Zu, reducePow → Zv, cast_ofNat_Int → Zw
set_option linter.unusedSimpArgs false
variable {h : Heap} {R : Out → Heap → Prop} {bd bl : Nat} {s : FS} {F : Nat → Prop}
set_option maxRecDepth 100000 in
theorem contNil_wf {i : Int} (hR : R (.ret (.bool false)) h) : WF Tryz.prog 2 sp16 65 [.slice none 0 0, .int .i64 i] h R := by
  refine wf_fn (fn := Tryz.f65) rfl rfl (by kernel_rfl) rfl ?_
  simp only [↓reduceIte, reduceCtorEq, Za, Zb, Zc, Zd, Ze, Zf, Zg, Zh, Zi, Zj, Zk, Zl, Zm, Zn, Zo, Zp, Zq, Zr, Zs, Zt, Zu, Zv, gval, Zw, rb0, rb1, rb2, rb3, rb4, tf0, tf1, tf2, tf3, Yk, Tryz.f65]
  refine runC_of (wf_fn (fn := Tryz.f88) rfl rfl (by kernel_rfl) rfl ?_)
  simp only [↓reduceIte, reduceCtorEq, Za, Zb, Zc, Zd, Ze, Zf, Zg, Zh, Zi, Zj, Zk, Zl, Zm, Zn, Zo, Zp, Zq, Zr, Zs, Zt, Zu, Zv, gval, Zw, rb0, rb1, rb2, rb3, rb4, tf0, tf1, tf2, tf3, Yk, Tryz.f88]
  refine Run.loop rfl ?_
  simp (disch := (first | omega | rfl | (simp only [Yn]; omega))) only [↓reduceIte, reduceCtorEq, Za, Zb, Zc, Zd, Ze, Zf, Zg, Zh, Zi, Zj, Zk, Zl, Zm, Zn, Zo, Zp, Zq, Zr, Zs, Zt, Zu, Zv, gval, Zw, rb0, rb1, rb2, rb3, rb4, tf0, tf1, tf2, tf3, Yk, Yh, overL_one, if_pos, stX_exactN]
  exact hR
set_option maxRecDepth 100000 in
theorem len_run (h : Heap) (fu d : Nat) : acall Tryz.prog (1 + 1) sp16 (fu + 100) (d + 10) 82 [.int .u64 0] h = some (.ret (.int .i64 0), h) := by kernel_rfl
theorem len0_wf (hR : R (.ret (.int .i64 0)) h) : WF Tryz.prog 2 sp16 82 [.int .u64 0] h R := by
  refine ⟨_, h, ⟨100, fun fu d h1 h2 => ?_⟩, hR⟩
  obtain ⟨fu, rfl⟩ : ∃ k, fu = k + 100 := ⟨fu - 100, by omega⟩
  obtain ⟨d, rfl⟩ : ∃ k, d = k + 10 := ⟨d - 10, by omega⟩
  exact len_run h fu d
set_option maxRecDepth 100000 in
theorem sortNil_wf {a : Option Addr} {fc : FuncId} {cap : Array Value} (hR : R (.ret (.tuple #[])) h) : WF Tryz.prog 2 sp16 58 [.slice a 0 0, .func (.func fc) #[] cap] h R := by
  refine wf_fn (fn := Tryz.f58) rfl rfl (by kernel_rfl) rfl ?_
  have w0 : wrapF .i64 (0 : Int) = 0 := by decide
  have w1 : wrapF .i64 (1 : Int) = 1 := by decide
  simp only [↓reduceIte, reduceCtorEq, Za, Zb, Zc, Zd, Ze, Zf, Zg, Zh, Zi, Zj, Zk, Zl, Zm, Zn, Zo, Zp, Zq, Zr, Zs, Zt, Zu, Zv, gval, Zw, rb0, rb1, rb2, rb3, rb4, tf0, tf1, tf2, tf3, Yk, Tryz.f58]
  refine runC_of (len0_wf ?_)
  simp only [↓reduceIte, reduceCtorEq, Za, Zb, Zc, Zd, Ze, Zf, Zg, Zh, Zi, Zj, Zk, Zl, Zm, Zn, Zo, Zp, Zq, Zr, Zs, Zt, Zu, Zv, gval, Zw, rb0, rb1, rb2, rb3, rb4, tf0, tf1, tf2, tf3, Yk]
  refine runC_of (wf_fn (fn := Tryz.f81) rfl Tryz.func81 (by kernel_rfl) rfl ?_)
  simp only [↓reduceIte, reduceCtorEq, Za, Zb, Zc, Zd, Ze, Zf, Zg, Zh, Zi, Zj, Zk, Zl, Zm, Zn, Zo, Zp, Zq, Zr, Zs, Zt, Zu, Zv, gval, Zw, rb0, rb1, rb2, rb3, rb4, tf0, tf1, tf2, tf3, Yk, Tryz.f81]
  refine Run.loop rfl ?_
  simp only [↓reduceIte, reduceCtorEq, Za, Zb, Zc, Zd, Ze, Zf, Zg, Zh, Zi, Zj, Zk, Zl, Zm, Zn, Zo, Zp, Zq, Zr, Zs, Zt, Zu, Zv, gval, Zw, rb0, rb1, rb2, rb3, rb4, tf0, tf1, tf2, tf3, Yk, w0]
  refine runC_of (wf_fn (fn := Tryz.f98) rfl rfl (by kernel_rfl) rfl ?_)
  simp only [↓reduceIte, reduceCtorEq, Za, Zb, Zc, Zd, Ze, Zf, Zg, Zh, Zi, Zj, Zk, Zl, Zm, Zn, Zo, Zp, Zq, Zr, Zs, Zt, Zu, Zv, gval, Zw, rb0, rb1, rb2, rb3, rb4, tf0, tf1, tf2, tf3, Yk, Tryz.f98, w1]
  refine Run.loop rfl ?_
  simp only [↓reduceIte, reduceCtorEq, Za, Zb, Zc, Zd, Ze, Zf, Zg, Zh, Zi, Zj, Zk, Zl, Zm, Zn, Zo, Zp, Zq, Zr, Zs, Zt, Zu, Zv, gval, Zw, rb0, rb1, rb2, rb3, rb4, tf0, tf1, tf2, tf3, Yk]
  exact hR
set_option maxRecDepth 100000 in
set_option maxHeartbeats 1000000 in
theorem drop_wf (ht : h.get 1 = some (tabBlk .u8 tab)) (f : Fs h bd bl s) (hz : 1 < bd ∧ 1 < bl) {l : List (List UInt8 × Nat)} {k p : Nat} {t : List UInt8} (hk : k ≤ 5) (r : RF s l (k + 1) t p) {v : Value} {q : Bool}
    (hq : k = 0 → ∀ {h2 : Heap} {R2 : Out → Heap → Prop}, (∀ b', b' < h.nx → b' ≠ bd → b' ≠ bl → h2.get b' = h.get b') → R2 (.ret (.bool q)) h2 → WF Tryz.prog 2 sp16 65 [v, .int .i64 1] h2 R2)
    (_hv : storable v = true)
    (hR1 : k ≠ 0 ∨ q = true → ∀ h', Fs h' bd bl (s.lnk 1 k) → h.nx ≤ h'.nx → (∀ b', b' < h.nx → b' ≠ bd → b' ≠ bl → h'.get b' = h.get b') → R (.ret (.tuple #[])) h')
    (hR2 : k = 0 → q = false → ∀ h', Fs h' bd bl ((s.lnk 1 k).free 1) → h.nx ≤ h'.nx → (∀ b', b' < h.nx → b' ≠ bd → b' ≠ bl → h'.get b' = h.get b') → R (.ret (.tuple #[])) h') :
    WF Tryz.prog 2 sp16 39 [.iface 22 (.pointer (some ⟨bd, 0, none⟩)), .int .i64 1, v] h R := by
  refine wf_fn (fn := Tryz.f39) rfl rfl (by kernel_rfl) rfl ?_
  have q1 := f.d.bd_lt
  have q2 := f.d.bl_lt
  simp only [↓reduceIte, reduceCtorEq, Za, Zb, Zc, Zd, Ze, Zf, Zg, Zh, Zi, Zj, Zk, Zl, Zm, Zn, Zo, Zp, Zq, Zr, Zs, Zt, Zu, Zv, gval, Zw, rb0, rb1, rb2, rb3, rb4, tf0, tf1, tf2, tf3, Yk, Tryz.f39, _hv]
  refine runC_of (links_wf f (i := 1) (by omega) (b := -1) (v := (k : Int)) (by rw [r.lk, wrapI (by omega) (by omega)]; omega) (by omega) fun h1 f1 n1 k1 => ?_)
  by_cases c : k = 0
  · subst c
    simp only [↓reduceIte, reduceCtorEq, Za, Zb, Zc, Zd, Ze, Zf, Zg, Zh, Zi, Zj, Zk, Zl, Zm, Zn, Zo, Zp, Zq, Zr, Zs, Zt, Zu, Zv, gval, Zw, rb0, rb1, rb2, rb3, rb4, tf0, tf1, tf2, tf3, Yk, _hv]
    refine runC_of (hq rfl k1 ?_)
    cases q
    · simp only [↓reduceIte, reduceCtorEq, Za, Zb, Zc, Zd, Ze, Zf, Zg, Zh, Zi, Zj, Zk, Zl, Zm, Zn, Zo, Zp, Zq, Zr, Zs, Zt, Zu, Zv, gval, Zw, rb0, rb1, rb2, rb3, rb4, tf0, tf1, tf2, tf3, Yk]
      have r1 := r.links (v := 0) (by omega)
      refine runC_of (ffree_spec pl16 ((k1 1 (by omega) (by omega) (by omega)).trans ht) f1 hz (i := 1) (by omega) (r1.I.ino 1 (by omega)) r1.I.low fun h2 f2 n2 k2 => ?_)
      simp only [↓reduceIte, reduceCtorEq, Za, Zb, Zc, Zd, Ze, Zf, Zg, Zh, Zi, Zj, Zk, Zl, Zm, Zn, Zo, Zp, Zq, Zr, Zs, Zt, Zu, Zv, gval, Zw, rb0, rb1, rb2, rb3, rb4, tf0, tf1, tf2, tf3, Yk]
      refine runC_of (need_wf (fun _ => ?_) fun c => absurd rfl c)
      simp only [↓reduceIte, reduceCtorEq, Za, Zb, Zc, Zd, Ze, Zf, Zg, Zh, Zi, Zj, Zk, Zl, Zm, Zn, Zo, Zp, Zq, Zr, Zs, Zt, Zu, Zv, gval, Zw, rb0, rb1, rb2, rb3, rb4, tf0, tf1, tf2, tf3, Yk]
      exact hR2 rfl rfl h2 f2 (by omega) fun b' w1 w2 w3 => by rw [k2 _ (by omega) w2 w3]; exact k1 b' w1 w2 w3
    · simp only [↓reduceIte, reduceCtorEq, Za, Zb, Zc, Zd, Ze, Zf, Zg, Zh, Zi, Zj, Zk, Zl, Zm, Zn, Zo, Zp, Zq, Zr, Zs, Zt, Zu, Zv, gval, Zw, rb0, rb1, rb2, rb3, rb4, tf0, tf1, tf2, tf3, Yk]
      exact hR1 (.inr rfl) h1 f1 n1 k1
  · have c1 : ¬ (k : Int) = 0 := by omega
    simp only [↓reduceIte, reduceCtorEq, Za, Zb, Zc, Zd, Ze, Zf, Zg, Zh, Zi, Zj, Zk, Zl, Zm, Zn, Zo, Zp, Zq, Zr, Zs, Zt, Zu, Zv, gval, Zw, rb0, rb1, rb2, rb3, rb4, tf0, tf1, tf2, tf3, Yk, c1, runG_undef]
    exact hR1 (.inl c) h1 f1 n1 k1
set_option maxRecDepth 100000 in
set_option maxHeartbeats 2000000 in
theorem unlink_wf (ht : h.get 1 = some (tabBlk .u8 tab)) (f : Fs h bd bl s) (hz : 1 < bd ∧ 1 < bl) {l : List (List UInt8 × Nat)} {k pp : Nat} {t : List UInt8} (hk : k ≤ 5) (r : RF s l (k + 1) t pp) (hl : l.length ≤ 3) {p nm : List UInt8} (cE : splE p = 0) (cL : splL p = [nm]) (hm : lookE nm l = some 1) {v : Value} {q : Bool}
    (hq : k = 0 → ∀ {h2 : Heap} {R2 : Out → Heap → Prop}, (∀ b', b' < h.nx → b' ≠ bd → b' ≠ bl → h2.get b' = h.get b') → R2 (.ret (.bool q)) h2 → WF Tryz.prog 2 sp16 65 [v, .int .i64 1] h2 R2)
    (hv : storable v = true) (hv2 : ∃ a n c, v = .slice a n c)
    (hR1 : k ≠ 0 ∨ q = true → ∀ (j : Nat) e s2 h', l[j]? = some e → e.1 = nm → RF s2 (l.eraseIdx j) k t (pp + 1) → Fs h' bd bl s2 → h.nx ≤ h'.nx → (∀ b', b' < h.nx → b' ≠ bd → b' ≠ bl → h'.get b' = h.get b') → R (.ret (.int .i64 0)) h')
    (hR2 : k = 0 → q = false → ∀ (j : Nat) e s2 h', l[j]? = some e → e.1 = nm → RF s2 (l.eraseIdx j) 0 t (pp + 1) → Fs h' bd bl (s2.free 1) → h.nx ≤ h'.nx → (∀ b', b' < h.nx → b' ≠ bd → b' ≠ bl → h'.get b' = h.get b') → R (.ret (.int .i64 0)) h') :
    WF Tryz.prog 2 sp16 13 [.iface 22 (.pointer (some ⟨bd, 0, none⟩)), .string (mkS p), v] h R := by
  refine wf_fn (fn := Tryz.f13) rfl rfl (by kernel_rfl) rfl ?_
  have q1 := f.d.bd_lt
  have q2 := f.d.bl_lt
  obtain ⟨va, vn, vc, rfl⟩ := hv2
  simp (disch := (first | omega | rfl | (simp only [Yn]; omega))) only [↓reduceIte, reduceCtorEq, Za, Zb, Zc, Zd, Ze, Zf, Zg, Zh, Zi, Zj, Zk, Zl, Zm, Zn, Zo, Zp, Zq, Zr, Zs, Zt, Zu, Zv, gval, Zw, rb0, rb1, rb2, rb3, rb4, tf0, tf1, tf2, tf3, Yk, Yh, overL_one, if_pos, stX_exactN, Tryz.f13]
  refine runC_of (ftry_wf ?_)
  obtain ⟨h4, hh4⟩ : ∃ h4, (((h.new (cellsB [.iface 22 (.pointer (some ⟨bd, 0, none⟩))] .exact)).new (cellsB [.string (mkS p)] .exact)).new (cellsB [.slice va vn vc] .exact)).new (cellsB [.int .i64 0] .exact) = h4 := ⟨_, rfl⟩
  rw [hh4]
  have n4 : h4.nx = h.nx + 4 := by rw [← hh4]; simp only [Heap.nx_new]
  have ga : h4.get h.nx = some (cellsB [.iface 22 (.pointer (some ⟨bd, 0, none⟩))] .exact) := by rw [← hh4]; simp (disch := (first | omega | rfl | (simp only [Yn]; omega))) only [Yh, Yc]
  have gb : h4.get (h.nx + 1) = some (cellsB [.string (mkS p)] .exact) := by rw [← hh4]; simp (disch := (first | omega | rfl | (simp only [Yn]; omega))) only [Yh, Yc]
  have gc : h4.get (h.nx + 1 + 1) = some (cellsB [.slice va vn vc] .exact) := by rw [← hh4]; simp (disch := (first | omega | rfl | (simp only [Yn]; omega))) only [Yh, Yc]
  have gd : h4.get (h.nx + 1 + 1 + 1) = some (cellsB [.int .i64 0] .exact) := by rw [← hh4]; simp (disch := (first | omega | rfl | (simp only [Yn]; omega))) only [Yh, Yc]
  have k4 : ∀ b', b' < h.nx → h4.get b' = h.get b' := fun b' hb' => by rw [← hh4]; simp (disch := (first | omega | rfl | (simp only [Yn]; omega))) only [Yh, Yc]
  have f4 : Fs h4 bd bl s := f.keep (by omega) (k4 _ q1) (k4 _ q2)
  refine wf_fn (fn := Tryz.f37) rfl rfl (by kernel_rfl) rfl ?_
  have hw := walk_of cE cL hm
  have hp := par_of (l := l) cE cL
  simp (disch := (first | omega | rfl | (simp only [Yn]; omega))) only [↓reduceIte, reduceCtorEq, Za, Zb, Zc, Zd, Ze, Zf, Zg, Zh, Zi, Zj, Zk, Zl, Zm, Zn, Zo, Zp, Zq, Zr, Zs, Zt, Zu, Zv, gval, Zw, rb0, rb1, rb2, rb3, rb4, tf0, tf1, tf2, tf3, Yk, Yh, overL_one, if_pos, stX_exactN, Tryz.f37, ga, gb]
  refine runC_of (fwalk_wf f4 r.I (r.ent hl) r.no (p := p) (fun _ h5 f5 n5 k5 => ?_) fun hE => absurd (by rw [hw]) hE)
  rw [hw]
  have ga5 := (k5 h.nx (by omega) (by omega)).trans ga
  simp (disch := (first | omega | rfl | (simp only [Yn]; omega))) only [↓reduceIte, reduceCtorEq, Za, Zb, Zc, Zd, Ze, Zf, Zg, Zh, Zi, Zj, Zk, Zl, Zm, Zn, Zo, Zp, Zq, Zr, Zs, Zt, Zu, Zv, gval, Zw, rb0, rb1, rb2, rb3, rb4, tf0, tf1, tf2, tf3, Yk, Yh, overL_one, if_pos, stX_exactN, ga5]
  refine runC_of (kind_wf f5 (i := 1) (by omega) fun h6 f6 n6 k6 => ?_)
  rw [r.kind]
  simp only [↓reduceIte, reduceCtorEq, Za, Zb, Zc, Zd, Ze, Zf, Zg, Zh, Zi, Zj, Zk, Zl, Zm, Zn, Zo, Zp, Zq, Zr, Zs, Zt, Zu, Zv, gval, Zw, rb0, rb1, rb2, rb3, rb4, tf0, tf1, tf2, tf3, Yk]
  refine runC_of (refuse_wf (by decide) (fun _ => ?_) fun c => absurd c (by decide))
  have ga6 := (k6 h.nx (by omega) (by omega)).trans ga5
  have gb6 := (k6 (h.nx + 1) (by omega) (by omega)).trans ((k5 _ (by omega) (by omega)).trans gb)
  simp (disch := (first | omega | rfl | (simp only [Yn]; omega))) only [↓reduceIte, reduceCtorEq, Za, Zb, Zc, Zd, Ze, Zf, Zg, Zh, Zi, Zj, Zk, Zl, Zm, Zn, Zo, Zp, Zq, Zr, Zs, Zt, Zu, Zv, gval, Zw, rb0, rb1, rb2, rb3, rb4, tf0, tf1, tf2, tf3, Yk, Yh, overL_one, if_pos, stX_exactN, ga6, gb6]
  refine runC_of (fpar_wf f6 r.I (r.ent hl) r.no (p := p) (fun _ h7 f7 n7 k7 => ?_) fun hE => absurd (by rw [hp]) hE)
  rw [hp]
  have ga7 := (k7 h.nx (by omega) (by omega)).trans ga6
  simp (disch := (first | omega | rfl | (simp only [Yn]; omega))) only [↓reduceIte, reduceCtorEq, Za, Zb, Zc, Zd, Ze, Zf, Zg, Zh, Zi, Zj, Zk, Zl, Zm, Zn, Zo, Zp, Zq, Zr, Zs, Zt, Zu, Zv, gval, Zw, rb0, rb1, rb2, rb3, rb4, tf0, tf1, tf2, tf3, Yk, Yh, overL_one, if_pos, stX_exactN, ga7]
  have t7 : h7.get 1 = some (tabBlk .u8 tab) := by rw [k7 1 (by omega) (by omega), k6 1 (by omega) (by omega), k5 1 (by omega) (by omega), k4 _ (by omega)]; exact ht
  refine runC_of (remove_wf t7 f7 hz r.I r.D (by omega) (fun hno => ?_) fun j e hj he _ s8 h8 dw f8 n8 k8 => ?_)
  · exfalso
    have : lookE nm l = none := lookE_none fun j e' hj => hno e' (List.mem_of_getElem? hj)
    rw [this] at hm; cases hm
  have r8 : RF s8 (l.eraseIdx j) (k + 1) t (pp + 1) := r.root dw (fun e he => r.D.ok e (List.mem_of_mem_eraseIdx he)) (Nat.le_trans (List.length_eraseIdx_le ..) hl) fun e he => r.uq e (List.mem_of_mem_eraseIdx he)
  simp only [↓reduceIte, reduceCtorEq, Za, Zb, Zc, Zd, Ze, Zf, Zg, Zh, Zi, Zj, Zk, Zl, Zm, Zn, Zo, Zp, Zq, Zr, Zs, Zt, Zu, Zv, gval, Zw, rb0, rb1, rb2, rb3, rb4, tf0, tf1, tf2, tf3, Yk]
  refine runC_of (need_wf (fun _ => ?_) fun c => absurd rfl c)
  have ga8 := (k8 h.nx (by omega) (by omega) (by omega)).trans ga7
  have gc8 := (k8 (h.nx + 1 + 1) (by omega) (by omega) (by omega)).trans ((k7 _ (by omega) (by omega)).trans ((k6 _ (by omega) (by omega)).trans ((k5 _ (by omega) (by omega)).trans gc)))
  have gd8 := (k8 (h.nx + 1 + 1 + 1) (by omega) (by omega) (by omega)).trans ((k7 _ (by omega) (by omega)).trans ((k6 _ (by omega) (by omega)).trans ((k5 _ (by omega) (by omega)).trans gd)))
  have t8 := (k8 1 (by omega) (by omega) (by omega)).trans t7
  have k08 : ∀ b', b' < h.nx → b' ≠ bd → b' ≠ bl → h8.get b' = h.get b' := fun b' w1 w2 w3 => by rw [k8 _ (by omega) w2 w3, k7 _ (by omega) w2, k6 _ (by omega) w2, k5 _ (by omega) w2]; exact k4 _ w1
  simp (disch := (first | omega | rfl | (simp only [Yn]; omega))) only [↓reduceIte, reduceCtorEq, Za, Zb, Zc, Zd, Ze, Zf, Zg, Zh, Zi, Zj, Zk, Zl, Zm, Zn, Zo, Zp, Zq, Zr, Zs, Zt, Zu, Zv, gval, Zw, rb0, rb1, rb2, rb3, rb4, tf0, tf1, tf2, tf3, Yk, Yh, overL_one, if_pos, stX_exactN, ga8, gc8]
  refine runC_of (drop_wf t8 f8 hz hk r8 (q := q) (fun c {h2 R2} kk hR => hq c (fun b' w1 w2 w3 => by rw [kk _ (by omega) w2 w3]; exact k08 b' w1 w2 w3) hR) hv (fun c h9 f9 n9 k9 => ?_) fun c c2 h9 f9 n9 k9 => ?_)
  · simp only [↓reduceIte, reduceCtorEq, Za, Zb, Zc, Zd, Ze, Zf, Zg, Zh, Zi, Zj, Zk, Zl, Zm, Zn, Zo, Zp, Zq, Zr, Zs, Zt, Zu, Zv, gval, Zw, rb0, rb1, rb2, rb3, rb4, tf0, tf1, tf2, tf3, Yk]
    refine ⟨(k9 _ (by omega) (by omega) (by omega)).trans gd8, by omega, fun h10 n10 k10 => ?_⟩
    simp only [↓reduceIte, reduceCtorEq, Za, Zb, Zc, Zd, Ze, Zf, Zg, Zh, Zi, Zj, Zk, Zl, Zm, Zn, Zo, Zp, Zq, Zr, Zs, Zt, Zu, Zv, gval, Zw, rb0, rb1, rb2, rb3, rb4, tf0, tf1, tf2, tf3, Yk]
    refine hR1 c j e _ h10 hj he (r8.links (v := k) (by omega)) (f9.keep n10 (k10 _ (by omega) (by omega)) (k10 _ (by omega) (by omega))) (by omega) fun b' w1 w2 w3 => ?_
    rw [k10 _ (by omega) (by omega), k9 _ (by omega) w2 w3]; exact k08 b' w1 w2 w3
  · simp only [↓reduceIte, reduceCtorEq, Za, Zb, Zc, Zd, Ze, Zf, Zg, Zh, Zi, Zj, Zk, Zl, Zm, Zn, Zo, Zp, Zq, Zr, Zs, Zt, Zu, Zv, gval, Zw, rb0, rb1, rb2, rb3, rb4, tf0, tf1, tf2, tf3, Yk]
    refine ⟨(k9 _ (by omega) (by omega) (by omega)).trans gd8, by omega, fun h10 n10 k10 => ?_⟩
    simp only [↓reduceIte, reduceCtorEq, Za, Zb, Zc, Zd, Ze, Zf, Zg, Zh, Zi, Zj, Zk, Zl, Zm, Zn, Zo, Zp, Zq, Zr, Zs, Zt, Zu, Zv, gval, Zw, rb0, rb1, rb2, rb3, rb4, tf0, tf1, tf2, tf3, Yk]
    subst c
    refine hR2 rfl c2 j e (s8.lnk 1 (0 : Nat)) h10 hj he (r8.links (v := 0) (by omega)) (f9.keep n10 (k10 _ (by omega) (by omega)) (k10 _ (by omega) (by omega))) (by omega) fun b' w1 w2 w3 => ?_
    rw [k10 _ (by omega) (by omega), k9 _ (by omega) w2 w3]; exact k08 b' w1 w2 w3
set_option maxRecDepth 100000 in
set_option maxHeartbeats 1000000 in
theorem treeNil_wf (f : Fs h bd bl s) (r : RE s)
    (hR : ∀ h', Fs h' bd bl s → h.nx ≤ h'.nx → (∀ b', b' < h.nx → b' ≠ bd → h'.get b' = h.get b') → R (.ret (.slice none 0 0)) h') :
    WF Tryz.prog 2 sp16 11 [.iface 22 (.pointer (some ⟨bd, 0, none⟩))] h R := by
  refine wf_fn (fn := Tryz.f11) rfl rfl (by kernel_rfl) rfl ?_
  have q1 := f.d.bd_lt
  have q2 := f.d.bl_lt
  simp only [↓reduceIte, reduceCtorEq, Za, Zb, Zc, Zd, Ze, Zf, Zg, Zh, Zi, Zj, Zk, Zl, Zm, Zn, Zo, Zp, Zq, Zr, Zs, Zt, Zu, Zv, gval, Zw, rb0, rb1, rb2, rb3, rb4, tf0, tf1, tf2, tf3, Yk, Tryz.f11]
  refine runC_of (wf_fn (fn := Tryz.f34) rfl rfl (by kernel_rfl) rfl ?_)
  simp only [↓reduceIte, reduceCtorEq, Za, Zb, Zc, Zd, Ze, Zf, Zg, Zh, Zi, Zj, Zk, Zl, Zm, Zn, Zo, Zp, Zq, Zr, Zs, Zt, Zu, Zv, gval, Zw, rb0, rb1, rb2, rb3, rb4, tf0, tf1, tf2, tf3, Yk, Tryz.f34]
  refine runC_of (list_wf f r.I r.D (by simp) fun h1 v w f1 n1 k1 rv rw' => ?_)
  obtain ⟨va, hva⟩ := rv.slc
  obtain ⟨wa, hwa⟩ := rw'.slc
  have hva : v = .slice va 0 0 := hva
  have hwa : w = .slice wa 0 0 := hwa
  subst hva
  subst hwa
  simp (disch := (first | omega | rfl | (simp only [Yn]; omega))) only [↓reduceIte, reduceCtorEq, Za, Zb, Zc, Zd, Ze, Zf, Zg, Zh, Zi, Zj, Zk, Zl, Zm, Zn, Zo, Zp, Zq, Zr, Zs, Zt, Zu, Zv, gval, Zw, rb0, rb1, rb2, rb3, rb4, tf0, tf1, tf2, tf3, Yk, Yh, overL_one, if_pos, stX_exactN]
  refine Run.loop rfl ?_
  simp (disch := (first | omega | rfl | (simp only [Yn]; omega))) only [↓reduceIte, reduceCtorEq, Za, Zb, Zc, Zd, Ze, Zf, Zg, Zh, Zi, Zj, Zk, Zl, Zm, Zn, Zo, Zp, Zq, Zr, Zs, Zt, Zu, Zv, gval, Zw, rb0, rb1, rb2, rb3, rb4, tf0, tf1, tf2, tf3, Yk, Yh, overL_one, if_pos, stX_exactN]
  refine runC_of (sortNil_wf ?_)
  simp (disch := (first | omega | rfl | (simp only [Yn]; omega))) only [↓reduceIte, reduceCtorEq, Za, Zb, Zc, Zd, Ze, Zf, Zg, Zh, Zi, Zj, Zk, Zl, Zm, Zn, Zo, Zp, Zq, Zr, Zs, Zt, Zu, Zv, gval, Zw, rb0, rb1, rb2, rb3, rb4, tf0, tf1, tf2, tf3, Yk, Yh, overL_one, if_pos, stX_exactN]
  refine Run.loop rfl ?_
  simp (disch := (first | omega | rfl | (simp only [Yn]; omega))) only [↓reduceIte, reduceCtorEq, Za, Zb, Zc, Zd, Ze, Zf, Zg, Zh, Zi, Zj, Zk, Zl, Zm, Zn, Zo, Zp, Zq, Zr, Zs, Zt, Zu, Zv, gval, Zw, rb0, rb1, rb2, rb3, rb4, tf0, tf1, tf2, tf3, Yk, Yh, overL_one, if_pos, stX_exactN]
  refine hR _ (f1.keep (by simp only [Heap.nx_new, Heap.nx_upd]; omega) ?_ ?_) (by simp only [Heap.nx_new, Heap.nx_upd]; omega) fun b' w1 w2 => ?_
  · simp (disch := (first | omega | rfl | (simp only [Yn]; omega))) only [Yh, Yc]
  · simp (disch := (first | omega | rfl | (simp only [Yn]; omega))) only [Yh, Yc]
  · simp (disch := (first | omega | rfl | (simp only [Yn]; omega))) only [Yh, Yc]
    exact k1 b' w1 w2
end Go.Proofs.YtbgminppkacdlaaGreatDoor
end
section
/- The file system's core: Link. Conditions: the disk lies as the rules name. -/
namespace Go.Proofs.YtbgminppkacdlaaGreatDoor
open Go.AM
open Nat renaming reduceBEq → Za, reduceEqDiff → Zb, reduceAdd → Zc, reduceSub → Zd, reduceMul → Ze, reduceLT → Zf, reduceLeDiff → Zg, reduceDiv → Zh, reduceMod → Zi, reducePow → Zj
open Int renaming reduceAdd → Zk, reduceSub → Zl, reduceMul → Zm, reduceLT → Zn, reduceLE → Zo, reduceEq → Zp, reduceNe → Zq, reduceNeg → Zr, reduceToNat → Zs, reduceDiv → Zt, reduceMod → Zu, reducePow → Zv, cast_ofNat_Int → Zw
set_option linter.unusedSimpArgs false
variable {h : Heap} {R : Out → Heap → Prop} {bd bl : Nat} {s : FS} {F : Nat → Prop}
theorem nm_ent {nm : List UInt8} (hn : NmP nm) : EntOk (nm, 1) := by
  have hc := hn.2.2
  unfold chk at hc
  refine ⟨?_, ?_, by show 1 < 256; omega⟩
  · show nm.length ≤ 8
    by_cases q8 : 8 < nm.length
    · rw [if_pos q8] at hc; exact absurd hc (by decide)
    · omega
  · intro hm
    have hm : (0 : UInt8) ∈ nm := hm
    by_cases q8 : 8 < nm.length
    · rw [if_pos q8] at hc; exact absurd hc (by decide)
    · rw [if_neg q8, if_pos hm] at hc; exact absurd hc (by decide)
set_option maxRecDepth 100000 in
set_option maxHeartbeats 2000000 in
theorem link_wf (ht : h.get 1 = some (tabBlk .u8 tab)) (f : Fs h bd bl s) (hz : 1 < bd ∧ 1 < bl) {na : List UInt8} {k pp : Nat} {t : List UInt8} (hk : k ≤ 5) (hpp : pp ≤ 30) (r : RF s [(na, 1)] k t pp) {pa pb : List UInt8} (cE : splE pa = 0) (cL : splL pa = [na])
    (hR0 : ∀ (E : Int) h', E ≠ 0 → Fs h' bd bl s → h.nx ≤ h'.nx → (∀ b', b' < h.nx → b' ≠ bd → b' ≠ bl → h'.get b' = h.get b') → R (.ret (.int .i64 E)) h')
    (hR1 : ∀ nb s2 h', splE pb = 0 → splL pb = [nb] → NmP nb → nb ≠ na → RF s2 [(na, 1), (nb, 1)] (k + 1) t (pp + 1) → Fs h' bd bl s2 → h.nx ≤ h'.nx → (∀ b', b' < h.nx → b' ≠ bd → b' ≠ bl → h'.get b' = h.get b') → R (.ret (.int .i64 0)) h') :
    WF Tryz.prog 2 sp16 10 [.iface 22 (.pointer (some ⟨bd, 0, none⟩)), .string (mkS pa), .string (mkS pb)] h R := by
  refine wf_fn (fn := Tryz.f10) rfl rfl (by kernel_rfl) rfl ?_
  have q1 := f.d.bd_lt
  have q2 := f.d.bl_lt
  simp (disch := (first | omega | rfl | (simp only [Yn]; omega))) only [↓reduceIte, reduceCtorEq, Za, Zb, Zc, Zd, Ze, Zf, Zg, Zh, Zi, Zj, Zk, Zl, Zm, Zn, Zo, Zp, Zq, Zr, Zs, Zt, Zu, Zv, gval, Zw, rb0, rb1, rb2, rb3, rb4, tf0, tf1, tf2, tf3, Yk, Yh, overL_one, if_pos, stX_exactN, Tryz.f10]
  refine runC_of (ftry_wf ?_)
  obtain ⟨h4, hh4⟩ : ∃ h4, (((h.new (cellsB [.iface 22 (.pointer (some ⟨bd, 0, none⟩))] .exact)).new (cellsB [.string (mkS pa)] .exact)).new (cellsB [.string (mkS pb)] .exact)).new (cellsB [.int .i64 0] .exact) = h4 := ⟨_, rfl⟩
  rw [hh4]
  have n4 : h4.nx = h.nx + 4 := by rw [← hh4]; simp only [Heap.nx_new]
  have ga : h4.get h.nx = some (cellsB [.iface 22 (.pointer (some ⟨bd, 0, none⟩))] .exact) := by rw [← hh4]; simp (disch := (first | omega | rfl | (simp only [Yn]; omega))) only [Yh, Yc]
  have gb : h4.get (h.nx + 1) = some (cellsB [.string (mkS pa)] .exact) := by rw [← hh4]; simp (disch := (first | omega | rfl | (simp only [Yn]; omega))) only [Yh, Yc]
  have gc : h4.get (h.nx + 1 + 1) = some (cellsB [.string (mkS pb)] .exact) := by rw [← hh4]; simp (disch := (first | omega | rfl | (simp only [Yn]; omega))) only [Yh, Yc]
  have gd : h4.get (h.nx + 1 + 1 + 1) = some (cellsB [.int .i64 0] .exact) := by rw [← hh4]; simp (disch := (first | omega | rfl | (simp only [Yn]; omega))) only [Yh, Yc]
  have k4 : ∀ b', b' < h.nx → h4.get b' = h.get b' := fun b' hb' => by rw [← hh4]; simp (disch := (first | omega | rfl | (simp only [Yn]; omega))) only [Yh, Yc]
  have f4 : Fs h4 bd bl s := f.keep (by omega) (k4 _ q1) (k4 _ q2)
  refine wf_fn (fn := Tryz.f29) rfl rfl (by kernel_rfl) rfl ?_
  have hm : lookE na [(na, 1)] = some 1 := by unfold lookE; rw [if_pos rfl]
  have hw := walk_of cE cL hm
  have hl : ([(na, 1)] : List (List UInt8 × Nat)).length ≤ 3 := by simp
  simp (disch := (first | omega | rfl | (simp only [Yn]; omega))) only [↓reduceIte, reduceCtorEq, Za, Zb, Zc, Zd, Ze, Zf, Zg, Zh, Zi, Zj, Zk, Zl, Zm, Zn, Zo, Zp, Zq, Zr, Zs, Zt, Zu, Zv, gval, Zw, rb0, rb1, rb2, rb3, rb4, tf0, tf1, tf2, tf3, Yk, Yh, overL_one, if_pos, stX_exactN, Tryz.f29, ga, gb]
  refine runC_of (fwalk_wf f4 r.I (r.ent hl) r.no (p := pa) (fun _ h5 f5 n5 k5 => ?_) fun hE => absurd (by rw [hw]) hE)
  rw [hw]
  have ga5 := (k5 h.nx (by omega) (by omega)).trans ga
  simp (disch := (first | omega | rfl | (simp only [Yn]; omega))) only [↓reduceIte, reduceCtorEq, Za, Zb, Zc, Zd, Ze, Zf, Zg, Zh, Zi, Zj, Zk, Zl, Zm, Zn, Zo, Zp, Zq, Zr, Zs, Zt, Zu, Zv, gval, Zw, rb0, rb1, rb2, rb3, rb4, tf0, tf1, tf2, tf3, Yk, Yh, overL_one, if_pos, stX_exactN, ga5]
  refine runC_of (kind_wf f5 (i := 1) (by omega) fun h6 f6 n6 k6 => ?_)
  rw [r.kind]
  simp only [↓reduceIte, reduceCtorEq, Za, Zb, Zc, Zd, Ze, Zf, Zg, Zh, Zi, Zj, Zk, Zl, Zm, Zn, Zo, Zp, Zq, Zr, Zs, Zt, Zu, Zv, gval, Zw, rb0, rb1, rb2, rb3, rb4, tf0, tf1, tf2, tf3, Yk]
  refine runC_of (refuse_wf (by decide) (fun _ => ?_) fun c => absurd c (by decide))
  have ga6 := (k6 h.nx (by omega) (by omega)).trans ga5
  have gc6 := (k6 (h.nx + 1 + 1) (by omega) (by omega)).trans ((k5 _ (by omega) (by omega)).trans gc)
  have gd6 := (k6 (h.nx + 1 + 1 + 1) (by omega) (by omega)).trans ((k5 _ (by omega) (by omega)).trans gd)
  have k06 : ∀ b', b' < h.nx → b' ≠ bd → h6.get b' = h.get b' := fun b' w1 w2 => by rw [k6 _ (by omega) w2, k5 _ (by omega) w2]; exact k4 _ w1
  simp (disch := (first | omega | rfl | (simp only [Yn]; omega))) only [↓reduceIte, reduceCtorEq, Za, Zb, Zc, Zd, Ze, Zf, Zg, Zh, Zi, Zj, Zk, Zl, Zm, Zn, Zo, Zp, Zq, Zr, Zs, Zt, Zu, Zv, gval, Zw, rb0, rb1, rb2, rb3, rb4, tf0, tf1, tf2, tf3, Yk, Yh, overL_one, if_pos, stX_exactN, ga6, gc6]
  refine runC_of (fpar_wf f6 r.I (r.ent hl) r.no (p := pb) (fun hE h7 f7 n7 k7 => ?_) fun hE h7 f7 n7 k7 => ?_)
  rotate_left
  · simp only [↓reduceIte, reduceCtorEq, Za, Zb, Zc, Zd, Ze, Zf, Zg, Zh, Zi, Zj, Zk, Zl, Zm, Zn, Zo, Zp, Zq, Zr, Zs, Zt, Zu, Zv, gval, Zw, rb0, rb1, rb2, rb3, rb4, tf0, tf1, tf2, tf3, Yk, afterC_pan, fnQ_pan]
    refine ⟨(k7 _ (by omega) (by omega)).trans gd6, by omega, _, rfl, fun h8 n8 k8 => ?_⟩
    simp only [↓reduceIte, reduceCtorEq, Za, Zb, Zc, Zd, Ze, Zf, Zg, Zh, Zi, Zj, Zk, Zl, Zm, Zn, Zo, Zp, Zq, Zr, Zs, Zt, Zu, Zv, gval, Zw, rb0, rb1, rb2, rb3, rb4, tf0, tf1, tf2, tf3, Yk]
    exact hR0 _ _ hE (f7.keep n8 (k8 _ (by omega) (by omega)) (k8 _ (by omega) (by omega))) (by omega) fun b' w1 w2 w3 => by rw [k8 _ (by omega) (by omega), k7 _ (by omega) w2]; exact k06 b' w1 w2
  · obtain ⟨nb, bE, bL, bN, hpar⟩ := par_root r.uq hE
    rw [hpar]
    have ga7 := (k7 h.nx (by omega) (by omega)).trans ga6
    have gd7 := (k7 (h.nx + 1 + 1 + 1) (by omega) (by omega)).trans gd6
    have t7 : h7.get 1 = some (tabBlk .u8 tab) := by rw [k7 1 (by omega) (by omega), k06 1 (by omega) (by omega)]; exact ht
    simp (disch := (first | omega | rfl | (simp only [Yn]; omega))) only [↓reduceIte, reduceCtorEq, Za, Zb, Zc, Zd, Ze, Zf, Zg, Zh, Zi, Zj, Zk, Zl, Zm, Zn, Zo, Zp, Zq, Zr, Zs, Zt, Zu, Zv, gval, Zw, rb0, rb1, rb2, rb3, rb4, tf0, tf1, tf2, tf3, Yk, Yh, overL_one, if_pos, stX_exactN, ga7]
    refine runC_of (add_wf t7 f7 hz r.I r.D (by simp) (nm := nb) (tn := 1) (fun q => ?_) (fun _ q h8 f8 n8 k8 => ?_) (fun _ _ q => ?_) fun tt et _ _ hno _ s8 h8 dw f8 n8 k8 => ?_)
    · exact absurd q (fun q => by
        rcases q with q | q | q
        · exact q bN
        · omega
        · omega)
    · simp only [↓reduceIte, reduceCtorEq, Za, Zb, Zc, Zd, Ze, Zf, Zg, Zh, Zi, Zj, Zk, Zl, Zm, Zn, Zo, Zp, Zq, Zr, Zs, Zt, Zu, Zv, gval, Zw, rb0, rb1, rb2, rb3, rb4, tf0, tf1, tf2, tf3, Yk]
      refine runC_of (need_wf (fun c => absurd c (by decide)) fun _ => ?_)
      simp only [↓reduceIte, reduceCtorEq, Za, Zb, Zc, Zd, Ze, Zf, Zg, Zh, Zi, Zj, Zk, Zl, Zm, Zn, Zo, Zp, Zq, Zr, Zs, Zt, Zu, Zv, gval, Zw, rb0, rb1, rb2, rb3, rb4, tf0, tf1, tf2, tf3, Yk, afterC_pan, fnQ_pan]
      refine ⟨(k8 _ (by omega) (by omega) (by omega)).trans gd7, by omega, _, rfl, fun h9 n9 k9 => ?_⟩
      simp only [↓reduceIte, reduceCtorEq, Za, Zb, Zc, Zd, Ze, Zf, Zg, Zh, Zi, Zj, Zk, Zl, Zm, Zn, Zo, Zp, Zq, Zr, Zs, Zt, Zu, Zv, gval, Zw, rb0, rb1, rb2, rb3, rb4, tf0, tf1, tf2, tf3, Yk]
      exact hR0 _ _ (by decide) (f8.keep n9 (k9 _ (by omega) (by omega)) (k9 _ (by omega) (by omega))) (by omega) fun b' w1 w2 w3 => by rw [k9 _ (by omega) (by omega), k8 _ (by omega) w2 w3, k7 _ (by omega) w2]; exact k06 b' w1 w2
    · exfalso
      rcases q with q | q
      · simp at q
      · have h1 := r.pop
        rw [r.n] at q
        simp at q
        unfold needN at q; omega
    · obtain rfl : tt = 1 := by omega
      have hne : nb ≠ na := fun e => hno (na, 1) (List.mem_singleton.2 rfl) e.symm
      have ok8 : ∀ e ∈ [(na, 1)] ++ [(nb, 1)], EntOk e := fun e he => by
        rcases List.mem_append.1 he with q | q
        · exact r.D.ok e q
        · rw [List.mem_singleton.1 q]; exact nm_ent bN
      have r8 : RF s8 [(na, 1), (nb, 1)] k t (pp + 1) := r.root dw ok8 (by simp) fun e he => by
        rcases List.mem_append.1 (show e ∈ [(na, 1)] ++ [(nb, 1)] from he) with q | q
        · exact r.uq e q
        · rw [List.mem_singleton.1 q]
      simp only [↓reduceIte, reduceCtorEq, Za, Zb, Zc, Zd, Ze, Zf, Zg, Zh, Zi, Zj, Zk, Zl, Zm, Zn, Zo, Zp, Zq, Zr, Zs, Zt, Zu, Zv, gval, Zw, rb0, rb1, rb2, rb3, rb4, tf0, tf1, tf2, tf3, Yk]
      refine runC_of (need_wf (fun _ => ?_) fun c => absurd rfl c)
      have ga8 := (k8 h.nx (by omega) (by omega) (by omega)).trans ga7
      simp (disch := (first | omega | rfl | (simp only [Yn]; omega))) only [↓reduceIte, reduceCtorEq, Za, Zb, Zc, Zd, Ze, Zf, Zg, Zh, Zi, Zj, Zk, Zl, Zm, Zn, Zo, Zp, Zq, Zr, Zs, Zt, Zu, Zv, gval, Zw, rb0, rb1, rb2, rb3, rb4, tf0, tf1, tf2, tf3, Yk, Yh, overL_one, if_pos, stX_exactN, ga8]
      refine runC_of (links_wf f8 (i := 1) (by omega) (b := 1) (v := ((k + 1 : Nat) : Int)) (by rw [r8.lk, wrapI (by omega) (by omega)]; omega) (by omega) fun h9 f9 n9 k9 => ?_)
      simp only [↓reduceIte, reduceCtorEq, Za, Zb, Zc, Zd, Ze, Zf, Zg, Zh, Zi, Zj, Zk, Zl, Zm, Zn, Zo, Zp, Zq, Zr, Zs, Zt, Zu, Zv, gval, Zw, rb0, rb1, rb2, rb3, rb4, tf0, tf1, tf2, tf3, Yk]
      refine ⟨(k9 _ (by omega) (by omega) (by omega)).trans ((k8 _ (by omega) (by omega) (by omega)).trans gd7), by omega, fun h10 n10 k10 => ?_⟩
      simp only [↓reduceIte, reduceCtorEq, Za, Zb, Zc, Zd, Ze, Zf, Zg, Zh, Zi, Zj, Zk, Zl, Zm, Zn, Zo, Zp, Zq, Zr, Zs, Zt, Zu, Zv, gval, Zw, rb0, rb1, rb2, rb3, rb4, tf0, tf1, tf2, tf3, Yk]
      exact hR1 nb _ h10 bE bL bN hne (r8.links (v := k + 1) (by omega)) (f9.keep n10 (k10 _ (by omega) (by omega)) (k10 _ (by omega) (by omega))) (by omega) fun b' w1 w2 w3 => by rw [k10 _ (by omega) (by omega), k9 _ (by omega) w2 w3, k8 _ (by omega) w2 w3, k7 _ (by omega) w2]; exact k06 b' w1 w2
end Go.Proofs.YtbgminppkacdlaaGreatDoor
end
section
/- The file system's core: the Tree of one file. Conditions: the disk lies as the rules name. -/
namespace Go.Proofs.YtbgminppkacdlaaGreatDoor
open Go.AM
open Nat renaming reduceBEq → Za, reduceEqDiff → Zb, reduceAdd → Zc, reduceSub → Zd, reduceMul → Ze, reduceLT → Zf, reduceLeDiff → Zg, reduceDiv → Zh, reduceMod → Zi, reducePow → Zj
open Int renaming reduceAdd → Zk, reduceSub → Zl, reduceMul → Zm, reduceLT → Zn, reduceLE → Zo, reduceEq → Zp, reduceNe → Zq, reduceNeg → Zr, reduceToNat → Zs, reduceDiv → Zt, reduceMod → Zu, reducePow → Zv, cast_ofNat_Int → Zw
set_option linter.unusedSimpArgs false
variable {h : Heap} {R : Out → Heap → Prop} {bd bl : Nat} {s : FS} {F : Nat → Prop}
set_option maxRecDepth 100000 in
theorem len_run1 (h : Heap) (fu d : Nat) : acall Tryz.prog (1 + 1) sp16 (fu + 100) (d + 10) 82 [.int .u64 1] h = some (.ret (.int .i64 1), h) := by kernel_rfl
theorem len1_wf (hR : R (.ret (.int .i64 1)) h) : WF Tryz.prog 2 sp16 82 [.int .u64 1] h R := by
  refine ⟨_, h, ⟨100, fun fu d h1 h2 => ?_⟩, hR⟩
  obtain ⟨fu, rfl⟩ : ∃ k, fu = k + 100 := ⟨fu - 100, by omega⟩
  obtain ⟨d, rfl⟩ : ∃ k, d = k + 10 := ⟨d - 10, by omega⟩
  exact len_run1 h fu d
set_option maxRecDepth 100000 in
theorem sortOne_wf {a : Option Addr} {fc : FuncId} {cap : Array Value} (hR : R (.ret (.tuple #[])) h) : WF Tryz.prog 2 sp16 58 [.slice a 1 1, .func (.func fc) #[] cap] h R := by
  refine wf_fn (fn := Tryz.f58) rfl rfl (by kernel_rfl) rfl ?_
  have w1 : wrapF .i64 (1 : Int) = 1 := by decide
  have w1u : wrapF .u64 (1 : Int) = 1 := by decide
  simp only [↓reduceIte, reduceCtorEq, Za, Zb, Zc, Zd, Ze, Zf, Zg, Zh, Zi, Zj, Zk, Zl, Zm, Zn, Zo, Zp, Zq, Zr, Zs, Zt, Zu, Zv, gval, Zw, rb0, rb1, rb2, rb3, rb4, tf0, tf1, tf2, tf3, Yk, Tryz.f58, w1u]
  refine runC_of (len1_wf ?_)
  simp only [↓reduceIte, reduceCtorEq, Za, Zb, Zc, Zd, Ze, Zf, Zg, Zh, Zi, Zj, Zk, Zl, Zm, Zn, Zo, Zp, Zq, Zr, Zs, Zt, Zu, Zv, gval, Zw, rb0, rb1, rb2, rb3, rb4, tf0, tf1, tf2, tf3, Yk]
  refine runC_of (wf_fn (fn := Tryz.f81) rfl rfl (by kernel_rfl) rfl ?_)
  simp only [↓reduceIte, reduceCtorEq, Za, Zb, Zc, Zd, Ze, Zf, Zg, Zh, Zi, Zj, Zk, Zl, Zm, Zn, Zo, Zp, Zq, Zr, Zs, Zt, Zu, Zv, gval, Zw, rb0, rb1, rb2, rb3, rb4, tf0, tf1, tf2, tf3, Yk, Tryz.f81]
  refine Run.loop rfl ?_
  simp only [↓reduceIte, reduceCtorEq, Za, Zb, Zc, Zd, Ze, Zf, Zg, Zh, Zi, Zj, Zk, Zl, Zm, Zn, Zo, Zp, Zq, Zr, Zs, Zt, Zu, Zv, gval, Zw, rb0, rb1, rb2, rb3, rb4, tf0, tf1, tf2, tf3, Yk, w1]
  refine runC_of (wf_fn (fn := Tryz.f98) rfl rfl (by kernel_rfl) rfl ?_)
  simp only [↓reduceIte, reduceCtorEq, Za, Zb, Zc, Zd, Ze, Zf, Zg, Zh, Zi, Zj, Zk, Zl, Zm, Zn, Zo, Zp, Zq, Zr, Zs, Zt, Zu, Zv, gval, Zw, rb0, rb1, rb2, rb3, rb4, tf0, tf1, tf2, tf3, Yk, Tryz.f98, w1]
  refine Run.loop rfl ?_
  simp only [↓reduceIte, reduceCtorEq, Za, Zb, Zc, Zd, Ze, Zf, Zg, Zh, Zi, Zj, Zk, Zl, Zm, Zn, Zo, Zp, Zq, Zr, Zs, Zt, Zu, Zv, gval, Zw, rb0, rb1, rb2, rb3, rb4, tf0, tf1, tf2, tf3, Yk]
  exact hR
theorem str_add (t : TypeId) (x y : Operand) {a b : List UInt8} (hl : a.length + b.length ≤ 1000) (g : Nat → Option Blk) : effBin Tryz.prog .add t x y (.string (mkS a)) (.string (mkS b)) g = ret (.string (mkS (a ++ b))) := by
  rw [effBin_str]
  have h2 : strOp .add (mkS a) (mkS b) = some (.string (mkS a ++ mkS b)) := by
    unfold strOp
    simp only [mkS_size]
    rw [if_pos (by omega)]
  rw [h2]
  show ret (.string (mkS a ++ mkS b)) = _
  have : mkS a ++ mkS b = mkS (a ++ b) := by
    have h1 : (mkS a ++ mkS b).data = (mkS (a ++ b)).data := by
      rw [ByteArray.data_append]
      show a.toArray ++ b.toArray = (a ++ b).toArray
      rw [List.append_toArray]
    cases hx : mkS a ++ mkS b with
    | mk d => rw [hx] at h1; exact congrArg ByteArray.mk h1
  rw [this]
theorem bsNode (x y : ByteArray) (nx : Nat) : effBuildSlice Tryz.prog 30 1 [(0, .agg #[.string x, .bool false, .string y])] nx = some ⟨.slice (some ⟨nx, 0, none⟩) 1 1, [], [cellsB [.string x, .bool false, .string y] .exact]⟩ := by
  rw [u_buildSlice 30 1 nx _ mk_30 (by omega)]; rfl
structure NodesAt (h : Heap) (lo : Nat) (v : Value) (n : Nat) (t : List UInt8) : Prop where
  is : ∃ b L, lo ≤ b ∧ b < h.nx ∧ v = .slice (some ⟨b, 0, none⟩) n n ∧ h.get b = some (cellsB L (.loose 3)) ∧ L.length = n * 3 ∧ ∀ i, i < n → L[i * 3 + 2]? = some (.string (mkS t))
set_option maxRecDepth 100000 in
set_option maxHeartbeats 2000000 in
theorem tree1_wf (f : Fs h bd bl s) {na : List UInt8} {lk pp : Nat} {t : List UInt8} (r : RF s [(na, 1)] lk t pp) (hn8 : na.length ≤ 8) (ht : t.length ≤ 192)
    (hR : ∀ h' v, Fs h' bd bl s → h.nx ≤ h'.nx → (∀ b', b' < h.nx → b' ≠ bd → h'.get b' = h.get b') → NodesAt h' h.nx v 1 t → R (.ret v) h') :
    WF Tryz.prog 2 sp16 11 [.iface 22 (.pointer (some ⟨bd, 0, none⟩))] h R := by
  refine wf_fn (fn := Tryz.f11) rfl rfl (by kernel_rfl) rfl ?_
  have q1 := f.d.bd_lt
  have q2 := f.d.bl_lt
  have s0 : ByteArray.mk #[] = mkS [] := rfl
  have s47 : ByteArray.mk #[47] = mkS [47] := rfl
  simp only [↓reduceIte, reduceCtorEq, Za, Zb, Zc, Zd, Ze, Zf, Zg, Zh, Zi, Zj, Zk, Zl, Zm, Zn, Zo, Zp, Zq, Zr, Zs, Zt, Zu, Zv, gval, Zw, rb0, rb1, rb2, rb3, rb4, tf0, tf1, tf2, tf3, Yk, Tryz.f11]
  refine runC_of (wf_fn (fn := Tryz.f34) rfl rfl (by kernel_rfl) rfl ?_)
  simp only [↓reduceIte, reduceCtorEq, Za, Zb, Zc, Zd, Ze, Zf, Zg, Zh, Zi, Zj, Zk, Zl, Zm, Zn, Zo, Zp, Zq, Zr, Zs, Zt, Zu, Zv, gval, Zw, rb0, rb1, rb2, rb3, rb4, tf0, tf1, tf2, tf3, Yk, Tryz.f34]
  refine runC_of (list_wf f r.I r.D (by simp) fun h1 v w f1 n1 k1 rv rw' => ?_)
  rcases rv.is with ⟨_, hx, _⟩ | ⟨b1, u1, u2, u3, g1⟩
  · cases hx
  rcases rw'.is with ⟨_, hx, _⟩ | ⟨b2, v1, v2, v3, g2⟩
  · cases hx
  have u3 : v = .slice (some ⟨b1, 0, none⟩) 1 1 := u3
  have v3 : w = .slice (some ⟨b2, 0, none⟩) 1 1 := v3
  subst u3
  subst v3
  have g1 : h1.get b1 = some (cellsB [.string (mkS na)] (.loose 1)) := g1
  have g2 : h1.get b2 = some (cellsB [.int .i64 1] (.loose 1)) := g2
  have hrow : mkRow [Value.int .i64 0] 1 = cellsB [.int .i64 0] .exact := mkRow_eq _ _ (by omega)
  have w1 : wrapF .i64 (1 : Int) = 1 := by decide
  simp (disch := (first | omega | rfl | (simp only [Yn]; omega))) only [↓reduceIte, reduceCtorEq, Za, Zb, Zc, Zd, Ze, Zf, Zg, Zh, Zi, Zj, Zk, Zl, Zm, Zn, Zo, Zp, Zq, Zr, Zs, Zt, Zu, Zv, gval, Zw, rb0, rb1, rb2, rb3, rb4, tf0, tf1, tf2, tf3, Yk, Yh, overL_one, if_pos, stX_exactN, hrow]
  refine Run.loop rfl ?_
  simp (disch := (first | omega | rfl | (simp only [Yn]; omega))) only [↓reduceIte, reduceCtorEq, Za, Zb, Zc, Zd, Ze, Zf, Zg, Zh, Zi, Zj, Zk, Zl, Zm, Zn, Zo, Zp, Zq, Zr, Zs, Zt, Zu, Zv, gval, Zw, rb0, rb1, rb2, rb3, rb4, tf0, tf1, tf2, tf3, Yk, Yh, overL_one, if_pos, stX_exactN, hrow, w1]
  refine Run.loop rfl ?_
  simp (disch := (first | omega | rfl | (simp only [Yn]; omega))) only [↓reduceIte, reduceCtorEq, Za, Zb, Zc, Zd, Ze, Zf, Zg, Zh, Zi, Zj, Zk, Zl, Zm, Zn, Zo, Zp, Zq, Zr, Zs, Zt, Zu, Zv, gval, Zw, rb0, rb1, rb2, rb3, rb4, tf0, tf1, tf2, tf3, Yk, Yh, overL_one, if_pos, stX_exactN]
  refine runC_of (sortOne_wf ?_)
  obtain ⟨h2, hh2⟩ : ∃ h2, (((h1.new (cellsB [.slice none 0 0] .exact)).upd h1.nx (cellsB [.slice (some ⟨b1, 0, none⟩) 1 1] .exact)).new (cellsB [.int .i64 0] .exact)).upd (h1.nx + 1) (cellsB [.int .i64 0] .exact) = h2 := ⟨_, rfl⟩
  have n2 : h2.nx = h1.nx + 2 := by rw [← hh2]; simp only [Heap.nx_new, Heap.nx_upd]
  have g3 : h2.get h1.nx = some (cellsB [.slice (some ⟨b1, 0, none⟩) 1 1] .exact) := by rw [← hh2]; simp (disch := (first | omega | rfl | (simp only [Yn]; omega))) only [Yh, Yc]
  have g4 : h2.get (h1.nx + 1) = some (cellsB [.int .i64 0] .exact) := by rw [← hh2]; simp (disch := (first | omega | rfl | (simp only [Yn]; omega))) only [Yh, Yc]
  have k2 : ∀ b', b' < h1.nx → h2.get b' = h1.get b' := fun b' hb' => by rw [← hh2]; simp (disch := (first | omega | rfl | (simp only [Yn]; omega))) only [Yh, Yc]
  rw [hh2]
  simp (disch := (first | omega | rfl | (simp only [Yn]; omega))) only [↓reduceIte, reduceCtorEq, Za, Zb, Zc, Zd, Ze, Zf, Zg, Zh, Zi, Zj, Zk, Zl, Zm, Zn, Zo, Zp, Zq, Zr, Zs, Zt, Zu, Zv, gval, Zw, rb0, rb1, rb2, rb3, rb4, tf0, tf1, tf2, tf3, Yk, Yh, overL_one, if_pos, stX_exactN]
  refine Run.loop rfl ?_
  have g12 := (k2 b1 u2).trans g1
  have g22 := (k2 b2 v2).trans g2
  have j1 : ([] : List UInt8).length + ([47] : List UInt8).length ≤ 1000 := by simp
  have j2 : ([47] : List UInt8).length + na.length ≤ 1000 := by simp; omega
  simp (disch := (first | omega | rfl | (simp only [Yn]; omega))) only [↓reduceIte, reduceCtorEq, Za, Zb, Zc, Zd, Ze, Zf, Zg, Zh, Zi, Zj, Zk, Zl, Zm, Zn, Zo, Zp, Zq, Zr, Zs, Zt, Zu, Zv, gval, Zw, rb0, rb1, rb2, rb3, rb4, tf0, tf1, tf2, tf3, Yk, Yh, overL_one, if_pos, stX_exactN, g3, g4, g12, g22, s0, s47, str_add _ _ _ j1, str_add _ _ _ j2]
  have f2 : Fs h2 bd bl s := f1.keep (by omega) (k2 _ (by omega)) (k2 _ (by omega))
  refine runC_of (figet_any pl16 f2 (i := 1) (fun c => absurd ⟨by omega, by omega⟩ c) fun k' ek _ h3 f3 n3 k3 => ?_)
  obtain rfl : 1 = k' := by omega
  have hwl : (i64s (row9 (s.ino 1))).length = 9 := by rw [List.length_map, row9_len]
  have hx0 : (i64s (row9 (s.ino 1)))[0]? = some (.int .i64 1) := by rw [List.getElem?_map, row9_get (by omega), r.kind]; rfl
  simp (disch := (first | omega | rfl | (simp only [Yn]; omega))) only [↓reduceIte, reduceCtorEq, Za, Zb, Zc, Zd, Ze, Zf, Zg, Zh, Zi, Zj, Zk, Zl, Zm, Zn, Zo, Zp, Zq, Zr, Zs, Zt, Zu, Zv, gval, Zw, rb0, rb1, rb2, rb3, rb4, tf0, tf1, tf2, tf3, Yk, Yh, overL_one, if_pos, stX_exactN, hwl]
  rw [overL_nine rfl hwl, Heap.upd_new]
  obtain ⟨h4, hh4⟩ : ∃ h4, h3.new (cellsB (i64s (row9 (s.ino 1))) .exact) = h4 := ⟨_, rfl⟩
  have n4 : h4.nx = h3.nx + 1 := by rw [← hh4, Heap.nx_new]
  have g5 : h4.get h3.nx = some (cellsB (i64s (row9 (s.ino 1))) .exact) := by rw [← hh4, Heap.get_new_same]
  have k4 : ∀ b', b' < h3.nx → h4.get b' = h3.get b' := fun b' hb' => by rw [← hh4, Heap.get_new_ne _ _ (by omega)]
  rw [hh4]
  have f4 : Fs h4 bd bl s := f3.keep (by omega) (k4 _ (by omega)) (k4 _ (by omega))
  have hb2 : b2 ≠ bd := by omega
  have g24 : h4.get b2 = some (cellsB [.int .i64 1] (.loose 1)) := by rw [k4 _ (by omega), k3 _ (by omega) hb2]; exact g22
  simp (disch := (first | omega | rfl | (simp only [Yn]; omega))) only [↓reduceIte, reduceCtorEq, Za, Zb, Zc, Zd, Ze, Zf, Zg, Zh, Zi, Zj, Zk, Zl, Zm, Zn, Zo, Zp, Zq, Zr, Zs, Zt, Zu, Zv, gval, Zw, rb0, rb1, rb2, rb3, rb4, tf0, tf1, tf2, tf3, Yk, Yh, overL_one, if_pos, stX_exactN, g5, hx0, hwl, g24]
  refine runC_of (fread_spec pl16 f4 (i := 1) (off := 0) (n := 192) (fun j ej _ => (show 1 = j by omega) ▸ r.I.ino 1 (by omega)) (by omega) (by omega) (fun q => by omega) fun j o m ej _ eo em h5 f5 n5 k5 => ?_)
  obtain rfl : 1 = j := by omega
  obtain rfl : o = 0 := by omega
  obtain rfl : m = 192 := by omega
  have hsz : s.size 1 = t.length := r.size
  rw [endR_all (by omega)]
  have htx : s.text 1 0 (s.size 1) = t := r.tx
  rw [htx]
  obtain ⟨h6, hh6⟩ : ∃ h6, h5.new (cellsB [.string (mkS (47 :: na)), .bool false, .string (mkS t)] .exact) = h6 := ⟨_, rfl⟩
  have n6 : h6.nx = h5.nx + 1 := by rw [← hh6, Heap.nx_new]
  have g6 : h6.get h5.nx = some (cellsB [.string (mkS (47 :: na)), .bool false, .string (mkS t)] .exact) := by rw [← hh6, Heap.get_new_same]
  have k6 : ∀ b', b' < h5.nx → h6.get b' = h5.get b' := fun b' hb' => by rw [← hh6, Heap.get_new_ne _ _ (by omega)]
  obtain ⟨E, h7, v7, a1, a2, a3, a4, a5, a6, a7⟩ := growG app_30_30 (RowG.nil (h := h6) (lo := h.nx) (s := 3)) (by omega) (x := .slice (some ⟨h5.nx, 0, none⟩) 1 1) (k := 1) rfl (by omega) (by omega) (new := [.string (mkS (47 :: na)), .bool false, .string (mkS t)]) (by rw [firstL_slc _ _ _ _ _ _ _ _ _ g6 (by simp)]; rfl) rfl
  simp (disch := (first | omega | rfl | (simp only [Yn]; omega))) only [↓reduceIte, reduceCtorEq, Za, Zb, Zc, Zd, Ze, Zf, Zg, Zh, Zi, Zj, Zk, Zl, Zm, Zn, Zo, Zp, Zq, Zr, Zs, Zt, Zu, Zv, gval, Zw, rb0, rb1, rb2, rb3, rb4, tf0, tf1, tf2, tf3, Yk, Yh, overL_one, if_pos, stX_exactN, bsNode, hh6, a1, a2, a3, w1]
  refine Run.loop rfl ?_
  simp (disch := (first | omega | rfl | (simp only [Yn]; omega))) only [↓reduceIte, reduceCtorEq, Za, Zb, Zc, Zd, Ze, Zf, Zg, Zh, Zi, Zj, Zk, Zl, Zm, Zn, Zo, Zp, Zq, Zr, Zs, Zt, Zu, Zv, gval, Zw, rb0, rb1, rb2, rb3, rb4, tf0, tf1, tf2, tf3, Yk, Yh, overL_one, if_pos, stX_exactN]
  have kk : ∀ b', b' < h.nx → b' ≠ bd → h7.get b' = h.get b' := fun b' x1 x2 => by
    rw [a6 _ (by omega) (fun hm => absurd hm List.not_mem_nil), k6 _ (by omega), k5 _ (by omega) x2, k4 _ (by omega), k3 _ (by omega) x2, k2 _ (by omega)]; exact k1 b' x1 x2
  have f7 : Fs h7 bd bl s := f5.keep (by omega) (by rw [a6 _ (by omega) (fun hm => absurd hm List.not_mem_nil), k6 _ (by omega)]) (by rw [a6 _ (by omega) (fun hm => absurd hm List.not_mem_nil), k6 _ (by omega)])
  rcases a4.is with ⟨_, hx, _⟩ | ⟨b7, x1, x2, x3, g7⟩
  · cases hx
  have x3 : v7 = .slice (some ⟨b7, 0, none⟩) 1 1 := x3
  subst x3
  refine hR h7 _ f7 (by omega) kk ⟨b7, _, x1, x2, rfl, g7, rfl, fun i hi => ?_⟩
  obtain rfl : i = 0 := by omega
  rfl
end Go.Proofs.YtbgminppkacdlaaGreatDoor
end
section
/- The file system's core: the Tree of two names. Conditions: the disk lies as the rules name. -/
namespace Go.Proofs.YtbgminppkacdlaaGreatDoor
open Go.AM
open Nat renaming reduceBEq → Za, reduceEqDiff → Zb, reduceAdd → Zc, reduceSub → Zd, reduceMul → Ze, reduceLT → Zf, reduceLeDiff → Zg, reduceDiv → Zh, reduceMod → Zi, reducePow → Zj
open Int renaming reduceAdd → Zk, reduceSub → Zl, reduceMul → Zm, reduceLT → Zn, reduceLE → Zo, reduceEq → Zp, reduceNe → Zq, reduceNeg → Zr, reduceToNat → Zs, reduceDiv → Zt, reduceMod → Zu, reducePow → Zv, cast_ofNat_Int → Zw
set_option linter.unusedSimpArgs false
variable {h : Heap} {R : Out → Heap → Prop} {bd bl : Nat} {s : FS} {F : Nat → Prop}
set_option maxRecDepth 100000 in
theorem len_run2 (h : Heap) (fu d : Nat) : acall Tryz.prog (1 + 1) sp16 (fu + 100) (d + 10) 82 [.int .u64 2] h = some (.ret (.int .i64 2), h) := by kernel_rfl
theorem len2_wf (hR : R (.ret (.int .i64 2)) h) : WF Tryz.prog 2 sp16 82 [.int .u64 2] h R := by
  refine ⟨_, h, ⟨100, fun fu d h1 h2 => ?_⟩, hR⟩
  obtain ⟨fu, rfl⟩ : ∃ k, fu = k + 100 := ⟨fu - 100, by omega⟩
  obtain ⟨d, rfl⟩ : ∃ k, d = k + 10 := ⟨d - 10, by omega⟩
  exact len_run2 h fu d
theorem cmp_wf {x y : List UInt8} (hR : R (.ret (.int .i64 (cmpA x y))) h) : WF Tryz.prog 2 sp16 83 [.string (mkS x), .string (mkS y)] h R := by
  refine ⟨.ret (.int .i64 (cmpA x y)), h, ⟨1, fun fu d h1 h2 => ?_⟩, hR⟩
  obtain ⟨d, rfl⟩ : ∃ k, d = k + 1 := ⟨d - 1, by omega⟩
  kernel_rfl
set_option maxRecDepth 100000 in
theorem below1_wf {bn b1 : Nat} {na nb : List UInt8} (g1 : h.get bn = some (cellsB [.slice (some ⟨b1, 0, none⟩) 2 2] .exact)) (g2 : h.get b1 = some (cellsB [.string (mkS na), .string (mkS nb)] (.loose 1))) (hR : ∀ c : Int, R (.ret (.int .i64 c)) h) :
    WF Tryz.prog 2 sp16 59 [.int .i64 1, .int .i64 0, .pointer (some ⟨bn, 0, none⟩)] h R := by
  refine wf_fn (fn := Tryz.f59) rfl rfl (by kernel_rfl) rfl ?_
  simp only [↓reduceIte, reduceCtorEq, Za, Zb, Zc, Zd, Ze, Zf, Zg, Zh, Zi, Zj, Zk, Zl, Zm, Zn, Zo, Zp, Zq, Zr, Zs, Zt, Zu, Zv, gval, Zw, rb0, rb1, rb2, rb3, rb4, tf0, tf1, tf2, tf3, Yk, Tryz.f59]
  refine run_draw (ps := []) (by kernel_rfl) (by kernel_rfl) ?_
  simp (disch := (first | omega | rfl | (simp only [Yn]; omega))) only [↓reduceIte, reduceCtorEq, Za, Zb, Zc, Zd, Ze, Zf, Zg, Zh, Zi, Zj, Zk, Zl, Zm, Zn, Zo, Zp, Zq, Zr, Zs, Zt, Zu, Zv, gval, Zw, rb0, rb1, rb2, rb3, rb4, tf0, tf1, tf2, tf3, Yk, Yh, overL_one, if_pos, stX_exactN, g1, g2]
  refine runCR_of (wf_fn (fn := Tryz.f60) rfl Tryz.func60 (by kernel_rfl) rfl ?_)
  simp only [↓reduceIte, reduceCtorEq, Za, Zb, Zc, Zd, Ze, Zf, Zg, Zh, Zi, Zj, Zk, Zl, Zm, Zn, Zo, Zp, Zq, Zr, Zs, Zt, Zu, Zv, gval, Zw, rb0, rb1, rb2, rb3, rb4, tf0, tf1, tf2, tf3, Yk, Tryz.f60]
  refine runC_of (cmp_wf ?_)
  simp (disch := (first | omega | rfl | (simp only [Yn]; omega))) only [↓reduceIte, reduceCtorEq, Za, Zb, Zc, Zd, Ze, Zf, Zg, Zh, Zi, Zj, Zk, Zl, Zm, Zn, Zo, Zp, Zq, Zr, Zs, Zt, Zu, Zv, gval, Zw, rb0, rb1, rb2, rb3, rb4, tf0, tf1, tf2, tf3, Yk, Yh, overL_one, if_pos, stX_exactN, g1, g2]
  exact hR _
set_option maxRecDepth 100000 in
theorem sortTwo_wf {bo bn b1 : Nat} {na nb : List UInt8} (go : h.get bo = some (cellsB [.int .i64 0, .int .i64 1] .exact)) (g1 : h.get bn = some (cellsB [.slice (some ⟨b1, 0, none⟩) 2 2] .exact)) (g2 : h.get b1 = some (cellsB [.string (mkS na), .string (mkS nb)] (.loose 1)))
    (hR : ∀ (x y : Nat) h', (x = 0 ∧ y = 1 ∨ x = 1 ∧ y = 0) → h'.get bo = some (cellsB [.int .i64 x, .int .i64 y] .exact) → h'.nx = h.nx → (∀ b', b' ≠ bo → h'.get b' = h.get b') → R (.ret (.tuple #[])) h') :
    WF Tryz.prog 2 sp16 58 [.slice (some ⟨bo, 0, none⟩) 2 2, .func (.func 59) #[] #[.pointer (some ⟨bn, 0, none⟩)]] h R := by
  refine wf_fn (fn := Tryz.f58) rfl rfl (by kernel_rfl) rfl ?_
  have w1 : wrapF .i64 (1 : Int) = 1 := by decide
  have w2 : wrapF .i64 (2 : Int) = 2 := by decide
  have w0 : wrapF .i64 (0 : Int) = 0 := by decide
  have w2u : wrapF .u64 (2 : Int) = 2 := by decide
  simp only [↓reduceIte, reduceCtorEq, Za, Zb, Zc, Zd, Ze, Zf, Zg, Zh, Zi, Zj, Zk, Zl, Zm, Zn, Zo, Zp, Zq, Zr, Zs, Zt, Zu, Zv, gval, Zw, rb0, rb1, rb2, rb3, rb4, tf0, tf1, tf2, tf3, Yk, Tryz.f58, w2u]
  refine runC_of (len2_wf ?_)
  simp only [↓reduceIte, reduceCtorEq, Za, Zb, Zc, Zd, Ze, Zf, Zg, Zh, Zi, Zj, Zk, Zl, Zm, Zn, Zo, Zp, Zq, Zr, Zs, Zt, Zu, Zv, gval, Zw, rb0, rb1, rb2, rb3, rb4, tf0, tf1, tf2, tf3, Yk]
  refine runC_of (wf_fn (fn := Tryz.f81) rfl rfl (by kernel_rfl) rfl ?_)
  simp only [↓reduceIte, reduceCtorEq, Za, Zb, Zc, Zd, Ze, Zf, Zg, Zh, Zi, Zj, Zk, Zl, Zm, Zn, Zo, Zp, Zq, Zr, Zs, Zt, Zu, Zv, gval, Zw, rb0, rb1, rb2, rb3, rb4, tf0, tf1, tf2, tf3, Yk, Tryz.f81]
  refine Run.loop rfl ?_
  simp only [↓reduceIte, reduceCtorEq, Za, Zb, Zc, Zd, Ze, Zf, Zg, Zh, Zi, Zj, Zk, Zl, Zm, Zn, Zo, Zp, Zq, Zr, Zs, Zt, Zu, Zv, gval, Zw, rb0, rb1, rb2, rb3, rb4, tf0, tf1, tf2, tf3, Yk, w2]
  refine runC_of (wf_fn (fn := Tryz.f98) rfl rfl (by kernel_rfl) rfl ?_)
  simp only [↓reduceIte, reduceCtorEq, Za, Zb, Zc, Zd, Ze, Zf, Zg, Zh, Zi, Zj, Zk, Zl, Zm, Zn, Zo, Zp, Zq, Zr, Zs, Zt, Zu, Zv, gval, Zw, rb0, rb1, rb2, rb3, rb4, tf0, tf1, tf2, tf3, Yk, Tryz.f98, w1]
  refine Run.loop rfl ?_
  simp only [↓reduceIte, reduceCtorEq, Za, Zb, Zc, Zd, Ze, Zf, Zg, Zh, Zi, Zj, Zk, Zl, Zm, Zn, Zo, Zp, Zq, Zr, Zs, Zt, Zu, Zv, gval, Zw, rb0, rb1, rb2, rb3, rb4, tf0, tf1, tf2, tf3, Yk]
  refine Run.loop rfl ?_
  simp only [↓reduceIte, reduceCtorEq, Za, Zb, Zc, Zd, Ze, Zf, Zg, Zh, Zi, Zj, Zk, Zl, Zm, Zn, Zo, Zp, Zq, Zr, Zs, Zt, Zu, Zv, gval, Zw, rb0, rb1, rb2, rb3, rb4, tf0, tf1, tf2, tf3, Yk]
  refine run_draw (ps := []) (by kernel_rfl) (by kernel_rfl) ?_
  simp (disch := (first | omega | rfl | (simp only [Yn]; omega))) only [↓reduceIte, reduceCtorEq, Za, Zb, Zc, Zd, Ze, Zf, Zg, Zh, Zi, Zj, Zk, Zl, Zm, Zn, Zo, Zp, Zq, Zr, Zs, Zt, Zu, Zv, gval, Zw, rb0, rb1, rb2, rb3, rb4, tf0, tf1, tf2, tf3, Yk, Yh, overL_one, if_pos, stX_exactN, w0, go]
  refine runCR_of (below1_wf g1 g2 fun c => ?_)
  by_cases hc : c < 0
  · simp (disch := (first | omega | rfl | (simp only [Yn]; omega))) only [↓reduceIte, reduceCtorEq, Za, Zb, Zc, Zd, Ze, Zf, Zg, Zh, Zi, Zj, Zk, Zl, Zm, Zn, Zo, Zp, Zq, Zr, Zs, Zt, Zu, Zv, gval, Zw, rb0, rb1, rb2, rb3, rb4, tf0, tf1, tf2, tf3, Yk, Yh, overL_one, if_pos, stX_exactN, hc, go, decide_true]
    refine run_draw (ps := [(4, 15)]) (by kernel_rfl) (by kernel_rfl) ?_
    simp (disch := (first | omega | rfl | (simp only [Yn]; omega))) only [↓reduceIte, reduceCtorEq, Za, Zb, Zc, Zd, Ze, Zf, Zg, Zh, Zi, Zj, Zk, Zl, Zm, Zn, Zo, Zp, Zq, Zr, Zs, Zt, Zu, Zv, gval, Zw, rb0, rb1, rb2, rb3, rb4, tf0, tf1, tf2, tf3, Yk, Yh, overL_one, if_pos, stX_exactN, w0, go]
    refine Run.loop rfl ?_
    simp only [↓reduceIte, reduceCtorEq, Za, Zb, Zc, Zd, Ze, Zf, Zg, Zh, Zi, Zj, Zk, Zl, Zm, Zn, Zo, Zp, Zq, Zr, Zs, Zt, Zu, Zv, gval, Zw, rb0, rb1, rb2, rb3, rb4, tf0, tf1, tf2, tf3, Yk]
    refine run_draw (ps := []) (by kernel_rfl) (by kernel_rfl) ?_
    simp only [↓reduceIte, reduceCtorEq, Za, Zb, Zc, Zd, Ze, Zf, Zg, Zh, Zi, Zj, Zk, Zl, Zm, Zn, Zo, Zp, Zq, Zr, Zs, Zt, Zu, Zv, gval, Zw, rb0, rb1, rb2, rb3, rb4, tf0, tf1, tf2, tf3, Yk, runG_undef, w0, w2]
    refine Run.loop rfl ?_
    simp only [↓reduceIte, reduceCtorEq, Za, Zb, Zc, Zd, Ze, Zf, Zg, Zh, Zi, Zj, Zk, Zl, Zm, Zn, Zo, Zp, Zq, Zr, Zs, Zt, Zu, Zv, gval, Zw, rb0, rb1, rb2, rb3, rb4, tf0, tf1, tf2, tf3, Yk, w2]
    exact hR 1 0 _ (.inr ⟨rfl, rfl⟩) (Heap.get_upd_same _ _ _) (Heap.nx_upd _ _ _) fun b' hb' => Heap.get_upd_ne _ _ hb'
  · simp (disch := (first | omega | rfl | (simp only [Yn]; omega))) only [↓reduceIte, reduceCtorEq, Za, Zb, Zc, Zd, Ze, Zf, Zg, Zh, Zi, Zj, Zk, Zl, Zm, Zn, Zo, Zp, Zq, Zr, Zs, Zt, Zu, Zv, gval, Zw, rb0, rb1, rb2, rb3, rb4, tf0, tf1, tf2, tf3, Yk, Yh, overL_one, if_pos, stX_exactN, hc, go, decide_false, w2]
    refine Run.loop rfl ?_
    simp (disch := (first | omega | rfl | (simp only [Yn]; omega))) only [↓reduceIte, reduceCtorEq, Za, Zb, Zc, Zd, Ze, Zf, Zg, Zh, Zi, Zj, Zk, Zl, Zm, Zn, Zo, Zp, Zq, Zr, Zs, Zt, Zu, Zv, gval, Zw, rb0, rb1, rb2, rb3, rb4, tf0, tf1, tf2, tf3, Yk, Yh, overL_one, if_pos, stX_exactN, w2]
    exact hR 0 1 h (.inl ⟨rfl, rfl⟩) go rfl fun _ _ => rfl
set_option maxRecDepth 100000 in
set_option maxHeartbeats 4000000 in
theorem tree2_wf (f : Fs h bd bl s) {na nb : List UInt8} {lk pp : Nat} {t : List UInt8} (r : RF s [(na, 1), (nb, 1)] lk t pp) (hn8 : na.length ≤ 8 ∧ nb.length ≤ 8) (ht : t.length ≤ 192)
    (hR : ∀ h' v, Fs h' bd bl s → h.nx ≤ h'.nx → (∀ b', b' < h.nx → b' ≠ bd → h'.get b' = h.get b') → NodesAt h' h.nx v 2 t → R (.ret v) h') :
    WF Tryz.prog 2 sp16 11 [.iface 22 (.pointer (some ⟨bd, 0, none⟩))] h R := by
  refine wf_fn (fn := Tryz.f11) rfl rfl (by kernel_rfl) rfl ?_
  have q1 := f.d.bd_lt
  have q2 := f.d.bl_lt
  have s0 : ByteArray.mk #[] = mkS [] := rfl
  have s47 : ByteArray.mk #[47] = mkS [47] := rfl
  simp only [↓reduceIte, reduceCtorEq, Za, Zb, Zc, Zd, Ze, Zf, Zg, Zh, Zi, Zj, Zk, Zl, Zm, Zn, Zo, Zp, Zq, Zr, Zs, Zt, Zu, Zv, gval, Zw, rb0, rb1, rb2, rb3, rb4, tf0, tf1, tf2, tf3, Yk, Tryz.f11]
  refine runC_of (wf_fn (fn := Tryz.f34) rfl rfl (by kernel_rfl) rfl ?_)
  simp only [↓reduceIte, reduceCtorEq, Za, Zb, Zc, Zd, Ze, Zf, Zg, Zh, Zi, Zj, Zk, Zl, Zm, Zn, Zo, Zp, Zq, Zr, Zs, Zt, Zu, Zv, gval, Zw, rb0, rb1, rb2, rb3, rb4, tf0, tf1, tf2, tf3, Yk, Tryz.f34]
  refine runC_of (list_wf f r.I r.D (by simp) fun h1 v w f1 n1 k1 rv rw' => ?_)
  rcases rv.is with ⟨_, hx, _⟩ | ⟨b1, u1, u2, u3, g1⟩
  · cases hx
  rcases rw'.is with ⟨_, hx, _⟩ | ⟨b2, v1, v2, v3, g2⟩
  · cases hx
  have u3 : v = .slice (some ⟨b1, 0, none⟩) 2 2 := u3
  have v3 : w = .slice (some ⟨b2, 0, none⟩) 2 2 := v3
  subst u3
  subst v3
  have g1 : h1.get b1 = some (cellsB [.string (mkS na), .string (mkS nb)] (.loose 1)) := g1
  have g2 : h1.get b2 = some (cellsB [.int .i64 1, .int .i64 1] (.loose 1)) := g2
  have hrow : mkRow [Value.int .i64 0] 2 = cellsB [.int .i64 0, .int .i64 0] .exact := mkRow_eq _ _ (by omega)
  have w1 : wrapF .i64 (1 : Int) = 1 := by decide
  have w2 : wrapF .i64 (2 : Int) = 2 := by decide
  simp (disch := (first | omega | rfl | (simp only [Yn]; omega))) only [↓reduceIte, reduceCtorEq, Za, Zb, Zc, Zd, Ze, Zf, Zg, Zh, Zi, Zj, Zk, Zl, Zm, Zn, Zo, Zp, Zq, Zr, Zs, Zt, Zu, Zv, gval, Zw, rb0, rb1, rb2, rb3, rb4, tf0, tf1, tf2, tf3, Yk, Yh, overL_one, if_pos, stX_exactN, hrow]
  refine Run.loop rfl ?_
  simp (disch := (first | omega | rfl | (simp only [Yn]; omega))) only [↓reduceIte, reduceCtorEq, Za, Zb, Zc, Zd, Ze, Zf, Zg, Zh, Zi, Zj, Zk, Zl, Zm, Zn, Zo, Zp, Zq, Zr, Zs, Zt, Zu, Zv, gval, Zw, rb0, rb1, rb2, rb3, rb4, tf0, tf1, tf2, tf3, Yk, Yh, overL_one, if_pos, stX_exactN, hrow, w1]
  refine Run.loop rfl ?_
  simp (disch := (first | omega | rfl | (simp only [Yn]; omega))) only [↓reduceIte, reduceCtorEq, Za, Zb, Zc, Zd, Ze, Zf, Zg, Zh, Zi, Zj, Zk, Zl, Zm, Zn, Zo, Zp, Zq, Zr, Zs, Zt, Zu, Zv, gval, Zw, rb0, rb1, rb2, rb3, rb4, tf0, tf1, tf2, tf3, Yk, Yh, overL_one, if_pos, stX_exactN, hrow, w1, w2]
  refine Run.loop rfl ?_
  simp (disch := (first | omega | rfl | (simp only [Yn]; omega))) only [↓reduceIte, reduceCtorEq, Za, Zb, Zc, Zd, Ze, Zf, Zg, Zh, Zi, Zj, Zk, Zl, Zm, Zn, Zo, Zp, Zq, Zr, Zs, Zt, Zu, Zv, gval, Zw, rb0, rb1, rb2, rb3, rb4, tf0, tf1, tf2, tf3, Yk, Yh, overL_one, if_pos, stX_exactN]
  obtain ⟨h2, hh2⟩ : ∃ h2, (((h1.new (cellsB [.slice none 0 0] .exact)).upd h1.nx (cellsB [.slice (some ⟨b1, 0, none⟩) 2 2] .exact)).new (cellsB [.int .i64 0, .int .i64 0] .exact)).upd (h1.nx + 1) (cellsB [.int .i64 0, .int .i64 1] .exact) = h2 := ⟨_, rfl⟩
  have n2 : h2.nx = h1.nx + 2 := by rw [← hh2]; simp only [Heap.nx_new, Heap.nx_upd]
  have g3 : h2.get h1.nx = some (cellsB [.slice (some ⟨b1, 0, none⟩) 2 2] .exact) := by rw [← hh2]; simp (disch := (first | omega | rfl | (simp only [Yn]; omega))) only [Yh, Yc]
  have g4 : h2.get (h1.nx + 1) = some (cellsB [.int .i64 0, .int .i64 1] .exact) := by rw [← hh2]; simp (disch := (first | omega | rfl | (simp only [Yn]; omega))) only [Yh, Yc]
  have k2 : ∀ b', b' < h1.nx → h2.get b' = h1.get b' := fun b' hb' => by rw [← hh2]; simp (disch := (first | omega | rfl | (simp only [Yn]; omega))) only [Yh, Yc]
  rw [hh2]
  refine runC_of (sortTwo_wf g4 g3 ((k2 b1 u2).trans g1) fun x y h3 hxy g5 n3 k3 => ?_)
  have g6 := (k3 h1.nx (by omega)).trans g3
  have g13 := (k3 b1 (by omega)).trans ((k2 b1 u2).trans g1)
  have g23 := (k3 b2 (by omega)).trans ((k2 b2 v2).trans g2)
  have x0 : ¬ (x : Int) < 0 := by omega
  have x1 : (x : Int) < 2 := by omega
  have y0 : ¬ (y : Int) < 0 := by omega
  have y1 : (y : Int) < 2 := by omega
  obtain ⟨nx, ax, bx⟩ : ∃ n, [Value.string (mkS na), .string (mkS nb)][x]? = some (.string (mkS n)) ∧ n.length ≤ 8 := by
    rcases hxy with ⟨rfl, _⟩ | ⟨rfl, _⟩
    · exact ⟨na, rfl, hn8.1⟩
    · exact ⟨nb, rfl, hn8.2⟩
  obtain ⟨ny, ay, by'⟩ : ∃ n, [Value.string (mkS na), .string (mkS nb)][y]? = some (.string (mkS n)) ∧ n.length ≤ 8 := by
    rcases hxy with ⟨_, rfl⟩ | ⟨_, rfl⟩
    · exact ⟨nb, rfl, hn8.2⟩
    · exact ⟨na, rfl, hn8.1⟩
  have ix : [Value.int .i64 1, .int .i64 1][x]? = some (.int .i64 1) := by rcases hxy with ⟨rfl, _⟩ | ⟨rfl, _⟩ <;> rfl
  have iy : [Value.int .i64 1, .int .i64 1][y]? = some (.int .i64 1) := by rcases hxy with ⟨_, rfl⟩ | ⟨_, rfl⟩ <;> rfl
  simp (disch := (first | omega | rfl | (simp only [Yn]; omega))) only [↓reduceIte, reduceCtorEq, Za, Zb, Zc, Zd, Ze, Zf, Zg, Zh, Zi, Zj, Zk, Zl, Zm, Zn, Zo, Zp, Zq, Zr, Zs, Zt, Zu, Zv, gval, Zw, rb0, rb1, rb2, rb3, rb4, tf0, tf1, tf2, tf3, Yk, Yh, overL_one, if_pos, stX_exactN]
  refine Run.loop rfl ?_
  have j1 : ([] : List UInt8).length + ([47] : List UInt8).length ≤ 1000 := by simp
  have j2 : ([47] : List UInt8).length + nx.length ≤ 1000 := by simp; omega
  have j3 : ([47] : List UInt8).length + ny.length ≤ 1000 := by simp; omega
  have hwl : (i64s (row9 (s.ino 1))).length = 9 := by rw [List.length_map, row9_len]
  have hx0 : (i64s (row9 (s.ino 1)))[0]? = some (.int .i64 1) := by rw [List.getElem?_map, row9_get (by omega), r.kind]; rfl
  have f3 : Fs h3 bd bl s := f1.keep (by omega) (by rw [k3 _ (by omega), k2 _ (by omega)]) (by rw [k3 _ (by omega), k2 _ (by omega)])
  have hsz : s.size 1 = t.length := r.size
  have htx : s.text 1 0 (s.size 1) = t := r.tx
  simp (disch := (first | omega | rfl | (simp only [Yn]; omega))) only [↓reduceIte, reduceCtorEq, Za, Zb, Zc, Zd, Ze, Zf, Zg, Zh, Zi, Zj, Zk, Zl, Zm, Zn, Zo, Zp, Zq, Zr, Zs, Zt, Zu, Zv, gval, Zw, rb0, rb1, rb2, rb3, rb4, tf0, tf1, tf2, tf3, Yk, Yh, overL_one, if_pos, stX_exactN, g5, g6, g13, g23, s0, s47, x0, x1, ax, ix, Nat.mul_one, str_add _ _ _ j1, str_add _ _ _ j2]
  refine runC_of (figet_any pl16 f3 (i := 1) (fun c => absurd ⟨by omega, by omega⟩ c) fun k' ek _ h11 f11 n11 k11 => ?_)
  obtain rfl : 1 = k' := by omega
  simp (disch := (first | omega | rfl | (simp only [Yn]; omega))) only [↓reduceIte, reduceCtorEq, Za, Zb, Zc, Zd, Ze, Zf, Zg, Zh, Zi, Zj, Zk, Zl, Zm, Zn, Zo, Zp, Zq, Zr, Zs, Zt, Zu, Zv, gval, Zw, rb0, rb1, rb2, rb3, rb4, tf0, tf1, tf2, tf3, Yk, Yh, overL_one, if_pos, stX_exactN, hwl]
  rw [overL_nine rfl hwl, Heap.upd_new]
  obtain ⟨h12, hh12⟩ : ∃ h12, h11.new (cellsB (i64s (row9 (s.ino 1))) .exact) = h12 := ⟨_, rfl⟩
  have n12 : h12.nx = h11.nx + 1 := by rw [← hh12, Heap.nx_new]
  have g12 : h12.get h11.nx = some (cellsB (i64s (row9 (s.ino 1))) .exact) := by rw [← hh12, Heap.get_new_same]
  have k12 : ∀ b', b' < h11.nx → h12.get b' = h11.get b' := fun b' hb' => by rw [← hh12, Heap.get_new_ne _ _ (by omega)]
  rw [hh12]
  have f12 : Fs h12 bd bl s := f11.keep (by omega) (k12 _ (by omega)) (k12 _ (by omega))
  have m12 := (k12 b2 (by omega)).trans ((k11 b2 (by omega) (by omega)).trans g23)
  simp (disch := (first | omega | rfl | (simp only [Yn]; omega))) only [↓reduceIte, reduceCtorEq, Za, Zb, Zc, Zd, Ze, Zf, Zg, Zh, Zi, Zj, Zk, Zl, Zm, Zn, Zo, Zp, Zq, Zr, Zs, Zt, Zu, Zv, gval, Zw, rb0, rb1, rb2, rb3, rb4, tf0, tf1, tf2, tf3, Yk, Yh, overL_one, if_pos, stX_exactN, g12, hx0, hwl, m12, x0, x1, ix, Nat.mul_one]
  refine runC_of (fread_spec pl16 f12 (i := 1) (off := 0) (n := 192) (fun j ej _ => (show 1 = j by omega) ▸ r.I.ino 1 (by omega)) (by omega) (by omega) (fun q => by omega) fun j o m ej _ eo em h13 f13 n13 k13 => ?_)
  obtain rfl : 1 = j := by omega
  obtain rfl : o = 0 := by omega
  obtain rfl : m = 192 := by omega
  rw [endR_all (by omega), htx]
  obtain ⟨h14, hh14⟩ : ∃ h14, h13.new (cellsB [.string (mkS (47 :: nx)), .bool false, .string (mkS t)] .exact) = h14 := ⟨_, rfl⟩
  have n14 : h14.nx = h13.nx + 1 := by rw [← hh14, Heap.nx_new]
  have g14 : h14.get h13.nx = some (cellsB [.string (mkS (47 :: nx)), .bool false, .string (mkS t)] .exact) := by rw [← hh14, Heap.get_new_same]
  have k14 : ∀ b', b' < h13.nx → h14.get b' = h13.get b' := fun b' hb' => by rw [← hh14, Heap.get_new_ne _ _ (by omega)]
  obtain ⟨E, h19, v7, a1, a2, a3, a4, a5, a6, a7⟩ := growG app_30_30 (RowG.nil (h := h14) (lo := h.nx) (s := 3)) (by omega) (x := .slice (some ⟨h13.nx, 0, none⟩) 1 1) (k := 1) rfl (by omega) (by omega) (new := [.string (mkS (47 :: nx)), .bool false, .string (mkS t)]) (by rw [firstL_slc _ _ _ _ _ _ _ _ _ g14 (by simp)]; rfl) rfl
  simp (disch := (first | omega | rfl | (simp only [Yn]; omega))) only [↓reduceIte, reduceCtorEq, Za, Zb, Zc, Zd, Ze, Zf, Zg, Zh, Zi, Zj, Zk, Zl, Zm, Zn, Zo, Zp, Zq, Zr, Zs, Zt, Zu, Zv, gval, Zw, rb0, rb1, rb2, rb3, rb4, tf0, tf1, tf2, tf3, Yk, Yh, overL_one, if_pos, stX_exactN, bsNode, hh14, a1, a2, a3, w1]
  have kk3 : ∀ b', b' < h3.nx → b' ≠ bd → h19.get b' = h3.get b' := fun b' x1 x2 => by
    rw [a6 _ (by omega) (fun hm => absurd hm List.not_mem_nil), k14 _ (by omega), k13 _ (by omega) x2, k12 _ (by omega)]; exact k11 b' x1 x2
  have f19 : Fs h19 bd bl s := f13.keep (by omega) (by rw [a6 _ (by omega) (fun hm => absurd hm List.not_mem_nil), k14 _ (by omega)]) (by rw [a6 _ (by omega) (fun hm => absurd hm List.not_mem_nil), k14 _ (by omega)])
  have o5 := (kk3 (h1.nx + 1) (by omega) (by omega)).trans g5
  have o6 := (kk3 h1.nx (by omega) (by omega)).trans g6
  have g19 := (kk3 b1 (by omega) (by omega)).trans g13
  have g29 := (kk3 b2 (by omega) (by omega)).trans g23
  have b7 := a4.lt
  rw [a7] at b7
  have b7 := b7 h14.nx (List.mem_singleton.2 rfl)
  obtain ⟨va, hv7⟩ := a4.slc
  subst hv7
  refine Run.loop rfl ?_
  simp (disch := (first | omega | rfl | (simp only [Yn]; omega))) only [↓reduceIte, reduceCtorEq, Za, Zb, Zc, Zd, Ze, Zf, Zg, Zh, Zi, Zj, Zk, Zl, Zm, Zn, Zo, Zp, Zq, Zr, Zs, Zt, Zu, Zv, gval, Zw, rb0, rb1, rb2, rb3, rb4, tf0, tf1, tf2, tf3, Yk, Yh, overL_one, if_pos, stX_exactN, o5, o6, g19, g29, s0, s47, y0, y1, ay, iy, Nat.mul_one, str_add _ _ _ j1, str_add _ _ _ j3]
  refine runC_of (figet_any pl16 f19 (i := 1) (fun c => absurd ⟨by omega, by omega⟩ c) fun k' ek _ h21 f21 n21 k21 => ?_)
  obtain rfl : 1 = k' := by omega
  simp (disch := (first | omega | rfl | (simp only [Yn]; omega))) only [↓reduceIte, reduceCtorEq, Za, Zb, Zc, Zd, Ze, Zf, Zg, Zh, Zi, Zj, Zk, Zl, Zm, Zn, Zo, Zp, Zq, Zr, Zs, Zt, Zu, Zv, gval, Zw, rb0, rb1, rb2, rb3, rb4, tf0, tf1, tf2, tf3, Yk, Yh, overL_one, if_pos, stX_exactN, hwl]
  rw [overL_nine rfl hwl, Heap.upd_new]
  obtain ⟨h22, hh22⟩ : ∃ h22, h21.new (cellsB (i64s (row9 (s.ino 1))) .exact) = h22 := ⟨_, rfl⟩
  have n22 : h22.nx = h21.nx + 1 := by rw [← hh22, Heap.nx_new]
  have g22 : h22.get h21.nx = some (cellsB (i64s (row9 (s.ino 1))) .exact) := by rw [← hh22, Heap.get_new_same]
  have k22 : ∀ b', b' < h21.nx → h22.get b' = h21.get b' := fun b' hb' => by rw [← hh22, Heap.get_new_ne _ _ (by omega)]
  rw [hh22]
  have f22 : Fs h22 bd bl s := f21.keep (by omega) (k22 _ (by omega)) (k22 _ (by omega))
  have m22 := (k22 b2 (by omega)).trans ((k21 b2 (by omega) (by omega)).trans g29)
  simp (disch := (first | omega | rfl | (simp only [Yn]; omega))) only [↓reduceIte, reduceCtorEq, Za, Zb, Zc, Zd, Ze, Zf, Zg, Zh, Zi, Zj, Zk, Zl, Zm, Zn, Zo, Zp, Zq, Zr, Zs, Zt, Zu, Zv, gval, Zw, rb0, rb1, rb2, rb3, rb4, tf0, tf1, tf2, tf3, Yk, Yh, overL_one, if_pos, stX_exactN, g22, hx0, hwl, m22, y0, y1, iy, Nat.mul_one]
  refine runC_of (fread_spec pl16 f22 (i := 1) (off := 0) (n := 192) (fun j ej _ => (show 1 = j by omega) ▸ r.I.ino 1 (by omega)) (by omega) (by omega) (fun q => by omega) fun j o m ej _ eo em h23 f23 n23 k23 => ?_)
  obtain rfl : 1 = j := by omega
  obtain rfl : o = 0 := by omega
  obtain rfl : m = 192 := by omega
  rw [endR_all (by omega), htx]
  obtain ⟨h24, hh24⟩ : ∃ h24, h23.new (cellsB [.string (mkS (47 :: ny)), .bool false, .string (mkS t)] .exact) = h24 := ⟨_, rfl⟩
  have n24 : h24.nx = h23.nx + 1 := by rw [← hh24, Heap.nx_new]
  have g24 : h24.get h23.nx = some (cellsB [.string (mkS (47 :: ny)), .bool false, .string (mkS t)] .exact) := by rw [← hh24, Heap.get_new_same]
  have k24 : ∀ b', b' < h23.nx → h24.get b' = h23.get b' := fun b' hb' => by rw [← hh24, Heap.get_new_ne _ _ (by omega)]
  have c4 : RowG h24 h.nx 3 _ _ _ := a4.keep (by omega) fun b x1 x2 _ => by rw [k24 _ (by omega), k23 _ (by omega) (by omega), k22 _ (by omega), k21 _ (by omega) (by omega)]
  obtain ⟨E2, h29, v9, d1, d2, d3, d4, d5, d6, d7⟩ := growG app_30_30 c4 (by omega) (x := .slice (some ⟨h23.nx, 0, none⟩) 1 1) (k := 1) rfl (by omega) (by omega) (new := [.string (mkS (47 :: ny)), .bool false, .string (mkS t)]) (by rw [firstL_slc _ _ _ _ _ _ _ _ _ g24 (by simp)]; rfl) rfl
  simp (disch := (first | omega | rfl | (simp only [Yn]; omega))) only [↓reduceIte, reduceCtorEq, Za, Zb, Zc, Zd, Ze, Zf, Zg, Zh, Zi, Zj, Zk, Zl, Zm, Zn, Zo, Zp, Zq, Zr, Zs, Zt, Zu, Zv, gval, Zw, rb0, rb1, rb2, rb3, rb4, tf0, tf1, tf2, tf3, Yk, Yh, overL_one, if_pos, stX_exactN, bsNode, hh24, d1, d2, d3, w2]
  refine Run.loop rfl ?_
  simp (disch := (first | omega | rfl | (simp only [Yn]; omega))) only [↓reduceIte, reduceCtorEq, Za, Zb, Zc, Zd, Ze, Zf, Zg, Zh, Zi, Zj, Zk, Zl, Zm, Zn, Zo, Zp, Zq, Zr, Zs, Zt, Zu, Zv, gval, Zw, rb0, rb1, rb2, rb3, rb4, tf0, tf1, tf2, tf3, Yk, Yh, overL_one, if_pos, stX_exactN]
  have kk : ∀ b', b' < h.nx → b' ≠ bd → h29.get b' = h.get b' := fun b' x1 x2 => by
    rw [d6 _ (by omega) (fun hm => by rw [a7] at hm; have := List.mem_singleton.1 hm; omega), k24 _ (by omega), k23 _ (by omega) x2, k22 _ (by omega), k21 _ (by omega) x2, kk3 _ (by omega) x2, k3 _ (by omega), k2 _ (by omega)]; exact k1 b' x1 x2
  have f29 : Fs h29 bd bl s := f23.keep (by omega) (by rw [d6 _ (by omega) (fun hm => by rw [a7] at hm; have := List.mem_singleton.1 hm; omega), k24 _ (by omega)]) (by rw [d6 _ (by omega) (fun hm => by rw [a7] at hm; have := List.mem_singleton.1 hm; omega), k24 _ (by omega)])
  rcases d4.is with ⟨_, hx, _⟩ | ⟨b9, x1, x2, x3, g9⟩
  · cases hx
  have x3 : v9 = .slice (some ⟨b9, 0, none⟩) 2 2 := x3
  subst x3
  refine hR h29 _ f29 (by omega) kk ⟨b9, _, x1, x2, rfl, g9, rfl, fun i hi => ?_⟩
  rcases (show i = 0 ∨ i = 1 by omega) with rfl | rfl <;> rfl
end Go.Proofs.YtbgminppkacdlaaGreatDoor
end
section
/- A disk of 60 blocks, and an empty file system on it: run once. No condition. -/
namespace Go.Proofs.YtbgminppkacdlaaGreatDoor
open Go.AM
open Nat renaming reduceBEq → Za, reduceEqDiff → Zb, reduceAdd → Zc, reduceSub → Zd, reduceMul → Ze, reduceLT → Zf, reduceLeDiff → Zg, reduceDiv → Zh, reduceMod → Zi, reducePow → Zj
open Int renaming reduceAdd → Zk, reduceSub → Zl, reduceMul → Zm, reduceLT → Zn, reduceLE → Zo, reduceEq → Zp, reduceNe → Zq, reduceNeg → Zr, reduceToNat → Zs, reduceDiv → Zt, reduceMod → Zu, reducePow → Zv, cast_ofNat_Int → Zw
set_option linter.unusedSimpArgs false
variable {R : Out → Heap → Prop}
theorem new_root {n : Nat} (h1 : 13 ≤ n) (h2 : n ≤ 60) : (FS.new n).Inv (fun i => i = 0) ∧ Dr (FS.new n) (fun i => i = 0) 0 [] := by
  have I := new_inv h1 h2
  have hs : (FS.new n).size 0 = 0 := rfl
  refine ⟨⟨I.wf, I.low, fun i hi => ?_, fun i k hi hk => ?_, fun i k j m hi hj hk => ?_, fun i p hi hp hp2 => ?_⟩, ⟨rfl, by omega, rfl, ?_, fun e he => by cases he⟩⟩
  · subst hi
    exact ⟨by show (0 : Int) ≤ 192; decide, fun q hq => absurd hq (by rw [hs]; unfold needN; omega)⟩
  · subst hi; rw [hs] at hk; unfold needN at hk; omega
  · subst hi; rw [hs] at hk; unfold needN at hk; omega
  · subst hi; rw [hs] at hp2; unfold needN at hp2; omega
  · exact List.eq_nil_of_length_eq_zero (by rw [txt_len]; rfl)
theorem re_new : RE (FS.new 60) ∧ popc 64 (FS.new 60).b ≤ 12 := by
  obtain ⟨I, D⟩ := new_root (n := 60) (by omega) (by omega)
  refine ⟨⟨I, D, rfl, rfl, fun j hj => ?_⟩, ?_⟩
  · show (if j = 0 then _ else (0 : Int)) = 0
    rw [if_neg (by omega)]
  · show popc 64 4095 ≤ 12
    decide
noncomputable def nwH : Heap := match acall Tryz.prog (1 + 1) sp16 400 20 6 [.int .i64 60] H0 with
  | some (_, h) => h
  | none => H0
noncomputable def fmH : Heap := match acall Tryz.prog (1 + 1) sp16 400 20 7 [.iface 22 (.pointer (some ⟨3, 0, none⟩)), .int .i64 60] nwH with
  | some (_, h) => h
  | none => H0
set_option maxRecDepth 100000 in
theorem nw_run : ∀ fu d, acall Tryz.prog (1 + 1) sp16 (fu + 400) (d + 20) 6 [.int .i64 60] H0 = some (.ret (.pointer (some ⟨3, 0, none⟩)), nwH) := fun fu d => by kernel_rfl
set_option maxRecDepth 100000 in
theorem fm_run : ∀ fu d, acall Tryz.prog (1 + 1) sp16 (fu + 400) (d + 20) 7 [.iface 22 (.pointer (some ⟨3, 0, none⟩)), .int .i64 60] nwH = some (.ret (.int .i64 0), fmH) := fun fu d => by kernel_rfl
set_option maxRecDepth 100000 in
theorem fm_f : (fmH.get 3, fmH.get 2, fmH.get 1, Nat.ble 4 fmH.nx) = (some (cellsB [.int .i64 60, .slice (some ⟨2, 0, none⟩) 1920 1920, .int .i64 1, .int .i64 13] .exact), some (cellsB (u64s (words0 60)) .exact), some (tabBlk .u8 tab), true) := by kernel_rfl
theorem nw_wf (hR : R (.ret (.pointer (some ⟨3, 0, none⟩))) nwH) : WF Tryz.prog 2 sp16 6 [.int .i64 60] H0 R := by
  refine ⟨_, _, ⟨400, fun fu d h1 h2 => ?_⟩, hR⟩
  obtain ⟨fu, rfl⟩ : ∃ k, fu = k + 400 := ⟨fu - 400, by omega⟩
  obtain ⟨d, rfl⟩ : ∃ k, d = k + 20 := ⟨d - 20, by omega⟩
  exact nw_run fu d
theorem fm_wf (hR : ∀ h, Fs h 3 2 (FS.new 60) → h.get 1 = some (tabBlk .u8 tab) → 4 ≤ h.nx → R (.ret (.int .i64 0)) h) : WF Tryz.prog 2 sp16 7 [.iface 22 (.pointer (some ⟨3, 0, none⟩)), .int .i64 60] nwH R := by
  have hf := fm_f
  simp only [Prod.mk.injEq] at hf
  obtain ⟨f1, f2, f3, f5⟩ := hf
  have f5 := Nat.le_of_ble_eq_true f5
  refine ⟨_, _, ⟨400, fun fu d h1 h2 => ?_⟩, hR _ ⟨⟨⟨1, 13, f1⟩, ?_, flat_len, by show 60 ≤ 1024; omega, by omega, by omega, by omega⟩, .new (by omega) (by omega)⟩ f3 f5⟩
  · obtain ⟨fu, rfl⟩ : ∃ k, fu = k + 400 := ⟨fu - 400, by omega⟩
    obtain ⟨d, rfl⟩ : ∃ k, d = k + 20 := ⟨d - 20, by omega⟩
    exact fm_run fu d
  · show _ = some (cellsB (u64s (flatD 60 (FS.new 60).D)) .exact)
    rw [← words0_fs]; exact f2
end Go.Proofs.YtbgminppkacdlaaGreatDoor
end
section
/- FscoreOpen: the law's own steps. Conditions: the text's length is a length. -/
namespace Go.Proofs.YtbgminppkacdlaaGreatDoor
open Go.AM
open Nat renaming reduceBEq → Za, reduceEqDiff → Zb, reduceAdd → Zc, reduceSub → Zd, reduceMul → Ze, reduceLT → Zf, reduceLeDiff → Zg, reduceDiv → Zh, reduceMod → Zi, reducePow → Zj
open Int renaming reduceAdd → Zk, reduceSub → Zl, reduceMul → Zm, reduceLT → Zn, reduceLE → Zo, reduceEq → Zp, reduceNe → Zq, reduceNeg → Zr, reduceToNat → Zs, reduceDiv → Zt, reduceMod → Zu, reducePow → Zv, cast_ofNat_Int → Zw
set_option linter.unusedSimpArgs false
variable {h : Heap} {R : Out → Heap → Prop} {bd bl : Nat} {s : FS} {F : Nat → Prop}
theorem write_ino0 {t : List UInt8} (k : Nat) : (s.write 1 0 t).ino 0 k = s.ino 0 k := by
  show (s.room 1 (0 + t.length)).ino 0 k = _
  unfold FS.room
  split
  · show (if (0 : Nat) = 1 then updN (s.rz 1 (0 + t.length)).x 2 ((0 + t.length : Nat) : Int) else s.ino 0) k = _
    rw [if_neg (by omega)]
  · rfl
theorem RF.more {l : List (List UInt8 × Nat)} {lk p q : Nat} {t : List UInt8} (r : RF s l lk t p) (h : p ≤ q) : RF s l lk t q := ⟨r.I, r.D, r.kind, r.lk, r.tx, r.a, r.n, Nat.le_trans r.pop h, r.fr, r.uq⟩
theorem write1_wf (ht : h.get 1 = some (tabBlk .u8 tab)) (f : Fs h bd bl s) (hz : 1 < bd ∧ 1 < bl) {l : List (List UInt8 × Nat)} {lk p : Nat} (r : RF s l lk [] p) (hp : p ≤ 30) {t : List UInt8} (hl : t.length ≤ maxLen)
    (hR0 : ∀ (E : Int) h', E ≠ 0 → (192 < t.length → E = 27) → 192 < t.length → Fs h' bd bl s → h.nx ≤ h'.nx → (∀ b', b' < h.nx → b' ≠ bd → b' ≠ bl → h'.get b' = h.get b') → R (.ret (.int .i64 E)) h')
    (hR1 : t.length ≤ 192 → ∀ s2 h', RF s2 l lk t (p + 6) → s2.blk 0 0 = s.blk 0 0 → Fs h' bd bl s2 → h.nx ≤ h'.nx → (∀ b', b' < h.nx → b' ≠ bd → b' ≠ bl → h'.get b' = h.get b') → R (.ret (.int .i64 0)) h') :
    WF Tryz.prog 2 sp16 12 [.iface 22 (.pointer (some ⟨bd, 0, none⟩)), .int .i64 1, .int .i64 0, .string (mkS t)] h R := by
  have hmax : maxLen ≤ 9223372036854775807 := by decide
  refine fwrite_spec pl16 ht f hz (i := 1) (by omega) (r.I.ino 1 (by omega)) r.I.low (off := 0) (by omega) (l := t) (by omega) (fun c => absurd c (by decide)) (fun c _ h' f' n' k' => hR0 27 h' (by decide) (fun _ => rfl) (by omega) f' n' k') (fun o eo _ _ _ c2 => ?_) (fun o eo _ c h' f' n' k' => ?_) fun o eo c2 c _ h' f' n' k' => ?_
  · exfalso
    obtain rfl : o = 0 := by omega
    have h1 := r.pop
    rw [r.n, Nat.zero_add] at c2
    unfold needN at c2; omega
  · subst c
    exact hR1 (by simp) s h' (r.more (by omega)) rfl f' n' k'
  · obtain rfl : o = 0 := by omega
    exact hR1 (by omega) _ h' (r.write (by omega) hp) (congrArg Int.toNat (write_ino0 3)) f' n' k'
end Go.Proofs.YtbgminppkacdlaaGreatDoor
end
section
/- FscoreLinks: the law's own steps. Conditions: the text's length is a length. -/
namespace Go.Proofs.YtbgminppkacdlaaGreatDoor
open Go.AM
open Nat renaming reduceBEq → Za, reduceEqDiff → Zb, reduceAdd → Zc, reduceSub → Zd, reduceMul → Ze, reduceLT → Zf, reduceLeDiff → Zg, reduceDiv → Zh, reduceMod → Zi, reducePow → Zj
open Int renaming reduceAdd → Zk, reduceSub → Zl, reduceMul → Zm, reduceLT → Zn, reduceLE → Zo, reduceEq → Zp, reduceNe → Zq, reduceNeg → Zr, reduceToNat → Zs, reduceDiv → Zt, reduceMod → Zu, reducePow → Zv, cast_ofNat_Int → Zw
set_option linter.unusedSimpArgs false
variable {h : Heap} {R : Out → Heap → Prop} {bd bl : Nat} {s : FS} {F : Nat → Prop}
set_option maxRecDepth 100000 in
set_option maxHeartbeats 4000000 in
theorem flinks_walk {p p2 t : List UInt8} (hl : t.length ≤ maxLen) (hR : ∀ h, R (.ret (.bool true)) h) : WF Tryz.prog 2 sp16 3 [.string (mkS p), .string (mkS p2), .string (mkS t)] H0 R := by
  refine wf_fn (fn := Tryz.f3) rfl rfl (by kernel_rfl) rfl ?_
  simp only [↓reduceIte, reduceCtorEq, Za, Zb, Zc, Zd, Ze, Zf, Zg, Zh, Zi, Zj, Zk, Zl, Zm, Zn, Zo, Zp, Zq, Zr, Zs, Zt, Zu, Zv, gval, Zw, rb0, rb1, rb2, rb3, rb4, tf0, tf1, tf2, tf3, Yk, Tryz.f3]
  refine runC_of (nw_wf ?_)
  simp only [↓reduceIte, reduceCtorEq, Za, Zb, Zc, Zd, Ze, Zf, Zg, Zh, Zi, Zj, Zk, Zl, Zm, Zn, Zo, Zp, Zq, Zr, Zs, Zt, Zu, Zv, gval, Zw, rb0, rb1, rb2, rb3, rb4, tf0, tf1, tf2, tf3, Yk, ifc23]
  refine runC_of (fm_wf fun h1 f1 t1 n1 => ?_)
  obtain ⟨r0, rp0⟩ := re_new
  have hz : (3 : Nat) ≠ 0 ∧ (2 : Nat) ≠ 0 := by omega
  simp only [↓reduceIte, reduceCtorEq, Za, Zb, Zc, Zd, Ze, Zf, Zg, Zh, Zi, Zj, Zk, Zl, Zm, Zn, Zo, Zp, Zq, Zr, Zs, Zt, Zu, Zv, gval, Zw, rb0, rb1, rb2, rb3, rb4, tf0, tf1, tf2, tf3, Yk, ifc23]
  refine runC_of (create_wf t1 f1 (by omega) r0 rp0 (by show (4095 : Nat).testBit 12 = false; decide) (fun E h2 hE f2 n2 k2 => ?_) fun na s2 h2 cE cL cN r2 _ f2 n2 k2 => ?_)
  · simp only [↓reduceIte, reduceCtorEq, Za, Zb, Zc, Zd, Ze, Zf, Zg, Zh, Zi, Zj, Zk, Zl, Zm, Zn, Zo, Zp, Zq, Zr, Zs, Zt, Zu, Zv, gval, Zw, rb0, rb1, rb2, rb3, rb4, tf0, tf1, tf2, tf3, Yk, hE, runG_undef]
    refine runC_of (aw17_wf ((k2 1 (by omega) (by omega) (by omega)).trans t1) ?_)
    simp only [↓reduceIte, reduceCtorEq, Za, Zb, Zc, Zd, Ze, Zf, Zg, Zh, Zi, Zj, Zk, Zl, Zm, Zn, Zo, Zp, Zq, Zr, Zs, Zt, Zu, Zv, gval, Zw, rb0, rb1, rb2, rb3, rb4, tf0, tf1, tf2, tf3, Yk]
    exact hR _
  have t2 := (k2 1 (by omega) (by omega) (by omega)).trans t1
  simp only [↓reduceIte, reduceCtorEq, Za, Zb, Zc, Zd, Ze, Zf, Zg, Zh, Zi, Zj, Zk, Zl, Zm, Zn, Zo, Zp, Zq, Zr, Zs, Zt, Zu, Zv, gval, Zw, rb0, rb1, rb2, rb3, rb4, tf0, tf1, tf2, tf3, Yk, ifc23]
  refine runC_of (link_wf t2 f2 (by omega) (by omega) (by omega) r2 cE cL (pb := p2) (fun E h3 hE f3 n3 k3 => ?_) fun nb s3 h3 dE dL dN hne r3 f3 n3 k3 => ?_)
  · simp only [↓reduceIte, reduceCtorEq, Za, Zb, Zc, Zd, Ze, Zf, Zg, Zh, Zi, Zj, Zk, Zl, Zm, Zn, Zo, Zp, Zq, Zr, Zs, Zt, Zu, Zv, gval, Zw, rb0, rb1, rb2, rb3, rb4, tf0, tf1, tf2, tf3, Yk, hE]
    refine runC_of (aw17_wf ((k3 1 (by omega) (by omega) (by omega)).trans t2) ?_)
    simp only [↓reduceIte, reduceCtorEq, Za, Zb, Zc, Zd, Ze, Zf, Zg, Zh, Zi, Zj, Zk, Zl, Zm, Zn, Zo, Zp, Zq, Zr, Zs, Zt, Zu, Zv, gval, Zw, rb0, rb1, rb2, rb3, rb4, tf0, tf1, tf2, tf3, Yk]
    exact hR _
  have t3 := (k3 1 (by omega) (by omega) (by omega)).trans t2
  have ln := And.intro (nm_ent cN).1 (nm_ent dN).1
  simp only [↓reduceIte, reduceCtorEq, Za, Zb, Zc, Zd, Ze, Zf, Zg, Zh, Zi, Zj, Zk, Zl, Zm, Zn, Zo, Zp, Zq, Zr, Zs, Zt, Zu, Zv, gval, Zw, rb0, rb1, rb2, rb3, rb4, tf0, tf1, tf2, tf3, Yk, ifc23]
  refine runC_of (tree2_wf f3 r3 ln (by simp) fun h4 v4 f4 n4 k4 hv4 => ?_)
  obtain ⟨b4, L4, _, _, rfl, _, _, _⟩ := hv4.is
  have t4 : h4.get 1 = some (tabBlk .u8 tab) := (k4 _ (by omega) (by omega)).trans t3
  by_cases c : (1000 : Int) < (t.length : Nat)
  · simp only [↓reduceIte, reduceCtorEq, Za, Zb, Zc, Zd, Ze, Zf, Zg, Zh, Zi, Zj, Zk, Zl, Zm, Zn, Zo, Zp, Zq, Zr, Zs, Zt, Zu, Zv, gval, Zw, rb0, rb1, rb2, rb3, rb4, tf0, tf1, tf2, tf3, Yk, ifc23, c, mkS_size, decide_true]
    refine runC_of (aw17_wf t4 ?_)
    simp only [↓reduceIte, reduceCtorEq, Za, Zb, Zc, Zd, Ze, Zf, Zg, Zh, Zi, Zj, Zk, Zl, Zm, Zn, Zo, Zp, Zq, Zr, Zs, Zt, Zu, Zv, gval, Zw, rb0, rb1, rb2, rb3, rb4, tf0, tf1, tf2, tf3, Yk]
    exact hR _
  simp only [↓reduceIte, reduceCtorEq, Za, Zb, Zc, Zd, Ze, Zf, Zg, Zh, Zi, Zj, Zk, Zl, Zm, Zn, Zo, Zp, Zq, Zr, Zs, Zt, Zu, Zv, gval, Zw, rb0, rb1, rb2, rb3, rb4, tf0, tf1, tf2, tf3, Yk, ifc23, c, mkS_size]
  refine runC_of (write1_wf t4 f4 (by omega) r3 (by omega) hl (fun E h5 hE e27 c5 f5 n5 k5 => ?_) fun hlen s5 h5 r5 _ f5 n5 k5 => ?_)
  · have hE := e27 c5
    subst hE
    have c6 : (192 : Int) < (t.length : Nat) := by omega
    simp only [↓reduceIte, reduceCtorEq, Za, Zb, Zc, Zd, Ze, Zf, Zg, Zh, Zi, Zj, Zk, Zl, Zm, Zn, Zo, Zp, Zq, Zr, Zs, Zt, Zu, Zv, gval, Zw, rb0, rb1, rb2, rb3, rb4, tf0, tf1, tf2, tf3, Yk, c6, mkS_size, decide_true]
    refine runC_of (aw17_wf ((k5 1 (by omega) (by omega) (by omega)).trans t4) ?_)
    simp only [↓reduceIte, reduceCtorEq, Za, Zb, Zc, Zd, Ze, Zf, Zg, Zh, Zi, Zj, Zk, Zl, Zm, Zn, Zo, Zp, Zq, Zr, Zs, Zt, Zu, Zv, gval, Zw, rb0, rb1, rb2, rb3, rb4, tf0, tf1, tf2, tf3, Yk]
    exact hR _
  have t5 := (k5 1 (by omega) (by omega) (by omega)).trans t4
  simp only [↓reduceIte, reduceCtorEq, Za, Zb, Zc, Zd, Ze, Zf, Zg, Zh, Zi, Zj, Zk, Zl, Zm, Zn, Zo, Zp, Zq, Zr, Zs, Zt, Zu, Zv, gval, Zw, rb0, rb1, rb2, rb3, rb4, tf0, tf1, tf2, tf3, Yk, ifc23]
  refine runC_of (tree2_wf f5 r5 ln hlen fun h6 v6 f6 n6 k6 hv6 => ?_)
  obtain ⟨b6, L6, u6, x6, rfl, g6, l6, e6⟩ := hv6.is
  have t6 : h6.get 1 = some (tabBlk .u8 tab) := (k6 _ (by omega) (by omega)).trans t5
  simp only [↓reduceIte, reduceCtorEq, Za, Zb, Zc, Zd, Ze, Zf, Zg, Zh, Zi, Zj, Zk, Zl, Zm, Zn, Zo, Zp, Zq, Zr, Zs, Zt, Zu, Zv, gval, Zw, rb0, rb1, rb2, rb3, rb4, tf0, tf1, tf2, tf3, Yk, ifc23]
  have la : lookE na [(na, 1), (nb, 1)] = some 1 := by unfold lookE; rw [if_pos rfl]
  have lb : lookE nb [(nb, 1)] = some 1 := by unfold lookE; rw [if_pos rfl]
  refine runC_of (unlink_wf (k := 1) (q := false) t6 f6 (by omega) (by omega) r5 (by simp) cE cL la (fun c => absurd c (by decide)) rfl ⟨_, _, _, rfl⟩ (fun _ j e s7 h7 hj he r7 f7 n7 k7 => ?_) fun c => absurd c (by decide))
  obtain rfl : j = 0 := by
    have h2 := (List.getElem?_eq_some_iff.1 hj).1
    rcases (show j = 0 ∨ j = 1 by simp at h2; omega) with q | q
    · exact q
    · subst q
      obtain rfl : (nb, 1) = e := Option.some.inj hj
      exact absurd he hne
  have r7 : RF s7 [(nb, 1)] 1 t _ := r7
  have t7 := (k7 1 (by omega) (by omega) (by omega)).trans t6
  simp only [↓reduceIte, reduceCtorEq, Za, Zb, Zc, Zd, Ze, Zf, Zg, Zh, Zi, Zj, Zk, Zl, Zm, Zn, Zo, Zp, Zq, Zr, Zs, Zt, Zu, Zv, gval, Zw, rb0, rb1, rb2, rb3, rb4, tf0, tf1, tf2, tf3, Yk, ifc23]
  refine runC_of (tree1_wf f7 r7 ln.2 hlen fun h8 v8 f8 n8 k8 hv8 => ?_)
  obtain ⟨b8, L8, u8, x8, rfl, g8, l8, e8⟩ := hv8.is
  have t8 : h8.get 1 = some (tabBlk .u8 tab) := (k8 _ (by omega) (by omega)).trans t7
  simp only [↓reduceIte, reduceCtorEq, Za, Zb, Zc, Zd, Ze, Zf, Zg, Zh, Zi, Zj, Zk, Zl, Zm, Zn, Zo, Zp, Zq, Zr, Zs, Zt, Zu, Zv, gval, Zw, rb0, rb1, rb2, rb3, rb4, tf0, tf1, tf2, tf3, Yk, ifc23]
  refine runC_of (fleft_spec pl16 f8 fun h9 f9 n9 k9 => ?_)
  have pa : ((popc 64 s7.a : Nat) : Int) = 2 := by rw [r7.a]; decide
  have t9 : h9.get 1 = some (tabBlk .u8 tab) := (k9 _ (by omega) (by omega)).trans t8
  simp only [↓reduceIte, reduceCtorEq, Za, Zb, Zc, Zd, Ze, Zf, Zg, Zh, Zi, Zj, Zk, Zl, Zm, Zn, Zo, Zp, Zq, Zr, Zs, Zt, Zu, Zv, gval, Zw, rb0, rb1, rb2, rb3, rb4, tf0, tf1, tf2, tf3, Yk, ifc23, pa]
  refine runC_of (unlink_wf (k := 0) (q := false) t9 f9 (by omega) (by omega) r7 (by simp) dE dL lb (fun _ {h5 R2} _ hR => contNil_wf hR) rfl ⟨_, _, _, rfl⟩ (fun c => absurd c (by decide)) fun _ _ j e s10 h10 hj he r10 f10 n10 k10 => ?_)
  obtain rfl : j = 0 := by
    have := (List.getElem?_eq_some_iff.1 hj).1
    simp at this; omega
  have r10 : RF s10 [] 0 t _ := r10
  have r11 := r10.free
  have t10 := (k10 1 (by omega) (by omega) (by omega)).trans t9
  simp only [↓reduceIte, reduceCtorEq, Za, Zb, Zc, Zd, Ze, Zf, Zg, Zh, Zi, Zj, Zk, Zl, Zm, Zn, Zo, Zp, Zq, Zr, Zs, Zt, Zu, Zv, gval, Zw, rb0, rb1, rb2, rb3, rb4, tf0, tf1, tf2, tf3, Yk, ifc23]
  refine runC_of (fleft_spec pl16 f10 fun h11 f11 n11 k11 => ?_)
  have pb : ((popc 64 (s10.free 1).a : Nat) : Int) = 1 := by rw [r11.a]; decide
  have t11 : h11.get 1 = some (tabBlk .u8 tab) := (k11 _ (by omega) (by omega)).trans t10
  have g6' : h11.get b6 = _ := (k11 _ (by omega) (by omega)).trans ((k10 _ (by omega) (by omega) (by omega)).trans ((k9 _ (by omega) (by omega)).trans ((k8 _ (by omega) (by omega)).trans ((k7 _ (by omega) (by omega) (by omega)).trans g6))))
  have g8' : h11.get b8 = _ := (k11 _ (by omega) (by omega)).trans ((k10 _ (by omega) (by omega) (by omega)).trans ((k9 _ (by omega) (by omega)).trans g8))
  have e60 : L6[2]? = some (.string (mkS t)) := e6 0 (by omega)
  have e61 : L6[5]? = some (.string (mkS t)) := e6 1 (by omega)
  have e80 : L8[2]? = some (.string (mkS t)) := e8 0 (by omega)
  simp (disch := (first | omega | rfl | (simp only [Yn]; omega))) only [↓reduceIte, reduceCtorEq, Za, Zb, Zc, Zd, Ze, Zf, Zg, Zh, Zi, Zj, Zk, Zl, Zm, Zn, Zo, Zp, Zq, Zr, Zs, Zt, Zu, Zv, gval, Zw, rb0, rb1, rb2, rb3, rb4, tf0, tf1, tf2, tf3, Yk, Yh, overL_one, if_pos, stX_exactN, ifc23, pb, g6', g8', e60, e61, e80, str_eqG, decide_true]
  refine runC_of (treeNil_wf f11 r11 fun h12 f12 n12 k12 => ?_)
  simp only [↓reduceIte, reduceCtorEq, Za, Zb, Zc, Zd, Ze, Zf, Zg, Zh, Zi, Zj, Zk, Zl, Zm, Zn, Zo, Zp, Zq, Zr, Zs, Zt, Zu, Zv, gval, Zw, rb0, rb1, rb2, rb3, rb4, tf0, tf1, tf2, tf3, Yk]
  refine runC_of (aw17_wf ((k12 _ (by omega) (by omega)).trans t11) ?_)
  simp only [↓reduceIte, reduceCtorEq, Za, Zb, Zc, Zd, Ze, Zf, Zg, Zh, Zi, Zj, Zk, Zl, Zm, Zn, Zo, Zp, Zq, Zr, Zs, Zt, Zu, Zv, gval, Zw, rb0, rb1, rb2, rb3, rb4, tf0, tf1, tf2, tf3, Yk]
  exact hR _
end Go.Proofs.YtbgminppkacdlaaGreatDoor
end
section
/- FscoreLinks: whatever the paths and the text, the law gives true. (Its card: the table of math/bits is as the program's text lays it.) -/
namespace Go.Proofs.YtbgminppkacdlaaGreatDoor
open Go.ChangeShapes Go.WideShapes Go.ChangeAt Go.RowKit Go.AM
set_option maxRecDepth 100000 in
theorem doorZ_wf {W : World} {f : FuncId} {args args' : List Value} {cs : Array Value} {el : TypeId} {fr : Nat × Nat} (t1 : W.heap[1]? = some (.cells cs el fr)) (t2 : cs.size = 64) (t3 : ∀ i, i < 64 → cs[i]? = (tab.map (Value.int .u8))[i]?)
    (hw : WF Tryz.prog 2 sp16 f args H0 fun o _ => o = .ret (.bool true)) (ha : VRels (statMp [.dead, .live ⟨1, 0, 0, 64, 64, false⟩]) args args') :
    Calls Tryz.prog f args'.toArray W fun e W' => e = .returned (.bool true) ∧ Still W W' := by
  refine wf_list (ng := 2) (by kernel_rfl) sp16_ok (l := [.dead, tabBlk .u8 tab]) (st := [.dead, .live ⟨1, 0, 0, 64, 64, false⟩]) rfl (fun i st b hs hb => ?_) (fun i l b hs hb => ?_) (fun g hg => ?_) hw ha
  · match i with
    | 0 => cases hs; cases hb; trivial
    | 1 => cases hs; cases hb; exact tab_rel (bs := tab) t1 t2 t3
    | i + 2 => simp at hs
  · match i with
    | 0 => cases hs
    | 1 => cases hs; cases hb; exact ⟨rfl, rfl⟩
    | i + 2 => simp at hs
  · rcases (show g = 0 ∨ g = 1 by omega) with rfl | rfl
    · exact .inr rfl
    · exact .inl ⟨_, rfl, rfl, rfl, rfl⟩
set_option maxRecDepth 100000 in
theorem fscoreLinks_calls {H : Type} {enc : TypeId × Value → H} {W : World} {base : Nat} {v0 v1 v2 : Value} {d0 d1 d2 : DataW H} {p0 p1 p2 : List MemPlace} (h0 : Value.okWide Tryz.prog W .any base 9 v0) (_t0 : DataW.Trod enc Tryz.prog W 0 (fun _ => true) true 9 v0 d0 p0) (h1 : Value.okWide Tryz.prog W .any base 9 v1) (_t1 : DataW.Trod enc Tryz.prog W 0 (fun _ => true) true 9 v1 d1 p1) (h2 : Value.okWide Tryz.prog W .any base 9 v2) (t2 : DataW.Trod enc Tryz.prog W 0 (fun _ => true) true 9 v2 d2 p2) (hL : laidMetH Tryz.prog Rows.fscoreLinksRow.laid W) :
    Calls Tryz.prog 3 #[v0, v1, v2] W fun e W' => e = .returned (.bool true) ∧ Still W W' := by
  obtain ⟨tc, el, fr, w1, w2, w3⟩ := tab_laid hL
  have u9 : Tryz.prog.underlying 9 = some .string := by kernel_rfl
  obtain ⟨S, rfl⟩ := okWide_string u9 h0
  obtain ⟨S1, rfl⟩ := okWide_string u9 h1
  obtain ⟨S2, rfl⟩ := okWide_string u9 h2
  obtain ⟨fuel, t2⟩ := t2
  have hlen : S2.size ≤ maxLen := by
    obtain ⟨z, hz, _, hs⟩ := DataW.trod_string u9 t2
    have : S2 = z := by
      have hc : [Value.string S2] = [Value.string z] := hz
      cases hc; rfl
    rw [this]; exact hs
  rw [← mkS_data S, ← mkS_data S1, ← mkS_data S2]
  exact doorZ_wf (args := [.string _, .string _, .string _]) (args' := [_, _, _]) w1 w2 w3 (flinks_walk (by simpa using hlen) fun _ => rfl) (.cons _ _ _ _ (.string _) (.cons _ _ _ _ (.string _) (.cons _ _ _ _ (.string _) .nil)))

set_option maxRecDepth 100000 in
theorem fscoreLinks_lifted (os : Os) (started : os.Started) (H : Type) (enc : TypeId × Value → H) :
    ReturnsInHanded {} Tryz.checked os 3 .any (fun w args => (Rows.fscoreLinksSpec.pre enc Tryz.prog Tryz.f3 Rows.fscoreLinksRow.domain false w args ∧ laidMetH Tryz.prog Rows.fscoreLinksRow.laid w) ∧ sizedMet enc Tryz.prog Tryz.f3 (OpenSpec.ofChange Rows.fscoreLinksSpec) false w args)
      (Rows.fscoreLinksSpec.post enc Tryz.prog Tryz.f3 false true false false) := by
  refine returnsInHanded_of_change_and (C := Tryz.checked) (X := fun w _ => laidMetH Tryz.prog Rows.fscoreLinksRow.laid w) (fun _ _ _ hh h => h.of_heap hh) Tryz.own started (by kernel_rfl) Tryz.func3
    (ChangeSpec.witness_shaped (enc := enc) (C := Tryz.checked) (os := os) (X := fun w _ => laidMetH Tryz.prog Rows.fscoreLinksRow.laid w) false (World.laidAll Tryz.prog os Rows.fscoreLinksRow.laid) #[.string .empty, .string .empty, .string .empty] 8 (World.laidAll_os _ _ _)
      (World.shaped_of_ZipB (by kernel_rfl) (by kernel_rfl)) (by kernel_rfl) (by kernel_rfl) (by kernel_rfl)
      (by rw [MakeChecks.laidMetH_plain _ _ _ (by kernel_rfl)]; exact laidMet_laidAll _ (by kernel_rfl) (by kernel_rfl))) ?_
  intro W base args ds gs before hval0 hW hcnd _ hL _
  have hval : ∀ (j : Nat) t v, Tryz.f3.params[j]? = some t → args[j]? = some v → Value.okWide Tryz.prog W .any base t v := hval0
  have hW' := hW
  obtain ⟨p, q, hA0, hV, rfl, hfz, hnd⟩ := hW
  have hA1 : DataW.TrodAll enc Tryz.prog W 0 (fun _ => true) true Tryz.f3.params.toList args.toList ds p := hA0
  have hA := hA1
  rw [Tryz.params3] at hA hval
  obtain ⟨v0, v1, v2, d0, d1, d2, p0, p1, p2, rfl, rfl, rfl, h0, h1, h2⟩ := trodAll_three hA
  obtain ⟨rfl, rfl⟩ := trodVars_none hV
  refine (fscoreLinks_calls (hval 0 9 v0 rfl rfl) h0 (hval 1 9 v1 rfl rfl) h1 (hval 2 9 v2 rfl rfl) h2 hL).mono fun e W' ⟨he, hw⟩ => ?_
  subst he
  simp only [List.append_nil] at hW' ⊢
  exact ⟨_, rfl, post_true (bt := 4) Tryz.kids Tryz.full (by rw [Tryz.params3]; decide) (by kernel_rfl) (by kernel_rfl) rfl rfl hW' hA1 rfl rfl rfl hw⟩

end Go.Proofs.YtbgminppkacdlaaGreatDoor
end
section
/- Closed facts of this seat's program, each by itself: together they outgrow a process. -/
namespace Go.Proofs.YtbgminppkacdlaaGreatDoor
open Go.ChangeShapes Go.WideShapes Go.ChangeAt Go.RowKit
theorem Tryz.laidOut : laidOutB Tryz.prog = true := by kernel_rfl
theorem Tryz.mapsRowed : mapsRowed Tryz.prog = true := by kernel_rfl
theorem Tryz.plainKeys : (Rows.fscoreOpenRow.plainKeys == Tryz.prog.plainKeys) = true := by kernel_rfl
theorem Tryz.stopsHeard : Tryz.prog.stopsHeard = true := by kernel_rfl
theorem Tryz.mayEnter : Tryz.prog.mayEnter = true := by kernel_rfl
theorem Tryz.lifted : (Rows.fscoreOpenRow.lifted == Tryz.prog.liftsFinal) = true := by kernel_rfl
theorem Tryz.make : (Tryz.prog.make == some Rows.fscoreOpenRow.make) = true := by kernel_rfl
theorem Tryz.looks : true = Tryz.prog.looks [] := by kernel_rfl
end Go.Proofs.YtbgminppkacdlaaGreatDoor
end
section
/- FscoreLinks: whatever the paths and the text, the law gives true. (Its card: the table of math/bits is as the program's text lays it.) -/
namespace Go.Proofs.YtbgminppkacdlaaGreatDoor
open Go.ChangeShapes Go.WideShapes Go.ChangeAt Go.RowKit Go.AM
theorem fscoreLinks_inPlace : (Rows.fscoreLinksRow.inPlace == Tryz.prog.inPlace 3) = true := by kernel_rfl
theorem fscoreLinks_unfollowed : (Rows.fscoreLinksRow.unfollowed == Tryz.prog.unfollowed 3) = true := by kernel_rfl
theorem fscoreLinks_recurses : (Rows.fscoreLinksRow.recurses == Tryz.prog.recurses 3) = true := by kernel_rfl
theorem fscoreLinks_named : (Rows.fscoreLinksRow.named == Tryz.prog.varsNamed 3) = true := by kernel_rfl
theorem fscoreLinks_joined : joinedFacts Tryz.prog 3 Tryz.f3 Rows.fscoreLinksSpec Rows.fscoreLinksRow = true := by
  simp only [joinedFacts, Bool.and_eq_true]
  exact ⟨⟨⟨⟨⟨⟨⟨⟨⟨⟨⟨⟨⟨⟨⟨⟨⟨⟨⟨⟨⟨⟨⟨⟨⟨⟨⟨⟨⟨⟨⟨by kernel_rfl, Tryz.laidOut⟩, Tryz.mapsRowed⟩, by kernel_rfl⟩, by kernel_rfl⟩, by kernel_rfl⟩, by kernel_rfl⟩, by kernel_rfl⟩, by kernel_rfl⟩, fscoreLinks_inPlace⟩, fscoreLinks_unfollowed⟩, fscoreLinks_recurses⟩, fscoreLinks_named⟩, by kernel_rfl⟩, by kernel_rfl⟩, by kernel_rfl⟩, by kernel_rfl⟩, by kernel_rfl⟩, by kernel_rfl⟩, by kernel_rfl⟩, by kernel_rfl⟩, by kernel_rfl⟩, Tryz.plainKeys⟩, by kernel_rfl⟩, Tryz.stopsHeard⟩, Tryz.mayEnter⟩, Tryz.lifted⟩, Tryz.make⟩, by kernel_rfl⟩, by kernel_rfl⟩, by kernel_rfl⟩, by kernel_rfl⟩
theorem fscoreLinks_holds : Rows.FscoreLinksSaid :=
  OpenClaim.holds_of_wide 3 Tryz.f3 rfl rfl rfl rfl rfl rfl rfl ⟨rfl, rfl, rfl, rfl, rfl⟩ rfl rfl rfl rfl rfl (by kernel_rfl) Tryz.func3 fscoreLinks_joined
    (of_decide_eq_true (by kernel_rfl)) (by unfold Func.isWrapper; first | (rw [if_pos (by decide +kernel)]; kernel_rfl) | (rw [if_neg (by decide +kernel)]; exact ⟨rfl, rfl⟩))
    (fun os started H enc _ => fscoreLinks_lifted os started H enc)
end Go.Proofs.YtbgminppkacdlaaGreatDoor
end
