/- A special for a Builder's String: its bytes' row is given up. -/
import Derived.Test.YtkkdpbicppdglaaGreatDoorAmStr
namespace Go.AM
open Go.Proofs Go.Shelf Go.RowKit
variable {P : Program} {ρ : Ren} {ng : Nat}

set_option maxHeartbeats 2000000 in
set_option maxRecDepth 100000 in
/-- (*strings.Builder).String at a builder that holds bytes. -/
theorem string_calls (L : Lays.n169 P ρ) (X : Builder.Extra P ρ) (b g cap : Nat) (l : List UInt8) (w : World) (h0 : l ≠ []) (hcap : cap ≠ 0) (c1 : w.cell? ⟨b, 1, none⟩ = some (.slice (some ⟨g, 0, none⟩) l.length cap))
    {cells : Nat} (hsh : w.shape? g = some (ρ.t 5, cells)) (hle : l.length ≤ cells) (hmax : l.length ≤ 1000000) (hcell : ∀ j x, l[j]? = some x → w.cell? ⟨g, j, none⟩ = some (.int .u8 x.toNat)) :
    Calls P (ρ.f 169) #[.pointer (some ⟨b, 0, none⟩)] w fun e w' => e = .returned (.string ⟨l.toArray⟩) ∧ w' = w.drew.freeze ⟨g, 0, none⟩ l.length := by
  have c1 : w.drew.cell? ⟨b, 1, none⟩ = some (.slice (some ⟨g, 0, none⟩) l.length cap) := c1
  have hSD : (Builtin.unsafeSliceData_ #[(ρ.t 37)] (ρ.t 127) #[.slice (some ⟨g, 0, none⟩) l.length cap]).run P w.drew = .ok (.pointer (some ⟨g, 0, none⟩)) w.drew :=
    Lib.run_unsafeSliceData_row _ _ _ _ _ _ hcap
  have hUS : (Builtin.unsafeString_ #[(ρ.t 127), (ρ.t 3)] (ρ.t 9) #[.pointer (some ⟨g, 0, none⟩), .int .i64 l.length]).run P w.drew = .ok (.string ⟨l.toArray⟩) (w.drew.freeze ⟨g, 0, none⟩ l.length) := by
    refine Lib.run_unsafeString_row w.drew (ρ.t 127) (ρ.t 3) (ρ.t 9) (ρ.t 5) L.t127 X.cellsByte g cells hsh l h0 hle (by omega) ?_
    intro j x hx
    rw [add_at, Nat.zero_add]
    exact hcell j x hx
  have mixed := L.mixed
  have t72 := L.t72; have a72 := L.a72; have z72 := L.z72; have v72 := L.v72; have u72 := run_underlying L.t72
  have t70 := L.t70; have a70 := L.a70; have z70 := L.z70; have v70 := L.v70; have u70 := run_underlying L.t70
  have t37 := L.t37; have a37 := L.a37; have z37 := L.z37; have v37 := L.v37; have u37 := run_underlying L.t37
  have t127 := L.t127; have a127 := L.a127; have z127 := L.z127; have v127 := L.v127; have u127 := run_underlying L.t127
  have t3 := L.t3; have a3 := L.a3; have z3 := L.z3; have v3 := L.v3; have u3 := run_underlying L.t3
  have t9 := L.t9; have a9 := L.a9; have z9 := L.z9; have v9 := L.v9; have u9 := run_underlying L.t9
  have t5 := X.t5; have a5 := X.a5; have z5 := X.z5; have v5 := X.v5; have u5 := run_underlying X.t5
  go_enter L.f169, Body.n169_ntmps ρ
  go_wp2
  go_region_o
  all_goals (go_wp2; go_ret; exact ⟨rfl, rfl⟩)

noncomputable def byV (v : Value) (r : Option (List UInt8)) : Option (List UInt8) := match v with
  | .int .u8 (.ofNat n) => cond (Nat.blt n 256) (r.map (UInt8.ofNat n :: ·)) none
  | _ => none
noncomputable def byL (l : List Value) : Option (List UInt8) := List.rec (motive := fun _ => Option (List UInt8)) (some []) (fun v _ ih => byV v ih) l
theorem byL_ok {m : Mp} : ∀ {l l' : List Value} {bs : List UInt8}, byL l = some bs → VRels m l l' → bs.length = l.length ∧ ∀ (j : Nat) (x : UInt8), bs[j]? = some x → l'[j]? = some (Value.int .u8 x.toNat) := by
  intro l
  induction l with
  | nil =>
    intro l' bs h _
    simp only [byL, Option.some.injEq] at h
    subst h
    exact ⟨rfl, fun j x hx => by simp at hx⟩
  | cons v r ih =>
    intro l' bs h hl
    have h2 : byV v (byL r) = some bs := h
    clear h
    cases hl with
    | cons _ v' _ r' hv hr =>
    unfold byV at h2
    split at h2 <;> try (simp at h2; done)
    rename_i n
    have h := h2
    cases hn : Nat.blt n 256 with
    | false => rw [hn] at h; simp at h
    | true =>
      rw [hn] at h
      simp only [cond_true] at h
      obtain ⟨bs', h1, rfl⟩ := Option.map_eq_some_iff.1 h
      obtain ⟨i1, i2⟩ := ih h1 hr
      have hn : n < 256 := by simpa [Nat.blt_eq] using hn
      cases hv
      refine ⟨by simp [i1], fun j x hx => ?_⟩
      cases j with
      | zero =>
        simp only [List.getElem?_cons_zero, Option.some.injEq] at hx ⊢
        subst hx
        have : (UInt8.ofNat n).toNat = n := by simp; omega
        rw [this]; rfl
      | succ j => simpa using i2 j x (by simpa using hx)

noncomputable def stF (tb te : Nat) (_ : Caller) (args : List Value) (h : Heap) : Option (Out × Heap) := match args with
  | [.pointer (some ⟨b, off, none⟩)] => cond (Nat.beq off 0) (match h.get b with
    | some (.cells xs n (.bld t)) => cond (Nat.beq t tb && Nat.beq n 2) (match xs.get 1 with
      | some (.slice (some ⟨g, o, none⟩) len cap) => cond (Nat.beq o 0 && Nat.ble 1 len && Nat.ble len cap && Nat.ble len 1000000) (match h.get g with
        | some (.cells ys mm (.own t')) => cond (Nat.beq t' te && Nat.ble len mm) (match byL (loadL ys 0 len) with
          | some bs => some (.ret (.string ⟨bs.toArray⟩), ⟨h.t.set g .dead, h.nx⟩)
          | none => none) none
        | _ => none) none
      | some (.slice none 0 0) => some (.ret (.string ⟨#[]⟩), h)
      | _ => none) none
    | _ => none) none
  | _ => none

theorem stF_ok (L : Lays.n169 P ρ) (X : Builder.Extra P ρ) (hen : Enter P (ρ.f 169)) (cl : Caller) : CallOkAt P ng (ρ.f 169) (stF (ρ.t 72) (ρ.t 5) cl) := by
  intro args h o h' hr hwf
  unfold stF at hr
  split at hr <;> try (simp at hr; done)
  rename_i b off
  cases ho : Nat.beq off 0 with
  | false => rw [ho] at hr; simp at hr
  | true =>
  rw [ho] at hr
  obtain rfl := Nat.eq_of_beq_eq_true ho
  simp only [cond_true] at hr
  split at hr <;> try (simp at hr; done)
  rename_i xs n t hg
  cases ht : (Nat.beq t (ρ.t 72) && Nat.beq n 2) with
  | false => rw [ht] at hr; simp at hr
  | true =>
  rw [ht] at hr
  simp only [Bool.and_eq_true] at ht
  obtain rfl := Nat.eq_of_beq_eq_true ht.1
  obtain rfl := Nat.eq_of_beq_eq_true ht.2
  simp only [cond_true] at hr
  have key : ∀ (N : Nat) (F : Nat → Option Blk) (m : Mp) (w : World) (args' : List Value), h.nx ≤ N → HRel m (mix h N F) w → VRels m [.pointer (some ⟨b, 0, none⟩)] args' →
      ∃ l p v v', m b = .live l ∧ args' = [.pointer (some ⟨l.cb, 0, none⟩)] ∧ xs.get 1 = some v ∧ w.heap[l.cb]? = some (.cells #[p, v'] (ρ.t 72) (0, 0)) ∧ VRel m v v' := by
    intro N F m w args' hN hh ha
    obtain ⟨l, hm, c, el, fr, hc⟩ := hh.cells hwf hN hg
    obtain ⟨k1, k2, k3, k4, k5⟩ : l.rw = true ∧ l.sh = 0 ∧ l.csz = 2 ∧ fr = (0, 0) ∧ el = ρ.t 72 := hc.kind
    subst k4; subst k5
    obtain ⟨v0, v0', _, f2, _, _⟩ := hc.cell 0 (by omega)
    obtain ⟨v, v', g1, g2, _, g4⟩ := hc.cell 1 (by omega)
    rw [k2] at g2 f2
    have hcs : c.size = 2 := by rw [hc.csz, k3]
    have hheap := hc.heap
    cases ha with
    | cons _ a' _ r' ha hr' =>
    cases hr'
    have := ptr_live ha hm
    rw [k2] at this
    refine ⟨l, v0', v, v', hm, by rw [this], g1, ?_, g4⟩
    rw [hheap]
    congr 2
    apply Array.ext_getElem?
    intro i
    match i with
    | 0 => rw [f2]; rfl
    | 1 => rw [g2]; rfl
    | i + 2 => rw [Array.getElem?_eq_none (by omega), Array.getElem?_eq_none (by simp)]
  split at hr <;> try (simp at hr; done)
  · rename_i g o len cap hx1
    cases hq : (Nat.beq o 0 && Nat.ble 1 len && Nat.ble len cap && Nat.ble len 1000000) with
    | false => rw [hq] at hr; simp at hr
    | true =>
    rw [hq] at hr
    simp only [Bool.and_eq_true] at hq
    obtain ⟨⟨⟨q1, q2⟩, q3⟩, q4⟩ := hq
    obtain rfl := Nat.eq_of_beq_eq_true q1
    have q2 := Nat.le_of_ble_eq_true q2
    have q3 := Nat.le_of_ble_eq_true q3
    have q4 := Nat.le_of_ble_eq_true q4
    simp only [cond_true] at hr
    split at hr <;> try (simp at hr; done)
    rename_i ys mm t' hgg
    cases ht : (Nat.beq t' (ρ.t 5) && Nat.ble len mm) with
    | false => rw [ht] at hr; simp at hr
    | true =>
    rw [ht] at hr
    simp only [Bool.and_eq_true] at ht
    obtain rfl := Nat.eq_of_beq_eq_true ht.1
    have hlm := Nat.le_of_ble_eq_true ht.2
    simp only [cond_true] at hr
    split at hr <;> try (simp at hr; done)
    rename_i bs hbs
    simp only [Option.some.injEq, Prod.mk.injEq] at hr
    obtain ⟨rfl, rfl⟩ := hr
    refine ⟨hen, ?_, Nat.le_refl _, fun N F m w args' hN hh hgl ha => ?_⟩
    · intro b' hb'
      have hne : b' ≠ g := by
        intro e; subst e
        have := hwf b' hb'
        rw [this] at hgg; cases hgg
      show (h.t.set g _).get b' = none
      rw [Trie.get_set_ne _ _ hne]
      exact hwf b' hb'
    · have hN' : h.nx ≤ N := hN
      obtain ⟨l, p, v, v', hm, rfl, g1, g2, g4⟩ := key N F m w args' hN' hh ha
      rw [hx1] at g1
      simp only [Option.some.injEq] at g1
      subst g1
      obtain ⟨lg, hmg, c, el, fr, hc⟩ := hh.cells hwf hN' hgg
      obtain ⟨k1, k2, k3, k4, k5⟩ : lg.rw = true ∧ fr = (0, 0) ∧ lg.esz = 1 ∧ el = ρ.t 5 ∧ lg.sh = 0 := hc.kind
      subst k2; subst k4
      have hfit := hc.fit
      have hcsz := hc.csz
      have hrel := (cells_rel hc.cell (k := len) (off := 0) (by omega) (by omega)).1
      obtain ⟨b1, b2⟩ := byL_ok hbs hrel
      rw [length_loadL] at b1
      rcases slice_live g4 hmg with ⟨cap2, hx2, hsr⟩ | ⟨z1, z2, z3, a2, hx2⟩
      · subst hx2
        have hcc : cap ≤ cap2 := by rcases hsr with r | ⟨_, _, _, r⟩ <;> omega
        rw [k5] at g2 b2
        have hcall := string_calls L X l.cb lg.cb cap2 bs w (fun e => by rw [e] at b1; simp at b1; omega) (by omega)
          (by rw [b1]; simp [World.cell?, g2]) (cells := c.size) (by simp [World.shape?, hc.heap]) (by omega) (by omega) (by
            intro j x hx
            rw [cell_at hc.heap]
            have := b2 j x hx
            rw [List.getElem?_take, List.getElem?_drop] at this
            split at this
            · simpa using this
            · cases this)
        refine hcall.mono ?_
        rintro e w' ⟨rfl, rfl⟩
        obtain ⟨r1, r2⟩ := hh.kill hmg k1
        have hheap : ∀ cb, cb ≠ lg.cb → (w.drew.freeze ⟨lg.cb, 0, none⟩ bs.length).heap[cb]? = w.heap[cb]? := by
          intro cb hcb
          unfold World.freeze
          split
          · rfl
          · show (w.heap.modify lg.cb _)[cb]? = _
            rw [Array.getElem?_modify, if_neg (Ne.symm hcb)]
        have hsz : (w.drew.freeze ⟨lg.cb, 0, none⟩ bs.length).heap.size = w.heap.size := by
          unfold World.freeze
          split
          · rfl
          · show (w.heap.modify lg.cb _).size = _
            rw [Array.size_modify]
        have hos : (w.drew.freeze ⟨lg.cb, 0, none⟩ bs.length).os = w.os ∧ (w.drew.freeze ⟨lg.cb, 0, none⟩ bs.length).output = w.output := by
          unfold World.freeze
          split <;> exact ⟨rfl, rfl⟩
        have hro : roB (mix h N F g) = false := roB_rw (hmg ▸ hh.blk g) k1
        have r3 := r1.other (w' := w.drew.freeze ⟨lg.cb, 0, none⟩ bs.length) (by
          intro b' l' hl'
          by_cases e : b' = g
          · simp only [if_pos e] at hl'; cases hl'
          · simp only [if_neg e] at hl'
            exact hheap _ fun e' => e (hh.inj g b' lg l' hmg hl' e'.symm hro).symm)
        refine ⟨_, ⟨_, rfl, .string _⟩, ?_, r2.ext, Nat.le_of_eq hsz.symm, hos.1, hos.2, ?_, r2.new, r2.old⟩
        · have := mix_set h N F .dead h.nx (lt_of_get hwf hN' hgg)
          rw [this]
          exact r3
        · intro cb _ hcb
          exact hheap cb fun e => hcb g lg hmg k1 e.symm
      · omega
  · rename_i hx1
    simp only [Option.some.injEq, Prod.mk.injEq] at hr
    obtain ⟨rfl, rfl⟩ := hr
    refine ⟨hen, hwf, Nat.le_refl _, fun N F m w args' hN hh hgl ha => ?_⟩
    obtain ⟨l, p, v, v', hm, rfl, g1, g2, g4⟩ := key N F m w args' hN hh ha
    rw [hx1] at g1
    simp only [Option.some.injEq] at g1
    subst g1
    cases g4
    refine (Any.Builder_String_nil L X w.heap.size l.cb p w g2).mono ?_
    rintro e w' ⟨rfl, hb⟩
    obtain ⟨q1, q2⟩ := hh.below hb
    exact ⟨m, ⟨_, rfl, .string _⟩, q1, q2⟩
end Go.AM
