/- What each operation does: slices, addresses, parts, maps, the rest. -/
import Derived.Test.YtkkdpbicppdglaaGreatDoorAmEff2
namespace Go.AM
variable {P : Program} {m : Mp} {h : Heap} {N : Nat} {F : Nat → Option Blk} {w : World}

/- ## bounds -/
def ORelV (m : Mp) : Option Value → Option Value → Prop
  | none, none => True
  | some v, some v' => VRel m v v'
  | _, _ => False
theorem ORelV.map {ρ ρ' : Operand → Value} {x : Option Operand} (h : ∀ y, x = some y → VRel m (ρ y) (ρ' y)) : ORelV m (x.map ρ) (x.map ρ') := by
  cases x with
  | none => trivial
  | some y => exact h y rfl

theorem bnd_run {x x' : Option Value} {d n i : Nat} {code : BoundsCode} (hx : ORelV m x x') (he : bnd x d n = some i) :
    match x' with
    | none => i = d
    | some v => (Instr.sliceBound v n code).run P w = .ok i w ∧ i ≤ n := by
  cases x with
  | none => cases x' with
    | none => simp [bnd] at he; exact he.symm
    | some v => exact hx.elim
  | some v => cases x' with
    | none => exact hx.elim
    | some v' =>
      have hv : VRel m v v' := hx
      simp only [bnd] at he
      split at he <;> try (simp at he; done)
      rename_i k z
      cases hv
      split at he <;> try (simp at he; done)
      rename_i j
      cases hb : Nat.ble j n with
      | false => simp [hb] at he
      | true =>
        rw [hb] at he
        simp only [cond_true, Option.some.injEq] at he
        subst he
        have := Nat.le_of_ble_eq_true hb
        refine ⟨?_, this⟩
        simp only [Instr.sliceBound, asIntOf, Sem.run_bind, Sem.run_pure, Result.andThen_ok]
        rw [if_pos (by simp only [Int.ofNat_eq_natCast]; omega)]
        simp

theorem bounds_run {isSlice : Bool} {len cap cap' l hh mm : Nat} {lo lo' hi hi' mx mx' : Option Value} (hcap : cap ≤ cap') (h1 : ORelV m lo lo') (h2 : ORelV m hi hi') (h3 : ORelV m mx mx')
    (he : bounds len cap lo hi mx = some (l, hh, mm)) :
    (Instr.sliceBounds isSlice len cap' lo' hi' mx').run P w = .ok (l, hh, if mx.isSome then mm else cap') w ∧ l ≤ hh ∧ hh ≤ mm ∧ mm ≤ cap ∧ (mx = none → mm = cap) := by
  unfold bounds at he
  split at he <;> try (simp at he; done)
  rename_i m0 hm0
  split at he <;> try (simp at he; done)
  rename_i hhi
  split at he <;> try (simp at he; done)
  rename_i h0 hh0
  split at he <;> try (simp at he; done)
  rename_i l0 hl0
  cases hb : Nat.ble h0 m0 with
  | false => simp [hb] at he
  | true =>
    rw [hb] at he
    simp only [cond_true, Option.some.injEq, Prod.mk.injEq] at he
    obtain ⟨rfl, rfl, rfl⟩ := he
    have hle := Nat.le_of_ble_eq_true hb
    have hl : l0 ≤ h0 ∧ (Instr.sliceBounds isSlice len cap' lo' hi' mx').run P w = .ok (l0, h0, if mx.isSome then m0 else cap') w ∧ m0 ≤ cap ∧ (mx = none → m0 = cap) := by
      have bl : ∀ code, l0 ≤ h0 ∧ (match lo' with
          | some v => Instr.sliceBound v h0 code
          | none => pure 0 : Sem Nat).run P w = .ok l0 w := by
        intro code
        have := bnd_run (P := P) (w := w) (code := code) h1 hl0
        cases lo' with
        | none => simp only at this; subst this; exact ⟨Nat.zero_le _, rfl⟩
        | some v => exact ⟨this.2, this.1⟩
      cases mx with
      | none =>
        cases mx' with
        | some v => exact h3.elim
        | none =>
          simp only [bnd, Option.some.injEq] at hm0
          subst hm0
          refine ⟨(bl .sliceB).1, ?_, Nat.le_refl _, fun _ => rfl⟩
          cases hi with
          | none => cases hi' with
            | some v => exact h2.elim
            | none =>
              simp only [bnd, Option.some.injEq] at hh0
              subst hh0
              simp only [Instr.sliceBounds, Sem.run_bind, Sem.run_pure, Result.andThen_ok, Option.isSome_none, Bool.false_eq_true, if_false]
              have b2 := (bl .sliceB).2
              cases lo' with
              | none => simp only [Sem.run_pure, Result.ok.injEq, and_true] at b2; subst b2; simp
              | some v => simp only at b2; simp [b2]
          | some hv => cases hi' with
            | none => exact h2.elim
            | some hv' =>
              have hb2 : (Instr.sliceBound hv' cap' (if isSlice = true then BoundsCode.sliceAcap else BoundsCode.sliceAlen)).run P w = .ok h0 w := by
                simp only [bnd] at hh0
                split at hh0 <;> try (simp at hh0; done)
                rename_i k z
                have hv2 : VRel m (Value.int k z) hv' := h2
                cases hv2
                split at hh0 <;> try (simp at hh0; done)
                rename_i j
                cases hj : Nat.ble j cap with
                | false => simp [hj] at hh0
                | true =>
                  rw [hj] at hh0
                  simp only [cond_true, Option.some.injEq] at hh0
                  subst hh0
                  simp only [Instr.sliceBound, asIntOf, Sem.run_bind, Sem.run_pure, Result.andThen_ok]
                  rw [if_pos (by simp only [Int.ofNat_eq_natCast]; omega)]
                  simp
              simp only [Instr.sliceBounds, Sem.run_bind, Sem.run_pure, Result.andThen_ok, Option.isSome_none, Bool.false_eq_true, if_false, hb2]
              have b2 := (bl .sliceB).2
              cases lo' with
              | none => simp only [Sem.run_pure, Result.ok.injEq, and_true] at b2; subst b2; simp
              | some v => simp only at b2; simp [b2]
      | some mv =>
        cases mx' with
        | none => exact h3.elim
        | some mv' =>
          have hmv : VRel m mv mv' := h3
          cases hi with
          | none => simp at hhi
          | some hv => cases hi' with
            | none => exact h2.elim
            | some hv' =>
              have hb1 : ∀ code, (Instr.sliceBound mv' cap' code).run P w = .ok m0 w ∧ m0 ≤ cap := by
                intro code
                simp only [bnd] at hm0
                split at hm0 <;> try (simp at hm0; done)
                rename_i k z
                cases hmv
                split at hm0 <;> try (simp at hm0; done)
                rename_i j
                cases hj : Nat.ble j cap with
                | false => simp [hj] at hm0
                | true =>
                  rw [hj] at hm0
                  simp only [cond_true, Option.some.injEq] at hm0
                  subst hm0
                  have := Nat.le_of_ble_eq_true hj
                  refine ⟨?_, this⟩
                  simp only [Instr.sliceBound, asIntOf, Sem.run_bind, Sem.run_pure, Result.andThen_ok]
                  rw [if_pos (by simp only [Int.ofNat_eq_natCast]; omega)]
                  simp
              have hb2 := bnd_run (P := P) (w := w) (code := .slice3B) (x := some hv) (x' := some hv') h2 hh0
              refine ⟨(bl .slice3C).1, ?_, (hb1 .slice3Acap).2, fun e => by simp at e⟩
              simp only [Instr.sliceBounds, Sem.run_bind, Result.andThen_ok, Option.isSome_some, if_true, (hb1 _).1, hb2.1]
              have b2 := (bl .slice3C).2
              cases lo' with
              | none => simp only [Sem.run_pure, Result.ok.injEq, and_true] at b2; subst b2; simp
              | some v => simp only at b2; simp [b2]
    exact ⟨hl.2.1, hl.1, hle, hl.2.2.1, hl.2.2.2⟩

theorem ptr_add {a a' : Addr} (hv : VRel m (.pointer (some a)) (.pointer (some a'))) (k : Nat) : VRel m (.pointer (some (a.add k))) (.pointer (some (a'.add k))) := by
  cases hv with
  | ptr b off l hl => rw [add_at, add_at, Nat.add_assoc]; exact .ptr b (off + k) l hl
  | ptrDead _ _ hd => exact .ptrDead _ _ (by unfold Addr.add; split <;> exact hd)
theorem slice_ptr {a a' : Addr} (hv : VRel m (.pointer (some a)) (.pointer (some a'))) (n c : Nat) : VRel m (.slice (some a) n c) (.slice (some a') n c) := by
  cases hv with
  | ptr b off l hl => exact .slice b off n c c l hl (.inl rfl)
  | ptrDead _ _ hd => exact .sliceDead _ _ _ _ _ hd

theorem sliceArr_does {s : Sem Value} {n l hh mm size : Nat} {a a' : Addr} {lo hi mx : Option Value} (hr : HRel m (mix h N F) w) (ha : VRel m (.pointer (some a)) (.pointer (some a')))
    (hb : bounds n n lo hi mx = some (l, hh, mm)) (hm : mx = none → mm = n)
    (hs : s.run P w = .ok (.slice (some (if (if mx.isSome then mm else n) = l then a' else a'.add (l * size))) (hh - l) ((if mx.isSome then mm else n) - l)) w) :
    DoesV P s ⟨.slice (some (if mm = l then a else a.add (l * size))) (hh - l) (mm - l), [], []⟩ h N F m w := by
  have e : (if mx.isSome then mm else n) = mm := by
    cases mx with
    | none => simp; exact (hm rfl).symm
    | some v => simp
  rw [e] at hs
  refine DoesV.ret hr hs ?_
  by_cases hml : mm = l
  · rw [if_pos hml, if_pos hml]; exact slice_ptr ha _ _
  · rw [if_neg hml, if_neg hml]; exact slice_ptr (ptr_add ha _) _ _

theorem slice_does {t : TypeId} {x x' : Value} {lo lo' hi hi' mx mx' : Option Value} {f : Eff} (hr : HRel m (mix h N F) w) (hwf : HWf h) (hN : h.nx ≤ N) (hx : VRel m x x')
    (h1 : ORelV m lo lo') (h2 : ORelV m hi hi') (h3 : ORelV m mx mx') (he : effSlice P t x lo hi mx h.get = some f) : DoesV P (Instr.sliceAt t x' lo' hi' mx') f h N F m w := by
  unfold effSlice at he
  split at he <;> try (simp at he; done)
  · -- a text
    rename_i s hu
    cases hx
    split at he <;> try (simp at he; done)
    rename_i hmx
    split at he <;> try (simp at he; done)
    rename_i l hh mm hb
    simp only [AM.ret, Option.some.injEq] at he
    subst he
    have hmx0 : mx = none := by simpa using hmx
    subst hmx0
    have hmx' : mx' = none := by
      cases mx' with
      | none => rfl
      | some v => exact h3.elim
    subst hmx'
    obtain ⟨g1, _⟩ := bounds_run (P := P) (w := w) (isSlice := false) (Nat.le_refl _) h1 h2 (mx := none) (mx' := none) trivial hb
    refine DoesV.ret hr ?_ (.string _)
    simp only [Instr.sliceAt, Instr.slice, Sem.run_bind, ru hu, Result.andThen_ok, Option.isSome_none, Bool.false_eq_true, if_false, g1, Sem.run_pure]
  · -- a slice
    rename_i elem a len cap hu
    split at he <;> try (simp at he; done)
    rename_i l hh mm size hb hs
    split at he <;> try (simp at he; done)
    rename_i a' ha'
    simp only [AM.ret, Option.some.injEq] at he
    subst he
    have key : ∀ {a2 : Option Addr} {cap2 : Nat}, cap ≤ cap2 → x' = .slice a2 len cap2 →
        (Instr.sliceAt t x' lo' hi' mx').run P w = .ok (.slice (if (if mx.isSome then mm else cap2) = l then a2 else a2.map (·.add (l * size))) (hh - l) ((if mx.isSome then mm else cap2) - l)) w ∧
        l ≤ hh ∧ hh ≤ mm ∧ mm ≤ cap ∧ (mx = none → mm = cap) := by
      intro a2 cap2 hc hx2
      obtain ⟨g1, g2⟩ := bounds_run (P := P) (w := w) (isSlice := true) hc h1 h2 h3 hb
      refine ⟨?_, g2⟩
      subst hx2
      simp only [Instr.sliceAt, Instr.slice, Sem.run_bind, ru hu, Result.andThen_ok, g1, rs' hs, Sem.run_pure]
    cases a with
    | none =>
      simp only [sliceAddr, Option.some.injEq] at ha'
      subst ha'
      cases hx
      obtain ⟨g1, g2, g3, g4, g5⟩ := key (Nat.le_refl _) rfl
      have e : (if mx.isSome then mm else cap) = mm := by
        cases mx with
        | none => simp; exact (g5 rfl).symm
        | some v => simp
      rw [e] at g1
      refine DoesV.ret hr g1 ?_
      simp only [Option.map_none, ite_self]
      exact .sliceNil _ _
    | some ad =>
      obtain ⟨b, off, sp⟩ := ad
      cases sp with
      | some q => simp [sliceAddr] at ha'
      | none =>
        simp only [sliceAddr] at ha'
        split at ha' <;> try (simp at ha'; done)
        rename_i xs n k hbk
        obtain ⟨lc, hm, c, el, fr, hc⟩ := hr.cells hwf hN hbk
        have hasz := hc.asz
        -- the plain way, where the capacity is known
        have plain : ∀ {cap2 : Nat}, x' = .slice (some ⟨lc.cb, lc.sh + off, none⟩) len cap2 → cap ≤ cap2 → (mx.isSome = true ∨ cap2 = cap) →
            DoesV P (Instr.sliceAt t x' lo' hi' mx') ⟨.slice (if mm = l then some ⟨b, off, none⟩ else some ⟨b, off + l * size, none⟩) (hh - l) (mm - l), [], []⟩ h N F m w := by
          intro cap2 hx2 hle hor
          obtain ⟨g1, g2, g3, g4, g5⟩ := key hle hx2
          have e : (if mx.isSome then mm else cap2) = mm := by
            cases mx with
            | none => simp at hor ⊢; rw [hor]; exact (g5 rfl).symm
            | some v => simp
          rw [e] at g1
          refine DoesV.ret hr g1 ?_
          by_cases hml : mm = l
          · rw [if_pos hml, if_pos hml]; exact .slice _ _ _ _ _ lc hm (.inl rfl)
          · rw [if_neg hml, if_neg hml, Option.map_some, add_at, Nat.add_assoc]; exact .slice _ _ _ _ _ lc hm (.inl rfl)
        -- at the end there is nothing
        have atEnd : ∀ {a2 : Addr}, x' = .slice (some a2) 0 0 → len = 0 → cap = 0 → off = lc.asz → ∀ o2, o2 = off →
            DoesV P (Instr.sliceAt t x' lo' hi' mx') ⟨.slice (some ⟨b, o2, none⟩) (hh - l) (mm - l), [], []⟩ h N F m w := by
          intro a2 hx2 hlen hcap hoff o2 ho2
          subst hlen; subst hcap
          obtain ⟨g1, g2, g3, g4, g5⟩ := key (Nat.le_refl _) hx2
          obtain rfl : mm = 0 := by omega
          obtain rfl : hh = 0 := by omega
          obtain rfl : l = 0 := by omega
          refine DoesV.ret hr g1 ?_
          have : (if mx.isSome then 0 else 0) = 0 := by split <;> rfl
          rw [this, if_pos rfl]
          exact .sliceEnd _ _ _ lc hm (ho2.trans hoff)
        -- a block that may have more room
        have open_ : ∀ e, lc.esz = e → e = size → off + cap * e = n → mx = none →
            DoesV P (Instr.sliceAt t x' lo' hi' mx') ⟨.slice (some ⟨b, off + l * size, none⟩) (hh - l) (mm - l), [], []⟩ h N F m w := by
          intro e he1 he2 hend hmx
          rcases slice_live hx hm with ⟨cap2, hx2, hsr⟩ | ⟨z1, z2, z3, a2, hx2⟩
          · have hle : cap ≤ cap2 := by rcases hsr with r | r <;> omega
            obtain ⟨g1, g2, g3, g4, g5⟩ := key hle hx2
            have hmm := g5 hmx
            subst hmx
            simp only [Option.isSome_none, Bool.false_eq_true, if_false] at g1
            by_cases hcl : cap2 = l
            · rw [if_pos hcl] at g1
              obtain rfl : cap = l := by omega
              obtain rfl : cap2 = cap := by omega
              obtain rfl : hh = cap2 := by omega
              refine DoesV.ret hr g1 ?_
              rw [hmm, Nat.sub_self]
              exact .sliceEnd _ _ _ lc hm (by rw [hasz, ← hend, he2])
            · rw [if_neg hcl, Option.map_some, add_at, Nat.add_assoc] at g1
              refine DoesV.ret hr g1 ?_
              rw [hmm]
              refine .slice _ _ _ _ _ lc hm ?_
              rcases hsr with r | ⟨r1, r2, r3, r4⟩
              · left; omega
              · right
                have hes : lc.esz = size := he1.trans he2
                rw [hes] at r1 r2 r3 ⊢
                refine ⟨?_, ?_, r3, by omega⟩
                · rw [Nat.sub_mul]
                  have : l * size ≤ cap * size := Nat.mul_le_mul_right _ (by omega)
                  omega
                · rw [Nat.sub_mul]
                  have : l * size ≤ cap2 * size := Nat.mul_le_mul_right _ (by omega)
                  omega
          · have hl0 : l = 0 := by
              obtain ⟨_, g2, g3, g4, _⟩ := key (cap2 := 0) (by omega) (by rw [hx2, z1])
              omega
            exact atEnd hx2 z1 z2 z3 _ (by rw [hl0]; simp)
        -- which is it?
        have shut : (mx = none → off + cap * lc.esz = n → lc.esz = 0 ∨ (lc.sh = 0 ∧ lc.csz = n)) →
            DoesV P (Instr.sliceAt t x' lo' hi' mx') ⟨.slice (if mm = l then some ⟨b, off, none⟩ else some ⟨b, off + l * size, none⟩) (hh - l) (mm - l), [], []⟩ h N F m w := by
          intro hno
          rcases slice_live hx hm with ⟨cap2, hx2, hsr⟩ | ⟨z1, z2, z3, a2, hx2⟩
          · have hle : cap ≤ cap2 := by rcases hsr with r | r <;> omega
            refine plain hx2 hle ?_
            cases hmx : mx with
            | some v => exact .inl rfl
            | none =>
              right
              rcases hsr with r | ⟨r1, r2, r3, r4⟩
              · exact r
              · rcases hno hmx (by rw [hasz] at r1; exact r1) with q | ⟨q1, q2⟩
                · omega
                · rw [hasz] at r1
                  rw [q1, q2] at r2
                  have : cap2 * lc.esz = cap * lc.esz := by omega
                  exact Nat.eq_of_mul_eq_mul_right r3 this
          · obtain ⟨_, g2, g3, g4, _⟩ := key (cap2 := 0) (by omega) (by rw [hx2, z1])
            have hml : mm = l := by omega
            rw [if_pos hml]
            exact atEnd hx2 z1 z2 z3 _ rfl
        have hkind := hc.kind
        split at ha'
        · rename_i e
          obtain ⟨k1, k2, k3, k4⟩ := hkind
          split at ha'
          · rename_i hcond
            split at ha' <;> try (simp at ha'; done)
            rename_i hes
            simp only [Option.some.injEq] at ha'
            subst ha'
            have hmx : mx = none := by simpa using hcond.2
            exact open_ e k3 hes hcond.1 hmx
          · rename_i hcond
            simp only [Option.some.injEq] at ha'
            subst ha'
            refine shut ?_
            intro hmx hend
            rw [k3] at hend
            exact absurd ⟨hend, by simp [hmx]⟩ hcond
        · obtain ⟨k1, k2, k3⟩ := hkind
          split at ha'
          · rename_i hcond
            split at ha' <;> try (simp at ha'; done)
            rename_i hes
            simp only [Option.some.injEq] at ha'
            subst ha'
            have hmx : mx = none := by simpa using hcond.2
            exact open_ 1 k3 hes (by rw [Nat.mul_one]; exact hcond.1) hmx
          · rename_i hcond
            simp only [Option.some.injEq] at ha'
            subst ha'
            refine shut ?_
            intro hmx hend
            rw [k3, Nat.mul_one] at hend
            exact absurd ⟨hend, by simp [hmx]⟩ hcond
        · obtain ⟨k1, k2, k3, _⟩ := hkind
          split at ha'
          · rename_i hcond
            split at ha' <;> try (simp at ha'; done)
            rename_i hes
            simp only [Option.some.injEq] at ha'
            subst ha'
            have hmx : mx = none := by simpa using hcond.2
            exact open_ 1 k3 hes (by rw [Nat.mul_one]; exact hcond.1) hmx
          · rename_i hcond
            simp only [Option.some.injEq] at ha'
            subst ha'
            refine shut ?_
            intro hmx hend
            rw [k3, Nat.mul_one] at hend
            exact absurd ⟨hend, by simp [hmx]⟩ hcond
        · rename_i hk1 hk2 hk3
          simp only [Option.some.injEq] at ha'
          subst ha'
          refine shut ?_
          intro _ _
          cases k with
          | ro => exact .inl hkind.2
          | exact => exact .inr ⟨hkind.2.1, hkind.2.2.1⟩
          | loose e => exact absurd rfl (hk1 e)
          | bytes => exact absurd rfl hk2
          | bld t => exact .inr ⟨hkind.2.1, hkind.2.2.1⟩
          | own t => exact absurd rfl (hk3 t)
  · -- a pointer to an array
    rename_i arr a hu
    split at he <;> try (simp at he; done)
    rename_i n elem hu2
    split at he <;> try (simp at he; done)
    rename_i l hh mm size hb hs
    simp only [AM.ret, Option.some.injEq] at he
    subst he
    obtain ⟨a', hx2⟩ : ∃ a', x' = .pointer (some a') := by cases hx <;> exact ⟨_, rfl⟩
    subst hx2
    obtain ⟨g1, _, _, _, g5⟩ := bounds_run (P := P) (w := w) (isSlice := false) (Nat.le_refl _) h1 h2 h3 hb
    refine sliceArr_does hr hx hb g5 ?_
    simp only [Instr.sliceAt, Instr.slice, Sem.run_bind, ru hu, ru hu2, Result.andThen_ok, asAddr, g1, rs' hs, Sem.run_pure]
  · -- an array's address
    rename_i n elem a hu
    split at he <;> try (simp at he; done)
    rename_i l hh mm size hb hs
    simp only [AM.ret, Option.some.injEq] at he
    subst he
    obtain ⟨a', hx2⟩ : ∃ a', x' = .pointer (some a') := by cases hx <;> exact ⟨_, rfl⟩
    subst hx2
    obtain ⟨g1, _, _, _, g5⟩ := bounds_run (P := P) (w := w) (isSlice := false) (Nat.le_refl _) h1 h2 h3 hb
    refine sliceArr_does hr hx hb g5 ?_
    simp only [Instr.sliceAt, Sem.run_bind, ru hu, Result.andThen_ok, Instr.sureAddr, g1, rs' hs, Sem.run_pure]
end Go.AM
