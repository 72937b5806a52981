/- A call without arguments that gave true in a run of its own: a special for it, in a seat whose rows list a table. -/
import Derived.Test.YtkkdpbicppdglaaGreatDoorAmDoor
namespace Go.AM
variable {P : Program}

noncomputable def trueF (g : Nat) (k : IntKind) (bs : List Int) (_ : Caller) (args : List Value) (h : Heap) : Option (Out × Heap) :=
  match args with
  | [] => cond (beqB (h.get g) (some (tabBlk k bs))) (some (.ret (.bool true), h)) none
  | _ => none
def orSpec (a b : Special) : Special := fun f => match a f with
  | some F => some F
  | none => b f
theorem orSpec_ok {ng : Nat} {a b : Special} (ha : SpecOk P ng a) (hb : SpecOk P ng b) : SpecOk P ng (orSpec a b) := by
  intro f G hG cl hcl
  unfold orSpec at hG
  split at hG
  · rename_i F hF
    simp only [Option.some.injEq] at hG
    subst hG
    exact ha f F hF cl hcl
  · exact hb f G hG cl hcl

theorem trueF_ok {g : Nat} {k : IntKind} {bs : List Int} {cl0 : Caller} (hcl0 : CallOk P (g + 1) cl0) {f : FuncId} (hrun : isTrue (cl0 f [] (listHeap (doorL g k bs ++ []))) = true) (cl : Caller) : CallOkAt P (g + 1) f (trueF g k bs cl) := by
  cases hq : cl0 f [] (listHeap (doorL g k bs ++ [])) with
  | none => rw [hq] at hrun; simp [isTrue] at hrun
  | some q =>
    obtain ⟨o0, h0⟩ := q
    rw [hq] at hrun
    have ho : o0 = .ret (.bool true) := by
      unfold isTrue at hrun
      split at hrun
      · rename_i b _ heq
        simp only [Option.some.injEq, Prod.mk.injEq] at heq
        rw [heq.1, hrun]
      · simp at hrun
    subst ho
    obtain ⟨hen, _, hnx, hc⟩ := hcl0 f [] _ _ h0 hq (listHeap_wf _)
    intro args h o h' hr hwf
    unfold trueF at hr
    split at hr <;> try (simp at hr; done)
    cases hb : beqB (h.get g) (some (tabBlk k bs)) with
    | false => rw [hb] at hr; simp at hr
    | true =>
      rw [hb] at hr
      simp only [cond_true, Option.some.injEq, Prod.mk.injEq] at hr
      obtain ⟨rfl, rfl⟩ := hr
      have hg := beqB_eq hb
      refine ⟨hen, hwf, Nat.le_refl _, fun N F m w args' hN hh hgl ha => ?_⟩
      cases ha
      have hbr := hh.at hwf hN hg
      -- the table's place
      obtain ⟨l, hm, hl1, hl2, hl3⟩ : ∃ l, m g = .live l ∧ l.cb = g ∧ l.sh = 0 ∧ l.rw = false := by
        rcases hgl g (Nat.lt_succ_self g) with ⟨l, h1, h2, h3, h4⟩ | h1
        · exact ⟨l, h1, h2, h3, h4⟩
        · rw [h1] at hbr; exact hbr.elim
      rw [hm] at hbr
      obtain ⟨b1, c, el, fr, b2, b3, b4, b5, b6⟩ := hbr
      let M0 : Mp := fun b => if b < g then .dead else if b = g then .live l else .fresh
      have hM : ∀ b l', M0 b = .live l' → b = g ∧ l' = l := by
        intro b l' hb'
        by_cases h1 : b < g
        · simp only [M0, if_pos h1] at hb'; cases hb'
        · by_cases h2 : b = g
          · simp only [M0, if_neg h1, if_pos h2] at hb'; cases hb'; exact ⟨h2, rfl⟩
          · simp only [M0, if_neg h1, if_neg h2] at hb'; cases hb'
      have hMg : M0 g = .live l := by simp [M0]
      have hrel : HRel M0 (mix (listHeap (doorL g k bs ++ [])) h0.nx fun _ => none) w := by
        refine ⟨fun b => ?_, fun b b' l1 l2 h1 h2 _ _ => by rw [(hM b l1 h1).1, (hM b' l2 h2).1]⟩
        have hlen : (doorL g k bs ++ []).length = g + 1 := by simp [doorL]
        have hnx' : g + 1 ≤ h0.nx := by rw [← hlen]; exact hnx
        unfold mix
        rw [listHeap_get]
        by_cases h1 : b < g
        · have e : (doorL g k bs ++ [])[b]? = some .dead := by
            rw [List.append_nil]; unfold doorL
            rw [List.getElem?_append_left (by simpa using h1), List.getElem?_replicate, if_pos h1]
          rw [if_pos (by omega), e]
          simp only [M0, if_pos h1]
          trivial
        · by_cases h2 : b = g
          · subst h2
            have e : (doorL b k bs ++ [])[b]? = some (tabBlk k bs) := by
              rw [List.append_nil]; unfold doorL
              rw [List.getElem?_append_right (by simp)]
              simp
            rw [if_pos (by omega), e, hMg]
            refine ⟨b1, c, el, fr, b2, b3, b4, b5, fun i hi => ?_⟩
            obtain ⟨v, v', a1, a2, a3, a4⟩ := b6 i hi
            refine ⟨v, v', a1, a2, a3, ?_⟩
            rw [get_ofList, List.getElem?_map, List.getElem?_eq_getElem hi, Option.map_some] at a1
            simp only [Option.some.injEq] at a1
            subst a1
            cases a4
            exact .int _ _
          · have e : (doorL g k bs ++ [])[b]? = none := List.getElem?_eq_none (by rw [hlen]; omega)
            rw [e]
            simp only [M0, if_neg h1, if_neg h2]
            split <;> trivial
      refine (hc h0.nx (fun _ => none) M0 w [] (Nat.le_refl _) hrel ?_ .nil).mono ?_
      · intro x hx
        by_cases h1 : x < g
        · exact .inr (by simp [M0, h1])
        · have : x = g := by omega
          subst this
          exact .inl ⟨l, hMg, hl1, hl2, hl3⟩
      · rintro e w' ⟨m', ⟨v', rfl, hv⟩, _, hst⟩
        cases hv
        have hkeep : ∀ cb, cb < w.heap.size → w'.heap[cb]? = w.heap[cb]? := fun cb hcb => hst.keep cb hcb fun b l' hl' hrw => by
          rw [(hM b l' hl').2, hl3] at hrw; cases hrw
        refine ⟨m, ⟨_, rfl, .bool true⟩, ⟨fun b => (hh.blk b).mono (.refl m) fun l' hl' => hkeep _ (hh.lt hl'), hh.inj⟩, ?_⟩
        exact ⟨.refl m, hst.size, hst.os, hst.out, fun cb hcb _ => hkeep cb hcb, fun b l' hl' hr' => .inr ⟨b, l', hl', hr', rfl⟩, fun b l' hl' _ => hl'⟩
end Go.AM
