/- Seats whose rows list a table: calls from heaps that hold the table at its place (what lies ahead of it: not looked at), then tokens. -/
import Derived.Test.YtkkdpbicppdglaaGreatDoorAmLaid
namespace Go.AM
open Go.ChangeShapes Go.WideShapes
variable {P : Program} {W : World}

theorem cell_one {r : Reach} {base : Nat} {u : TypeId} {x : Value} (h : Cell.okWide P W r base u x) : x.oneCell' = true := by
  unfold Cell.okWide at h
  cases x <;> first | rfl | (exfalso; split at h <;> first | (simp_all; done) | (unfold Cell.ok at h; split at h <;> simp_all))
/-- a struct of which nothing is known. -/
theorem any_cells {m : Mp} : ∀ (l : List Value), (∀ v ∈ l, v.oneCell' = true) → VRels m (List.replicate l.length (.chan none)) l
  | [], _ => .nil
  | v :: r, h => .cons _ _ _ _ (.any v (h v (by simp))) (any_cells r fun x hx => h x (by simp [hx]))

theorem struct_cells {r : Reach} {base : Nat} {t : TypeId} {v : Value} (hu : (match P.underlying t with | some (.struct _) => true | _ => false) = true) (h : Value.okWide P W r base t v) :
    ∃ cs, v = .agg cs ∧ cs.size = P.cellsOf t ∧ ∀ x ∈ cs.toList, x.oneCell' = true := by
  unfold Value.okWide at h
  split at hu <;> try (simp at hu; done)
  rename_i fs hfs
  simp only [hfs] at h
  obtain ⟨cs, rfl, h1, ts', h2, _, h4⟩ := h
  refine ⟨cs, rfl, h1, fun x hx => ?_⟩
  obtain ⟨i, hi⟩ := List.getElem?_of_mem hx
  obtain ⟨u, _, h5⟩ := h4 i x (by rw [← Array.getElem?_toList]; exact hi)
  exact cell_one h5
noncomputable def doorL (g : Nat) (k : IntKind) (bs : List Int) : List Blk := List.replicate g .dead ++ [tabBlk k bs]
def doorS (g : Nat) (bs : List Int) : List Stat := List.replicate g .dead ++ [.live ⟨g, 0, 0, bs.length, bs.length, false⟩]
theorem door_calls {cl : Caller} {g : Nat} {k : IntKind} {bs : List Int} (hcl : CallOk P (g + 1) cl) {f : FuncId} {args args' : List Value} {ex : List Blk} {exs : List Stat} (hlen : exs.length = ex.length) (hq : exs.all Stat.quiet = true)
    (hb : ∀ (i : Nat) (s : Stat) (b : Blk), exs[i]? = some s → ex[i]? = some b → BRel (statMp (doorS g bs ++ exs)) W s (some b)) {cs : Array Value} {el : TypeId} {fr : Nat × Nat} (h1 : W.heap[g]? = some (.cells cs el fr)) (h2 : cs.size = bs.length) (h3 : ∀ i, i < bs.length → cs[i]? = (bs.map (Value.int k))[i]?)
    (hrun : isTrue (cl f args (listHeap (doorL g k bs ++ ex))) = true) (ha : VRels (statMp (doorS g bs ++ exs)) args args') :
    Calls P f args'.toArray W fun e W' => e = .returned (.bool true) ∧ Still W W' := by
  have lS : (doorS g bs).length = g + 1 := by simp [doorS]
  have lL : (doorL g k bs).length = g + 1 := by simp [doorL]
  have live : ∀ (i : Nat) (l : Loc), (doorS g bs ++ exs)[i]? = some (.live l) → i = g ∧ l = ⟨g, 0, 0, bs.length, bs.length, false⟩ := by
    intro i l h
    by_cases hi : i < g + 1
    · rw [List.getElem?_append_left (by omega)] at h
      unfold doorS at h
      by_cases hg : i < g
      · rw [List.getElem?_append_left (by simpa using hg), List.getElem?_replicate] at h
        rw [if_pos hg] at h
        cases h
      · have : i = g := by omega
        subst this
        rw [List.getElem?_append_right (by simp)] at h
        simp at h
        exact ⟨rfl, h.symm⟩
    · rw [List.getElem?_append_right (by omega)] at h
      have := List.all_eq_true.1 hq _ (List.mem_of_getElem? h)
      simp [Stat.quiet] at this
  refine true_list hcl (by simp [lS, lL, hlen]) ?_ (fun i j l1 l2 g1 g2 _ => by rw [(live i l1 g1).1, (live j l2 g2).1]) ?_ (fun i l h => by rw [(live i l h).2]) hrun ha
  · intro i s b hs hbk
    by_cases hi : i < g + 1
    · rw [List.getElem?_append_left (by omega)] at hs
      rw [List.getElem?_append_left (by omega)] at hbk
      unfold doorS at hs
      unfold doorL at hbk
      by_cases hg : i < g
      · rw [List.getElem?_append_left (by simpa using hg), List.getElem?_replicate, if_pos hg] at hs
        rw [List.getElem?_append_left (by simpa using hg), List.getElem?_replicate, if_pos hg] at hbk
        cases hs; cases hbk
        trivial
      · have : i = g := by omega
        subst this
        rw [List.getElem?_append_right (by simp)] at hs hbk
        simp at hs hbk
        subst hs; subst hbk
        exact tab_rel h1 h2 h3
    · rw [List.getElem?_append_right (by omega), lS] at hs
      rw [List.getElem?_append_right (by omega), lL] at hbk
      exact hb _ s b hs hbk
  · intro i hi
    have hi : i < g + 1 := hi
    have : statMp (doorS g bs ++ exs) i = ((doorS g bs)[i]?).getD .fresh := by
      unfold statMp
      rw [List.getElem?_append_left (by omega)]
    rw [this]
    unfold doorS
    by_cases hg : i < g
    · rw [List.getElem?_append_left (by simpa using hg), List.getElem?_replicate, if_pos hg]
      exact .inr rfl
    · have : i = g := by omega
      subst this
      rw [List.getElem?_append_right (by simp)]
      exact .inl ⟨⟨i, 0, 0, bs.length, bs.length, false⟩, by simp, rfl, rfl, rfl⟩
end Go.AM
