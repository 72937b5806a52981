/- Ranging over maps: what 'range', 'next' and 'entry' do. -/
import Derived.Test.YtkkdpbicppdglaaGreatDoorAmDraw3
import Derived.Laws.IdiomRangeMap
namespace Go.AM
variable {P : Program} {w : World}

theorem next_run (ty : TypeId) {itb cbm since last clk : Nat} {seen : Array Nat} {es : Array MapEntry} (hi : w.heap[itb]? = some (.mapIter (some cbm) since seen last)) (hb : w.heap[cbm]? = some (.map es clk))
    (hold : ∀ x ∈ es.toList, x.born < since) (hsc : since ≤ last) :
    ((∀ x ∈ es.toList, x.born ∈ seen.toList) ∧ (Instr.next (.pointer (some ⟨itb, 0, none⟩)) false ty).run P w = .ok (.tuple #[.bool false]) w) ∨
    ∃ e ∈ es.toList, e.born ∉ seen.toList ∧ ∃ d, (Instr.next (.pointer (some ⟨itb, 0, none⟩)) false ty).run P w = .ok (.tuple #[.bool true, e.key, e.val]) { w with heap := w.heap.setIfInBounds itb (.mapIter (some cbm) since (seen.push e.born) clk), drawn := d } := by
  simp only [Instr.next, getObj, Sem.run_bind, Sem.run, hi, hb, Result.andThen, next_test_false seen es since last hold hsc, Bool.false_eq_true, if_false]
  have hL : Array.filter (fun e => !seen.contains e.born) es = leftOf es seen := rfl
  have hmem : ∀ x ∈ (leftOf es seen).toList, x ∈ es.toList ∧ x.born ∉ seen.toList := fun x hx => by
    unfold leftOf at hx
    simpa using hx
  have hnone : (leftOf es seen).size = 0 → ∀ x ∈ es.toList, x.born ∈ seen.toList := by
    intro h0 x hx
    refine Classical.byContradiction fun hn => ?_
    have : x ∈ (leftOf es seen).toList := by
      unfold leftOf
      simp
      exact ⟨by simpa using hx, by simpa using hn⟩
    rw [Array.eq_empty_of_size_eq_zero h0] at this
    simp at this
  simp only [hL]
  generalize leftOf es seen = L at hmem hnone
  have hlt : ∀ x ∈ L.toList, x.born < since := fun x hx => hold x (hmem x hx).1
  have e1 : L.filter (fun x => decide (x.born < since)) = L := Array.filter_eq_self.2 (fun x hx => by simpa using hlt x (by simpa using hx))
  have e2 : L.filter (fun x => decide (x.born ≥ since)) = #[] := by
    rw [Array.filter_eq_empty_iff]
    intro x hx
    have := hlt x (by simpa using hx)
    simp
    omega
  simp only [e1, e2, Array.append_empty]
  by_cases h0 : L.size = 0
  · left
    have : L = #[] := Array.eq_empty_of_size_eq_zero h0
    subst this
    refine ⟨hnone rfl, ?_⟩
    simp [choose, Sem.run, Question.forced]
  · right
    have hne : L.isEmpty = false := by simp [Array.isEmpty, h0]
    simp only [hne, Bool.false_eq_true, if_false, Array.empty_append, Array.size_map]
    have hch : ∃ (j d : Nat), j < L.size ∧ (choose (Question.mapNext L.size)).run P w = .ok j { w with drawn := d } := by
      by_cases hf : L.size ≤ 1
      · exact ⟨0, w.drawn, by omega, by simp [choose, Sem.run, Question.forced, hf]⟩
      · exact ⟨_, w.drawn + 1, Nat.mod_lt _ (by omega), by
          simp only [choose, Sem.run, Question.forced, decide_eq_true_eq, hf, if_false, Question.cut]
          rfl⟩
    obtain ⟨j, d, hj, hrun⟩ := hch
    obtain ⟨m1, m2⟩ := hmem L[j] (by simp)
    refine ⟨L[j], m1, m2, d, ?_⟩
    simp only [hrun, Array.getElem?_map, Array.getElem?_eq_getElem hj, Option.map_some, Sem.run_bind, setObj, Sem.run, hi, Result.andThen]
    rfl

theorem entry_run {itb cbm since clk : Nat} {seen : Array Nat} {es : Array MapEntry} {e : MapEntry} (hi : w.heap[itb]? = some (.mapIter (some cbm) since (seen.push e.born) clk)) (hb : w.heap[cbm]? = some (.map es clk)) (he : e ∈ es.toList)
    (hn : (es.toList.map (·.born)).Nodup) : (Instr.entry (.pointer (some ⟨itb, 0, none⟩))).run P w = .ok (.tuple #[e.key, e.val]) w := by
  have hf : es.find? (·.born == e.born) = some e := by rw [← Array.find?_toList]; exact find_born e es.toList hn he
  simp only [Instr.entry, getObj, Sem.run_bind, Sem.run, hi, hb, Result.andThen, Array.back?_push, bne_self_eq_false, Bool.false_eq_true, if_false, hf]
  rfl

theorem range_run {t k e : TypeId} {cbm clk : Nat} {es : Array MapEntry} (ht : P.underlying t = some (.map k e)) (hb : w.heap[cbm]? = some (.map es clk)) :
    (Instr.range t (.map (some cbm))).run P w = .ok (.pointer (some ⟨w.heap.size, 0, none⟩)) { w with heap := w.heap.push (.mapIter (some cbm) clk #[] clk) } := run_range_map w t k e cbm es clk ht hb
end Go.AM
