/- A listed variable that is a table of ints: what is known of its cells; its block. -/
import Derived.Test.YtkkdpbicppdglaaGreatDoorAmHeap
import Derived.OpenShut
import Derived.LaidMore
import Derived.Lay
import Derived.SevenTiedAt
import Derived.Stop.Joined
namespace Go.AM
open Go.ChangeShapes Go.WideShapes
variable {P : Program} {W : World}

theorem laid_table {nm : String} {g t e N : Nat} {k : IntKind} {bs : List Int} (hL : laidMet P [(nm, .agg (bs.map fun b => .lit (.int k b)))] W) (hg : P.globalNamed nm = some g) (ht : (P.globals[g]?).map (·.type) = some t) (hu : P.underlying t = some (.array N e))
    (he : P.underlying e = some (.int k)) (hc : P.cellsOf e = 1) (hct : P.cellsOf t = N) (hlen : bs.length = N) :
    ∃ cs el fr, W.heap[g]? = some (.cells cs el fr) ∧ cs.size = N ∧ ∀ i, i < N → cs[i]? = (bs.map (Value.int k))[i]? := by
  obtain ⟨ps, ⟨g', t', cs, fuel, p, q, hg', ht', hv, hd, _, _⟩, _, _⟩ := hL
  obtain rfl := Option.some.inj (hg.symm.trans hg')
  obtain rfl := Option.some.inj (ht.symm.trans ht')
  obtain ⟨xs, m, _, ex, hcl, hl, hel⟩ := DataW.trod_array hu hd
  have hheap : ∃ el fr, W.heap[g]? = some (.cells cs el fr) := by
    simp only [World.var?, hg, Option.bind_some] at hv
    split at hv <;> try (simp at hv; done)
    rename_i cs' el fr hh
    simp only [Option.some.injEq] at hv
    subst hv
    exact ⟨el, fr, hh⟩
  obtain ⟨el, fr, hh⟩ := hheap
  have hsz : cs.size = N := by rw [← hct, ← hcl]; simp
  refine ⟨cs, el, fr, hh, hsz, fun i hi => ?_⟩
  have hE := hel i hi
  rw [hc, Nat.mul_one, List.getElem?_eq_getElem (by omega)] at hE
  obtain ⟨z, e1, e2, _⟩ := DataW.trod_int he hE
  have e3 : (xs.map (·.1)) = bs.map fun n => .lit (.int k n) := (DataW.agg.inj (Prod.mk.inj ex).1).symm
  have e4 : (xs.map (·.1))[i]? = (bs.map fun n => (DataW.lit (.int k n) : DataW Unit))[i]? := by rw [e3]
  rw [List.getElem?_map, List.getElem?_map, List.getElem?_eq_getElem (by omega : i < xs.length), List.getElem?_eq_getElem (by omega : i < bs.length), e2] at e4
  have hz : z = bs[i]'(by omega) := by
    simp only [Option.map_some, Option.some.injEq, DataW.lit.injEq, Lit.int.injEq, true_and] at e4
    exact e4
  rw [List.getElem?_map, List.getElem?_eq_getElem (by omega : i < bs.length), Option.map_some, ← hz]
  have h0 : ((cs.toList.drop i).take 1)[0]? = some (.int k z) := by rw [e1]; rfl
  have : cs.toList[i]? = some (.int k z) := by simpa using h0
  simpa using this

/-- a table's block. -/
noncomputable def tabBlk (k : IntKind) (bs : List Int) : Blk := .cells (ofList (bs.map (Value.int k))) bs.length .ro
theorem tab_rel {m : Mp} {g : Nat} {k : IntKind} {bs : List Int} {cs : Array Value} {el : TypeId} {fr : Nat × Nat} (h1 : W.heap[g]? = some (.cells cs el fr)) (h2 : cs.size = bs.length) (h3 : ∀ i, i < bs.length → cs[i]? = (bs.map (Value.int k))[i]?) :
    BRel m W (.live ⟨g, 0, 0, bs.length, bs.length, false⟩) (some (tabBlk k bs)) := by
  refine ⟨rfl, cs, el, fr, h1, h2, by simp, ⟨rfl, rfl⟩, fun i hi => ?_⟩
  have h4 := h3 i hi
  rw [List.getElem?_map, List.getElem?_eq_getElem (by omega : i < bs.length), Option.map_some] at h4
  refine ⟨_, _, ?_, by rw [Nat.zero_add]; exact h4, rfl, .int _ _⟩
  rw [get_ofList, List.getElem?_map, List.getElem?_eq_getElem (by omega : i < bs.length), Option.map_some]
end Go.AM
