/- More rules for rewriting: built values, results in cells, regions without open pairs, slices of interfaces' methods. No condition. -/
import Derived.Test.YtmmjeifdgfolmaaAmBits
namespace Go.AM
variable {P : Program} {ng : Nat} {sp : Special} {Q : AExit → Env → Heap → Prop}
/-- of a struct: the zero's cells, the places of its fields. -/
def bldOf (P : Program) (t : TypeId) : Option (List Value × List (Nat × Nat)) := match P.underlying t, zeroL P t with
  | some (.struct fields), some z => if fields.toList.all fun f => (sizeOf? P f.type).isSome then some (z, fields.toList.map fun f => (f.offset, (sizeOf? P f.type).getD 0)) else none
  | some (.array _ e), some z => match sizeOf? P e with
    | some s => some (z, (List.range (z.length / s)).map fun i => (i * s, s))
    | none => none
  | _, _ => none
theorem fillL_congr {p q : Nat → Option (Nat × Nat)} : ∀ (parts : List (Nat × Value)) (cs : List Value), (∀ x ∈ parts, p x.1 = q x.1) → fillL p cs parts = fillL q cs parts := by
  intro parts
  induction parts with
  | nil => intro cs _; rfl
  | cons x r ih =>
    intro cs hx
    obtain ⟨i, v⟩ := x
    rw [fillL, fillL, hx (i, v) (List.mem_cons_self ..)]
    cases q i with
    | none => rfl
    | some y =>
      cases cellsOf v with
      | none => rfl
      | some vs => simp only; rw [ih _ fun x hx' => hx x (List.mem_cons_of_mem _ hx')]
/-- a struct is built. -/
theorem u_build {t : TypeId} {z : List Value} {fs : List (Nat × Nat)} (hb : bldOf P t = some (z, fs)) (parts : List (Nat × Value)) (hp : ∀ x ∈ parts, x.1 < fs.length) : aBuild P t parts = fillL (fun i => fs[i]?) z parts := by
  unfold aBuild
  unfold bldOf at hb
  cases hu : P.underlying t with
  | none => rw [hu] at hb; simp at hb
  | some d =>
    cases hz : zeroL P t with
    | none => rw [hu, hz] at hb; cases d <;> simp at hb
    | some z' =>
      rw [hu, hz] at hb
      cases d <;> first | (simp at hb; done) | skip
      · rename_i n e
        simp only at hb ⊢
        cases hs : sizeOf? P e with
        | none => rw [hs] at hb; simp at hb
        | some s =>
          rw [hs] at hb
          simp only [Option.some.injEq, Prod.mk.injEq] at hb
          obtain ⟨rfl, rfl⟩ := hb
          simp only
          refine fillL_congr parts _ fun x hx => ?_
          have := hp x hx
          rw [List.length_map, List.length_range] at this
          simp [this]
      · rename_i fields
        simp only at hb ⊢
        split at hb
        · rename_i hall
          simp only [Option.some.injEq, Prod.mk.injEq] at hb
          obtain ⟨rfl, rfl⟩ := hb
          rw [if_pos hall]
          refine fillL_congr parts _ fun x hx => ?_
          simp only [List.getElem?_map]
          cases hf : fields.toList[x.1]? with
          | none => rfl
          | some f =>
            simp only [Option.map_some]
            have := List.all_eq_true.1 hall f (List.mem_of_getElem? hf)
            obtain ⟨s, hs⟩ := Option.isSome_iff_exists.1 this
            rw [hs]; rfl
        · cases hb
def aBuildO (P : Program) (t : TypeId) (parts : List (Nat × Value)) : Option (List Value) := aBuild P t parts
/-- .. for rewriting. -/
theorem u_build' {t : TypeId} {z : List Value} {fs : List (Nat × Nat)} (hb : bldOf P t = some (z, fs)) (parts : List (Nat × Value)) : aBuild P t parts = if parts.all (fun x => Nat.blt x.1 fs.length) = true then fillL (fun i => fs[i]?) z parts else aBuildO P t parts := by
  split
  · rename_i h
    exact u_build hb parts fun x hx => by have := List.all_eq_true.1 h x hx; simpa [Nat.blt_eq] using this
  · rfl
theorem fillL_nil (p : Nat → Option (Nat × Nat)) (cs : List Value) : fillL p cs [] = some cs := rfl
def fillX (p : Nat → Option (Nat × Nat)) (cs : List Value) (r : List (Nat × Value)) (x : Option (Nat × Nat)) (vs : Option (List Value)) : Option (List Value) := match x, vs with
  | some (off, size), some vs => if vs.length = size ∧ off + size ≤ cs.length then fillL p (overL cs off vs) r else none
  | _, _ => none
theorem fillL_cons (p : Nat → Option (Nat × Nat)) (cs : List Value) (i : Nat) (v : Value) (r : List (Nat × Value)) : fillL p cs ((i, v) :: r) = fillX p cs r (p i) (cellsOf v) := rfl
theorem fillX_some (p : Nat → Option (Nat × Nat)) (cs : List Value) (r : List (Nat × Value)) (off size : Nat) (vs : List Value) : fillX p cs r (some (off, size)) (some vs) = if vs.length = size ∧ off + size ≤ cs.length then fillL p (overL cs off vs) r else none := rfl
theorem ret_val (v : Value) : (ret v).map (·.val) = some v := rfl
theorem resultV_cell (e : Env) (h : Heap) (a : Tmp) (t : TypeId) : resultV P e h [.cell a t] = (effLoad P t (e.at a) h.get).map (·.val) := by
  unfold resultV resOne
  simp only
  cases effLoad P t (e.at a) h.get <;> rfl
theorem resAll_cell (e : Env) (h : Heap) (a : Tmp) (t : TypeId) (l : List ResultVar) : resAll P e h (.cell a t :: l) = ((effLoad P t (e.at a) h.get).map (·.val)).bind fun v => (resAll P e h l).map fun vs => v :: vs := by
  rw [resAll]
  unfold resOne
  simp only
  cases effLoad P t (e.at a) h.get <;> cases resAll P e h l <;> rfl
theorem didsOk_nil (l : List Did) : didsOk [] l = true := rfl
theorem bind_some_agg (l : List Value) : (some l).bind (fun a => ret (.agg a.toArray)) = ret (.agg l.toArray) := rfl
theorem overL_mid (A Z B F : List Value) (h : F.length = Z.length) : overL (A ++ Z ++ B) A.length F = A ++ F ++ B := by
  unfold overL
  have h1 : (A ++ Z ++ B).take A.length = A := by rw [List.append_assoc, List.take_left']; rfl
  have h2 : (A ++ Z ++ B).drop (A.length + F.length) = B := by rw [List.drop_left']; simp [h]
  rw [h1, h2]
theorem repeatL_snoc (z : List Value) : ∀ n, repeatL z n ++ z = repeatL z (n + 1) := by
  intro n
  induction n with
  | zero => simp [repeatL_zero, repeatL_succ]
  | succ n ih => rw [repeatL_succ, List.append_assoc, ih, ← repeatL_succ]
/-- one more of many. -/
theorem overL_repeat (F Z : List Value) (i m : Nat) (hz : F.length = Z.length) : overL (repeatL F i ++ repeatL Z (m + 1)) (i * Z.length) F = repeatL F (i + 1) ++ repeatL Z m := by
  rw [repeatL_succ, ← List.append_assoc, show i * Z.length = (repeatL F i).length by rw [length_repeatL, hz], overL_mid _ _ _ _ hz, repeatL_snoc]
end Go.AM
