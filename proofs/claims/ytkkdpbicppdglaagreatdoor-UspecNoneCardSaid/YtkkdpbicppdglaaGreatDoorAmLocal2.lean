/- An operation hangs on its operands, and on the blocks that they lead to, alone. -/
import Derived.Test.YtkkdpbicppdglaaGreatDoorAmLocal
namespace Go.AM
variable {P : Program}

theorem eff_congr {op : Op} {ρ ρ' : Operand → Value} {g : Nat → Option Blk} {nx : Nat} (hρ : ∀ x ∈ op.operands.toList, ρ x = ρ' x) : eff P op ρ g nx = eff P op ρ' g nx := by
  have pairs : ∀ ps : Array (Nat × Operand), (∀ x ∈ ps.toList.map (·.2), ρ x = ρ' x) → (ps.toList.map fun x => (x.1, ρ x.2)) = (ps.toList.map fun x => (x.1, ρ' x.2)) := fun ps hp =>
    List.map_congr_left fun x hx => by rw [hp x.2 (List.mem_map.2 ⟨x, hx, rfl⟩)]
  cases op <;> simp only [Op.operands] at hρ <;> simp only [eff]
  case build t ps => rw [pairs ps (by simpa using hρ)]
  case buildSlice t n ps => rw [pairs ps (by simpa using hρ)]
  case makeFunc fn a b =>
    rw [Array.map_congr_left (xs := a) fun x hx => hρ x (by simp [hx]), Array.map_congr_left (xs := b) fun x hx => hρ x (by simp [hx])]
  case makeMap t r => cases r <;> simp_all
  case slice t x lo hi mx => cases lo <;> cases hi <;> cases mx <;> simp_all
  case call c =>
    unfold effCall
    split
    · rw [List.map_congr_left fun x hx => hρ x (by simp [Call.operands, hx])]
    · rfl
  all_goals (first | rfl | (simp_all; done))

theorem callee_congr {c : Call} {ρ ρ' : Operand → Value} (hρ : ∀ x ∈ c.operands.toList, ρ x = ρ' x) : callee P c ρ = callee P c ρ' := by
  have ha : c.args.toList.map ρ = c.args.toList.map ρ' := List.map_congr_left fun x hx => hρ x (by simp [Call.operands, hx])
  unfold callee
  cases hc : c.callee with
  | value f => have : ρ f = ρ' f := hρ f (by simp [Call.operands, hc]); simp only [this, ha]
  | invoke r n => have : ρ r = ρ' r := hρ r (by simp [Call.operands, hc]); simp only [this, ha]
  | builtin b => rfl

/-- the blocks of a value. -/
def Same (g g' : Nat → Option Blk) (v : Value) : Prop := ∀ b ∈ blkOf v, g b = g' b

theorem first_local {g g' : Nat → Option Blk} {size n : Nat} {x : Value} (h : Same g g' x) : firstL g size n x = firstL g' size n x := by
  cases n with
  | zero => rfl
  | succ n =>
  show firstS g size (n + 1) x = firstS g' size (n + 1) x
  unfold firstS
  split
  · rename_i b off _ _; rw [h b (by simp [blkOf])]
  · rfl
  · rfl
  · rfl

theorem eff_local {op : Op} {ρ : Operand → Value} {g g' : Nat → Option Blk} {nx : Nat} (h : ∀ b ∈ foot op ρ, g b = g' b) : eff P op ρ g nx = eff P op ρ g' nx := by
  have hx : looks op = true → ∀ x ∈ op.operands.toList, Same g g' (ρ x) := by
    intro hl x hx b hb
    refine h b ?_
    unfold foot
    rw [if_pos hl]
    exact List.mem_flatMap.2 ⟨x, hx, hb⟩
  cases op <;> simp only [looks, forall_const] at hx <;> simp only [eff]
  case load t a =>
    have := hx a (by simp [Op.operands])
    unfold effLoad
    split
    · rename_i b off hv; rw [hv] at this; rw [this b (by simp [blkOf])]
    · rfl
  case range t x =>
    have := hx x (by simp [Op.operands])
    unfold effRange
    split
    · rfl
    · rename_i r _ hv; rw [hv] at this; rw [this r (by simp [blkOf])]
    · rfl
  case store t a x =>
    have := hx a (by simp [Op.operands])
    unfold effStore
    split
    · rename_i b off hv; rw [hv] at this; rw [this b (by simp [blkOf])]
    · rfl
  case insert t m k x =>
    have := hx m (by simp [Op.operands])
    unfold effUpdate
    split
    · rename_i r _ hv; rw [hv] at this; rw [this r (by simp [blkOf])]
    · rfl
  case mapUpdate t m k x =>
    have := hx m (by simp [Op.operands])
    unfold effUpdate
    split
    · rename_i r _ hv; rw [hv] at this; rw [this r (by simp [blkOf])]
    · rfl
  case binOp bo t x y yt =>
    have h1 := hx x (by simp [Op.operands])
    have h2 := hx y (by simp [Op.operands])
    have hel : ∀ (t : TypeId) (u v : Value), Same g g' u → Same g g' v → eqlV P t u v g = eqlV P t u v g' := by
      intro t u v h1 h2
      unfold eqlV
      split
      · split
        · rfl
        · rfl
        · rename_i a b
          rw [h1 a.block (by simp [blkOf]), h2 b.block (by simp [blkOf])]
        · rfl
      all_goals rfl
    have he : eqlV P t (ρ x) (ρ y) g = eqlV P t (ρ x) (ρ y) g' := hel t _ _ h1 h2
    have hcs : ∀ (e : TypeId) (l s : List Value), (∀ v ∈ l, ∀ a, v = .pointer (some a) → g a.block = g' a.block) → (∀ v ∈ s, ∀ a, v = .pointer (some a) → g a.block = g' a.block) → eqCells P e g l s = eqCells P e g' l s := by
      intro e l
      induction l with
      | nil => intro s _ _; cases s <;> rfl
      | cons v l ih =>
        intro s hl hs
        cases s with
        | nil => rfl
        | cons u s =>
          have e1 : eqlV P e v u g = eqlV P e v u g' := by
            unfold eqlV
            split
            · split
              · rfl
              · rfl
              · rename_i a b
                rw [hl _ List.mem_cons_self a rfl, hs _ List.mem_cons_self b rfl]
              · rfl
            all_goals rfl
          rw [eqCells, eqCells, e1, ih s (fun v hv => hl v (List.mem_cons_of_mem _ hv)) (fun v hv => hs v (List.mem_cons_of_mem _ hv))]
    have harr : ∀ a b, ρ x = .agg a → ρ y = .agg b → eqArr P t a b g = eqArr P t a b g' := by
      intro a b ha hb
      unfold eqArr
      split
      · split
        · split
          · rfl
          · refine hcs _ _ _ (fun v hv c hc => h1 c.block ?_) (fun v hv c hc => h2 c.block ?_)
            · rw [ha]; simp only [blkOf, List.mem_flatMap]; exact ⟨v, hv, by rw [hc]; simp⟩
            · rw [hb]; simp only [blkOf, List.mem_flatMap]; exact ⟨v, hv, by rw [hc]; simp⟩
        · rfl
      · rfl
    generalize ρ x = a at he h1 h2 harr
    generalize ρ y = b at he h1 h2 harr
    unfold effBin
    split
    · rfl
    · rfl
    · rfl
    · rw [harr _ _ rfl rfl]
    · rename_i i j; rw [h1 i (by simp [blkOf])]
    · rename_i i k b; rw [h1 i (by simp [blkOf])]
    · rename_i k a j; rw [h2 j (by simp [blkOf])]
    · rw [he]
  case convert s d x =>
    have := hx x (by simp [Op.operands])
    unfold effConv
    split
    · rfl
    · rename_i i hv
      rw [hv] at this
      rw [this i (by simp [blkOf])]
    · rfl
    · rename_i a len c hv
      rw [hv] at this
      split
      · split
        · split
          · rfl
          · rename_i b off; rw [this b (by simp [blkOf])]
          · rfl
        · rfl
      · rfl
    · rfl
  case slice t x lo hi mx =>
    have := hx x (by simp [Op.operands])
    unfold effSlice
    split
    · rfl
    · rename_i e a len cap _ hv
      rw [hv] at this
      have hs : ∀ l m size b, sliceAddr a l m cap size b g = sliceAddr a l m cap size b g' := by
        intro l m size b
        unfold sliceAddr
        split
        · rfl
        · rfl
        · rename_i b off; rw [this b (by simp [blkOf])]
      split
      · rw [hs]
      · rfl
    · rfl
    · rfl
    · rfl
  case lookup t m k ok =>
    have := hx m (by simp [Op.operands])
    unfold effLookup
    split
    · rename_i kt e r _ hv
      rw [hv] at this
      cases r with
      | none => rfl
      | some r => simp only; rw [this r (by simp [blkOf])]
    · rfl
  case next it b =>
    have := hx it (by simp [Op.operands])
    unfold effNext effNextS
    cases b with
    | false => rfl
    | true =>
      simp only
      split
      · rename_i r hv; rw [hv] at this; rw [this r (by simp [blkOf])]
      · rfl
  case call c =>
    unfold effCall
    split
    · rename_i b hb
      have hargs : ∀ v ∈ c.args.toList.map ρ, Same g g' v := by
        intro v hv
        obtain ⟨x, h1, rfl⟩ := List.mem_map.1 hv
        exact hx x (by simp [Op.operands, Call.operands, h1])
      generalize c.args.toList.map ρ = args at hargs
      have hmm : ∀ mn, mmOf mn args g = mmOf mn args g' := by
        intro mn
        unfold mmOf
        split
        · rename_i i k b; rw [hargs (.chan (some i)) (by simp) i (by simp [blkOf])]
        · rename_i k b i; rw [hargs (.chan (some i)) (by simp) i (by simp [blkOf])]
        · rfl
      cases b <;> simp only [builtinEff]
      case min => rw [hmm]
      case max => rw [hmm]
      case append =>
        split
        · rename_i s x
          have h1 := hargs s (by simp)
          have h2 := hargs x (by simp)
          unfold aAppend
          split
          · split
            · rfl
            · rename_i elem d base sLen sCap _ _ _
              split
              · rename_i i z n _ _ _
                rw [first_local (g := g) (g' := g') h2]
                split
                · rfl
                · split
                  · rfl
                  · split
                    · cases base with
                      | none => rfl
                      | some a =>
                        obtain ⟨b, off, sp⟩ := a
                        cases sp with
                        | some _ => rfl
                        | none => simp only; rw [h1 b (by simp [blkOf])]
                    · rw [first_local (g := g) (g' := g') h1]
                      split
                      · rfl
                      · cases base with
                        | none => rfl
                        | some a =>
                          obtain ⟨b, off, sp⟩ := a
                          cases sp with
                          | some _ => rfl
                          | none => simp only; rw [h1 b (by simp [blkOf])]
              · rfl
            · rfl
          · rfl
        · rfl
      case copy =>
        split
        · rename_i d s
          have h1 := hargs d (by simp)
          have h2 := hargs s (by simp)
          unfold aCopy
          split
          · split
            · rename_i elem base dLen dCap _
              split
              · rename_i size sl _ _
                rw [first_local (g := g) (g' := g') h2]
                split
                · rfl
                · cases base with
                  | none => rfl
                  | some a =>
                    obtain ⟨b, off, sp⟩ := a
                    cases sp with
                    | some _ => rfl
                    | none => simp only; rw [h1 b (by simp [blkOf])]
              · rfl
            · rfl
          · rfl
        · rfl
      case clear =>
        split
        · rename_i x
          have h1 := hargs x (by simp)
          unfold aClear
          split
          · split
            · rfl
            · rename_i r _; rw [h1 r (by simp [blkOf])]
            · rfl
            · rename_i elem b off n c _; rw [h1 b (by simp [blkOf])]
            · rfl
          · rfl
        · rfl
      case delete =>
        split
        · rename_i mm k
          have h1 := hargs mm (by simp)
          unfold aDelete
          split
          · split
            · rename_i kt e r _
              cases r with
              | none => rfl
              | some r => simp only; rw [h1 r (by simp [blkOf])]
            · rfl
          · rfl
        · rfl
      case len =>
        split
        · rename_i x
          have h1 := hargs x (by simp)
          unfold aLen
          split
          · split
            all_goals first | rfl | (rename_i r _; rw [h1 r (by simp [blkOf])])
          · rfl
        · rfl
    · rfl
end Go.AM
