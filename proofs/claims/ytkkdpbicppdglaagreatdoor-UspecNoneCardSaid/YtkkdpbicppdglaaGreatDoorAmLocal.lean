/- What an operation looks at, and what it writes. -/
import Derived.Test.YtkkdpbicppdglaaGreatDoorAmEff8
namespace Go.AM
variable {P : Program}

/-- at most one block is written, which is there. -/
def EffOk (g : Nat → Option Blk) (f : Eff) : Prop := f.wr = [] ∨ ∃ b x, f.wr = [(b, x)] ∧ g b ≠ none
theorem EffOk.ret {g : Nat → Option Blk} {v : Value} {f : Eff} (h : ret v = some f) : EffOk g f := by
  simp only [AM.ret, Option.some.injEq] at h; subst h; exact .inl rfl

theorem EffOk.bind {α : Type} {g : Nat → Option Blk} {o : Option α} {V : α → Value} {f : Eff} (h : (o.bind fun v => AM.ret (V v)) = some f) : EffOk g f := by
  cases o with
  | none => simp at h
  | some v => simp only [Option.bind_some] at h; exact .ret h
theorem cond_some {α : Type} {c : Bool} {x : Option α} {f : α} (h : cond c x none = some f) : x = some f := by
  cases c <;> simp at h; exact h
theorem cond_none {α : Type} {c : Bool} {x : Option α} {f : α} (h : cond c none x = some f) : x = some f := by
  cases c <;> simp at h; exact h

theorem eff_ok {op : Op} {ρ : Operand → Value} {g : Nat → Option Blk} {nx : Nat} {f : Eff} (he : eff P op ρ g nx = some f) : EffOk g f := by
  cases op <;> simp only [eff, reduceCtorEq] at he
  case move x => exact .ret he
  case assign x => exact .ret he
  case pick c a b => unfold effPick at he; split at he <;> first | exact .ret he | simp at he
  case alloc e => unfold effAlloc at he; split at he <;> first | (simp at he; done) | (cases he; exact .inl rfl)
  case box t x => unfold effBox at he; split at he <;> first | (simp at he; done) | (cases he; exact .inl rfl)
  case build t ps =>
    exact .bind he
  case buildSlice t n ps => unfold effBuildSlice at he; (repeat' split at he) <;> first | (simp at he; done) | (cases he; exact .inl rfl)
  case insert t mp k x => unfold effUpdate at he; (repeat' split at he) <;> first | (simp at he; done) | (cases he; exact .inr ⟨_, _, rfl, by simp_all⟩)
  case mapUpdate t mp k x => unfold effUpdate at he; (repeat' split at he) <;> first | (simp at he; done) | (cases he; exact .inr ⟨_, _, rfl, by simp_all⟩)
  case load t a =>
    unfold effLoad at he
    split at he <;> try (simp at he; done)
    split at he <;> try (simp at he; done)
    split at he <;> try (simp at he; done)
    rename_i d _
    cases ha : aggB (some d) <;> rw [ha] at he <;> simp only [cond_true, cond_false] at he
    · have he := cond_some he
      split at he <;> first | exact .ret he | simp at he
    · split at he <;> try (simp at he; done)
      exact .ret (cond_some he)
  case store t a x =>
    unfold effStore at he
    split at he <;> try (simp at he; done)
    split at he <;> try (simp at he; done)
    rename_i hg
    split at he <;> try (simp at he; done)
    split at he <;> try (simp at he; done)
    have he := cond_some (cond_some he)
    cases he
    exact .inr ⟨_, _, rfl, by rw [hg]; simp⟩
  case nilCheck x =>
    unfold effNil at he
    split at he <;> first | exact .ret he | skip
    · split at he <;> try (simp at he; done)
      split at he <;> try (simp at he; done)
      split at he <;> try (simp at he; done)
      split at he <;> try (simp at he; done)
      split at he <;> first | exact .ret he | simp at he
    · simp at he
  case binOp bo t x y yt =>
    unfold effBin at he
    split at he
    · split at he
      · exact .bind he
      · exact .bind he
      · exact .bind (cond_some he)
    · exact .bind he
    · split at he <;> first | exact .ret he | simp at he
    · split at he
      · split at he <;> first | exact .ret he | simp at he
      · split at he <;> try (simp at he; done)
        split at he <;> try (simp at he; done)
        split at he <;> first | exact .ret he | simp at he
    · rename_i i j _ _
      cases hij : Nat.beq i j with
      | true =>
        rw [hij] at he
        simp only [cond_true] at he
        split at he <;> first | exact .ret he | simp at he
      | false =>
        rw [hij] at he
        exact .bind he
    · exact .bind he
    · exact .bind he
    · split at he <;> try (simp at he; done)
      · exact .bind he
      · exact .bind he
  case unOp uo t x =>
    unfold effUn at he
    split at he <;> try (simp at he; done)
    · split at he <;> first | exact .ret he | simp at he
    · split at he <;> first | exact .ret he | simp at he
    · split at he <;> try (simp at he; done)
      exact .bind he
  case convert s d x =>
    unfold effConv at he
    split at he <;> try (simp at he; done)
    · split at he <;> first | exact .ret he | simp at he
    · split at he <;> first | exact .bind he | simp at he
    · split at he <;> first
        | exact .ret he
        | (simp at he; done)
        | (split at he <;> first | (simp at he; done) | (cases he; exact .inl rfl))
    · split at he <;> try (simp at he; done)
      split at he <;> try (simp at he; done)
      split at he <;> try (simp at he; done)
      · exact .ret he
      · exact .bind he
  case sliceToArrayPointer t x => unfold effArrPtr at he; (repeat' split at he) <;> first | (simp at he; done) | exact .ret he
  case makeInterface t x => unfold effIface at he; (repeat' split at he) <;> first | (simp at he; done) | exact .ret he
  case makeFunc fn a b => unfold effFunc at he; exact .ret he
  case makeMap t r => unfold effMakeMap at he; (repeat' split at he) <;> first | (simp at he; done) | (cases he; exact .inl rfl)
  case makeSlice t l c =>
    unfold effMakeSlice at he
    (repeat' split at he) <;> try (simp at he; done)
    have he := cond_some he
    cases he; exact .inl rfl
  case slice t x lo hi mx => unfold effSlice at he; (repeat' split at he) <;> first | (simp at he; done) | exact .ret he
  case fieldAddr t x i =>
    unfold effField at he
    (repeat' split at he) <;> try (simp at he; done)
    exact .ret (cond_none he)
  case field t x i =>
    unfold effFieldV at he
    (repeat' split at he) <;> try (simp at he; done)
    exact .bind he
  case indexAddr t x i => unfold effIdx at he; (repeat' split at he) <;> first | (simp at he; done) | exact .ret he
  case index t x i =>
    unfold effIndex at he
    (repeat' split at he) <;> try (simp at he; done)
    · exact .bind he
    · exact .ret he
  case lookup t x k ok => unfold effLookup at he; (repeat' split at he) <;> first | (simp at he; done) | exact .ret he
  case range t x => unfold effRange at he; (repeat' split at he) <;> first | (simp at he; done) | (cases he; exact .inl rfl)
  case next it b =>
    unfold effNext effNextS at he
    (repeat' split at he) <;> first
      | (simp at he; done)
      | exact .ret he
      | (cases he; exact .inr ⟨_, _, rfl, by simp_all⟩)
  case typeAssert x t a ok =>
    unfold effAssert effAssert.fails at he
    (repeat' split at he) <;> first | (simp at he; done) | exact .ret he
  case extract t i => unfold effExtract at he; (repeat' split at he) <;> first | (simp at he; done) | exact .ret he
  case call c =>
    unfold effCall at he
    split at he <;> try (simp at he; done)
    rename_i b _
    cases b <;> simp only [builtinEff, reduceCtorEq] at he
    case append =>
      split at he <;> try (simp at he; done)
      unfold aAppend at he
      (repeat' split at he) <;> first
        | (simp at he; done)
        | exact .ret he
        | (cases he; exact .inl rfl)
        | (cases he; exact .inr ⟨_, _, rfl, by simp_all⟩)
    case copy =>
      split at he <;> try (simp at he; done)
      unfold aCopy at he
      (repeat' split at he) <;> first
        | (simp at he; done)
        | exact .ret he
        | (cases he; exact .inr ⟨_, _, rfl, by simp_all⟩)
    case clear =>
      split at he <;> try (simp at he; done)
      unfold aClear at he
      (repeat' split at he) <;> first
        | (simp at he; done)
        | exact .ret he
        | (cases he; exact .inr ⟨_, _, rfl, by simp_all⟩)
    case delete =>
      split at he <;> try (simp at he; done)
      unfold aDelete at he
      (repeat' split at he) <;> first
        | (simp at he; done)
        | exact .ret he
        | (cases he; exact .inr ⟨_, _, rfl, by simp_all⟩)
    case len =>
      split at he <;> try (simp at he; done)
      unfold aLen at he
      (repeat' split at he) <;> first | (simp at he; done) | exact .ret he
    case min => split at he <;> first | exact .ret he | exact .bind he
    case max => split at he <;> first | exact .ret he | exact .bind he
/-- nothing is written, nothing is new. -/
def Quiet (f : Eff) : Prop := f.wr = [] ∧ f.nw = []
theorem Quiet.ret {v : Value} {f : Eff} (h : AM.ret v = some f) : Quiet f := by
  simp only [AM.ret, Option.some.injEq] at h; subst h; exact ⟨rfl, rfl⟩
theorem Quiet.bind {α : Type} {o : Option α} {V : α → Value} {f : Eff} (h : (o.bind fun v => AM.ret (V v)) = some f) : Quiet f := by
  cases o with
  | none => simp at h
  | some v => simp only [Option.bind_some] at h; exact Quiet.ret h
theorem eff_quiet {op : Op} {ρ : Operand → Value} {g : Nat → Option Blk} {nx : Nat} {f : Eff} (hc : opCls op < 2) (he : eff P op ρ g nx = some f) : Quiet f := by
  cases op <;> simp only [eff, reduceCtorEq] at he <;> try (simp [opCls] at hc; done)
  case move x => exact Quiet.ret he
  case assign x => exact Quiet.ret he
  case pick c a b => unfold effPick at he; split at he <;> first | exact Quiet.ret he | simp at he
  case load t a =>
    unfold effLoad at he
    split at he <;> try (simp at he; done)
    split at he <;> try (simp at he; done)
    split at he <;> try (simp at he; done)
    rename_i d _
    cases ha : aggB (some d) <;> rw [ha] at he <;> simp only [cond_true, cond_false] at he
    · have he := cond_some he
      split at he <;> first | exact Quiet.ret he | simp at he
    · split at he <;> try (simp at he; done)
      exact Quiet.ret (cond_some he)
  case nilCheck x =>
    unfold effNil at he
    split at he <;> first | exact Quiet.ret he | skip
    · split at he <;> try (simp at he; done)
      split at he <;> try (simp at he; done)
      split at he <;> try (simp at he; done)
      split at he <;> try (simp at he; done)
      split at he <;> first | exact Quiet.ret he | simp at he
    · simp at he
  case binOp bo t x y yt =>
    unfold effBin at he
    split at he
    · split at he
      · exact Quiet.bind he
      · exact Quiet.bind he
      · exact Quiet.bind (cond_some he)
    · exact Quiet.bind he
    · split at he <;> first | exact Quiet.ret he | simp at he
    · split at he
      · split at he <;> first | exact Quiet.ret he | simp at he
      · split at he <;> try (simp at he; done)
        split at he <;> try (simp at he; done)
        split at he <;> first | exact Quiet.ret he | simp at he
    · rename_i i j _ _
      cases hij : Nat.beq i j with
      | true =>
        rw [hij] at he
        simp only [cond_true] at he
        split at he <;> first | exact Quiet.ret he | simp at he
      | false =>
        rw [hij] at he
        exact Quiet.bind he
    · exact Quiet.bind he
    · exact Quiet.bind he
    · split at he <;> try (simp at he; done)
      · exact Quiet.bind he
      · exact Quiet.bind he
  case unOp uo t x =>
    unfold effUn at he
    split at he <;> try (simp at he; done)
    · split at he <;> first | exact Quiet.ret he | simp at he
    · split at he <;> first | exact Quiet.ret he | simp at he
    · split at he <;> try (simp at he; done)
      exact Quiet.bind he
  case makeInterface t x => unfold effIface at he; (repeat' split at he) <;> first | (simp at he; done) | exact Quiet.ret he
  case makeFunc fn a b => unfold effFunc at he; exact Quiet.ret he
  case fieldAddr t x i =>
    unfold effField at he
    (repeat' split at he) <;> try (simp at he; done)
    exact Quiet.ret (cond_none he)
  case field t x i =>
    unfold effFieldV at he
    (repeat' split at he) <;> try (simp at he; done)
    exact Quiet.bind he
  case indexAddr t x i => unfold effIdx at he; (repeat' split at he) <;> first | (simp at he; done) | exact Quiet.ret he
  case index t x i =>
    unfold effIndex at he
    (repeat' split at he) <;> try (simp at he; done)
    · exact Quiet.bind he
    · exact Quiet.ret he
  case lookup t x k ok => unfold effLookup at he; (repeat' split at he) <;> first | (simp at he; done) | exact Quiet.ret he
  case extract t i => unfold effExtract at he; (repeat' split at he) <;> first | (simp at he; done) | exact Quiet.ret he
theorem foot_nil {op : Op} {ρ : Operand → Value} (hc : opCls op = 0) : foot op ρ = [] := by
  cases op <;> first | rfl | (simp [opCls] at hc)
end Go.AM
