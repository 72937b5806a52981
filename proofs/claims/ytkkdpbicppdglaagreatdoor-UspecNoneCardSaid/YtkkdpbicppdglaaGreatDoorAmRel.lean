/- How an abstract heap stands for the model's. -/
import Derived.Test.YtkkdpbicppdglaaGreatDoorAmTrie
import Derived.Laws.Sem
import Derived.Laws.World
import Derived.Calls
namespace Go.AM

/-- Where a block is: the model's block; where it begins there; an element's cells; how many cells are known; how many there are; may it be written? -/
structure Loc where
  cb : Nat
  sh : Nat
  esz : Nat
  asz : Nat
  csz : Nat
  rw : Bool
inductive Stat where
  | fresh | dead
  | live (l : Loc)
  | sym (k : IntKind) (n : Int)
abbrev Mp := Nat → Stat

/-- capacities: the same; or both reach to the end. -/
def SRel (l : Loc) (off cap cap' : Nat) : Prop :=
  cap' = cap ∨ (off + cap * l.esz = l.asz ∧ l.sh + off + cap' * l.esz = l.csz ∧ 0 < l.esz ∧ cap ≤ cap')

mutual
inductive VRel (m : Mp) : Value → Value → Prop
  | bool (b : Bool) : VRel m (.bool b) (.bool b)
  | int (k : IntKind) (n : Int) : VRel m (.int k n) (.int k n)
  | string (s : ByteArray) : VRel m (.string s) (.string s)
  | ptrNil : VRel m (.pointer none) (.pointer none)
  | ptr (b off : Nat) (l : Loc) (h : m b = .live l) : VRel m (.pointer (some ⟨b, off, none⟩)) (.pointer (some ⟨l.cb, l.sh + off, none⟩))
  | ptrDead (a a' : Addr) (h : m a.block = .dead) : VRel m (.pointer (some a)) (.pointer (some a'))
  | sliceNil (n c : Nat) : VRel m (.slice none n c) (.slice none n c)
  | slice (b off len cap cap' : Nat) (l : Loc) (h : m b = .live l) (hs : SRel l off cap cap') : VRel m (.slice (some ⟨b, off, none⟩) len cap) (.slice (some ⟨l.cb, l.sh + off, none⟩) len cap')
  | sliceEnd (b off : Nat) (a' : Addr) (l : Loc) (h : m b = .live l) (ho : off = l.asz) : VRel m (.slice (some ⟨b, off, none⟩) 0 0) (.slice (some a') 0 0)
  | sliceDead (a a' : Addr) (len cap cap' : Nat) (h : m a.block = .dead) : VRel m (.slice (some a) len cap) (.slice (some a') len cap')
  | mapNil : VRel m (.map none) (.map none)
  | map (r : Nat) (l : Loc) (h : m r = .live l) : VRel m (.map (some r)) (.map (some l.cb))
  | mapDead (r r' : Nat) (h : m r = .dead) : VRel m (.map (some r)) (.map (some r'))
  | func (f : Fn) (a b a' b' : Array Value) (ha : VRels m a.toList a'.toList) (hb : VRels m b.toList b'.toList) : VRel m (.func f a b) (.func f a' b')
  | nilFunc : VRel m .nilFunc .nilFunc
  | nilIface : VRel m .nilIface .nilIface
  | iface (t : TypeId) (v v' : Value) (h : VRel m v v') : VRel m (.iface t v) (.iface t v')
  | agg (c c' : Array Value) (h1 : c.toList.all Value.oneCell' = true) (h : VRels m c.toList c'.toList) : VRel m (.agg c) (.agg c')
  | tuple (c c' : Array Value) (h : VRels m c.toList c'.toList) : VRel m (.tuple c) (.tuple c')
  | any (v' : Value) (h1 : v'.oneCell' = true) : VRel m (.chan none) v'
  | sym (i : Nat) (k : IntKind) (n : Int) (h : m i = .sym k n) : VRel m (.chan (some i)) (.int k n)
  | top (v' : Value) : VRel m (.tuple #[.tuple #[]]) v'
inductive VRels (m : Mp) : List Value → List Value → Prop
  | nil : VRels m [] []
  | cons (v v' : Value) (r r' : List Value) (h : VRel m v v') (t : VRels m r r') : VRels m (v :: r) (v' :: r')
end

/-- Later: what was there is there, or dead. -/
def Ext (m m' : Mp) : Prop := ∀ b, m b = .fresh ∨ m' b = m b ∨ (m' b = .dead ∧ (∀ l, m b = .live l → l.rw = true) ∧ ∀ k n, m b ≠ .sym k n)

theorem Ext.refl (m : Mp) : Ext m m := fun _ => .inr (.inl rfl)
theorem Ext.trans {m m' m'' : Mp} (h : Ext m m') (h' : Ext m' m'') : Ext m m'' := by
  intro b
  rcases h b with h1 | h1 | ⟨h1, h2⟩
  · exact .inl h1
  · rcases h' b with g1 | g1 | ⟨g1, g2⟩
    · exact .inl (h1 ▸ g1)
    · exact .inr (.inl (g1.trans h1))
    · exact .inr (.inr ⟨g1, fun l hl => g2.1 l (h1.trans hl), fun k n hs => g2.2 k n (h1.trans hs)⟩)
  · rcases h' b with g1 | g1 | ⟨g1, g2⟩
    · rw [h1] at g1; cases g1
    · exact .inr (.inr ⟨g1.trans h1, h2⟩)
    · exact .inr (.inr ⟨g1, h2⟩)
theorem Ext.live {m m' : Mp} (h : Ext m m') {b : Nat} {l : Loc} (hb : m b = .live l) : m' b = .live l ∨ (m' b = .dead ∧ l.rw = true) := by
  rcases h b with h1 | h1 | ⟨h1, h2⟩
  · rw [h1] at hb; cases hb
  · exact .inl (h1.trans hb)
  · exact .inr ⟨h1, h2.1 l hb⟩
theorem Ext.sym {m m' : Mp} (h : Ext m m') {b : Nat} {k : IntKind} {n : Int} (hb : m b = .sym k n) : m' b = .sym k n := by
  rcases h b with h1 | h1 | ⟨_, h2⟩
  · rw [h1] at hb; cases hb
  · exact h1.trans hb
  · exact absurd hb (h2.2 k n)
theorem Ext.dead {m m' : Mp} (h : Ext m m') {b : Nat} (hb : m b = .dead) : m' b = .dead := by
  rcases h b with h1 | h1 | ⟨h1, _⟩
  · rw [h1] at hb; cases hb
  · exact h1.trans hb
  · exact h1
theorem Ext.ro {m m' : Mp} (h : Ext m m') {b : Nat} {l : Loc} (hb : m b = .live l) (hr : l.rw = false) : m' b = .live l := by
  rcases h.live hb with h1 | ⟨_, h2⟩
  · exact h1
  · rw [hr] at h2; cases h2

mutual
theorem VRel.mono {m m' : Mp} (e : Ext m m') : ∀ {v v' : Value}, VRel m v v' → VRel m' v v'
  | _, _, .bool b => .bool b
  | _, _, .int k n => .int k n
  | _, _, .string s => .string s
  | _, _, .ptrNil => .ptrNil
  | _, _, .ptr b off l h => by
    rcases e.live h with h1 | ⟨h1, _⟩
    · exact .ptr b off l h1
    · exact .ptrDead _ _ h1
  | _, _, .ptrDead a a' h => .ptrDead a a' (e.dead h)
  | _, _, .sliceNil n c => .sliceNil n c
  | _, _, .slice b off len cap cap' l h hs => by
    rcases e.live h with h1 | ⟨h1, _⟩
    · exact .slice b off len cap cap' l h1 hs
    · exact .sliceDead _ _ _ _ _ h1
  | _, _, .sliceEnd b off a' l h ho => by
    rcases e.live h with h1 | ⟨h1, _⟩
    · exact .sliceEnd b off a' l h1 ho
    · exact .sliceDead _ _ _ _ _ h1
  | _, _, .sliceDead a a' len cap cap' h => .sliceDead a a' len cap cap' (e.dead h)
  | _, _, .mapNil => .mapNil
  | _, _, .map r l h => by
    rcases e.live h with h1 | ⟨h1, _⟩
    · exact .map r l h1
    · exact .mapDead _ _ h1
  | _, _, .mapDead r r' h => .mapDead r r' (e.dead h)
  | _, _, .func f a b a' b' ha hb => .func f a b a' b' (VRels.mono e ha) (VRels.mono e hb)
  | _, _, .nilFunc => .nilFunc
  | _, _, .nilIface => .nilIface
  | _, _, .iface t v v' h => .iface t v v' (VRel.mono e h)
  | _, _, .agg c c' h1 h => .agg c c' h1 (VRels.mono e h)
  | _, _, .tuple c c' h => .tuple c c' (VRels.mono e h)
  | _, _, .any v' h1 => .any v' h1
  | _, _, .sym i k n h => .sym i k n (e.sym h)
  | _, _, .top v' => .top v'
theorem VRels.mono {m m' : Mp} (e : Ext m m') : ∀ {l l' : List Value}, VRels m l l' → VRels m' l l'
  | _, _, .nil => .nil
  | _, _, .cons v v' r r' h t => .cons v v' r r' (VRel.mono e h) (VRels.mono e t)
end

theorem VRels.length {m : Mp} {l l' : List Value} (h : VRels m l l') : l'.length = l.length := by
  induction l generalizing l' with
  | nil => cases h; rfl
  | cons v r ih => cases h with | cons _ _ _ _ h t => simp [ih t]
theorem VRels.get {m : Mp} {l l' : List Value} (h : VRels m l l') {i : Nat} {v : Value} (hv : l[i]? = some v) : ∃ v', l'[i]? = some v' ∧ VRel m v v' := by
  induction l generalizing l' i with
  | nil => simp at hv
  | cons x r ih =>
    cases h with
    | cons _ x' _ r' h t =>
      cases i with
      | zero => simp at hv; subst hv; exact ⟨x', by simp, h⟩
      | succ i => simp at hv ⊢; exact ih t hv
theorem VRels.of_get {m : Mp} {l l' : List Value} (hl : l'.length = l.length) (h : ∀ (i : Nat) (v v' : Value), l[i]? = some v → l'[i]? = some v' → VRel m v v') : VRels m l l' := by
  induction l generalizing l' with
  | nil => cases l' with
    | nil => exact .nil
    | cons => simp at hl
  | cons x r ih => cases l' with
    | nil => simp at hl
    | cons x' r' => exact .cons _ _ _ _ (h 0 x x' (by simp) (by simp)) (ih (by simpa using hl) fun i v v' h1 h2 => h (i + 1) v v' (by simpa using h1) (by simpa using h2))
theorem VRels.append {m : Mp} {a a' b b' : List Value} (h : VRels m a a') (h' : VRels m b b') : VRels m (a ++ b) (a' ++ b') := by
  induction a generalizing a' with
  | nil => cases h; exact h'
  | cons v r ih => cases h with | cons _ _ _ _ h t => exact .cons _ _ _ _ h (ih t)
theorem VRels.take {m : Mp} {a a' : List Value} (h : VRels m a a') (n : Nat) : VRels m (a.take n) (a'.take n) := by
  induction n generalizing a a' with
  | zero => simpa using VRels.nil
  | succ n ih => cases h with
    | nil => simpa using VRels.nil
    | cons v v' r r' h t => simpa using VRels.cons _ _ _ _ h (ih t)
theorem VRels.drop {m : Mp} {a a' : List Value} (h : VRels m a a') (n : Nat) : VRels m (a.drop n) (a'.drop n) := by
  induction n generalizing a a' with
  | zero => simpa using h
  | succ n ih => cases h with
    | nil => simpa using VRels.nil
    | cons v v' r r' h t => simpa using ih t
theorem VRel.oneCell {m : Mp} {v v' : Value} (h : VRel m v v') (h1 : v.oneCell' = true) : v'.oneCell' = true := by cases h <;> first | (exact absurd h1 (by decide)) | rfl | assumption | exact h1

/-- what is plain stands for itself, wherever. -/
theorem plainCell_rel {m : Mp} {v : Value} (h : plainCell v = true) : VRel m v v ∧ v.oneCell' = true := by
  cases v with
  | bool b => exact ⟨.bool b, rfl⟩
  | int k n => exact ⟨.int k n, rfl⟩
  | string s => exact ⟨.string s, rfl⟩
  | nilFunc => exact ⟨.nilFunc, rfl⟩
  | nilIface => exact ⟨.nilIface, rfl⟩
  | pointer a => cases a with
    | none => exact ⟨.ptrNil, rfl⟩
    | some a => simp [plainCell] at h
  | map a => cases a with
    | none => exact ⟨.mapNil, rfl⟩
    | some a => simp [plainCell] at h
  | slice a l c => cases a with
    | none => exact ⟨.sliceNil l c, rfl⟩
    | some a => simp [plainCell] at h
  | _ => simp [plainCell] at h
theorem plainCells_rel {m : Mp} {l : List Value} (h : l.all plainCell = true) : VRels m l l := by
  induction l with
  | nil => exact .nil
  | cons v r ih => simp at h; exact .cons _ _ _ _ (plainCell_rel h.1).1 (ih (by simpa using h.2))
theorem plainCells_one {l : List Value} (h : l.all plainCell = true) : l.all Value.oneCell' = true := by
  rw [List.all_eq_true] at *
  exact fun v hv => (plainCell_rel (m := fun _ => .fresh) (h v hv)).2
theorem plainV_rel {m : Mp} {v : Value} (h : plainV v = true) : VRel m v v := by
  cases v with
  | agg c => exact .agg c c (plainCells_one h) (plainCells_rel h)
  | tuple c =>
    have : c.toList = [] := by simpa [plainV] using h
    refine .tuple c c ?_
    rw [this]; exact .nil
  | _ => exact (plainCell_rel (by simpa [plainV] using h)).1
theorem cellsOf_rel {m : Mp} {v v' : Value} {l : List Value} (h : VRel m v v') (hl : cellsOf v = some l) :
    VRels m l v'.cells.toList ∧ l.all Value.oneCell' = true ∧ cellsOf v' = some v'.cells.toList := by
  cases h with
  | agg c c' h1 h => simp [cellsOf] at hl; subst hl; exact ⟨h, h1, rfl⟩
  | tuple c c' h => simp [cellsOf] at hl
  | top v' => simp [cellsOf] at hl
  | any v' h2 =>
    simp only [cellsOf, Option.some.injEq] at hl
    subst hl
    cases v' <;> first | (simp [Value.oneCell'] at h2; done) | exact ⟨.cons _ _ _ _ (.any _ h2) .nil, rfl, rfl⟩
  | _ => simp [cellsOf] at hl; subst hl; exact ⟨.cons _ _ _ _ (by constructor <;> assumption) .nil, rfl, rfl⟩

/- ## Heaps -/
def KRel (l : Loc) (n : Nat) (k : Kind) (fr : Nat × Nat) (el : TypeId) : Prop :=
  match k with
  | .ro => l.rw = false ∧ l.esz = 0
  | .exact => l.rw = true ∧ l.sh = 0 ∧ l.csz = n ∧ fr = (0, 0)
  | .loose e => l.rw = true ∧ fr = (0, 0) ∧ l.esz = e ∧ 0 < e
  | .bytes => l.rw = true ∧ (∀ i, i < l.csz → (decide (fr.1 ≤ i) && decide (i < fr.2)) = false) ∧ l.esz = 1
  | .bld t => l.rw = true ∧ l.sh = 0 ∧ l.csz = n ∧ fr = (0, 0) ∧ el = t
  | .own t => l.rw = true ∧ fr = (0, 0) ∧ l.esz = 1 ∧ el = t ∧ l.sh = 0
def CellAt (m : Mp) (xs : Trie Value) (c : Array Value) (sh i : Nat) : Prop :=
  ∃ v v', xs.get i = some v ∧ c[sh + i]? = some v' ∧ v.oneCell' = true ∧ VRel m v v'
def ERel (m : Mp) : List (Value × Value × Nat) → List MapEntry → Prop
  | [], [] => True
  | x :: r, y :: s => (x.1 = y.key ∧ simpleKey x.1 = true ∧ VRel m x.2.1 y.val ∧ x.2.2 = y.born) ∧ ERel m r s
  | _, _ => False
/-- two ints: what comes of them. -/
def binV (op : BinOp) (k : IntKind) (a : Int) (k' : IntKind) (b : Int) : Option Value := match op with
  | .shl => shiftOp .shl k a b
  | .shr => shiftOp .shr k a b
  | op => cond (Nat.beq (kindN k) (kindN k')) (intOp op k a b) none
/-- the int that stands behind a value. -/
def IsInt (m : Mp) (o : Value) (k : IntKind) (b : Int) : Prop := o = .int k b ∨ ∃ j, o = .chan (some j) ∧ m j = .sym k b
def Fact.holds (m : Mp) (k : IntKind) (n : Int) : Fact → Prop
  | .bin op o res => ∀ k' b, IsInt m o k' b → ∃ v, binV op k n k' b = some v ∧ VRel m res v
  | .nib op o res => ∀ k' b, IsInt m o k' b → ∃ v, binV op k' b k n = some v ∧ VRel m res v
  | .conv k' res => VRel m res (.int k' (k'.wrap n))
  | .mm mn k' b res => k' = k ∧ VRel m res (.int k (if mn then (if b < n then b else n) else (if b > n then b else n)))
theorem Fact.mono {m m' : Mp} (e : Ext m m') {k : IntKind} {n : Int} : ∀ {f : Fact}, (∀ op o res, (f = .bin op o res ∨ f = .nib op o res) → ∃ k' b, IsInt m o k' b) → f.holds m k n → f.holds m' k n := by
  have key : ∀ o, (∃ k' b, IsInt m o k' b) → ∀ k' b, IsInt m' o k' b → IsInt m o k' b := by
    rintro o ⟨k1, b1, h1⟩ k' b h
    rcases h1 with rfl | ⟨j, rfl, hj⟩
    · rcases h with h | ⟨j, h, _⟩
      · cases h; exact .inl rfl
      · cases h
    · rcases h with h | ⟨j', h, hj'⟩
      · cases h
      · cases h
        rw [e.sym hj] at hj'
        cases hj'
        exact .inr ⟨j, rfl, hj⟩
  intro f hf h
  cases f with
  | bin op o res => exact fun k' b hb => let ⟨v, h1, h2⟩ := h k' b (key o (hf op o res (.inl rfl)) k' b hb); ⟨v, h1, h2.mono e⟩
  | nib op o res => exact fun k' b hb => let ⟨v, h1, h2⟩ := h k' b (key o (hf op o res (.inr rfl)) k' b hb); ⟨v, h1, h2.mono e⟩
  | conv k' res => exact VRel.mono e h
  | mm mn k' b res => exact ⟨h.1, VRel.mono e h.2⟩
/-- .. of an int that is there. -/
def Fact.ok (m : Mp) (k : IntKind) (n : Int) (f : Fact) : Prop := f.holds m k n ∧ ∀ op o res, (f = .bin op o res ∨ f = .nib op o res) → ∃ k' b, IsInt m o k' b
theorem IsInt.mono {m m' : Mp} (e : Ext m m') {o : Value} {k : IntKind} {b : Int} (h : IsInt m o k b) : IsInt m' o k b := by
  rcases h with h | ⟨j, h, hj⟩
  · exact .inl h
  · exact .inr ⟨j, h, e.sym hj⟩
theorem Fact.ok.mono {m m' : Mp} (e : Ext m m') {k : IntKind} {n : Int} {f : Fact} (h : f.ok m k n) : f.ok m' k n :=
  ⟨Fact.mono e h.2 h.1, fun op o res hf => let ⟨k', b, h1⟩ := h.2 op o res hf; ⟨k', b, h1.mono e⟩⟩
/-- a map that an iterator goes through. -/
def MapAt (m : Mp) (r cbm : Nat) : Prop := m r = .dead ∨ ∃ lr, m r = .live lr ∧ lr.cb = cbm
def BRel (m : Mp) (w : World) : Stat → Option Blk → Prop
  | .fresh, none => True
  | .dead, some .dead => True
  | .sym _ _, some .dead => True
  | .sym k n, some (.tok fs) => ∀ f ∈ fs, f.ok m k n
  | .live l, some (.cells xs n k) => l.asz = n ∧ ∃ c el fr, w.heap[l.cb]? = some (.cells c el fr) ∧ c.size = l.csz ∧ l.sh + n ≤ l.csz ∧ KRel l n k fr el ∧ ∀ i, i < n → CellAt m xs c l.sh i
  | .live l, some (.map es clk) => l.rw = true ∧ ∃ ces, w.heap[l.cb]? = some (.map ces clk) ∧ ERel m es ces.toList
  | .live l, some (.str s pos) => (l.rw = true ∧ l.sh = 0) ∧ w.heap[l.cb]? = some (.stringIter s pos)
  | .live l, some (.iter r since seen cur last) => (l.rw = true ∧ l.sh = 0) ∧ ∃ cbm sa, w.heap[l.cb]? = some (.mapIter (some cbm) since sa last) ∧ MapAt m r cbm ∧ (∀ x, x ∈ sa.toList ↔ x ∈ seen) ∧ ∀ b, cur = some b → sa.back? = some b
  | .live l, some (.look r b last) => (l.rw = false ∧ l.sh = 0) ∧ ∃ cbm since sa, w.heap[l.cb]? = some (.mapIter (some cbm) since sa last) ∧ MapAt m r cbm ∧ sa.back? = some b
  | _, _ => False

/-- a row of cells that is read alone (two such may be one). -/
def roB : Option Blk → Bool
  | some (.cells _ _ .ro) => true
  | _ => false
structure HRel (m : Mp) (G : Nat → Option Blk) (w : World) : Prop where
  blk : ∀ b, BRel m w (m b) (G b)
  inj : ∀ b b' l l', m b = .live l → m b' = .live l' → l.cb = l'.cb → roB (G b) = false → b = b'

theorem ERel.mono {m m' : Mp} (e : Ext m m') : ∀ {a : List (Value × Value × Nat)} {b : List MapEntry}, ERel m a b → ERel m' a b
  | [], [], _ => trivial
  | _ :: _, _ :: _, ⟨⟨h1, h2, h3, h4⟩, h⟩ => ⟨⟨h1, h2, h3.mono e, h4⟩, ERel.mono e h⟩
  | [], _ :: _, h => h.elim
  | _ :: _, [], h => h.elim
theorem MapAt.mono {m m' : Mp} {r cbm : Nat} (e : Ext m m') (h : MapAt m r cbm) : MapAt m' r cbm := by
  rcases h with h | ⟨lr, h1, h2⟩
  · exact .inl (e.dead h)
  · rcases e.live h1 with h3 | ⟨h3, _⟩
    · exact .inr ⟨lr, h3, h2⟩
    · exact .inl h3
theorem BRel.mono {m m' : Mp} {w w' : World} {s : Stat} {x : Option Blk} (e : Ext m m') (hw : ∀ l, s = .live l → w'.heap[l.cb]? = w.heap[l.cb]?) (h : BRel m w s x) : BRel m' w' s x := by
  cases s with
  | fresh => cases x with
    | none => trivial
    | some x => exact h.elim
  | dead => cases x with
    | none => exact h.elim
    | some x => cases x <;> first | trivial | exact h.elim
  | sym k n => cases x with
    | none => exact h.elim
    | some x => cases x <;> first | trivial | exact h.elim | exact fun f hf => (h f hf).mono e
  | live l =>
    have hw := hw l rfl
    cases x with
    | none => exact h.elim
    | some x => cases x with
      | cells xs n k =>
        obtain ⟨h0, c, el, fr, h1, h2, h3, h4, h5⟩ := h
        exact ⟨h0, c, el, fr, hw.trans h1, h2, h3, h4, fun i hi => let ⟨v, v', a1, a2, a3, a4⟩ := h5 i hi; ⟨v, v', a1, a2, a3, a4.mono e⟩⟩
      | map es clk =>
        obtain ⟨h0, ces, h1, h2⟩ := h
        exact ⟨h0, ces, hw.trans h1, h2.mono e⟩
      | str s pos => exact ⟨h.1, hw.trans h.2⟩
      | iter r since seen cur last =>
        obtain ⟨h0, cbm, sa, h1, h2, h3⟩ := h
        exact ⟨h0, cbm, sa, hw.trans h1, h2.mono e, h3⟩
      | look r b last =>
        obtain ⟨h0, cbm, since, sa, h1, h2, h3⟩ := h
        exact ⟨h0, cbm, since, sa, hw.trans h1, h2.mono e, h3⟩
      | tok fs => exact h.elim
      | dead => exact h.elim

/-- What is below N is the heap's, what is above is another's. -/
noncomputable def mix (h : Heap) (N : Nat) (F : Nat → Option Blk) : Nat → Option Blk := fun b => if b < N then h.get b else F b

/-- From one state to a later one: old memory that isn't to be written stays. -/
structure Step (m : Mp) (w : World) (m' : Mp) (w' : World) : Prop where
  ext : Ext m m'
  size : w.heap.size ≤ w'.heap.size
  os : w'.os = w.os
  out : w'.output = w.output
  keep : ∀ cb, cb < w.heap.size → (∀ b l, m b = .live l → l.rw = true → l.cb ≠ cb) → w'.heap[cb]? = w.heap[cb]?
  new : ∀ b l, m' b = .live l → l.rw = true → w.heap.size ≤ l.cb ∨ ∃ b0 l0, m b0 = .live l0 ∧ l0.rw = true ∧ l0.cb = l.cb
  old : ∀ b l, m' b = .live l → l.rw = false → m b = .live l

theorem Step.refl (m : Mp) (w : World) : Step m w m w :=
  ⟨.refl m, Nat.le_refl _, rfl, rfl, fun _ _ _ => rfl, fun b l h hr => .inr ⟨b, l, h, hr, rfl⟩, fun _ _ h _ => h⟩
theorem Step.drew {m : Mp} {w : World} {d : Nat} : Step m w m { w with drawn := d } :=
  ⟨.refl m, Nat.le_refl _, rfl, rfl, fun _ _ _ => rfl, fun b l h hr => .inr ⟨b, l, h, hr, rfl⟩, fun _ _ h _ => h⟩
theorem Step.trans {m m' m'' : Mp} {w w' w'' : World} (h : Step m w m' w') (g : Step m' w' m'' w'') : Step m w m'' w'' where
  ext := h.ext.trans g.ext
  size := Nat.le_trans h.size g.size
  os := g.os.trans h.os
  out := g.out.trans h.out
  keep := fun cb hc hn => by
    refine (g.keep cb (Nat.lt_of_lt_of_le hc h.size) ?_).trans (h.keep cb hc hn)
    intro b l hb hr e
    rcases h.new b l hb hr with h1 | ⟨b0, l0, h1, h2, h3⟩
    · omega
    · exact hn b0 l0 h1 h2 (h3.trans e)
  new := fun b l hb hr => by
    rcases g.new b l hb hr with h1 | ⟨b0, l0, h1, h2, h3⟩
    · exact .inl (Nat.le_trans h.size h1)
    · rcases h.new b0 l0 h1 h2 with k1 | ⟨b1, l1, k1, k2, k3⟩
      · exact .inl (h3 ▸ k1)
      · exact .inr ⟨b1, l1, k1, k2, k3.trans h3⟩
  old := fun b l hb hr => h.old b l (g.old b l hb hr) hr

def HWf (h : Heap) : Prop := ∀ b, h.nx ≤ b → h.get b = none

theorem HRel.drew {m : Mp} {G : Nat → Option Blk} {w : World} (h : HRel m G w) (d : Nat) : HRel m G { w with drawn := d } :=
  ⟨fun b => (h.blk b).mono (.refl m) (fun _ _ => rfl), h.inj⟩

theorem BRel.lt {m : Mp} {w : World} {l : Loc} {x : Option Blk} (h : BRel m w (.live l) x) : l.cb < w.heap.size := by
  rcases Nat.lt_or_ge l.cb w.heap.size with h' | h'
  · exact h'
  · have hn : w.heap[l.cb]? = none := Array.getElem?_eq_none h'
    cases x with
    | none => exact h.elim
    | some x => cases x with
      | cells xs n k => obtain ⟨_, c, el, fr, h1, _⟩ := h; rw [hn] at h1; cases h1
      | map es clk => obtain ⟨_, ces, h1, _⟩ := h; rw [hn] at h1; cases h1
      | str s pos => have h2 := h.2; rw [hn] at h2; cases h2
      | iter r since seen cur last => obtain ⟨_, cbm, sa, h1, _⟩ := h; rw [hn] at h1; cases h1
      | look r b last => obtain ⟨_, cbm, since, sa, h1, _⟩ := h; rw [hn] at h1; cases h1
      | tok fs => exact h.elim
      | dead => exact h.elim
theorem HRel.lt {m : Mp} {G : Nat → Option Blk} {w : World} (h : HRel m G w) {b : Nat} {l : Loc} (hb : m b = .live l) : l.cb < w.heap.size := by
  have := h.blk b; rw [hb] at this; exact this.lt

theorem roB_rw {m : Mp} {w : World} {l : Loc} {x : Option Blk} (h : BRel m w (.live l) x) (hrw : l.rw = true) : roB x = false := by
  cases x with
  | none => rfl
  | some x =>
    cases x with
    | cells xs n k =>
      cases k with
      | ro =>
        obtain ⟨_, c, el, fr, _, _, _, hk, _⟩ := h
        have hk : l.rw = false ∧ l.esz = 0 := hk
        rw [hk.1] at hrw; cases hrw
      | _ => rfl
    | _ => rfl
theorem roB_obj {m : Mp} {w : World} {l : Loc} {x : Option Blk} (h : BRel m w (.live l) x) (ho : ∀ c el fr, w.heap[l.cb]? ≠ some (.cells c el fr)) : roB x = false := by
  cases x with
  | none => rfl
  | some x =>
    cases x with
    | cells xs n k =>
      obtain ⟨_, c, el, fr, h1, _⟩ := h
      exact absurd h1 (ho c el fr)
    | _ => rfl
/-- A block that is live is changed in place. -/
theorem HRel.upd {m : Mp} {G : Nat → Option Blk} {w w' : World} (h : HRel m G w) {b : Nat} {l : Loc} (hb : m b = .live l) (hrw : l.rw = true) {x : Blk}
    (hsz : w'.heap.size = w.heap.size) (hos : w'.os = w.os) (hout : w'.output = w.output) (hoth : ∀ cb, cb ≠ l.cb → w'.heap[cb]? = w.heap[cb]?)
    (hx : BRel m w' (.live l) (some x)) : HRel m (fun b' => if b' = b then some x else G b') w' ∧ Step m w m w' := by
  have hro : roB (G b) = false := roB_rw (hb ▸ h.blk b) hrw
  refine ⟨⟨fun b' => ?_, fun b1 b2 l1 l2 h1 h2 e hr => ?_⟩, ?_⟩
  · by_cases e : b' = b
    · subst e; simp only [if_true]; rw [hb]; exact hx
    · simp only [if_neg e]
      refine (h.blk b').mono (.refl m) ?_
      intro l' hl'
      refine hoth _ ?_
      intro e'
      exact e (h.inj b b' l l' hb hl' e'.symm hro).symm
  · refine h.inj b1 b2 l1 l2 h1 h2 e ?_
    by_cases e1 : b1 = b
    · rw [e1]; exact hro
    · simpa only [if_neg e1] using hr
  · exact ⟨.refl m, Nat.le_of_eq hsz.symm, hos, hout, fun cb _ hn => hoth cb (fun e => hn b l hb hrw e.symm), fun b l h hr => .inr ⟨b, l, h, hr, rfl⟩, fun _ _ h _ => h⟩

/-- A new block. -/
theorem HRel.alloc {m : Mp} {G : Nat → Option Blk} {w : World} (h : HRel m G w) {b : Nat} (hb : G b = none) (o : Obj) {l : Loc} (hl : l.cb = w.heap.size) (hrw : l.rw = true) {x : Blk}
    (hx : ∀ m', Ext m m' → m' b = .live l → BRel m' { w with heap := w.heap.push o } (.live l) (some x)) :
    HRel (fun b' => if b' = b then .live l else m b') (fun b' => if b' = b then some x else G b') { w with heap := w.heap.push o } ∧
    Step m w (fun b' => if b' = b then .live l else m b') { w with heap := w.heap.push o } := by
  have hfresh : m b = .fresh := by
    have := h.blk b
    rw [hb] at this
    cases hm : m b with
    | fresh => rfl
    | dead => rw [hm] at this; exact this.elim
    | sym k n => rw [hm] at this; exact this.elim
    | live l => rw [hm] at this; exact this.elim
  have hext : Ext m (fun b' => if b' = b then .live l else m b') := by
    intro b'
    by_cases e : b' = b
    · subst e; exact .inl hfresh
    · exact .inr (.inl (by simp [e]))
  have hold : ∀ cb, cb < w.heap.size → (w.heap.push o)[cb]? = w.heap[cb]? := by
    intro cb hc
    rw [Array.getElem?_push, if_neg (Nat.ne_of_lt hc)]
  refine ⟨⟨fun b' => ?_, ?_⟩, ?_⟩
  · by_cases e : b' = b
    · subst e; simp only [if_true]; exact hx _ hext (by simp)
    · simp only [if_neg e]
      exact (h.blk b').mono hext (fun l' hl' => hold _ (h.lt hl'))
  · intro b1 b2 l1 l2 h1 h2 e hro
    by_cases e1 : b1 = b <;> by_cases e2 : b2 = b
    · exact e1.trans e2.symm
    · simp only [if_pos e1, if_neg e2, Stat.live.injEq] at h1 h2
      have := h.lt h2
      subst h1; omega
    · simp only [if_pos e2, if_neg e1, Stat.live.injEq] at h1 h2
      have := h.lt h1
      subst h2; omega
    · simp only [if_neg e1, if_neg e2] at h1 h2 hro
      exact h.inj b1 b2 l1 l2 h1 h2 e hro
  · refine ⟨hext, by simp, rfl, rfl, fun cb hc _ => hold cb hc, ?_, ?_⟩
    · intro b' l' hl' hr
      by_cases e : b' = b
      · simp only [if_pos e, Stat.live.injEq] at hl'
        subst hl'; exact .inl (Nat.le_of_eq hl.symm)
      · simp only [if_neg e] at hl'
        exact .inr ⟨b', l', hl', hr, rfl⟩
    · intro b' l' hl' hr
      by_cases e : b' = b
      · simp only [if_pos e, Stat.live.injEq] at hl'
        subst hl'; rw [hrw] at hr; cases hr
      · simpa only [if_neg e] using hl'
end Go.AM
