/- The abstract machine: a deterministic big-step reading of the model's code over an abstract heap (no tape, no capacities, no orders). Conditions: what it can't tell it answers with none. -/
import GoSem.Step
import GoSem.Dispatch
import Derived.Orders
namespace Go.AM

/- ## Tries: finite maps from numbers, by recursors, so that the kernel goes quickly -/
inductive Trie (α : Type) where
  | leaf
  | node (v : Option α) (l r : Trie α)

/-- the way to a number's place. -/
inductive Path where
  | e | l (p : Path) | r (p : Path)
noncomputable def pathF (f : Nat) : Nat → Path := Nat.rec (motive := fun _ => Nat → Path) (fun _ => .e)
  (fun _ ih k => Nat.rec (motive := fun _ => Path) .e (fun k _ => Bool.rec (motive := fun _ => Path) (.r (ih (Nat.div k 2))) (.l (ih (Nat.div k 2))) (Nat.beq (Nat.mod k 2) 0)) k) f
/-- (by the number's predecessor: a literal then, so that the kernel finds its ways again) -/
noncomputable def path (k : Nat) : Path := Nat.rec (motive := fun _ => Path) .e (fun n _ => Bool.rec (motive := fun _ => Path) (.r (pathF n (Nat.div n 2))) (.l (pathF n (Nat.div n 2))) (Nat.beq (Nat.mod n 2) 0)) k

namespace Trie
variable {α : Type}
noncomputable def getP (p : Path) : Trie α → Option α := Path.rec (motive := fun _ => Trie α → Option α)
  (fun t => Trie.rec none (fun v _ _ _ _ => v) t) (fun _ ih t => Trie.rec none (fun _ l _ _ _ => ih l) t) (fun _ ih t => Trie.rec none (fun _ _ r _ _ => ih r) t) p
noncomputable def setP (v : α) (p : Path) : Trie α → Trie α := Path.rec (motive := fun _ => Trie α → Trie α)
  (fun t => Trie.rec (.node (some v) .leaf .leaf) (fun _ l r _ _ => .node (some v) l r) t)
  (fun _ ih t => Trie.rec (.node none (ih .leaf) .leaf) (fun o l r _ _ => .node o (ih l) r) t)
  (fun _ ih t => Trie.rec (.node none .leaf (ih .leaf)) (fun o l r _ _ => .node o l (ih r)) t) p
noncomputable def get (t : Trie α) (k : Nat) : Option α := getP (path k) t
noncomputable def set (t : Trie α) (k : Nat) (v : α) : Trie α := setP v (path k) t
end Trie

/- ## The heap -/
/-- A row of cells: read alone; of a size that is known; of a size that may be greater (e: an element's cells); bytes of a text; of a size and a type that are known; one-cell elements of a type that is known, of a size that may be greater. -/
inductive Kind where
  | ro | exact | loose (e : Nat) | bytes | bld (t : Nat) | own (t : Nat)
  deriving DecidableEq

/-- What is known of an int that is not known itself (a token): what comes of it with another, or the other way round, or when it is converted. -/
inductive Fact where
  | bin (op : BinOp) (o res : Value)
  | nib (op : BinOp) (o res : Value)
  | conv (k : IntKind) (res : Value)
  | mm (mn : Bool) (k : IntKind) (b : Int) (res : Value)
inductive Blk where
  | cells (xs : Trie Value) (n : Nat) (k : Kind)
  | map (es : List (Value × Value × Nat)) (clk : Nat)
  | str (s : ByteArray) (pos : Nat)
  | iter (r since : Nat) (seen : List Nat) (cur : Option Nat) (last : Nat)
  | look (r b last : Nat)
  | tok (fs : List Fact)
  | dead

structure Heap where
  t : Trie Blk
  nx : Nat
noncomputable def Heap.get (h : Heap) : Nat → Option Blk := h.t.get

/-- n cells from off on. -/
noncomputable def loadL (xs : Trie Value) (off n : Nat) : List Value :=
  Nat.rec (motive := fun _ => Nat → List Value) (fun _ => []) (fun _ ih off => Option.rec (motive := fun _ => Value) undef (fun v => v) (xs.get off) :: ih (Nat.succ off)) n off
noncomputable def storeL (xs : Trie Value) (off : Nat) (l : List Value) : Trie Value :=
  List.rec (motive := fun _ => Trie Value → Nat → Trie Value) (fun t _ => t) (fun v _ ih t o => ih (t.set o v) (Nat.succ o)) l xs off
noncomputable def ofList (l : List Value) : Trie Value := storeL .leaf 0 l
noncomputable def repeatL (z : List Value) (n : Nat) : List Value :=
  Nat.rec (motive := fun _ => List Value) [] (fun _ ih => z ++ ih) n

/- ## Values -/
/-- Values of one cell that hold no address. -/
def plainCell : Value → Bool
  | .bool _ | .int .. | .string _ | .nilFunc | .nilIface | .pointer none | .map none | .slice none 0 0 => true
  | _ => false
/-- .. and rows of such. -/
def plainV : Value → Bool
  | .agg cs => cs.toList.all plainCell
  | .tuple cs => cs.toList.isEmpty
  | v => plainCell v
/-- A value's cells. -/
def cellsOf : Value → Option (List Value)
  | .agg cs => some cs.toList
  | .tuple _ => none
  | v => some [v]

/-- no tuple. -/
def storable : Value → Bool
  | .tuple _ => false
  | _ => true

def sizeOf? (P : Program) (t : TypeId) : Option Nat := (P.info? t).map (·.size)
def zeroV (P : Program) (t : TypeId) : Option Value := match P.info? t with
  | some i => match i.zero with
    | some z => if plainV z then some z else none
    | none => none
  | none => none
def zeroL (P : Program) (t : TypeId) : Option (List Value) := match zeroV P t with
  | some z => cellsOf z
  | none => none
def aggB : Option TypeDesc → Bool
  | some (.struct _) | some (.array _ _) => true
  | _ => false

/-- What an operation does: its value, blocks that are changed, new blocks. -/
structure Eff where
  val : Value
  wr : List (Nat × Blk)
  nw : List Blk
def ret (v : Value) : Option Eff := some ⟨v, [], []⟩
noncomputable def mkCells (l : List Value) : Blk := .cells (ofList l) l.length .exact
/-- a value at every place (that has a way of fewer than d steps). -/
noncomputable def fullT (v : Value) (d : Nat) : Trie Value := Nat.rec (motive := fun _ => Trie Value) .leaf (fun _ ih => .node (some v) ih ih) d
/-- a row of the same elements. -/
noncomputable def mkRow (z : List Value) (c : Nat) : Blk := cond (Nat.ble c 256) (mkCells (repeatL z c)) (match z with
  | [v] => .cells (fullT v 48) c .exact
  | _ => mkCells (repeatL z c))
def ptr (b off : Nat) : Value := .pointer (some ⟨b, off, none⟩)

/-- A part of a struct's or an array's cells. -/
def aPart (P : Program) (t : TypeId) (cs : List Value) (off : Nat) : Option Value :=
  match P.underlying t with
  | none => none
  | some d => if aggB (some d) then match sizeOf? P t with
      | some s => if off + s ≤ cs.length then some (.agg ((cs.drop off).take s).toArray) else none
      | none => none
    else cs[off]?

/-- Cells laid over others. -/
def overL (cs : List Value) (off : Nat) (vs : List Value) : List Value := cs.take off ++ vs ++ cs.drop (off + vs.length)
def fillL (place : Nat → Option (Nat × Nat)) (cs : List Value) : List (Nat × Value) → Option (List Value)
  | [] => some cs
  | (i, v) :: r => match place i, cellsOf v with
    | some (off, size), some vs => if vs.length = size ∧ off + size ≤ cs.length then fillL place (overL cs off vs) r else none
    | _, _ => none
def aBuild (P : Program) (t : TypeId) (parts : List (Nat × Value)) : Option (List Value) :=
  match P.underlying t, zeroL P t with
  | some (.struct fields), some z =>
    if fields.toList.all fun f => (sizeOf? P f.type).isSome then
      fillL (fun i => match fields.toList[i]? with
        | some f => match sizeOf? P f.type with
          | some s => some (f.offset, s)
          | none => none
        | none => none) z parts
    else none
  | some (.array _ elem), some z => match sizeOf? P elem with
    | some size => fillL (fun i => some (i * size, size)) z parts
    | none => none
  | _, _ => none

/-- An index below n. -/
def idx (x : Value) (n : Nat) : Option Nat := match x with
  | .int _ i => match i with
    | .ofNat i => cond (Nat.blt i n) (some i) none
    | _ => none
  | _ => none
/-- A bound of at most n; d, if there is none. -/
def bnd (x : Option Value) (d n : Nat) : Option Nat := match x with
  | none => some d
  | some x => match x with
    | .int _ i => match i with
      | .ofNat i => cond (Nat.ble i n) (some i) none
      | _ => none
    | _ => none
/-- low, high, max of a slice expression. -/
def bounds (len cap : Nat) (lo hi mx : Option Value) : Option (Nat × Nat × Nat) :=
  match bnd mx cap cap with
  | none => none
  | some m => if mx.isSome && hi.isNone then none else
    match bnd hi len m with
    | none => none
    | some h => match bnd lo 0 h with
      | none => none
      | some l => cond (Nat.ble h m) (some (l, h, m)) none

/-- A slice of a slice: its address. Where the block may have more room than is known the address always moves. -/
def sliceAddr (a : Option Addr) (l m cap size : Nat) (mx : Bool) (g : Nat → Option Blk) : Option (Option Addr) :=
  match a with
  | none => some none
  | some ⟨_, _, some _⟩ => none
  | some ⟨b, off, none⟩ =>
    match g b with
    | some (.cells _ n k) =>
      match k with
      | .loose e => if off + cap * e = n ∧ mx = false then (if e = size then some (some ⟨b, off + l * size, none⟩) else none)
          else some (if m = l then some ⟨b, off, none⟩ else some ⟨b, off + l * size, none⟩)
      | .bytes => if off + cap = n ∧ mx = false then (if 1 = size then some (some ⟨b, off + l * size, none⟩) else none)
          else some (if m = l then some ⟨b, off, none⟩ else some ⟨b, off + l * size, none⟩)
      | .own _ => if off + cap = n ∧ mx = false then (if 1 = size then some (some ⟨b, off + l * size, none⟩) else none)
          else some (if m = l then some ⟨b, off, none⟩ else some ⟨b, off + l * size, none⟩)
      | _ => some (if m = l then some ⟨b, off, none⟩ else some ⟨b, off + l * size, none⟩)
    | _ => none

def effSlice (P : Program) (t : TypeId) (x : Value) (lo hi mx : Option Value) (g : Nat → Option Blk) : Option Eff :=
  match P.underlying t, x with
  | some .string, .string s =>
    if mx.isSome then none else
    match bounds s.size s.size lo hi none with
    | some (l, h, _) => ret (.string (s.extract l h))
    | none => none
  | some (.slice elem), .slice a len cap => match bounds len cap lo hi mx, sizeOf? P elem with
    | some (l, h, m), some size => match sliceAddr a l m cap size mx.isSome g with
      | some a' => ret (.slice a' (h - l) (m - l))
      | none => none
    | _, _ => none
  | some (.pointer arr), .pointer (some a) => match P.underlying arr with
    | some (.array n elem) => match bounds n n lo hi mx, sizeOf? P elem with
      | some (l, h, m), some size => ret (.slice (some (if m = l then a else a.add (l * size))) (h - l) (m - l))
      | _, _ => none
    | _ => none
  | some (.array n elem), .pointer (some a) => match bounds n n lo hi mx, sizeOf? P elem with
    | some (l, h, m), some size => ret (.slice (some (if m = l then a else a.add (l * size))) (h - l) (m - l))
    | _, _ => none
  | _, _ => none

/- ## Maps -/
def kindN : IntKind → Nat
  | .i8 => 0 | .i16 => 1 | .i32 => 2 | .i64 => 3 | .u8 => 4 | .u16 => 5 | .u32 => 6 | .u64 => 7

def simpleKey : Value → Bool
  | .int .. | .string _ | .bool _ => true
  | _ => false
def keyEq : Value → Value → Bool
  | .int _ a, .int _ b => a == b
  | .string a, .string b => a.data.toList == b.data.toList
  | .bool a, .bool b => a == b
  | _, _ => false
def shapeEq : Value → Value → Bool
  | .int k _, .int k' _ => Nat.beq (kindN k) (kindN k')
  | .string _, .string _ => true
  | .bool _, .bool _ => true
  | _, _ => false
def keysOk (k : Value) (es : List (Value × Value × Nat)) : Bool := es.all fun e => shapeEq k e.1
def findE (k : Value) : List (Value × Value × Nat) → Option Value
  | [] => none
  | (k', v, _) :: r => if keyEq k k' then some v else findE k r
def putE (k v : Value) (c : Nat) : List (Value × Value × Nat) → List (Value × Value × Nat)
  | [] => [(k, v, c)]
  | (k', v', b) :: r => if keyEq k k' then (k', v, b) :: r else (k', v', b) :: putE k v c r
def tick (k : Value) (es : List (Value × Value × Nat)) (c : Nat) : Nat := match findE k es with
  | some _ => c
  | none => Nat.succ c
def delE (k : Value) : List (Value × Value × Nat) → List (Value × Value × Nat)
  | [] => []
  | (k', v', b) :: r => if keyEq k k' then r else (k', v', b) :: delE k r

def effLookup (P : Program) (t : TypeId) (m k : Value) (ok : Bool) (g : Nat → Option Blk) : Option Eff :=
  match P.underlying t, m with
  | some (.map kt elem), .map r =>
    if !simpleKey k then none else
    match P.underlying kt, (match r with
      | none => some []
      | some r => match g r with
        | some (.map es _) => some es
        | _ => none) with
    | some d, some es => if !(keyDesc d k && keysOk k es) then none else match findE k es with
      | some v => ret (if ok then .tuple #[v, .bool true] else v)
      | none => match zeroV P elem with
        | some z => ret (if ok then .tuple #[z, .bool false] else z)
        | none => none
    | _, _ => none
  | _, _ => none
where
  keyDesc : TypeDesc → Value → Bool
    | .int _, .int .. | .string, .string _ | .bool, .bool _ => true
    | _, _ => false

def effUpdate (P : Program) (t : TypeId) (m k x : Value) (g : Nat → Option Blk) : Option Eff :=
  match P.underlying t, m with
  | some (.map kt _), .map (some r) => match P.underlying kt, g r with
    | some d, some (.map es c) => if simpleKey k && effLookup.keyDesc d k && keysOk k es && storable x then some ⟨undef, [(r, .map (putE k x c es) (tick k es c))], []⟩ else none
    | _, _ => none
  | _, _ => none

/- ## Builtins -/
/-- the first n elements of a slice, or bytes of a string. -/
noncomputable def firstS (g : Nat → Option Blk) (size n : Nat) (x : Value) : Option (List Value) :=
  match x with
  | .slice (some ⟨b, off, none⟩) _ _ => match g b with
    | some (.cells xs m _) => if off + n * size ≤ m then some (loadL xs off (n * size)) else none
    | _ => none
  | .slice none _ _ => if n = 0 then some [] else none
  | .string s => if size = 1 ∧ n ≤ s.size then some ((s.data.toList.take n).map fun b => .int .u8 b.toNat) else none
  | _ => none
def firstZ (x : Value) : Option (List Value) := match x with
  | .slice _ _ _ => some []
  | .string _ => some []
  | _ => none
/-- (of none at all nothing is read) -/
noncomputable def firstL (g : Nat → Option Blk) (size n : Nat) (x : Value) : Option (List Value) := match n with
  | 0 => firstZ x
  | n + 1 => firstS g size (n + 1) x
def lenV : Value → Option Nat
  | .slice _ n _ => some n
  | .string s => some s.size
  | _ => none
/-- may there be room behind what is known of a block? -/
def maybeRoom (k : Kind) (end_ m size el off : Nat) : Option Bool :=
  match k with
  | .loose e => if e = size then (if end_ = m then some true else some false) else none
  | .bytes => if 1 = size then (if end_ = m then some true else some false) else none
  | .own t => if 1 = size ∧ t = el ∧ off = 0 then (if end_ = m then some true else some false) else none
  | .exact => some false
  | .bld _ => some false
  | .ro => none

/-- an element that is no byte. -/
def notB (z : List Value) : Bool := match z with
  | [.int .u8 _] => false
  | _ => true
/-- the kind of a new row that append makes. -/
def newKind (z : List Value) (t s : Nat) : Kind := cond (notB z) (.loose s) (.own t)
noncomputable def aAppend (P : Program) (argTypes : Array TypeId) (s x : Value) (g : Nat → Option Blk) (nx : Nat) : Option Eff :=
  match argTypes.toList with
  | [st, xt] => match P.underlying st, P.underlying xt, s with
    | _, some (.int _), _ => none
    | some (.slice elem), some _, .slice base sLen sCap => match P.info? elem, zeroL P elem, lenV x with
      | some i, some z, some n =>
        if (sLen + n) * (i.bytes + i.size + 1) * 4 > 2 ^ 40 ∨ i.size = 0 ∨ z.length ≠ i.size then none else
        match firstL g i.size n x with
        | none => none
        | some new =>
          if sLen + n ≤ sCap then
            match base with
            | none => if n = 0 then ret (.slice none (sLen + n) sCap) else none
            | some ⟨b, off, none⟩ => match g b with
              | some (.cells xs m k) => match k with
                | .ro => if n = 0 then ret (.slice base (sLen + n) sCap) else none
                | _ => if off + (sLen + n) * i.size ≤ m then some ⟨.slice base (sLen + n) sCap, [(b, .cells (storeL xs (off + sLen * i.size) new) m k)], []⟩ else none
              | _ => none
            | _ => none
          else match firstL g i.size sLen s with
            | none => none
            | some old =>
              match base with
              | none => some ⟨.slice (some ⟨nx, 0, none⟩) (sLen + n) (sLen + n), [], [.cells (ofList (old ++ new)) (old ++ new).length (newKind z elem i.size)]⟩
              | some ⟨b, off, none⟩ => match g b with
                | some (.cells _ m k) => match maybeRoom k (off + sCap * i.size) m i.size elem off with
                  | some true => some ⟨.slice (some ⟨nx, 0, none⟩) (sLen + n) (sLen + n), [(b, .dead)], [.cells (ofList (old ++ new)) (old ++ new).length k]⟩
                  | some false => some ⟨.slice (some ⟨nx, 0, none⟩) (sLen + n) (sLen + n), [], [.cells (ofList (old ++ new)) (old ++ new).length (newKind z elem i.size)]⟩
                  | none => none
                | _ => none
              | _ => none
      | _, _, _ => none
    | _, _, _ => none
  | _ => none

noncomputable def aCopy (P : Program) (argTypes : Array TypeId) (d s : Value) (g : Nat → Option Blk) : Option Eff :=
  match argTypes.toList with
  | dt :: _ => match P.underlying dt, d with
    | some (.slice elem), .slice base dLen _ => match sizeOf? P elem, lenV s with
      | some size, some sl => match firstL g size (Nat.min sl dLen) s with
        | none => none
        | some cells => match base with
          | none => if cells = [] then ret (.int .i64 (Nat.min sl dLen)) else none
          | some ⟨b, off, none⟩ => match g b with
            | some (.cells xs m k) => match k with
              | .ro => none
              | _ => if off + cells.length ≤ m then some ⟨.int .i64 (Nat.min sl dLen), [(b, .cells (storeL xs off cells) m k)], []⟩ else none
            | _ => none
          | _ => none
      | _, _ => none
    | _, _ => none
  | _ => none

noncomputable def aClear (P : Program) (argTypes : Array TypeId) (x : Value) (g : Nat → Option Blk) : Option Eff :=
  match argTypes.toList with
  | t :: _ => match P.underlying t, x with
    | some (.map _ _), .map none => ret undef
    | some (.map _ _), .map (some r) => match g r with
      | some (.map _ c) => some ⟨undef, [(r, .map [] c)], []⟩
      | _ => none
    | some (.slice _), .slice none _ _ => ret undef
    | some (.slice elem), .slice (some ⟨b, off, none⟩) n _ => if n = 0 then ret undef else match zeroL P elem, g b with
      | some z, some (.cells xs m k) => match k with
        | .ro => none
        | _ => if off + n * z.length ≤ m then some ⟨undef, [(b, .cells (storeL xs off (repeatL z n)) m k)], []⟩ else none
      | _, _ => none
    | _, _ => none
  | _ => none

def aLen (P : Program) (argTypes : Array TypeId) (x : Value) (g : Nat → Option Blk) : Option Eff :=
  match argTypes.toList with
  | t :: _ => match P.underlying t, x with
    | some .string, .string s => ret (.int .i64 s.size)
    | some (.slice _), .slice _ n _ => ret (.int .i64 n)
    | some (.array n _), _ => ret (.int .i64 n)
    | some (.pointer arr), _ => match P.underlying arr with
      | some (.array n _) => ret (.int .i64 n)
      | _ => none
    | some (.map _ _), .map none => ret (.int .i64 0)
    | some (.map _ _), .map (some r) => match g r with
      | some (.map es _) => ret (.int .i64 es.length)
      | _ => none
    | _, _ => none
  | _ => none

def aDelete (P : Program) (argTypes : Array TypeId) (m k : Value) (g : Nat → Option Blk) : Option Eff :=
  match argTypes.toList with
  | t :: _ => match P.underlying t, m with
    | some (.map kt _), .map r => match P.underlying kt with
      | some d => if simpleKey k && effLookup.keyDesc d k then match r with
          | none => ret undef
          | some r => match g r with
            | some (.map es c) => if keysOk k es then some ⟨undef, [(r, .map (delE k es) c)], []⟩ else none
            | _ => none
        else none
      | none => none
    | _, _ => none
  | _ => none

def ltI (a b : Int) : Bool :=
  match a with
  | .ofNat a => match b with
    | .ofNat b => Nat.blt a b
    | .negSucc _ => false
  | .negSucc a => match b with
    | .ofNat _ => true
    | .negSucc b => Nat.blt b a

def minI : List Value → Option Value
  | [] => none
  | .int k a :: r => go k a r
  | _ => none
where go (k : IntKind) (a : Int) : List Value → Option Value
  | [] => some (.int k a)
  | .int _ b :: r => go k (cond (ltI b a) b a) r
  | _ => none
def maxI : List Value → Option Value
  | [] => none
  | .int k a :: r => go k a r
  | _ => none
where go (k : IntKind) (a : Int) : List Value → Option Value
  | [] => some (.int k a)
  | .int _ b :: r => go k (cond (ltI a b) b a) r
  | _ => none

def eqI (a b : Int) : Bool :=
  match a with
  | .ofNat a => match b with
    | .ofNat b => Nat.beq a b
    | .negSucc _ => false
  | .negSucc a => match b with
    | .ofNat _ => false
    | .negSucc b => Nat.beq a b
def factsOf (x : Option Blk) : List Fact := match x with
  | some (.tok fs) => fs
  | _ => []
noncomputable def findMM (mn : Bool) (k : IntKind) (b : Int) : List Fact → Option Value
  | [] => none
  | .mm mn' k' b' r :: l => cond (Bool.rec (Bool.not mn') mn' mn && Nat.beq (kindN k) (kindN k') && eqI b b') (some r) (findMM mn k b l)
  | _ :: l => findMM mn k b l
noncomputable def mmOf (mn : Bool) (args : List Value) (g : Nat → Option Blk) : Option Value := match args with
  | [.chan (some i), .int k b] => findMM mn k b (factsOf (g i))
  | [.int k b, .chan (some i)] => findMM mn k b (factsOf (g i))
  | _ => none

noncomputable def builtinEff (P : Program) (b : Builtin) (argTypes : Array TypeId) (args : List Value) (g : Nat → Option Blk) (nx : Nat) : Option Eff :=
  match b with
  | .append => match args with
    | [s, x] => aAppend P argTypes s x g nx
    | _ => none
  | .copy => match args with
    | [d, s] => aCopy P argTypes d s g
    | _ => none
  | .clear => match args with
    | [x] => aClear P argTypes x g
    | _ => none
  | .delete => match args with
    | [m, k] => aDelete P argTypes m k g
    | _ => none
  | .len => match args with
    | [x] => aLen P argTypes x g
    | _ => none
  | .min => match minI args with
    | some v => ret v
    | none => (mmOf true args g).bind ret
  | .max => match maxI args with
    | some v => ret v
    | none => (mmOf false args g).bind ret
  | _ => none

/- ## Numbers, comparisons -/
/-- 'wrap', quick where it changes nothing. -/
def wrapF (k : IntKind) (n : Int) : Int :=
  match k with
  | .i64 => match n with
    | .ofNat m => cond (Nat.ble m 9223372036854775807) (.ofNat m) (k.wrap n)
    | _ => k.wrap n
  | .u64 => match n with
    | .ofNat m => cond (Nat.ble m 18446744073709551615) (.ofNat m) (k.wrap n)
    | _ => k.wrap n
  | k => k.wrap n
def intOp (op : BinOp) (k : IntKind) (a b : Int) : Option Value :=
  match op with
  | .add => some (.int k (wrapF k (a + b)))
  | .sub => some (.int k (wrapF k (a - b)))
  | .mul => some (.int k (wrapF k (a * b)))
  | .quo => cond (eqI b 0) none (some (.int k (wrapF k (a.tdiv b))))
  | .rem => cond (eqI b 0) none (some (.int k (a.tmod b)))
  | .and => some (.int k (k.wrap (BitVec.ofInt k.bits a &&& BitVec.ofInt k.bits b).toNat))
  | .or => some (.int k (k.wrap (BitVec.ofInt k.bits a ||| BitVec.ofInt k.bits b).toNat))
  | .xor => some (.int k (k.wrap (BitVec.ofInt k.bits a ^^^ BitVec.ofInt k.bits b).toNat))
  | .andNot => some (.int k (k.wrap (BitVec.ofInt k.bits a &&& ~~~BitVec.ofInt k.bits b).toNat))
  | .eql => some (.bool (eqI a b))
  | .neq => some (.bool !(eqI a b))
  | .lss => some (.bool (ltI a b))
  | .leq => some (.bool !(ltI b a))
  | .gtr => some (.bool (ltI b a))
  | .geq => some (.bool !(ltI a b))
  | .shl => none
  | .shr => none
def shiftOp (op : BinOp) (k : IntKind) (a b : Int) : Option Value :=
  match b with
  | .ofNat b => match op with
    | .shl => some (.int k (wrapF k (a * 2 ^ (min b k.bits))))
    | .shr => some (.int k (a.fdiv (2 ^ (min b k.bits))))
    | _ => none
  | _ => none
def strOp (op : BinOp) (x y : ByteArray) : Option Value :=
  match op with
  | .add => if x.size + y.size ≤ 2 ^ 40 then some (.string (x ++ y)) else none
  | .eql => some (.bool (x.data.toList == y.data.toList))
  | .neq => some (.bool !(x.data.toList == y.data.toList))
  | .lss => some (.bool (Op.bytesLess x.data.toList y.data.toList))
  | .leq => some (.bool (Op.bytesLess x.data.toList y.data.toList || x.data.toList == y.data.toList))
  | .gtr => some (.bool !(Op.bytesLess x.data.toList y.data.toList || x.data.toList == y.data.toList))
  | .geq => some (.bool !Op.bytesLess x.data.toList y.data.toList)
  | _ => none

/-- What asks nothing of memory, run. -/
def evalPure {α : Type} (P : Program) : Sem α → Option α
  | .pure a => some a
  | .program k => evalPure P (k P)
  | _ => none

/-- blocks of which no two are one. -/
def firm : Kind → Bool
  | .exact => true
  | .loose _ => true
  | .bld _ => true
  | .own _ => true
  | _ => false
def eqlV (P : Program) (t : TypeId) (x y : Value) (g : Nat → Option Blk) : Option Bool :=
  match P.underlying t with
  | some (.pointer e) => match x, y with
    | .pointer none, .pointer b => some b.isNone
    | .pointer (some _), .pointer none => some false
    | .pointer (some a), .pointer (some b) => match sizeOf? P e with
      | some (_ + 1) => match g a.block, g b.block with
        | some (.cells _ _ k), some (.cells _ _ k') => if a.block = b.block then some (a == b) else
            if firm k && firm k' then some false else none
        | _, _ => none
      | _ => none
    | _, _ => none
  | some .bool => match x, y with
    | .bool a, .bool b => some (a == b)
    | _, _ => none
  | some (.slice _) => match x, y with
    | .slice none _ _, .slice b _ _ => some b.isNone
    | .slice (some _) _ _, .slice none _ _ => some false
    | _, _ => none
  | some (.map _ _) => match x, y with
    | .map none, .map b => some b.isNone
    | .map (some _), .map none => some false
    | _, _ => none
  | some (.func _ _ _) => match x, y with
    | .nilFunc, .nilFunc => some true
    | .nilFunc, .func _ _ _ => some false
    | .func _ _ _, .nilFunc => some false
    | _, _ => none
  | some (.interface _) => match x, y with
    | .nilIface, .iface _ _ => some false
    | .iface _ _, .nilIface => some false
    | _, _ => none
  | _ => none

mutual
/-- the same value? -/
def beqV : Nat → Value → Value → Bool
  | 0, _, _ => false
  | n + 1, x, y => match x, y with
    | .bool a, .bool b => a == b
    | .int k a, .int k' b => Nat.beq (kindN k) (kindN k') && eqI a b
    | .string a, .string b => a.data.toList == b.data.toList
    | .pointer none, .pointer none => true
    | .pointer (some a), .pointer (some b) => a == b
    | .slice none l c, .slice none l' c' => Nat.beq l l' && Nat.beq c c'
    | .slice (some a) l c, .slice (some b) l' c' => a == b && Nat.beq l l' && Nat.beq c c'
    | .map none, .map none => true
    | .map (some a), .map (some b) => Nat.beq a b
    | .func (.func f) a b, .func (.func f') a' b' => Nat.beq f f' && beqL n a.toList a'.toList && beqL n b.toList b'.toList
    | .nilFunc, .nilFunc => true
    | .iface t v, .iface t' v' => Nat.beq t t' && beqV n v v'
    | .nilIface, .nilIface => true
    | .chan none, .chan none => true
    | .chan (some a), .chan (some b) => Nat.beq a b
    | .agg a, .agg b => beqL n a.toList b.toList
    | .tuple a, .tuple b => beqL n a.toList b.toList
    | _, _ => false
def beqL : Nat → List Value → List Value → Bool
  | 0, _, _ => false
  | _ + 1, [], [] => true
  | n + 1, x :: r, y :: s => beqV n x y && beqL n r s
  | _, _, _ => false
end
/-- arrays of values of one cell. -/
def eqCells (P : Program) (e : TypeId) (g : Nat → Option Blk) : List Value → List Value → Option Bool
  | [], [] => some true
  | x :: r, y :: s => match eqlV P e x y g with
    | some true => eqCells P e g r s
    | some false => some false
    | none => none
  | _, _ => none
def eqArr (P : Program) (t : TypeId) (a b : Array Value) (g : Nat → Option Blk) : Option Bool := match P.underlying t with
  | some (.array len e) => match P.underlying e, sizeOf? P e with
    | some de, some 1 => if aggB (some de) || P.eqGuardType P.depth t || !(Nat.beq a.toList.length len) || !(Nat.beq b.toList.length len) then none else eqCells P e g a.toList b.toList
    | _, _ => none
  | _ => none
def opN : BinOp → Nat
  | .add => 0 | .sub => 1 | .mul => 2 | .quo => 3 | .rem => 4 | .and => 5 | .or => 6 | .xor => 7 | .shl => 8 | .shr => 9 | .andNot => 10
  | .eql => 11 | .neq => 12 | .lss => 13 | .leq => 14 | .gtr => 15 | .geq => 16
/-- what is known of a token and another. -/
def findBin (op : BinOp) (o : Value) : List Fact → Option Value
  | [] => none
  | .bin op' o' r :: l => cond (Nat.beq (opN op) (opN op') && beqV 2 o o') (some r) (findBin op o l)
  | _ :: l => findBin op o l
def findNib (op : BinOp) (o : Value) : List Fact → Option Value
  | [] => none
  | .nib op' o' r :: l => cond (Nat.beq (opN op) (opN op') && beqV 2 o o') (some r) (findNib op o l)
  | _ :: l => findNib op o l
def findConv (k : IntKind) : List Fact → Option Value
  | [] => none
  | .conv k' r :: l => cond (Nat.beq (kindN k) (kindN k')) (some r) (findConv k l)
  | _ :: l => findConv k l
def effBin (P : Program) (op : BinOp) (t : TypeId) (x y : Operand) (a b : Value) (g : Nat → Option Blk) : Option Eff :=
  match a, b with
  | .int k a, .int k' b => match op with
    | .shl => (shiftOp .shl k a b).bind ret
    | .shr => (shiftOp .shr k a b).bind ret
    | op => cond (Nat.beq (kindN k) (kindN k')) ((intOp op k a b).bind ret) none
  | .string a, .string b => (strOp op a b).bind ret
  | .nilIface, .nilIface => match op, isConst x || isConst y, P.underlying t with
    | .eql, true, some (.interface _) => ret (.bool true)
    | .neq, true, some (.interface _) => ret (.bool false)
    | _, _, _ => none
  | .agg a, .agg b => match eqArr P t a b g with
    | some r => match op with
      | .eql => ret (.bool r)
      | .neq => ret (.bool !r)
      | _ => none
    | none => if plainV (.agg a) && plainV (.agg b) then match evalPure P (do eqGuard op t x y (.agg a) (.agg b); binOp op t (.agg a) (.agg b)) with
        | some v => if plainCell v then ret v else none
        | none => none else none
  | .chan (some i), .chan (some j) => cond (Nat.beq i j)
    (match op with
      | .eql => ret (.bool true)
      | .neq => ret (.bool false)
      | _ => none)
    ((findBin op (.chan (some j)) (factsOf (g i))).bind ret)
  | .chan (some i), .int k b => (findBin op (.int k b) (factsOf (g i))).bind ret
  | .int k a, .chan (some j) => (findNib op (.int k a) (factsOf (g j))).bind ret
  | a, b => match op with
    | .eql => (eqlV P t a b g).bind fun r => ret (.bool r)
    | .neq => (eqlV P t a b g).bind fun r => ret (.bool !r)
    | _ => none
where
  isConst : Operand → Bool
    | .const _ => true
    | _ => false

def effUn (op : UnOp) (x : Value) : Option Eff :=
  match op with
  | .not => match x with
    | .bool b => ret (.bool !b)
    | _ => none
  | .neg => match x with
    | .int k n => ret (.int k (k.wrap (0 - n)))
    | _ => none
  | .xor => match x with
    | .int k n => (intOp .xor k (if k.signed then -1 else k.max) n).bind ret
    | _ => none
  | .plus => none

/- ## Memory -/
noncomputable def effLoad (P : Program) (t : TypeId) (a : Value) (g : Nat → Option Blk) : Option Eff :=
  match a with
  | .pointer (some ⟨b, off, none⟩) => match g b with
    | some (.cells xs n _) => match P.underlying t with
      | none => none
      | some d => cond (aggB (some d))
          (match P.info? t with
            | some i => cond (Nat.ble (off + i.size) n) (ret (.agg (loadL xs off i.size).toArray)) none
            | none => none)
          (cond (Nat.blt off n) (match xs.get off with
            | some v => ret v
            | none => none) none)
    | _ => none
  | _ => none

noncomputable def effStore (P : Program) (t : TypeId) (a x : Value) (g : Nat → Option Blk) : Option Eff :=
  match a with
  | .pointer (some ⟨b, off, none⟩) => match g b with
    | some (.cells xs n k) => match k with
      | .ro => none
      | k => match P.info? t, cellsOf x with
        | some i, some vs => cond (Nat.beq vs.length i.size) (cond (Nat.ble (off + i.size) n)
            (some ⟨undef, [(b, .cells (storeL xs off vs) n k)], []⟩) none) none
        | _, _ => none
    | _ => none
  | _ => none

def effNil (P : Program) (x : Value) : Option Eff :=
  match x with
  | .pointer (some a) => ret (.pointer (some a))
  | .iface t v => ret (.iface t v)
  | .func (.func f) a b => ret (.func (.func f) a b)
  | .func (.method name) a b => match a.toList with
    | .iface t _ :: _ => match P.info? t with
      | some i => match i.methods.toList.find? (·.name == name) with
        | some m => if m.path.toList.isEmpty then match m.func with
            | some (_, true) => ret (.func (.method name) a b)
            | _ => none else none
        | none => none
      | none => none
    | _ => none
  | _ => none

noncomputable def bytesAt (b : Option Blk) (off len : Nat) : Option ByteArray :=
  match b with
  | some (.cells xs n _) => if off + len ≤ n then go (loadL xs off len) [] else none
  | _ => none
where go : List Value → List UInt8 → Option ByteArray
  | [], acc => some ⟨acc.reverse.toArray⟩
  | .int .u8 n :: r, acc => go r (UInt8.ofNat n.toNat :: acc)
  | _, _ => none

noncomputable def effConv (P : Program) (src dst : TypeId) (x : Value) (g : Nat → Option Blk) (nx : Nat) : Option Eff :=
  match x with
  | .int _ n => match P.underlying src, P.underlying dst with
    | some _, some (.int k) => ret (.int k (wrapF k n))
    | some _, some .string => ret (.string (Utf8.encode n))
    | _, _ => none
  | .chan (some i) => match P.underlying src, P.underlying dst with
    | some _, some (.int k) => (findConv k (factsOf (g i))).bind ret
    | _, _ => none
  | .string s => match P.underlying src, P.underlying dst with
    | some _, some .string => ret (.string s)
    | some _, some (.slice e) => match P.underlying e with
      | some (.int .u8) => some ⟨.slice (some ⟨nx, 0, none⟩) s.size s.size, [], [.cells (ofList (s.data.toList.map fun b => .int .u8 b.toNat)) s.size .bytes]⟩
      | _ => none
    | _, _ => none
  | .slice a len _ => match P.underlying src, P.underlying dst with
    | some (.slice e), some .string => match P.underlying e with
      | some (.int .u8) => match a with
        | none => ret (.string .empty)
        | some ⟨b, off, none⟩ => (bytesAt (g b) off len).bind fun s => ret (.string s)
        | _ => none
      | _ => none
    | _, _ => none
  | _ => none

noncomputable def effMakeSlice (P : Program) (t : TypeId) (l c : Value) (nx : Nat) : Option Eff :=
  match P.underlying t with
  | some (.slice elem) => match l with
    | .int _ (.ofNat l) => match c with
      | .int _ (.ofNat c) => match P.info? elem, zeroL P elem with
        | some i, some z => cond (Nat.ble l c && Nat.ble (c * (i.bytes + i.size + 1)) (2 ^ 40) && Nat.beq z.length i.size)
            (some ⟨.slice (some ⟨nx, 0, none⟩) l c, [], [mkRow z c]⟩) none
        | _, _ => none
      | _ => none
    | _ => none
  | _ => none

def effField (P : Program) (s : TypeId) (x : Value) (f : Nat) : Option Eff :=
  match P.underlying s, x with
  | some (.struct fields), .pointer (some a) => match fields.toList[f]? with
    | some f => match P.info? f.type with
      | some i => cond (Nat.beq i.size 0) none (ret (.pointer (some (a.add f.offset))))
      | none => none
    | none => none
  | _, _ => none

def effIdx (P : Program) (t : TypeId) (x ix : Value) : Option Eff :=
  match P.underlying t, x with
  | some (.array len elem), .pointer (some a) => match idx ix len, sizeOf? P elem with
    | some i, some s => ret (.pointer (some (a.add (i * s))))
    | _, _ => none
  | some (.slice elem), .slice (some a) len _ => match idx ix len, sizeOf? P elem with
    | some i, some s => ret (.pointer (some (a.add (i * s))))
    | _, _ => none
  | _, _ => none

def effIndex (P : Program) (t : TypeId) (x ix : Value) : Option Eff :=
  match P.underlying t, x with
  | some (.array len elem), .agg cs => match idx ix len, sizeOf? P elem with
    | some i, some s => (aPart P elem cs.toList (i * s)).bind ret
    | _, _ => none
  | some .string, .string s => match idx ix s.size with
    | some i => match s.data.toList[i]? with
      | some b => ret (.int .u8 b.toNat)
      | none => none
    | none => none
  | _, _ => none

def effNextS (it : Value) (g : Nat → Option Blk) : Option Eff :=
  match it with
  | .pointer (some ⟨r, 0, none⟩) => match g r with
    | some (.str s pos) =>
      if pos < s.size then some ⟨.tuple #[.bool true, .int .i64 pos, .int .i32 (Utf8.decode s pos).1], [(r, .str s (pos + (Utf8.decode s pos).2))], []⟩
      else ret (.tuple #[.bool false])
    | _ => none
  | _ => none

def effAssert (P : Program) (x : Value) (asserted : TypeId) (ok : Bool) : Option Eff :=
  match P.underlying asserted with
  | none => none
  | some (.interface _) => none
  | some _ => match x with
    | .nilIface => if ok then fails else none
    | .iface t v => if t = asserted then ret (if ok then .tuple #[v, .bool true] else v) else if ok then fails else none
    | _ => none
where fails : Option Eff := match zeroV P asserted with
  | some z => ret (.tuple #[z, .bool false])
  | none => none

noncomputable def effBuildSlice (P : Program) (t : TypeId) (len : Nat) (parts : List (Nat × Value)) (nx : Nat) : Option Eff :=
  match P.underlying t with
  | some (.slice elem) => match sizeOf? P elem, zeroL P elem with
    | some size, some z =>
      if len * size > 2 ^ 20 ∨ z.length ≠ size then none else
      match fillL (fun i => some (i * size, size)) (repeatL z len) parts with
      | some cells => some ⟨.slice (some ⟨nx, 0, none⟩) len len, [], [mkCells cells]⟩
      | none => none
    | _, _ => none
  | _ => none

def effFieldV (P : Program) (t : TypeId) (x : Value) (f : Nat) : Option Eff :=
  match P.underlying t, x with
  | some (.struct fields), .agg cs => match fields.toList[f]? with
    | some f => (aPart P f.type cs.toList f.offset).bind ret
    | none => none
  | _, _ => none

def effPick (c a b : Value) : Option Eff := match c with
  | .bool t => ret (cond t a b)
  | _ => none
/-- a nil pointer and a nil slice: a strings.Builder; its type is kept. -/
def bldL (z : List Value) : Bool := match z with
  | [.pointer none, .slice none 0 0] => true
  | _ => false
noncomputable def effAlloc (P : Program) (e : TypeId) (nx : Nat) : Option Eff := match zeroL P e with
  | some z => some ⟨ptr nx 0, [], [.cells (ofList z) z.length (cond (bldL z) (.bld e) .exact)]⟩
  | none => none
noncomputable def effBox (x : Value) (nx : Nat) : Option Eff := match cellsOf x with
  | some z => some ⟨ptr nx 0, [], [mkCells z]⟩
  | none => none
def effExtract (t : Value) (i : Nat) : Option Eff := match t with
  | .tuple vs => match vs.toList[i]? with
    | some v => if storable v then ret v else none
    | none => none
  | _ => none
def effArrPtr (P : Program) (arr : TypeId) (x : Value) : Option Eff :=
  match P.underlying arr, x with
  | some (.array n _), .slice a len _ => if len < n ∨ n = 0 then none else ret (.pointer a)
  | _, _ => none
def effIface (P : Program) (t : TypeId) (x : Value) : Option Eff :=
  match P.underlying t with
  | none => none
  | some (.interface _) => none
  | some _ => ret (.iface t x)
def effRange (P : Program) (t : TypeId) (x : Value) (g : Nat → Option Blk) (nx : Nat) : Option Eff :=
  match P.underlying t, x with
  | some .string, .string s => some ⟨ptr nx 0, [], [.str s 0]⟩
  | some (.map _ _), .map (some r) => match g r with
    | some (.map _ c) => some ⟨ptr nx 0, [], [.iter r c [] none c]⟩
    | _ => none
  | _, _ => none
def effMakeMap (P : Program) (t : TypeId) (x : Option Value) (nx : Nat) : Option Eff := match x with
  | none => some ⟨.map (some nx), [], [.map [] 0]⟩
  | some (.int _ _) => match P.underlying t with
    | some (.map _ _) => some ⟨.map (some nx), [], [.map [] 0]⟩
    | _ => none
  | _ => none
def effFunc (fn : Fn) (first captured : Array Value) : Option Eff := ret (.func fn first captured)
def effNext (it : Value) (isString : Bool) (g : Nat → Option Blk) : Option Eff := match isString with
  | true => effNextS it g
  | false => none
noncomputable def effCall (P : Program) (c : Call) (ρ : Operand → Value) (g : Nat → Option Blk) (nx : Nat) : Option Eff := match c.callee with
  | .builtin b => builtinEff P b c.argTypes (c.args.toList.map ρ) g nx
  | _ => none

/-- What an operation does that calls nothing. -/
noncomputable def eff (P : Program) (op : Op) (ρ : Operand → Value) (g : Nat → Option Blk) (nx : Nat) : Option Eff :=
  match op with
  | .move x => ret (ρ x)
  | .assign x => ret (ρ x)
  | .pick c a b => effPick (ρ c) (ρ a) (ρ b)
  | .alloc e => effAlloc P e nx
  | .box _ x => effBox (ρ x) nx
  | .build t parts => (aBuild P t (parts.toList.map fun x => (x.1, ρ x.2))).bind fun a => ret (.agg a.toArray)
  | .buildSlice t len parts => effBuildSlice P t len (parts.toList.map fun x => (x.1, ρ x.2)) nx
  | .insert t m k x => effUpdate P t (ρ m) (ρ k) (ρ x) g
  | .load t a => effLoad P t (ρ a) g
  | .store t a x => effStore P t (ρ a) (ρ x) g
  | .ready _ => none
  | .waits _ => none
  | .nilCheck x => effNil P (ρ x)
  | .binOp op t x y _ => effBin P op t x y (ρ x) (ρ y) g
  | .unOp op _ x => effUn op (ρ x)
  | .convert src dst x => effConv P src dst (ρ x) g nx
  | .sliceToArrayPointer arr x => effArrPtr P arr (ρ x)
  | .makeInterface t x => effIface P t (ρ x)
  | .makeFunc fn first captured => effFunc fn (first.map ρ) (captured.map ρ)
  | .makeMap t x => effMakeMap P t (x.map ρ) nx
  | .makeChan _ _ => none
  | .makeSlice t l c => effMakeSlice P t (ρ l) (ρ c) nx
  | .slice t x lo hi mx => effSlice P t (ρ x) (lo.map ρ) (hi.map ρ) (mx.map ρ) g
  | .fieldAddr s x f => effField P s (ρ x) f
  | .field t x f => effFieldV P t (ρ x) f
  | .indexAddr t x ix => effIdx P t (ρ x) (ρ ix)
  | .index t x ix => effIndex P t (ρ x) (ρ ix)
  | .lookup t m k ok => effLookup P t (ρ m) (ρ k) ok g
  | .mapUpdate t m k x => effUpdate P t (ρ m) (ρ k) (ρ x) g
  | .mapEntry _ _ _ => none
  | .entryStore _ _ _ _ => none
  | .range t x => effRange P t (ρ x) g nx
  | .next it s => effNext (ρ it) s g
  | .entry _ => none
  | .typeAssert x _ asserted ok => effAssert P (ρ x) asserted ok
  | .extract t i => effExtract (ρ t) i
  | .call c => effCall P c ρ g nx
  | .go _ => none
  | .defer _ => none
  | .panic _ => none
  | .send _ _ => none
  | .recv _ _ _ => none
  | .select _ _ => none

/-- The block that a value leads to. -/
def blkOf : Value → List Nat
  | .pointer (some a) => [a.block]
  | .slice (some a) _ _ => [a.block]
  | .map (some r) => [r]
  | .chan (some i) => [i]
  | .agg c => c.toList.flatMap fun
    | .pointer (some a) => [a.block]
    | _ => []
  | _ => []
/-- May an operation look into blocks? -/
def looks : Op → Bool
  | .range .. | .load .. | .store .. | .binOp .. | .convert .. | .slice .. | .lookup .. | .mapUpdate .. | .insert .. | .next .. | .call _ => true
  | _ => false
def foot (op : Op) (ρ : Operand → Value) : List Nat := if looks op then op.operands.toList.flatMap fun x => blkOf (ρ x) else []

/- ## Frames, regions -/
abbrev Env := Trie Value
/-- stands for any value. -/
abbrev topV : Value := .tuple #[.tuple #[]]
noncomputable def Env.at (e : Env) (t : Tmp) : Value := Option.rec (motive := fun _ => Value) topV (fun v => v) (e.get t)
noncomputable def Env.eval (e : Env) (x : Operand) : Value := match x with
  | .tmp t => e.at t
  | .const v => v
  | .global g => .pointer (some ⟨g, 0, none⟩)
  | .func f => .func (.func f) #[] #[]
noncomputable def Env.put (e : Env) (d : Option Tmp) (v : Value) : Env := match d with
  | some d => e.set d v
  | none => e

noncomputable def applyWr (t : Trie Blk) (l : List (Nat × Blk)) : Trie Blk := match l with
  | [] => t
  | x :: r => applyWr (t.set x.1 x.2) r
noncomputable def applyNw (t : Trie Blk) (nx : Nat) (l : List Blk) : Heap := match l with
  | [] => ⟨t, nx⟩
  | x :: r => applyNw (t.set nx x) (Nat.succ nx) r
noncomputable def Heap.apply (h : Heap) (e : Eff) : Heap := match e.nw with
  | [] => match e.wr with
    | [] => h
    | w => ⟨applyWr h.t w, h.nx⟩
  | n => applyNw (applyWr h.t e.wr) h.nx n

noncomputable def wantedA (ops : List Oper) (e : Env) (o : Oper) : Bool :=
  match o.guard with
  | none => true
  | some (j, want) => match (ops[j]?).bind (·.dst) with
    | some d => match e.at d with
      | .bool b => Bool.rec (Bool.not want) want b
      | _ => false
    | none => false

/-- a guard that is known. -/
noncomputable def guardOk (ops : List Oper) (e : Env) (o : Oper) : Bool :=
  match o.guard with
  | none => true
  | some (j, _) => match (ops[j]?).bind (·.dst) with
    | some d => match e.at d with
      | .chan _ => false
      | .tuple c => c.toList.isEmpty
      | _ => true
    | none => true

/-- whom a call enters. -/
def callee (P : Program) (c : Call) (ρ : Operand → Value) : Option (FuncId × List Value) :=
  match c.callee with
  | .value f => match ρ f with
    | .func (.func f) first captured => some (f, first.toList ++ c.args.toList.map ρ ++ captured.toList)
    | _ => none
  | .invoke r name => match ρ r with
    | .iface t v => match P.info? t with
      | some i => match i.methods.toList.find? (·.name == name), P.underlying t, v with
        | some m, some (.pointer _), .pointer a => if m.path.toList.isEmpty then match m.func with
            | some (f, true) => some (f, .pointer a :: c.args.toList.map ρ)
            | _ => none else none
        | _, _, _ => none
      | none => none
    | _ => none
  | .builtin _ => none

inductive Out where
  | ret (v : Value)
  | pan (v : Value)
inductive AExit where
  | normal | ret
  | exit (id : Nat)
  | goto (l : Nat)
  | pan (v : Value)
abbrev Caller := FuncId → List Value → Heap → Option (Out × Heap)
abbrev Res := Option (AExit × Env × Heap)

/- Arguments, laid out as plain values ahead of a call: two calls of the same are the same term then, and the kernel finds the second one's answer again. -/
noncomputable def forceN (α : Type) (n : Nat) : (Nat → α) → α := Nat.rec (motive := fun _ => (Nat → α) → α) (fun k => k Nat.zero) (fun m _ k => k (Nat.succ m)) n
noncomputable def forceB (α : Type) (b : Bool) : (Bool → α) → α := Bool.rec (motive := fun _ => (Bool → α) → α) (fun k => k false) (fun k => k true) b
noncomputable def forceI (α : Type) (i : Int) : (Int → α) → α := Int.rec (motive := fun _ => (Int → α) → α) (fun n k => forceN α n fun n => k (.ofNat n)) (fun n k => forceN α n fun n => k (.negSucc n)) i
noncomputable def forceO (α : Type) (o : Option Nat) : (Option Nat → α) → α := Option.rec (motive := fun _ => (Option Nat → α) → α) (fun k => k none) (fun n k => forceN α n fun n => k (some n)) o
noncomputable def forceA (α : Type) (o : Option Addr) : (Option Addr → α) → α := Option.rec (motive := fun _ => (Option Addr → α) → α) (fun k => k none)
  (fun a => Addr.rec (motive := fun _ => (Option Addr → α) → α) (fun b off s k => forceN α b fun b => forceN α off fun off => forceO α s fun s => k (some ⟨b, off, s⟩)) a) o
noncomputable def forceK (α : Type) (i : IntKind) : (IntKind → α) → α := IntKind.rec (motive := fun _ => (IntKind → α) → α) (fun k => k .i8) (fun k => k .i16) (fun k => k .i32) (fun k => k .i64) (fun k => k .u8) (fun k => k .u16) (fun k => k .u32) (fun k => k .u64) i
noncomputable def forceL (α : Type) (fv : Value → (Value → α) → α) (l : List Value) : (List Value → α) → α := List.rec (motive := fun _ => (List Value → α) → α) (fun k => k []) (fun x _ ih k => fv x fun x => ih fun r => k (x :: r)) l
noncomputable def forceV1 (α : Type) (ih : Value → (Value → α) → α) (v : Value) (k : Value → α) : α := match v with
  | .bool b => forceB α b fun b => k (.bool b)
  | .int kd i => forceK α kd fun kd => forceI α i fun i => k (.int kd i)
  | .pointer a => forceA α a fun a => k (.pointer a)
  | .slice a l c => forceA α a fun a => forceN α l fun l => forceN α c fun c => k (.slice a l c)
  | .map r => forceO α r fun r => k (.map r)
  | .chan r => forceO α r fun r => k (.chan r)
  | .iface t v => forceN α t fun t => ih v fun v => k (.iface t v)
  | .agg cs => forceL α ih cs.toList fun l => k (.agg ⟨l⟩)
  | .tuple cs => forceL α ih cs.toList fun l => k (.tuple ⟨l⟩)
  | v => k v
noncomputable def forceV (α : Type) (n : Nat) : Value → (Value → α) → α := Nat.rec (motive := fun _ => Value → (Value → α) → α) (fun v k => k v) (fun _ ih => forceV1 α ih) n
/-- a call, its arguments laid out. -/
noncomputable def callK (cl : Caller) (x : FuncId × List Value) (h : Heap) : Option (Out × Heap) :=
  Prod.rec (motive := fun _ => Caller → Heap → Option (Out × Heap)) (fun f as cl h => forceN (Option (Out × Heap)) f fun f => forceL (Option (Out × Heap)) (forceV (Option (Out × Heap)) 4) as fun as => cl f as h) x cl h

/-- the entry that an iterator over a map gave last. -/
def effEntry (it : Value) (g : Nat → Option Blk) : Option Value := match it with
  | .pointer (some ⟨d, 0, none⟩) => match g d with
    | some (.look r b last) => match g r with
      | some (.map es c) => bif Nat.beq c last then match es.find? (fun x => Nat.beq x.2.2 b) with
          | some x => some (.tuple #[x.1, x.2.1])
          | none => none
        else none
      | _ => none
    | _ => none
  | _ => none

/-- One operation, and what comes behind it. -/
noncomputable def runOpS (P : Program) (cl : Caller) (all : List Oper) (o : Oper) (k : Env → Heap → Res) (e : Env) (h : Heap) : Res :=
  Bool.rec (motive := fun _ => Res) none (Bool.rec (motive := fun _ => Res) (k (e.put o.dst undef) h)
    (match o.op with
      | .call c => match c.callee with
        | .builtin b => match builtinEff P b c.argTypes (c.args.toList.map e.eval) h.get h.nx with
          | some f => k (e.put o.dst f.val) (h.apply f)
          | none => none
        | _ => match callee P c e.eval with
          | some x => match cl x.1 x.2 h with
            | some (.ret v, h') => k (e.put o.dst v) h'
            | some (.pan v, h') => some (.pan v, e, h')
            | none => none
          | none => none
      | .panic x => match e.eval x with
        | .iface t v => some (.pan (.iface t v), e, h)
        | _ => none
      | .entry x => match effEntry (e.eval x) h.get with
        | some v => k (e.put o.dst v) h
        | none => none
      | op => match eff P op e.eval h.get h.nx with
        | some f => k (e.put o.dst f.val) (h.apply f)
        | none => none)
    (wantedA all e o)) (guardOk all e o)
/- ## The same, laid out so that the kernel copies little -/
noncomputable def binRec (op : BinOp) (k : IntKind) (a b : Int) : Option Value := @BinOp.rec (fun _ => IntKind → Int → Int → Option Value)
  (fun k a b => some (.int k (wrapF k (a + b)))) (fun k a b => some (.int k (wrapF k (a - b)))) (fun k a b => some (.int k (wrapF k (a * b)))) (fun k a b => intOp .quo k a b) (fun k a b => intOp .rem k a b)
  (fun k a b => intOp .and k a b) (fun k a b => intOp .or k a b) (fun k a b => intOp .xor k a b) (fun _ _ _ => none) (fun _ _ _ => none) (fun k a b => intOp .andNot k a b)
  (fun _ a b => some (.bool (eqI a b))) (fun _ a b => some (.bool !(eqI a b))) (fun _ a b => some (.bool (ltI a b))) (fun _ a b => some (.bool !(ltI b a))) (fun _ a b => some (.bool (ltI b a))) (fun _ a b => some (.bool !(ltI a b))) op k a b
abbrev EffT := Program → Env → Heap → Option Eff
abbrev RunT := Program → Caller → Oper → (Env → Heap → Res) → Env → Heap → Res
/-- (the heap stays as it is, where nothing is done to it: no thunk is laid over it then) -/
noncomputable def heapK (α : Type) (f : Eff) (h : Heap) (k : Heap → α) : α :=
  List.rec (motive := fun _ => Eff → Heap → (Heap → α) → α)
    (fun f h k => List.rec (motive := fun _ => Eff → Heap → (Heap → α) → α) (fun _ h k => k h) (fun _ _ _ f h k => k (h.apply f)) f.wr f h k)
    (fun _ _ _ f h k => k (h.apply f)) f.nw f h k
noncomputable def rFin (f : Option Eff) : Oper → (Env → Heap → Res) → Env → Heap → Res :=
  Option.rec (motive := fun _ => Oper → (Env → Heap → Res) → Env → Heap → Res) (fun _ _ _ _ => none) (fun f o k e h => heapK Res f h (k (e.put o.dst f.val))) f
noncomputable def rE (f : EffT) : RunT := fun P _ o k e h => rFin (f P e h) o k e h
noncomputable def e_move (x : Operand) : EffT := fun _ e _ => ret (e.eval x)
noncomputable def e_assign (x : Operand) : EffT := fun _ e _ => ret (e.eval x)
noncomputable def e_pick (c : Operand) (a : Operand) (b : Operand) : EffT := fun _ e _ => effPick (e.eval c) (e.eval a) (e.eval b)
noncomputable def e_alloc (t : TypeId) : EffT := fun P _ h => effAlloc P t h.nx
noncomputable def e_box (_t : TypeId) (x : Operand) : EffT := fun _ e h => effBox (e.eval x) h.nx
noncomputable def e_build (t : TypeId) (ps : (Array (Nat × Operand))) : EffT := fun P e h => eff P (.build t ps) e.eval h.get h.nx
noncomputable def e_buildSlice (t : TypeId) (n : Nat) (ps : (Array (Nat × Operand))) : EffT := fun P e h => eff P (.buildSlice t n ps) e.eval h.get h.nx
noncomputable def e_insert (t : TypeId) (m : Operand) (k : Operand) (x : Operand) : EffT := fun P e h => eff P (.insert t m k x) e.eval h.get h.nx
noncomputable def e_load (t : TypeId) (a : Operand) : EffT := fun P e h => effLoad P t (e.eval a) h.get
noncomputable def e_store (t : TypeId) (a : Operand) (x : Operand) : EffT := fun P e h => effStore P t (e.eval a) (e.eval x) h.get
noncomputable def e_ready (g : Nat) : EffT := fun P e h => eff P (.ready g) e.eval h.get h.nx
noncomputable def e_waits (g : Nat) : EffT := fun P e h => eff P (.waits g) e.eval h.get h.nx
noncomputable def e_nilCheck (x : Operand) : EffT := fun P e _ => effNil P (e.eval x)
noncomputable def e_binOp (op : BinOp) (t : TypeId) (x : Operand) (y : Operand) (_u : TypeId) : EffT := fun P e h => effBin P op t x y (e.eval x) (e.eval y) h.get
noncomputable def e_unOp (op : UnOp) (t : TypeId) (x : Operand) : EffT := fun P e h => eff P (.unOp op t x) e.eval h.get h.nx
noncomputable def e_convert (s : TypeId) (d : TypeId) (x : Operand) : EffT := fun P e h => effConv P s d (e.eval x) h.get h.nx
noncomputable def e_sliceToArrayPointer (d : TypeId) (x : Operand) : EffT := fun P e h => eff P (.sliceToArrayPointer d x) e.eval h.get h.nx
noncomputable def e_makeInterface (t : TypeId) (x : Operand) : EffT := fun P e h => eff P (.makeInterface t x) e.eval h.get h.nx
noncomputable def e_makeFunc (f : Fn) (a : (Array Operand)) (b : (Array Operand)) : EffT := fun P e h => eff P (.makeFunc f a b) e.eval h.get h.nx
noncomputable def e_makeMap (t : TypeId) (r : (Option Operand)) : EffT := fun P e h => eff P (.makeMap t r) e.eval h.get h.nx
noncomputable def e_makeChan (t : TypeId) (s : Operand) : EffT := fun P e h => eff P (.makeChan t s) e.eval h.get h.nx
noncomputable def e_makeSlice (t : TypeId) (l : Operand) (c : Operand) : EffT := fun P e h => eff P (.makeSlice t l c) e.eval h.get h.nx
noncomputable def e_slice (t : TypeId) (x : Operand) (lo : (Option Operand)) (hi : (Option Operand)) (mx : (Option Operand)) : EffT := fun P e h => eff P (.slice t x lo hi mx) e.eval h.get h.nx
noncomputable def e_fieldAddr (t : TypeId) (x : Operand) (i : Nat) : EffT := fun P e _ => effField P t (e.eval x) i
noncomputable def e_field (t : TypeId) (x : Operand) (i : Nat) : EffT := fun P e _ => effFieldV P t (e.eval x) i
noncomputable def e_indexAddr (t : TypeId) (x : Operand) (i : Operand) : EffT := fun P e _ => effIdx P t (e.eval x) (e.eval i)
noncomputable def e_index (t : TypeId) (x : Operand) (i : Operand) : EffT := fun P e _ => effIndex P t (e.eval x) (e.eval i)
noncomputable def e_lookup (t : TypeId) (m : Operand) (k : Operand) (ok : Bool) : EffT := fun P e h => effLookup P t (e.eval m) (e.eval k) ok h.get
noncomputable def e_mapUpdate (t : TypeId) (m : Operand) (k : Operand) (x : Operand) : EffT := fun P e h => eff P (.mapUpdate t m k x) e.eval h.get h.nx
noncomputable def e_mapEntry (t : TypeId) (m : Operand) (k : Operand) : EffT := fun P e h => eff P (.mapEntry t m k) e.eval h.get h.nx
noncomputable def e_entryStore (t : TypeId) (m : Operand) (s : Operand) (x : Operand) : EffT := fun P e h => eff P (.entryStore t m s x) e.eval h.get h.nx
noncomputable def e_range (t : TypeId) (x : Operand) : EffT := fun P e h => eff P (.range t x) e.eval h.get h.nx
noncomputable def e_next (i : Operand) (s : Bool) : EffT := fun P e h => eff P (.next i s) e.eval h.get h.nx
noncomputable def e_typeAssert (x : Operand) (t : TypeId) (a : TypeId) (ok : Bool) : EffT := fun P e h => eff P (.typeAssert x t a ok) e.eval h.get h.nx
noncomputable def e_extract (t : Operand) (i : Nat) : EffT := fun _ e _ => effExtract (e.eval t) i
noncomputable def e_go (c : Call) : EffT := fun P e h => eff P (.go c) e.eval h.get h.nx
noncomputable def e_defer (c : Call) : EffT := fun P e h => eff P (.defer c) e.eval h.get h.nx
noncomputable def e_send (c : Operand) (x : Operand) : EffT := fun P e h => eff P (.send c x) e.eval h.get h.nx
noncomputable def e_recv (t : TypeId) (c : Operand) (ok : Bool) : EffT := fun P e h => eff P (.recv t c ok) e.eval h.get h.nx
noncomputable def e_select (cs : (Array SelectCase)) (b : Bool) : EffT := fun P e h => eff P (.select cs b) e.eval h.get h.nx
noncomputable def r_call (c : Call) : RunT := fun P cl o k e h => match c.callee with
  | .builtin b => rFin (builtinEff P b c.argTypes (c.args.toList.map e.eval) h.get h.nx) o k e h
  | _ => match callee P c e.eval with
    | some x => match callK cl x h with
      | some (.ret v, h') => k (e.put o.dst v) h'
      | some (.pan v, h') => some (.pan v, e, h')
      | none => none
    | none => none
noncomputable def r_panic (x : Operand) : RunT := fun _ _ _ _ e h => match e.eval x with
  | .iface t v => some (.pan (.iface t v), e, h)
  | _ => none
noncomputable def r_entry (x : Operand) : RunT := fun _ _ o k e h => match effEntry (e.eval x) h.get with
  | some v => k (e.put o.dst v) h
  | none => none
noncomputable def rGo (op : Op) : RunT := @Op.rec (fun _ => RunT) (fun x => rE (e_move x)) (fun x => rE (e_assign x)) (fun c a b => rE (e_pick c a b)) (fun t => rE (e_alloc t)) (fun t x => rE (e_box t x)) (fun t ps => rE (e_build t ps)) (fun t n ps => rE (e_buildSlice t n ps)) (fun t m k x => rE (e_insert t m k x)) (fun t a => rE (e_load t a)) (fun t a x => rE (e_store t a x)) (fun g => rE (e_ready g)) (fun g => rE (e_waits g)) (fun x => rE (e_nilCheck x)) (fun op t x y u => rE (e_binOp op t x y u)) (fun op t x => rE (e_unOp op t x)) (fun s d x => rE (e_convert s d x)) (fun d x => rE (e_sliceToArrayPointer d x)) (fun t x => rE (e_makeInterface t x)) (fun f a b => rE (e_makeFunc f a b)) (fun t r => rE (e_makeMap t r)) (fun t s => rE (e_makeChan t s)) (fun t l c => rE (e_makeSlice t l c)) (fun t x lo hi mx => rE (e_slice t x lo hi mx)) (fun t x i => rE (e_fieldAddr t x i)) (fun t x i => rE (e_field t x i)) (fun t x i => rE (e_indexAddr t x i)) (fun t x i => rE (e_index t x i)) (fun t m k ok => rE (e_lookup t m k ok)) (fun t m k x => rE (e_mapUpdate t m k x)) (fun t m k => rE (e_mapEntry t m k)) (fun t m s x => rE (e_entryStore t m s x)) (fun t x => rE (e_range t x)) (fun i s => rE (e_next i s)) r_entry (fun x t a ok => rE (e_typeAssert x t a ok)) (fun t i => rE (e_extract t i)) r_call (fun c => rE (e_go c)) (fun c => rE (e_defer c)) r_panic (fun c x => rE (e_send c x)) (fun t c ok => rE (e_recv t c ok)) (fun cs b => rE (e_select cs b)) op
noncomputable def rOpen : Program → Caller → List Oper → Oper → (Env → Heap → Res) → Env → Heap → Res := fun P cl _ o k e h => rGo o.op P cl o k e h
noncomputable def rGuard : (Nat × Bool) → Program → Caller → List Oper → Oper → (Env → Heap → Res) → Env → Heap → Res := fun _ P cl all o k e h =>
  Bool.rec (motive := fun _ => Res) none (Bool.rec (motive := fun _ => Res) (k (e.put o.dst undef) h) (rGo o.op P cl o k e h) (wantedA all e o)) (guardOk all e o)
noncomputable def runOp (P : Program) (cl : Caller) (all : List Oper) (o : Oper) (k : Env → Heap → Res) (e : Env) (h : Heap) : Res :=
  Option.rec (motive := fun _ => Program → Caller → List Oper → Oper → (Env → Heap → Res) → Env → Heap → Res) rOpen rGuard o.guard P cl all o k e h
/-- Operations in the text's order. -/
noncomputable def runOps (P : Program) (cl : Caller) (all : List Oper) (l : List Oper) : Env → Heap → Res :=
  List.rec (motive := fun _ => Env → Heap → Res) (fun e h => some (.normal, e, h)) (fun o _ ih => runOp P cl all o ih) l

/- Regions whose order is open. What was done, operation by operation. -/
inductive Did where
  | skip
  | eff (rd : List Nat) (f : Eff) (nx : Nat)
  | call (h h' : Heap)
structure Rec where
  did : Did

/-- the operations in the text's order; what each did. -/
noncomputable def runRecS (P : Program) (cl : Caller) (all : List Oper) : List Oper → Env → Heap → Option (Env × Heap × List Did)
  | [], e, h => some (e, h, [])
  | o :: r, e, h =>
    if guardOk all e o = false then none else if wantedA all e o then
      match callOf o.op with
      | some c => match callee P c e.eval with
        | some x => match cl x.1 x.2 h with
          | some (.ret v, h') => match runRecS P cl all r (e.put o.dst v) h' with
            | some (e', h'', l) => some (e', h'', .call h h' :: l)
            | none => none
          | _ => none
        | none => none
      | none => match eff P o.op e.eval h.get h.nx with
        | some f => match runRecS P cl all r (e.put o.dst f.val) (h.apply f) with
          | some (e', h'', l) => some (e', h'', .eff (foot o.op e.eval) f h.nx :: l)
          | none => none
        | none => none
    else match runRecS P cl all r (e.put o.dst undef) h with
      | some (e', h'', l) => some (e', h'', .skip :: l)
      | none => none
where
  callOf : Op → Option Call
    | .call c => match c.callee with
      | .builtin _ => none
      | _ => some c
    | _ => none
/- .. and what is recorded -/
abbrev DidRes := Option (Env × Heap × List Did)
abbrev QT := Program → Caller → Oper → (Env → Heap → DidRes) → Env → Heap → DidRes
noncomputable def qCons (d : Did) (r : DidRes) : DidRes := Option.rec (motive := fun _ => Did → DidRes) (fun _ => none) (fun x => Prod.rec (motive := fun _ => Did → DidRes) (fun e y => Prod.rec (motive := fun _ => Did → DidRes) (fun h l d => some (e, h, d :: l)) y) x) r d
noncomputable def qFin (f : Option Eff) : Oper → (Env → Heap → DidRes) → Env → Heap → DidRes :=
  Option.rec (motive := fun _ => Oper → (Env → Heap → DidRes) → Env → Heap → DidRes) (fun _ _ _ _ => none) (fun f o ih e h => qCons (.eff (foot o.op e.eval) f h.nx) (heapK DidRes f h (ih (e.put o.dst f.val)))) f
noncomputable def qE (f : EffT) : QT := fun P _ o ih e h => qFin (f P e h) o ih e h
noncomputable def q_call (c : Call) : QT := fun P cl o ih e h => match runRecS.callOf (.call c) with
  | some c => match callee P c e.eval with
    | some x => match callK cl x h with
      | some (.ret v, h') => qCons (.call h h') (ih (e.put o.dst v) h')
      | _ => none
    | none => none
  | none => qFin (eff P (.call c) e.eval h.get h.nx) o ih e h
noncomputable def qGo (op : Op) : QT := @Op.rec (fun _ => QT) (fun x => qE (e_move x)) (fun x => qE (e_assign x)) (fun c a b => qE (e_pick c a b)) (fun t => qE (e_alloc t)) (fun t x => qE (e_box t x)) (fun t ps => qE (e_build t ps)) (fun t n ps => qE (e_buildSlice t n ps)) (fun t m k x => qE (e_insert t m k x)) (fun t a => qE (e_load t a)) (fun t a x => qE (e_store t a x)) (fun g => qE (e_ready g)) (fun g => qE (e_waits g)) (fun x => qE (e_nilCheck x)) (fun op t x y u => qE (e_binOp op t x y u)) (fun op t x => qE (e_unOp op t x)) (fun s d x => qE (e_convert s d x)) (fun d x => qE (e_sliceToArrayPointer d x)) (fun t x => qE (e_makeInterface t x)) (fun f a b => qE (e_makeFunc f a b)) (fun t r => qE (e_makeMap t r)) (fun t s => qE (e_makeChan t s)) (fun t l c => qE (e_makeSlice t l c)) (fun t x lo hi mx => qE (e_slice t x lo hi mx)) (fun t x i => qE (e_fieldAddr t x i)) (fun t x i => qE (e_field t x i)) (fun t x i => qE (e_indexAddr t x i)) (fun t x i => qE (e_index t x i)) (fun t m k ok => qE (e_lookup t m k ok)) (fun t m k x => qE (e_mapUpdate t m k x)) (fun t m k => qE (e_mapEntry t m k)) (fun t m s x => qE (e_entryStore t m s x)) (fun t x => qE (e_range t x)) (fun i s => qE (e_next i s)) (fun x => qE (fun P e h => eff P (.entry x) e.eval h.get h.nx)) (fun x t a ok => qE (e_typeAssert x t a ok)) (fun t i => qE (e_extract t i)) q_call (fun c => qE (e_go c)) (fun c => qE (e_defer c)) (fun x => qE (fun P e h => eff P (.panic x) e.eval h.get h.nx)) (fun c x => qE (e_send c x)) (fun t c ok => qE (e_recv t c ok)) (fun cs b => qE (e_select cs b)) op
noncomputable def qOpen : Program → Caller → List Oper → Oper → (Env → Heap → DidRes) → Env → Heap → DidRes := fun P cl _ o ih e h => qGo o.op P cl o ih e h
noncomputable def qGuard : (Nat × Bool) → Program → Caller → List Oper → Oper → (Env → Heap → DidRes) → Env → Heap → DidRes := fun _ P cl all o ih e h =>
  Bool.rec (motive := fun _ => DidRes) none (Bool.rec (motive := fun _ => DidRes) (qCons .skip (ih (e.put o.dst undef) h)) (qGo o.op P cl o ih e h) (wantedA all e o)) (guardOk all e o)
noncomputable def runRec (P : Program) (cl : Caller) (all : List Oper) (l : List Oper) : Env → Heap → DidRes :=
  List.rec (motive := fun _ => Env → Heap → DidRes) (fun e h => some (e, h, [])) (fun o _ ih e h =>
    Option.rec (motive := fun _ => Program → Caller → List Oper → Oper → (Env → Heap → DidRes) → Env → Heap → DidRes) qOpen qGuard o.guard P cl all o ih e h) l
def beqO : Option Value → Option Value → Bool
  | none, none => true
  | some a, some b => beqV 100 a b
  | _, _ => false
noncomputable def beqT (t : Trie Value) : Trie Value → Bool :=
  Trie.rec (motive := fun _ => Trie Value → Bool) (fun u => Trie.rec (motive := fun _ => Bool) true (fun _ _ _ _ _ => false) u)
    (fun o _ _ il ir u => Trie.rec (motive := fun _ => Bool) false (fun o' l' r' _ _ => beqO o o' && il l' && ir r') u) t
def beqEs : List (Value × Value × Nat) → List (Value × Value × Nat) → Bool
  | [], [] => true
  | x :: r, y :: s => beqV 100 x.1 y.1 && beqV 100 x.2.1 y.2.1 && Nat.beq x.2.2 y.2.2 && beqEs r s
  | _, _ => false
def beqNs : List Nat → List Nat → Bool
  | [], [] => true
  | x :: r, y :: s => Nat.beq x y && beqNs r s
  | _, _ => false
def beqF : Fact → Fact → Bool
  | .bin op o r, .bin op' o' r' => Nat.beq (opN op) (opN op') && beqV 100 o o' && beqV 100 r r'
  | .nib op o r, .nib op' o' r' => Nat.beq (opN op) (opN op') && beqV 100 o o' && beqV 100 r r'
  | .conv k r, .conv k' r' => Nat.beq (kindN k) (kindN k') && beqV 100 r r'
  | .mm a k b r, .mm a' k' b' r' => a == a' && Nat.beq (kindN k) (kindN k') && eqI b b' && beqV 100 r r'
  | _, _ => false
def beqFs : List Fact → List Fact → Bool
  | [], [] => true
  | x :: r, y :: s => beqF x y && beqFs r s
  | _, _ => false
/-- the same block? -/
noncomputable def beqBlk (a b : Blk) : Bool := match a, b with
  | .cells xs n k, .cells ys n' k' => Nat.beq n n' && decide (k = k') && beqT xs ys
  | .map es c, .map es' c' => Nat.beq c c' && beqEs es es'
  | .str s p, .str s' p' => s.data.toList == s'.data.toList && Nat.beq p p'
  | .iter r s sn none l, .iter r' s' sn' none l' => Nat.beq r r' && Nat.beq s s' && beqNs sn sn' && Nat.beq l l'
  | .tok a, .tok b => beqFs a b
  | .dead, .dead => true
  | _, _ => false
noncomputable def beqOB : Option Blk → Option Blk → Bool
  | none, none => true
  | some a, some b => beqBlk a b
  | _, _ => false
noncomputable def beqTB (t : Trie Blk) : Trie Blk → Bool :=
  Trie.rec (motive := fun _ => Trie Blk → Bool) (fun u => Trie.rec (motive := fun _ => Bool) true (fun _ _ _ _ _ => false) u)
    (fun o _ _ il ir u => Trie.rec (motive := fun _ => Bool) false (fun o' l' r' _ _ => beqOB o o' && il l' && ir r') u) t
/-- the same, or nothing is said? -/
def leO : Option Value → Option Value → Bool
  | _, none => true
  | some v, some u => beqV 100 v u
  | none, some _ => false
noncomputable def leT (t u : Trie Value) : Bool :=
  Trie.rec (motive := fun _ => Trie Value → Bool) (fun _ => true)
    (fun o' _ _ il ir t => Trie.rec (motive := fun _ => Bool) (leO none o' && il .leaf && ir .leaf) (fun o l r _ _ => leO o o' && il l && ir r) t) u t
noncomputable def beqB : Option Blk → Option Blk → Bool
  | some (.cells xs n k), some (.cells xs' n' k') => Nat.beq n n' && decide (k = k') && beqT xs xs'
  | some (.tok a), some (.tok b) => beqFs a b
  | some .dead, some .dead => true
  | _, _ => false

/-- (where the run can't tell, it may be proved) -/
noncomputable def sameB (x y : Option Blk) : Bool := beqB x y || @decide (x = y) (Classical.propDecidable _)
def disj (a b : List Nat) : Bool := a.all fun x => !(b.any fun y => Nat.beq x y)
def newIds (nx : Nat) : List Blk → List Nat
  | [] => []
  | _ :: r => nx :: newIds (Nat.succ nx) r
def Did.wrote : Did → List Nat
  | .eff _ f nx => f.wr.map (·.1) ++ newIds nx f.nw
  | _ => []
def Did.read : Did → List Nat
  | .eff rd _ _ => rd
  | _ => []
/-- May two operations that the text puts in this order be done in either? -/
noncomputable def swapOk (x y : Did) : Bool :=
  match x, y with
  | .skip, _ => true
  | _, .skip => true
  | .call _ _, .call _ _ => false
  | .call h h', .eff rd f _ => f.wr.isEmpty && rd.all fun b => sameB (h.get b) (h'.get b)
  | .eff rd f _, .call h h' => f.wr.isEmpty && f.nw.isEmpty && rd.all fun b => sameB (h.get b) (h'.get b)
  | x, y => disj x.wrote (y.read ++ y.wrote) && disj x.read y.wrote

/-- which operations stand ahead of each, in every order: bits. -/
def maskOf (acc : List Nat) (o : Oper) : Nat := o.after.toList.foldl (fun s e => if Region.binds .any e then s ||| 2 ^ e.on ||| acc.getD e.on 0 else s) 0
def befs : List Oper → List Nat → List Nat
  | [], acc => acc
  | o :: r, acc => befs r (acc ++ [maskOf acc o])
/-- what orders there may be: edges lead back; two that no edges order share no slots. -/
def drawText (ops : Array Oper) : Bool :=
  ((List.range ops.size).all fun j => match ops.toList[j]? with
    | some o => o.after.toList.all fun e => !Region.binds .any e || Nat.blt e.on j
    | none => true) &&
  ((List.range ops.size).all fun j => (List.range j).all fun i => ((befs ops.toList []).getD j 0).testBit i || match ops.toList[i]?, ops.toList[j]? with
    | some x, some y => Oper.apart ops x y
    | _, _ => true) && Region.noSelect ops

/-- each one that was done against those behind it. -/
noncomputable def drawOne (b : List Nat) (x : Did) (i : Nat) : List Did → Nat → Bool
  | [], _ => true
  | y :: r, j => ((b.getD j 0).testBit i || swapOk x y) && drawOne b x i r (j + 1)
noncomputable def drawDid (b : List Nat) : List Did → Nat → Bool
  | [], _ => true
  | x :: r, i => drawOne b x i r (i + 1) && drawDid b r (i + 1)

/-- 0: looks at no block; 1: looks, writes none; 2: the rest. -/
def opCls : Op → Nat
  | .move _ | .assign _ | .pick _ _ _ | .nilCheck _ | .unOp _ _ _ | .fieldAddr _ _ _ | .field _ _ _ | .indexAddr _ _ _ | .index _ _ _ | .extract _ _ | .makeInterface _ _ | .makeFunc _ _ _ => 0
  | .load _ _ | .lookup _ _ _ _ | .binOp _ _ _ _ _ => 1
  | _ => 2
def safeC (a b : Nat) : Bool := Nat.beq a 0 || Nat.beq b 0 || (Nat.beq a 1 && Nat.beq b 1)
def clsAt (ops : List Oper) (i : Nat) : Nat := match ops[i]? with
  | some o => opCls o.op
  | none => 2
/-- the pairs that no edge orders and whose kinds leave it open whether they may change places. -/
def dynPairs (ops : List Oper) : List (Nat × Nat) :=
  (List.range ops.length).flatMap fun j => ((List.range j).filter fun i => !(((befs ops []).getD j 0).testBit i) && !(safeC (clsAt ops i) (clsAt ops j))).map fun i => (i, j)
noncomputable def drawDid2 (ops : List Oper) (l : List Did) : Bool := (dynPairs ops).all fun p => match l[p.1]?, l[p.2]? with
  | some x, some y => swapOk x y
  | _, _ => true

noncomputable def runDraw (P : Program) (cl : Caller) (ops : Array Oper) (e : Env) (h : Heap) : Res :=
  Bool.rec (motive := fun _ => Res) none
    (match runRec P cl ops.toList ops.toList e h with
      | some (e', h', l) => Bool.rec (motive := fun _ => Res) none (some (.normal, e', h')) (drawDid2 ops.toList l)
      | none => none)
    (drawText ops)

noncomputable def scopeRun (eng : Code → Env → Heap → Res) (body : Code) : Nat → Code → Env → Heap → Res
  | 0, _, _, _ => none
  | n + 1, c, e, h => match eng c e h with
    | some (.goto l, e', h') => match findLabel body l with
      | some rest => scopeRun eng body n rest e' h'
      | none => none
    | r => r

noncomputable def resOne (P : Program) (e : Env) (h : Heap) (r : ResultVar) : Option Value := match r with
  | .tmp t => some (e.at t)
  | .cell a t => match effLoad P t (e.at a) h.get with
    | some f => some f.val
    | none => none
noncomputable def resAll (P : Program) (e : Env) (h : Heap) : List ResultVar → Option (List Value)
  | [] => some []
  | r :: l => match resOne P e h r, resAll P e h l with
    | some v, some vs => some (v :: vs)
    | _, _ => none
noncomputable def resultV (P : Program) (e : Env) (h : Heap) (rs : List ResultVar) : Option Value := match rs with
  | [r] => resOne P e h r
  | rs => match resAll P e h rs with
    | some vs => some (.tuple vs.toArray)
    | none => none

/- Loops over maps: every order at once. -/
/-- the parts of a loop over a map: iterator, tuple, flag, what comes behind. -/
def mapLoopOf (body : Code) : Option (Tmp × Tmp × Tmp × Code) := match body with
  | .seq (.region _ ops false) c2 => match ops.toList with
    | [nx, ex] => match nx.op with
      | .next (.tmp it) false => match nx.dst, nx.guard, ex.op, ex.dst, ex.guard with
        | some tup, none, .extract (.tmp tup') 0, some okT, none => if Nat.beq tup tup' then some (it, tup, okT, c2) else none
        | _, _, _, _, _ => none
      | _ => none
    | _ => none
  | _ => none

/-- what is kept of the temporaries at a loop's head: those that were there ahead of the loop. -/
noncomputable def maskT (t : Trie Value) : Trie Value → Trie Value :=
  Trie.rec (motive := fun _ => Trie Value → Trie Value) (fun _ => .leaf)
    (fun o _ _ il ir u => Trie.rec (motive := fun _ => Trie Value) .leaf (fun o' l' r' _ _ => .node (Option.rec none (fun _ => o') o) (il l') (ir r')) u) t
/-- a loop's head, without the iterator: the temporaries, the heap, the map's clock. -/
abbrev Core := Env × Heap × Nat
noncomputable def coreEnv (e0 : Env) (tup okT : Tmp) (e : Env) : Env := Env.put (Env.put (maskT e0 e) (some tup) topV) (some okT) topV
noncomputable def Heap.put (h : Heap) (d : Nat) (x : Blk) : Heap := ⟨h.t.set d x, h.nx⟩
/-- the heap when an iterator has gone on. -/
noncomputable def stepIt (h : Heap) (d r since : Nat) (seen : List Nat) (b clk : Nat) : Heap := h.apply ⟨undef, [(d, .iter r since (seen ++ [b]) (some b) clk)], []⟩
noncomputable def stepCore (eng : Code → Env → Heap → Res) (tup okT : Tmp) (c2 : Code) (e0 : Env) (d r clk : Nat) (c : Core) (x : Value × Value × Nat) : Option Core :=
  match eng c2 ((c.1.put (some tup) (.tuple #[.bool true, x.1, x.2.1])).put (some okT) (.bool true)) (c.2.1.put d (.look r x.2.2 clk)) with
  | some (.normal, e', h') => some (coreEnv e0 tup okT e', h'.put d .dead, clk)
  | _ => none
noncomputable def beqH (a b : Heap) : Bool := Nat.beq a.nx b.nx && beqTB a.t b.t
noncomputable def beqC (a b : Core) : Bool := Nat.beq a.2.2 b.2.2 && beqT a.1 b.1 && beqH a.2.1 b.2.1
noncomputable def findC (c : Core) : List Core → Nat → Option Nat
  | [], _ => none
  | x :: l, i => Bool.rec (findC c l (Nat.succ i)) (some i) (beqC c x)
/-- where each entry leads from one loop's head. -/
noncomputable def rowC (f : Value × Value × Nat → Option Core) : List (Value × Value × Nat) → List Core → List (Nat × Option Nat) × List Core
  | [], known => ([], known)
  | x :: l, known => match f x with
    | none => (fun y => ((x.2.2, none) :: y.1, y.2)) (rowC f l known)
    | some c => match findC c known 0 with
      | some i => (fun y => ((x.2.2, some i) :: y.1, y.2)) (rowC f l known)
      | none => (fun y => ((x.2.2, some known.length) :: y.1, y.2)) (rowC f l (known ++ [c]))
/-- the entries of the map, if the iterator is where it should be. -/
noncomputable def coreEs (it : Tmp) (d r since : Nat) (c : Core) : Option (List (Value × Value × Nat) × Nat) := match c.1.at it with
  | .pointer (some ⟨d', 0, none⟩) => match c.2.1.get r with
    | some (.map es clk) => bif Nat.beq d' d && Nat.ble since c.2.2 && Nat.blt d c.2.1.nx && !(Nat.beq r d) && es.all (fun x => Nat.blt x.2.2 since) then some (es, clk) else none
    | _ => none
  | _ => none
/-- all loop's heads that there may be; from each, where each entry leads. -/
noncomputable def closeC (eng : Code → Env → Heap → Res) (it tup okT : Tmp) (c2 : Code) (e0 : Env) (d r since : Nat) (n : Nat) : List Core → Nat → List (List (Nat × Option Nat)) → Option (List Core × List (List (Nat × Option Nat))) :=
  Nat.rec (motive := fun _ => List Core → Nat → List (List (Nat × Option Nat)) → Option (List Core × List (List (Nat × Option Nat)))) (fun _ _ _ => none)
    (fun _ ih known j rows => match known[j]? with
      | none => some (known, rows)
      | some c => match coreEs it d r since c with
        | none => none
        | some x => (fun y => ih y.2 (Nat.succ j) (rows ++ [y.1])) (rowC (stepCore eng tup okT c2 e0 d r x.2 c) x.1 known)) n

/- sets of entries that were given, as bits -/
def hasB (S b : Nat) : Bool := Nat.beq (Nat.land (Nat.shiftRight S b) 1) 1
def addB (S b : Nat) : Nat := Nat.lor S (Nat.pow 2 b)
noncomputable def goS (S : Nat) : List (Nat × Option Nat) → Option (List (Nat × Nat))
  | [] => some []
  | x :: l => Bool.rec (match x.2 with
      | some i => match goS S l with
        | some r => some ((i, addB S x.1) :: r)
        | none => none
      | none => none) (goS S l) (hasB S x.1)
noncomputable def goAll (rows : List (List (Nat × Option Nat))) : List (Nat × Nat) → Option (List (List (Nat × Nat)))
  | [] => some []
  | s :: l => match rows[s.1]? with
    | some row => match goS s.2 row with
      | some a => match goAll rows l with
        | some b => some (a :: b)
        | none => none
      | none => none
    | none => none
def memS (s : Nat × Nat) (l : List (Nat × Nat)) : Bool := l.any fun t => Nat.beq s.2 t.2 && Nat.beq s.1 t.1
noncomputable def dedup : List (Nat × Nat) → List (Nat × Nat) → List (Nat × Nat)
  | [], acc => acc
  | s :: l, acc => Bool.rec (dedup l (s :: acc)) (dedup l acc) (memS s acc)
/-- from level to level, until nothing is left: the one loop's head that is left then. -/
noncomputable def stage (rows : List (List (Nat × Option Nat))) (n : Nat) : List (Nat × Nat) → Option Nat :=
  Nat.rec (motive := fun _ => List (Nat × Nat) → Option Nat) (fun _ => none) (fun _ ih l => match goAll rows l with
    | none => none
    | some ll => Bool.rec
        (Bool.rec (ih (dedup ll.flatten [])) none (ll.any List.isEmpty))
        (match l with
          | [s] => some s.1
          | _ => none)
        (ll.all List.isEmpty)) n

noncomputable def explore (eng : Code → Env → Heap → Res) (it tup okT : Tmp) (c2 : Code) (n : Nat) (e : Env) (h : Heap) : Res := match e.at it with
  | .pointer (some ⟨d, 0, none⟩) => match h.get d with
    | some (.iter r since [] _ last) => match closeC eng it tup okT c2 e d r since n [(coreEnv e tup okT e, h.put d .dead, last)] 0 [] with
      | some x => match stage x.2 n [(0, 0)] with
        | some i => match x.1[i]? with
          | some c => match eng c2 ((c.1.put (some tup) (.tuple #[.bool false])).put (some okT) (.bool false)) (c.2.1.put d .dead) with
            | some (.normal, _, _) => none
            | r => r
          | none => none
        | none => none
      | none => none
    | _ => none
  | _ => none

/-- Code, given how calls are done (each case apart, so that the kernel copies little). -/
abbrev EngT := Program → Caller → Nat → (Code → Env → Heap → Res) → Env → Heap → Res
noncomputable def normK (ex : AExit) (e : Env) (h : Heap) (k : Env → Heap → Res) : Res :=
  AExit.rec (motive := fun _ => Env → Heap → (Env → Heap → Res) → Res) (fun e h k => k e h) (fun e h _ => some (.ret, e, h)) (fun i e h _ => some (.exit i, e, h)) (fun l e h _ => some (.goto l, e, h)) (fun v e h _ => some (.pan v, e, h)) ex e h k
noncomputable def onNormal (r : Res) (k : Env → Heap → Res) : Res :=
  Option.rec (motive := fun _ => (Env → Heap → Res) → Res) (fun _ => none) (fun x => Prod.rec (motive := fun _ => (Env → Heap → Res) → Res) (fun ex y => Prod.rec (motive := fun _ => (Env → Heap → Res) → Res) (fun e h => normK ex e h) y) x) r k
noncomputable def exitK (ex : AExit) (e : Env) (h : Heap) (id : Nat) : Res :=
  AExit.rec (motive := fun _ => Env → Heap → Nat → Res) (fun e h _ => some (.normal, e, h)) (fun e h _ => some (.ret, e, h)) (fun i e h id => Bool.rec (some (.exit i, e, h)) (some (.normal, e, h)) (Nat.beq i id)) (fun l e h _ => some (.goto l, e, h)) (fun v e h _ => some (.pan v, e, h)) ex e h id
noncomputable def onExit (r : Res) (id : Nat) : Res :=
  Option.rec (motive := fun _ => Nat → Res) (fun _ => none) (fun x => Prod.rec (motive := fun _ => Nat → Res) (fun ex y => Prod.rec (motive := fun _ => Nat → Res) (fun e h => exitK ex e h) y) x) r id
noncomputable def c_skip : EngT := fun _ _ _ _ e h => some (.normal, e, h)
noncomputable def c_region (ops : Array Oper) (draw : Bool) : EngT := fun P cl _ _ e h => Bool.rec (runOps P cl ops.toList ops.toList e h) (runDraw P cl ops e h) draw
noncomputable def c_seq (a b : Code) : EngT := fun _ _ _ eng e h => onNormal (eng a e h) (eng b)
noncomputable def c_cond (x : Operand) (a b : Code) : EngT := fun _ _ _ eng e h => match e.eval x with
  | .bool t => eng (Bool.rec b a t) e h
  | _ => none
noncomputable def c_block (id : Nat) (body : Code) : EngT := fun _ _ _ eng e h => onExit (eng body e h) id
noncomputable def c_loop (body : Code) : EngT := fun _ _ n eng e h => match mapLoopOf body with
  | some (it, tup, okT, c2) => explore eng it tup okT c2 n e h
  | none => onNormal (eng body e h) (eng (.loop body))
noncomputable def c_none : EngT := fun _ _ _ _ _ _ => none
noncomputable def c_exit (id : Nat) : EngT := fun _ _ _ _ e h => some (.exit id, e, h)
noncomputable def c_scope (body : Code) : EngT := fun _ _ n eng e h => scopeRun eng body n body e h
noncomputable def c_goto (l : Nat) : EngT := fun _ _ _ _ e h => some (.goto l, e, h)
noncomputable def c_ret : EngT := fun _ _ _ _ e h => some (.ret, e, h)
noncomputable def engC (c : Code) : EngT := @Code.rec (fun _ => EngT) c_skip (fun _ ops draw => c_region ops draw) (fun a b _ _ => c_seq a b) (fun x a b _ _ => c_cond x a b) (fun id b _ => c_block id b) (fun b _ => c_loop b) (fun _ _ _ _ _ _ => c_none) (fun id => c_exit id) (fun b _ => c_scope b) (fun _ => c_skip) (fun l => c_goto l) c_ret (fun _ => c_none) c
noncomputable def engine (P : Program) (cl : Caller) (n : Nat) : Code → Env → Heap → Res :=
  Nat.rec (motive := fun _ => Code → Env → Heap → Res) (fun _ _ _ => none) (fun n eng c e h => engC c P cl n eng e h) n

/- ## Functions: what is asked of their texts -/
def operOk (ng : Nat) (x : Operand) : Bool := match x with
  | .const v => plainV v
  | .global g => Nat.blt g ng
  | _ => true
def opersOk (ng nt : Nat) (o : Oper) : Bool := o.op.operands.toList.all (operOk ng) && (match o.dst with
  | some d => Nat.blt d nt
  | none => true)
def codeOk (ng nt : Nat) : Code → Bool
  | .region _ ops _ => ops.toList.all (opersOk ng nt)
  | .seq a b => codeOk ng nt a && codeOk ng nt b
  | .cond x a b => operOk ng x && codeOk ng nt a && codeOk ng nt b
  | .block _ b => codeOk ng nt b
  | .loop b => codeOk ng nt b
  | .scope b => codeOk ng nt b
  | .rangeFunc .. => false
  | _ => true
def fnOk (ng : Nat) (fn : Func) : Bool := fn.name != "runtime.NumGoroutine" && (match fn.body with
  | some c => codeOk ng fn.ntmps c
  | none => false)

abbrev Special := FuncId → Option (Caller → List Value → Heap → Option (Out × Heap))

/-- A call, given how those within are done. -/
noncomputable def callF (P : Program) (ng : Nat) (sp : Special) (fuel : Nat) (cl : Caller) : Caller := fun f args h =>
  match sp f with
  | some F => F cl args h
  | none => match P.funcs[f]? with
    | some fn => Bool.rec (motive := fun _ => Option (Out × Heap)) none
      (match fn.body with
        | some c => match engine P cl fuel c (storeL .leaf 0 args) h with
          | some (.normal, e, h') => match resultV P e h' fn.results.toList with
            | some v => some (.ret v, h')
            | none => none
          | some (.ret, e, h') => match resultV P e h' fn.results.toList with
            | some v => some (.ret v, h')
            | none => none
          | some (.pan v, _, h') => some (.pan v, h')
          | _ => none
        | none => none) (fnOk ng fn)
    | none => none

noncomputable def acall (P : Program) (ng : Nat) (sp : Special) (fuel n : Nat) : Caller :=
  Nat.rec (motive := fun _ => Caller) (fun _ _ _ => none) (fun _ ih => callF P ng sp fuel ih) n

noncomputable def isTrue (r : Option (Out × Heap)) : Bool := match r with
  | some (.ret (.bool b), _) => b
  | _ => false

end Go.AM
