/- Lemmas of the claim: the machine of the proof and the walks of the program. Conditions: as each says. -/
import GoSem.Step
import GoSem.Dispatch
import Derived.Orders
import Derived.Laws.Sem
import Derived.Laws.World
import Derived.Calls
import Derived.Laws.Cells
import Derived.Laws.Strings
import Derived.Laws.BytesString
section
/- The abstract machine: a deterministic big-step reading of the model's code over an abstract heap (no tape, no capacities, no orders). Conditions: what it can't tell it answers with none. -/
namespace Go.AM

/- ## Tries: finite maps from numbers, by recursors, so that the kernel goes quickly -/
inductive Trie (α : Type) where
  | leaf
  | node (v : Option α) (l r : Trie α)

inductive Path where
  | e | l (p : Path) | r (p : Path)
noncomputable def pathF (f : Nat) : Nat → Path := Nat.rec (motive := fun _ => Nat → Path) (fun _ => .e)
  (fun _ ih k => Nat.rec (motive := fun _ => Path) .e (fun k _ => Bool.rec (motive := fun _ => Path) (.r (ih (Nat.div k 2))) (.l (ih (Nat.div k 2))) (Nat.beq (Nat.mod k 2) 0)) k) f
noncomputable def path (k : Nat) : Path := Nat.rec (motive := fun _ => Path) .e (fun n _ => Bool.rec (motive := fun _ => Path) (.r (pathF n (Nat.div n 2))) (.l (pathF n (Nat.div n 2))) (Nat.beq (Nat.mod n 2) 0)) k

namespace Trie
variable {α : Type}
noncomputable def getP (p : Path) : Trie α → Option α := Path.rec (motive := fun _ => Trie α → Option α)
  (fun t => Trie.rec none (fun v _ _ _ _ => v) t) (fun _ ih t => Trie.rec none (fun _ l _ _ _ => ih l) t) (fun _ ih t => Trie.rec none (fun _ _ r _ _ => ih r) t) p
noncomputable def setP (v : α) (p : Path) : Trie α → Trie α := Path.rec (motive := fun _ => Trie α → Trie α)
  (fun t => Trie.rec (.node (some v) .leaf .leaf) (fun _ l r _ _ => .node (some v) l r) t)
  (fun _ ih t => Trie.rec (.node none (ih .leaf) .leaf) (fun o l r _ _ => .node o (ih l) r) t)
  (fun _ ih t => Trie.rec (.node none .leaf (ih .leaf)) (fun o l r _ _ => .node o l (ih r)) t) p
noncomputable def get (t : Trie α) (k : Nat) : Option α := getP (path k) t
noncomputable def set (t : Trie α) (k : Nat) (v : α) : Trie α := setP v (path k) t
end Trie

/- ## The heap -/
inductive Kind where
  | ro | exact | loose (e : Nat) | bytes | bld (t : Nat) | own (t : Nat)
  deriving DecidableEq

inductive Fact where
  | bin (op : BinOp) (o res : Value)
  | nib (op : BinOp) (o res : Value)
  | conv (k : IntKind) (res : Value)
  | mm (mn : Bool) (k : IntKind) (b : Int) (res : Value)
inductive Blk where
  | cells (xs : Trie Value) (n : Nat) (k : Kind)
  | map (es : List (Value × Value × Nat)) (clk : Nat)
  | str (s : ByteArray) (pos : Nat)
  | iter (r since : Nat) (seen : List Nat) (cur : Option Nat) (last : Nat)
  | look (r b last : Nat)
  | tok (fs : List Fact)
  | dead

structure Heap where
  t : Trie Blk
  nx : Nat
noncomputable def Heap.get (h : Heap) : Nat → Option Blk := h.t.get

noncomputable def loadL (xs : Trie Value) (off n : Nat) : List Value :=
  Nat.rec (motive := fun _ => Nat → List Value) (fun _ => []) (fun _ ih off => Option.rec (motive := fun _ => Value) undef (fun v => v) (xs.get off) :: ih (Nat.succ off)) n off
noncomputable def storeL (xs : Trie Value) (off : Nat) (l : List Value) : Trie Value :=
  List.rec (motive := fun _ => Trie Value → Nat → Trie Value) (fun t _ => t) (fun v _ ih t o => ih (t.set o v) (Nat.succ o)) l xs off
noncomputable def ofList (l : List Value) : Trie Value := storeL .leaf 0 l
noncomputable def repeatL (z : List Value) (n : Nat) : List Value :=
  Nat.rec (motive := fun _ => List Value) [] (fun _ ih => z ++ ih) n

/- ## Values -/
def plainCell : Value → Bool
  | .bool _ | .int .. | .string _ | .nilFunc | .nilIface | .pointer none | .map none | .slice none 0 0 => true
  | _ => false
def plainV : Value → Bool
  | .agg cs => cs.toList.all plainCell
  | .tuple cs => cs.toList.isEmpty
  | v => plainCell v
def cellsOf : Value → Option (List Value)
  | .agg cs => some cs.toList
  | .tuple _ => none
  | v => some [v]

def storable : Value → Bool
  | .tuple _ => false
  | _ => true

def sizeOf? (P : Program) (t : TypeId) : Option Nat := (P.info? t).map (·.size)
def zeroV (P : Program) (t : TypeId) : Option Value := match P.info? t with
  | some i => match i.zero with
    | some z => if plainV z then some z else none
    | none => none
  | none => none
def zeroL (P : Program) (t : TypeId) : Option (List Value) := match zeroV P t with
  | some z => cellsOf z
  | none => none
def aggB : Option TypeDesc → Bool
  | some (.struct _) | some (.array _ _) => true
  | _ => false

structure Eff where
  val : Value
  wr : List (Nat × Blk)
  nw : List Blk
def ret (v : Value) : Option Eff := some ⟨v, [], []⟩
noncomputable def mkCells (l : List Value) : Blk := .cells (ofList l) l.length .exact
noncomputable def fullT (v : Value) (d : Nat) : Trie Value := Nat.rec (motive := fun _ => Trie Value) .leaf (fun _ ih => .node (some v) ih ih) d
noncomputable def mkRow (z : List Value) (c : Nat) : Blk := cond (Nat.ble c 2048) (mkCells (repeatL z c)) (match z with
  | [v] => .cells (fullT v 48) c .exact
  | _ => mkCells (repeatL z c))
def ptr (b off : Nat) : Value := .pointer (some ⟨b, off, none⟩)

def aPart (P : Program) (t : TypeId) (cs : List Value) (off : Nat) : Option Value :=
  match P.underlying t with
  | none => none
  | some d => if aggB (some d) then match sizeOf? P t with
      | some s => if off + s ≤ cs.length then some (.agg ((cs.drop off).take s).toArray) else none
      | none => none
    else cs[off]?

def overL (cs : List Value) (off : Nat) (vs : List Value) : List Value := cs.take off ++ vs ++ cs.drop (off + vs.length)
def fillL (place : Nat → Option (Nat × Nat)) (cs : List Value) : List (Nat × Value) → Option (List Value)
  | [] => some cs
  | (i, v) :: r => match place i, cellsOf v with
    | some (off, size), some vs => if vs.length = size ∧ off + size ≤ cs.length then fillL place (overL cs off vs) r else none
    | _, _ => none
def aBuild (P : Program) (t : TypeId) (parts : List (Nat × Value)) : Option (List Value) :=
  match P.underlying t, zeroL P t with
  | some (.struct fields), some z =>
    if fields.toList.all fun f => (sizeOf? P f.type).isSome then
      fillL (fun i => match fields.toList[i]? with
        | some f => match sizeOf? P f.type with
          | some s => some (f.offset, s)
          | none => none
        | none => none) z parts
    else none
  | some (.array _ elem), some z => match sizeOf? P elem with
    | some size => fillL (fun i => some (i * size, size)) z parts
    | none => none
  | _, _ => none

def idx (x : Value) (n : Nat) : Option Nat := match x with
  | .int _ i => match i with
    | .ofNat i => cond (Nat.blt i n) (some i) none
    | _ => none
  | _ => none
def bnd (x : Option Value) (d n : Nat) : Option Nat := match x with
  | none => some d
  | some x => match x with
    | .int _ i => match i with
      | .ofNat i => cond (Nat.ble i n) (some i) none
      | _ => none
    | _ => none
def bounds (len cap : Nat) (lo hi mx : Option Value) : Option (Nat × Nat × Nat) :=
  match bnd mx cap cap with
  | none => none
  | some m => if mx.isSome && hi.isNone then none else
    match bnd hi len m with
    | none => none
    | some h => match bnd lo 0 h with
      | none => none
      | some l => cond (Nat.ble h m) (some (l, h, m)) none

def sliceAddr (a : Option Addr) (l m cap size : Nat) (mx : Bool) (g : Nat → Option Blk) : Option (Option Addr) :=
  match a with
  | none => some none
  | some ⟨_, _, some _⟩ => none
  | some ⟨b, off, none⟩ =>
    match g b with
    | some (.cells _ n k) =>
      match k with
      | .loose e => if off + cap * e = n ∧ mx = false then (if e = size then some (some ⟨b, off + l * size, none⟩) else none)
          else some (if m = l then some ⟨b, off, none⟩ else some ⟨b, off + l * size, none⟩)
      | .bytes => if off + cap = n ∧ mx = false then (if 1 = size then some (some ⟨b, off + l * size, none⟩) else none)
          else some (if m = l then some ⟨b, off, none⟩ else some ⟨b, off + l * size, none⟩)
      | .own _ => if off + cap = n ∧ mx = false then (if 1 = size then some (some ⟨b, off + l * size, none⟩) else none)
          else some (if m = l then some ⟨b, off, none⟩ else some ⟨b, off + l * size, none⟩)
      | _ => some (if m = l then some ⟨b, off, none⟩ else some ⟨b, off + l * size, none⟩)
    | _ => none

def effSlice (P : Program) (t : TypeId) (x : Value) (lo hi mx : Option Value) (g : Nat → Option Blk) : Option Eff :=
  match P.underlying t, x with
  | some .string, .string s =>
    if mx.isSome then none else
    match bounds s.size s.size lo hi none with
    | some (l, h, _) => ret (.string (s.extract l h))
    | none => none
  | some (.slice elem), .slice a len cap => match bounds len cap lo hi mx, sizeOf? P elem with
    | some (l, h, m), some size => match sliceAddr a l m cap size mx.isSome g with
      | some a' => ret (.slice a' (h - l) (m - l))
      | none => none
    | _, _ => none
  | some (.pointer arr), .pointer (some a) => match P.underlying arr with
    | some (.array n elem) => match bounds n n lo hi mx, sizeOf? P elem with
      | some (l, h, m), some size => ret (.slice (some (if m = l then a else a.add (l * size))) (h - l) (m - l))
      | _, _ => none
    | _ => none
  | some (.array n elem), .pointer (some a) => match bounds n n lo hi mx, sizeOf? P elem with
    | some (l, h, m), some size => ret (.slice (some (if m = l then a else a.add (l * size))) (h - l) (m - l))
    | _, _ => none
  | _, _ => none

/- ## Maps -/
def kindN : IntKind → Nat
  | .i8 => 0 | .i16 => 1 | .i32 => 2 | .i64 => 3 | .u8 => 4 | .u16 => 5 | .u32 => 6 | .u64 => 7

def simpleKey : Value → Bool
  | .int .. | .string _ | .bool _ => true
  | _ => false
def keyEq : Value → Value → Bool
  | .int _ a, .int _ b => a == b
  | .string a, .string b => a.data.toList == b.data.toList
  | .bool a, .bool b => a == b
  | _, _ => false
def shapeEq : Value → Value → Bool
  | .int k _, .int k' _ => Nat.beq (kindN k) (kindN k')
  | .string _, .string _ => true
  | .bool _, .bool _ => true
  | _, _ => false
def keysOk (k : Value) (es : List (Value × Value × Nat)) : Bool := es.all fun e => shapeEq k e.1
def findE (k : Value) : List (Value × Value × Nat) → Option Value
  | [] => none
  | (k', v, _) :: r => if keyEq k k' then some v else findE k r
def putE (k v : Value) (c : Nat) : List (Value × Value × Nat) → List (Value × Value × Nat)
  | [] => [(k, v, c)]
  | (k', v', b) :: r => if keyEq k k' then (k', v, b) :: r else (k', v', b) :: putE k v c r
def tick (k : Value) (es : List (Value × Value × Nat)) (c : Nat) : Nat := match findE k es with
  | some _ => c
  | none => Nat.succ c
def delE (k : Value) : List (Value × Value × Nat) → List (Value × Value × Nat)
  | [] => []
  | (k', v', b) :: r => if keyEq k k' then r else (k', v', b) :: delE k r

def effLookup (P : Program) (t : TypeId) (m k : Value) (ok : Bool) (g : Nat → Option Blk) : Option Eff :=
  match P.underlying t, m with
  | some (.map kt elem), .map r =>
    if !simpleKey k then none else
    match P.underlying kt, (match r with
      | none => some []
      | some r => match g r with
        | some (.map es _) => some es
        | _ => none) with
    | some d, some es => if !(keyDesc d k && keysOk k es) then none else match findE k es with
      | some v => ret (if ok then .tuple #[v, .bool true] else v)
      | none => match zeroV P elem with
        | some z => ret (if ok then .tuple #[z, .bool false] else z)
        | none => none
    | _, _ => none
  | _, _ => none
where
  keyDesc : TypeDesc → Value → Bool
    | .int _, .int .. | .string, .string _ | .bool, .bool _ => true
    | _, _ => false

def effUpdate (P : Program) (t : TypeId) (m k x : Value) (g : Nat → Option Blk) : Option Eff :=
  match P.underlying t, m with
  | some (.map kt _), .map (some r) => match P.underlying kt, g r with
    | some d, some (.map es c) => if simpleKey k && effLookup.keyDesc d k && keysOk k es && storable x then some ⟨undef, [(r, .map (putE k x c es) (tick k es c))], []⟩ else none
    | _, _ => none
  | _, _ => none

/- ## Builtins -/
noncomputable def firstS (g : Nat → Option Blk) (size n : Nat) (x : Value) : Option (List Value) :=
  match x with
  | .slice (some ⟨b, off, none⟩) _ _ => match g b with
    | some (.cells xs m _) => if off + n * size ≤ m then some (loadL xs off (n * size)) else none
    | _ => none
  | .slice none _ _ => if n = 0 then some [] else none
  | .string s => if size = 1 ∧ n ≤ s.size then some ((s.data.toList.take n).map fun b => .int .u8 b.toNat) else none
  | _ => none
def firstZ (x : Value) : Option (List Value) := match x with
  | .slice _ _ _ => some []
  | .string _ => some []
  | _ => none
noncomputable def firstL (g : Nat → Option Blk) (size n : Nat) (x : Value) : Option (List Value) := match n with
  | 0 => firstZ x
  | n + 1 => firstS g size (n + 1) x
def lenV : Value → Option Nat
  | .slice _ n _ => some n
  | .string s => some s.size
  | _ => none
def maybeRoom (k : Kind) (end_ m size el off : Nat) : Option Bool :=
  match k with
  | .loose e => if e = size then (if end_ = m then some true else some false) else none
  | .bytes => if 1 = size then (if end_ = m then some true else some false) else none
  | .own t => if 1 = size ∧ t = el ∧ off = 0 then (if end_ = m then some true else some false) else none
  | .exact => some false
  | .bld _ => some false
  | .ro => none

def notB (z : List Value) : Bool := match z with
  | [.int .u8 _] => false
  | _ => true
def newKind (z : List Value) (t s : Nat) : Kind := cond (notB z) (.loose s) (.own t)
noncomputable def aAppend (P : Program) (argTypes : Array TypeId) (s x : Value) (g : Nat → Option Blk) (nx : Nat) : Option Eff :=
  match argTypes.toList with
  | [st, xt] => match P.underlying st, P.underlying xt, s with
    | _, some (.int _), _ => none
    | some (.slice elem), some _, .slice base sLen sCap => match P.info? elem, zeroL P elem, lenV x with
      | some i, some z, some n =>
        if (sLen + n) * (i.bytes + i.size + 1) * 4 > 2 ^ 40 ∨ i.size = 0 ∨ z.length ≠ i.size then none else
        match firstL g i.size n x with
        | none => none
        | some new =>
          if sLen + n ≤ sCap then
            match base with
            | none => if n = 0 then ret (.slice none (sLen + n) sCap) else none
            | some ⟨b, off, none⟩ => match g b with
              | some (.cells xs m k) => match k with
                | .ro => if n = 0 then ret (.slice base (sLen + n) sCap) else none
                | _ => if off + (sLen + n) * i.size ≤ m then some ⟨.slice base (sLen + n) sCap, [(b, .cells (storeL xs (off + sLen * i.size) new) m k)], []⟩ else none
              | _ => none
            | _ => none
          else match firstL g i.size sLen s with
            | none => none
            | some old =>
              match base with
              | none => some ⟨.slice (some ⟨nx, 0, none⟩) (sLen + n) (sLen + n), [], [.cells (ofList (old ++ new)) (old ++ new).length (newKind z elem i.size)]⟩
              | some ⟨b, off, none⟩ => match g b with
                | some (.cells _ m k) => match maybeRoom k (off + sCap * i.size) m i.size elem off with
                  | some true => some ⟨.slice (some ⟨nx, 0, none⟩) (sLen + n) (sLen + n), [(b, .dead)], [.cells (ofList (old ++ new)) (old ++ new).length k]⟩
                  | some false => some ⟨.slice (some ⟨nx, 0, none⟩) (sLen + n) (sLen + n), [], [.cells (ofList (old ++ new)) (old ++ new).length (newKind z elem i.size)]⟩
                  | none => none
                | _ => none
              | _ => none
      | _, _, _ => none
    | _, _, _ => none
  | _ => none

noncomputable def aCopy (P : Program) (argTypes : Array TypeId) (d s : Value) (g : Nat → Option Blk) : Option Eff :=
  match argTypes.toList with
  | dt :: _ => match P.underlying dt, d with
    | some (.slice elem), .slice base dLen _ => match sizeOf? P elem, lenV s with
      | some size, some sl => match firstL g size (Nat.min sl dLen) s with
        | none => none
        | some cells => match base with
          | none => if cells = [] then ret (.int .i64 (Nat.min sl dLen)) else none
          | some ⟨b, off, none⟩ => match g b with
            | some (.cells xs m k) => match k with
              | .ro => none
              | _ => if off + cells.length ≤ m then some ⟨.int .i64 (Nat.min sl dLen), [(b, .cells (storeL xs off cells) m k)], []⟩ else none
            | _ => none
          | _ => none
      | _, _ => none
    | _, _ => none
  | _ => none

noncomputable def aClear (P : Program) (argTypes : Array TypeId) (x : Value) (g : Nat → Option Blk) : Option Eff :=
  match argTypes.toList with
  | t :: _ => match P.underlying t, x with
    | some (.map _ _), .map none => ret undef
    | some (.map _ _), .map (some r) => match g r with
      | some (.map _ c) => some ⟨undef, [(r, .map [] c)], []⟩
      | _ => none
    | some (.slice _), .slice none _ _ => ret undef
    | some (.slice elem), .slice (some ⟨b, off, none⟩) n _ => if n = 0 then ret undef else match zeroL P elem, g b with
      | some z, some (.cells xs m k) => match k with
        | .ro => none
        | _ => if off + n * z.length ≤ m then some ⟨undef, [(b, .cells (storeL xs off (repeatL z n)) m k)], []⟩ else none
      | _, _ => none
    | _, _ => none
  | _ => none

def aLen (P : Program) (argTypes : Array TypeId) (x : Value) (g : Nat → Option Blk) : Option Eff :=
  match argTypes.toList with
  | t :: _ => match P.underlying t, x with
    | some .string, .string s => ret (.int .i64 s.size)
    | some (.slice _), .slice _ n _ => ret (.int .i64 n)
    | some (.array n _), _ => ret (.int .i64 n)
    | some (.pointer arr), _ => match P.underlying arr with
      | some (.array n _) => ret (.int .i64 n)
      | _ => none
    | some (.map _ _), .map none => ret (.int .i64 0)
    | some (.map _ _), .map (some r) => match g r with
      | some (.map es _) => ret (.int .i64 es.length)
      | _ => none
    | _, _ => none
  | _ => none

def aDelete (P : Program) (argTypes : Array TypeId) (m k : Value) (g : Nat → Option Blk) : Option Eff :=
  match argTypes.toList with
  | t :: _ => match P.underlying t, m with
    | some (.map kt _), .map r => match P.underlying kt with
      | some d => if simpleKey k && effLookup.keyDesc d k then match r with
          | none => ret undef
          | some r => match g r with
            | some (.map es c) => if keysOk k es then some ⟨undef, [(r, .map (delE k es) c)], []⟩ else none
            | _ => none
        else none
      | none => none
    | _, _ => none
  | _ => none

def ltI (a b : Int) : Bool :=
  match a with
  | .ofNat a => match b with
    | .ofNat b => Nat.blt a b
    | .negSucc _ => false
  | .negSucc a => match b with
    | .ofNat _ => true
    | .negSucc b => Nat.blt b a

def minI : List Value → Option Value
  | [] => none
  | .int k a :: r => go k a r
  | _ => none
where go (k : IntKind) (a : Int) : List Value → Option Value
  | [] => some (.int k a)
  | .int _ b :: r => go k (cond (ltI b a) b a) r
  | _ => none
def maxI : List Value → Option Value
  | [] => none
  | .int k a :: r => go k a r
  | _ => none
where go (k : IntKind) (a : Int) : List Value → Option Value
  | [] => some (.int k a)
  | .int _ b :: r => go k (cond (ltI a b) b a) r
  | _ => none

def eqI (a b : Int) : Bool :=
  match a with
  | .ofNat a => match b with
    | .ofNat b => Nat.beq a b
    | .negSucc _ => false
  | .negSucc a => match b with
    | .ofNat _ => false
    | .negSucc b => Nat.beq a b
def factsOf (x : Option Blk) : List Fact := match x with
  | some (.tok fs) => fs
  | _ => []
noncomputable def findMM (mn : Bool) (k : IntKind) (b : Int) : List Fact → Option Value
  | [] => none
  | .mm mn' k' b' r :: l => cond (Bool.rec (Bool.not mn') mn' mn && Nat.beq (kindN k) (kindN k') && eqI b b') (some r) (findMM mn k b l)
  | _ :: l => findMM mn k b l
noncomputable def mmOf (mn : Bool) (args : List Value) (g : Nat → Option Blk) : Option Value := match args with
  | [.chan (some i), .int k b] => findMM mn k b (factsOf (g i))
  | [.int k b, .chan (some i)] => findMM mn k b (factsOf (g i))
  | _ => none

noncomputable def builtinEff (P : Program) (b : Builtin) (argTypes : Array TypeId) (args : List Value) (g : Nat → Option Blk) (nx : Nat) : Option Eff :=
  match b with
  | .append => match args with
    | [s, x] => aAppend P argTypes s x g nx
    | _ => none
  | .copy => match args with
    | [d, s] => aCopy P argTypes d s g
    | _ => none
  | .clear => match args with
    | [x] => aClear P argTypes x g
    | _ => none
  | .delete => match args with
    | [m, k] => aDelete P argTypes m k g
    | _ => none
  | .len => match args with
    | [x] => aLen P argTypes x g
    | _ => none
  | .min => match minI args with
    | some v => ret v
    | none => (mmOf true args g).bind ret
  | .max => match maxI args with
    | some v => ret v
    | none => (mmOf false args g).bind ret
  | _ => none

/- ## Numbers, comparisons -/
def wrapF (k : IntKind) (n : Int) : Int :=
  match k with
  | .i64 => match n with
    | .ofNat m => cond (Nat.ble m 9223372036854775807) (.ofNat m) (k.wrap n)
    | _ => k.wrap n
  | .u64 => match n with
    | .ofNat m => cond (Nat.ble m 18446744073709551615) (.ofNat m) (k.wrap n)
    | _ => k.wrap n
  | k => k.wrap n
def intOp (op : BinOp) (k : IntKind) (a b : Int) : Option Value :=
  match op with
  | .add => some (.int k (wrapF k (a + b)))
  | .sub => some (.int k (wrapF k (a - b)))
  | .mul => some (.int k (wrapF k (a * b)))
  | .quo => cond (eqI b 0) none (some (.int k (wrapF k (a.tdiv b))))
  | .rem => cond (eqI b 0) none (some (.int k (a.tmod b)))
  | .and => some (.int k (k.wrap (BitVec.ofInt k.bits a &&& BitVec.ofInt k.bits b).toNat))
  | .or => some (.int k (k.wrap (BitVec.ofInt k.bits a ||| BitVec.ofInt k.bits b).toNat))
  | .xor => some (.int k (k.wrap (BitVec.ofInt k.bits a ^^^ BitVec.ofInt k.bits b).toNat))
  | .andNot => some (.int k (k.wrap (BitVec.ofInt k.bits a &&& ~~~BitVec.ofInt k.bits b).toNat))
  | .eql => some (.bool (eqI a b))
  | .neq => some (.bool !(eqI a b))
  | .lss => some (.bool (ltI a b))
  | .leq => some (.bool !(ltI b a))
  | .gtr => some (.bool (ltI b a))
  | .geq => some (.bool !(ltI a b))
  | .shl => none
  | .shr => none
def shiftOp (op : BinOp) (k : IntKind) (a b : Int) : Option Value :=
  match b with
  | .ofNat b => match op with
    | .shl => some (.int k (wrapF k (a * 2 ^ (min b k.bits))))
    | .shr => some (.int k (a.fdiv (2 ^ (min b k.bits))))
    | _ => none
  | _ => none
def strOp (op : BinOp) (x y : ByteArray) : Option Value :=
  match op with
  | .add => if x.size + y.size ≤ 2 ^ 40 then some (.string (x ++ y)) else none
  | .eql => some (.bool (x.data.toList == y.data.toList))
  | .neq => some (.bool !(x.data.toList == y.data.toList))
  | .lss => some (.bool (Op.bytesLess x.data.toList y.data.toList))
  | .leq => some (.bool (Op.bytesLess x.data.toList y.data.toList || x.data.toList == y.data.toList))
  | .gtr => some (.bool !(Op.bytesLess x.data.toList y.data.toList || x.data.toList == y.data.toList))
  | .geq => some (.bool !Op.bytesLess x.data.toList y.data.toList)
  | _ => none

def evalPure {α : Type} (P : Program) : Sem α → Option α
  | .pure a => some a
  | .program k => evalPure P (k P)
  | _ => none

def firm : Kind → Bool
  | .exact => true
  | .loose _ => true
  | .bld _ => true
  | .own _ => true
  | _ => false
def eqlV (P : Program) (t : TypeId) (x y : Value) (g : Nat → Option Blk) : Option Bool :=
  match P.underlying t with
  | some (.pointer e) => match x, y with
    | .pointer none, .pointer b => some b.isNone
    | .pointer (some _), .pointer none => some false
    | .pointer (some a), .pointer (some b) => match sizeOf? P e with
      | some (_ + 1) => match g a.block, g b.block with
        | some (.cells _ _ k), some (.cells _ _ k') => if a.block = b.block then some (a == b) else
            if firm k && firm k' then some false else none
        | _, _ => none
      | _ => none
    | _, _ => none
  | some .bool => match x, y with
    | .bool a, .bool b => some (a == b)
    | _, _ => none
  | some (.slice _) => match x, y with
    | .slice none _ _, .slice b _ _ => some b.isNone
    | .slice (some _) _ _, .slice none _ _ => some false
    | _, _ => none
  | some (.map _ _) => match x, y with
    | .map none, .map b => some b.isNone
    | .map (some _), .map none => some false
    | _, _ => none
  | some (.func _ _ _) => match x, y with
    | .nilFunc, .nilFunc => some true
    | .nilFunc, .func _ _ _ => some false
    | .func _ _ _, .nilFunc => some false
    | _, _ => none
  | some (.interface _) => match x, y with
    | .nilIface, .iface _ _ => some false
    | .iface _ _, .nilIface => some false
    | _, _ => none
  | _ => none

mutual
def beqV : Nat → Value → Value → Bool
  | 0, _, _ => false
  | n + 1, x, y => match x, y with
    | .bool a, .bool b => a == b
    | .int k a, .int k' b => Nat.beq (kindN k) (kindN k') && eqI a b
    | .string a, .string b => a.data.toList == b.data.toList
    | .pointer none, .pointer none => true
    | .pointer (some a), .pointer (some b) => a == b
    | .slice none l c, .slice none l' c' => Nat.beq l l' && Nat.beq c c'
    | .slice (some a) l c, .slice (some b) l' c' => a == b && Nat.beq l l' && Nat.beq c c'
    | .map none, .map none => true
    | .map (some a), .map (some b) => Nat.beq a b
    | .func (.func f) a b, .func (.func f') a' b' => Nat.beq f f' && beqL n a.toList a'.toList && beqL n b.toList b'.toList
    | .nilFunc, .nilFunc => true
    | .iface t v, .iface t' v' => Nat.beq t t' && beqV n v v'
    | .nilIface, .nilIface => true
    | .chan none, .chan none => true
    | .chan (some a), .chan (some b) => Nat.beq a b
    | .agg a, .agg b => beqL n a.toList b.toList
    | .tuple a, .tuple b => beqL n a.toList b.toList
    | _, _ => false
def beqL : Nat → List Value → List Value → Bool
  | 0, _, _ => false
  | _ + 1, [], [] => true
  | n + 1, x :: r, y :: s => beqV n x y && beqL n r s
  | _, _, _ => false
end
def eqCells (P : Program) (e : TypeId) (g : Nat → Option Blk) : List Value → List Value → Option Bool
  | [], [] => some true
  | x :: r, y :: s => match eqlV P e x y g with
    | some true => eqCells P e g r s
    | some false => some false
    | none => none
  | _, _ => none
def eqArr (P : Program) (t : TypeId) (a b : Array Value) (g : Nat → Option Blk) : Option Bool := match P.underlying t with
  | some (.array len e) => match P.underlying e, sizeOf? P e with
    | some de, some 1 => if aggB (some de) || P.eqGuardType P.depth t || !(Nat.beq a.toList.length len) || !(Nat.beq b.toList.length len) then none else eqCells P e g a.toList b.toList
    | _, _ => none
  | _ => none
def opN : BinOp → Nat
  | .add => 0 | .sub => 1 | .mul => 2 | .quo => 3 | .rem => 4 | .and => 5 | .or => 6 | .xor => 7 | .shl => 8 | .shr => 9 | .andNot => 10
  | .eql => 11 | .neq => 12 | .lss => 13 | .leq => 14 | .gtr => 15 | .geq => 16
def findBin (op : BinOp) (o : Value) : List Fact → Option Value
  | [] => none
  | .bin op' o' r :: l => cond (Nat.beq (opN op) (opN op') && beqV 2 o o') (some r) (findBin op o l)
  | _ :: l => findBin op o l
def findNib (op : BinOp) (o : Value) : List Fact → Option Value
  | [] => none
  | .nib op' o' r :: l => cond (Nat.beq (opN op) (opN op') && beqV 2 o o') (some r) (findNib op o l)
  | _ :: l => findNib op o l
def findConv (k : IntKind) : List Fact → Option Value
  | [] => none
  | .conv k' r :: l => cond (Nat.beq (kindN k) (kindN k')) (some r) (findConv k l)
  | _ :: l => findConv k l
def effBin (P : Program) (op : BinOp) (t : TypeId) (x y : Operand) (a b : Value) (g : Nat → Option Blk) : Option Eff :=
  match a, b with
  | .int k a, .int k' b => match op with
    | .shl => (shiftOp .shl k a b).bind ret
    | .shr => (shiftOp .shr k a b).bind ret
    | op => cond (Nat.beq (kindN k) (kindN k')) ((intOp op k a b).bind ret) none
  | .string a, .string b => (strOp op a b).bind ret
  | .nilIface, .nilIface => match op, isConst x || isConst y, P.underlying t with
    | .eql, true, some (.interface _) => ret (.bool true)
    | .neq, true, some (.interface _) => ret (.bool false)
    | _, _, _ => none
  | .agg a, .agg b => match eqArr P t a b g with
    | some r => match op with
      | .eql => ret (.bool r)
      | .neq => ret (.bool !r)
      | _ => none
    | none => if plainV (.agg a) && plainV (.agg b) then match evalPure P (do eqGuard op t x y (.agg a) (.agg b); binOp op t (.agg a) (.agg b)) with
        | some v => if plainCell v then ret v else none
        | none => none else none
  | .chan (some i), .chan (some j) => cond (Nat.beq i j)
    (match op with
      | .eql => ret (.bool true)
      | .neq => ret (.bool false)
      | _ => none)
    ((findBin op (.chan (some j)) (factsOf (g i))).bind ret)
  | .chan (some i), .int k b => (findBin op (.int k b) (factsOf (g i))).bind ret
  | .int k a, .chan (some j) => (findNib op (.int k a) (factsOf (g j))).bind ret
  | a, b => match op with
    | .eql => (eqlV P t a b g).bind fun r => ret (.bool r)
    | .neq => (eqlV P t a b g).bind fun r => ret (.bool !r)
    | _ => none
where
  isConst : Operand → Bool
    | .const _ => true
    | _ => false

def effUn (op : UnOp) (x : Value) : Option Eff :=
  match op with
  | .not => match x with
    | .bool b => ret (.bool !b)
    | _ => none
  | .neg => match x with
    | .int k n => ret (.int k (k.wrap (0 - n)))
    | _ => none
  | .xor => match x with
    | .int k n => (intOp .xor k (if k.signed then -1 else k.max) n).bind ret
    | _ => none
  | .plus => none

/- ## Memory -/
noncomputable def effLoad (P : Program) (t : TypeId) (a : Value) (g : Nat → Option Blk) : Option Eff :=
  match a with
  | .pointer (some ⟨b, off, none⟩) => match g b with
    | some (.cells xs n _) => match P.underlying t with
      | none => none
      | some d => cond (aggB (some d))
          (match P.info? t with
            | some i => cond (Nat.ble (off + i.size) n) (ret (.agg (loadL xs off i.size).toArray)) none
            | none => none)
          (cond (Nat.blt off n) (match xs.get off with
            | some v => ret v
            | none => none) none)
    | _ => none
  | _ => none

noncomputable def effStore (P : Program) (t : TypeId) (a x : Value) (g : Nat → Option Blk) : Option Eff :=
  match a with
  | .pointer (some ⟨b, off, none⟩) => match g b with
    | some (.cells xs n k) => match k with
      | .ro => none
      | k => match P.info? t, cellsOf x with
        | some i, some vs => cond (Nat.beq vs.length i.size) (cond (Nat.ble (off + i.size) n)
            (some ⟨undef, [(b, .cells (storeL xs off vs) n k)], []⟩) none) none
        | _, _ => none
    | _ => none
  | _ => none

def effNil (P : Program) (x : Value) : Option Eff :=
  match x with
  | .pointer (some a) => ret (.pointer (some a))
  | .iface t v => ret (.iface t v)
  | .func (.func f) a b => ret (.func (.func f) a b)
  | .func (.method name) a b => match a.toList with
    | .iface t _ :: _ => match P.info? t with
      | some i => match i.methods.toList.find? (·.name == name) with
        | some m => if m.path.toList.isEmpty then match m.func with
            | some (_, true) => ret (.func (.method name) a b)
            | _ => none else none
        | none => none
      | none => none
    | _ => none
  | _ => none

noncomputable def bytesAt (b : Option Blk) (off len : Nat) : Option ByteArray :=
  match b with
  | some (.cells xs n _) => if off + len ≤ n then go (loadL xs off len) [] else none
  | _ => none
where go : List Value → List UInt8 → Option ByteArray
  | [], acc => some ⟨acc.reverse.toArray⟩
  | .int .u8 n :: r, acc => go r (UInt8.ofNat n.toNat :: acc)
  | _, _ => none

noncomputable def effConv (P : Program) (src dst : TypeId) (x : Value) (g : Nat → Option Blk) (nx : Nat) : Option Eff :=
  match x with
  | .int _ n => match P.underlying src, P.underlying dst with
    | some _, some (.int k) => ret (.int k (wrapF k n))
    | some _, some .string => ret (.string (Utf8.encode n))
    | _, _ => none
  | .chan (some i) => match P.underlying src, P.underlying dst with
    | some _, some (.int k) => (findConv k (factsOf (g i))).bind ret
    | _, _ => none
  | .string s => match P.underlying src, P.underlying dst with
    | some _, some .string => ret (.string s)
    | some _, some (.slice e) => match P.underlying e with
      | some (.int .u8) => some ⟨.slice (some ⟨nx, 0, none⟩) s.size s.size, [], [.cells (ofList (s.data.toList.map fun b => .int .u8 b.toNat)) s.size .bytes]⟩
      | _ => none
    | _, _ => none
  | .slice a len _ => match P.underlying src, P.underlying dst with
    | some (.slice e), some .string => match P.underlying e with
      | some (.int .u8) => match a with
        | none => ret (.string .empty)
        | some ⟨b, off, none⟩ => (bytesAt (g b) off len).bind fun s => ret (.string s)
        | _ => none
      | _ => none
    | _, _ => none
  | _ => none

noncomputable def effMakeSlice (P : Program) (t : TypeId) (l c : Value) (nx : Nat) : Option Eff :=
  match P.underlying t with
  | some (.slice elem) => match l with
    | .int _ (.ofNat l) => match c with
      | .int _ (.ofNat c) => match P.info? elem, zeroL P elem with
        | some i, some z => cond (Nat.ble l c && Nat.ble (c * (i.bytes + i.size + 1)) (2 ^ 40) && Nat.beq z.length i.size)
            (some ⟨.slice (some ⟨nx, 0, none⟩) l c, [], [mkRow z c]⟩) none
        | _, _ => none
      | _ => none
    | _ => none
  | _ => none

def effField (P : Program) (s : TypeId) (x : Value) (f : Nat) : Option Eff :=
  match P.underlying s, x with
  | some (.struct fields), .pointer (some a) => match fields.toList[f]? with
    | some f => match P.info? f.type with
      | some i => cond (Nat.beq i.size 0) none (ret (.pointer (some (a.add f.offset))))
      | none => none
    | none => none
  | _, _ => none

def effIdx (P : Program) (t : TypeId) (x ix : Value) : Option Eff :=
  match P.underlying t, x with
  | some (.array len elem), .pointer (some a) => match idx ix len, sizeOf? P elem with
    | some i, some s => ret (.pointer (some (a.add (i * s))))
    | _, _ => none
  | some (.slice elem), .slice (some a) len _ => match idx ix len, sizeOf? P elem with
    | some i, some s => ret (.pointer (some (a.add (i * s))))
    | _, _ => none
  | _, _ => none

def effIndex (P : Program) (t : TypeId) (x ix : Value) : Option Eff :=
  match P.underlying t, x with
  | some (.array len elem), .agg cs => match idx ix len, sizeOf? P elem with
    | some i, some s => (aPart P elem cs.toList (i * s)).bind ret
    | _, _ => none
  | some .string, .string s => match idx ix s.size with
    | some i => match s.data.toList[i]? with
      | some b => ret (.int .u8 b.toNat)
      | none => none
    | none => none
  | _, _ => none

def effNextS (it : Value) (g : Nat → Option Blk) : Option Eff :=
  match it with
  | .pointer (some ⟨r, 0, none⟩) => match g r with
    | some (.str s pos) =>
      if pos < s.size then some ⟨.tuple #[.bool true, .int .i64 pos, .int .i32 (Utf8.decode s pos).1], [(r, .str s (pos + (Utf8.decode s pos).2))], []⟩
      else ret (.tuple #[.bool false])
    | _ => none
  | _ => none

def effAssert (P : Program) (x : Value) (asserted : TypeId) (ok : Bool) : Option Eff :=
  match P.underlying asserted with
  | none => none
  | some (.interface _) => none
  | some _ => match x with
    | .nilIface => if ok then fails else none
    | .iface t v => if t = asserted then ret (if ok then .tuple #[v, .bool true] else v) else if ok then fails else none
    | _ => none
where fails : Option Eff := match zeroV P asserted with
  | some z => ret (.tuple #[z, .bool false])
  | none => none

noncomputable def effBuildSlice (P : Program) (t : TypeId) (len : Nat) (parts : List (Nat × Value)) (nx : Nat) : Option Eff :=
  match P.underlying t with
  | some (.slice elem) => match sizeOf? P elem, zeroL P elem with
    | some size, some z =>
      if len * size > 2 ^ 20 ∨ z.length ≠ size then none else
      match fillL (fun i => some (i * size, size)) (repeatL z len) parts with
      | some cells => some ⟨.slice (some ⟨nx, 0, none⟩) len len, [], [mkCells cells]⟩
      | none => none
    | _, _ => none
  | _ => none

def effFieldV (P : Program) (t : TypeId) (x : Value) (f : Nat) : Option Eff :=
  match P.underlying t, x with
  | some (.struct fields), .agg cs => match fields.toList[f]? with
    | some f => (aPart P f.type cs.toList f.offset).bind ret
    | none => none
  | _, _ => none

def effPick (c a b : Value) : Option Eff := match c with
  | .bool t => ret (cond t a b)
  | _ => none
def bldL (z : List Value) : Bool := match z with
  | [.pointer none, .slice none 0 0] => true
  | _ => false
noncomputable def effAlloc (P : Program) (e : TypeId) (nx : Nat) : Option Eff := match zeroL P e with
  | some z => some ⟨ptr nx 0, [], [.cells (ofList z) z.length (cond (bldL z) (.bld e) .exact)]⟩
  | none => none
noncomputable def effBox (x : Value) (nx : Nat) : Option Eff := match cellsOf x with
  | some z => some ⟨ptr nx 0, [], [mkCells z]⟩
  | none => none
def effExtract (t : Value) (i : Nat) : Option Eff := match t with
  | .tuple vs => match vs.toList[i]? with
    | some v => if storable v then ret v else none
    | none => none
  | _ => none
def effArrPtr (P : Program) (arr : TypeId) (x : Value) : Option Eff :=
  match P.underlying arr, x with
  | some (.array n _), .slice a len _ => if len < n ∨ n = 0 then none else ret (.pointer a)
  | _, _ => none
def effIface (P : Program) (t : TypeId) (x : Value) : Option Eff :=
  match P.underlying t with
  | none => none
  | some (.interface _) => none
  | some _ => ret (.iface t x)
def effRange (P : Program) (t : TypeId) (x : Value) (g : Nat → Option Blk) (nx : Nat) : Option Eff :=
  match P.underlying t, x with
  | some .string, .string s => some ⟨ptr nx 0, [], [.str s 0]⟩
  | some (.map _ _), .map (some r) => match g r with
    | some (.map _ c) => some ⟨ptr nx 0, [], [.iter r c [] none c]⟩
    | _ => none
  | _, _ => none
def effMakeMap (P : Program) (t : TypeId) (x : Option Value) (nx : Nat) : Option Eff := match x with
  | none => some ⟨.map (some nx), [], [.map [] 0]⟩
  | some (.int _ _) => match P.underlying t with
    | some (.map _ _) => some ⟨.map (some nx), [], [.map [] 0]⟩
    | _ => none
  | _ => none
def effFunc (fn : Fn) (first captured : Array Value) : Option Eff := ret (.func fn first captured)
def effNext (it : Value) (isString : Bool) (g : Nat → Option Blk) : Option Eff := match isString with
  | true => effNextS it g
  | false => none
noncomputable def effCall (P : Program) (c : Call) (ρ : Operand → Value) (g : Nat → Option Blk) (nx : Nat) : Option Eff := match c.callee with
  | .builtin b => builtinEff P b c.argTypes (c.args.toList.map ρ) g nx
  | _ => none

noncomputable def eff (P : Program) (op : Op) (ρ : Operand → Value) (g : Nat → Option Blk) (nx : Nat) : Option Eff :=
  match op with
  | .move x => ret (ρ x)
  | .assign x => ret (ρ x)
  | .pick c a b => effPick (ρ c) (ρ a) (ρ b)
  | .alloc e => effAlloc P e nx
  | .box _ x => effBox (ρ x) nx
  | .build t parts => (aBuild P t (parts.toList.map fun x => (x.1, ρ x.2))).bind fun a => ret (.agg a.toArray)
  | .buildSlice t len parts => effBuildSlice P t len (parts.toList.map fun x => (x.1, ρ x.2)) nx
  | .insert t m k x => effUpdate P t (ρ m) (ρ k) (ρ x) g
  | .load t a => effLoad P t (ρ a) g
  | .store t a x => effStore P t (ρ a) (ρ x) g
  | .ready _ => none
  | .waits _ => none
  | .nilCheck x => effNil P (ρ x)
  | .binOp op t x y _ => effBin P op t x y (ρ x) (ρ y) g
  | .unOp op _ x => effUn op (ρ x)
  | .convert src dst x => effConv P src dst (ρ x) g nx
  | .sliceToArrayPointer arr x => effArrPtr P arr (ρ x)
  | .makeInterface t x => effIface P t (ρ x)
  | .makeFunc fn first captured => effFunc fn (first.map ρ) (captured.map ρ)
  | .makeMap t x => effMakeMap P t (x.map ρ) nx
  | .makeChan _ _ => none
  | .makeSlice t l c => effMakeSlice P t (ρ l) (ρ c) nx
  | .slice t x lo hi mx => effSlice P t (ρ x) (lo.map ρ) (hi.map ρ) (mx.map ρ) g
  | .fieldAddr s x f => effField P s (ρ x) f
  | .field t x f => effFieldV P t (ρ x) f
  | .indexAddr t x ix => effIdx P t (ρ x) (ρ ix)
  | .index t x ix => effIndex P t (ρ x) (ρ ix)
  | .lookup t m k ok => effLookup P t (ρ m) (ρ k) ok g
  | .mapUpdate t m k x => effUpdate P t (ρ m) (ρ k) (ρ x) g
  | .mapEntry _ _ _ => none
  | .entryStore _ _ _ _ => none
  | .range t x => effRange P t (ρ x) g nx
  | .next it s => effNext (ρ it) s g
  | .entry _ => none
  | .typeAssert x _ asserted ok => effAssert P (ρ x) asserted ok
  | .extract t i => effExtract (ρ t) i
  | .call c => effCall P c ρ g nx
  | .go _ => none
  | .defer _ => none
  | .panic _ => none
  | .send _ _ => none
  | .recv _ _ _ => none
  | .select _ _ => none

def blkOf : Value → List Nat
  | .pointer (some a) => [a.block]
  | .slice (some a) _ _ => [a.block]
  | .map (some r) => [r]
  | .chan (some i) => [i]
  | .agg c => c.toList.flatMap fun
    | .pointer (some a) => [a.block]
    | _ => []
  | _ => []
def looks : Op → Bool
  | .range .. | .load .. | .store .. | .binOp .. | .convert .. | .slice .. | .lookup .. | .mapUpdate .. | .insert .. | .next .. | .call _ => true
  | _ => false
def foot (op : Op) (ρ : Operand → Value) : List Nat := if looks op then op.operands.toList.flatMap fun x => blkOf (ρ x) else []

/- ## Frames, regions -/
abbrev Env := Trie Value
abbrev topV : Value := .tuple #[.tuple #[]]
noncomputable def Env.at (e : Env) (t : Tmp) : Value := Option.rec (motive := fun _ => Value) topV (fun v => v) (e.get t)
noncomputable def Env.eval (e : Env) (x : Operand) : Value := match x with
  | .tmp t => e.at t
  | .const v => v
  | .global g => .pointer (some ⟨g, 0, none⟩)
  | .func f => .func (.func f) #[] #[]
noncomputable def Env.put (e : Env) (d : Option Tmp) (v : Value) : Env := match d with
  | some d => e.set d v
  | none => e

noncomputable def applyWr (t : Trie Blk) (l : List (Nat × Blk)) : Trie Blk := match l with
  | [] => t
  | x :: r => applyWr (t.set x.1 x.2) r
noncomputable def applyNw (t : Trie Blk) (nx : Nat) (l : List Blk) : Heap := match l with
  | [] => ⟨t, nx⟩
  | x :: r => applyNw (t.set nx x) (Nat.succ nx) r
noncomputable def Heap.apply (h : Heap) (e : Eff) : Heap := match e.nw with
  | [] => match e.wr with
    | [] => h
    | w => ⟨applyWr h.t w, h.nx⟩
  | n => applyNw (applyWr h.t e.wr) h.nx n

noncomputable def wantedA (ops : List Oper) (e : Env) (o : Oper) : Bool :=
  match o.guard with
  | none => true
  | some (j, want) => match (ops[j]?).bind (·.dst) with
    | some d => match e.at d with
      | .bool b => Bool.rec (Bool.not want) want b
      | _ => false
    | none => false

noncomputable def guardOk (ops : List Oper) (e : Env) (o : Oper) : Bool :=
  match o.guard with
  | none => true
  | some (j, _) => match (ops[j]?).bind (·.dst) with
    | some d => match e.at d with
      | .chan _ => false
      | .tuple c => c.toList.isEmpty
      | _ => true
    | none => true

def callee (P : Program) (c : Call) (ρ : Operand → Value) : Option (FuncId × List Value) :=
  match c.callee with
  | .value f => match ρ f with
    | .func (.func f) first captured => some (f, first.toList ++ c.args.toList.map ρ ++ captured.toList)
    | _ => none
  | .invoke r name => match ρ r with
    | .iface t v => match P.info? t with
      | some i => match i.methods.toList.find? (·.name == name), P.underlying t, v with
        | some m, some (.pointer _), .pointer a => if m.path.toList.isEmpty then match m.func with
            | some (f, true) => some (f, .pointer a :: c.args.toList.map ρ)
            | _ => none else none
        | _, _, _ => none
      | none => none
    | _ => none
  | .builtin _ => none

inductive Out where
  | ret (v : Value)
  | pan (v : Value)
inductive AExit where
  | normal | ret
  | exit (id : Nat)
  | goto (l : Nat)
  | pan (v : Value)
abbrev Caller := FuncId → List Value → Heap → Option (Out × Heap)
abbrev Res := Option (AExit × Env × Heap)

/- Arguments, laid out as plain values ahead of a call: two calls of the same are the same term then, and the kernel finds the second one's answer again. -/
noncomputable def forceN (α : Type) (n : Nat) : (Nat → α) → α := Nat.rec (motive := fun _ => (Nat → α) → α) (fun k => k Nat.zero) (fun m _ k => k (Nat.succ m)) n
noncomputable def forceB (α : Type) (b : Bool) : (Bool → α) → α := Bool.rec (motive := fun _ => (Bool → α) → α) (fun k => k false) (fun k => k true) b
noncomputable def forceI (α : Type) (i : Int) : (Int → α) → α := Int.rec (motive := fun _ => (Int → α) → α) (fun n k => forceN α n fun n => k (.ofNat n)) (fun n k => forceN α n fun n => k (.negSucc n)) i
noncomputable def forceO (α : Type) (o : Option Nat) : (Option Nat → α) → α := Option.rec (motive := fun _ => (Option Nat → α) → α) (fun k => k none) (fun n k => forceN α n fun n => k (some n)) o
noncomputable def forceA (α : Type) (o : Option Addr) : (Option Addr → α) → α := Option.rec (motive := fun _ => (Option Addr → α) → α) (fun k => k none)
  (fun a => Addr.rec (motive := fun _ => (Option Addr → α) → α) (fun b off s k => forceN α b fun b => forceN α off fun off => forceO α s fun s => k (some ⟨b, off, s⟩)) a) o
noncomputable def forceK (α : Type) (i : IntKind) : (IntKind → α) → α := IntKind.rec (motive := fun _ => (IntKind → α) → α) (fun k => k .i8) (fun k => k .i16) (fun k => k .i32) (fun k => k .i64) (fun k => k .u8) (fun k => k .u16) (fun k => k .u32) (fun k => k .u64) i
noncomputable def forceL (α : Type) (fv : Value → (Value → α) → α) (l : List Value) : (List Value → α) → α := List.rec (motive := fun _ => (List Value → α) → α) (fun k => k []) (fun x _ ih k => fv x fun x => ih fun r => k (x :: r)) l
noncomputable def forceV1 (α : Type) (ih : Value → (Value → α) → α) (v : Value) (k : Value → α) : α := match v with
  | .bool b => forceB α b fun b => k (.bool b)
  | .int kd i => forceK α kd fun kd => forceI α i fun i => k (.int kd i)
  | .pointer a => forceA α a fun a => k (.pointer a)
  | .slice a l c => forceA α a fun a => forceN α l fun l => forceN α c fun c => k (.slice a l c)
  | .map r => forceO α r fun r => k (.map r)
  | .chan r => forceO α r fun r => k (.chan r)
  | .iface t v => forceN α t fun t => ih v fun v => k (.iface t v)
  | .agg cs => forceL α ih cs.toList fun l => k (.agg ⟨l⟩)
  | .tuple cs => forceL α ih cs.toList fun l => k (.tuple ⟨l⟩)
  | v => k v
noncomputable def forceV (α : Type) (n : Nat) : Value → (Value → α) → α := Nat.rec (motive := fun _ => Value → (Value → α) → α) (fun v k => k v) (fun _ ih => forceV1 α ih) n
noncomputable def callK (cl : Caller) (x : FuncId × List Value) (h : Heap) : Option (Out × Heap) :=
  Prod.rec (motive := fun _ => Caller → Heap → Option (Out × Heap)) (fun f as cl h => forceN (Option (Out × Heap)) f fun f => forceL (Option (Out × Heap)) (forceV (Option (Out × Heap)) 4) as fun as => cl f as h) x cl h

def effEntry (it : Value) (g : Nat → Option Blk) : Option Value := match it with
  | .pointer (some ⟨d, 0, none⟩) => match g d with
    | some (.look r b last) => match g r with
      | some (.map es c) => bif Nat.beq c last then match es.find? (fun x => Nat.beq x.2.2 b) with
          | some x => some (.tuple #[x.1, x.2.1])
          | none => none
        else none
      | _ => none
    | _ => none
  | _ => none

noncomputable def runOpS (P : Program) (cl : Caller) (all : List Oper) (o : Oper) (k : Env → Heap → Res) (e : Env) (h : Heap) : Res :=
  Bool.rec (motive := fun _ => Res) none (Bool.rec (motive := fun _ => Res) (k (e.put o.dst undef) h)
    (match o.op with
      | .call c => match c.callee with
        | .builtin b => match builtinEff P b c.argTypes (c.args.toList.map e.eval) h.get h.nx with
          | some f => k (e.put o.dst f.val) (h.apply f)
          | none => none
        | _ => match callee P c e.eval with
          | some x => match cl x.1 x.2 h with
            | some (.ret v, h') => k (e.put o.dst v) h'
            | some (.pan v, h') => some (.pan v, e, h')
            | none => none
          | none => none
      | .panic x => match e.eval x with
        | .iface t v => some (.pan (.iface t v), e, h)
        | _ => none
      | .entry x => match effEntry (e.eval x) h.get with
        | some v => k (e.put o.dst v) h
        | none => none
      | op => match eff P op e.eval h.get h.nx with
        | some f => k (e.put o.dst f.val) (h.apply f)
        | none => none)
    (wantedA all e o)) (guardOk all e o)
/- ## The same, laid out so that the kernel copies little -/
abbrev EffT := Program → Env → Heap → Option Eff
abbrev RunT := Program → Caller → Oper → (Env → Heap → Res) → Env → Heap → Res
noncomputable def heapK (α : Type) (f : Eff) (h : Heap) (k : Heap → α) : α :=
  List.rec (motive := fun _ => Eff → Heap → (Heap → α) → α)
    (fun f h k => List.rec (motive := fun _ => Eff → Heap → (Heap → α) → α) (fun _ h k => k h) (fun _ _ _ f h k => k (h.apply f)) f.wr f h k)
    (fun _ _ _ f h k => k (h.apply f)) f.nw f h k
noncomputable def rFin (f : Option Eff) : Oper → (Env → Heap → Res) → Env → Heap → Res :=
  Option.rec (motive := fun _ => Oper → (Env → Heap → Res) → Env → Heap → Res) (fun _ _ _ _ => none) (fun f o k e h => heapK Res f h (k (e.put o.dst f.val))) f
noncomputable def rE (f : EffT) : RunT := fun P _ o k e h => rFin (f P e h) o k e h
noncomputable def e_move (x : Operand) : EffT := fun _ e _ => ret (e.eval x)
noncomputable def e_assign (x : Operand) : EffT := fun _ e _ => ret (e.eval x)
noncomputable def e_pick (c : Operand) (a : Operand) (b : Operand) : EffT := fun _ e _ => effPick (e.eval c) (e.eval a) (e.eval b)
noncomputable def e_alloc (t : TypeId) : EffT := fun P _ h => effAlloc P t h.nx
noncomputable def e_box (_t : TypeId) (x : Operand) : EffT := fun _ e h => effBox (e.eval x) h.nx
noncomputable def e_build (t : TypeId) (ps : (Array (Nat × Operand))) : EffT := fun P e h => eff P (.build t ps) e.eval h.get h.nx
noncomputable def e_buildSlice (t : TypeId) (n : Nat) (ps : (Array (Nat × Operand))) : EffT := fun P e h => eff P (.buildSlice t n ps) e.eval h.get h.nx
noncomputable def e_insert (t : TypeId) (m : Operand) (k : Operand) (x : Operand) : EffT := fun P e h => eff P (.insert t m k x) e.eval h.get h.nx
noncomputable def e_load (t : TypeId) (a : Operand) : EffT := fun P e h => effLoad P t (e.eval a) h.get
noncomputable def e_store (t : TypeId) (a : Operand) (x : Operand) : EffT := fun P e h => effStore P t (e.eval a) (e.eval x) h.get
noncomputable def e_ready (g : Nat) : EffT := fun P e h => eff P (.ready g) e.eval h.get h.nx
noncomputable def e_waits (g : Nat) : EffT := fun P e h => eff P (.waits g) e.eval h.get h.nx
noncomputable def e_nilCheck (x : Operand) : EffT := fun P e _ => effNil P (e.eval x)
noncomputable def e_binOp (op : BinOp) (t : TypeId) (x : Operand) (y : Operand) (_u : TypeId) : EffT := fun P e h => effBin P op t x y (e.eval x) (e.eval y) h.get
noncomputable def e_unOp (op : UnOp) (t : TypeId) (x : Operand) : EffT := fun P e h => eff P (.unOp op t x) e.eval h.get h.nx
noncomputable def e_convert (s : TypeId) (d : TypeId) (x : Operand) : EffT := fun P e h => effConv P s d (e.eval x) h.get h.nx
noncomputable def e_sliceToArrayPointer (d : TypeId) (x : Operand) : EffT := fun P e h => eff P (.sliceToArrayPointer d x) e.eval h.get h.nx
noncomputable def e_makeInterface (t : TypeId) (x : Operand) : EffT := fun P e h => eff P (.makeInterface t x) e.eval h.get h.nx
noncomputable def e_makeFunc (f : Fn) (a : (Array Operand)) (b : (Array Operand)) : EffT := fun P e h => eff P (.makeFunc f a b) e.eval h.get h.nx
noncomputable def e_makeMap (t : TypeId) (r : (Option Operand)) : EffT := fun P e h => eff P (.makeMap t r) e.eval h.get h.nx
noncomputable def e_makeChan (t : TypeId) (s : Operand) : EffT := fun P e h => eff P (.makeChan t s) e.eval h.get h.nx
noncomputable def e_makeSlice (t : TypeId) (l : Operand) (c : Operand) : EffT := fun P e h => eff P (.makeSlice t l c) e.eval h.get h.nx
noncomputable def e_slice (t : TypeId) (x : Operand) (lo : (Option Operand)) (hi : (Option Operand)) (mx : (Option Operand)) : EffT := fun P e h => eff P (.slice t x lo hi mx) e.eval h.get h.nx
noncomputable def e_fieldAddr (t : TypeId) (x : Operand) (i : Nat) : EffT := fun P e _ => effField P t (e.eval x) i
noncomputable def e_field (t : TypeId) (x : Operand) (i : Nat) : EffT := fun P e _ => effFieldV P t (e.eval x) i
noncomputable def e_indexAddr (t : TypeId) (x : Operand) (i : Operand) : EffT := fun P e _ => effIdx P t (e.eval x) (e.eval i)
noncomputable def e_index (t : TypeId) (x : Operand) (i : Operand) : EffT := fun P e _ => effIndex P t (e.eval x) (e.eval i)
noncomputable def e_lookup (t : TypeId) (m : Operand) (k : Operand) (ok : Bool) : EffT := fun P e h => effLookup P t (e.eval m) (e.eval k) ok h.get
noncomputable def e_mapUpdate (t : TypeId) (m : Operand) (k : Operand) (x : Operand) : EffT := fun P e h => eff P (.mapUpdate t m k x) e.eval h.get h.nx
noncomputable def e_mapEntry (t : TypeId) (m : Operand) (k : Operand) : EffT := fun P e h => eff P (.mapEntry t m k) e.eval h.get h.nx
noncomputable def e_entryStore (t : TypeId) (m : Operand) (s : Operand) (x : Operand) : EffT := fun P e h => eff P (.entryStore t m s x) e.eval h.get h.nx
noncomputable def e_range (t : TypeId) (x : Operand) : EffT := fun P e h => eff P (.range t x) e.eval h.get h.nx
noncomputable def e_next (i : Operand) (s : Bool) : EffT := fun P e h => eff P (.next i s) e.eval h.get h.nx
noncomputable def e_typeAssert (x : Operand) (t : TypeId) (a : TypeId) (ok : Bool) : EffT := fun P e h => eff P (.typeAssert x t a ok) e.eval h.get h.nx
noncomputable def e_extract (t : Operand) (i : Nat) : EffT := fun _ e _ => effExtract (e.eval t) i
noncomputable def e_go (c : Call) : EffT := fun P e h => eff P (.go c) e.eval h.get h.nx
noncomputable def e_defer (c : Call) : EffT := fun P e h => eff P (.defer c) e.eval h.get h.nx
noncomputable def e_send (c : Operand) (x : Operand) : EffT := fun P e h => eff P (.send c x) e.eval h.get h.nx
noncomputable def e_recv (t : TypeId) (c : Operand) (ok : Bool) : EffT := fun P e h => eff P (.recv t c ok) e.eval h.get h.nx
noncomputable def e_select (cs : (Array SelectCase)) (b : Bool) : EffT := fun P e h => eff P (.select cs b) e.eval h.get h.nx
noncomputable def r_call (c : Call) : RunT := fun P cl o k e h => match c.callee with
  | .builtin b => rFin (builtinEff P b c.argTypes (c.args.toList.map e.eval) h.get h.nx) o k e h
  | _ => match callee P c e.eval with
    | some x => match callK cl x h with
      | some (.ret v, h') => k (e.put o.dst v) h'
      | some (.pan v, h') => some (.pan v, e, h')
      | none => none
    | none => none
noncomputable def r_panic (x : Operand) : RunT := fun _ _ _ _ e h => match e.eval x with
  | .iface t v => some (.pan (.iface t v), e, h)
  | _ => none
noncomputable def r_entry (x : Operand) : RunT := fun _ _ o k e h => match effEntry (e.eval x) h.get with
  | some v => k (e.put o.dst v) h
  | none => none
noncomputable def rGo (op : Op) : RunT := @Op.rec (fun _ => RunT) (fun x => rE (e_move x)) (fun x => rE (e_assign x)) (fun c a b => rE (e_pick c a b)) (fun t => rE (e_alloc t)) (fun t x => rE (e_box t x)) (fun t ps => rE (e_build t ps)) (fun t n ps => rE (e_buildSlice t n ps)) (fun t m k x => rE (e_insert t m k x)) (fun t a => rE (e_load t a)) (fun t a x => rE (e_store t a x)) (fun g => rE (e_ready g)) (fun g => rE (e_waits g)) (fun x => rE (e_nilCheck x)) (fun op t x y u => rE (e_binOp op t x y u)) (fun op t x => rE (e_unOp op t x)) (fun s d x => rE (e_convert s d x)) (fun d x => rE (e_sliceToArrayPointer d x)) (fun t x => rE (e_makeInterface t x)) (fun f a b => rE (e_makeFunc f a b)) (fun t r => rE (e_makeMap t r)) (fun t s => rE (e_makeChan t s)) (fun t l c => rE (e_makeSlice t l c)) (fun t x lo hi mx => rE (e_slice t x lo hi mx)) (fun t x i => rE (e_fieldAddr t x i)) (fun t x i => rE (e_field t x i)) (fun t x i => rE (e_indexAddr t x i)) (fun t x i => rE (e_index t x i)) (fun t m k ok => rE (e_lookup t m k ok)) (fun t m k x => rE (e_mapUpdate t m k x)) (fun t m k => rE (e_mapEntry t m k)) (fun t m s x => rE (e_entryStore t m s x)) (fun t x => rE (e_range t x)) (fun i s => rE (e_next i s)) r_entry (fun x t a ok => rE (e_typeAssert x t a ok)) (fun t i => rE (e_extract t i)) r_call (fun c => rE (e_go c)) (fun c => rE (e_defer c)) r_panic (fun c x => rE (e_send c x)) (fun t c ok => rE (e_recv t c ok)) (fun cs b => rE (e_select cs b)) op
noncomputable def rOpen : Program → Caller → List Oper → Oper → (Env → Heap → Res) → Env → Heap → Res := fun P cl _ o k e h => rGo o.op P cl o k e h
noncomputable def rGuard : (Nat × Bool) → Program → Caller → List Oper → Oper → (Env → Heap → Res) → Env → Heap → Res := fun _ P cl all o k e h =>
  Bool.rec (motive := fun _ => Res) none (Bool.rec (motive := fun _ => Res) (k (e.put o.dst undef) h) (rGo o.op P cl o k e h) (wantedA all e o)) (guardOk all e o)
noncomputable def runOp (P : Program) (cl : Caller) (all : List Oper) (o : Oper) (k : Env → Heap → Res) (e : Env) (h : Heap) : Res :=
  Option.rec (motive := fun _ => Program → Caller → List Oper → Oper → (Env → Heap → Res) → Env → Heap → Res) rOpen rGuard o.guard P cl all o k e h
noncomputable def runOps (P : Program) (cl : Caller) (all : List Oper) (l : List Oper) : Env → Heap → Res :=
  List.rec (motive := fun _ => Env → Heap → Res) (fun e h => some (.normal, e, h)) (fun o _ ih => runOp P cl all o ih) l

/- Regions whose order is open. What was done, operation by operation. -/
inductive Did where
  | skip
  | eff (rd : List Nat) (f : Eff) (nx : Nat)
  | call (h h' : Heap)
structure Rec where
  did : Did

noncomputable def runRecS (P : Program) (cl : Caller) (all : List Oper) : List Oper → Env → Heap → Option (Env × Heap × List Did)
  | [], e, h => some (e, h, [])
  | o :: r, e, h =>
    if guardOk all e o = false then none else if wantedA all e o then
      match callOf o.op with
      | some c => match callee P c e.eval with
        | some x => match cl x.1 x.2 h with
          | some (.ret v, h') => match runRecS P cl all r (e.put o.dst v) h' with
            | some (e', h'', l) => some (e', h'', .call h h' :: l)
            | none => none
          | _ => none
        | none => none
      | none => match eff P o.op e.eval h.get h.nx with
        | some f => match runRecS P cl all r (e.put o.dst f.val) (h.apply f) with
          | some (e', h'', l) => some (e', h'', .eff (foot o.op e.eval) f h.nx :: l)
          | none => none
        | none => none
    else match runRecS P cl all r (e.put o.dst undef) h with
      | some (e', h'', l) => some (e', h'', .skip :: l)
      | none => none
where
  callOf : Op → Option Call
    | .call c => match c.callee with
      | .builtin _ => none
      | _ => some c
    | _ => none
/- .. and what is recorded -/
abbrev DidRes := Option (Env × Heap × List Did)
abbrev QT := Program → Caller → Oper → (Env → Heap → DidRes) → Env → Heap → DidRes
noncomputable def qCons (d : Did) (r : DidRes) : DidRes := Option.rec (motive := fun _ => Did → DidRes) (fun _ => none) (fun x => Prod.rec (motive := fun _ => Did → DidRes) (fun e y => Prod.rec (motive := fun _ => Did → DidRes) (fun h l d => some (e, h, d :: l)) y) x) r d
noncomputable def qFin (f : Option Eff) : Oper → (Env → Heap → DidRes) → Env → Heap → DidRes :=
  Option.rec (motive := fun _ => Oper → (Env → Heap → DidRes) → Env → Heap → DidRes) (fun _ _ _ _ => none) (fun f o ih e h => qCons (.eff (foot o.op e.eval) f h.nx) (heapK DidRes f h (ih (e.put o.dst f.val)))) f
noncomputable def qE (f : EffT) : QT := fun P _ o ih e h => qFin (f P e h) o ih e h
noncomputable def q_call (c : Call) : QT := fun P cl o ih e h => match runRecS.callOf (.call c) with
  | some c => match callee P c e.eval with
    | some x => match callK cl x h with
      | some (.ret v, h') => qCons (.call h h') (ih (e.put o.dst v) h')
      | _ => none
    | none => none
  | none => qFin (eff P (.call c) e.eval h.get h.nx) o ih e h
noncomputable def qGo (op : Op) : QT := @Op.rec (fun _ => QT) (fun x => qE (e_move x)) (fun x => qE (e_assign x)) (fun c a b => qE (e_pick c a b)) (fun t => qE (e_alloc t)) (fun t x => qE (e_box t x)) (fun t ps => qE (e_build t ps)) (fun t n ps => qE (e_buildSlice t n ps)) (fun t m k x => qE (e_insert t m k x)) (fun t a => qE (e_load t a)) (fun t a x => qE (e_store t a x)) (fun g => qE (e_ready g)) (fun g => qE (e_waits g)) (fun x => qE (e_nilCheck x)) (fun op t x y u => qE (e_binOp op t x y u)) (fun op t x => qE (e_unOp op t x)) (fun s d x => qE (e_convert s d x)) (fun d x => qE (e_sliceToArrayPointer d x)) (fun t x => qE (e_makeInterface t x)) (fun f a b => qE (e_makeFunc f a b)) (fun t r => qE (e_makeMap t r)) (fun t s => qE (e_makeChan t s)) (fun t l c => qE (e_makeSlice t l c)) (fun t x lo hi mx => qE (e_slice t x lo hi mx)) (fun t x i => qE (e_fieldAddr t x i)) (fun t x i => qE (e_field t x i)) (fun t x i => qE (e_indexAddr t x i)) (fun t x i => qE (e_index t x i)) (fun t m k ok => qE (e_lookup t m k ok)) (fun t m k x => qE (e_mapUpdate t m k x)) (fun t m k => qE (e_mapEntry t m k)) (fun t m s x => qE (e_entryStore t m s x)) (fun t x => qE (e_range t x)) (fun i s => qE (e_next i s)) (fun x => qE (fun P e h => eff P (.entry x) e.eval h.get h.nx)) (fun x t a ok => qE (e_typeAssert x t a ok)) (fun t i => qE (e_extract t i)) q_call (fun c => qE (e_go c)) (fun c => qE (e_defer c)) (fun x => qE (fun P e h => eff P (.panic x) e.eval h.get h.nx)) (fun c x => qE (e_send c x)) (fun t c ok => qE (e_recv t c ok)) (fun cs b => qE (e_select cs b)) op
noncomputable def qOpen : Program → Caller → List Oper → Oper → (Env → Heap → DidRes) → Env → Heap → DidRes := fun P cl _ o ih e h => qGo o.op P cl o ih e h
noncomputable def qGuard : (Nat × Bool) → Program → Caller → List Oper → Oper → (Env → Heap → DidRes) → Env → Heap → DidRes := fun _ P cl all o ih e h =>
  Bool.rec (motive := fun _ => DidRes) none (Bool.rec (motive := fun _ => DidRes) (qCons .skip (ih (e.put o.dst undef) h)) (qGo o.op P cl o ih e h) (wantedA all e o)) (guardOk all e o)
noncomputable def runRec (P : Program) (cl : Caller) (all : List Oper) (l : List Oper) : Env → Heap → DidRes :=
  List.rec (motive := fun _ => Env → Heap → DidRes) (fun e h => some (e, h, [])) (fun o _ ih e h =>
    Option.rec (motive := fun _ => Program → Caller → List Oper → Oper → (Env → Heap → DidRes) → Env → Heap → DidRes) qOpen qGuard o.guard P cl all o ih e h) l
def beqO : Option Value → Option Value → Bool
  | none, none => true
  | some a, some b => beqV 100 a b
  | _, _ => false
noncomputable def beqT (t : Trie Value) : Trie Value → Bool :=
  Trie.rec (motive := fun _ => Trie Value → Bool) (fun u => Trie.rec (motive := fun _ => Bool) true (fun _ _ _ _ _ => false) u)
    (fun o _ _ il ir u => Trie.rec (motive := fun _ => Bool) false (fun o' l' r' _ _ => beqO o o' && il l' && ir r') u) t
def beqEs : List (Value × Value × Nat) → List (Value × Value × Nat) → Bool
  | [], [] => true
  | x :: r, y :: s => beqV 100 x.1 y.1 && beqV 100 x.2.1 y.2.1 && Nat.beq x.2.2 y.2.2 && beqEs r s
  | _, _ => false
def beqNs : List Nat → List Nat → Bool
  | [], [] => true
  | x :: r, y :: s => Nat.beq x y && beqNs r s
  | _, _ => false
def beqF : Fact → Fact → Bool
  | .bin op o r, .bin op' o' r' => Nat.beq (opN op) (opN op') && beqV 100 o o' && beqV 100 r r'
  | .nib op o r, .nib op' o' r' => Nat.beq (opN op) (opN op') && beqV 100 o o' && beqV 100 r r'
  | .conv k r, .conv k' r' => Nat.beq (kindN k) (kindN k') && beqV 100 r r'
  | .mm a k b r, .mm a' k' b' r' => a == a' && Nat.beq (kindN k) (kindN k') && eqI b b' && beqV 100 r r'
  | _, _ => false
def beqFs : List Fact → List Fact → Bool
  | [], [] => true
  | x :: r, y :: s => beqF x y && beqFs r s
  | _, _ => false
noncomputable def beqBlk (a b : Blk) : Bool := match a, b with
  | .cells xs n k, .cells ys n' k' => Nat.beq n n' && decide (k = k') && beqT xs ys
  | .map es c, .map es' c' => Nat.beq c c' && beqEs es es'
  | .str s p, .str s' p' => s.data.toList == s'.data.toList && Nat.beq p p'
  | .iter r s sn none l, .iter r' s' sn' none l' => Nat.beq r r' && Nat.beq s s' && beqNs sn sn' && Nat.beq l l'
  | .tok a, .tok b => beqFs a b
  | .dead, .dead => true
  | _, _ => false
noncomputable def beqOB : Option Blk → Option Blk → Bool
  | none, none => true
  | some a, some b => beqBlk a b
  | _, _ => false
noncomputable def beqTB (t : Trie Blk) : Trie Blk → Bool :=
  Trie.rec (motive := fun _ => Trie Blk → Bool) (fun u => Trie.rec (motive := fun _ => Bool) true (fun _ _ _ _ _ => false) u)
    (fun o _ _ il ir u => Trie.rec (motive := fun _ => Bool) false (fun o' l' r' _ _ => beqOB o o' && il l' && ir r') u) t
noncomputable def beqB : Option Blk → Option Blk → Bool
  | some (.cells xs n k), some (.cells xs' n' k') => Nat.beq n n' && decide (k = k') && beqT xs xs'
  | some (.tok a), some (.tok b) => beqFs a b
  | some .dead, some .dead => true
  | _, _ => false

noncomputable def sameB (x y : Option Blk) : Bool := beqB x y || @decide (x = y) (Classical.propDecidable _)
def disj (a b : List Nat) : Bool := a.all fun x => !(b.any fun y => Nat.beq x y)
def newIds (nx : Nat) : List Blk → List Nat
  | [] => []
  | _ :: r => nx :: newIds (Nat.succ nx) r
def Did.wrote : Did → List Nat
  | .eff _ f nx => f.wr.map (·.1) ++ newIds nx f.nw
  | _ => []
def Did.read : Did → List Nat
  | .eff rd _ _ => rd
  | _ => []
noncomputable def swapOk (x y : Did) : Bool :=
  match x, y with
  | .skip, _ => true
  | _, .skip => true
  | .call _ _, .call _ _ => false
  | .call h h', .eff rd f _ => f.wr.isEmpty && rd.all fun b => sameB (h.get b) (h'.get b)
  | .eff rd f _, .call h h' => f.wr.isEmpty && f.nw.isEmpty && rd.all fun b => sameB (h.get b) (h'.get b)
  | x, y => disj x.wrote (y.read ++ y.wrote) && disj x.read y.wrote

def maskOf (acc : List Nat) (o : Oper) : Nat := o.after.toList.foldl (fun s e => if Region.binds .any e then s ||| 2 ^ e.on ||| acc.getD e.on 0 else s) 0
def befs : List Oper → List Nat → List Nat
  | [], acc => acc
  | o :: r, acc => befs r (acc ++ [maskOf acc o])
def drawText (ops : Array Oper) : Bool :=
  ((List.range ops.size).all fun j => match ops.toList[j]? with
    | some o => o.after.toList.all fun e => !Region.binds .any e || Nat.blt e.on j
    | none => true) &&
  ((List.range ops.size).all fun j => (List.range j).all fun i => ((befs ops.toList []).getD j 0).testBit i || match ops.toList[i]?, ops.toList[j]? with
    | some x, some y => Oper.apart ops x y
    | _, _ => true) && Region.noSelect ops

def opCls : Op → Nat
  | .move _ | .assign _ | .pick _ _ _ | .nilCheck _ | .unOp _ _ _ | .fieldAddr _ _ _ | .field _ _ _ | .indexAddr _ _ _ | .index _ _ _ | .extract _ _ | .makeInterface _ _ | .makeFunc _ _ _ => 0
  | .load _ _ | .lookup _ _ _ _ | .binOp _ _ _ _ _ => 1
  | _ => 2
def safeC (a b : Nat) : Bool := Nat.beq a 0 || Nat.beq b 0 || (Nat.beq a 1 && Nat.beq b 1)
def clsAt (ops : List Oper) (i : Nat) : Nat := match ops[i]? with
  | some o => opCls o.op
  | none => 2
def dynPairs (ops : List Oper) : List (Nat × Nat) :=
  (List.range ops.length).flatMap fun j => ((List.range j).filter fun i => !(((befs ops []).getD j 0).testBit i) && !(safeC (clsAt ops i) (clsAt ops j))).map fun i => (i, j)
noncomputable def drawDid2 (ops : List Oper) (l : List Did) : Bool := (dynPairs ops).all fun p => match l[p.1]?, l[p.2]? with
  | some x, some y => swapOk x y
  | _, _ => true

noncomputable def runDraw (P : Program) (cl : Caller) (ops : Array Oper) (e : Env) (h : Heap) : Res :=
  Bool.rec (motive := fun _ => Res) none
    (match runRec P cl ops.toList ops.toList e h with
      | some (e', h', l) => Bool.rec (motive := fun _ => Res) none (some (.normal, e', h')) (drawDid2 ops.toList l)
      | none => none)
    (drawText ops)

noncomputable def scopeRun (eng : Code → Env → Heap → Res) (body : Code) : Nat → Code → Env → Heap → Res
  | 0, _, _, _ => none
  | n + 1, c, e, h => match eng c e h with
    | some (.goto l, e', h') => match findLabel body l with
      | some rest => scopeRun eng body n rest e' h'
      | none => none
    | r => r

noncomputable def resOne (P : Program) (e : Env) (h : Heap) (r : ResultVar) : Option Value := match r with
  | .tmp t => some (e.at t)
  | .cell a t => match effLoad P t (e.at a) h.get with
    | some f => some f.val
    | none => none
noncomputable def resAll (P : Program) (e : Env) (h : Heap) : List ResultVar → Option (List Value)
  | [] => some []
  | r :: l => match resOne P e h r, resAll P e h l with
    | some v, some vs => some (v :: vs)
    | _, _ => none
noncomputable def resultV (P : Program) (e : Env) (h : Heap) (rs : List ResultVar) : Option Value := match rs with
  | [r] => resOne P e h r
  | rs => match resAll P e h rs with
    | some vs => some (.tuple vs.toArray)
    | none => none

/- Loops over maps: every order at once. -/
def mapLoopOf (body : Code) : Option (Tmp × Tmp × Tmp × Code) := match body with
  | .seq (.region _ ops false) c2 => match ops.toList with
    | [nx, ex] => match nx.op with
      | .next (.tmp it) false => match nx.dst, nx.guard, ex.op, ex.dst, ex.guard with
        | some tup, none, .extract (.tmp tup') 0, some okT, none => if Nat.beq tup tup' then some (it, tup, okT, c2) else none
        | _, _, _, _, _ => none
      | _ => none
    | _ => none
  | _ => none

noncomputable def maskT (t : Trie Value) : Trie Value → Trie Value :=
  Trie.rec (motive := fun _ => Trie Value → Trie Value) (fun _ => .leaf)
    (fun o _ _ il ir u => Trie.rec (motive := fun _ => Trie Value) .leaf (fun o' l' r' _ _ => .node (Option.rec none (fun _ => o') o) (il l') (ir r')) u) t
abbrev Core := Env × Heap × Nat
noncomputable def coreEnv (e0 : Env) (tup okT : Tmp) (e : Env) : Env := Env.put (Env.put (maskT e0 e) (some tup) topV) (some okT) topV
noncomputable def Heap.put (h : Heap) (d : Nat) (x : Blk) : Heap := ⟨h.t.set d x, h.nx⟩
noncomputable def stepIt (h : Heap) (d r since : Nat) (seen : List Nat) (b clk : Nat) : Heap := h.apply ⟨undef, [(d, .iter r since (seen ++ [b]) (some b) clk)], []⟩
noncomputable def stepCore (eng : Code → Env → Heap → Res) (tup okT : Tmp) (c2 : Code) (e0 : Env) (d r clk : Nat) (c : Core) (x : Value × Value × Nat) : Option Core :=
  match eng c2 ((c.1.put (some tup) (.tuple #[.bool true, x.1, x.2.1])).put (some okT) (.bool true)) (c.2.1.put d (.look r x.2.2 clk)) with
  | some (.normal, e', h') => some (coreEnv e0 tup okT e', h'.put d .dead, clk)
  | _ => none
noncomputable def beqH (a b : Heap) : Bool := Nat.beq a.nx b.nx && beqTB a.t b.t
noncomputable def beqC (a b : Core) : Bool := Nat.beq a.2.2 b.2.2 && beqT a.1 b.1 && beqH a.2.1 b.2.1
noncomputable def findC (c : Core) : List Core → Nat → Option Nat
  | [], _ => none
  | x :: l, i => Bool.rec (findC c l (Nat.succ i)) (some i) (beqC c x)
noncomputable def rowC (f : Value × Value × Nat → Option Core) : List (Value × Value × Nat) → List Core → List (Nat × Option Nat) × List Core
  | [], known => ([], known)
  | x :: l, known => match f x with
    | none => (fun y => ((x.2.2, none) :: y.1, y.2)) (rowC f l known)
    | some c => match findC c known 0 with
      | some i => (fun y => ((x.2.2, some i) :: y.1, y.2)) (rowC f l known)
      | none => (fun y => ((x.2.2, some known.length) :: y.1, y.2)) (rowC f l (known ++ [c]))
noncomputable def coreEs (it : Tmp) (d r since : Nat) (c : Core) : Option (List (Value × Value × Nat) × Nat) := match c.1.at it with
  | .pointer (some ⟨d', 0, none⟩) => match c.2.1.get r with
    | some (.map es clk) => bif Nat.beq d' d && Nat.ble since c.2.2 && Nat.blt d c.2.1.nx && !(Nat.beq r d) && es.all (fun x => Nat.blt x.2.2 since) then some (es, clk) else none
    | _ => none
  | _ => none
noncomputable def closeC (eng : Code → Env → Heap → Res) (it tup okT : Tmp) (c2 : Code) (e0 : Env) (d r since : Nat) (n : Nat) : List Core → Nat → List (List (Nat × Option Nat)) → Option (List Core × List (List (Nat × Option Nat))) :=
  Nat.rec (motive := fun _ => List Core → Nat → List (List (Nat × Option Nat)) → Option (List Core × List (List (Nat × Option Nat)))) (fun _ _ _ => none)
    (fun _ ih known j rows => match known[j]? with
      | none => some (known, rows)
      | some c => match coreEs it d r since c with
        | none => none
        | some x => (fun y => ih y.2 (Nat.succ j) (rows ++ [y.1])) (rowC (stepCore eng tup okT c2 e0 d r x.2 c) x.1 known)) n

/- sets of entries that were given, as bits -/
def hasB (S b : Nat) : Bool := Nat.beq (Nat.land (Nat.shiftRight S b) 1) 1
def addB (S b : Nat) : Nat := Nat.lor S (Nat.pow 2 b)
noncomputable def goS (S : Nat) : List (Nat × Option Nat) → Option (List (Nat × Nat))
  | [] => some []
  | x :: l => Bool.rec (match x.2 with
      | some i => match goS S l with
        | some r => some ((i, addB S x.1) :: r)
        | none => none
      | none => none) (goS S l) (hasB S x.1)
noncomputable def goAll (rows : List (List (Nat × Option Nat))) : List (Nat × Nat) → Option (List (List (Nat × Nat)))
  | [] => some []
  | s :: l => match rows[s.1]? with
    | some row => match goS s.2 row with
      | some a => match goAll rows l with
        | some b => some (a :: b)
        | none => none
      | none => none
    | none => none
def memS (s : Nat × Nat) (l : List (Nat × Nat)) : Bool := l.any fun t => Nat.beq s.2 t.2 && Nat.beq s.1 t.1
noncomputable def dedup : List (Nat × Nat) → List (Nat × Nat) → List (Nat × Nat)
  | [], acc => acc
  | s :: l, acc => Bool.rec (dedup l (s :: acc)) (dedup l acc) (memS s acc)
noncomputable def stage (rows : List (List (Nat × Option Nat))) (n : Nat) : List (Nat × Nat) → Option Nat :=
  Nat.rec (motive := fun _ => List (Nat × Nat) → Option Nat) (fun _ => none) (fun _ ih l => match goAll rows l with
    | none => none
    | some ll => Bool.rec
        (Bool.rec (ih (dedup ll.flatten [])) none (ll.any List.isEmpty))
        (match l with
          | [s] => some s.1
          | _ => none)
        (ll.all List.isEmpty)) n

noncomputable def explore (eng : Code → Env → Heap → Res) (it tup okT : Tmp) (c2 : Code) (n : Nat) (e : Env) (h : Heap) : Res := match e.at it with
  | .pointer (some ⟨d, 0, none⟩) => match h.get d with
    | some (.iter r since [] _ last) => match closeC eng it tup okT c2 e d r since n [(coreEnv e tup okT e, h.put d .dead, last)] 0 [] with
      | some x => match stage x.2 n [(0, 0)] with
        | some i => match x.1[i]? with
          | some c => match eng c2 ((c.1.put (some tup) (.tuple #[.bool false])).put (some okT) (.bool false)) (c.2.1.put d .dead) with
            | some (.normal, _, _) => none
            | r => r
          | none => none
        | none => none
      | none => none
    | _ => none
  | _ => none

abbrev EngT := Program → Caller → Nat → (Code → Env → Heap → Res) → Env → Heap → Res
noncomputable def normK (ex : AExit) (e : Env) (h : Heap) (k : Env → Heap → Res) : Res :=
  AExit.rec (motive := fun _ => Env → Heap → (Env → Heap → Res) → Res) (fun e h k => k e h) (fun e h _ => some (.ret, e, h)) (fun i e h _ => some (.exit i, e, h)) (fun l e h _ => some (.goto l, e, h)) (fun v e h _ => some (.pan v, e, h)) ex e h k
noncomputable def onNormal (r : Res) (k : Env → Heap → Res) : Res :=
  Option.rec (motive := fun _ => (Env → Heap → Res) → Res) (fun _ => none) (fun x => Prod.rec (motive := fun _ => (Env → Heap → Res) → Res) (fun ex y => Prod.rec (motive := fun _ => (Env → Heap → Res) → Res) (fun e h => normK ex e h) y) x) r k
noncomputable def exitK (ex : AExit) (e : Env) (h : Heap) (id : Nat) : Res :=
  AExit.rec (motive := fun _ => Env → Heap → Nat → Res) (fun e h _ => some (.normal, e, h)) (fun e h _ => some (.ret, e, h)) (fun i e h id => Bool.rec (some (.exit i, e, h)) (some (.normal, e, h)) (Nat.beq i id)) (fun l e h _ => some (.goto l, e, h)) (fun v e h _ => some (.pan v, e, h)) ex e h id
noncomputable def onExit (r : Res) (id : Nat) : Res :=
  Option.rec (motive := fun _ => Nat → Res) (fun _ => none) (fun x => Prod.rec (motive := fun _ => Nat → Res) (fun ex y => Prod.rec (motive := fun _ => Nat → Res) (fun e h => exitK ex e h) y) x) r id
noncomputable def c_skip : EngT := fun _ _ _ _ e h => some (.normal, e, h)
noncomputable def c_region (ops : Array Oper) (draw : Bool) : EngT := fun P cl _ _ e h => Bool.rec (runOps P cl ops.toList ops.toList e h) (runDraw P cl ops e h) draw
noncomputable def c_seq (a b : Code) : EngT := fun _ _ _ eng e h => onNormal (eng a e h) (eng b)
noncomputable def c_cond (x : Operand) (a b : Code) : EngT := fun _ _ _ eng e h => match e.eval x with
  | .bool t => eng (Bool.rec b a t) e h
  | _ => none
noncomputable def c_block (id : Nat) (body : Code) : EngT := fun _ _ _ eng e h => onExit (eng body e h) id
noncomputable def c_loop (body : Code) : EngT := fun _ _ n eng e h => match mapLoopOf body with
  | some (it, tup, okT, c2) => explore eng it tup okT c2 n e h
  | none => onNormal (eng body e h) (eng (.loop body))
noncomputable def c_none : EngT := fun _ _ _ _ _ _ => none
noncomputable def c_exit (id : Nat) : EngT := fun _ _ _ _ e h => some (.exit id, e, h)
noncomputable def c_scope (body : Code) : EngT := fun _ _ n eng e h => scopeRun eng body n body e h
noncomputable def c_goto (l : Nat) : EngT := fun _ _ _ _ e h => some (.goto l, e, h)
noncomputable def c_ret : EngT := fun _ _ _ _ e h => some (.ret, e, h)
noncomputable def engC (c : Code) : EngT := @Code.rec (fun _ => EngT) c_skip (fun _ ops draw => c_region ops draw) (fun a b _ _ => c_seq a b) (fun x a b _ _ => c_cond x a b) (fun id b _ => c_block id b) (fun b _ => c_loop b) (fun _ _ _ _ _ _ => c_none) (fun id => c_exit id) (fun b _ => c_scope b) (fun _ => c_skip) (fun l => c_goto l) c_ret (fun _ => c_none) c
noncomputable def engine (P : Program) (cl : Caller) (n : Nat) : Code → Env → Heap → Res :=
  Nat.rec (motive := fun _ => Code → Env → Heap → Res) (fun _ _ _ => none) (fun n eng c e h => engC c P cl n eng e h) n

/- ## Functions: what is asked of their texts -/
def operOk (ng : Nat) (x : Operand) : Bool := match x with
  | .const v => plainV v
  | .global g => Nat.blt g ng
  | _ => true
def opersOk (ng nt : Nat) (o : Oper) : Bool := o.op.operands.toList.all (operOk ng) && (match o.dst with
  | some d => Nat.blt d nt
  | none => true)
def codeOk (ng nt : Nat) : Code → Bool
  | .region _ ops _ => ops.toList.all (opersOk ng nt)
  | .seq a b => codeOk ng nt a && codeOk ng nt b
  | .cond x a b => operOk ng x && codeOk ng nt a && codeOk ng nt b
  | .block _ b => codeOk ng nt b
  | .loop b => codeOk ng nt b
  | .scope b => codeOk ng nt b
  | .rangeFunc .. => false
  | _ => true
def fnOk (ng : Nat) (fn : Func) : Bool := fn.name != "runtime.NumGoroutine" && (match fn.body with
  | some c => codeOk ng fn.ntmps c
  | none => false)

abbrev Special := FuncId → Option (Caller → List Value → Heap → Option (Out × Heap))

noncomputable def callF (P : Program) (ng : Nat) (sp : Special) (fuel : Nat) (cl : Caller) : Caller := fun f args h =>
  match sp f with
  | some F => F cl args h
  | none => match P.funcs[f]? with
    | some fn => Bool.rec (motive := fun _ => Option (Out × Heap)) none
      (match fn.body with
        | some c => match engine P cl fuel c (storeL .leaf 0 args) h with
          | some (.normal, e, h') => match resultV P e h' fn.results.toList with
            | some v => some (.ret v, h')
            | none => none
          | some (.ret, e, h') => match resultV P e h' fn.results.toList with
            | some v => some (.ret v, h')
            | none => none
          | some (.pan v, _, h') => some (.pan v, h')
          | _ => none
        | none => none) (fnOk ng fn)
    | none => none

noncomputable def acall (P : Program) (ng : Nat) (sp : Special) (fuel n : Nat) : Caller :=
  Nat.rec (motive := fun _ => Caller) (fun _ _ _ => none) (fun _ ih => callF P ng sp fuel ih) n

noncomputable def isTrue (r : Option (Out × Heap)) : Bool := match r with
  | some (.ret (.bool b), _) => b
  | _ => false

end Go.AM
end
section
/- Tries, rows of cells: what is read behind what was written. -/
namespace Go.AM
namespace Trie
variable {α : Type}
theorem pathF_succ (f k : Nat) : pathF (f + 1) (k + 1) = if k % 2 = 0 then .l (pathF f (k / 2)) else .r (pathF f (k / 2)) := by
  show (Bool.rec (.r (pathF f (k / 2))) (.l (pathF f (k / 2))) (Nat.beq (k % 2) 0) : Path) = _
  by_cases h : k % 2 = 0
  · rw [if_pos h, h]; rfl
  · rw [if_neg h]
    have : Nat.beq (k % 2) 0 = false := by rw [← Bool.not_eq_true, Nat.beq_eq]; exact h
    rw [this]
theorem pathF_eq : ∀ (f g k : Nat), k < f → k < g → pathF f k = pathF g k := by
  intro f
  induction f with
  | zero => intro g k h; omega
  | succ f ih =>
    intro g k h1 h2
    cases g with
    | zero => omega
    | succ g =>
      cases k with
      | zero => rfl
      | succ k =>
        rw [pathF_succ, pathF_succ, ih g (k / 2) (by omega) (by omega)]
theorem path_eq (k : Nat) : path k = pathF (k + 1) k := by
  cases k with
  | zero => rfl
  | succ k =>
    rw [pathF_succ]
    show (Bool.rec (.r (pathF k (k / 2))) (.l (pathF k (k / 2))) (Nat.beq (k % 2) 0) : Path) = _
    have e : pathF k (k / 2) = pathF (k + 1) (k / 2) := by
      cases k with
      | zero => rfl
      | succ k => exact pathF_eq _ _ _ (by omega) (by omega)
    rw [e]
    by_cases h : k % 2 = 0
    · rw [if_pos h, h]; rfl
    · rw [if_neg h]
      have : Nat.beq (k % 2) 0 = false := by rw [← Bool.not_eq_true, Nat.beq_eq]; exact h
      rw [this]
theorem path_succ (k : Nat) : path (k + 1) = if k % 2 = 0 then .l (path (k / 2)) else .r (path (k / 2)) := by
  rw [path_eq, path_eq, pathF_succ, pathF_eq (k + 1) (k / 2 + 1) (k / 2) (by omega) (by omega)]
theorem path_inj : ∀ (n k k' : Nat), k < n → path k = path k' → k = k' := by
  intro n
  induction n with
  | zero => intro k k' h; omega
  | succ n ih =>
    intro k k' h he
    cases k with
    | zero =>
      cases k' with
      | zero => rfl
      | succ k' => rw [path_succ] at he; split at he <;> cases he
    | succ k =>
      cases k' with
      | zero => rw [path_succ] at he; split at he <;> cases he
      | succ k' =>
        rw [path_succ, path_succ] at he
        split at he <;> split at he <;> first | (simp only [Path.l.injEq, Path.r.injEq] at he; have := ih _ _ (by omega) he; omega) | cases he
theorem getP_leaf (p : Path) : (getP p (.leaf : Trie α)) = none := by cases p <;> rfl
theorem get_leaf (k : Nat) : (Trie.leaf : Trie α).get k = none := getP_leaf _
theorem get_zero (o : Option α) (l r : Trie α) : (Trie.node o l r).get 0 = o := rfl
theorem get_succ (o : Option α) (l r : Trie α) (k : Nat) : (Trie.node o l r).get (k + 1) = if k % 2 = 0 then l.get (k / 2) else r.get (k / 2) := by
  show getP (path (k + 1)) _ = _
  rw [path_succ]
  by_cases h : k % 2 = 0
  · rw [if_pos h, if_pos h]; rfl
  · rw [if_neg h, if_neg h]; rfl
open Classical in
theorem get_setP (v : α) : ∀ (p q : Path) (t : Trie α), getP q (setP v p t) = if q = p then some v else getP q t := by
  intro p
  induction p with
  | e =>
    intro q t
    cases t <;> cases q <;> first | rfl | (simp; first | rfl | exact getP_leaf _)
  | l p ih =>
    intro q t
    cases t with
    | leaf =>
      cases q with
      | e => rw [if_neg (by simp)]; rfl
      | l q =>
        show getP q (setP v p .leaf) = _
        rw [ih]
        by_cases h : q = p
        · rw [if_pos h, if_pos (by rw [h])]
        · rw [if_neg h, if_neg (by simpa using h), getP_leaf, getP_leaf]
      | r q => simp [show getP (.r q) (setP v (.l p) .leaf) = getP q (.leaf : Trie α) from rfl, getP_leaf]
    | node o l r =>
      cases q with
      | e => rw [if_neg (by simp)]; rfl
      | l q =>
        show getP q (setP v p l) = _
        rw [ih]
        by_cases h : q = p
        · rw [if_pos h, if_pos (by rw [h])]
        · rw [if_neg h, if_neg (by simpa using h)]; rfl
      | r q => simp; rfl
  | r p ih =>
    intro q t
    cases t with
    | leaf =>
      cases q with
      | e => rw [if_neg (by simp)]; rfl
      | r q =>
        show getP q (setP v p .leaf) = _
        rw [ih]
        by_cases h : q = p
        · rw [if_pos h, if_pos (by rw [h])]
        · rw [if_neg h, if_neg (by simpa using h), getP_leaf, getP_leaf]
      | l q => simp [show getP (.l q) (setP v (.r p) .leaf) = getP q (.leaf : Trie α) from rfl, getP_leaf]
    | node o l r =>
      cases q with
      | e => rw [if_neg (by simp)]; rfl
      | r q =>
        show getP q (setP v p r) = _
        rw [ih]
        by_cases h : q = p
        · rw [if_pos h, if_pos (by rw [h])]
        · rw [if_neg h, if_neg (by simpa using h)]; rfl
      | l q => simp; rfl
theorem get_set (t : Trie α) (k k' : Nat) (v : α) : (t.set k v).get k' = if k' = k then some v else t.get k' := by
  show getP (path k') (setP v (path k) t) = _
  rw [get_setP]
  by_cases h : k' = k
  · rw [if_pos h, if_pos (by rw [h])]
  · rw [if_neg h, if_neg (fun e => h (path_inj _ _ _ (Nat.lt_succ_self _) e))]; rfl
theorem get_set_same (t : Trie α) (k : Nat) (v : α) : (t.set k v).get k = some v := by rw [get_set, if_pos rfl]
theorem get_set_ne (t : Trie α) {k k' : Nat} (v : α) (h : k' ≠ k) : (t.set k v).get k' = t.get k' := by rw [get_set, if_neg h]
end Trie

theorem loadL_zero (xs : Trie Value) (off : Nat) : loadL xs off 0 = [] := rfl
theorem loadL_succ (xs : Trie Value) (off n : Nat) : loadL xs off (n + 1) = (xs.get off).getD undef :: loadL xs (off + 1) n := by
  show Option.rec (motive := fun _ => Value) undef (fun v => v) (xs.get off) :: loadL xs (off + 1) n = _
  cases xs.get off <;> rfl
theorem storeL_nil (xs : Trie Value) (off : Nat) : storeL xs off [] = xs := rfl
theorem storeL_cons (xs : Trie Value) (off : Nat) (v : Value) (r : List Value) : storeL xs off (v :: r) = storeL (xs.set off v) (off + 1) r := rfl

theorem get_storeL (l : List Value) : ∀ (xs : Trie Value) (off k : Nat), (storeL xs off l).get k = if off ≤ k ∧ k < off + l.length then l[k - off]? else xs.get k := by
  induction l with
  | nil => intro xs off k; rw [storeL_nil, if_neg (by simp)]
  | cons v r ih =>
    intro xs off k
    rw [storeL_cons, ih, Trie.get_set]
    simp only [List.length_cons]
    by_cases h : off ≤ k ∧ k < off + (r.length + 1)
    · rw [if_pos h]
      by_cases e : k = off
      · subst e; rw [if_neg (by omega), if_pos rfl]; simp
      · rw [if_pos (by omega)]
        rw [show k - off = (k - (off + 1)) + 1 by omega, List.getElem?_cons_succ]
    · rw [if_neg h, if_neg (by omega), if_neg (by omega)]
theorem get_ofList (l : List Value) (k : Nat) : (ofList l).get k = l[k]? := by
  unfold ofList
  rw [get_storeL]
  by_cases h : k < l.length
  · rw [if_pos (by omega)]; simp
  · rw [if_neg (by omega), Trie.get_leaf, List.getElem?_eq_none (by omega)]
theorem length_loadL (xs : Trie Value) : ∀ (n off : Nat), (loadL xs off n).length = n := by
  intro n
  induction n with
  | zero => intro off; rfl
  | succ n ih => intro off; rw [loadL_succ, List.length_cons, ih]
theorem getElem_loadL (xs : Trie Value) : ∀ (n off i : Nat), i < n → (loadL xs off n)[i]? = some ((xs.get (off + i)).getD undef) := by
  intro n
  induction n with
  | zero => intro off i h; exact absurd h (Nat.not_lt_zero _)
  | succ n ih =>
    intro off i h
    rw [loadL_succ]
    cases i with
    | zero => simp
    | succ i => rw [List.getElem?_cons_succ, ih (off + 1) i (by omega), show off + 1 + i = off + (i + 1) by omega]
theorem repeatL_zero (z : List Value) : repeatL z 0 = [] := rfl
theorem repeatL_succ (z : List Value) (n : Nat) : repeatL z (n + 1) = z ++ repeatL z n := rfl
theorem length_repeatL (z : List Value) (n : Nat) : (repeatL z n).length = n * z.length := by
  induction n with
  | zero => simp [repeatL_zero]
  | succ n ih => rw [repeatL_succ, List.length_append, ih, Nat.succ_mul, Nat.add_comm]
theorem getElem_repeatL (z : List Value) : ∀ (n i : Nat), i < n * z.length → (repeatL z n)[i]? = z[i % z.length]? := by
  intro n
  induction n with
  | zero => intro i h; simp at h
  | succ n ih =>
    intro i h
    rw [repeatL_succ]
    by_cases hi : i < z.length
    · rw [List.getElem?_append_left hi, Nat.mod_eq_of_lt hi]
    · rw [List.getElem?_append_right (by omega), ih _ (by rw [Nat.succ_mul] at h; omega)]
      congr 1
      have hz : z.length ≤ i := by omega
      exact (Nat.mod_eq_sub_mod hz).symm
theorem get_fullT (v : Value) : ∀ (d k : Nat), k + 1 < 2 ^ d → (fullT v d).get k = some v := by
  intro d
  induction d with
  | zero => intro k h; simp at h
  | succ d ih =>
    intro k h
    have e : fullT v (d + 1) = .node (some v) (fullT v d) (fullT v d) := rfl
    rw [e]
    cases k with
    | zero => rfl
    | succ k =>
      rw [Trie.get_succ, ih (k / 2) (by rw [Nat.pow_succ] at h; omega)]
      simp
theorem mkRow_get (z : List Value) (c : Nat) (hc : c ≤ 2 ^ 40) : ∃ xs, mkRow z c = .cells xs (repeatL z c).length .exact ∧ ∀ i, i < (repeatL z c).length → xs.get i = (repeatL z c)[i]? := by
  unfold mkRow
  cases hb : Nat.ble c 2048 with
  | true => exact ⟨_, rfl, fun i _ => get_ofList _ _⟩
  | false =>
    simp only [cond_false]
    split
    · rename_i v
      have hl : (repeatL [v] c).length = c := by rw [length_repeatL]; simp
      refine ⟨fullT v 48, by rw [hl], fun i hi => ?_⟩
      rw [hl] at hi
      have h48 : (2 : Nat) ^ 40 + 1 < 2 ^ 48 := by decide
      rw [get_fullT v 48 i (by omega), getElem_repeatL _ _ _ (by rw [List.length_singleton]; omega)]
      simp [Nat.mod_one]
    · exact ⟨_, rfl, fun i _ => get_ofList _ _⟩
end Go.AM
end
section
/- How an abstract heap stands for the model's. -/
namespace Go.AM

structure Loc where
  cb : Nat
  sh : Nat
  esz : Nat
  asz : Nat
  csz : Nat
  rw : Bool
inductive Stat where
  | fresh | dead
  | live (l : Loc)
  | sym (k : IntKind) (n : Int)
abbrev Mp := Nat → Stat

def SRel (l : Loc) (off cap cap' : Nat) : Prop :=
  cap' = cap ∨ (off + cap * l.esz = l.asz ∧ l.sh + off + cap' * l.esz = l.csz ∧ 0 < l.esz ∧ cap ≤ cap')

mutual
inductive VRel (m : Mp) : Value → Value → Prop
  | bool (b : Bool) : VRel m (.bool b) (.bool b)
  | int (k : IntKind) (n : Int) : VRel m (.int k n) (.int k n)
  | string (s : ByteArray) : VRel m (.string s) (.string s)
  | ptrNil : VRel m (.pointer none) (.pointer none)
  | ptr (b off : Nat) (l : Loc) (h : m b = .live l) : VRel m (.pointer (some ⟨b, off, none⟩)) (.pointer (some ⟨l.cb, l.sh + off, none⟩))
  | ptrDead (a a' : Addr) (h : m a.block = .dead) : VRel m (.pointer (some a)) (.pointer (some a'))
  | sliceNil (n c : Nat) : VRel m (.slice none n c) (.slice none n c)
  | slice (b off len cap cap' : Nat) (l : Loc) (h : m b = .live l) (hs : SRel l off cap cap') : VRel m (.slice (some ⟨b, off, none⟩) len cap) (.slice (some ⟨l.cb, l.sh + off, none⟩) len cap')
  | sliceEnd (b off : Nat) (a' : Addr) (l : Loc) (h : m b = .live l) (ho : off = l.asz) : VRel m (.slice (some ⟨b, off, none⟩) 0 0) (.slice (some a') 0 0)
  | sliceDead (a a' : Addr) (len cap cap' : Nat) (h : m a.block = .dead) : VRel m (.slice (some a) len cap) (.slice (some a') len cap')
  | mapNil : VRel m (.map none) (.map none)
  | map (r : Nat) (l : Loc) (h : m r = .live l) : VRel m (.map (some r)) (.map (some l.cb))
  | mapDead (r r' : Nat) (h : m r = .dead) : VRel m (.map (some r)) (.map (some r'))
  | func (f : Fn) (a b a' b' : Array Value) (ha : VRels m a.toList a'.toList) (hb : VRels m b.toList b'.toList) : VRel m (.func f a b) (.func f a' b')
  | nilFunc : VRel m .nilFunc .nilFunc
  | nilIface : VRel m .nilIface .nilIface
  | iface (t : TypeId) (v v' : Value) (h : VRel m v v') : VRel m (.iface t v) (.iface t v')
  | agg (c c' : Array Value) (h1 : c.toList.all Value.oneCell' = true) (h : VRels m c.toList c'.toList) : VRel m (.agg c) (.agg c')
  | tuple (c c' : Array Value) (h : VRels m c.toList c'.toList) : VRel m (.tuple c) (.tuple c')
  | any (v' : Value) (h1 : v'.oneCell' = true) : VRel m (.chan none) v'
  | sym (i : Nat) (k : IntKind) (n : Int) (h : m i = .sym k n) : VRel m (.chan (some i)) (.int k n)
  | top (v' : Value) : VRel m (.tuple #[.tuple #[]]) v'
inductive VRels (m : Mp) : List Value → List Value → Prop
  | nil : VRels m [] []
  | cons (v v' : Value) (r r' : List Value) (h : VRel m v v') (t : VRels m r r') : VRels m (v :: r) (v' :: r')
end

def Ext (m m' : Mp) : Prop := ∀ b, m b = .fresh ∨ m' b = m b ∨ (m' b = .dead ∧ (∀ l, m b = .live l → l.rw = true) ∧ ∀ k n, m b ≠ .sym k n)

theorem Ext.refl (m : Mp) : Ext m m := fun _ => .inr (.inl rfl)
theorem Ext.trans {m m' m'' : Mp} (h : Ext m m') (h' : Ext m' m'') : Ext m m'' := by
  intro b
  rcases h b with h1 | h1 | ⟨h1, h2⟩
  · exact .inl h1
  · rcases h' b with g1 | g1 | ⟨g1, g2⟩
    · exact .inl (h1 ▸ g1)
    · exact .inr (.inl (g1.trans h1))
    · exact .inr (.inr ⟨g1, fun l hl => g2.1 l (h1.trans hl), fun k n hs => g2.2 k n (h1.trans hs)⟩)
  · rcases h' b with g1 | g1 | ⟨g1, g2⟩
    · rw [h1] at g1; cases g1
    · exact .inr (.inr ⟨g1.trans h1, h2⟩)
    · exact .inr (.inr ⟨g1, h2⟩)
theorem Ext.live {m m' : Mp} (h : Ext m m') {b : Nat} {l : Loc} (hb : m b = .live l) : m' b = .live l ∨ (m' b = .dead ∧ l.rw = true) := by
  rcases h b with h1 | h1 | ⟨h1, h2⟩
  · rw [h1] at hb; cases hb
  · exact .inl (h1.trans hb)
  · exact .inr ⟨h1, h2.1 l hb⟩
theorem Ext.sym {m m' : Mp} (h : Ext m m') {b : Nat} {k : IntKind} {n : Int} (hb : m b = .sym k n) : m' b = .sym k n := by
  rcases h b with h1 | h1 | ⟨_, h2⟩
  · rw [h1] at hb; cases hb
  · exact h1.trans hb
  · exact absurd hb (h2.2 k n)
theorem Ext.dead {m m' : Mp} (h : Ext m m') {b : Nat} (hb : m b = .dead) : m' b = .dead := by
  rcases h b with h1 | h1 | ⟨h1, _⟩
  · rw [h1] at hb; cases hb
  · exact h1.trans hb
  · exact h1
theorem Ext.ro {m m' : Mp} (h : Ext m m') {b : Nat} {l : Loc} (hb : m b = .live l) (hr : l.rw = false) : m' b = .live l := by
  rcases h.live hb with h1 | ⟨_, h2⟩
  · exact h1
  · rw [hr] at h2; cases h2

mutual
theorem VRel.mono {m m' : Mp} (e : Ext m m') : ∀ {v v' : Value}, VRel m v v' → VRel m' v v'
  | _, _, .bool b => .bool b
  | _, _, .int k n => .int k n
  | _, _, .string s => .string s
  | _, _, .ptrNil => .ptrNil
  | _, _, .ptr b off l h => by
    rcases e.live h with h1 | ⟨h1, _⟩
    · exact .ptr b off l h1
    · exact .ptrDead _ _ h1
  | _, _, .ptrDead a a' h => .ptrDead a a' (e.dead h)
  | _, _, .sliceNil n c => .sliceNil n c
  | _, _, .slice b off len cap cap' l h hs => by
    rcases e.live h with h1 | ⟨h1, _⟩
    · exact .slice b off len cap cap' l h1 hs
    · exact .sliceDead _ _ _ _ _ h1
  | _, _, .sliceEnd b off a' l h ho => by
    rcases e.live h with h1 | ⟨h1, _⟩
    · exact .sliceEnd b off a' l h1 ho
    · exact .sliceDead _ _ _ _ _ h1
  | _, _, .sliceDead a a' len cap cap' h => .sliceDead a a' len cap cap' (e.dead h)
  | _, _, .mapNil => .mapNil
  | _, _, .map r l h => by
    rcases e.live h with h1 | ⟨h1, _⟩
    · exact .map r l h1
    · exact .mapDead _ _ h1
  | _, _, .mapDead r r' h => .mapDead r r' (e.dead h)
  | _, _, .func f a b a' b' ha hb => .func f a b a' b' (VRels.mono e ha) (VRels.mono e hb)
  | _, _, .nilFunc => .nilFunc
  | _, _, .nilIface => .nilIface
  | _, _, .iface t v v' h => .iface t v v' (VRel.mono e h)
  | _, _, .agg c c' h1 h => .agg c c' h1 (VRels.mono e h)
  | _, _, .tuple c c' h => .tuple c c' (VRels.mono e h)
  | _, _, .any v' h1 => .any v' h1
  | _, _, .sym i k n h => .sym i k n (e.sym h)
  | _, _, .top v' => .top v'
theorem VRels.mono {m m' : Mp} (e : Ext m m') : ∀ {l l' : List Value}, VRels m l l' → VRels m' l l'
  | _, _, .nil => .nil
  | _, _, .cons v v' r r' h t => .cons v v' r r' (VRel.mono e h) (VRels.mono e t)
end

theorem VRels.length {m : Mp} {l l' : List Value} (h : VRels m l l') : l'.length = l.length := by
  induction l generalizing l' with
  | nil => cases h; rfl
  | cons v r ih => cases h with | cons _ _ _ _ h t => simp [ih t]
theorem VRels.get {m : Mp} {l l' : List Value} (h : VRels m l l') {i : Nat} {v : Value} (hv : l[i]? = some v) : ∃ v', l'[i]? = some v' ∧ VRel m v v' := by
  induction l generalizing l' i with
  | nil => simp at hv
  | cons x r ih =>
    cases h with
    | cons _ x' _ r' h t =>
      cases i with
      | zero => simp at hv; subst hv; exact ⟨x', by simp, h⟩
      | succ i => simp at hv ⊢; exact ih t hv
theorem VRels.of_get {m : Mp} {l l' : List Value} (hl : l'.length = l.length) (h : ∀ (i : Nat) (v v' : Value), l[i]? = some v → l'[i]? = some v' → VRel m v v') : VRels m l l' := by
  induction l generalizing l' with
  | nil => cases l' with
    | nil => exact .nil
    | cons => simp at hl
  | cons x r ih => cases l' with
    | nil => simp at hl
    | cons x' r' => exact .cons _ _ _ _ (h 0 x x' (by simp) (by simp)) (ih (by simpa using hl) fun i v v' h1 h2 => h (i + 1) v v' (by simpa using h1) (by simpa using h2))
theorem VRels.append {m : Mp} {a a' b b' : List Value} (h : VRels m a a') (h' : VRels m b b') : VRels m (a ++ b) (a' ++ b') := by
  induction a generalizing a' with
  | nil => cases h; exact h'
  | cons v r ih => cases h with | cons _ _ _ _ h t => exact .cons _ _ _ _ h (ih t)
theorem VRels.take {m : Mp} {a a' : List Value} (h : VRels m a a') (n : Nat) : VRels m (a.take n) (a'.take n) := by
  induction n generalizing a a' with
  | zero => simpa using VRels.nil
  | succ n ih => cases h with
    | nil => simpa using VRels.nil
    | cons v v' r r' h t => simpa using VRels.cons _ _ _ _ h (ih t)
theorem VRels.drop {m : Mp} {a a' : List Value} (h : VRels m a a') (n : Nat) : VRels m (a.drop n) (a'.drop n) := by
  induction n generalizing a a' with
  | zero => simpa using h
  | succ n ih => cases h with
    | nil => simpa using VRels.nil
    | cons v v' r r' h t => simpa using ih t
theorem VRel.oneCell {m : Mp} {v v' : Value} (h : VRel m v v') (h1 : v.oneCell' = true) : v'.oneCell' = true := by cases h <;> first | (exact absurd h1 (by decide)) | rfl | assumption | exact h1

theorem plainCell_rel {m : Mp} {v : Value} (h : plainCell v = true) : VRel m v v ∧ v.oneCell' = true := by
  cases v with
  | bool b => exact ⟨.bool b, rfl⟩
  | int k n => exact ⟨.int k n, rfl⟩
  | string s => exact ⟨.string s, rfl⟩
  | nilFunc => exact ⟨.nilFunc, rfl⟩
  | nilIface => exact ⟨.nilIface, rfl⟩
  | pointer a => cases a with
    | none => exact ⟨.ptrNil, rfl⟩
    | some a => simp [plainCell] at h
  | map a => cases a with
    | none => exact ⟨.mapNil, rfl⟩
    | some a => simp [plainCell] at h
  | slice a l c => cases a with
    | none => exact ⟨.sliceNil l c, rfl⟩
    | some a => simp [plainCell] at h
  | _ => simp [plainCell] at h
theorem plainCells_rel {m : Mp} {l : List Value} (h : l.all plainCell = true) : VRels m l l := by
  induction l with
  | nil => exact .nil
  | cons v r ih => simp at h; exact .cons _ _ _ _ (plainCell_rel h.1).1 (ih (by simpa using h.2))
theorem plainCells_one {l : List Value} (h : l.all plainCell = true) : l.all Value.oneCell' = true := by
  rw [List.all_eq_true] at *
  exact fun v hv => (plainCell_rel (m := fun _ => .fresh) (h v hv)).2
theorem plainV_rel {m : Mp} {v : Value} (h : plainV v = true) : VRel m v v := by
  cases v with
  | agg c => exact .agg c c (plainCells_one h) (plainCells_rel h)
  | tuple c =>
    have : c.toList = [] := by simpa [plainV] using h
    refine .tuple c c ?_
    rw [this]; exact .nil
  | _ => exact (plainCell_rel (by simpa [plainV] using h)).1
theorem cellsOf_rel {m : Mp} {v v' : Value} {l : List Value} (h : VRel m v v') (hl : cellsOf v = some l) :
    VRels m l v'.cells.toList ∧ l.all Value.oneCell' = true ∧ cellsOf v' = some v'.cells.toList := by
  cases h with
  | agg c c' h1 h => simp [cellsOf] at hl; subst hl; exact ⟨h, h1, rfl⟩
  | tuple c c' h => simp [cellsOf] at hl
  | top v' => simp [cellsOf] at hl
  | any v' h2 =>
    simp only [cellsOf, Option.some.injEq] at hl
    subst hl
    cases v' <;> first | (simp [Value.oneCell'] at h2; done) | exact ⟨.cons _ _ _ _ (.any _ h2) .nil, rfl, rfl⟩
  | _ => simp [cellsOf] at hl; subst hl; exact ⟨.cons _ _ _ _ (by constructor <;> assumption) .nil, rfl, rfl⟩

/- ## Heaps -/
def KRel (l : Loc) (n : Nat) (k : Kind) (fr : Nat × Nat) (el : TypeId) : Prop :=
  match k with
  | .ro => l.rw = false ∧ l.esz = 0
  | .exact => l.rw = true ∧ l.sh = 0 ∧ l.csz = n ∧ fr = (0, 0)
  | .loose e => l.rw = true ∧ fr = (0, 0) ∧ l.esz = e ∧ 0 < e
  | .bytes => l.rw = true ∧ (∀ i, i < l.csz → (decide (fr.1 ≤ i) && decide (i < fr.2)) = false) ∧ l.esz = 1
  | .bld t => l.rw = true ∧ l.sh = 0 ∧ l.csz = n ∧ fr = (0, 0) ∧ el = t
  | .own t => l.rw = true ∧ fr = (0, 0) ∧ l.esz = 1 ∧ el = t ∧ l.sh = 0
def CellAt (m : Mp) (xs : Trie Value) (c : Array Value) (sh i : Nat) : Prop :=
  ∃ v v', xs.get i = some v ∧ c[sh + i]? = some v' ∧ v.oneCell' = true ∧ VRel m v v'
def ERel (m : Mp) : List (Value × Value × Nat) → List MapEntry → Prop
  | [], [] => True
  | x :: r, y :: s => (x.1 = y.key ∧ simpleKey x.1 = true ∧ VRel m x.2.1 y.val ∧ x.2.2 = y.born) ∧ ERel m r s
  | _, _ => False
def binV (op : BinOp) (k : IntKind) (a : Int) (k' : IntKind) (b : Int) : Option Value := match op with
  | .shl => shiftOp .shl k a b
  | .shr => shiftOp .shr k a b
  | op => cond (Nat.beq (kindN k) (kindN k')) (intOp op k a b) none
def IsInt (m : Mp) (o : Value) (k : IntKind) (b : Int) : Prop := o = .int k b ∨ ∃ j, o = .chan (some j) ∧ m j = .sym k b
def Fact.holds (m : Mp) (k : IntKind) (n : Int) : Fact → Prop
  | .bin op o res => ∀ k' b, IsInt m o k' b → ∃ v, binV op k n k' b = some v ∧ VRel m res v
  | .nib op o res => ∀ k' b, IsInt m o k' b → ∃ v, binV op k' b k n = some v ∧ VRel m res v
  | .conv k' res => VRel m res (.int k' (k'.wrap n))
  | .mm mn k' b res => k' = k ∧ VRel m res (.int k (if mn then (if b < n then b else n) else (if b > n then b else n)))
theorem Fact.mono {m m' : Mp} (e : Ext m m') {k : IntKind} {n : Int} : ∀ {f : Fact}, (∀ op o res, (f = .bin op o res ∨ f = .nib op o res) → ∃ k' b, IsInt m o k' b) → f.holds m k n → f.holds m' k n := by
  have key : ∀ o, (∃ k' b, IsInt m o k' b) → ∀ k' b, IsInt m' o k' b → IsInt m o k' b := by
    rintro o ⟨k1, b1, h1⟩ k' b h
    rcases h1 with rfl | ⟨j, rfl, hj⟩
    · rcases h with h | ⟨j, h, _⟩
      · cases h; exact .inl rfl
      · cases h
    · rcases h with h | ⟨j', h, hj'⟩
      · cases h
      · cases h
        rw [e.sym hj] at hj'
        cases hj'
        exact .inr ⟨j, rfl, hj⟩
  intro f hf h
  cases f with
  | bin op o res => exact fun k' b hb => let ⟨v, h1, h2⟩ := h k' b (key o (hf op o res (.inl rfl)) k' b hb); ⟨v, h1, h2.mono e⟩
  | nib op o res => exact fun k' b hb => let ⟨v, h1, h2⟩ := h k' b (key o (hf op o res (.inr rfl)) k' b hb); ⟨v, h1, h2.mono e⟩
  | conv k' res => exact VRel.mono e h
  | mm mn k' b res => exact ⟨h.1, VRel.mono e h.2⟩
def Fact.ok (m : Mp) (k : IntKind) (n : Int) (f : Fact) : Prop := f.holds m k n ∧ ∀ op o res, (f = .bin op o res ∨ f = .nib op o res) → ∃ k' b, IsInt m o k' b
theorem IsInt.mono {m m' : Mp} (e : Ext m m') {o : Value} {k : IntKind} {b : Int} (h : IsInt m o k b) : IsInt m' o k b := by
  rcases h with h | ⟨j, h, hj⟩
  · exact .inl h
  · exact .inr ⟨j, h, e.sym hj⟩
theorem Fact.ok.mono {m m' : Mp} (e : Ext m m') {k : IntKind} {n : Int} {f : Fact} (h : f.ok m k n) : f.ok m' k n :=
  ⟨Fact.mono e h.2 h.1, fun op o res hf => let ⟨k', b, h1⟩ := h.2 op o res hf; ⟨k', b, h1.mono e⟩⟩
def MapAt (m : Mp) (r cbm : Nat) : Prop := m r = .dead ∨ ∃ lr, m r = .live lr ∧ lr.cb = cbm
def BRel (m : Mp) (w : World) : Stat → Option Blk → Prop
  | .fresh, none => True
  | .dead, some .dead => True
  | .sym _ _, some .dead => True
  | .sym k n, some (.tok fs) => ∀ f ∈ fs, f.ok m k n
  | .live l, some (.cells xs n k) => l.asz = n ∧ ∃ c el fr, w.heap[l.cb]? = some (.cells c el fr) ∧ c.size = l.csz ∧ l.sh + n ≤ l.csz ∧ KRel l n k fr el ∧ ∀ i, i < n → CellAt m xs c l.sh i
  | .live l, some (.map es clk) => l.rw = true ∧ ∃ ces, w.heap[l.cb]? = some (.map ces clk) ∧ ERel m es ces.toList
  | .live l, some (.str s pos) => (l.rw = true ∧ l.sh = 0) ∧ w.heap[l.cb]? = some (.stringIter s pos)
  | .live l, some (.iter r since seen cur last) => (l.rw = true ∧ l.sh = 0) ∧ ∃ cbm sa, w.heap[l.cb]? = some (.mapIter (some cbm) since sa last) ∧ MapAt m r cbm ∧ (∀ x, x ∈ sa.toList ↔ x ∈ seen) ∧ ∀ b, cur = some b → sa.back? = some b
  | .live l, some (.look r b last) => (l.rw = false ∧ l.sh = 0) ∧ ∃ cbm since sa, w.heap[l.cb]? = some (.mapIter (some cbm) since sa last) ∧ MapAt m r cbm ∧ sa.back? = some b
  | _, _ => False

def roB : Option Blk → Bool
  | some (.cells _ _ .ro) => true
  | _ => false
structure HRel (m : Mp) (G : Nat → Option Blk) (w : World) : Prop where
  blk : ∀ b, BRel m w (m b) (G b)
  inj : ∀ b b' l l', m b = .live l → m b' = .live l' → l.cb = l'.cb → roB (G b) = false → b = b'

theorem ERel.mono {m m' : Mp} (e : Ext m m') : ∀ {a : List (Value × Value × Nat)} {b : List MapEntry}, ERel m a b → ERel m' a b
  | [], [], _ => trivial
  | _ :: _, _ :: _, ⟨⟨h1, h2, h3, h4⟩, h⟩ => ⟨⟨h1, h2, h3.mono e, h4⟩, ERel.mono e h⟩
  | [], _ :: _, h => h.elim
  | _ :: _, [], h => h.elim
theorem MapAt.mono {m m' : Mp} {r cbm : Nat} (e : Ext m m') (h : MapAt m r cbm) : MapAt m' r cbm := by
  rcases h with h | ⟨lr, h1, h2⟩
  · exact .inl (e.dead h)
  · rcases e.live h1 with h3 | ⟨h3, _⟩
    · exact .inr ⟨lr, h3, h2⟩
    · exact .inl h3
theorem BRel.mono {m m' : Mp} {w w' : World} {s : Stat} {x : Option Blk} (e : Ext m m') (hw : ∀ l, s = .live l → w'.heap[l.cb]? = w.heap[l.cb]?) (h : BRel m w s x) : BRel m' w' s x := by
  cases s with
  | fresh => cases x with
    | none => trivial
    | some x => exact h.elim
  | dead => cases x with
    | none => exact h.elim
    | some x => cases x <;> first | trivial | exact h.elim
  | sym k n => cases x with
    | none => exact h.elim
    | some x => cases x <;> first | trivial | exact h.elim | exact fun f hf => (h f hf).mono e
  | live l =>
    have hw := hw l rfl
    cases x with
    | none => exact h.elim
    | some x => cases x with
      | cells xs n k =>
        obtain ⟨h0, c, el, fr, h1, h2, h3, h4, h5⟩ := h
        exact ⟨h0, c, el, fr, hw.trans h1, h2, h3, h4, fun i hi => let ⟨v, v', a1, a2, a3, a4⟩ := h5 i hi; ⟨v, v', a1, a2, a3, a4.mono e⟩⟩
      | map es clk =>
        obtain ⟨h0, ces, h1, h2⟩ := h
        exact ⟨h0, ces, hw.trans h1, h2.mono e⟩
      | str s pos => exact ⟨h.1, hw.trans h.2⟩
      | iter r since seen cur last =>
        obtain ⟨h0, cbm, sa, h1, h2, h3⟩ := h
        exact ⟨h0, cbm, sa, hw.trans h1, h2.mono e, h3⟩
      | look r b last =>
        obtain ⟨h0, cbm, since, sa, h1, h2, h3⟩ := h
        exact ⟨h0, cbm, since, sa, hw.trans h1, h2.mono e, h3⟩
      | tok fs => exact h.elim
      | dead => exact h.elim

noncomputable def mix (h : Heap) (N : Nat) (F : Nat → Option Blk) : Nat → Option Blk := fun b => if b < N then h.get b else F b

structure Step (m : Mp) (w : World) (m' : Mp) (w' : World) : Prop where
  ext : Ext m m'
  size : w.heap.size ≤ w'.heap.size
  os : w'.os = w.os
  out : w'.output = w.output
  keep : ∀ cb, cb < w.heap.size → (∀ b l, m b = .live l → l.rw = true → l.cb ≠ cb) → w'.heap[cb]? = w.heap[cb]?
  new : ∀ b l, m' b = .live l → l.rw = true → w.heap.size ≤ l.cb ∨ ∃ b0 l0, m b0 = .live l0 ∧ l0.rw = true ∧ l0.cb = l.cb
  old : ∀ b l, m' b = .live l → l.rw = false → m b = .live l

theorem Step.refl (m : Mp) (w : World) : Step m w m w :=
  ⟨.refl m, Nat.le_refl _, rfl, rfl, fun _ _ _ => rfl, fun b l h hr => .inr ⟨b, l, h, hr, rfl⟩, fun _ _ h _ => h⟩
theorem Step.drew {m : Mp} {w : World} {d : Nat} : Step m w m { w with drawn := d } :=
  ⟨.refl m, Nat.le_refl _, rfl, rfl, fun _ _ _ => rfl, fun b l h hr => .inr ⟨b, l, h, hr, rfl⟩, fun _ _ h _ => h⟩
theorem Step.trans {m m' m'' : Mp} {w w' w'' : World} (h : Step m w m' w') (g : Step m' w' m'' w'') : Step m w m'' w'' where
  ext := h.ext.trans g.ext
  size := Nat.le_trans h.size g.size
  os := g.os.trans h.os
  out := g.out.trans h.out
  keep := fun cb hc hn => by
    refine (g.keep cb (Nat.lt_of_lt_of_le hc h.size) ?_).trans (h.keep cb hc hn)
    intro b l hb hr e
    rcases h.new b l hb hr with h1 | ⟨b0, l0, h1, h2, h3⟩
    · omega
    · exact hn b0 l0 h1 h2 (h3.trans e)
  new := fun b l hb hr => by
    rcases g.new b l hb hr with h1 | ⟨b0, l0, h1, h2, h3⟩
    · exact .inl (Nat.le_trans h.size h1)
    · rcases h.new b0 l0 h1 h2 with k1 | ⟨b1, l1, k1, k2, k3⟩
      · exact .inl (h3 ▸ k1)
      · exact .inr ⟨b1, l1, k1, k2, k3.trans h3⟩
  old := fun b l hb hr => h.old b l (g.old b l hb hr) hr

def HWf (h : Heap) : Prop := ∀ b, h.nx ≤ b → h.get b = none

theorem HRel.drew {m : Mp} {G : Nat → Option Blk} {w : World} (h : HRel m G w) (d : Nat) : HRel m G { w with drawn := d } :=
  ⟨fun b => (h.blk b).mono (.refl m) (fun _ _ => rfl), h.inj⟩

theorem BRel.lt {m : Mp} {w : World} {l : Loc} {x : Option Blk} (h : BRel m w (.live l) x) : l.cb < w.heap.size := by
  rcases Nat.lt_or_ge l.cb w.heap.size with h' | h'
  · exact h'
  · have hn : w.heap[l.cb]? = none := Array.getElem?_eq_none h'
    cases x with
    | none => exact h.elim
    | some x => cases x with
      | cells xs n k => obtain ⟨_, c, el, fr, h1, _⟩ := h; rw [hn] at h1; cases h1
      | map es clk => obtain ⟨_, ces, h1, _⟩ := h; rw [hn] at h1; cases h1
      | str s pos => have h2 := h.2; rw [hn] at h2; cases h2
      | iter r since seen cur last => obtain ⟨_, cbm, sa, h1, _⟩ := h; rw [hn] at h1; cases h1
      | look r b last => obtain ⟨_, cbm, since, sa, h1, _⟩ := h; rw [hn] at h1; cases h1
      | tok fs => exact h.elim
      | dead => exact h.elim
theorem HRel.lt {m : Mp} {G : Nat → Option Blk} {w : World} (h : HRel m G w) {b : Nat} {l : Loc} (hb : m b = .live l) : l.cb < w.heap.size := by
  have := h.blk b; rw [hb] at this; exact this.lt

theorem roB_rw {m : Mp} {w : World} {l : Loc} {x : Option Blk} (h : BRel m w (.live l) x) (hrw : l.rw = true) : roB x = false := by
  cases x with
  | none => rfl
  | some x =>
    cases x with
    | cells xs n k =>
      cases k with
      | ro =>
        obtain ⟨_, c, el, fr, _, _, _, hk, _⟩ := h
        have hk : l.rw = false ∧ l.esz = 0 := hk
        rw [hk.1] at hrw; cases hrw
      | _ => rfl
    | _ => rfl
theorem roB_obj {m : Mp} {w : World} {l : Loc} {x : Option Blk} (h : BRel m w (.live l) x) (ho : ∀ c el fr, w.heap[l.cb]? ≠ some (.cells c el fr)) : roB x = false := by
  cases x with
  | none => rfl
  | some x =>
    cases x with
    | cells xs n k =>
      obtain ⟨_, c, el, fr, h1, _⟩ := h
      exact absurd h1 (ho c el fr)
    | _ => rfl
theorem HRel.upd {m : Mp} {G : Nat → Option Blk} {w w' : World} (h : HRel m G w) {b : Nat} {l : Loc} (hb : m b = .live l) (hrw : l.rw = true) {x : Blk}
    (hsz : w'.heap.size = w.heap.size) (hos : w'.os = w.os) (hout : w'.output = w.output) (hoth : ∀ cb, cb ≠ l.cb → w'.heap[cb]? = w.heap[cb]?)
    (hx : BRel m w' (.live l) (some x)) : HRel m (fun b' => if b' = b then some x else G b') w' ∧ Step m w m w' := by
  have hro : roB (G b) = false := roB_rw (hb ▸ h.blk b) hrw
  refine ⟨⟨fun b' => ?_, fun b1 b2 l1 l2 h1 h2 e hr => ?_⟩, ?_⟩
  · by_cases e : b' = b
    · subst e; simp only [if_true]; rw [hb]; exact hx
    · simp only [if_neg e]
      refine (h.blk b').mono (.refl m) ?_
      intro l' hl'
      refine hoth _ ?_
      intro e'
      exact e (h.inj b b' l l' hb hl' e'.symm hro).symm
  · refine h.inj b1 b2 l1 l2 h1 h2 e ?_
    by_cases e1 : b1 = b
    · rw [e1]; exact hro
    · simpa only [if_neg e1] using hr
  · exact ⟨.refl m, Nat.le_of_eq hsz.symm, hos, hout, fun cb _ hn => hoth cb (fun e => hn b l hb hrw e.symm), fun b l h hr => .inr ⟨b, l, h, hr, rfl⟩, fun _ _ h _ => h⟩

theorem HRel.alloc {m : Mp} {G : Nat → Option Blk} {w : World} (h : HRel m G w) {b : Nat} (hb : G b = none) (o : Obj) {l : Loc} (hl : l.cb = w.heap.size) (hrw : l.rw = true) {x : Blk}
    (hx : ∀ m', Ext m m' → m' b = .live l → BRel m' { w with heap := w.heap.push o } (.live l) (some x)) :
    HRel (fun b' => if b' = b then .live l else m b') (fun b' => if b' = b then some x else G b') { w with heap := w.heap.push o } ∧
    Step m w (fun b' => if b' = b then .live l else m b') { w with heap := w.heap.push o } := by
  have hfresh : m b = .fresh := by
    have := h.blk b
    rw [hb] at this
    cases hm : m b with
    | fresh => rfl
    | dead => rw [hm] at this; exact this.elim
    | sym k n => rw [hm] at this; exact this.elim
    | live l => rw [hm] at this; exact this.elim
  have hext : Ext m (fun b' => if b' = b then .live l else m b') := by
    intro b'
    by_cases e : b' = b
    · subst e; exact .inl hfresh
    · exact .inr (.inl (by simp [e]))
  have hold : ∀ cb, cb < w.heap.size → (w.heap.push o)[cb]? = w.heap[cb]? := by
    intro cb hc
    rw [Array.getElem?_push, if_neg (Nat.ne_of_lt hc)]
  refine ⟨⟨fun b' => ?_, ?_⟩, ?_⟩
  · by_cases e : b' = b
    · subst e; simp only [if_true]; exact hx _ hext (by simp)
    · simp only [if_neg e]
      exact (h.blk b').mono hext (fun l' hl' => hold _ (h.lt hl'))
  · intro b1 b2 l1 l2 h1 h2 e hro
    by_cases e1 : b1 = b <;> by_cases e2 : b2 = b
    · exact e1.trans e2.symm
    · simp only [if_pos e1, if_neg e2, Stat.live.injEq] at h1 h2
      have := h.lt h2
      subst h1; omega
    · simp only [if_pos e2, if_neg e1, Stat.live.injEq] at h1 h2
      have := h.lt h1
      subst h2; omega
    · simp only [if_neg e1, if_neg e2] at h1 h2 hro
      exact h.inj b1 b2 l1 l2 h1 h2 e hro
  · refine ⟨hext, by simp, rfl, rfl, fun cb hc _ => hold cb hc, ?_, ?_⟩
    · intro b' l' hl' hr
      by_cases e : b' = b
      · simp only [if_pos e, Stat.live.injEq] at hl'
        subst hl'; exact .inl (Nat.le_of_eq hl.symm)
      · simp only [if_neg e] at hl'
        exact .inr ⟨b', l', hl', hr, rfl⟩
    · intro b' l' hl' hr
      by_cases e : b' = b
      · simp only [if_pos e, Stat.live.injEq] at hl'
        subst hl'; rw [hrw] at hr; cases hr
      · simpa only [if_neg e] using hl'
end Go.AM
end
section
/- Reading and writing rows of cells. -/
namespace Go.AM

theorem cell_at {w : World} {cb o : Nat} {c : Array Value} {el : TypeId} {fr : Nat × Nat} (h : w.heap[cb]? = some (.cells c el fr)) : w.cell? ⟨cb, o, none⟩ = c[o]? := by
  simp [World.cell?, h]
theorem frozen_at {w : World} {cb o : Nat} {c : Array Value} {el : TypeId} {fr : Nat × Nat} (h : w.heap[cb]? = some (.cells c el fr)) : w.frozen? ⟨cb, o, none⟩ = (decide (fr.1 ≤ o) && decide (o < fr.2)) := by
  simp [World.frozen?, h]
theorem add_at (cb o n : Nat) : (⟨cb, o, none⟩ : Addr).add n = ⟨cb, o + n, none⟩ := by
  unfold Addr.add; split <;> simp_all

theorem run_cells {P : Program} {w : World} {cb o n : Nat} {c : Array Value} {el : TypeId} {fr : Nat × Nat} (h : w.heap[cb]? = some (.cells c el fr)) (hn : o + n ≤ c.size) :
    (loadCells ⟨cb, o, none⟩ n).run P w = .ok ((c.toList.drop o).take n).toArray w := by
  have hl : ((c.toList.drop o).take n).length = n := by simp; omega
  have := run_loadCells_list (P := P) w ⟨cb, o, none⟩ ((c.toList.drop o).take n) (fun j v hv => by
    rw [add_at, cell_at h]
    have hj : j < n := by
      rcases Nat.lt_or_ge j n with h' | h'
      · exact h'
      · rw [List.getElem?_eq_none (by rw [hl]; exact h')] at hv; cases hv
    rw [List.getElem?_take, if_pos hj, List.getElem?_drop] at hv
    simpa using hv)
  rw [hl] at this
  exact this

theorem cells_rel {m : Mp} {xs : Trie Value} {c : Array Value} {sh n off k : Nat} (h : ∀ i, i < n → CellAt m xs c sh i) (hk : off + k ≤ n) (hc : sh + n ≤ c.size) :
    VRels m (loadL xs off k) ((c.toList.drop (sh + off)).take k) ∧ (loadL xs off k).all Value.oneCell' = true := by
  constructor
  · refine VRels.of_get ?_ ?_
    · rw [length_loadL, List.length_take, List.length_drop, Array.length_toList]; omega
    · intro i v v' h1 h2
      have hi : i < k := by
        rcases Nat.lt_or_ge i k with h' | h'
        · exact h'
        · rw [List.getElem?_eq_none (by rw [length_loadL]; exact h')] at h1; cases h1
      rw [getElem_loadL xs k off i hi] at h1
      rw [List.getElem?_take, if_pos hi, List.getElem?_drop, Array.getElem?_toList] at h2
      obtain ⟨u, u', g1, g2, _, g4⟩ := h (off + i) (by omega)
      rw [g1] at h1
      rw [show sh + off + i = sh + (off + i) by omega, g2] at h2
      cases h1; cases h2; exact g4
  · rw [List.all_eq_true]
    intro v hv
    obtain ⟨i, hi⟩ := List.mem_iff_getElem?.1 hv
    have hik : i < k := by
      rcases Nat.lt_or_ge i k with h' | h'
      · exact h'
      · rw [List.getElem?_eq_none (by rw [length_loadL]; exact h')] at hi; cases hi
    rw [getElem_loadL xs k off i hik] at hi
    obtain ⟨u, u', g1, _, g3, _⟩ := h (off + i) (by omega)
    rw [g1] at hi
    cases hi; exact g3

def overA (c : Array Value) (o : Nat) : List Value → Array Value
  | [] => c
  | v :: r => overA (c.setIfInBounds o v) (o + 1) r
theorem size_overA (l : List Value) : ∀ (c : Array Value) (o : Nat), (overA c o l).size = c.size := by
  induction l with
  | nil => intro c o; rfl
  | cons v r ih => intro c o; simp [overA, ih]
theorem get_overA (l : List Value) : ∀ (c : Array Value) (o k : Nat), o + l.length ≤ c.size → (overA c o l)[k]? = if o ≤ k ∧ k < o + l.length then l[k - o]? else c[k]? := by
  induction l with
  | nil => intro c o k _; rw [overA, if_neg (by simp)]
  | cons v r ih =>
    intro c o k h
    simp only [List.length_cons] at h ⊢
    rw [overA, ih _ _ _ (by simp; omega)]
    by_cases hk : o ≤ k ∧ k < o + (r.length + 1)
    · rw [if_pos hk]
      by_cases e : k = o
      · subst e
        rw [if_neg (by omega), Array.getElem?_setIfInBounds_self_of_lt (by omega)]
        simp
      · rw [if_pos (by omega), show k - o = (k - (o + 1)) + 1 by omega, List.getElem?_cons_succ]
    · rw [if_neg hk, if_neg (by omega), Array.getElem?_setIfInBounds_ne (by omega)]

theorem setCell_heap {w : World} {cb o : Nat} {c : Array Value} {el : TypeId} {fr : Nat × Nat} (h : w.heap[cb]? = some (.cells c el fr)) (v : Value) :
    w.setCell ⟨cb, o, none⟩ v = { w with heap := w.heap.setIfInBounds cb (.cells (c.setIfInBounds o v) el fr) } := by
  unfold World.setCell
  congr 1
  apply Array.ext_getElem?
  intro i
  rw [Array.getElem?_modify, Array.getElem?_setIfInBounds]
  by_cases e : cb = i
  · subst e
    have hlt : cb < w.heap.size := by
      rcases Nat.lt_or_ge cb w.heap.size with h' | h'
      · exact h'
      · rw [Array.getElem?_eq_none h'] at h; cases h
    have hh : w.heap[cb] = .cells c el fr := by
      rw [Array.getElem?_eq_getElem hlt] at h; exact Option.some.inj h
    simp [hlt, hh]
  · simp [e]

theorem run_storeCells {P : Program} {el : TypeId} {fr : Nat × Nat} {cb : Nat} : ∀ (vs : List Value) (w : World) (o i : Nat) (c : Array Value),
    w.heap[cb]? = some (.cells c el fr) → o + i + vs.length ≤ c.size → vs.all Value.oneCell' = true → (∀ k, k < c.size → (decide (fr.1 ≤ k) && decide (k < fr.2)) = false) →
    (storeCells ⟨cb, o, none⟩ vs i).run P w = .ok () { w with heap := w.heap.setIfInBounds cb (.cells (overA c (o + i) vs) el fr) } := by
  intro vs
  induction vs with
  | nil =>
    intro w o i c h _ _ _
    simp only [storeCells, Sem.run_pure, overA]
    congr 1
    cases w with | mk hp tp dr os ot =>
    simp only at h ⊢
    congr 1
    apply Array.ext_getElem?
    intro k
    rw [Array.getElem?_setIfInBounds]
    by_cases e : cb = k
    · subst e
      have hlt : cb < hp.size := by
        rcases Nat.lt_or_ge cb hp.size with h' | h'
        · exact h'
        · rw [Array.getElem?_eq_none h'] at h; cases h
      have hh : hp[cb] = .cells c el fr := by
        rw [Array.getElem?_eq_getElem hlt] at h; exact Option.some.inj h
      simp [hlt, hh]
    · simp [e]
  | cons v r ih =>
    intro w o i c h hn hv hf
    simp only [List.all_cons, Bool.and_eq_true] at hv
    simp only [List.length_cons] at hn
    have hlt : cb < w.heap.size := by
      rcases Nat.lt_or_ge cb w.heap.size with h' | h'
      · exact h'
      · rw [Array.getElem?_eq_none h'] at h; cases h
    have hc : c[o + i]? = some c[o + i] := Array.getElem?_eq_getElem (by omega)
    simp only [storeCells, Sem.run_bind, add_at]
    rw [run_store _ _ _ _ _ hv.1, cell_at h, hc]
    simp only [frozen_at h, hf (o + i) (by omega), Bool.false_eq_true, if_false, Result.andThen_ok]
    rw [setCell_heap h]
    have hnew : ({ w with heap := w.heap.setIfInBounds cb (.cells (c.setIfInBounds (o + i) v) el fr) } : World).heap[cb]? = some (.cells (c.setIfInBounds (o + i) v) el fr) := by
      simp [hlt]
    rw [ih _ o (i + 1) (c.setIfInBounds (o + i) v) hnew (by simp; omega) hv.2 (fun k hk => hf k (by simpa using hk))]
    congr 1
    simp only [overA, Array.setIfInBounds_setIfInBounds, Nat.add_assoc]

structure AtCells (m : Mp) (w : World) (xs : Trie Value) (n : Nat) (k : Kind) (l : Loc) (c : Array Value) (el : TypeId) (fr : Nat × Nat) : Prop where
  asz : l.asz = n
  heap : w.heap[l.cb]? = some (.cells c el fr)
  csz : c.size = l.csz
  fit : l.sh + n ≤ l.csz
  kind : KRel l n k fr el
  cell : ∀ i, i < n → CellAt m xs c l.sh i

variable {m : Mp} {h : Heap} {N : Nat} {F : Nat → Option Blk} {w : World}

theorem mix_lt (h : Heap) {N : Nat} (F : Nat → Option Blk) {b : Nat} (hb : b < N) : mix h N F b = h.get b := by simp [mix, hb]
theorem lt_of_get (hwf : HWf h) (hN : h.nx ≤ N) {b : Nat} {x : Blk} (hb : h.get b = some x) : b < N := by
  rcases Nat.lt_or_ge b h.nx with h' | h'
  · omega
  · rw [hwf b h'] at hb; cases hb

theorem HRel.at (hr : HRel m (mix h N F) w) (hwf : HWf h) (hN : h.nx ≤ N) {b : Nat} {x : Blk} (hb : h.get b = some x) : BRel m w (m b) (some x) := by
  have := hr.blk b
  rwa [mix_lt h F (lt_of_get hwf hN hb), hb] at this
theorem HRel.cells (hr : HRel m (mix h N F) w) (hwf : HWf h) (hN : h.nx ≤ N) {b : Nat} {xs : Trie Value} {n : Nat} {k : Kind} (hb : h.get b = some (.cells xs n k)) :
    ∃ l, m b = .live l ∧ ∃ c el fr, AtCells m w xs n k l c el fr := by
  have := hr.at hwf hN hb
  cases hm : m b with
  | fresh => rw [hm] at this; exact this.elim
  | dead => rw [hm] at this; exact this.elim
  | sym k n => rw [hm] at this; exact this.elim
  | live l =>
    rw [hm] at this
    obtain ⟨h0, c, el, fr, h1, h2, h3, h4, h5⟩ := this
    exact ⟨l, rfl, c, el, fr, ⟨h0, h1, h2, h3, h4, h5⟩⟩
theorem HRel.map (hr : HRel m (mix h N F) w) (hwf : HWf h) (hN : h.nx ≤ N) {b : Nat} {es : List (Value × Value × Nat)} {clk : Nat} (hb : h.get b = some (.map es clk)) :
    ∃ l, m b = .live l ∧ l.rw = true ∧ ∃ ces, w.heap[l.cb]? = some (.map ces clk) ∧ ERel m es ces.toList := by
  have := hr.at hwf hN hb
  cases hm : m b with
  | fresh => rw [hm] at this; exact this.elim
  | dead => rw [hm] at this; exact this.elim
  | sym k n => rw [hm] at this; exact this.elim
  | live l => rw [hm] at this; exact ⟨l, rfl, this⟩
theorem HRel.str (hr : HRel m (mix h N F) w) (hwf : HWf h) (hN : h.nx ≤ N) {b : Nat} {s : ByteArray} {pos : Nat} (hb : h.get b = some (.str s pos)) :
    ∃ l, m b = .live l ∧ (l.rw = true ∧ l.sh = 0) ∧ w.heap[l.cb]? = some (.stringIter s pos) := by
  have := hr.at hwf hN hb
  cases hm : m b with
  | fresh => rw [hm] at this; exact this.elim
  | dead => rw [hm] at this; exact this.elim
  | sym k n => rw [hm] at this; exact this.elim
  | live l => rw [hm] at this; exact ⟨l, rfl, this⟩

theorem ptr_live {b off : Nat} {l : Loc} {v' : Value} (hv : VRel m (.pointer (some ⟨b, off, none⟩)) v') (hm : m b = .live l) : v' = .pointer (some ⟨l.cb, l.sh + off, none⟩) := by
  cases hv with
  | ptr _ _ l' h' => rw [hm] at h'; cases h'; rfl
  | ptrDead _ _ h' => simp only at h'; rw [hm] at h'; cases h'
theorem slice_live {b off len cap : Nat} {l : Loc} {v' : Value} (hv : VRel m (.slice (some ⟨b, off, none⟩) len cap) v') (hm : m b = .live l) :
    (∃ cap', v' = .slice (some ⟨l.cb, l.sh + off, none⟩) len cap' ∧ SRel l off cap cap') ∨ (len = 0 ∧ cap = 0 ∧ off = l.asz ∧ ∃ a', v' = .slice (some a') 0 0) := by
  cases hv with
  | slice _ _ _ _ cap' l' h' hs => rw [hm] at h'; cases h'; exact .inl ⟨cap', rfl, hs⟩
  | sliceEnd _ _ a' l' h' ho => rw [hm] at h'; cases h'; exact .inr ⟨rfl, rfl, ho, a', rfl⟩
  | sliceDead _ _ _ _ _ h' => simp only at h'; rw [hm] at h'; cases h'
theorem map_live {r : Nat} {l : Loc} {v' : Value} (hv : VRel m (.map (some r)) v') (hm : m r = .live l) : v' = .map (some l.cb) := by
  cases hv with
  | map _ l' h' => rw [hm] at h'; cases h'; rfl
  | mapDead _ _ h' => rw [hm] at h'; cases h'

def DoesV (P : Program) (s : Sem Value) (f : Eff) (h : Heap) (N : Nat) (F : Nat → Option Blk) (m : Mp) (w : World) : Prop :=
  ∃ w' m' v', s.run P w = .ok v' w' ∧ VRel m' f.val v' ∧ HRel m' (mix (h.apply f) N F) w' ∧ Step m w m' w'
def DoesU (P : Program) (s : Sem Unit) (f : Eff) (h : Heap) (N : Nat) (F : Nat → Option Blk) (m : Mp) (w : World) : Prop :=
  ∃ w' m', s.run P w = .ok () w' ∧ f.val = undef ∧ HRel m' (mix (h.apply f) N F) w' ∧ Step m w m' w'
def Does (P : Program) (s : Sem Next) (f : Eff) (h : Heap) (N : Nat) (F : Nat → Option Blk) (m : Mp) (w : World) : Prop :=
  ∃ r w' m' v', s.run P w = .ok r w' ∧ (r = .value v' ∨ (r = .skip ∧ v' = undef)) ∧ VRel m' f.val v' ∧ HRel m' (mix (h.apply f) N F) w' ∧ Step m w m' w'

theorem VRel.undef {m : Mp} : VRel m undef undef := .tuple #[] #[] .nil
theorem DoesV.does {P : Program} {s : Sem Value} {f : Eff} (hd : DoesV P s f h N F m w) : Does P (do pure (.value (← s))) f h N F m w := by
  obtain ⟨w', m', v', h1, h2, h3, h4⟩ := hd
  exact ⟨.value v', w', m', v', by simp [h1], .inl rfl, h2, h3, h4⟩
theorem DoesU.does {P : Program} {s : Sem Unit} {f : Eff} (hd : DoesU P s f h N F m w) : Does P (do s; pure .skip) f h N F m w := by
  obtain ⟨w', m', h1, h2, h3, h4⟩ := hd
  exact ⟨.skip, w', m', undef, by simp [h1], .inr ⟨rfl, rfl⟩, by rw [h2]; exact VRel.undef, h3, h4⟩

theorem DoesV.ret {P : Program} {s : Sem Value} {v v' : Value} (hr : HRel m (mix h N F) w) (hs : s.run P w = .ok v' w) (hv : VRel m v v') : DoesV P s ⟨v, [], []⟩ h N F m w :=
  ⟨w, m, v', hs, hv, hr, .refl m w⟩
theorem Does.ret {P : Program} {s : Sem Next} {v v' : Value} (hr : HRel m (mix h N F) w) (hs : s.run P w = .ok (.value v') w) (hv : VRel m v v') : Does P s ⟨v, [], []⟩ h N F m w :=
  ⟨_, w, m, v', hs, .inl rfl, hv, hr, .refl m w⟩

theorem mix_set (h : Heap) (N : Nat) (F : Nat → Option Blk) {b : Nat} (x : Blk) (n : Nat) (hb : b < N) : mix ⟨h.t.set b x, n⟩ N F = fun b' => if b' = b then some x else mix h N F b' := by
  funext b'
  simp only [mix, Heap.get, Trie.get_set]
  by_cases e : b' = b
  · subst e; simp [hb]
  · simp [e]

theorem wr_rel {b : Nat} {l : Loc} {x : Blk} {o : Obj} {v : Value} (hr : HRel m (mix h N F) w) (hb : b < N) (hm : m b = .live l) (hrw : l.rw = true)
    (hx : BRel m { w with heap := w.heap.setIfInBounds l.cb o } (.live l) (some x)) :
    HRel m (mix (h.apply ⟨v, [(b, x)], []⟩) N F) { w with heap := w.heap.setIfInBounds l.cb o } ∧ Step m w m { w with heap := w.heap.setIfInBounds l.cb o } := by
  have key := hr.upd (w' := { w with heap := w.heap.setIfInBounds l.cb o }) hm hrw (x := x) (by simp) rfl rfl (fun cb hc => by simp [Ne.symm hc]) hx
  refine ⟨?_, key.2⟩
  show HRel m (mix ⟨h.t.set b x, h.nx⟩ N F) _
  rw [mix_set h N F x h.nx hb]
  exact key.1

theorem nw_rel {v : Value} {l : Loc} {x : Blk} {o : Obj} (d : Nat) (hr : HRel m (mix h N F) w) (hwf : HWf h) (hN : h.nx < N) (hl : l.cb = w.heap.size) (hrw : l.rw = true)
    (hx : ∀ m', Ext m m' → m' h.nx = .live l → BRel m' { w with heap := w.heap.push o } (.live l) (some x)) :
    ∃ m', Ext m m' ∧ m' h.nx = .live l ∧ HRel m' (mix (h.apply ⟨v, [], [x]⟩) N F) { w with heap := w.heap.push o, drawn := d } ∧ Step m w m' { w with heap := w.heap.push o, drawn := d } := by
  have hnone : mix h N F h.nx = none := by rw [mix_lt h F hN]; exact hwf _ (Nat.le_refl _)
  obtain ⟨k1, k2⟩ := hr.alloc hnone o hl hrw hx
  refine ⟨_, k2.ext, by simp, ?_, k2.trans (Step.drew (d := d))⟩
  show HRel _ (mix ⟨h.t.set h.nx x, h.nx + 1⟩ N F) _
  rw [mix_set h N F x (h.nx + 1) hN]
  exact k1.drew d

theorem new_cells {vs : List Value} {c : Array Value} {el : TypeId} {fr : Nat × Nat} {k : Kind} {e : Nat} (hs : vs.length ≤ c.size)
    (hv : VRels m vs (c.toList.take vs.length)) (h1 : vs.all Value.oneCell' = true) (hk : KRel ⟨w.heap.size, 0, e, vs.length, c.size, true⟩ vs.length k fr el) {m' : Mp} (he : Ext m m') :
    BRel m' { w with heap := w.heap.push (.cells c el fr) } (.live ⟨w.heap.size, 0, e, vs.length, c.size, true⟩) (some (.cells (ofList vs) vs.length k)) := by
  refine ⟨rfl, c, el, fr, by simp, rfl, by simpa using hs, hk, fun i hi => ?_⟩
  obtain ⟨v', h2, h3⟩ := hv.get (List.getElem?_eq_getElem hi)
  rw [List.getElem?_take, if_pos hi] at h2
  refine ⟨vs[i], v', by rw [get_ofList]; exact List.getElem?_eq_getElem hi, by simpa using h2, ?_, h3.mono he⟩
  exact (List.all_eq_true.1 h1) _ (List.getElem_mem hi)
theorem new_cellsX {vs : List Value} {xs : Trie Value} {c : Array Value} {el : TypeId} {fr : Nat × Nat} {k : Kind} {e : Nat} (hx : ∀ i, i < vs.length → xs.get i = vs[i]?) (hs : vs.length ≤ c.size)
    (hv : VRels m vs (c.toList.take vs.length)) (h1 : vs.all Value.oneCell' = true) (hk : KRel ⟨w.heap.size, 0, e, vs.length, c.size, true⟩ vs.length k fr el) {m' : Mp} (he : Ext m m') :
    BRel m' { w with heap := w.heap.push (.cells c el fr) } (.live ⟨w.heap.size, 0, e, vs.length, c.size, true⟩) (some (.cells xs vs.length k)) := by
  refine ⟨rfl, c, el, fr, by simp, rfl, by simpa using hs, hk, fun i hi => ?_⟩
  obtain ⟨v', h2, h3⟩ := hv.get (List.getElem?_eq_getElem hi)
  rw [List.getElem?_take, if_pos hi] at h2
  refine ⟨vs[i], v', by rw [hx i hi]; exact List.getElem?_eq_getElem hi, by simpa using h2, ?_, h3.mono he⟩
  exact (List.all_eq_true.1 h1) _ (List.getElem_mem hi)
theorem new_exact {vs : List Value} {c : Array Value} {el : TypeId} (hv : VRels m vs c.toList) (h1 : vs.all Value.oneCell' = true) {m' : Mp} (he : Ext m m') :
    BRel m' { w with heap := w.heap.push (.cells c el) } (.live ⟨w.heap.size, 0, 0, vs.length, c.size, true⟩) (some (mkCells vs)) := by
  have hl : c.size = vs.length := by simpa using hv.length
  refine new_cells (k := .exact) (fr := (0, 0)) (by omega) ?_ h1 (And.intro rfl (And.intro rfl (And.intro hl rfl))) he
  rw [List.take_of_length_le (by simp; omega)]
  exact hv

theorem wr_cells {xs : Trie Value} {n : Nat} {k : Kind} {l : Loc} {c : Array Value} {el : TypeId} {fr : Nat × Nat} (ha : AtCells m w xs n k l c el fr) {off : Nat} {vs vs' : List Value}
    (hn : off + vs.length ≤ n) (hv : VRels m vs vs') (h1 : vs.all Value.oneCell' = true) :
    BRel m { w with heap := w.heap.setIfInBounds l.cb (.cells (overA c (l.sh + off) vs') el fr) } (.live l) (some (.cells (storeL xs off vs) n k)) := by
  have hlt : l.cb < w.heap.size := by
    rcases Nat.lt_or_ge l.cb w.heap.size with h' | h'
    · exact h'
    · have := ha.heap; rw [Array.getElem?_eq_none h'] at this; cases this
  have hle := hv.length
  refine ⟨ha.asz, overA c (l.sh + off) vs', el, fr, by simp [hlt], by rw [size_overA]; exact ha.csz, ha.fit, ha.kind, fun i hi => ?_⟩
  have hfit := ha.fit
  have hcsz := ha.csz
  obtain ⟨u, u', g1, g2, g3, g4⟩ := ha.cell i hi
  unfold CellAt
  rw [get_storeL, get_overA _ _ _ _ (by omega)]
  by_cases e : off ≤ i ∧ i < off + vs.length
  · rw [if_pos e, if_pos (by omega)]
    have hi' : i - off < vs.length := by omega
    obtain ⟨v', a1, a2⟩ := hv.get (List.getElem?_eq_getElem hi')
    refine ⟨vs[i - off], v', List.getElem?_eq_getElem hi', by rw [show l.sh + i - (l.sh + off) = i - off by omega]; exact a1, ?_, a2⟩
    exact (List.all_eq_true.1 h1) _ (List.getElem_mem hi')
  · rw [if_neg e, if_neg (by omega)]
    exact ⟨u, u', g1, g2, g3, g4⟩

theorem KRel.free {l : Loc} {n : Nat} {k : Kind} {fr : Nat × Nat} {el : TypeId} (hk : KRel l n k fr el) (hr : k ≠ .ro) : l.rw = true ∧ ∀ i, i < l.csz → (decide (fr.1 ≤ i) && decide (i < fr.2)) = false := by
  cases k with
  | ro => exact absurd rfl hr
  | exact => obtain ⟨h1, _, _, h2⟩ := hk; subst h2; exact ⟨h1, fun i _ => by simp⟩
  | loose e => obtain ⟨h1, h2, _⟩ := hk; subst h2; exact ⟨h1, fun i _ => by simp⟩
  | bytes => exact ⟨hk.1, hk.2.1⟩
  | bld t => obtain ⟨h1, _, _, h2, _⟩ := hk; subst h2; exact ⟨h1, fun i _ => by simp⟩
  | own t => obtain ⟨h1, h2, _⟩ := hk; subst h2; exact ⟨h1, fun i _ => by simp⟩

theorem run_wr {P : Program} {xs : Trie Value} {n : Nat} {k : Kind} {l : Loc} {c : Array Value} {el : TypeId} {fr : Nat × Nat} (ha : AtCells m w xs n k l c el fr) (hk : k ≠ .ro) {off : Nat} {vs vs' : List Value}
    (hn : off + vs.length ≤ n) (hv : VRels m vs vs') (h1 : vs.all Value.oneCell' = true) :
    (storeCells ⟨l.cb, l.sh + off, none⟩ vs').run P w = .ok () { w with heap := w.heap.setIfInBounds l.cb (.cells (overA c (l.sh + off) vs') el fr) } := by
  have hfit := ha.fit
  have hcsz := ha.csz
  have hle := hv.length
  have h1' : vs'.all Value.oneCell' = true := by
    rw [List.all_eq_true] at *
    intro v' hv'
    obtain ⟨i, hi⟩ := List.mem_iff_getElem?.1 hv'
    have hil : i < vs.length := by
      rcases Nat.lt_or_ge i vs.length with h' | h'
      · exact h'
      · rw [List.getElem?_eq_none (by omega)] at hi; cases hi
    obtain ⟨u', a1, a2⟩ := hv.get (List.getElem?_eq_getElem hil)
    rw [a1] at hi; cases hi
    exact a2.oneCell (h1 _ (List.getElem_mem hil))
  have := run_storeCells (P := P) (el := el) (fr := fr) (cb := l.cb) vs' w (l.sh + off) 0 c ha.heap (by omega) h1' (fun i hi => (ha.kind.free hk).2 i (by omega))
  simpa using this
end Go.AM
end
section
/- What each operation does: numbers, texts, cells, memory. -/
namespace Go.AM
variable {P : Program} {m : Mp} {h : Heap} {N : Nat} {F : Nat → Option Blk} {w : World}

theorem ru {t : TypeId} {d : TypeDesc} (h : P.underlying t = some d) (w : World) : (underlying t).run P w = .ok d w := by
  simp [underlying, h]
theorem ri {t : TypeId} {i : TypeInfo} (h : P.info? t = some i) (w : World) : (typeInfo t).run P w = .ok i w := by
  simp [typeInfo, h]
theorem rs {t : TypeId} {i : TypeInfo} (h : P.info? t = some i) (w : World) : (sizeOf t).run P w = .ok i.size w := by
  simp [sizeOf, ri h]
theorem rs' {t : TypeId} {n : Nat} (h : sizeOf? P t = some n) (w : World) : (sizeOf t).run P w = .ok n w := by
  unfold sizeOf? at h
  cases hi : P.info? t with
  | none => simp [hi] at h
  | some i => simp [hi] at h; rw [rs hi, h]
theorem ra {t : TypeId} {d : TypeDesc} (h : P.underlying t = some d) (w : World) : (isAgg t).run P w = .ok (aggB (some d)) w := by
  unfold isAgg
  rw [Sem.run_bind, ru h]
  cases d <;> rfl
theorem zeroV_spec {t : TypeId} {z : Value} (h : zeroV P t = some z) : ∃ i, P.info? t = some i ∧ i.zero = some z ∧ plainV z = true := by
  unfold zeroV at h
  cases hi : P.info? t with
  | none => simp [hi] at h
  | some i =>
    cases hz : i.zero with
    | none => simp [hi, hz] at h
    | some z' =>
      simp only [hi, hz] at h
      by_cases hp : plainV z' = true
      · rw [if_pos hp] at h; cases h; exact ⟨i, rfl, hz, hp⟩
      · rw [if_neg hp] at h; cases h
theorem rz {t : TypeId} {z : Value} (h : zeroV P t = some z) (w : World) : (zeroValue t).run P w = .ok z w := by
  obtain ⟨i, h1, h2, _⟩ := zeroV_spec h
  simp [zeroValue, ri h1, h2]
theorem zeroL_spec {t : TypeId} {l : List Value} (h : zeroL P t = some l) : ∃ z, zeroV P t = some z ∧ z.cells.toList = l ∧ l.all plainCell = true := by
  unfold zeroL at h
  cases hz : zeroV P t with
  | none => simp [hz] at h
  | some z =>
    simp only [hz] at h
    obtain ⟨_, _, _, hp⟩ := zeroV_spec hz
    refine ⟨z, rfl, ?_⟩
    cases z with
    | agg c => simp [cellsOf] at h; subst h; exact ⟨rfl, by simpa [plainV] using hp⟩
    | tuple c => simp [cellsOf] at h
    | _ => simp [cellsOf] at h; subst h; exact ⟨rfl, by simpa [plainV] using hp⟩

/- ## pick, extract, nilCheck -/
theorem pick_does {c a b c' a' b' : Value} {f : Eff} (hr : HRel m (mix h N F) w) (hc : VRel m c c') (ha : VRel m a a') (hb : VRel m b b') (he : effPick c a b = some f) :
    Does P (do pure (.value (if ← asBool c' then a' else b'))) f h N F m w := by
  cases hc <;> simp only [effPick, AM.ret, reduceCtorEq, Option.some.injEq] at he
  subst he
  rename_i t
  cases t
  · exact Does.ret hr (by simp [asBool]) hb
  · exact Does.ret hr (by simp [asBool]) ha
theorem extract_does {t t' : Value} {i : Nat} {f : Eff} (hr : HRel m (mix h N F) w) (ht : VRel m t t') (he : effExtract t i = some f) : DoesV P (Instr.extract t' i) f h N F m w := by
  have hst : t ≠ topV := by
    intro e
    subst e
    simp only [effExtract] at he
    cases i <;> simp [storable] at he
  cases ht <;> simp only [effExtract, reduceCtorEq] at he <;> try (exact absurd rfl hst)
  rename_i c c' hc
  cases hv : c.toList[i]? with
  | none => simp [hv] at he
  | some v =>
    simp only [hv, AM.ret] at he
    split at he <;> simp only [reduceCtorEq, Option.some.injEq] at he
    subst he
    obtain ⟨v', h1, h2⟩ := hc.get hv
    refine DoesV.ret hr ?_ h2
    rw [Array.getElem?_toList] at h1
    simp [Instr.extract, h1]
theorem nil_does {x x' : Value} {f : Eff} (hr : HRel m (mix h N F) w) (hx : VRel m x x') (he : effNil P x = some f) (o : Oper) (y : Operand) (ho : o.op = .nilCheck y) (ρ : Operand → Value) (hy : ρ y = x') :
    Does P (execOp ρ o) f h N F m w := by
  unfold execOp
  simp only [ho, hy]
  cases hx <;> simp only [effNil, AM.ret, reduceCtorEq, Option.some.injEq] at he
  · subst he; exact Does.ret hr rfl (by constructor; assumption)
  · subst he; exact Does.ret hr rfl (by constructor; assumption)
  · rename_i fn a b a' b' ha hb
    cases fn <;> simp only [reduceCtorEq] at he
    case func f0 =>
      simp only [Option.some.injEq] at he
      subst he; exact Does.ret hr rfl (.func _ _ _ _ _ ha hb)
    case method name =>
      split at he <;> try (simp at he; done)
      rename_i t v r hal
      split at he <;> try (simp at he; done)
      rename_i i hi
      split at he <;> try (simp at he; done)
      rename_i mt hmt
      split at he <;> try (simp at he; done)
      rename_i hpath
      split at he <;> try (simp at he; done)
      rename_i f0 hf0
      simp only [Option.some.injEq] at he
      subst he
      have ha0 := ha
      rw [hal] at ha
      generalize hl' : a'.toList = l' at ha
      cases ha with
      | cons _ v' _ r' hv hr' =>
      cases hv with
      | iface _ _ v2 hv2 =>
        have h0 : a'[0]? = some (.iface t v2) := by rw [← Array.getElem?_toList, hl']; rfl
        have hp : mt.path.toList = [] := by simpa using hpath
        have hfind : i.methods.find? (·.name == name) = some mt := by rw [← Array.find?_toList]; exact hmt
        have hna : (nilAhead (P.types.size + Made.depth) t v2 name).run P w = .ok (some false) w := by
          have hd0 : 0 < Made.depth := by decide
          obtain ⟨k, hk⟩ : ∃ k, P.types.size + Made.depth = k + 1 := Nat.exists_eq_succ_of_ne_zero (by omega)
          rw [hk]
          unfold nilAhead
          simp [ri hi, hfind, hp, followBlind, hf0]
        refine Does.ret hr ?_ (.func _ _ _ _ _ ha0 hb)
        simp only [h0, Sem.run_bind, run_program, Result.andThen_ok, hna]
        rfl
  · subst he; exact Does.ret hr rfl (by constructor <;> assumption)

/- ## numbers -/
theorem ltI_eq (a b : Int) : ltI a b = decide (a < b) := by
  cases a with
  | ofNat a => cases b with
    | ofNat b => simp only [ltI, Int.ofNat_eq_natCast, Int.ofNat_lt]; rw [Bool.eq_iff_iff]; simp [Nat.blt_eq]
    | negSucc b => simp only [ltI]; symm; rw [decide_eq_false_iff_not]; simp only [Int.ofNat_eq_natCast]; omega
  | negSucc a => cases b with
    | ofNat b => simp only [ltI]; symm; rw [decide_eq_true_eq]; simp only [Int.ofNat_eq_natCast]; omega
    | negSucc b => simp only [ltI]; rw [Bool.eq_iff_iff]; simp [Nat.blt_eq]; omega
theorem eqI_eq (a b : Int) : eqI a b = (a == b) := by
  rw [Bool.eq_iff_iff, beq_iff_eq]
  cases a with
  | ofNat a => cases b with
    | ofNat b => simp only [eqI, Int.ofNat_eq_natCast, Int.ofNat_inj]; exact ⟨Nat.eq_of_beq_eq_true, fun e => by rw [e]; exact Nat.beq_refl _⟩
    | negSucc b => simp [eqI]
  | negSucc a => cases b with
    | ofNat b => simp [eqI]
    | negSucc b => simp only [eqI, Int.negSucc_inj]; exact ⟨Nat.eq_of_beq_eq_true, fun e => by rw [e]; exact Nat.beq_refl _⟩
theorem kindN_inj {k k' : IntKind} (h : Nat.beq (kindN k) (kindN k') = true) : k = k' := by
  have := Nat.eq_of_beq_eq_true h
  cases k <;> cases k' <;> first | rfl | (simp [kindN] at this)
theorem wrap_i64 {n : Int} (h0 : 0 ≤ n) (h1 : n ≤ 9223372036854775807) : IntKind.i64.wrap n = n := by
  have e : n % (2 ^ IntKind.i64.bits : Int) = n := Int.emod_eq_of_lt h0 (by show n < 18446744073709551616; omega)
  unfold IntKind.wrap
  simp only [e]
  rw [if_neg]
  intro hc
  rw [Bool.and_eq_true, decide_eq_true_eq] at hc
  have h2 : (9223372036854775808 : Int) ≤ n := hc.2
  omega
theorem wrap_u64 {n : Int} (h0 : 0 ≤ n) (h1 : n ≤ 18446744073709551615) : IntKind.u64.wrap n = n := by
  have e : n % (2 ^ IntKind.u64.bits : Int) = n := Int.emod_eq_of_lt h0 (by show n < 18446744073709551616; omega)
  unfold IntKind.wrap
  simp only [e]
  rw [if_neg]
  intro hc
  rw [Bool.and_eq_true] at hc
  exact absurd hc.1 (by decide)
theorem wrapF_eq (k : IntKind) (n : Int) : wrapF k n = k.wrap n := by
  cases k <;> try rfl
  · cases n with
    | ofNat n =>
      simp only [wrapF]
      cases hb : Nat.ble n 9223372036854775807 with
      | false => rfl
      | true =>
        have := Nat.le_of_ble_eq_true hb
        exact (wrap_i64 (n := Int.ofNat n) (by simp) (by simp only [Int.ofNat_eq_natCast]; omega)).symm
    | negSucc n => rfl
  · cases n with
    | ofNat n =>
      simp only [wrapF]
      cases hb : Nat.ble n 18446744073709551615 with
      | false => rfl
      | true =>
        have := Nat.le_of_ble_eq_true hb
        exact (wrap_u64 (n := Int.ofNat n) (by simp) (by simp only [Int.ofNat_eq_natCast]; omega)).symm
    | negSucc n => rfl

theorem intOp_run {op : BinOp} {k : IntKind} {a b : Int} {v : Value} (t : TypeId) (hv : intOp op k a b = some v) : (binOp op t (.int k a) (.int k b)).run P w = .ok v w ∧ VRel m v v := by
  cases op <;> simp only [intOp, reduceCtorEq, Option.some.injEq] at hv
  case quo =>
    rw [eqI_eq] at hv
    by_cases e : b = 0
    · simp [e] at hv
    · have : (b == 0) = false := by simpa using e
      rw [this] at hv
      simp only [cond_false, Option.some.injEq] at hv
      subst hv
      exact ⟨by simp [binOp, Op.intDiv, e, wrapF_eq], .int _ _⟩
  case rem =>
    rw [eqI_eq] at hv
    by_cases e : b = 0
    · simp [e] at hv
    · have : (b == 0) = false := by simpa using e
      rw [this] at hv
      simp only [cond_false, Option.some.injEq] at hv
      subst hv
      exact ⟨by simp [binOp, Op.intDiv, e], .int _ _⟩
  case and => subst hv; refine ⟨?_, .int _ _⟩; simp only [binOp, ne_eq, not_true_eq_false, if_false]; rfl
  case or => subst hv; refine ⟨?_, .int _ _⟩; simp only [binOp, ne_eq, not_true_eq_false, if_false]; rfl
  case xor => subst hv; refine ⟨?_, .int _ _⟩; simp only [binOp, ne_eq, not_true_eq_false, if_false]; rfl
  case andNot => subst hv; refine ⟨?_, .int _ _⟩; simp only [binOp, ne_eq, not_true_eq_false, if_false]; rfl
  case add => subst hv; refine ⟨?_, .int _ _⟩; simp [binOp, Op.intArith, wrapF_eq]
  case sub => subst hv; refine ⟨?_, .int _ _⟩; simp [binOp, Op.intArith, wrapF_eq]
  case mul => subst hv; refine ⟨?_, .int _ _⟩; simp [binOp, Op.intArith, wrapF_eq]
  all_goals
    subst hv
    refine ⟨?_, .bool _⟩
    simp only [binOp, Op.intCmp, ne_eq, not_true_eq_false, if_false, Sem.run_pure, Result.ok.injEq, Value.bool.injEq, and_true, eqI_eq, ltI_eq]
    try rw [Bool.eq_iff_iff]
    try simp
theorem shiftOp_run {op : BinOp} {k k' : IntKind} {a b : Int} {v : Value} (t : TypeId) (hv : shiftOp op k a b = some v) : (binOp op t (.int k a) (.int k' b)).run P w = .ok v w ∧ VRel m v v := by
  cases b with
  | negSucc b => simp [shiftOp] at hv
  | ofNat b =>
    have hb : ¬ (Int.ofNat b < 0) := by simp
    cases op <;> simp only [shiftOp, reduceCtorEq, Option.some.injEq] at hv <;> subst hv <;> refine ⟨?_, .int _ _⟩ <;>
      simp [binOp, Op.shift, wrapF_eq] <;> omega
theorem strOp_run {op : BinOp} {a b : ByteArray} {v : Value} (t : TypeId) (hv : strOp op a b = some v) : (binOp op t (.string a) (.string b)).run P w = .ok v w ∧ VRel m v v := by
  cases op <;> simp only [strOp, reduceCtorEq, Option.some.injEq] at hv
  case add =>
    by_cases e : a.size + b.size ≤ 2 ^ 40
    · rw [if_pos e] at hv; cases hv
      refine ⟨?_, .string _⟩
      have : ¬ (((a.size + b.size : Nat) : Int) > IntKind.i64.max) := by simp [IntKind.max, IntKind.signed, IntKind.bits]; omega
      simp only [binOp, Op.stringOp, if_neg this, Sem.run_pure]
    · rw [if_neg e] at hv; cases hv
  all_goals subst hv; exact ⟨by simp [binOp, Op.stringOp, ByteArray.toList_eq], .bool _⟩

theorem un_does {op : UnOp} {x x' : Value} {f : Eff} (hr : HRel m (mix h N F) w) (hx : VRel m x x') (he : effUn op x = some f) : DoesV P (Op.unary op x') f h N F m w := by
  cases op <;> cases hx <;> simp only [effUn, AM.ret, reduceCtorEq, Option.some.injEq] at he
  · subst he; exact DoesV.ret hr (by simp [Op.unary, Op.intArith]) (.int _ _)
  · rename_i k n
    simp only [intOp, Option.bind_some, AM.ret, Option.some.injEq] at he
    subst he
    exact DoesV.ret hr (by simp [Op.unary, Op.intBits]) (.int _ _)
  · subst he; exact DoesV.ret hr (by simp [Op.unary]) (.bool _)

/- ## memory -/
theorem load_does {t : TypeId} {a a' : Value} {f : Eff} (hr : HRel m (mix h N F) w) (hwf : HWf h) (hN : h.nx ≤ N) (ha : VRel m a a') (he : effLoad P t a h.get = some f) : DoesV P (Instr.loadAt t a') f h N F m w := by
  unfold effLoad at he
  split at he <;> try (simp at he; done)
  rename_i b off
  split at he <;> try (simp at he; done)
  rename_i xs n k hb
  obtain ⟨l, hm, c, el, fr, hc⟩ := hr.cells hwf hN hb
  have hp := ptr_live ha hm
  subst hp
  split at he <;> try (simp at he; done)
  rename_i d hd
  have hfit := hc.fit
  have hcsz := hc.csz
  cases hg : aggB (some d) with
  | true =>
    rw [hg] at he
    simp only [cond_true] at he
    split at he <;> try (simp at he; done)
    rename_i i hi
    cases hle : Nat.ble (off + i.size) n with
    | false => simp [hle] at he
    | true =>
      rw [hle] at he
      simp only [cond_true, AM.ret, Option.some.injEq] at he
      subst he
      have hle := Nat.le_of_ble_eq_true hle
      have hrel := cells_rel hc.cell (k := i.size) hle (by omega)
      refine DoesV.ret hr (v' := .agg ((c.toList.drop (l.sh + off)).take i.size).toArray) ?_ (.agg _ _ hrel.2 hrel.1)
      simp only [Instr.loadAt, Instr.sureAddr, loadVar, Sem.run_bind, Sem.run_pure, Result.andThen_ok, ra hd, hg]
      rw [if_pos trivial]
      simp only [Sem.run_bind, rs hi, Result.andThen_ok, run_cells hc.heap (show l.sh + off + i.size ≤ c.size by omega), Sem.run_pure]
  | false =>
    rw [hg] at he
    simp only [cond_false] at he
    cases hlt : Nat.blt off n with
    | false => simp [hlt] at he
    | true =>
      rw [hlt] at he
      simp only [cond_true] at he
      have hlt : off < n := by simpa [Nat.blt_eq] using hlt
      obtain ⟨v, v', g1, g2, g3, g4⟩ := hc.cell off hlt
      rw [g1] at he
      simp only [AM.ret, Option.some.injEq] at he
      subst he
      refine DoesV.ret hr (v' := v') ?_ g4
      simp only [Instr.loadAt, Instr.sureAddr, loadVar, Sem.run_bind, Sem.run_pure, Result.andThen_ok, ra hd, hg]
      simp [cell_at hc.heap, g2]

theorem store_does {t : TypeId} {a a' x x' : Value} {f : Eff} (hr : HRel m (mix h N F) w) (hwf : HWf h) (hN : h.nx ≤ N) (ha : VRel m a a') (hx : VRel m x x') (he : effStore P t a x h.get = some f) : DoesU P (Instr.storeAt t a' x') f h N F m w := by
  unfold effStore at he
  split at he <;> try (simp at he; done)
  rename_i b off
  split at he <;> try (simp at he; done)
  rename_i xs n k hb
  obtain ⟨l, hm, c, el, fr, hc⟩ := hr.cells hwf hN hb
  have hp := ptr_live ha hm
  subst hp
  split at he <;> try (simp at he; done)
  rename_i hk
  split at he <;> try (simp at he; done)
  rename_i i vs hi hvs
  cases hl : Nat.beq vs.length i.size with
  | false => simp [hl] at he
  | true =>
    cases hle : Nat.ble (off + i.size) n with
    | false => simp [hl, hle] at he
    | true =>
      rw [hl, hle] at he
      simp only [cond_true, Option.some.injEq] at he
      subst he
      have hl := Nat.eq_of_beq_eq_true hl
      have hle := Nat.le_of_ble_eq_true hle
      have hk' : k ≠ .ro := fun e => hk e
      obtain ⟨q1, q2, _⟩ := cellsOf_rel hx hvs
      have hrun := run_wr (P := P) hc hk' (off := off) (vs := vs) (vs' := x'.cells.toList) (by omega) q1 q2
      have hfree := hc.kind.free hk'
      obtain ⟨r1, r2⟩ := wr_rel (v := undef) hr (lt_of_get hwf hN hb) hm hfree.1 (wr_cells hc (off := off) (vs := vs) (vs' := x'.cells.toList) (by omega) q1 q2)
      refine ⟨_, m, ?_, rfl, r1, r2⟩
      have hs : x'.cells.size = i.size := by have := q1.length; simp at this; omega
      simp only [Instr.storeAt, Instr.sureAddr, storeVar, Sem.run_bind, Sem.run_pure, Result.andThen_ok, rs hi, hs, ne_eq, not_true_eq_false, if_false, hrun]
end Go.AM
end
section
/- What each operation does: new memory, addresses. -/
namespace Go.AM
variable {P : Program} {m : Mp} {h : Heap} {N : Nat} {F : Nat → Option Blk} {w : World}

/- ## new memory -/
theorem newRow_does {el : TypeId} {vs : List Value} {c : Array Value} (hr : HRel m (mix h N F) w) (hwf : HWf h) (hN : h.nx < N) (hv : VRels m vs c.toList) (h1 : vs.all Value.oneCell' = true)
    {s : Sem Value} {V : Addr → Value} {v : Value} (hs : s.run P w = .ok (V ⟨w.heap.size, 0, none⟩) { w with heap := w.heap.push (.cells c el) })
    (hV : ∀ m' l, Ext m m' → m' h.nx = .live l → l.cb = w.heap.size → l.sh = 0 → VRel m' v (V ⟨w.heap.size, 0, none⟩)) : DoesV P s ⟨v, [], [mkCells vs]⟩ h N F m w := by
  obtain ⟨m', e1, e2, e3, e4⟩ := nw_rel (v := v) (l := ⟨w.heap.size, 0, 0, vs.length, c.size, true⟩) (x := mkCells vs) (o := .cells c el) w.drawn hr hwf hN rfl rfl (fun m' he _ => new_exact hv h1 he)
  exact ⟨_, m', _, hs, hV m' _ e1 e2 rfl rfl, e3, e4⟩
theorem newRow_doesX {el : TypeId} {vs : List Value} {xs : Trie Value} {c : Array Value} (hx : ∀ i, i < vs.length → xs.get i = vs[i]?) (hr : HRel m (mix h N F) w) (hwf : HWf h) (hN : h.nx < N) (hv : VRels m vs c.toList) (h1 : vs.all Value.oneCell' = true)
    {s : Sem Value} {V : Addr → Value} {v : Value} (hs : s.run P w = .ok (V ⟨w.heap.size, 0, none⟩) { w with heap := w.heap.push (.cells c el) })
    (hV : ∀ m' l, Ext m m' → m' h.nx = .live l → l.cb = w.heap.size → l.sh = 0 → VRel m' v (V ⟨w.heap.size, 0, none⟩)) : DoesV P s ⟨v, [], [.cells xs vs.length .exact]⟩ h N F m w := by
  have hl : c.size = vs.length := by simpa using hv.length
  obtain ⟨m', e1, e2, e3, e4⟩ := nw_rel (v := v) (l := ⟨w.heap.size, 0, 0, vs.length, c.size, true⟩) (x := .cells xs vs.length .exact) (o := .cells c el) w.drawn hr hwf hN rfl rfl (fun m' he _ => by
    refine new_cellsX hx (k := .exact) (fr := (0, 0)) (by omega) ?_ h1 (And.intro rfl (And.intro rfl (And.intro hl rfl))) he
    rw [List.take_of_length_le (by simp; omega)]
    exact hv)
  exact ⟨_, m', _, hs, hV m' _ e1 e2 rfl rfl, e3, e4⟩
theorem newRow_doesK {el : TypeId} {vs : List Value} {c : Array Value} {k : Kind} (hr : HRel m (mix h N F) w) (hwf : HWf h) (hN : h.nx < N) (hv : VRels m vs c.toList) (h1 : vs.all Value.oneCell' = true) (hk : k = .exact ∨ k = .bld el)
    {s : Sem Value} {V : Addr → Value} {v : Value} (hs : s.run P w = .ok (V ⟨w.heap.size, 0, none⟩) { w with heap := w.heap.push (.cells c el) })
    (hV : ∀ m' l, Ext m m' → m' h.nx = .live l → l.cb = w.heap.size → l.sh = 0 → VRel m' v (V ⟨w.heap.size, 0, none⟩)) : DoesV P s ⟨v, [], [.cells (ofList vs) vs.length k]⟩ h N F m w := by
  have hl : c.size = vs.length := by simpa using hv.length
  obtain ⟨m', e1, e2, e3, e4⟩ := nw_rel (v := v) (l := ⟨w.heap.size, 0, 0, vs.length, c.size, true⟩) (x := .cells (ofList vs) vs.length k) (o := .cells c el) w.drawn hr hwf hN rfl rfl (fun m' he _ => by
    refine new_cells (k := k) (fr := (0, 0)) (by omega) ?_ h1 ?_ he
    · rw [List.take_of_length_le (by simp; omega)]
      exact hv
    · rcases hk with rfl | rfl
      · exact And.intro rfl (And.intro rfl (And.intro hl rfl))
      · exact And.intro rfl (And.intro rfl (And.intro hl (And.intro rfl rfl))))
  exact ⟨_, m', _, hs, hV m' _ e1 e2 rfl rfl, e3, e4⟩
theorem run_newRow (el : TypeId) (c : Array Value) (w : World) : (newRow el c).run P w = .ok ⟨w.heap.size, 0, none⟩ { w with heap := w.heap.push (.cells c el) } := by
  simp [newRow]
theorem alloc_does {e : TypeId} {f : Eff} (hr : HRel m (mix h N F) w) (hwf : HWf h) (hN : (h.apply f).nx ≤ N) (he : effAlloc P e h.nx = some f) : DoesV P (Instr.alloc e true (.tuple #[])) f h N F m w := by
  unfold effAlloc at he
  split at he <;> try (simp at he; done)
  rename_i z hz
  cases he
  obtain ⟨zv, g1, g2, g3⟩ := zeroL_spec hz
  refine newRow_doesK (c := zv.cells) (el := e) (V := fun a => .pointer (some a)) hr hwf hN (g2.symm ▸ plainCells_rel g3) (plainCells_one g3) (by cases bldL z <;> simp) ?_ ?_
  · simp only [Instr.alloc, Sem.run_bind, rz g1, Result.andThen_ok, newVar, run_newRow, Sem.run_pure]
  · intro m' l _ hl hc hs
    have := VRel.ptr h.nx 0 l hl
    rwa [hc, hs] at this
theorem box_does {t : TypeId} {x x' : Value} {f : Eff} (hr : HRel m (mix h N F) w) (hwf : HWf h) (hN : (h.apply f).nx ≤ N) (hx : VRel m x x') (he : effBox x h.nx = some f) : DoesV P (Instr.box t x') f h N F m w := by
  unfold effBox at he
  split at he <;> try (simp at he; done)
  rename_i z hz
  cases he
  obtain ⟨q1, q2, _⟩ := cellsOf_rel hx hz
  refine newRow_does (c := x'.cells) (el := t) (V := fun a => .pointer (some a)) hr hwf hN q1 q2 ?_ ?_
  · simp only [Instr.box, Sem.run_bind, Result.andThen_ok, newVar, run_newRow, Sem.run_pure]
  · intro m' l _ hl hc hs
    have := VRel.ptr h.nx 0 l hl
    rwa [hc, hs] at this

theorem zeros_rel {z : List Value} (zc : Array Value) (hz : zc.toList = z) (hp : z.all plainCell = true) (c n : Nat) (hn : n = c * z.length) :
    VRels m (repeatL z c) ((Array.range n).map (zc[· % zc.size]!)).toList ∧ (repeatL z c).all Value.oneCell' = true := by
  subst hz
  have hlen : ∀ {i : Nat} {v : Value}, (repeatL zc.toList c)[i]? = some v → plainCell v = true ∧ (((Array.range n).map (zc[· % zc.size]!)).toList)[i]? = some v := by
    intro i v hv
    have hi : i < c * zc.toList.length := by
      rcases Nat.lt_or_ge i (c * zc.toList.length) with h' | h'
      · exact h'
      · rw [List.getElem?_eq_none (by rw [length_repeatL]; exact h')] at hv; cases hv
    have hz0 : 0 < zc.toList.length := by
      rcases Nat.eq_zero_or_pos zc.toList.length with h' | h'
      · rw [h'] at hi; simp at hi
      · exact h'
    rw [getElem_repeatL _ _ _ hi] at hv
    have hm : i % zc.toList.length < zc.toList.length := Nat.mod_lt _ hz0
    have hv' := List.getElem?_eq_some_iff.1 hv
    refine ⟨(List.all_eq_true.1 hp) v (List.mem_of_getElem? hv), ?_⟩
    have hin : i < n := by omega
    simp only [Array.toList_map, Array.toList_range, List.getElem?_map, List.getElem?_range hin, Option.map_some]
    congr 1
    simp only [Array.length_toList] at hv hm hv'
    obtain ⟨_, hv2⟩ := hv'
    rw [getElem!_pos _ _ (by simpa using hm)]
    simpa using hv2
  constructor
  · refine VRels.of_get (by simp [length_repeatL, hn]) ?_
    intro i v v' h1 h2
    obtain ⟨g1, g2⟩ := hlen h1
    rw [g2] at h2; cases h2
    exact (plainCell_rel g1).1
  · rw [List.all_eq_true]
    intro v hv
    obtain ⟨i, hi⟩ := List.mem_iff_getElem?.1 hv
    exact (plainCell_rel (m := m) (hlen hi).1).2

theorem makeSlice_does {t : TypeId} {a a' b b' : Value} {f : Eff} (hr : HRel m (mix h N F) w) (hwf : HWf h) (hN : (h.apply f).nx ≤ N) (ha : VRel m a a') (hb : VRel m b b') (he : effMakeSlice P t a b h.nx = some f) :
    DoesV P (Instr.makeSlice t a' b') f h N F m w := by
  unfold effMakeSlice at he
  split at he <;> try (simp at he; done)
  rename_i elem hu
  split at he <;> try (simp at he; done)
  rename_i k l
  split at he <;> try (simp at he; done)
  rename_i k' c
  split at he <;> try (simp at he; done)
  rename_i i z hi hz
  cases ha
  cases hb
  cases hc : (Nat.ble l c && Nat.ble (c * (i.bytes + i.size + 1)) (2 ^ 40) && Nat.beq z.length i.size) with
  | false => simp [hc] at he
  | true =>
    rw [hc] at he
    simp only [cond_true, Option.some.injEq] at he
    subst he
    simp only [Bool.and_eq_true] at hc
    obtain ⟨⟨h1, h2⟩, h3⟩ := hc
    have h1 := Nat.le_of_ble_eq_true h1
    have h2 := Nat.le_of_ble_eq_true h2
    have h3 := Nat.eq_of_beq_eq_true h3
    obtain ⟨zv, g1, g2, g3⟩ := zeroL_spec hz
    have hcb : c ≤ c * (i.bytes + i.size + 1) := Nat.le_mul_of_pos_right c (by omega)
    have hbb : c * i.bytes ≤ c * (i.bytes + i.size + 1) := Nat.mul_le_mul_left c (by omega)
    have wl : IntKind.i64.wrap (Int.ofNat l) = (l : Int) := wrap_i64 (by simp) (by simp only [Int.ofNat_eq_natCast]; omega)
    have wc : IntKind.i64.wrap (Int.ofNat c) = (c : Int) := wrap_i64 (by simp) (by simp only [Int.ofNat_eq_natCast]; omega)
    have hz2 := zeros_rel (m := m) zv.cells g2 g3 c (c * i.size) (by rw [h3])
    have hnot : ¬ ((decide ((c : Int) < 0) || decide ((i.bytes : Int) * c > 2 ^ 48) || decide ((l : Int) < 0) || decide ((l : Int) > c)) = true) := by
      simp only [Bool.or_eq_true, decide_eq_true_eq, not_or]
      refine ⟨⟨⟨by omega, ?_⟩, by omega⟩, by omega⟩
      have : ((c * i.bytes : Nat) : Int) ≤ 2 ^ 40 := by omega
      rw [Int.natCast_mul] at this
      rw [Int.mul_comm]
      omega
    by_cases hn0 : c * i.size = 0
    · have hrl : repeatL z c = [] := List.eq_nil_of_length_eq_zero (by rw [length_repeatL, h3]; exact hn0)
      obtain ⟨xs, hx1, hx2⟩ := mkRow_get z c (Nat.le_trans hcb h2)
      rw [hx1, hrl]
      rw [hrl] at hx2
      refine newRow_doesX hx2 (c := #[]) (el := elem) (V := fun a => .slice (some a) l c) (vs := []) hr hwf hN .nil rfl ?_ ?_
      · simp only [Instr.makeSlice, Sem.run_bind, ru hu, Result.andThen_ok, asInt, asIntOf, Sem.run_pure, ri hi, wl, wc]
        rw [if_neg hnot]
        simp only [Sem.run_bind, Sem.run_pure, run_askRoom, Result.andThen_ok, Int.toNat_natCast, rs hi, hn0, if_true]
        rw [show ((Array.range 0).map fun x => (#[] : Array Value)[x % (#[] : Array Value).size]!) = #[] by simp]
        simp only [run_newRow, Result.andThen_ok]
      · intro m' lo _ hl hc' hs'
        have := VRel.slice h.nx 0 l c c lo hl (.inl rfl)
        rwa [hc', hs'] at this
    · obtain ⟨xs, hx1, hx2⟩ := mkRow_get z c (Nat.le_trans hcb h2)
      rw [hx1]
      refine newRow_doesX hx2 (c := (Array.range (c * i.size)).map (zv.cells[· % zv.cells.size]!)) (el := elem) (V := fun a => .slice (some a) l c) hr hwf hN hz2.1 hz2.2 ?_ ?_
      · simp only [Instr.makeSlice, Sem.run_bind, ru hu, Result.andThen_ok, asInt, asIntOf, Sem.run_pure, ri hi, wl, wc]
        rw [if_neg hnot]
        simp only [Sem.run_bind, Sem.run_pure, run_askRoom, Result.andThen_ok, Int.toNat_natCast, rs hi, hn0, if_false, rz g1, run_newRow]
      · intro m' lo _ hl hc' hs'
        have := VRel.slice h.nx 0 l c c lo hl (.inl rfl)
        rwa [hc', hs'] at this

theorem makeMap_does {t : TypeId} {x x' : Option Value} {f : Eff} (hr : HRel m (mix h N F) w) (hwf : HWf h) (hN : (h.apply f).nx ≤ N)
    (hx : (x = none ∧ x' = none) ∨ ∃ v v', x = some v ∧ x' = some v' ∧ VRel m v v') (he : effMakeMap P t x h.nx = some f) : DoesV P (Instr.makeMap t x') f h N F m w := by
  have key : ∀ {s : Sem Value}, s.run P w = .ok (.map (some w.heap.size)) { w with heap := w.heap.push (.map #[] 0) } → (h.apply ⟨.map (some h.nx), [], [.map [] 0]⟩).nx ≤ N → DoesV P s ⟨.map (some h.nx), [], [.map [] 0]⟩ h N F m w := by
    intro s hs hN
    obtain ⟨m', e1, e2, e3, e4⟩ := nw_rel (v := .map (some h.nx)) (l := ⟨w.heap.size, 0, 0, 0, 0, true⟩) (x := .map [] 0) (o := .map #[] 0) w.drawn hr hwf hN rfl rfl (fun m' _ _ => ⟨rfl, #[], by simp, trivial⟩)
    exact ⟨_, m', _, hs, VRel.map h.nx _ e2, e3, e4⟩
  unfold effMakeMap at he
  split at he
  · cases he
    rcases hx with ⟨_, rfl⟩ | ⟨v, v', h1, _⟩
    · exact key (by simp [Instr.makeMap]) hN
    · simp at h1
  · split at he <;> try (simp at he; done)
    rename_i hu
    cases he
    rcases hx with ⟨h1, _⟩ | ⟨v, v', h1, rfl, h3⟩
    · simp at h1
    · cases h1; cases h3
      exact key (by simp [Instr.makeMap, ru hu, asInt, asIntOf]) hN
  · simp at he

/- ## building -/
theorem fold_over (off : Nat) : ∀ (l : List Value) (c : Array Value) (k : Nat), (l.zipIdx k).foldl (fun cs (x : Value × Nat) => cs.setIfInBounds (off + x.2) x.1) c = overA c (off + k) l := by
  intro l
  induction l with
  | nil => intro c k; rfl
  | cons v r ih => intro c k; simp only [List.zipIdx_cons, List.foldl_cons, overA]; rw [ih]; rfl
theorem fold_overA (off : Nat) (vs : Array Value) (c : Array Value) : (vs.zipIdx.foldl (fun cs (x : Value × Nat) => cs.setIfInBounds (off + x.2) x.1) c) = overA c off vs.toList := by
  rw [← Array.foldl_toList, Array.toList_zipIdx, fold_over]; rfl
theorem overL_get (cs vs : List Value) (off i : Nat) (h : off + vs.length ≤ cs.length) : (overL cs off vs)[i]? = if off ≤ i ∧ i < off + vs.length then vs[i - off]? else cs[i]? := by
  unfold overL
  have h1 : (cs.take off).length = off := by simp; omega
  by_cases e : off ≤ i ∧ i < off + vs.length
  · rw [if_pos e, List.append_assoc, List.getElem?_append_right (by omega), List.getElem?_append_left (by omega), h1]
  · rw [if_neg e]
    by_cases e2 : i < off
    · rw [List.append_assoc, List.getElem?_append_left (by omega), List.getElem?_take, if_pos e2]
    · rw [List.getElem?_append_right (by simp; omega), List.getElem?_drop]
      congr 1
      simp; omega
theorem overL_length (cs vs : List Value) (off : Nat) (h : off + vs.length ≤ cs.length) : (overL cs off vs).length = cs.length := by
  unfold overL; simp; omega
theorem over_rel {cs vs vs' : List Value} {c : Array Value} {off : Nat} (hc : VRels m cs c.toList) (hv : VRels m vs vs') (h : off + vs.length ≤ cs.length)
    (h1 : cs.all Value.oneCell' = true) (h2 : vs.all Value.oneCell' = true) : VRels m (overL cs off vs) (overA c off vs').toList ∧ (overL cs off vs).all Value.oneCell' = true := by
  have hl := hv.length
  have hcl := hc.length
  simp only [Array.length_toList] at hcl
  constructor
  · refine VRels.of_get (by rw [overL_length _ _ _ h]; simp [size_overA, hcl]) ?_
    intro i v v' a1 a2
    rw [overL_get _ _ _ _ h] at a1
    rw [Array.getElem?_toList, get_overA _ _ _ _ (by omega)] at a2
    by_cases e : off ≤ i ∧ i < off + vs.length
    · rw [if_pos e] at a1
      rw [if_pos (by omega)] at a2
      obtain ⟨u, b1, b2⟩ := hv.get a1
      rw [b1] at a2; cases a2; exact b2
    · rw [if_neg e] at a1
      rw [if_neg (by omega)] at a2
      obtain ⟨u, b1, b2⟩ := hc.get a1
      rw [Array.getElem?_toList] at b1
      rw [b1] at a2; cases a2; exact b2
  · unfold overL
    rw [List.all_eq_true] at *
    intro v hv
    simp only [List.mem_append] at hv
    rcases hv with (h' | h') | h'
    · exact h1 v (List.mem_of_mem_take h')
    · exact h2 v h'
    · exact h1 v (List.mem_of_mem_drop h')

theorem fill_rel {ρ ρ' : Operand → Value} {place place' : Nat → Option (Nat × Nat)} (hp : ∀ i, place' i = place i) : ∀ (ps : List (Nat × Operand)) (cs : List Value) (c : Array Value) (r : List Value),
    (∀ x ∈ ps, VRel m (ρ x.2) (ρ' x.2)) → VRels m cs c.toList → cs.all Value.oneCell' = true → fillL place cs (ps.map fun x => (x.1, ρ x.2)) = some r →
    ∃ r', Instr.fill place' c (ps.map fun x => (x.1, ρ' x.2)) = some r' ∧ VRels m r r'.toList ∧ r.all Value.oneCell' = true := by
  intro ps
  induction ps with
  | nil => intro cs c r _ hc h1 hf; simp only [List.map_nil, fillL, Option.some.injEq] at hf; subst hf; exact ⟨c, rfl, hc, h1⟩
  | cons x ps ih =>
    intro cs c r hρ hc h1 hf
    simp only [List.map_cons, fillL] at hf
    split at hf <;> try (simp at hf; done)
    rename_i off size vs hpl hvs
    split at hf <;> try (simp at hf; done)
    rename_i hb
    obtain ⟨hb1, hb2⟩ := hb
    obtain ⟨q1, q2, _⟩ := cellsOf_rel (hρ x (by simp)) hvs
    have hcl := hc.length
    simp only [Array.length_toList] at hcl
    have hvl : (ρ' x.2).cells.size = size := by have := q1.length; simp at this; omega
    obtain ⟨o1, o2⟩ := over_rel hc q1 (off := off) (by omega) h1 q2
    obtain ⟨r', f1, f2, f3⟩ := ih (overL cs off vs) (overA c off (ρ' x.2).cells.toList) r (fun y hy => hρ y (by simp [hy])) o1 o2 hf
    refine ⟨r', ?_, f2, f3⟩
    simp only [List.map_cons, Instr.fill, hp, hpl, hvl]
    rw [if_neg (by simp; omega), fold_overA]
    exact f1

theorem places_run : ∀ (fs : List Field), (fs.all fun f => (sizeOf? P f.type).isSome) = true →
    (fs.mapM (fun f => do pure (f.offset, ← sizeOf f.type) : Field → Sem (Nat × Nat))).run P w = .ok (fs.map fun f => (f.offset, (sizeOf? P f.type).getD 0)) w := by
  intro fs
  induction fs with
  | nil => intro _; simp
  | cons f r ih =>
    intro hall
    simp only [List.all_cons, Bool.and_eq_true] at hall
    obtain ⟨s, hs⟩ := Option.isSome_iff_exists.1 hall.1
    simp only [List.mapM_cons, Sem.run_bind, rs' hs, Result.andThen_ok, Sem.run_pure, ih hall.2, List.map_cons, hs, Option.getD_some]

theorem build_does {t : TypeId} {parts : Array (Nat × Operand)} {ρ ρ' : Operand → Value} {f : Eff} (hr : HRel m (mix h N F) w) (hρ : ∀ x ∈ parts.toList, VRel m (ρ x.2) (ρ' x.2))
    (he : ((aBuild P t (parts.toList.map fun x => (x.1, ρ x.2))).bind fun a => ret (.agg a.toArray)) = some f) : DoesV P (Instr.build t (parts.map fun (i, x) => (i, ρ' x))) f h N F m w := by
  cases hb : aBuild P t (parts.toList.map fun x => (x.1, ρ x.2)) with
  | none => simp [hb] at he
  | some r =>
    simp only [hb, Option.bind_some, AM.ret, Option.some.injEq] at he
    subst he
    have hpar : (parts.map fun (x : Nat × Operand) => (x.1, ρ' x.2)).toList = parts.toList.map fun x => (x.1, ρ' x.2) := by simp
    unfold aBuild at hb
    split at hb <;> try (simp at hb; done)
    · rename_i fields z hu hz
      split at hb <;> try (simp at hb; done)
      rename_i hall
      obtain ⟨zv, g1, g2, g3⟩ := zeroL_spec hz
      obtain ⟨r', f1, f2, f3⟩ := fill_rel (m := m) (ρ' := ρ') (place' := fun i => (fields.toList.map fun f => (f.offset, (sizeOf? P f.type).getD 0)).toArray[i]?) (fun i => by
        simp only [List.getElem?_toArray, List.getElem?_map]
        cases hf : fields.toList[i]? with
        | none => rfl
        | some f =>
          have := (List.all_eq_true.1 hall) f (List.mem_of_getElem? hf)
          obtain ⟨s, hs⟩ := Option.isSome_iff_exists.1 this
          simp [hs]) parts.toList z zv.cells r hρ (g2.symm ▸ plainCells_rel g3) (plainCells_one g3) hb
      refine DoesV.ret hr (v' := .agg r') ?_ (.agg _ _ (by simpa using f3) (by simpa using f2))
      have hpl := places_run (P := P) (w := w) fields.toList hall
      simp only [Instr.build, Sem.run_bind, rz g1, Result.andThen_ok, ru hu]
      rw [Array.mapM_eq_mapM_toList]
      simp only [Sem.run_map, hpl, Result.andThen_ok]
      rw [show (parts.map fun x => match x with | (i, x) => (i, ρ' x)).toList = parts.toList.map fun x => (x.1, ρ' x.2) from by simp]
      simp only [f1, Sem.run_pure]
    · rename_i n elem z hu hz
      split at hb <;> try (simp at hb; done)
      rename_i size hs
      obtain ⟨zv, g1, g2, g3⟩ := zeroL_spec hz
      obtain ⟨r', f1, f2, f3⟩ := fill_rel (m := m) (ρ' := ρ') (fun _ => rfl) parts.toList z zv.cells r hρ (g2.symm ▸ plainCells_rel g3) (plainCells_one g3) hb
      refine DoesV.ret hr (v' := .agg r') ?_ (.agg _ _ (by simpa using f3) (by simpa using f2))
      simp only [Instr.build, Sem.run_bind, rz g1, Result.andThen_ok, ru hu, rs' hs]
      rw [show (parts.map fun x => match x with | (i, x) => (i, ρ' x)).toList = parts.toList.map fun x => (x.1, ρ' x.2) from by simp]
      simp only [f1, Sem.run_pure]

theorem buildSlice_does {t : TypeId} {len : Nat} {parts : Array (Nat × Operand)} {ρ ρ' : Operand → Value} {f : Eff} (hr : HRel m (mix h N F) w) (hwf : HWf h) (hN : (h.apply f).nx ≤ N) (hρ : ∀ x ∈ parts.toList, VRel m (ρ x.2) (ρ' x.2))
    (he : effBuildSlice P t len (parts.toList.map fun x => (x.1, ρ x.2)) h.nx = some f) : DoesV P (Instr.buildSlice t len (parts.map fun (i, x) => (i, ρ' x))) f h N F m w := by
  unfold effBuildSlice at he
  split at he <;> try (simp at he; done)
  rename_i elem hu
  split at he <;> try (simp at he; done)
  rename_i size z hs hz
  split at he <;> try (simp at he; done)
  rename_i hb
  simp only [gt_iff_lt, not_or, Nat.not_lt, ne_eq, Decidable.not_not] at hb
  split at he <;> try (simp at he; done)
  rename_i cells hf
  cases he
  obtain ⟨zv, g1, g2, g3⟩ := zeroL_spec hz
  have hz2 := zeros_rel (m := m) zv.cells g2 g3 len (len * size) (by rw [hb.2])
  have hpar : (parts.map fun x => match x with | (i, x) => (i, ρ' x)).toList = parts.toList.map fun x => (x.1, ρ' x.2) := by simp
  by_cases hn0 : len * size = 0
  · have hrl : repeatL z len = [] := List.eq_nil_of_length_eq_zero (by rw [length_repeatL, hb.2]; exact hn0)
    rw [hrl] at hf
    obtain ⟨r', f1, f2, f3⟩ := fill_rel (m := m) (ρ' := ρ') (place' := fun i => some (i * size, size)) (fun _ => rfl) parts.toList [] #[] cells hρ .nil rfl hf
    refine newRow_does (c := r') (el := elem) (V := fun a => .slice (some a) len len) hr hwf hN f2 f3 ?_ ?_
    · simp only [Instr.buildSlice, Sem.run_bind, ru hu, Result.andThen_ok, rs' hs]
      rw [if_neg (by omega)]
      simp only [hn0, if_true, Sem.run_bind, Sem.run_pure, Result.andThen_ok]
      rw [hpar, show ((Array.range 0).map fun x => (#[] : Array Value)[x % (#[] : Array Value).size]!) = #[] by simp, f1]
      simp only [Sem.run_bind, run_newRow, Result.andThen_ok, Sem.run_pure]
    · intro m' l _ hl hc' hs'
      have := VRel.slice h.nx 0 len len len l hl (.inl rfl)
      rwa [hc', hs'] at this
  · obtain ⟨r', f1, f2, f3⟩ := fill_rel (m := m) (ρ' := ρ') (place' := fun i => some (i * size, size)) (fun _ => rfl) parts.toList _ _ cells hρ hz2.1 hz2.2 hf
    refine newRow_does (c := r') (el := elem) (V := fun a => .slice (some a) len len) hr hwf hN f2 f3 ?_ ?_
    · simp only [Instr.buildSlice, Sem.run_bind, ru hu, Result.andThen_ok, rs' hs]
      rw [if_neg (by omega)]
      simp only [hn0, if_false, Sem.run_bind, Sem.run_pure, Result.andThen_ok, rz g1]
      rw [hpar, f1]
      simp only [Sem.run_bind, run_newRow, Result.andThen_ok, Sem.run_pure]
    · intro m' l _ hl hc' hs'
      have := VRel.slice h.nx 0 len len len l hl (.inl rfl)
      rwa [hc', hs'] at this
end Go.AM
end
section
/- What each operation does: slices, addresses, parts, maps, the rest. -/
namespace Go.AM
variable {P : Program} {m : Mp} {h : Heap} {N : Nat} {F : Nat → Option Blk} {w : World}

/- ## bounds -/
def ORelV (m : Mp) : Option Value → Option Value → Prop
  | none, none => True
  | some v, some v' => VRel m v v'
  | _, _ => False
theorem ORelV.map {ρ ρ' : Operand → Value} {x : Option Operand} (h : ∀ y, x = some y → VRel m (ρ y) (ρ' y)) : ORelV m (x.map ρ) (x.map ρ') := by
  cases x with
  | none => trivial
  | some y => exact h y rfl

theorem bnd_run {x x' : Option Value} {d n i : Nat} {code : BoundsCode} (hx : ORelV m x x') (he : bnd x d n = some i) :
    match x' with
    | none => i = d
    | some v => (Instr.sliceBound v n code).run P w = .ok i w ∧ i ≤ n := by
  cases x with
  | none => cases x' with
    | none => simp [bnd] at he; exact he.symm
    | some v => exact hx.elim
  | some v => cases x' with
    | none => exact hx.elim
    | some v' =>
      have hv : VRel m v v' := hx
      simp only [bnd] at he
      split at he <;> try (simp at he; done)
      rename_i k z
      cases hv
      split at he <;> try (simp at he; done)
      rename_i j
      cases hb : Nat.ble j n with
      | false => simp [hb] at he
      | true =>
        rw [hb] at he
        simp only [cond_true, Option.some.injEq] at he
        subst he
        have := Nat.le_of_ble_eq_true hb
        refine ⟨?_, this⟩
        simp only [Instr.sliceBound, asIntOf, Sem.run_bind, Sem.run_pure, Result.andThen_ok]
        rw [if_pos (by simp only [Int.ofNat_eq_natCast]; omega)]
        simp

theorem bounds_run {isSlice : Bool} {len cap cap' l hh mm : Nat} {lo lo' hi hi' mx mx' : Option Value} (hcap : cap ≤ cap') (h1 : ORelV m lo lo') (h2 : ORelV m hi hi') (h3 : ORelV m mx mx')
    (he : bounds len cap lo hi mx = some (l, hh, mm)) :
    (Instr.sliceBounds isSlice len cap' lo' hi' mx').run P w = .ok (l, hh, if mx.isSome then mm else cap') w ∧ l ≤ hh ∧ hh ≤ mm ∧ mm ≤ cap ∧ (mx = none → mm = cap) := by
  unfold bounds at he
  split at he <;> try (simp at he; done)
  rename_i m0 hm0
  split at he <;> try (simp at he; done)
  rename_i hhi
  split at he <;> try (simp at he; done)
  rename_i h0 hh0
  split at he <;> try (simp at he; done)
  rename_i l0 hl0
  cases hb : Nat.ble h0 m0 with
  | false => simp [hb] at he
  | true =>
    rw [hb] at he
    simp only [cond_true, Option.some.injEq, Prod.mk.injEq] at he
    obtain ⟨rfl, rfl, rfl⟩ := he
    have hle := Nat.le_of_ble_eq_true hb
    have hl : l0 ≤ h0 ∧ (Instr.sliceBounds isSlice len cap' lo' hi' mx').run P w = .ok (l0, h0, if mx.isSome then m0 else cap') w ∧ m0 ≤ cap ∧ (mx = none → m0 = cap) := by
      have bl : ∀ code, l0 ≤ h0 ∧ (match lo' with
          | some v => Instr.sliceBound v h0 code
          | none => pure 0 : Sem Nat).run P w = .ok l0 w := by
        intro code
        have := bnd_run (P := P) (w := w) (code := code) h1 hl0
        cases lo' with
        | none => simp only at this; subst this; exact ⟨Nat.zero_le _, rfl⟩
        | some v => exact ⟨this.2, this.1⟩
      cases mx with
      | none =>
        cases mx' with
        | some v => exact h3.elim
        | none =>
          simp only [bnd, Option.some.injEq] at hm0
          subst hm0
          refine ⟨(bl .sliceB).1, ?_, Nat.le_refl _, fun _ => rfl⟩
          cases hi with
          | none => cases hi' with
            | some v => exact h2.elim
            | none =>
              simp only [bnd, Option.some.injEq] at hh0
              subst hh0
              simp only [Instr.sliceBounds, Sem.run_bind, Sem.run_pure, Result.andThen_ok, Option.isSome_none, Bool.false_eq_true, if_false]
              have b2 := (bl .sliceB).2
              cases lo' with
              | none => simp only [Sem.run_pure, Result.ok.injEq, and_true] at b2; subst b2; simp
              | some v => simp only at b2; simp [b2]
          | some hv => cases hi' with
            | none => exact h2.elim
            | some hv' =>
              have hb2 : (Instr.sliceBound hv' cap' (if isSlice = true then BoundsCode.sliceAcap else BoundsCode.sliceAlen)).run P w = .ok h0 w := by
                simp only [bnd] at hh0
                split at hh0 <;> try (simp at hh0; done)
                rename_i k z
                have hv2 : VRel m (Value.int k z) hv' := h2
                cases hv2
                split at hh0 <;> try (simp at hh0; done)
                rename_i j
                cases hj : Nat.ble j cap with
                | false => simp [hj] at hh0
                | true =>
                  rw [hj] at hh0
                  simp only [cond_true, Option.some.injEq] at hh0
                  subst hh0
                  simp only [Instr.sliceBound, asIntOf, Sem.run_bind, Sem.run_pure, Result.andThen_ok]
                  rw [if_pos (by simp only [Int.ofNat_eq_natCast]; omega)]
                  simp
              simp only [Instr.sliceBounds, Sem.run_bind, Sem.run_pure, Result.andThen_ok, Option.isSome_none, Bool.false_eq_true, if_false, hb2]
              have b2 := (bl .sliceB).2
              cases lo' with
              | none => simp only [Sem.run_pure, Result.ok.injEq, and_true] at b2; subst b2; simp
              | some v => simp only at b2; simp [b2]
      | some mv =>
        cases mx' with
        | none => exact h3.elim
        | some mv' =>
          have hmv : VRel m mv mv' := h3
          cases hi with
          | none => simp at hhi
          | some hv => cases hi' with
            | none => exact h2.elim
            | some hv' =>
              have hb1 : ∀ code, (Instr.sliceBound mv' cap' code).run P w = .ok m0 w ∧ m0 ≤ cap := by
                intro code
                simp only [bnd] at hm0
                split at hm0 <;> try (simp at hm0; done)
                rename_i k z
                cases hmv
                split at hm0 <;> try (simp at hm0; done)
                rename_i j
                cases hj : Nat.ble j cap with
                | false => simp [hj] at hm0
                | true =>
                  rw [hj] at hm0
                  simp only [cond_true, Option.some.injEq] at hm0
                  subst hm0
                  have := Nat.le_of_ble_eq_true hj
                  refine ⟨?_, this⟩
                  simp only [Instr.sliceBound, asIntOf, Sem.run_bind, Sem.run_pure, Result.andThen_ok]
                  rw [if_pos (by simp only [Int.ofNat_eq_natCast]; omega)]
                  simp
              have hb2 := bnd_run (P := P) (w := w) (code := .slice3B) (x := some hv) (x' := some hv') h2 hh0
              refine ⟨(bl .slice3C).1, ?_, (hb1 .slice3Acap).2, fun e => by simp at e⟩
              simp only [Instr.sliceBounds, Sem.run_bind, Result.andThen_ok, Option.isSome_some, if_true, (hb1 _).1, hb2.1]
              have b2 := (bl .slice3C).2
              cases lo' with
              | none => simp only [Sem.run_pure, Result.ok.injEq, and_true] at b2; subst b2; simp
              | some v => simp only at b2; simp [b2]
    exact ⟨hl.2.1, hl.1, hle, hl.2.2.1, hl.2.2.2⟩

theorem ptr_add {a a' : Addr} (hv : VRel m (.pointer (some a)) (.pointer (some a'))) (k : Nat) : VRel m (.pointer (some (a.add k))) (.pointer (some (a'.add k))) := by
  cases hv with
  | ptr b off l hl => rw [add_at, add_at, Nat.add_assoc]; exact .ptr b (off + k) l hl
  | ptrDead _ _ hd => exact .ptrDead _ _ (by unfold Addr.add; split <;> exact hd)
theorem slice_ptr {a a' : Addr} (hv : VRel m (.pointer (some a)) (.pointer (some a'))) (n c : Nat) : VRel m (.slice (some a) n c) (.slice (some a') n c) := by
  cases hv with
  | ptr b off l hl => exact .slice b off n c c l hl (.inl rfl)
  | ptrDead _ _ hd => exact .sliceDead _ _ _ _ _ hd

theorem sliceArr_does {s : Sem Value} {n l hh mm size : Nat} {a a' : Addr} {lo hi mx : Option Value} (hr : HRel m (mix h N F) w) (ha : VRel m (.pointer (some a)) (.pointer (some a')))
    (hb : bounds n n lo hi mx = some (l, hh, mm)) (hm : mx = none → mm = n)
    (hs : s.run P w = .ok (.slice (some (if (if mx.isSome then mm else n) = l then a' else a'.add (l * size))) (hh - l) ((if mx.isSome then mm else n) - l)) w) :
    DoesV P s ⟨.slice (some (if mm = l then a else a.add (l * size))) (hh - l) (mm - l), [], []⟩ h N F m w := by
  have e : (if mx.isSome then mm else n) = mm := by
    cases mx with
    | none => simp; exact (hm rfl).symm
    | some v => simp
  rw [e] at hs
  refine DoesV.ret hr hs ?_
  by_cases hml : mm = l
  · rw [if_pos hml, if_pos hml]; exact slice_ptr ha _ _
  · rw [if_neg hml, if_neg hml]; exact slice_ptr (ptr_add ha _) _ _

theorem slice_does {t : TypeId} {x x' : Value} {lo lo' hi hi' mx mx' : Option Value} {f : Eff} (hr : HRel m (mix h N F) w) (hwf : HWf h) (hN : h.nx ≤ N) (hx : VRel m x x')
    (h1 : ORelV m lo lo') (h2 : ORelV m hi hi') (h3 : ORelV m mx mx') (he : effSlice P t x lo hi mx h.get = some f) : DoesV P (Instr.sliceAt t x' lo' hi' mx') f h N F m w := by
  unfold effSlice at he
  split at he <;> try (simp at he; done)
  · -- a text
    rename_i s hu
    cases hx
    split at he <;> try (simp at he; done)
    rename_i hmx
    split at he <;> try (simp at he; done)
    rename_i l hh mm hb
    simp only [AM.ret, Option.some.injEq] at he
    subst he
    have hmx0 : mx = none := by simpa using hmx
    subst hmx0
    have hmx' : mx' = none := by
      cases mx' with
      | none => rfl
      | some v => exact h3.elim
    subst hmx'
    obtain ⟨g1, _⟩ := bounds_run (P := P) (w := w) (isSlice := false) (Nat.le_refl _) h1 h2 (mx := none) (mx' := none) trivial hb
    refine DoesV.ret hr ?_ (.string _)
    simp only [Instr.sliceAt, Instr.slice, Sem.run_bind, ru hu, Result.andThen_ok, Option.isSome_none, Bool.false_eq_true, if_false, g1, Sem.run_pure]
  · -- a slice
    rename_i elem a len cap hu
    split at he <;> try (simp at he; done)
    rename_i l hh mm size hb hs
    split at he <;> try (simp at he; done)
    rename_i a' ha'
    simp only [AM.ret, Option.some.injEq] at he
    subst he
    have key : ∀ {a2 : Option Addr} {cap2 : Nat}, cap ≤ cap2 → x' = .slice a2 len cap2 →
        (Instr.sliceAt t x' lo' hi' mx').run P w = .ok (.slice (if (if mx.isSome then mm else cap2) = l then a2 else a2.map (·.add (l * size))) (hh - l) ((if mx.isSome then mm else cap2) - l)) w ∧
        l ≤ hh ∧ hh ≤ mm ∧ mm ≤ cap ∧ (mx = none → mm = cap) := by
      intro a2 cap2 hc hx2
      obtain ⟨g1, g2⟩ := bounds_run (P := P) (w := w) (isSlice := true) hc h1 h2 h3 hb
      refine ⟨?_, g2⟩
      subst hx2
      simp only [Instr.sliceAt, Instr.slice, Sem.run_bind, ru hu, Result.andThen_ok, g1, rs' hs, Sem.run_pure]
    cases a with
    | none =>
      simp only [sliceAddr, Option.some.injEq] at ha'
      subst ha'
      cases hx
      obtain ⟨g1, g2, g3, g4, g5⟩ := key (Nat.le_refl _) rfl
      have e : (if mx.isSome then mm else cap) = mm := by
        cases mx with
        | none => simp; exact (g5 rfl).symm
        | some v => simp
      rw [e] at g1
      refine DoesV.ret hr g1 ?_
      simp only [Option.map_none, ite_self]
      exact .sliceNil _ _
    | some ad =>
      obtain ⟨b, off, sp⟩ := ad
      cases sp with
      | some q => simp [sliceAddr] at ha'
      | none =>
        simp only [sliceAddr] at ha'
        split at ha' <;> try (simp at ha'; done)
        rename_i xs n k hbk
        obtain ⟨lc, hm, c, el, fr, hc⟩ := hr.cells hwf hN hbk
        have hasz := hc.asz
        -- the plain way, where the capacity is known
        have plain : ∀ {cap2 : Nat}, x' = .slice (some ⟨lc.cb, lc.sh + off, none⟩) len cap2 → cap ≤ cap2 → (mx.isSome = true ∨ cap2 = cap) →
            DoesV P (Instr.sliceAt t x' lo' hi' mx') ⟨.slice (if mm = l then some ⟨b, off, none⟩ else some ⟨b, off + l * size, none⟩) (hh - l) (mm - l), [], []⟩ h N F m w := by
          intro cap2 hx2 hle hor
          obtain ⟨g1, g2, g3, g4, g5⟩ := key hle hx2
          have e : (if mx.isSome then mm else cap2) = mm := by
            cases mx with
            | none => simp at hor ⊢; rw [hor]; exact (g5 rfl).symm
            | some v => simp
          rw [e] at g1
          refine DoesV.ret hr g1 ?_
          by_cases hml : mm = l
          · rw [if_pos hml, if_pos hml]; exact .slice _ _ _ _ _ lc hm (.inl rfl)
          · rw [if_neg hml, if_neg hml, Option.map_some, add_at, Nat.add_assoc]; exact .slice _ _ _ _ _ lc hm (.inl rfl)
        -- at the end there is nothing
        have atEnd : ∀ {a2 : Addr}, x' = .slice (some a2) 0 0 → len = 0 → cap = 0 → off = lc.asz → ∀ o2, o2 = off →
            DoesV P (Instr.sliceAt t x' lo' hi' mx') ⟨.slice (some ⟨b, o2, none⟩) (hh - l) (mm - l), [], []⟩ h N F m w := by
          intro a2 hx2 hlen hcap hoff o2 ho2
          subst hlen; subst hcap
          obtain ⟨g1, g2, g3, g4, g5⟩ := key (Nat.le_refl _) hx2
          obtain rfl : mm = 0 := by omega
          obtain rfl : hh = 0 := by omega
          obtain rfl : l = 0 := by omega
          refine DoesV.ret hr g1 ?_
          have : (if mx.isSome then 0 else 0) = 0 := by split <;> rfl
          rw [this, if_pos rfl]
          exact .sliceEnd _ _ _ lc hm (ho2.trans hoff)
        -- a block that may have more room
        have open_ : ∀ e, lc.esz = e → e = size → off + cap * e = n → mx = none →
            DoesV P (Instr.sliceAt t x' lo' hi' mx') ⟨.slice (some ⟨b, off + l * size, none⟩) (hh - l) (mm - l), [], []⟩ h N F m w := by
          intro e he1 he2 hend hmx
          rcases slice_live hx hm with ⟨cap2, hx2, hsr⟩ | ⟨z1, z2, z3, a2, hx2⟩
          · have hle : cap ≤ cap2 := by rcases hsr with r | r <;> omega
            obtain ⟨g1, g2, g3, g4, g5⟩ := key hle hx2
            have hmm := g5 hmx
            subst hmx
            simp only [Option.isSome_none, Bool.false_eq_true, if_false] at g1
            by_cases hcl : cap2 = l
            · rw [if_pos hcl] at g1
              obtain rfl : cap = l := by omega
              obtain rfl : cap2 = cap := by omega
              obtain rfl : hh = cap2 := by omega
              refine DoesV.ret hr g1 ?_
              rw [hmm, Nat.sub_self]
              exact .sliceEnd _ _ _ lc hm (by rw [hasz, ← hend, he2])
            · rw [if_neg hcl, Option.map_some, add_at, Nat.add_assoc] at g1
              refine DoesV.ret hr g1 ?_
              rw [hmm]
              refine .slice _ _ _ _ _ lc hm ?_
              rcases hsr with r | ⟨r1, r2, r3, r4⟩
              · left; omega
              · right
                have hes : lc.esz = size := he1.trans he2
                rw [hes] at r1 r2 r3 ⊢
                refine ⟨?_, ?_, r3, by omega⟩
                · rw [Nat.sub_mul]
                  have : l * size ≤ cap * size := Nat.mul_le_mul_right _ (by omega)
                  omega
                · rw [Nat.sub_mul]
                  have : l * size ≤ cap2 * size := Nat.mul_le_mul_right _ (by omega)
                  omega
          · have hl0 : l = 0 := by
              obtain ⟨_, g2, g3, g4, _⟩ := key (cap2 := 0) (by omega) (by rw [hx2, z1])
              omega
            exact atEnd hx2 z1 z2 z3 _ (by rw [hl0]; simp)
        -- which is it?
        have shut : (mx = none → off + cap * lc.esz = n → lc.esz = 0 ∨ (lc.sh = 0 ∧ lc.csz = n)) →
            DoesV P (Instr.sliceAt t x' lo' hi' mx') ⟨.slice (if mm = l then some ⟨b, off, none⟩ else some ⟨b, off + l * size, none⟩) (hh - l) (mm - l), [], []⟩ h N F m w := by
          intro hno
          rcases slice_live hx hm with ⟨cap2, hx2, hsr⟩ | ⟨z1, z2, z3, a2, hx2⟩
          · have hle : cap ≤ cap2 := by rcases hsr with r | r <;> omega
            refine plain hx2 hle ?_
            cases hmx : mx with
            | some v => exact .inl rfl
            | none =>
              right
              rcases hsr with r | ⟨r1, r2, r3, r4⟩
              · exact r
              · rcases hno hmx (by rw [hasz] at r1; exact r1) with q | ⟨q1, q2⟩
                · omega
                · rw [hasz] at r1
                  rw [q1, q2] at r2
                  have : cap2 * lc.esz = cap * lc.esz := by omega
                  exact Nat.eq_of_mul_eq_mul_right r3 this
          · obtain ⟨_, g2, g3, g4, _⟩ := key (cap2 := 0) (by omega) (by rw [hx2, z1])
            have hml : mm = l := by omega
            rw [if_pos hml]
            exact atEnd hx2 z1 z2 z3 _ rfl
        have hkind := hc.kind
        split at ha'
        · rename_i e
          obtain ⟨k1, k2, k3, k4⟩ := hkind
          split at ha'
          · rename_i hcond
            split at ha' <;> try (simp at ha'; done)
            rename_i hes
            simp only [Option.some.injEq] at ha'
            subst ha'
            have hmx : mx = none := by simpa using hcond.2
            exact open_ e k3 hes hcond.1 hmx
          · rename_i hcond
            simp only [Option.some.injEq] at ha'
            subst ha'
            refine shut ?_
            intro hmx hend
            rw [k3] at hend
            exact absurd ⟨hend, by simp [hmx]⟩ hcond
        · obtain ⟨k1, k2, k3⟩ := hkind
          split at ha'
          · rename_i hcond
            split at ha' <;> try (simp at ha'; done)
            rename_i hes
            simp only [Option.some.injEq] at ha'
            subst ha'
            have hmx : mx = none := by simpa using hcond.2
            exact open_ 1 k3 hes (by rw [Nat.mul_one]; exact hcond.1) hmx
          · rename_i hcond
            simp only [Option.some.injEq] at ha'
            subst ha'
            refine shut ?_
            intro hmx hend
            rw [k3, Nat.mul_one] at hend
            exact absurd ⟨hend, by simp [hmx]⟩ hcond
        · obtain ⟨k1, k2, k3, _⟩ := hkind
          split at ha'
          · rename_i hcond
            split at ha' <;> try (simp at ha'; done)
            rename_i hes
            simp only [Option.some.injEq] at ha'
            subst ha'
            have hmx : mx = none := by simpa using hcond.2
            exact open_ 1 k3 hes (by rw [Nat.mul_one]; exact hcond.1) hmx
          · rename_i hcond
            simp only [Option.some.injEq] at ha'
            subst ha'
            refine shut ?_
            intro hmx hend
            rw [k3, Nat.mul_one] at hend
            exact absurd ⟨hend, by simp [hmx]⟩ hcond
        · rename_i hk1 hk2 hk3
          simp only [Option.some.injEq] at ha'
          subst ha'
          refine shut ?_
          intro _ _
          cases k with
          | ro => exact .inl hkind.2
          | exact => exact .inr ⟨hkind.2.1, hkind.2.2.1⟩
          | loose e => exact absurd rfl (hk1 e)
          | bytes => exact absurd rfl hk2
          | bld t => exact .inr ⟨hkind.2.1, hkind.2.2.1⟩
          | own t => exact absurd rfl (hk3 t)
  · -- a pointer to an array
    rename_i arr a hu
    split at he <;> try (simp at he; done)
    rename_i n elem hu2
    split at he <;> try (simp at he; done)
    rename_i l hh mm size hb hs
    simp only [AM.ret, Option.some.injEq] at he
    subst he
    obtain ⟨a', hx2⟩ : ∃ a', x' = .pointer (some a') := by cases hx <;> exact ⟨_, rfl⟩
    subst hx2
    obtain ⟨g1, _, _, _, g5⟩ := bounds_run (P := P) (w := w) (isSlice := false) (Nat.le_refl _) h1 h2 h3 hb
    refine sliceArr_does hr hx hb g5 ?_
    simp only [Instr.sliceAt, Instr.slice, Sem.run_bind, ru hu, ru hu2, Result.andThen_ok, asAddr, g1, rs' hs, Sem.run_pure]
  · -- an array's address
    rename_i n elem a hu
    split at he <;> try (simp at he; done)
    rename_i l hh mm size hb hs
    simp only [AM.ret, Option.some.injEq] at he
    subst he
    obtain ⟨a', hx2⟩ : ∃ a', x' = .pointer (some a') := by cases hx <;> exact ⟨_, rfl⟩
    subst hx2
    obtain ⟨g1, _, _, _, g5⟩ := bounds_run (P := P) (w := w) (isSlice := false) (Nat.le_refl _) h1 h2 h3 hb
    refine sliceArr_does hr hx hb g5 ?_
    simp only [Instr.sliceAt, Sem.run_bind, ru hu, Result.andThen_ok, Instr.sureAddr, g1, rs' hs, Sem.run_pure]
end Go.AM
end
section
/- What each operation does: addresses, parts, maps, the rest. -/
namespace Go.AM
variable {P : Program} {m : Mp} {h : Heap} {N : Nat} {F : Nat → Option Blk} {w : World}

/- ## addresses -/
theorem field_does {t : TypeId} {x x' : Value} {i : Nat} {f : Eff} (hr : HRel m (mix h N F) w) (hx : VRel m x x') (he : effField P t x i = some f) : DoesV P (Instr.fieldAt t x' i) f h N F m w := by
  unfold effField at he
  split at he <;> try (simp at he; done)
  rename_i fields a hu
  split at he <;> try (simp at he; done)
  rename_i fl hf
  split at he <;> try (simp at he; done)
  rename_i ti hi
  cases hz : Nat.beq ti.size 0 with
  | true => simp [hz] at he
  | false =>
    rw [hz] at he
    simp only [cond_false, AM.ret, Option.some.injEq] at he
    subst he
    have hz0 : ti.size ≠ 0 := by intro e; rw [e] at hz; cases hz
    obtain ⟨a', hx2⟩ : ∃ a', x' = .pointer (some a') := by cases hx <;> exact ⟨_, rfl⟩
    subst hx2
    rw [Array.getElem?_toList] at hf
    refine DoesV.ret hr ?_ (ptr_add hx fl.offset)
    simp only [Instr.fieldAt, Sem.run_bind, ru hu, Result.andThen_ok, hf, Instr.sureAddr, Sem.run_pure, fieldPlace, rs hi]
    rw [if_neg hz0]
    simp

theorem idx_run {x x' : Value} {n i : Nat} (hx : VRel m x x') (he : idx x n = some i) : ∃ k, (asIntOf x').run P w = .ok (k, (i : Int)) w ∧ i < n := by
  unfold idx at he
  split at he <;> try (simp at he; done)
  rename_i k z
  split at he <;> try (simp at he; done)
  rename_i j
  cases hb : Nat.blt j n with
  | false => simp [hb] at he
  | true =>
    rw [hb] at he
    simp only [cond_true, Option.some.injEq] at he
    subst he
    cases hx
    exact ⟨k, by simp [asIntOf], by simpa [Nat.blt_eq] using hb⟩

theorem idxAddr_does {t : TypeId} {x x' y y' : Value} {f : Eff} (hr : HRel m (mix h N F) w) (hx : VRel m x x') (hy : VRel m y y') (he : effIdx P t x y = some f) : DoesV P (Instr.indexAt t x' y') f h N F m w := by
  unfold effIdx at he
  split at he <;> try (simp at he; done)
  · rename_i len elem a hu
    split at he <;> try (simp at he; done)
    rename_i i s hi hs
    simp only [AM.ret, Option.some.injEq] at he
    subst he
    obtain ⟨k, g1, g2⟩ := idx_run (P := P) (w := w) hy hi
    obtain ⟨a', hx2⟩ : ∃ a', x' = .pointer (some a') := by cases hx <;> exact ⟨_, rfl⟩
    subst hx2
    refine DoesV.ret hr ?_ (ptr_add hx (i * s))
    simp only [Instr.indexAt, Sem.run_bind, g1, Result.andThen_ok, ru hu, Instr.sureAddr, Sem.run_pure]
    rw [if_pos (by omega)]
    simp [rs' hs]
  · rename_i elem a len cap hu
    split at he <;> try (simp at he; done)
    rename_i i s hi hs
    simp only [AM.ret, Option.some.injEq] at he
    subst he
    obtain ⟨k, g1, g2⟩ := idx_run (P := P) (w := w) hy hi
    have fin : ∀ a' cap', x' = .slice (some a') len cap' → VRel m (.pointer (some a)) (.pointer (some a')) → DoesV P (Instr.indexAt t x' y') ⟨.pointer (some (a.add (i * s))), [], []⟩ h N F m w := by
      intro a' cap' hx2 hv
      subst hx2
      refine DoesV.ret hr ?_ (ptr_add hv (i * s))
      simp only [Instr.indexAt, Sem.run_bind, g1, Result.andThen_ok, ru hu, Sem.run_pure]
      rw [if_pos (by omega)]
      simp [rs' hs]
    cases hx with
    | slice b off _ _ cap' l hm hs' => exact fin _ _ rfl (.ptr b off l hm)
    | sliceEnd b off a' l hm ho => omega
    | sliceDead _ a' _ _ cap' hd => exact fin _ _ rfl (.ptrDead _ _ hd)

theorem part_run {t : TypeId} {cs cs' : List Value} {off : Nat} {v : Value} (hc : VRels m cs cs') (h1 : cs.all Value.oneCell' = true) (he : aPart P t cs off = some v) :
    ∃ v', (part t cs'.toArray off).run P w = .ok v' w ∧ VRel m v v' := by
  unfold aPart at he
  split at he <;> try (simp at he; done)
  rename_i d hd
  cases hg : aggB (some d) with
  | true =>
    rw [hg, if_pos rfl] at he
    split at he <;> try (simp at he; done)
    rename_i s hs
    split at he <;> try (simp at he; done)
    rename_i hle
    simp only [Option.some.injEq] at he
    subst he
    refine ⟨.agg ((cs'.drop off).take s).toArray, ?_, .agg _ _ ?_ (by simpa using (hc.drop off).take s)⟩
    · simp only [part, Sem.run_bind, ra hd, hg, Result.andThen_ok]
      rw [if_pos trivial]
      simp only [Sem.run_bind, rs' hs, Result.andThen_ok, Sem.run_pure]
      congr 2
      apply Array.ext'
      simp [List.extract_eq_take_drop]
    · rw [List.all_eq_true] at *
      intro v hv
      exact h1 v (List.mem_of_mem_drop (List.mem_of_mem_take hv))
  | false =>
    rw [hg] at he
    simp only [Bool.false_eq_true, if_false] at he
    obtain ⟨v', a1, a2⟩ := hc.get he
    refine ⟨v', ?_, a2⟩
    simp only [part, Sem.run_bind, ra hd, hg, Result.andThen_ok, Bool.false_eq_true, if_false]
    simp [a1]

theorem fieldV_does {t : TypeId} {x x' : Value} {i : Nat} {f : Eff} (hr : HRel m (mix h N F) w) (hx : VRel m x x') (he : effFieldV P t x i = some f) : DoesV P (Instr.field t x' i) f h N F m w := by
  unfold effFieldV at he
  split at he <;> try (simp at he; done)
  rename_i fields cs hu
  split at he <;> try (simp at he; done)
  rename_i fl hf
  cases hp : aPart P fl.type cs.toList fl.offset with
  | none => simp [hp] at he
  | some v =>
    simp only [hp, Option.bind_some, AM.ret, Option.some.injEq] at he
    subst he
    cases hx with
    | agg _ cs' h1 hc =>
      obtain ⟨v', g1, g2⟩ := part_run (P := P) (w := w) hc h1 hp
      rw [Array.getElem?_toList] at hf
      refine DoesV.ret hr ?_ g2
      simpa only [Instr.field, Sem.run_bind, ru hu, Result.andThen_ok, hf, asAgg, Sem.run_pure, Array.toArray_toList] using g1

theorem bytes_get (s : ByteArray) (i : Nat) : s[i]? = s.data.toList[i]? := by
  rw [Array.getElem?_toList]
  by_cases hi : i < s.size
  · rw [getElem?_pos s i hi, Array.getElem?_eq_getElem (by simpa using hi)]; rfl
  · rw [getElem?_neg s i hi, Array.getElem?_eq_none (by simpa using hi)]

theorem index_does {t : TypeId} {x x' y y' : Value} {f : Eff} (hr : HRel m (mix h N F) w) (hx : VRel m x x') (hy : VRel m y y') (he : effIndex P t x y = some f) : DoesV P (Instr.index t x' y') f h N F m w := by
  unfold effIndex at he
  split at he <;> try (simp at he; done)
  · rename_i len elem cs hu
    split at he <;> try (simp at he; done)
    rename_i i s hi hs
    cases hp : aPart P elem cs.toList (i * s) with
    | none => simp [hp] at he
    | some v =>
      simp only [hp, Option.bind_some, AM.ret, Option.some.injEq] at he
      subst he
      obtain ⟨k, g1, g2⟩ := idx_run (P := P) (w := w) hy hi
      cases hx with
      | agg _ cs' h1 hc =>
        obtain ⟨v', q1, q2⟩ := part_run (P := P) (w := w) hc h1 hp
        refine DoesV.ret hr ?_ q2
        simp only [Instr.index, Sem.run_bind, g1, Result.andThen_ok, ru hu]
        rw [if_pos (by omega)]
        simp only [Sem.run_bind, rs' hs, Result.andThen_ok, Int.toNat_natCast]
        simpa using q1
  · rename_i s hu
    split at he <;> try (simp at he; done)
    rename_i i hi
    split at he <;> try (simp at he; done)
    rename_i b hb
    simp only [AM.ret, Option.some.injEq] at he
    subst he
    obtain ⟨k, g1, g2⟩ := idx_run (P := P) (w := w) hy hi
    cases hx
    refine DoesV.ret hr ?_ (.int _ _)
    simp only [Instr.index, Sem.run_bind, g1, Result.andThen_ok, ru hu]
    rw [if_pos (by omega), Int.toNat_natCast, bytes_get, hb]
    simp

/- ## maps -/
theorem bytes_ext {a b : ByteArray} (e : a.data.toList = b.data.toList) : a = b := by
  cases a; cases b
  simp only at e
  congr 1
  exact Array.ext' e
theorem bytes_beq (a b : ByteArray) : (a == b) = (a.data.toList == b.data.toList) := by
  show (a.data == b.data) = _
  rw [Bool.eq_iff_iff, beq_iff_eq, beq_iff_eq]
  exact ⟨fun e => by rw [e], fun e => Array.ext' e⟩
theorem key_same {d : TypeDesc} {k k' : Value} (h1 : effLookup.keyDesc d k = true) (h2 : shapeEq k k' = true) : Instr.sameNow d k k' = some (keyEq k k') ∧ (keyEq k k' = true → k = k') := by
  unfold effLookup.keyDesc at h1
  split at h1 <;> try (simp at h1; done)
  · cases k' <;> simp only [shapeEq, Bool.false_eq_true] at h2
    have := kindN_inj h2
    subst this
    exact ⟨by simp [Instr.sameNow, keyEq], fun e => by simp [keyEq] at e; rw [e]⟩
  · cases k' <;> simp only [shapeEq, Bool.false_eq_true] at h2
    refine ⟨by simp only [Instr.sameNow, keyEq, bytes_beq], fun e => ?_⟩
    simp only [keyEq, beq_iff_eq] at e
    rw [bytes_ext e]
  · cases k' <;> simp only [shapeEq, Bool.false_eq_true] at h2
    exact ⟨by simp [Instr.sameNow, keyEq], fun e => by simp [keyEq] at e; rw [e]⟩

theorem find_rel {d : TypeDesc} {k : Value} (h1 : effLookup.keyDesc d k = true) : ∀ (es : List (Value × Value × Nat)) (ces : List MapEntry) (i : Nat), ERel m es ces → keysOk k es = true →
    match findE k es with
    | some v => ∃ j v', Instr.findNow d k ces i = some (some (i + j, v')) ∧ VRel m v v' ∧ ∃ e, ces[j]? = some e ∧ e.key = k
    | none => Instr.findNow d k ces i = some none := by
  intro es
  induction es with
  | nil => intro ces i he _; cases ces with
    | nil => simp [findE, Instr.findNow]
    | cons => exact he.elim
  | cons x r ih =>
    intro ces i he hk
    cases ces with
    | nil => exact he.elim
    | cons y s =>
      obtain ⟨⟨e1, e2, e3⟩, e4⟩ := he
      simp only [keysOk, List.all_cons, Bool.and_eq_true] at hk
      obtain ⟨q1, q2⟩ := key_same h1 hk.1
      simp only [findE, Instr.findNow]
      rw [e1] at q1 q2
      rw [q1]
      cases hq : keyEq k x.1 with
      | true =>
        rw [← e1, hq]
        simp only [if_true]
        exact ⟨0, y.val, rfl, e3.1, y, by simp, by rw [← e1]; rw [e1] at hq; exact (e1 ▸ q2 hq).symm⟩
      | false =>
        rw [← e1, hq]
        simp only [Bool.false_eq_true, if_false]
        have := ih s (i + 1) e4 hk.2
        cases hf : findE k r with
        | none => rw [hf] at this; simpa using this
        | some v =>
          rw [hf] at this
          obtain ⟨j, v', a1, a2, e, a3, a4⟩ := this
          exact ⟨j + 1, v', by rw [a1]; congr 3; omega, a2, e, by simpa using a3, a4⟩

theorem checkKey_run {kt : TypeId} {d : TypeDesc} {k : Value} {b : Bool} (hu : P.underlying kt = some d) (h1 : effLookup.keyDesc d k = true) : (Instr.checkKey b 10000 kt k).run P w = .ok () w := by
  unfold effLookup.keyDesc at h1
  split at h1 <;> try (simp at h1; done)
  all_goals
    rw [show (10000 : Nat) = 9999 + 1 from rfl, Instr.checkKey, Sem.run_bind, ru hu]
    rfl

theorem key_rel {k k' : Value} (hs : simpleKey k = true) (hk : VRel m k k') : k' = k := by
  cases hk <;> first | rfl | (simp [simpleKey] at hs)
theorem zeroV_rel {t : TypeId} {z : Value} (hz : zeroV P t = some z) : VRel m z z := plainV_rel (zeroV_spec hz).choose_spec.2.2

theorem lookup_does {t : TypeId} {x x' k k' : Value} {ok0 : Bool} {f : Eff} (hr : HRel m (mix h N F) w) (hwf : HWf h) (hN : h.nx ≤ N) (hx : VRel m x x') (hk : VRel m k k')
    (he : effLookup P t x k ok0 h.get = some f) : DoesV P (Instr.lookup t x' k' ok0) f h N F m w := by
  unfold effLookup at he
  split at he <;> try (simp at he; done)
  rename_i kt elem r hu
  split at he <;> try (simp at he; done)
  rename_i hsk
  have hsk : simpleKey k = true := by simpa using hsk
  have := key_rel hsk hk
  subst this
  split at he <;> try (simp at he; done)
  rename_i d es hd hes
  split at he <;> try (simp at he; done)
  rename_i hkd
  simp only [Bool.not_eq_true', Bool.not_eq_false, Bool.and_eq_true] at hkd
  -- the entries
  obtain ⟨ces, hces, go1, go2⟩ : ∃ ces : Array MapEntry, ERel m es ces.toList ∧
      (∀ i v, (Instr.findKey kt k' ces.toList).run P w = .ok (some (i, v)) w → (Instr.lookup t x' k' ok0).run P w = .ok (if ok0 then .tuple #[v, .bool true] else v) w) ∧
      (∀ z, (Instr.findKey kt k' ces.toList).run P w = .ok none w → (zeroValue elem).run P w = .ok z w → (Instr.lookup t x' k' ok0).run P w = .ok (if ok0 then .tuple #[z, .bool false] else z) w) := by
    cases r with
    | none =>
      simp only [Option.some.injEq] at hes
      subst hes
      cases hx
      refine ⟨#[], trivial, fun i v hq => ?_, fun z hq hz => ?_⟩
      · simp only [Instr.lookup, Sem.run_bind, ru hu, Result.andThen_ok, Sem.run_pure, checkKey_run hd hkd.1, hq]
      · simp only [Instr.lookup, Sem.run_bind, ru hu, Result.andThen_ok, Sem.run_pure, checkKey_run hd hkd.1, hq, hz]
    | some r =>
      simp only at hes
      split at hes <;> try (simp at hes; done)
      rename_i es2 hg
      simp only [Option.some.injEq] at hes
      subst hes
      obtain ⟨l, hm, _, ces, q1, q2⟩ := hr.map hwf hN hg
      have := map_live hx hm
      subst this
      refine ⟨ces, q2, fun i v hq => ?_, fun z hq hz => ?_⟩
      · simp only [Instr.lookup, Sem.run_bind, ru hu, Result.andThen_ok, Sem.run_pure, getObj, Sem.run, q1, checkKey_run hd hkd.1, hq]
      · simp only [Instr.lookup, Sem.run_bind, ru hu, Result.andThen_ok, Sem.run_pure, getObj, Sem.run, q1, checkKey_run hd hkd.1, hq, hz]
  have hfind := find_rel hkd.1 es ces.toList 0 hces hkd.2
  cases hf : findE k' es with
  | some v =>
    rw [hf] at he hfind
    simp only [AM.ret, Option.some.injEq] at he
    subst he
    obtain ⟨j, v', a1, a2, _⟩ := hfind
    refine DoesV.ret hr (go1 (0 + j) v' ?_) ?_
    · simp only [Instr.findKey, Sem.run_bind, ru hd, Result.andThen_ok, a1, Sem.run_pure]
    · cases ok0
      · exact a2
      · exact .tuple _ _ (.cons _ _ _ _ a2 (.cons _ _ _ _ (.bool _) .nil))
  | none =>
    rw [hf] at he hfind
    simp only at he hfind
    split at he <;> try (simp at he; done)
    rename_i z hz
    simp only [AM.ret, Option.some.injEq] at he
    subst he
    refine DoesV.ret hr (go2 z ?_ (rz hz w)) ?_
    · simp only [Instr.findKey, Sem.run_bind, ru hd, Result.andThen_ok, hfind, Sem.run_pure]
    · cases ok0
      · exact zeroV_rel hz
      · exact .tuple _ _ (.cons _ _ _ _ (zeroV_rel hz) (.cons _ _ _ _ (.bool _) .nil))

theorem put_rel {d : TypeDesc} {k x x' : Value} {c0 : Nat} (h1 : effLookup.keyDesc d k = true) (hsk : simpleKey k = true) (hx : VRel m x x') : ∀ (es : List (Value × Value × Nat)) (ces : List MapEntry), ERel m es ces → keysOk k es = true →
    (findE k es = none → ERel m (putE k x c0 es) (ces ++ [{ key := k, val := x', born := c0 }])) ∧
    (∀ v, findE k es = some v → ∀ i j v', Instr.findNow d k ces i = some (some (i + j, v')) → ERel m (putE k x c0 es) (ces.modify j fun e => { e with key := k, val := x' })) := by
  intro es
  induction es with
  | nil => intro ces he _; cases ces with
    | nil => exact ⟨fun _ => ⟨⟨rfl, hsk, hx, rfl⟩, trivial⟩, fun v hv => by simp [findE] at hv⟩
    | cons => exact he.elim
  | cons y r ih =>
    intro ces he hk
    cases ces with
    | nil => exact he.elim
    | cons c s =>
      obtain ⟨⟨e1, e2, e3⟩, e4⟩ := he
      simp only [keysOk, List.all_cons, Bool.and_eq_true] at hk
      obtain ⟨q1, q2⟩ := key_same h1 hk.1
      obtain ⟨i1, i2⟩ := ih s e4 hk.2
      have q1 : Instr.sameNow d k c.key = some (keyEq k y.1) := by rw [← e1]; exact q1
      cases hq : keyEq k y.1 with
      | true =>
        have hky := q2 hq
        refine ⟨fun hf => by simp [findE, hq] at hf, fun v _ i j v' hf => ?_⟩
        simp only [Instr.findNow, q1, hq, Option.some.injEq, Prod.mk.injEq] at hf
        obtain rfl : j = 0 := by omega
        simp only [putE, hq, if_true, List.modify_zero_cons]
        exact ⟨⟨hky.symm, e2, hx, e3.2⟩, e4⟩
      | false =>
        refine ⟨fun hf => ?_, fun v hv i j v' hf => ?_⟩
        · simp only [findE, hq, Bool.false_eq_true, if_false] at hf
          simp only [putE, hq, Bool.false_eq_true, if_false, List.cons_append]
          exact ⟨⟨e1, e2, e3⟩, i1 hf⟩
        · simp only [findE, hq, Bool.false_eq_true, if_false] at hv
          simp only [Instr.findNow, q1, hq] at hf
          have hfr := find_rel h1 r s (i + 1) e4 hk.2
          rw [hv] at hfr
          obtain ⟨j', u, a1, _⟩ := hfr
          rw [a1] at hf
          simp only [Option.some.injEq, Prod.mk.injEq] at hf
          obtain rfl : j = j' + 1 := by omega
          simp only [putE, hq, Bool.false_eq_true, if_false, List.modify_succ_cons]
          exact ⟨⟨e1, e2, e3⟩, i2 v hv (i + 1) j' u a1⟩

theorem sameBits_refl {k : Value} (hs : simpleKey k = true) : Instr.sameBits 10000 k k = true := by
  cases k <;> first | (simp [simpleKey] at hs; done) | simp [Instr.sameBits, bytes_beq]

theorem update_does {t : TypeId} {x x' k k' y y' : Value} {f : Eff} (hr : HRel m (mix h N F) w) (hwf : HWf h) (hN : h.nx ≤ N) (hx : VRel m x x') (hk : VRel m k k') (hy : VRel m y y')
    (he : effUpdate P t x k y h.get = some f) : DoesU P (Instr.mapUpdate t x' k' y') f h N F m w := by
  unfold effUpdate at he
  split at he <;> try (simp at he; done)
  rename_i kt elem r hu
  split at he <;> try (simp at he; done)
  rename_i d es clk hd hg
  split at he <;> try (simp at he; done)
  rename_i hcond
  simp only [Bool.and_eq_true] at hcond
  obtain ⟨⟨⟨hsk, hkd⟩, hko⟩, hst⟩ := hcond
  simp only [Option.some.injEq] at he
  subst he
  have := key_rel hsk hk
  subst this
  obtain ⟨l, hm, hrw, ces, q1, q2⟩ := hr.map hwf hN hg
  have := map_live hx hm
  subst this
  have hfind := find_rel hkd es ces.toList 0 q2 hko
  obtain ⟨p1, p2⟩ := put_rel (c0 := clk) hkd hsk hy es ces.toList q2 hko
  have hlt : l.cb < w.heap.size := hr.lt hm
  cases hf : findE k' es with
  | none =>
    rw [hf] at hfind
    simp only at hfind
    have hb : BRel m { w with heap := w.heap.setIfInBounds l.cb (.map (ces.push { key := k', val := y', born := clk }) (clk + 1)) } (.live l) (some (.map (putE k' y clk es) (tick k' es clk))) := by
      simp only [tick, hf]
      exact ⟨hrw, _, by simp [hlt]; rfl, by simpa using p1 hf⟩
    obtain ⟨r1, r2⟩ := wr_rel (v := undef) hr (lt_of_get hwf hN hg) hm hrw hb
    refine ⟨_, m, ?_, rfl, r1, r2⟩
    simp only [Instr.mapUpdate, Sem.run_bind, ru hu, Result.andThen_ok, getObj, Sem.run, q1, checkKey_run hd hkd, Instr.findKey, ru hd, hfind, Sem.run_pure, setObj]
  | some v =>
    rw [hf] at hfind
    obtain ⟨j, v', a1, a2, e, a3, a4⟩ := hfind
    simp only [Nat.zero_add] at a1
    have hb : BRel m { w with heap := w.heap.setIfInBounds l.cb (.map (ces.modify j fun e => { e with key := k', val := y' }) clk) } (.live l) (some (.map (putE k' y clk es) (tick k' es clk))) := by
      simp only [tick, hf]
      exact ⟨hrw, _, by simp [hlt]; rfl, by simpa using p2 v hf 0 j v' (by simpa using a1)⟩
    obtain ⟨r1, r2⟩ := wr_rel (v := undef) hr (lt_of_get hwf hN hg) hm hrw hb
    refine ⟨_, m, ?_, rfl, r1, r2⟩
    rw [Array.getElem?_toList] at a3
    simp only [Instr.mapUpdate, Sem.run_bind, ru hu, Result.andThen_ok, getObj, Sem.run, q1, checkKey_run hd hkd, Instr.findKey, ru hd, a1, Sem.run_pure, setObj, a3, Option.map_some, Option.getD_some, a4, Instr.keyThatStays, sameBits_refl hsk, if_true]
/- ## the same value; what is known of tokens -/
theorem beqV_eq : ∀ (n : Nat), (∀ x y, beqV n x y = true → x = y) ∧ (∀ x y, beqL n x y = true → x = y) := by
  intro n
  induction n with
  | zero => exact ⟨fun x y h => by simp [beqV] at h, fun x y h => by simp [beqL] at h⟩
  | succ n ih =>
    obtain ⟨ihV, ihL⟩ := ih
    constructor
    · intro x y h
      unfold beqV at h
      split at h <;> try (simp at h; done)
      · rw [beq_iff_eq.1 h]
      · simp only [Bool.and_eq_true, eqI_eq, beq_iff_eq] at h
        rw [kindN_inj h.1, h.2]
      · rw [bytes_ext (beq_iff_eq.1 h)]
      · rfl
      · rw [beq_iff_eq.1 h]
      · simp only [Bool.and_eq_true] at h
        rw [Nat.eq_of_beq_eq_true h.1, Nat.eq_of_beq_eq_true h.2]
      · simp only [Bool.and_eq_true, beq_iff_eq] at h
        rw [h.1.1, Nat.eq_of_beq_eq_true h.1.2, Nat.eq_of_beq_eq_true h.2]
      · rfl
      · rw [Nat.eq_of_beq_eq_true h]
      · simp only [Bool.and_eq_true] at h
        rw [Nat.eq_of_beq_eq_true h.1.1, Array.toList_inj.1 (ihL _ _ h.1.2), Array.toList_inj.1 (ihL _ _ h.2)]
      · rfl
      · simp only [Bool.and_eq_true] at h
        rw [Nat.eq_of_beq_eq_true h.1, ihV _ _ h.2]
      · rfl
      · rfl
      · rw [Nat.eq_of_beq_eq_true h]
      · rw [Array.toList_inj.1 (ihL _ _ h)]
      · rw [Array.toList_inj.1 (ihL _ _ h)]
    · intro x y h
      unfold beqL at h
      split at h <;> try (simp at h; done)
      · rfl
      · rename_i e1
        cases e1
        simp only [Bool.and_eq_true] at h
        rw [ihV _ _ h.1, ihL _ _ h.2]
theorem opN_inj {a b : BinOp} (h : Nat.beq (opN a) (opN b) = true) : a = b := by
  have := Nat.eq_of_beq_eq_true h
  cases a <;> cases b <;> first | rfl | (simp [opN] at this)
theorem findBin_ok {op : BinOp} {o r : Value} : ∀ {fs : List Fact}, findBin op o fs = some r → Fact.bin op o r ∈ fs
  | [], h => by simp [findBin] at h
  | .bin op' o' r' :: l, h => by
    rw [findBin] at h
    cases hc : (Nat.beq (opN op) (opN op') && beqV 2 o o') with
    | true =>
      rw [hc] at h
      simp only [cond_true, Option.some.injEq] at h
      simp only [Bool.and_eq_true] at hc
      have h1 := opN_inj hc.1
      have h2 := (beqV_eq 2).1 _ _ hc.2
      subst h1; subst h2; subst h
      simp
    | false =>
      rw [hc] at h
      simp [findBin_ok (show findBin op o l = some r from h)]
  | .nib _ _ _ :: l, h => by simp [findBin_ok (show findBin op o l = some r from h)]
  | .conv _ _ :: l, h => by simp [findBin_ok (show findBin op o l = some r from h)]
  | .mm _ _ _ _ :: l, h => by simp [findBin_ok (show findBin op o l = some r from h)]
theorem findNib_ok {op : BinOp} {o r : Value} : ∀ {fs : List Fact}, findNib op o fs = some r → Fact.nib op o r ∈ fs
  | [], h => by simp [findNib] at h
  | .nib op' o' r' :: l, h => by
    rw [findNib] at h
    cases hc : (Nat.beq (opN op) (opN op') && beqV 2 o o') with
    | true =>
      rw [hc] at h
      simp only [cond_true, Option.some.injEq] at h
      simp only [Bool.and_eq_true] at hc
      have h1 := opN_inj hc.1
      have h2 := (beqV_eq 2).1 _ _ hc.2
      subst h1; subst h2; subst h
      simp
    | false =>
      rw [hc] at h
      simp [findNib_ok (show findNib op o l = some r from h)]
  | .bin _ _ _ :: l, h => by simp [findNib_ok (show findNib op o l = some r from h)]
  | .conv _ _ :: l, h => by simp [findNib_ok (show findNib op o l = some r from h)]
  | .mm _ _ _ _ :: l, h => by simp [findNib_ok (show findNib op o l = some r from h)]
theorem findConv_ok {k : IntKind} {r : Value} : ∀ {fs : List Fact}, findConv k fs = some r → Fact.conv k r ∈ fs
  | [], h => by simp [findConv] at h
  | .conv k' r' :: l, h => by
    rw [findConv] at h
    cases hc : Nat.beq (kindN k) (kindN k') with
    | true =>
      rw [hc] at h
      simp only [cond_true, Option.some.injEq] at h
      have h1 := kindN_inj hc
      subst h1; subst h
      simp
    | false =>
      rw [hc] at h
      simp [findConv_ok (show findConv k l = some r from h)]
  | .bin _ _ _ :: l, h => by simp [findConv_ok (show findConv k l = some r from h)]
  | .nib _ _ _ :: l, h => by simp [findConv_ok (show findConv k l = some r from h)]
  | .mm _ _ _ _ :: l, h => by simp [findConv_ok (show findConv k l = some r from h)]
theorem findMM_ok {mn : Bool} {k : IntKind} {b : Int} {r : Value} : ∀ {fs : List Fact}, findMM mn k b fs = some r → Fact.mm mn k b r ∈ fs
  | [], h => by simp [findMM] at h
  | .mm mn' k' b' r' :: l, h => by
    rw [findMM] at h
    cases hc : ((Bool.rec (Bool.not mn') mn' mn : Bool) && Nat.beq (kindN k) (kindN k') && eqI b b') with
    | true =>
      rw [hc] at h
      simp only [cond_true, Option.some.injEq] at h
      simp only [Bool.and_eq_true, eqI_eq, beq_iff_eq] at hc
      have h1 := kindN_inj hc.1.2
      have h2 := hc.2
      have h3 : mn' = mn := by have := hc.1.1; cases mn <;> cases mn' <;> first | rfl | cases this
      subst h1; subst h2; subst h3; subst h
      simp
    | false =>
      rw [hc] at h
      simp [findMM_ok (show findMM mn k b l = some r from h)]
  | .bin _ _ _ :: l, h => by simp [findMM_ok (show findMM mn k b l = some r from h)]
  | .nib _ _ _ :: l, h => by simp [findMM_ok (show findMM mn k b l = some r from h)]
  | .conv _ _ :: l, h => by simp [findMM_ok (show findMM mn k b l = some r from h)]
theorem tok_facts (hr : HRel m (mix h N F) w) (hwf : HWf h) (hN : h.nx ≤ N) {i : Nat} {k : IntKind} {n : Int} (hi : m i = .sym k n) : ∀ f ∈ factsOf (h.get i), f.ok m k n := by
  intro f hf
  unfold factsOf at hf
  split at hf
  · rename_i fs hg
    have := hr.at hwf hN hg
    rw [hi] at this
    exact this f hf
  · simp at hf
end Go.AM
end
