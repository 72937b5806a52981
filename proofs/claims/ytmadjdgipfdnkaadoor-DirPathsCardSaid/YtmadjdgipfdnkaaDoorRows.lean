/-
  NARROWER THAN 'FOR EVERY INPUT', by the rows' own cells (each row's printed sentence says how): InodeFiles: laid · InodeBounds: laid · InodeShrinks: laid · InodePuts: laid · InodeRoom: laid · DirSplits: laid · DirPaths: laid · DirFull: laid · DirNames: laid.
  DERIVED. THE GIVEN ROWS OF THIS SEAT. 9 by the template 'for every input the law returns true; each argument reads behind the call as it read before'; 0 by the template 'total and deterministic' (their statements: YtmadjdgipfdnkaaDoorTotals.lean).
  GIVEN WITH THE SEED: the statements are not yours to turn. If you find one false, say at which input.
  Laid BY PROGRAM, IN A SANDBOX (cutbox-rows.mjs): the forced cells as the released guide's own fill.sh prints them over the translation 0afe8e8f3fe39a15… (all of the seat's roots in one cut). By AI agents, Wed Nov 11 2026. No macro, syntax, notation, axiom, sorry.
-/
import Derived.Test.YtmadjdgipfdnkaaDoorChecked
import GoSem.Claim
import GoSem.ClaimJoined
import GoSem.ClaimMapViews
import Derived.JoinedTies
import Derived.KernelRfl
namespace Go.Proofs.YtmadjdgipfdnkaaDoor
/- THE CELL 'sum', in the pinned program and in every row, IS THE sha256 OF THE DUMP (.gsa) THAT YtmadjdgipfdnkaaDoorProg.lean LOADS. Nothing in Lean hashes anything: it is a label: what it is worth is what the hold of that sum in a sandbox is worth. -/
noncomputable def Tryd.pinned : Pinned := { name := "ytmadjdgipfdnkaadoor", sum := "0afe8e8f3fe39a15d6a9758dbe95cba15d1e1a7a9ab76ad421c0fc2c861afb9c", checked := Tryd.checked }
namespace Rows
def none {H : Type} : Left H := { results := [], args := [] }

/- WHAT THE LISTED PACKAGE-LEVEL VARIABLES READ AS WHEN THE CALL BEGINS. Each datum BY PROGRAM (the guide's laid-datum.mjs) off the statement by which the dump's own 'gosem.cut.vars' lays the variable. In a bare row this is a premise. The card (YtmadjdgipfdnkaaDoorCards.lean) ties it to the program's text. -/
def laid_math_bits_deBruijn64tab {H : Type} : DataW H := .agg [.lit (.int .u8 0), .lit (.int .u8 1), .lit (.int .u8 56), .lit (.int .u8 2), .lit (.int .u8 57), .lit (.int .u8 49), .lit (.int .u8 28), .lit (.int .u8 3), .lit (.int .u8 61), .lit (.int .u8 58), .lit (.int .u8 42), .lit (.int .u8 50), .lit (.int .u8 38), .lit (.int .u8 29), .lit (.int .u8 17), .lit (.int .u8 4), .lit (.int .u8 62), .lit (.int .u8 47), .lit (.int .u8 59), .lit (.int .u8 36), .lit (.int .u8 45), .lit (.int .u8 43), .lit (.int .u8 51), .lit (.int .u8 22), .lit (.int .u8 53), .lit (.int .u8 39), .lit (.int .u8 33), .lit (.int .u8 30), .lit (.int .u8 24), .lit (.int .u8 18), .lit (.int .u8 12), .lit (.int .u8 5), .lit (.int .u8 63), .lit (.int .u8 55), .lit (.int .u8 48), .lit (.int .u8 27), .lit (.int .u8 60), .lit (.int .u8 41), .lit (.int .u8 37), .lit (.int .u8 16), .lit (.int .u8 46), .lit (.int .u8 35), .lit (.int .u8 44), .lit (.int .u8 21), .lit (.int .u8 52), .lit (.int .u8 32), .lit (.int .u8 23), .lit (.int .u8 11), .lit (.int .u8 54), .lit (.int .u8 26), .lit (.int .u8 40), .lit (.int .u8 15), .lit (.int .u8 34), .lit (.int .u8 20), .lit (.int .u8 31), .lit (.int .u8 10), .lit (.int .u8 25), .lit (.int .u8 14), .lit (.int .u8 19), .lit (.int .u8 9), .lit (.int .u8 13), .lit (.int .u8 8), .lit (.int .u8 7), .lit (.int .u8 6)]

/-- 'januslaw15.InodeFiles': WHATEVER THE INPUT: true; the input reads as it did. -/
def inodeFilesSpec : ChangeSpec := { name := "inodeFiles", fn := fun _ => fun
  | [d] => { results := [.lit (.bool true)], args := [d] }
  | _ => none }
def inodeFilesRow : OpenClaim := { program := "ytmadjdgipfdnkaadoor", sum := "0afe8e8f3fe39a15d6a9758dbe95cba15d1e1a7a9ab76ad421c0fc2c861afb9c", func := "janus/januslaw15.InodeFiles", spec := "inodeFiles", unfollowed := true, recurses := true, named := ["math/bits.deBruijn64tab"], apart := false, laid := [("math/bits.deBruijn64tab", laid_math_bits_deBruijn64tab)] }
def InodeFilesSaid : Prop := inodeFilesRow.holds Tryd.pinned (OpenSpec.ofChange inodeFilesSpec)

/-- ITS FALSE NEIGHBOUR: 'it returns false'. Refute it at one input. -/
def inodeFilesWrong : ChangeSpec := { name := "inodeFiles", fn := fun _ => fun
  | [d] => { results := [.lit (.bool false)], args := [d] }
  | _ => none }
def InodeFilesWrongFalsely : Prop := inodeFilesRow.holds Tryd.pinned (OpenSpec.ofChange inodeFilesWrong)

/-- 'januslaw15.InodeBounds': WHATEVER THE INPUT: true; the input reads as it did. -/
def inodeBoundsSpec : ChangeSpec := { name := "inodeBounds", fn := fun _ => fun
  | [d] => { results := [.lit (.bool true)], args := [d] }
  | _ => none }
def inodeBoundsRow : OpenClaim := { program := "ytmadjdgipfdnkaadoor", sum := "0afe8e8f3fe39a15d6a9758dbe95cba15d1e1a7a9ab76ad421c0fc2c861afb9c", func := "janus/januslaw15.InodeBounds", spec := "inodeBounds", unfollowed := true, recurses := true, named := ["math/bits.deBruijn64tab"], apart := false, laid := [("math/bits.deBruijn64tab", laid_math_bits_deBruijn64tab)] }
def InodeBoundsSaid : Prop := inodeBoundsRow.holds Tryd.pinned (OpenSpec.ofChange inodeBoundsSpec)

/-- ITS FALSE NEIGHBOUR: 'it returns false'. Refute it at one input. -/
def inodeBoundsWrong : ChangeSpec := { name := "inodeBounds", fn := fun _ => fun
  | [d] => { results := [.lit (.bool false)], args := [d] }
  | _ => none }
def InodeBoundsWrongFalsely : Prop := inodeBoundsRow.holds Tryd.pinned (OpenSpec.ofChange inodeBoundsWrong)

/-- 'januslaw15.InodeShrinks': WHATEVER THE INPUT: true; the input reads as it did. -/
def inodeShrinksSpec : ChangeSpec := { name := "inodeShrinks", fn := fun _ => fun
  | [d1, d2, d3] => { results := [.lit (.bool true)], args := [d1, d2, d3] }
  | _ => none }
def inodeShrinksRow : OpenClaim := { program := "ytmadjdgipfdnkaadoor", sum := "0afe8e8f3fe39a15d6a9758dbe95cba15d1e1a7a9ab76ad421c0fc2c861afb9c", func := "janus/januslaw15.InodeShrinks", spec := "inodeShrinks", unfollowed := true, recurses := true, named := ["math/bits.deBruijn64tab"], apart := false, laid := [("math/bits.deBruijn64tab", laid_math_bits_deBruijn64tab)] }
def InodeShrinksSaid : Prop := inodeShrinksRow.holds Tryd.pinned (OpenSpec.ofChange inodeShrinksSpec)

/-- ITS FALSE NEIGHBOUR: 'it returns false'. Refute it at one input. -/
def inodeShrinksWrong : ChangeSpec := { name := "inodeShrinks", fn := fun _ => fun
  | [d1, d2, d3] => { results := [.lit (.bool false)], args := [d1, d2, d3] }
  | _ => none }
def InodeShrinksWrongFalsely : Prop := inodeShrinksRow.holds Tryd.pinned (OpenSpec.ofChange inodeShrinksWrong)

/-- 'januslaw15.InodePuts': WHATEVER THE INPUT: true; the input reads as it did. -/
def inodePutsSpec : ChangeSpec := { name := "inodePuts", fn := fun _ => fun
  | [d1, d2, d3] => { results := [.lit (.bool true)], args := [d1, d2, d3] }
  | _ => none }
def inodePutsRow : OpenClaim := { program := "ytmadjdgipfdnkaadoor", sum := "0afe8e8f3fe39a15d6a9758dbe95cba15d1e1a7a9ab76ad421c0fc2c861afb9c", func := "janus/januslaw15.InodePuts", spec := "inodePuts", unfollowed := true, recurses := true, named := ["math/bits.deBruijn64tab"], apart := false, laid := [("math/bits.deBruijn64tab", laid_math_bits_deBruijn64tab)] }
def InodePutsSaid : Prop := inodePutsRow.holds Tryd.pinned (OpenSpec.ofChange inodePutsSpec)

/-- ITS FALSE NEIGHBOUR: 'it returns false'. Refute it at one input. -/
def inodePutsWrong : ChangeSpec := { name := "inodePuts", fn := fun _ => fun
  | [d1, d2, d3] => { results := [.lit (.bool false)], args := [d1, d2, d3] }
  | _ => none }
def InodePutsWrongFalsely : Prop := inodePutsRow.holds Tryd.pinned (OpenSpec.ofChange inodePutsWrong)

/-- 'januslaw15.InodeRoom': WHATEVER THE INPUT: true; the input reads as it did. -/
def inodeRoomSpec : ChangeSpec := { name := "inodeRoom", fn := fun _ => fun
  | [d1, d2] => { results := [.lit (.bool true)], args := [d1, d2] }
  | _ => none }
def inodeRoomRow : OpenClaim := { program := "ytmadjdgipfdnkaadoor", sum := "0afe8e8f3fe39a15d6a9758dbe95cba15d1e1a7a9ab76ad421c0fc2c861afb9c", func := "janus/januslaw15.InodeRoom", spec := "inodeRoom", unfollowed := true, recurses := true, named := ["math/bits.deBruijn64tab"], apart := false, laid := [("math/bits.deBruijn64tab", laid_math_bits_deBruijn64tab)] }
def InodeRoomSaid : Prop := inodeRoomRow.holds Tryd.pinned (OpenSpec.ofChange inodeRoomSpec)

/-- ITS FALSE NEIGHBOUR: 'it returns false'. Refute it at one input. -/
def inodeRoomWrong : ChangeSpec := { name := "inodeRoom", fn := fun _ => fun
  | [d1, d2] => { results := [.lit (.bool false)], args := [d1, d2] }
  | _ => none }
def InodeRoomWrongFalsely : Prop := inodeRoomRow.holds Tryd.pinned (OpenSpec.ofChange inodeRoomWrong)

/-- 'januslaw16.DirSplits': WHATEVER THE INPUT: true; the input reads as it did. -/
def dirSplitsSpec : ChangeSpec := { name := "dirSplits", fn := fun _ => fun
  | [d] => { results := [.lit (.bool true)], args := [d] }
  | _ => none }
def dirSplitsRow : OpenClaim := { program := "ytmadjdgipfdnkaadoor", sum := "0afe8e8f3fe39a15d6a9758dbe95cba15d1e1a7a9ab76ad421c0fc2c861afb9c", func := "janus/januslaw16.DirSplits", spec := "dirSplits", inPlace := ["internal/bytealg.IndexByteString", "internal/bytealg.IndexString", "internal/abi.NoEscape", "internal/bytealg.MakeNoZero"], unfollowed := true, recurses := true, named := ["math/bits.deBruijn64tab", "internal/bytealg.MaxLen"], apart := false, laid := [("math/bits.deBruijn64tab", laid_math_bits_deBruijn64tab)] }
def DirSplitsSaid : Prop := dirSplitsRow.holds Tryd.pinned (OpenSpec.ofChange dirSplitsSpec)

/-- ITS FALSE NEIGHBOUR: 'it returns false'. Refute it at one input. -/
def dirSplitsWrong : ChangeSpec := { name := "dirSplits", fn := fun _ => fun
  | [d] => { results := [.lit (.bool false)], args := [d] }
  | _ => none }
def DirSplitsWrongFalsely : Prop := dirSplitsRow.holds Tryd.pinned (OpenSpec.ofChange dirSplitsWrong)

/-- 'januslaw16.DirPaths': WHATEVER THE INPUT: true; the input reads as it did. -/
def dirPathsSpec : ChangeSpec := { name := "dirPaths", fn := fun _ => fun
  | [d1, d2] => { results := [.lit (.bool true)], args := [d1, d2] }
  | _ => none }
def dirPathsRow : OpenClaim := { program := "ytmadjdgipfdnkaadoor", sum := "0afe8e8f3fe39a15d6a9758dbe95cba15d1e1a7a9ab76ad421c0fc2c861afb9c", func := "janus/januslaw16.DirPaths", spec := "dirPaths", inPlace := ["internal/bytealg.IndexByteString", "internal/bytealg.IndexString", "internal/abi.NoEscape", "internal/bytealg.MakeNoZero"], unfollowed := true, recurses := true, named := ["math/bits.deBruijn64tab", "internal/bytealg.MaxLen"], apart := false, laid := [("math/bits.deBruijn64tab", laid_math_bits_deBruijn64tab)] }
def DirPathsSaid : Prop := dirPathsRow.holds Tryd.pinned (OpenSpec.ofChange dirPathsSpec)

/-- ITS FALSE NEIGHBOUR: 'it returns false'. Refute it at one input. -/
def dirPathsWrong : ChangeSpec := { name := "dirPaths", fn := fun _ => fun
  | [d1, d2] => { results := [.lit (.bool false)], args := [d1, d2] }
  | _ => none }
def DirPathsWrongFalsely : Prop := dirPathsRow.holds Tryd.pinned (OpenSpec.ofChange dirPathsWrong)

/-- 'januslaw16.DirFull': WHATEVER THE INPUT: true; the input reads as it did. -/
def dirFullSpec : ChangeSpec := { name := "dirFull", fn := fun _ => fun
  | [d] => { results := [.lit (.bool true)], args := [d] }
  | _ => none }
def dirFullRow : OpenClaim := { program := "ytmadjdgipfdnkaadoor", sum := "0afe8e8f3fe39a15d6a9758dbe95cba15d1e1a7a9ab76ad421c0fc2c861afb9c", func := "janus/januslaw16.DirFull", spec := "dirFull", inPlace := ["internal/bytealg.IndexByteString", "internal/bytealg.IndexString", "internal/abi.NoEscape", "internal/bytealg.MakeNoZero"], unfollowed := true, recurses := true, named := ["internal/bytealg.MaxLen", "math/bits.deBruijn64tab"], apart := false, laid := [("math/bits.deBruijn64tab", laid_math_bits_deBruijn64tab)] }
def DirFullSaid : Prop := dirFullRow.holds Tryd.pinned (OpenSpec.ofChange dirFullSpec)

/-- ITS FALSE NEIGHBOUR: 'it returns false'. Refute it at one input. -/
def dirFullWrong : ChangeSpec := { name := "dirFull", fn := fun _ => fun
  | [d] => { results := [.lit (.bool false)], args := [d] }
  | _ => none }
def DirFullWrongFalsely : Prop := dirFullRow.holds Tryd.pinned (OpenSpec.ofChange dirFullWrong)

/-- 'januslaw16.DirNames': WHATEVER THE INPUT: true; the input reads as it did. -/
def dirNamesSpec : ChangeSpec := { name := "dirNames", fn := fun _ => fun
  | [d1, d2] => { results := [.lit (.bool true)], args := [d1, d2] }
  | _ => none }
def dirNamesRow : OpenClaim := { program := "ytmadjdgipfdnkaadoor", sum := "0afe8e8f3fe39a15d6a9758dbe95cba15d1e1a7a9ab76ad421c0fc2c861afb9c", func := "janus/januslaw16.DirNames", spec := "dirNames", inPlace := ["internal/bytealg.IndexByteString", "internal/bytealg.IndexString", "internal/abi.NoEscape", "internal/bytealg.MakeNoZero"], unfollowed := true, recurses := true, named := ["internal/bytealg.MaxLen", "math/bits.deBruijn64tab"], apart := false, laid := [("math/bits.deBruijn64tab", laid_math_bits_deBruijn64tab)] }
def DirNamesSaid : Prop := dirNamesRow.holds Tryd.pinned (OpenSpec.ofChange dirNamesSpec)

/-- ITS FALSE NEIGHBOUR: 'it returns false'. Refute it at one input. -/
def dirNamesWrong : ChangeSpec := { name := "dirNames", fn := fun _ => fun
  | [d1, d2] => { results := [.lit (.bool false)], args := [d1, d2] }
  | _ => none }
def DirNamesWrongFalsely : Prop := dirNamesRow.holds Tryd.pinned (OpenSpec.ofChange dirNamesWrong)

/- THE SECOND FORM. 'bulk': how many values and letters a reading holds, each counted each time it is reached (what is shared counts as often as it is met; a slice's spare places count too). A statement '..UptoSaid' is the law's where the arguments, and the package variables that the reading takes, are together of bulk at most 1048576: NARROWER than '..Said'. Prove '..Said' where nothing that the law and all that it calls make is longer than what came in: it says more and counts as full. Else prove '..UptoSaid'. A law counts once. -/
mutual
def uptoBulk {H : Type} : DataW H → Nat
  | .lit (.string bytes) => bytes.length + 1
  | .lit _ => 1
  | .nil => 1
  | .ptr d => uptoBulk d + 1
  | .slice elems spare => uptoBulkAll elems + uptoBulkAll spare + 1
  | .agg parts => uptoBulkAll parts + 1
  | .iface _ d => uptoBulk d + 1
  | .map entries => uptoBulkEntries entries + 1
  | .held _ => 1
def uptoBulkAll {H : Type} : List (DataW H) → Nat
  | [] => 0
  | d :: r => uptoBulk d + uptoBulkAll r
def uptoBulkEntries {H : Type} : List (Lit × DataW H) → Nat
  | [] => 0
  | x :: r => uptoBulkEntry x + uptoBulkEntries r
def uptoBulkEntry {H : Type} : Lit × DataW H → Nat
  | (.string bytes, d) => bytes.length + uptoBulk d + 1
  | (_, d) => uptoBulk d + 1
 end
def uptoSmall : (H : Type) → List (DataW H) → Bool := fun _ ds => decide (uptoBulkAll ds ≤ 1048576)
def OpenSpec.upto (s : _root_.Go.ChangeSpec) : _root_.Go.OpenSpec := { _root_.Go.OpenSpec.ofChange s with cond := some uptoSmall }

/-- 'januslaw15.InodeFiles', WHERE WHAT IT READS IS OF BULK AT MOST 1048576: true; the input reads as it did. -/
def inodeFilesUptoRow : OpenClaim := { program := "ytmadjdgipfdnkaadoor", sum := "0afe8e8f3fe39a15d6a9758dbe95cba15d1e1a7a9ab76ad421c0fc2c861afb9c", func := "janus/januslaw15.InodeFiles", spec := "inodeFiles", unfollowed := true, recurses := true, named := ["math/bits.deBruijn64tab"], apart := false, laid := [("math/bits.deBruijn64tab", laid_math_bits_deBruijn64tab)], narrowed := true }
def InodeFilesUptoSaid : Prop := inodeFilesUptoRow.holds Tryd.pinned (OpenSpec.upto inodeFilesSpec)

/-- 'januslaw15.InodeBounds', WHERE WHAT IT READS IS OF BULK AT MOST 1048576: true; the input reads as it did. -/
def inodeBoundsUptoRow : OpenClaim := { program := "ytmadjdgipfdnkaadoor", sum := "0afe8e8f3fe39a15d6a9758dbe95cba15d1e1a7a9ab76ad421c0fc2c861afb9c", func := "janus/januslaw15.InodeBounds", spec := "inodeBounds", unfollowed := true, recurses := true, named := ["math/bits.deBruijn64tab"], apart := false, laid := [("math/bits.deBruijn64tab", laid_math_bits_deBruijn64tab)], narrowed := true }
def InodeBoundsUptoSaid : Prop := inodeBoundsUptoRow.holds Tryd.pinned (OpenSpec.upto inodeBoundsSpec)

/-- 'januslaw15.InodeShrinks', WHERE WHAT IT READS IS OF BULK AT MOST 1048576: true; the input reads as it did. -/
def inodeShrinksUptoRow : OpenClaim := { program := "ytmadjdgipfdnkaadoor", sum := "0afe8e8f3fe39a15d6a9758dbe95cba15d1e1a7a9ab76ad421c0fc2c861afb9c", func := "janus/januslaw15.InodeShrinks", spec := "inodeShrinks", unfollowed := true, recurses := true, named := ["math/bits.deBruijn64tab"], apart := false, laid := [("math/bits.deBruijn64tab", laid_math_bits_deBruijn64tab)], narrowed := true }
def InodeShrinksUptoSaid : Prop := inodeShrinksUptoRow.holds Tryd.pinned (OpenSpec.upto inodeShrinksSpec)

/-- 'januslaw15.InodePuts', WHERE WHAT IT READS IS OF BULK AT MOST 1048576: true; the input reads as it did. -/
def inodePutsUptoRow : OpenClaim := { program := "ytmadjdgipfdnkaadoor", sum := "0afe8e8f3fe39a15d6a9758dbe95cba15d1e1a7a9ab76ad421c0fc2c861afb9c", func := "janus/januslaw15.InodePuts", spec := "inodePuts", unfollowed := true, recurses := true, named := ["math/bits.deBruijn64tab"], apart := false, laid := [("math/bits.deBruijn64tab", laid_math_bits_deBruijn64tab)], narrowed := true }
def InodePutsUptoSaid : Prop := inodePutsUptoRow.holds Tryd.pinned (OpenSpec.upto inodePutsSpec)

/-- 'januslaw15.InodeRoom', WHERE WHAT IT READS IS OF BULK AT MOST 1048576: true; the input reads as it did. -/
def inodeRoomUptoRow : OpenClaim := { program := "ytmadjdgipfdnkaadoor", sum := "0afe8e8f3fe39a15d6a9758dbe95cba15d1e1a7a9ab76ad421c0fc2c861afb9c", func := "janus/januslaw15.InodeRoom", spec := "inodeRoom", unfollowed := true, recurses := true, named := ["math/bits.deBruijn64tab"], apart := false, laid := [("math/bits.deBruijn64tab", laid_math_bits_deBruijn64tab)], narrowed := true }
def InodeRoomUptoSaid : Prop := inodeRoomUptoRow.holds Tryd.pinned (OpenSpec.upto inodeRoomSpec)

/-- 'januslaw16.DirSplits', WHERE WHAT IT READS IS OF BULK AT MOST 1048576: true; the input reads as it did. -/
def dirSplitsUptoRow : OpenClaim := { program := "ytmadjdgipfdnkaadoor", sum := "0afe8e8f3fe39a15d6a9758dbe95cba15d1e1a7a9ab76ad421c0fc2c861afb9c", func := "janus/januslaw16.DirSplits", spec := "dirSplits", inPlace := ["internal/bytealg.IndexByteString", "internal/bytealg.IndexString", "internal/abi.NoEscape", "internal/bytealg.MakeNoZero"], unfollowed := true, recurses := true, named := ["math/bits.deBruijn64tab", "internal/bytealg.MaxLen"], apart := false, laid := [("math/bits.deBruijn64tab", laid_math_bits_deBruijn64tab)], narrowed := true }
def DirSplitsUptoSaid : Prop := dirSplitsUptoRow.holds Tryd.pinned (OpenSpec.upto dirSplitsSpec)

/-- 'januslaw16.DirPaths', WHERE WHAT IT READS IS OF BULK AT MOST 1048576: true; the input reads as it did. -/
def dirPathsUptoRow : OpenClaim := { program := "ytmadjdgipfdnkaadoor", sum := "0afe8e8f3fe39a15d6a9758dbe95cba15d1e1a7a9ab76ad421c0fc2c861afb9c", func := "janus/januslaw16.DirPaths", spec := "dirPaths", inPlace := ["internal/bytealg.IndexByteString", "internal/bytealg.IndexString", "internal/abi.NoEscape", "internal/bytealg.MakeNoZero"], unfollowed := true, recurses := true, named := ["math/bits.deBruijn64tab", "internal/bytealg.MaxLen"], apart := false, laid := [("math/bits.deBruijn64tab", laid_math_bits_deBruijn64tab)], narrowed := true }
def DirPathsUptoSaid : Prop := dirPathsUptoRow.holds Tryd.pinned (OpenSpec.upto dirPathsSpec)

/-- 'januslaw16.DirFull', WHERE WHAT IT READS IS OF BULK AT MOST 1048576: true; the input reads as it did. -/
def dirFullUptoRow : OpenClaim := { program := "ytmadjdgipfdnkaadoor", sum := "0afe8e8f3fe39a15d6a9758dbe95cba15d1e1a7a9ab76ad421c0fc2c861afb9c", func := "janus/januslaw16.DirFull", spec := "dirFull", inPlace := ["internal/bytealg.IndexByteString", "internal/bytealg.IndexString", "internal/abi.NoEscape", "internal/bytealg.MakeNoZero"], unfollowed := true, recurses := true, named := ["internal/bytealg.MaxLen", "math/bits.deBruijn64tab"], apart := false, laid := [("math/bits.deBruijn64tab", laid_math_bits_deBruijn64tab)], narrowed := true }
def DirFullUptoSaid : Prop := dirFullUptoRow.holds Tryd.pinned (OpenSpec.upto dirFullSpec)

/-- 'januslaw16.DirNames', WHERE WHAT IT READS IS OF BULK AT MOST 1048576: true; the input reads as it did. -/
def dirNamesUptoRow : OpenClaim := { program := "ytmadjdgipfdnkaadoor", sum := "0afe8e8f3fe39a15d6a9758dbe95cba15d1e1a7a9ab76ad421c0fc2c861afb9c", func := "janus/januslaw16.DirNames", spec := "dirNames", inPlace := ["internal/bytealg.IndexByteString", "internal/bytealg.IndexString", "internal/abi.NoEscape", "internal/bytealg.MakeNoZero"], unfollowed := true, recurses := true, named := ["internal/bytealg.MaxLen", "math/bits.deBruijn64tab"], apart := false, laid := [("math/bits.deBruijn64tab", laid_math_bits_deBruijn64tab)], narrowed := true }
def DirNamesUptoSaid : Prop := dirNamesUptoRow.holds Tryd.pinned (OpenSpec.upto dirNamesSpec)

end Rows
end Go.Proofs.YtmadjdgipfdnkaaDoor
