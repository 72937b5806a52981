/-
  NARROWER THAN 'FOR EVERY INPUT', by the rows' own cells (each row's printed sentence says how): DirPlays: laid · FscoreMakes: laid · FscorePlays: laid · UnixPipes: laid · UnixForks: laid · UnixReads: laid.
  DERIVED. THE GIVEN ROWS OF THIS SEAT. 6 by the template 'for every input the law returns true; each argument reads behind the call as it read before'; 0 by the template 'total and deterministic' (their statements: YtgdbknbgpkmncaaGreatDoorTotals.lean).
  GIVEN WITH THE SEED: the statements are not yours to turn. If you find one false, say at which input.
  Laid BY PROGRAM, IN A SANDBOX (cutbox-rows.mjs): the forced cells as the released guide's own fill.sh prints them over the translation dfba826ea9979858… (all of the seat's roots in one cut). By AI agents, Wed Nov 11 2026. No macro, syntax, notation, axiom, sorry.
-/
import Derived.Test.YtgdbknbgpkmncaaGreatDoorChecked
import GoSem.Claim
import GoSem.ClaimJoined
import GoSem.ClaimMapViews
import Derived.JoinedTies
import Derived.KernelRfl
namespace Go.Proofs.YtgdbknbgpkmncaaGreatDoor
/- THE CELL 'sum', in the pinned program and in every row, IS THE sha256 OF THE DUMP (.gsa) THAT YtgdbknbgpkmncaaGreatDoorProg.lean LOADS. Nothing in Lean hashes anything: it is a label: what it is worth is what the hold of that sum in a sandbox is worth. -/
noncomputable def Tryz.pinned : Pinned := { name := "ytgdbknbgpkmncaagreatdoor", sum := "dfba826ea99798589e6838706b556074e0021fdc556d78823104491f88ac6c92", checked := Tryz.checked }
namespace Rows
def none {H : Type} : Left H := { results := [], args := [] }

/- WHAT THE LISTED PACKAGE-LEVEL VARIABLES READ AS WHEN THE CALL BEGINS. Each datum BY PROGRAM (the guide's laid-datum.mjs) off the statement by which the dump's own 'gosem.cut.vars' lays the variable. In a bare row this is a premise. The card (YtgdbknbgpkmncaaGreatDoorCards.lean) ties it to the program's text. -/
def laid_math_bits_deBruijn64tab {H : Type} : DataW H := .agg [.lit (.int .u8 0), .lit (.int .u8 1), .lit (.int .u8 56), .lit (.int .u8 2), .lit (.int .u8 57), .lit (.int .u8 49), .lit (.int .u8 28), .lit (.int .u8 3), .lit (.int .u8 61), .lit (.int .u8 58), .lit (.int .u8 42), .lit (.int .u8 50), .lit (.int .u8 38), .lit (.int .u8 29), .lit (.int .u8 17), .lit (.int .u8 4), .lit (.int .u8 62), .lit (.int .u8 47), .lit (.int .u8 59), .lit (.int .u8 36), .lit (.int .u8 45), .lit (.int .u8 43), .lit (.int .u8 51), .lit (.int .u8 22), .lit (.int .u8 53), .lit (.int .u8 39), .lit (.int .u8 33), .lit (.int .u8 30), .lit (.int .u8 24), .lit (.int .u8 18), .lit (.int .u8 12), .lit (.int .u8 5), .lit (.int .u8 63), .lit (.int .u8 55), .lit (.int .u8 48), .lit (.int .u8 27), .lit (.int .u8 60), .lit (.int .u8 41), .lit (.int .u8 37), .lit (.int .u8 16), .lit (.int .u8 46), .lit (.int .u8 35), .lit (.int .u8 44), .lit (.int .u8 21), .lit (.int .u8 52), .lit (.int .u8 32), .lit (.int .u8 23), .lit (.int .u8 11), .lit (.int .u8 54), .lit (.int .u8 26), .lit (.int .u8 40), .lit (.int .u8 15), .lit (.int .u8 34), .lit (.int .u8 20), .lit (.int .u8 31), .lit (.int .u8 10), .lit (.int .u8 25), .lit (.int .u8 14), .lit (.int .u8 19), .lit (.int .u8 9), .lit (.int .u8 13), .lit (.int .u8 8), .lit (.int .u8 7), .lit (.int .u8 6)]

/-- 'januslaw16.DirPlays': WHATEVER THE INPUT: true; the input reads as it did. -/
def dirPlaysSpec : ChangeSpec := { name := "dirPlays", fn := fun _ => fun
  | [d] => { results := [.lit (.bool true)], args := [d] }
  | _ => none }
def dirPlaysRow : OpenClaim := { program := "ytgdbknbgpkmncaagreatdoor", sum := "dfba826ea99798589e6838706b556074e0021fdc556d78823104491f88ac6c92", func := "janus/januslaw16.DirPlays", spec := "dirPlays", inPlace := ["internal/bytealg.IndexByteString", "internal/bytealg.IndexString", "internal/abi.NoEscape", "internal/bytealg.MakeNoZero"], unfollowed := true, recurses := true, named := ["math/bits.deBruijn64tab", "internal/bytealg.MaxLen"], apart := false, laid := [("math/bits.deBruijn64tab", laid_math_bits_deBruijn64tab)] }
def DirPlaysSaid : Prop := dirPlaysRow.holds Tryz.pinned (OpenSpec.ofChange dirPlaysSpec)

/-- ITS FALSE NEIGHBOUR: 'it returns false'. Refute it at one input. -/
def dirPlaysWrong : ChangeSpec := { name := "dirPlays", fn := fun _ => fun
  | [d] => { results := [.lit (.bool false)], args := [d] }
  | _ => none }
def DirPlaysWrongFalsely : Prop := dirPlaysRow.holds Tryz.pinned (OpenSpec.ofChange dirPlaysWrong)

/-- 'januslaw17.FscoreMakes': WHATEVER THE INPUT: true; the input reads as it did. -/
def fscoreMakesSpec : ChangeSpec := { name := "fscoreMakes", fn := fun _ => fun
  | [d1, d2] => { results := [.lit (.bool true)], args := [d1, d2] }
  | _ => none }
def fscoreMakesRow : OpenClaim := { program := "ytgdbknbgpkmncaagreatdoor", sum := "dfba826ea99798589e6838706b556074e0021fdc556d78823104491f88ac6c92", func := "janus/januslaw17.FscoreMakes", spec := "fscoreMakes", inPlace := ["internal/bytealg.IndexByteString", "internal/bytealg.IndexString", "internal/abi.NoEscape", "internal/bytealg.MakeNoZero", "internal/bytealg.abigen_runtime_cmpstring"], unfollowed := true, recurses := true, named := ["internal/bytealg.MaxLen", "math/bits.deBruijn64tab"], apart := false, laid := [("math/bits.deBruijn64tab", laid_math_bits_deBruijn64tab)] }
def FscoreMakesSaid : Prop := fscoreMakesRow.holds Tryz.pinned (OpenSpec.ofChange fscoreMakesSpec)

/-- ITS FALSE NEIGHBOUR: 'it returns false'. Refute it at one input. -/
def fscoreMakesWrong : ChangeSpec := { name := "fscoreMakes", fn := fun _ => fun
  | [d1, d2] => { results := [.lit (.bool false)], args := [d1, d2] }
  | _ => none }
def FscoreMakesWrongFalsely : Prop := fscoreMakesRow.holds Tryz.pinned (OpenSpec.ofChange fscoreMakesWrong)

/-- 'januslaw17.FscorePlays': WHATEVER THE INPUT: true; the input reads as it did. -/
def fscorePlaysSpec : ChangeSpec := { name := "fscorePlays", fn := fun _ => fun
  | [d1, d2] => { results := [.lit (.bool true)], args := [d1, d2] }
  | _ => none }
def fscorePlaysRow : OpenClaim := { program := "ytgdbknbgpkmncaagreatdoor", sum := "dfba826ea99798589e6838706b556074e0021fdc556d78823104491f88ac6c92", func := "janus/januslaw17.FscorePlays", spec := "fscorePlays", inPlace := ["internal/bytealg.IndexByteString", "internal/bytealg.IndexString", "internal/abi.NoEscape", "internal/bytealg.MakeNoZero", "internal/bytealg.abigen_runtime_cmpstring"], unfollowed := true, recurses := true, named := ["internal/bytealg.MaxLen", "math/bits.deBruijn64tab"], apart := false, laid := [("math/bits.deBruijn64tab", laid_math_bits_deBruijn64tab)] }
def FscorePlaysSaid : Prop := fscorePlaysRow.holds Tryz.pinned (OpenSpec.ofChange fscorePlaysSpec)

/-- ITS FALSE NEIGHBOUR: 'it returns false'. Refute it at one input. -/
def fscorePlaysWrong : ChangeSpec := { name := "fscorePlays", fn := fun _ => fun
  | [d1, d2] => { results := [.lit (.bool false)], args := [d1, d2] }
  | _ => none }
def FscorePlaysWrongFalsely : Prop := fscorePlaysRow.holds Tryz.pinned (OpenSpec.ofChange fscorePlaysWrong)

/-- 'januslaw22.UnixPipes': WHATEVER THE INPUT: true; the input reads as it did. -/
def unixPipesSpec : ChangeSpec := { name := "unixPipes", fn := fun _ => fun
  | [d1, d2] => { results := [.lit (.bool true)], args := [d1, d2] }
  | _ => none }
def unixPipesRow : OpenClaim := { program := "ytgdbknbgpkmncaagreatdoor", sum := "dfba826ea99798589e6838706b556074e0021fdc556d78823104491f88ac6c92", func := "janus/januslaw22.UnixPipes", spec := "unixPipes", inPlace := ["internal/bytealg.IndexByteString", "internal/bytealg.IndexString", "internal/abi.NoEscape", "internal/bytealg.MakeNoZero"], unfollowed := true, recurses := true, named := ["internal/bytealg.MaxLen", "math/bits.deBruijn64tab"], apart := false, laid := [("math/bits.deBruijn64tab", laid_math_bits_deBruijn64tab)] }
def UnixPipesSaid : Prop := unixPipesRow.holds Tryz.pinned (OpenSpec.ofChange unixPipesSpec)

/-- ITS FALSE NEIGHBOUR: 'it returns false'. Refute it at one input. -/
def unixPipesWrong : ChangeSpec := { name := "unixPipes", fn := fun _ => fun
  | [d1, d2] => { results := [.lit (.bool false)], args := [d1, d2] }
  | _ => none }
def UnixPipesWrongFalsely : Prop := unixPipesRow.holds Tryz.pinned (OpenSpec.ofChange unixPipesWrong)

/-- 'januslaw22.UnixForks': WHATEVER THE INPUT: true; the input reads as it did. -/
def unixForksSpec : ChangeSpec := { name := "unixForks", fn := fun _ => fun
  | [d1, d2] => { results := [.lit (.bool true)], args := [d1, d2] }
  | _ => none }
def unixForksRow : OpenClaim := { program := "ytgdbknbgpkmncaagreatdoor", sum := "dfba826ea99798589e6838706b556074e0021fdc556d78823104491f88ac6c92", func := "janus/januslaw22.UnixForks", spec := "unixForks", inPlace := ["internal/bytealg.IndexByteString", "internal/bytealg.IndexString", "internal/abi.NoEscape", "internal/bytealg.MakeNoZero"], unfollowed := true, recurses := true, named := ["internal/bytealg.MaxLen", "math/bits.deBruijn64tab"], apart := false, laid := [("math/bits.deBruijn64tab", laid_math_bits_deBruijn64tab)] }
def UnixForksSaid : Prop := unixForksRow.holds Tryz.pinned (OpenSpec.ofChange unixForksSpec)

/-- ITS FALSE NEIGHBOUR: 'it returns false'. Refute it at one input. -/
def unixForksWrong : ChangeSpec := { name := "unixForks", fn := fun _ => fun
  | [d1, d2] => { results := [.lit (.bool false)], args := [d1, d2] }
  | _ => none }
def UnixForksWrongFalsely : Prop := unixForksRow.holds Tryz.pinned (OpenSpec.ofChange unixForksWrong)

/-- 'januslaw22.UnixReads': WHATEVER THE INPUT: true; the input reads as it did. -/
def unixReadsSpec : ChangeSpec := { name := "unixReads", fn := fun _ => fun
  | [d] => { results := [.lit (.bool true)], args := [d] }
  | _ => none }
def unixReadsRow : OpenClaim := { program := "ytgdbknbgpkmncaagreatdoor", sum := "dfba826ea99798589e6838706b556074e0021fdc556d78823104491f88ac6c92", func := "janus/januslaw22.UnixReads", spec := "unixReads", inPlace := ["internal/bytealg.IndexByteString", "internal/bytealg.IndexString", "internal/abi.NoEscape", "internal/bytealg.MakeNoZero"], unfollowed := true, recurses := true, named := ["internal/bytealg.MaxLen", "math/bits.deBruijn64tab"], apart := false, laid := [("math/bits.deBruijn64tab", laid_math_bits_deBruijn64tab)] }
def UnixReadsSaid : Prop := unixReadsRow.holds Tryz.pinned (OpenSpec.ofChange unixReadsSpec)

/-- ITS FALSE NEIGHBOUR: 'it returns false'. Refute it at one input. -/
def unixReadsWrong : ChangeSpec := { name := "unixReads", fn := fun _ => fun
  | [d] => { results := [.lit (.bool false)], args := [d] }
  | _ => none }
def UnixReadsWrongFalsely : Prop := unixReadsRow.holds Tryz.pinned (OpenSpec.ofChange unixReadsWrong)

/- THE SECOND FORM. 'bulk': how many values and letters a reading holds, each counted each time it is reached (what is shared counts as often as it is met; a slice's spare places count too). A statement '..UptoSaid' is the law's where the arguments, and the package variables that the reading takes, are together of bulk at most 1048576: NARROWER than '..Said'. Prove '..Said' where nothing that the law and all that it calls make is longer than what came in: it says more and counts as full. Else prove '..UptoSaid'. A law counts once. -/
mutual
def uptoBulk {H : Type} : DataW H → Nat
  | .lit (.string bytes) => bytes.length + 1
  | .lit _ => 1
  | .nil => 1
  | .ptr d => uptoBulk d + 1
  | .slice elems spare => uptoBulkAll elems + uptoBulkAll spare + 1
  | .agg parts => uptoBulkAll parts + 1
  | .iface _ d => uptoBulk d + 1
  | .map entries => uptoBulkEntries entries + 1
  | .held _ => 1
def uptoBulkAll {H : Type} : List (DataW H) → Nat
  | [] => 0
  | d :: r => uptoBulk d + uptoBulkAll r
def uptoBulkEntries {H : Type} : List (Lit × DataW H) → Nat
  | [] => 0
  | x :: r => uptoBulkEntry x + uptoBulkEntries r
def uptoBulkEntry {H : Type} : Lit × DataW H → Nat
  | (.string bytes, d) => bytes.length + uptoBulk d + 1
  | (_, d) => uptoBulk d + 1
 end
def uptoSmall : (H : Type) → List (DataW H) → Bool := fun _ ds => decide (uptoBulkAll ds ≤ 1048576)
def OpenSpec.upto (s : _root_.Go.ChangeSpec) : _root_.Go.OpenSpec := { _root_.Go.OpenSpec.ofChange s with cond := some uptoSmall }

/-- 'januslaw16.DirPlays', WHERE WHAT IT READS IS OF BULK AT MOST 1048576: true; the input reads as it did. -/
def dirPlaysUptoRow : OpenClaim := { program := "ytgdbknbgpkmncaagreatdoor", sum := "dfba826ea99798589e6838706b556074e0021fdc556d78823104491f88ac6c92", func := "janus/januslaw16.DirPlays", spec := "dirPlays", inPlace := ["internal/bytealg.IndexByteString", "internal/bytealg.IndexString", "internal/abi.NoEscape", "internal/bytealg.MakeNoZero"], unfollowed := true, recurses := true, named := ["math/bits.deBruijn64tab", "internal/bytealg.MaxLen"], apart := false, laid := [("math/bits.deBruijn64tab", laid_math_bits_deBruijn64tab)], narrowed := true }
def DirPlaysUptoSaid : Prop := dirPlaysUptoRow.holds Tryz.pinned (OpenSpec.upto dirPlaysSpec)

/-- 'januslaw17.FscoreMakes', WHERE WHAT IT READS IS OF BULK AT MOST 1048576: true; the input reads as it did. -/
def fscoreMakesUptoRow : OpenClaim := { program := "ytgdbknbgpkmncaagreatdoor", sum := "dfba826ea99798589e6838706b556074e0021fdc556d78823104491f88ac6c92", func := "janus/januslaw17.FscoreMakes", spec := "fscoreMakes", inPlace := ["internal/bytealg.IndexByteString", "internal/bytealg.IndexString", "internal/abi.NoEscape", "internal/bytealg.MakeNoZero", "internal/bytealg.abigen_runtime_cmpstring"], unfollowed := true, recurses := true, named := ["internal/bytealg.MaxLen", "math/bits.deBruijn64tab"], apart := false, laid := [("math/bits.deBruijn64tab", laid_math_bits_deBruijn64tab)], narrowed := true }
def FscoreMakesUptoSaid : Prop := fscoreMakesUptoRow.holds Tryz.pinned (OpenSpec.upto fscoreMakesSpec)

/-- 'januslaw17.FscorePlays', WHERE WHAT IT READS IS OF BULK AT MOST 1048576: true; the input reads as it did. -/
def fscorePlaysUptoRow : OpenClaim := { program := "ytgdbknbgpkmncaagreatdoor", sum := "dfba826ea99798589e6838706b556074e0021fdc556d78823104491f88ac6c92", func := "janus/januslaw17.FscorePlays", spec := "fscorePlays", inPlace := ["internal/bytealg.IndexByteString", "internal/bytealg.IndexString", "internal/abi.NoEscape", "internal/bytealg.MakeNoZero", "internal/bytealg.abigen_runtime_cmpstring"], unfollowed := true, recurses := true, named := ["internal/bytealg.MaxLen", "math/bits.deBruijn64tab"], apart := false, laid := [("math/bits.deBruijn64tab", laid_math_bits_deBruijn64tab)], narrowed := true }
def FscorePlaysUptoSaid : Prop := fscorePlaysUptoRow.holds Tryz.pinned (OpenSpec.upto fscorePlaysSpec)

/-- 'januslaw22.UnixPipes', WHERE WHAT IT READS IS OF BULK AT MOST 1048576: true; the input reads as it did. -/
def unixPipesUptoRow : OpenClaim := { program := "ytgdbknbgpkmncaagreatdoor", sum := "dfba826ea99798589e6838706b556074e0021fdc556d78823104491f88ac6c92", func := "janus/januslaw22.UnixPipes", spec := "unixPipes", inPlace := ["internal/bytealg.IndexByteString", "internal/bytealg.IndexString", "internal/abi.NoEscape", "internal/bytealg.MakeNoZero"], unfollowed := true, recurses := true, named := ["internal/bytealg.MaxLen", "math/bits.deBruijn64tab"], apart := false, laid := [("math/bits.deBruijn64tab", laid_math_bits_deBruijn64tab)], narrowed := true }
def UnixPipesUptoSaid : Prop := unixPipesUptoRow.holds Tryz.pinned (OpenSpec.upto unixPipesSpec)

/-- 'januslaw22.UnixForks', WHERE WHAT IT READS IS OF BULK AT MOST 1048576: true; the input reads as it did. -/
def unixForksUptoRow : OpenClaim := { program := "ytgdbknbgpkmncaagreatdoor", sum := "dfba826ea99798589e6838706b556074e0021fdc556d78823104491f88ac6c92", func := "janus/januslaw22.UnixForks", spec := "unixForks", inPlace := ["internal/bytealg.IndexByteString", "internal/bytealg.IndexString", "internal/abi.NoEscape", "internal/bytealg.MakeNoZero"], unfollowed := true, recurses := true, named := ["internal/bytealg.MaxLen", "math/bits.deBruijn64tab"], apart := false, laid := [("math/bits.deBruijn64tab", laid_math_bits_deBruijn64tab)], narrowed := true }
def UnixForksUptoSaid : Prop := unixForksUptoRow.holds Tryz.pinned (OpenSpec.upto unixForksSpec)

/-- 'januslaw22.UnixReads', WHERE WHAT IT READS IS OF BULK AT MOST 1048576: true; the input reads as it did. -/
def unixReadsUptoRow : OpenClaim := { program := "ytgdbknbgpkmncaagreatdoor", sum := "dfba826ea99798589e6838706b556074e0021fdc556d78823104491f88ac6c92", func := "janus/januslaw22.UnixReads", spec := "unixReads", inPlace := ["internal/bytealg.IndexByteString", "internal/bytealg.IndexString", "internal/abi.NoEscape", "internal/bytealg.MakeNoZero"], unfollowed := true, recurses := true, named := ["internal/bytealg.MaxLen", "math/bits.deBruijn64tab"], apart := false, laid := [("math/bits.deBruijn64tab", laid_math_bits_deBruijn64tab)], narrowed := true }
def UnixReadsUptoSaid : Prop := unixReadsUptoRow.holds Tryz.pinned (OpenSpec.upto unixReadsSpec)

end Rows
end Go.Proofs.YtgdbknbgpkmncaaGreatDoor
