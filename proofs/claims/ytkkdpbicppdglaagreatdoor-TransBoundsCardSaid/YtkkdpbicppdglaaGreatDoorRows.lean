/-
  NARROWER THAN 'FOR EVERY INPUT', by the rows' own cells (each row's printed sentence says how): UnixKills: laid · UnixNone: laid · TransBounds: laid · UspecNone: laid.
  DERIVED. THE GIVEN ROWS OF THIS SEAT. 4 by the template 'for every input the law returns true; each argument reads behind the call as it read before'; 0 by the template 'total and deterministic' (their statements: YtkkdpbicppdglaaGreatDoorTotals.lean).
  GIVEN WITH THE SEED: the statements are not yours to turn. If you find one false, say at which input.
  Laid BY PROGRAM, IN A SANDBOX (cutbox-rows.mjs): the forced cells as the released guide's own fill.sh prints them over the translation c6c8bf7c9f12f77f… (all of the seat's roots in one cut). By AI agents, Wed Nov 11 2026. No macro, syntax, notation, axiom, sorry.
-/
import Derived.Test.YtkkdpbicppdglaaGreatDoorChecked
import GoSem.Claim
import GoSem.ClaimJoined
import GoSem.ClaimMapViews
import Derived.JoinedTies
import Derived.KernelRfl
namespace Go.Proofs.YtkkdpbicppdglaaGreatDoor
/- THE CELL 'sum', in the pinned program and in every row, IS THE sha256 OF THE DUMP (.gsa) THAT YtkkdpbicppdglaaGreatDoorProg.lean LOADS. Nothing in Lean hashes anything: it is a label: what it is worth is what the hold of that sum in a sandbox is worth. -/
noncomputable def Tryz.pinned : Pinned := { name := "ytkkdpbicppdglaagreatdoor", sum := "c6c8bf7c9f12f77f5b44e33fa582ed558858dbde77e987fa4b0ca53c55a344ba", checked := Tryz.checked }
namespace Rows
def none {H : Type} : Left H := { results := [], args := [] }

/- WHAT THE LISTED PACKAGE-LEVEL VARIABLES READ AS WHEN THE CALL BEGINS. Each datum BY PROGRAM (the guide's laid-datum.mjs) off the statement by which the dump's own 'gosem.cut.vars' lays the variable. In a bare row this is a premise. The card (YtkkdpbicppdglaaGreatDoorCards.lean) ties it to the program's text. -/
def laid_math_bits_deBruijn64tab {H : Type} : DataW H := .agg [.lit (.int .u8 0), .lit (.int .u8 1), .lit (.int .u8 56), .lit (.int .u8 2), .lit (.int .u8 57), .lit (.int .u8 49), .lit (.int .u8 28), .lit (.int .u8 3), .lit (.int .u8 61), .lit (.int .u8 58), .lit (.int .u8 42), .lit (.int .u8 50), .lit (.int .u8 38), .lit (.int .u8 29), .lit (.int .u8 17), .lit (.int .u8 4), .lit (.int .u8 62), .lit (.int .u8 47), .lit (.int .u8 59), .lit (.int .u8 36), .lit (.int .u8 45), .lit (.int .u8 43), .lit (.int .u8 51), .lit (.int .u8 22), .lit (.int .u8 53), .lit (.int .u8 39), .lit (.int .u8 33), .lit (.int .u8 30), .lit (.int .u8 24), .lit (.int .u8 18), .lit (.int .u8 12), .lit (.int .u8 5), .lit (.int .u8 63), .lit (.int .u8 55), .lit (.int .u8 48), .lit (.int .u8 27), .lit (.int .u8 60), .lit (.int .u8 41), .lit (.int .u8 37), .lit (.int .u8 16), .lit (.int .u8 46), .lit (.int .u8 35), .lit (.int .u8 44), .lit (.int .u8 21), .lit (.int .u8 52), .lit (.int .u8 32), .lit (.int .u8 23), .lit (.int .u8 11), .lit (.int .u8 54), .lit (.int .u8 26), .lit (.int .u8 40), .lit (.int .u8 15), .lit (.int .u8 34), .lit (.int .u8 20), .lit (.int .u8 31), .lit (.int .u8 10), .lit (.int .u8 25), .lit (.int .u8 14), .lit (.int .u8 19), .lit (.int .u8 9), .lit (.int .u8 13), .lit (.int .u8 8), .lit (.int .u8 7), .lit (.int .u8 6)]

/-- 'januslaw22.UnixKills': WHATEVER THE INPUT: true; the input reads as it did. -/
def unixKillsSpec : ChangeSpec := { name := "unixKills", fn := fun _ => fun
  | [d1, d2] => { results := [.lit (.bool true)], args := [d1, d2] }
  | _ => none }
def unixKillsRow : OpenClaim := { program := "ytkkdpbicppdglaagreatdoor", sum := "c6c8bf7c9f12f77f5b44e33fa582ed558858dbde77e987fa4b0ca53c55a344ba", func := "janus/januslaw22.UnixKills", spec := "unixKills", inPlace := ["internal/bytealg.IndexByteString", "internal/bytealg.IndexString", "internal/abi.NoEscape", "internal/bytealg.MakeNoZero"], unfollowed := true, recurses := true, named := ["internal/bytealg.MaxLen", "math/bits.deBruijn64tab"], apart := false, laid := [("math/bits.deBruijn64tab", laid_math_bits_deBruijn64tab)] }
def UnixKillsSaid : Prop := unixKillsRow.holds Tryz.pinned (OpenSpec.ofChange unixKillsSpec)

/-- ITS FALSE NEIGHBOUR: 'it returns false'. Refute it at one input. -/
def unixKillsWrong : ChangeSpec := { name := "unixKills", fn := fun _ => fun
  | [d1, d2] => { results := [.lit (.bool false)], args := [d1, d2] }
  | _ => none }
def UnixKillsWrongFalsely : Prop := unixKillsRow.holds Tryz.pinned (OpenSpec.ofChange unixKillsWrong)

/-- 'januslaw22.UnixNone': WHATEVER THE INPUT: true; the input reads as it did. -/
def unixNoneSpec : ChangeSpec := { name := "unixNone", fn := fun _ => fun
  | [d] => { results := [.lit (.bool true)], args := [d] }
  | _ => none }
def unixNoneRow : OpenClaim := { program := "ytkkdpbicppdglaagreatdoor", sum := "c6c8bf7c9f12f77f5b44e33fa582ed558858dbde77e987fa4b0ca53c55a344ba", func := "janus/januslaw22.UnixNone", spec := "unixNone", inPlace := ["internal/bytealg.IndexByteString", "internal/bytealg.IndexString", "internal/abi.NoEscape", "internal/bytealg.MakeNoZero"], unfollowed := true, recurses := true, named := ["math/bits.deBruijn64tab", "internal/bytealg.MaxLen"], apart := false, laid := [("math/bits.deBruijn64tab", laid_math_bits_deBruijn64tab)] }
def UnixNoneSaid : Prop := unixNoneRow.holds Tryz.pinned (OpenSpec.ofChange unixNoneSpec)

/-- ITS FALSE NEIGHBOUR: 'it returns false'. Refute it at one input. -/
def unixNoneWrong : ChangeSpec := { name := "unixNone", fn := fun _ => fun
  | [d] => { results := [.lit (.bool false)], args := [d] }
  | _ => none }
def UnixNoneWrongFalsely : Prop := unixNoneRow.holds Tryz.pinned (OpenSpec.ofChange unixNoneWrong)

/-- 'januslaw28.TransBounds': WHATEVER THE INPUT: true; the input reads as it did. -/
def transBoundsSpec : ChangeSpec := { name := "transBounds", fn := fun _ => fun
  | [d1, d2] => { results := [.lit (.bool true)], args := [d1, d2] }
  | _ => none }
def transBoundsRow : OpenClaim := { program := "ytkkdpbicppdglaagreatdoor", sum := "c6c8bf7c9f12f77f5b44e33fa582ed558858dbde77e987fa4b0ca53c55a344ba", func := "janus/januslaw28.TransBounds", spec := "transBounds", inPlace := ["internal/bytealg.IndexByteString", "internal/bytealg.IndexString", "internal/abi.NoEscape", "internal/bytealg.MakeNoZero"], unfollowed := true, recurses := true, named := ["internal/bytealg.MaxLen", "math/bits.deBruijn64tab"], apart := false, laid := [("math/bits.deBruijn64tab", laid_math_bits_deBruijn64tab)] }
def TransBoundsSaid : Prop := transBoundsRow.holds Tryz.pinned (OpenSpec.ofChange transBoundsSpec)

/-- ITS FALSE NEIGHBOUR: 'it returns false'. Refute it at one input. -/
def transBoundsWrong : ChangeSpec := { name := "transBounds", fn := fun _ => fun
  | [d1, d2] => { results := [.lit (.bool false)], args := [d1, d2] }
  | _ => none }
def TransBoundsWrongFalsely : Prop := transBoundsRow.holds Tryz.pinned (OpenSpec.ofChange transBoundsWrong)

/-- 'januslaw23.UspecNone': WHATEVER THE INPUT: true; the input reads as it did. -/
def uspecNoneSpec : ChangeSpec := { name := "uspecNone", fn := fun _ => fun
  | [d] => { results := [.lit (.bool true)], args := [d] }
  | _ => none }
def uspecNoneRow : OpenClaim := { program := "ytkkdpbicppdglaagreatdoor", sum := "c6c8bf7c9f12f77f5b44e33fa582ed558858dbde77e987fa4b0ca53c55a344ba", func := "janus/januslaw23.UspecNone", spec := "uspecNone", inPlace := ["internal/bytealg.IndexByteString", "internal/bytealg.IndexString", "internal/abi.NoEscape", "internal/bytealg.MakeNoZero", "internal/bytealg.abigen_runtime_cmpstring"], unfollowed := true, recurses := true, named := ["math/bits.deBruijn64tab", "internal/bytealg.MaxLen"], apart := false, laid := [("math/bits.deBruijn64tab", laid_math_bits_deBruijn64tab)] }
def UspecNoneSaid : Prop := uspecNoneRow.holds Tryz.pinned (OpenSpec.ofChange uspecNoneSpec)

/-- ITS FALSE NEIGHBOUR: 'it returns false'. Refute it at one input. -/
def uspecNoneWrong : ChangeSpec := { name := "uspecNone", fn := fun _ => fun
  | [d] => { results := [.lit (.bool false)], args := [d] }
  | _ => none }
def UspecNoneWrongFalsely : Prop := uspecNoneRow.holds Tryz.pinned (OpenSpec.ofChange uspecNoneWrong)

/- THE SECOND FORM. 'bulk': how many values and letters a reading holds, each counted each time it is reached (what is shared counts as often as it is met; a slice's spare places count too). A statement '..UptoSaid' is the law's where the arguments, and the package variables that the reading takes, are together of bulk at most 1048576: NARROWER than '..Said'. Prove '..Said' where nothing that the law and all that it calls make is longer than what came in: it says more and counts as full. Else prove '..UptoSaid'. A law counts once. -/
mutual
def uptoBulk {H : Type} : DataW H → Nat
  | .lit (.string bytes) => bytes.length + 1
  | .lit _ => 1
  | .nil => 1
  | .ptr d => uptoBulk d + 1
  | .slice elems spare => uptoBulkAll elems + uptoBulkAll spare + 1
  | .agg parts => uptoBulkAll parts + 1
  | .iface _ d => uptoBulk d + 1
  | .map entries => uptoBulkEntries entries + 1
  | .held _ => 1
def uptoBulkAll {H : Type} : List (DataW H) → Nat
  | [] => 0
  | d :: r => uptoBulk d + uptoBulkAll r
def uptoBulkEntries {H : Type} : List (Lit × DataW H) → Nat
  | [] => 0
  | x :: r => uptoBulkEntry x + uptoBulkEntries r
def uptoBulkEntry {H : Type} : Lit × DataW H → Nat
  | (.string bytes, d) => bytes.length + uptoBulk d + 1
  | (_, d) => uptoBulk d + 1
 end
def uptoSmall : (H : Type) → List (DataW H) → Bool := fun _ ds => decide (uptoBulkAll ds ≤ 1048576)
def OpenSpec.upto (s : _root_.Go.ChangeSpec) : _root_.Go.OpenSpec := { _root_.Go.OpenSpec.ofChange s with cond := some uptoSmall }

/-- 'januslaw22.UnixKills', WHERE WHAT IT READS IS OF BULK AT MOST 1048576: true; the input reads as it did. -/
def unixKillsUptoRow : OpenClaim := { program := "ytkkdpbicppdglaagreatdoor", sum := "c6c8bf7c9f12f77f5b44e33fa582ed558858dbde77e987fa4b0ca53c55a344ba", func := "janus/januslaw22.UnixKills", spec := "unixKills", inPlace := ["internal/bytealg.IndexByteString", "internal/bytealg.IndexString", "internal/abi.NoEscape", "internal/bytealg.MakeNoZero"], unfollowed := true, recurses := true, named := ["internal/bytealg.MaxLen", "math/bits.deBruijn64tab"], apart := false, laid := [("math/bits.deBruijn64tab", laid_math_bits_deBruijn64tab)], narrowed := true }
def UnixKillsUptoSaid : Prop := unixKillsUptoRow.holds Tryz.pinned (OpenSpec.upto unixKillsSpec)

/-- 'januslaw22.UnixNone', WHERE WHAT IT READS IS OF BULK AT MOST 1048576: true; the input reads as it did. -/
def unixNoneUptoRow : OpenClaim := { program := "ytkkdpbicppdglaagreatdoor", sum := "c6c8bf7c9f12f77f5b44e33fa582ed558858dbde77e987fa4b0ca53c55a344ba", func := "janus/januslaw22.UnixNone", spec := "unixNone", inPlace := ["internal/bytealg.IndexByteString", "internal/bytealg.IndexString", "internal/abi.NoEscape", "internal/bytealg.MakeNoZero"], unfollowed := true, recurses := true, named := ["math/bits.deBruijn64tab", "internal/bytealg.MaxLen"], apart := false, laid := [("math/bits.deBruijn64tab", laid_math_bits_deBruijn64tab)], narrowed := true }
def UnixNoneUptoSaid : Prop := unixNoneUptoRow.holds Tryz.pinned (OpenSpec.upto unixNoneSpec)

/-- 'januslaw28.TransBounds', WHERE WHAT IT READS IS OF BULK AT MOST 1048576: true; the input reads as it did. -/
def transBoundsUptoRow : OpenClaim := { program := "ytkkdpbicppdglaagreatdoor", sum := "c6c8bf7c9f12f77f5b44e33fa582ed558858dbde77e987fa4b0ca53c55a344ba", func := "janus/januslaw28.TransBounds", spec := "transBounds", inPlace := ["internal/bytealg.IndexByteString", "internal/bytealg.IndexString", "internal/abi.NoEscape", "internal/bytealg.MakeNoZero"], unfollowed := true, recurses := true, named := ["internal/bytealg.MaxLen", "math/bits.deBruijn64tab"], apart := false, laid := [("math/bits.deBruijn64tab", laid_math_bits_deBruijn64tab)], narrowed := true }
def TransBoundsUptoSaid : Prop := transBoundsUptoRow.holds Tryz.pinned (OpenSpec.upto transBoundsSpec)

/-- 'januslaw23.UspecNone', WHERE WHAT IT READS IS OF BULK AT MOST 1048576: true; the input reads as it did. -/
def uspecNoneUptoRow : OpenClaim := { program := "ytkkdpbicppdglaagreatdoor", sum := "c6c8bf7c9f12f77f5b44e33fa582ed558858dbde77e987fa4b0ca53c55a344ba", func := "janus/januslaw23.UspecNone", spec := "uspecNone", inPlace := ["internal/bytealg.IndexByteString", "internal/bytealg.IndexString", "internal/abi.NoEscape", "internal/bytealg.MakeNoZero", "internal/bytealg.abigen_runtime_cmpstring"], unfollowed := true, recurses := true, named := ["math/bits.deBruijn64tab", "internal/bytealg.MaxLen"], apart := false, laid := [("math/bits.deBruijn64tab", laid_math_bits_deBruijn64tab)], narrowed := true }
def UspecNoneUptoSaid : Prop := uspecNoneUptoRow.holds Tryz.pinned (OpenSpec.upto uspecNoneSpec)

end Rows
end Go.Proofs.YtkkdpbicppdglaaGreatDoor
