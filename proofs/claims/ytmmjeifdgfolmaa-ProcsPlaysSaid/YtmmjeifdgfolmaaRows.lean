/-
  No cell of these rows narrows 'for every input' (looked for: loops, veiled, ifaces, maps, wideKeys, modest, calm, conditions, laid).
  DERIVED. THE GIVEN ROWS OF THIS SEAT. 9 by the template 'for every input the law returns true; each argument reads behind the call as it read before'; 0 by the template 'total and deterministic' (their statements: YtmmjeifdgfolmaaTotals.lean).
  GIVEN WITH THE SEED: the statements are not yours to turn. If you find one false, say at which input.
  Laid BY PROGRAM, IN A SANDBOX (cutbox-rows.mjs): the forced cells as the released guide's own fill.sh prints them over the translation 11888ecfc2bcef46… (all of the seat's roots in one cut). By AI agents, Wed Nov 11 2026. No macro, syntax, notation, axiom, sorry.
-/
import Derived.Test.YtmmjeifdgfolmaaChecked
import GoSem.Claim
import GoSem.ClaimJoined
import GoSem.ClaimMapViews
import Derived.JoinedTies
import Derived.KernelRfl
namespace Go.Proofs.Ytmmjeifdgfolmaa
/- THE CELL 'sum', in the pinned program and in every row, IS THE sha256 OF THE DUMP (.gsa) THAT YtmmjeifdgfolmaaProg.lean LOADS. Nothing in Lean hashes anything: it is a label: what it is worth is what the hold of that sum in a sandbox is worth. -/
noncomputable def Try.pinned : Pinned := { name := "ytmmjeifdgfolmaa", sum := "11888ecfc2bcef468b20c4bdea7516ba67c5fa5ada1c9fbc595e98af04602e6b", checked := Try.checked }
namespace Rows
def none {H : Type} : Left H := { results := [], args := [] }

/-- 'januslaw21.ProcsOrphans': WHATEVER THE INPUT: true; the input reads as it did. -/
def procsOrphansSpec : ChangeSpec := { name := "procsOrphans", fn := fun _ => fun
  | [d1, d2] => { results := [.lit (.bool true)], args := [d1, d2] }
  | _ => none }
def procsOrphansRow : OpenClaim := { program := "ytmmjeifdgfolmaa", sum := "11888ecfc2bcef468b20c4bdea7516ba67c5fa5ada1c9fbc595e98af04602e6b", func := "janus/januslaw21.ProcsOrphans", spec := "procsOrphans", apart := false }
def ProcsOrphansSaid : Prop := procsOrphansRow.holds Try.pinned (OpenSpec.ofChange procsOrphansSpec)

/-- ITS FALSE NEIGHBOUR: 'it returns false'. Refute it at one input. -/
def procsOrphansWrong : ChangeSpec := { name := "procsOrphans", fn := fun _ => fun
  | [d1, d2] => { results := [.lit (.bool false)], args := [d1, d2] }
  | _ => none }
def ProcsOrphansWrongFalsely : Prop := procsOrphansRow.holds Try.pinned (OpenSpec.ofChange procsOrphansWrong)

/-- 'januslaw21.ProcsOnce': WHATEVER THE INPUT: true; the input reads as it did. -/
def procsOnceSpec : ChangeSpec := { name := "procsOnce", fn := fun _ => fun
  | [d] => { results := [.lit (.bool true)], args := [d] }
  | _ => none }
def procsOnceRow : OpenClaim := { program := "ytmmjeifdgfolmaa", sum := "11888ecfc2bcef468b20c4bdea7516ba67c5fa5ada1c9fbc595e98af04602e6b", func := "janus/januslaw21.ProcsOnce", spec := "procsOnce", apart := false }
def ProcsOnceSaid : Prop := procsOnceRow.holds Try.pinned (OpenSpec.ofChange procsOnceSpec)

/-- ITS FALSE NEIGHBOUR: 'it returns false'. Refute it at one input. -/
def procsOnceWrong : ChangeSpec := { name := "procsOnce", fn := fun _ => fun
  | [d] => { results := [.lit (.bool false)], args := [d] }
  | _ => none }
def ProcsOnceWrongFalsely : Prop := procsOnceRow.holds Try.pinned (OpenSpec.ofChange procsOnceWrong)

/-- 'januslaw20.SignalsOnce': WHATEVER THE INPUT: true; the input reads as it did. -/
def signalsOnceSpec : ChangeSpec := { name := "signalsOnce", fn := fun _ => fun
  | [d1, d2] => { results := [.lit (.bool true)], args := [d1, d2] }
  | _ => none }
def signalsOnceRow : OpenClaim := { program := "ytmmjeifdgfolmaa", sum := "11888ecfc2bcef468b20c4bdea7516ba67c5fa5ada1c9fbc595e98af04602e6b", func := "janus/januslaw20.SignalsOnce", spec := "signalsOnce", unfollowed := true, recurses := true, apart := false }
def SignalsOnceSaid : Prop := signalsOnceRow.holds Try.pinned (OpenSpec.ofChange signalsOnceSpec)

/-- ITS FALSE NEIGHBOUR: 'it returns false'. Refute it at one input. -/
def signalsOnceWrong : ChangeSpec := { name := "signalsOnce", fn := fun _ => fun
  | [d1, d2] => { results := [.lit (.bool false)], args := [d1, d2] }
  | _ => none }
def SignalsOnceWrongFalsely : Prop := signalsOnceRow.holds Try.pinned (OpenSpec.ofChange signalsOnceWrong)

/-- 'januslaw20.SignalsHandlers': WHATEVER THE INPUT: true; the input reads as it did. -/
def signalsHandlersSpec : ChangeSpec := { name := "signalsHandlers", fn := fun _ => fun
  | [d1, d2, d3] => { results := [.lit (.bool true)], args := [d1, d2, d3] }
  | _ => none }
def signalsHandlersRow : OpenClaim := { program := "ytmmjeifdgfolmaa", sum := "11888ecfc2bcef468b20c4bdea7516ba67c5fa5ada1c9fbc595e98af04602e6b", func := "janus/januslaw20.SignalsHandlers", spec := "signalsHandlers", unfollowed := true, recurses := true, apart := false }
def SignalsHandlersSaid : Prop := signalsHandlersRow.holds Try.pinned (OpenSpec.ofChange signalsHandlersSpec)

/-- ITS FALSE NEIGHBOUR: 'it returns false'. Refute it at one input. -/
def signalsHandlersWrong : ChangeSpec := { name := "signalsHandlers", fn := fun _ => fun
  | [d1, d2, d3] => { results := [.lit (.bool false)], args := [d1, d2, d3] }
  | _ => none }
def SignalsHandlersWrongFalsely : Prop := signalsHandlersRow.holds Try.pinned (OpenSpec.ofChange signalsHandlersWrong)

/-- 'januslaw21.ProcsNone': WHATEVER THE INPUT: true; the input reads as it did. -/
def procsNoneSpec : ChangeSpec := { name := "procsNone", fn := fun _ => fun
  | [d] => { results := [.lit (.bool true)], args := [d] }
  | _ => none }
def procsNoneRow : OpenClaim := { program := "ytmmjeifdgfolmaa", sum := "11888ecfc2bcef468b20c4bdea7516ba67c5fa5ada1c9fbc595e98af04602e6b", func := "janus/januslaw21.ProcsNone", spec := "procsNone", apart := false }
def ProcsNoneSaid : Prop := procsNoneRow.holds Try.pinned (OpenSpec.ofChange procsNoneSpec)

/-- ITS FALSE NEIGHBOUR: 'it returns false'. Refute it at one input. -/
def procsNoneWrong : ChangeSpec := { name := "procsNone", fn := fun _ => fun
  | [d] => { results := [.lit (.bool false)], args := [d] }
  | _ => none }
def ProcsNoneWrongFalsely : Prop := procsNoneRow.holds Try.pinned (OpenSpec.ofChange procsNoneWrong)

/-- 'januslaw21.ProcsReads': WHATEVER THE INPUT: true; the input reads as it did. -/
def procsReadsSpec : ChangeSpec := { name := "procsReads", fn := fun _ => fun
  | [d] => { results := [.lit (.bool true)], args := [d] }
  | _ => none }
def procsReadsRow : OpenClaim := { program := "ytmmjeifdgfolmaa", sum := "11888ecfc2bcef468b20c4bdea7516ba67c5fa5ada1c9fbc595e98af04602e6b", func := "janus/januslaw21.ProcsReads", spec := "procsReads", apart := false }
def ProcsReadsSaid : Prop := procsReadsRow.holds Try.pinned (OpenSpec.ofChange procsReadsSpec)

/-- ITS FALSE NEIGHBOUR: 'it returns false'. Refute it at one input. -/
def procsReadsWrong : ChangeSpec := { name := "procsReads", fn := fun _ => fun
  | [d] => { results := [.lit (.bool false)], args := [d] }
  | _ => none }
def ProcsReadsWrongFalsely : Prop := procsReadsRow.holds Try.pinned (OpenSpec.ofChange procsReadsWrong)

/-- 'januslaw21.ProcsPlays': WHATEVER THE INPUT: true; the input reads as it did. -/
def procsPlaysSpec : ChangeSpec := { name := "procsPlays", fn := fun _ => fun
  | [d1, d2] => { results := [.lit (.bool true)], args := [d1, d2] }
  | _ => none }
def procsPlaysRow : OpenClaim := { program := "ytmmjeifdgfolmaa", sum := "11888ecfc2bcef468b20c4bdea7516ba67c5fa5ada1c9fbc595e98af04602e6b", func := "janus/januslaw21.ProcsPlays", spec := "procsPlays", apart := false }
def ProcsPlaysSaid : Prop := procsPlaysRow.holds Try.pinned (OpenSpec.ofChange procsPlaysSpec)

/-- ITS FALSE NEIGHBOUR: 'it returns false'. Refute it at one input. -/
def procsPlaysWrong : ChangeSpec := { name := "procsPlays", fn := fun _ => fun
  | [d1, d2] => { results := [.lit (.bool false)], args := [d1, d2] }
  | _ => none }
def ProcsPlaysWrongFalsely : Prop := procsPlaysRow.holds Try.pinned (OpenSpec.ofChange procsPlaysWrong)

/-- 'januslaw20.SignalsNone': WHATEVER THE INPUT: true; the input reads as it did. -/
def signalsNoneSpec : ChangeSpec := { name := "signalsNone", fn := fun _ => fun
  | [d] => { results := [.lit (.bool true)], args := [d] }
  | _ => none }
def signalsNoneRow : OpenClaim := { program := "ytmmjeifdgfolmaa", sum := "11888ecfc2bcef468b20c4bdea7516ba67c5fa5ada1c9fbc595e98af04602e6b", func := "janus/januslaw20.SignalsNone", spec := "signalsNone", unfollowed := true, recurses := true, apart := false }
def SignalsNoneSaid : Prop := signalsNoneRow.holds Try.pinned (OpenSpec.ofChange signalsNoneSpec)

/-- ITS FALSE NEIGHBOUR: 'it returns false'. Refute it at one input. -/
def signalsNoneWrong : ChangeSpec := { name := "signalsNone", fn := fun _ => fun
  | [d] => { results := [.lit (.bool false)], args := [d] }
  | _ => none }
def SignalsNoneWrongFalsely : Prop := signalsNoneRow.holds Try.pinned (OpenSpec.ofChange signalsNoneWrong)

/-- 'januslaw20.SignalsReads': WHATEVER THE INPUT: true; the input reads as it did. -/
def signalsReadsSpec : ChangeSpec := { name := "signalsReads", fn := fun _ => fun
  | [d] => { results := [.lit (.bool true)], args := [d] }
  | _ => none }
def signalsReadsRow : OpenClaim := { program := "ytmmjeifdgfolmaa", sum := "11888ecfc2bcef468b20c4bdea7516ba67c5fa5ada1c9fbc595e98af04602e6b", func := "janus/januslaw20.SignalsReads", spec := "signalsReads", unfollowed := true, recurses := true, apart := false }
def SignalsReadsSaid : Prop := signalsReadsRow.holds Try.pinned (OpenSpec.ofChange signalsReadsSpec)

/-- ITS FALSE NEIGHBOUR: 'it returns false'. Refute it at one input. -/
def signalsReadsWrong : ChangeSpec := { name := "signalsReads", fn := fun _ => fun
  | [d] => { results := [.lit (.bool false)], args := [d] }
  | _ => none }
def SignalsReadsWrongFalsely : Prop := signalsReadsRow.holds Try.pinned (OpenSpec.ofChange signalsReadsWrong)

/- THE SECOND FORM. 'bulk': how many values and letters a reading holds, each counted each time it is reached (what is shared counts as often as it is met; a slice's spare places count too). A statement '..UptoSaid' is the law's where the arguments, and the package variables that the reading takes, are together of bulk at most 1048576: NARROWER than '..Said'. Prove '..Said' where nothing that the law and all that it calls make is longer than what came in: it says more and counts as full. Else prove '..UptoSaid'. A law counts once. -/
mutual
def uptoBulk {H : Type} : DataW H → Nat
  | .lit (.string bytes) => bytes.length + 1
  | .lit _ => 1
  | .nil => 1
  | .ptr d => uptoBulk d + 1
  | .slice elems spare => uptoBulkAll elems + uptoBulkAll spare + 1
  | .agg parts => uptoBulkAll parts + 1
  | .iface _ d => uptoBulk d + 1
  | .map entries => uptoBulkEntries entries + 1
  | .held _ => 1
def uptoBulkAll {H : Type} : List (DataW H) → Nat
  | [] => 0
  | d :: r => uptoBulk d + uptoBulkAll r
def uptoBulkEntries {H : Type} : List (Lit × DataW H) → Nat
  | [] => 0
  | x :: r => uptoBulkEntry x + uptoBulkEntries r
def uptoBulkEntry {H : Type} : Lit × DataW H → Nat
  | (.string bytes, d) => bytes.length + uptoBulk d + 1
  | (_, d) => uptoBulk d + 1
 end
def uptoSmall : (H : Type) → List (DataW H) → Bool := fun _ ds => decide (uptoBulkAll ds ≤ 1048576)
def OpenSpec.upto (s : _root_.Go.ChangeSpec) : _root_.Go.OpenSpec := { _root_.Go.OpenSpec.ofChange s with cond := some uptoSmall }

/-- 'januslaw21.ProcsOrphans', WHERE WHAT IT READS IS OF BULK AT MOST 1048576: true; the input reads as it did. -/
def procsOrphansUptoRow : OpenClaim := { program := "ytmmjeifdgfolmaa", sum := "11888ecfc2bcef468b20c4bdea7516ba67c5fa5ada1c9fbc595e98af04602e6b", func := "janus/januslaw21.ProcsOrphans", spec := "procsOrphans", apart := false, narrowed := true }
def ProcsOrphansUptoSaid : Prop := procsOrphansUptoRow.holds Try.pinned (OpenSpec.upto procsOrphansSpec)

/-- 'januslaw21.ProcsOnce', WHERE WHAT IT READS IS OF BULK AT MOST 1048576: true; the input reads as it did. -/
def procsOnceUptoRow : OpenClaim := { program := "ytmmjeifdgfolmaa", sum := "11888ecfc2bcef468b20c4bdea7516ba67c5fa5ada1c9fbc595e98af04602e6b", func := "janus/januslaw21.ProcsOnce", spec := "procsOnce", apart := false, narrowed := true }
def ProcsOnceUptoSaid : Prop := procsOnceUptoRow.holds Try.pinned (OpenSpec.upto procsOnceSpec)

/-- 'januslaw20.SignalsOnce', WHERE WHAT IT READS IS OF BULK AT MOST 1048576: true; the input reads as it did. -/
def signalsOnceUptoRow : OpenClaim := { program := "ytmmjeifdgfolmaa", sum := "11888ecfc2bcef468b20c4bdea7516ba67c5fa5ada1c9fbc595e98af04602e6b", func := "janus/januslaw20.SignalsOnce", spec := "signalsOnce", unfollowed := true, recurses := true, apart := false, narrowed := true }
def SignalsOnceUptoSaid : Prop := signalsOnceUptoRow.holds Try.pinned (OpenSpec.upto signalsOnceSpec)

/-- 'januslaw20.SignalsHandlers', WHERE WHAT IT READS IS OF BULK AT MOST 1048576: true; the input reads as it did. -/
def signalsHandlersUptoRow : OpenClaim := { program := "ytmmjeifdgfolmaa", sum := "11888ecfc2bcef468b20c4bdea7516ba67c5fa5ada1c9fbc595e98af04602e6b", func := "janus/januslaw20.SignalsHandlers", spec := "signalsHandlers", unfollowed := true, recurses := true, apart := false, narrowed := true }
def SignalsHandlersUptoSaid : Prop := signalsHandlersUptoRow.holds Try.pinned (OpenSpec.upto signalsHandlersSpec)

/-- 'januslaw21.ProcsNone', WHERE WHAT IT READS IS OF BULK AT MOST 1048576: true; the input reads as it did. -/
def procsNoneUptoRow : OpenClaim := { program := "ytmmjeifdgfolmaa", sum := "11888ecfc2bcef468b20c4bdea7516ba67c5fa5ada1c9fbc595e98af04602e6b", func := "janus/januslaw21.ProcsNone", spec := "procsNone", apart := false, narrowed := true }
def ProcsNoneUptoSaid : Prop := procsNoneUptoRow.holds Try.pinned (OpenSpec.upto procsNoneSpec)

/-- 'januslaw21.ProcsReads', WHERE WHAT IT READS IS OF BULK AT MOST 1048576: true; the input reads as it did. -/
def procsReadsUptoRow : OpenClaim := { program := "ytmmjeifdgfolmaa", sum := "11888ecfc2bcef468b20c4bdea7516ba67c5fa5ada1c9fbc595e98af04602e6b", func := "janus/januslaw21.ProcsReads", spec := "procsReads", apart := false, narrowed := true }
def ProcsReadsUptoSaid : Prop := procsReadsUptoRow.holds Try.pinned (OpenSpec.upto procsReadsSpec)

/-- 'januslaw21.ProcsPlays', WHERE WHAT IT READS IS OF BULK AT MOST 1048576: true; the input reads as it did. -/
def procsPlaysUptoRow : OpenClaim := { program := "ytmmjeifdgfolmaa", sum := "11888ecfc2bcef468b20c4bdea7516ba67c5fa5ada1c9fbc595e98af04602e6b", func := "janus/januslaw21.ProcsPlays", spec := "procsPlays", apart := false, narrowed := true }
def ProcsPlaysUptoSaid : Prop := procsPlaysUptoRow.holds Try.pinned (OpenSpec.upto procsPlaysSpec)

/-- 'januslaw20.SignalsNone', WHERE WHAT IT READS IS OF BULK AT MOST 1048576: true; the input reads as it did. -/
def signalsNoneUptoRow : OpenClaim := { program := "ytmmjeifdgfolmaa", sum := "11888ecfc2bcef468b20c4bdea7516ba67c5fa5ada1c9fbc595e98af04602e6b", func := "janus/januslaw20.SignalsNone", spec := "signalsNone", unfollowed := true, recurses := true, apart := false, narrowed := true }
def SignalsNoneUptoSaid : Prop := signalsNoneUptoRow.holds Try.pinned (OpenSpec.upto signalsNoneSpec)

/-- 'januslaw20.SignalsReads', WHERE WHAT IT READS IS OF BULK AT MOST 1048576: true; the input reads as it did. -/
def signalsReadsUptoRow : OpenClaim := { program := "ytmmjeifdgfolmaa", sum := "11888ecfc2bcef468b20c4bdea7516ba67c5fa5ada1c9fbc595e98af04602e6b", func := "janus/januslaw20.SignalsReads", spec := "signalsReads", unfollowed := true, recurses := true, apart := false, narrowed := true }
def SignalsReadsUptoSaid : Prop := signalsReadsUptoRow.holds Try.pinned (OpenSpec.upto signalsReadsSpec)

end Rows
end Go.Proofs.Ytmmjeifdgfolmaa
