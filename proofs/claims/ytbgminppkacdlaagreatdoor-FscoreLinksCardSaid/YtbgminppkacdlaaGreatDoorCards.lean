/-
  DERIVED. GIVEN WITH THE SEED: THE CARDS: each row of YtbgminppkacdlaaGreatDoorRows.lean that lists a variable, with what it lists TIED to the program's text (the seventh form; the later family's looks); each row that meets fmt, with fmt's text TOLD by the authors' own Lean function (tested against real Go, not proved from fmt's source: count such statements apart). THE CARD IS WHAT COUNTS. Prove the row's statement (the work); the ties are given (YtbgminppkacdlaaGreatDoorTie.lean); close each card by the builder's one call (the guide's Derived/Test/ToyasCard.lean, 'card_holds'). Laid BY PROGRAM, IN A SANDBOX (cutbox-door.mjs). By AI agents, Wed Nov 11 2026. No macro, syntax, notation, axiom, sorry.
-/
import Derived.Test.YtbgminppkacdlaaGreatDoorRows
import GoSem.ClaimSeven
namespace Go.Proofs.YtbgminppkacdlaaGreatDoor
namespace Rows

/-- THE TIED CARD OF 'januslaw17.FscoreLinks'. -/
def fscoreLinksCard : Claim7 := { stood := { row := fscoreLinksRow, standIns := [], harness := (true, "c824c3d83be50f609529fa52f510e2b128508124668d4f768e1b3f67ffd4c209"), looks := true }, kinds := [], alts := [], laidByText := true, laidKinds := [.data], laidTests := true, laidLooks := .later }
def FscoreLinksCardSaid : Prop := Claim7.holds Tryz.pinned (.plain (OpenSpec.ofChange fscoreLinksSpec)) fscoreLinksCard

/-- THE TIED CARD OF 'januslaw17.FscoreRenames'. -/
def fscoreRenamesCard : Claim7 := { stood := { row := fscoreRenamesRow, standIns := [], harness := (true, "c824c3d83be50f609529fa52f510e2b128508124668d4f768e1b3f67ffd4c209"), looks := true }, kinds := [], alts := [], laidByText := true, laidKinds := [.data], laidTests := true, laidLooks := .later }
def FscoreRenamesCardSaid : Prop := Claim7.holds Tryz.pinned (.plain (OpenSpec.ofChange fscoreRenamesSpec)) fscoreRenamesCard

/-- THE TIED CARD OF 'januslaw17.FscoreOpen'. -/
def fscoreOpenCard : Claim7 := { stood := { row := fscoreOpenRow, standIns := [], harness := (true, "c824c3d83be50f609529fa52f510e2b128508124668d4f768e1b3f67ffd4c209"), looks := true }, kinds := [], alts := [], laidByText := true, laidKinds := [.data], laidTests := true, laidLooks := .later }
def FscoreOpenCardSaid : Prop := Claim7.holds Tryz.pinned (.plain (OpenSpec.ofChange fscoreOpenSpec)) fscoreOpenCard

/-- THE SECOND FORM's CARD OF 'januslaw17.FscoreLinks'. -/
def fscoreLinksUptoCard : Claim7 := { stood := { row := fscoreLinksUptoRow, standIns := [], harness := (true, "c824c3d83be50f609529fa52f510e2b128508124668d4f768e1b3f67ffd4c209"), looks := true }, kinds := [], alts := [], laidByText := true, laidKinds := [.data], laidTests := true, laidLooks := .later }
def FscoreLinksUptoCardSaid : Prop := Claim7.holds Tryz.pinned (.plain (OpenSpec.upto fscoreLinksSpec)) fscoreLinksUptoCard

/-- THE SECOND FORM's CARD OF 'januslaw17.FscoreRenames'. -/
def fscoreRenamesUptoCard : Claim7 := { stood := { row := fscoreRenamesUptoRow, standIns := [], harness := (true, "c824c3d83be50f609529fa52f510e2b128508124668d4f768e1b3f67ffd4c209"), looks := true }, kinds := [], alts := [], laidByText := true, laidKinds := [.data], laidTests := true, laidLooks := .later }
def FscoreRenamesUptoCardSaid : Prop := Claim7.holds Tryz.pinned (.plain (OpenSpec.upto fscoreRenamesSpec)) fscoreRenamesUptoCard

/-- THE SECOND FORM's CARD OF 'januslaw17.FscoreOpen'. -/
def fscoreOpenUptoCard : Claim7 := { stood := { row := fscoreOpenUptoRow, standIns := [], harness := (true, "c824c3d83be50f609529fa52f510e2b128508124668d4f768e1b3f67ffd4c209"), looks := true }, kinds := [], alts := [], laidByText := true, laidKinds := [.data], laidTests := true, laidLooks := .later }
def FscoreOpenUptoCardSaid : Prop := Claim7.holds Tryz.pinned (.plain (OpenSpec.upto fscoreOpenSpec)) fscoreOpenUptoCard
end Rows
end Go.Proofs.YtbgminppkacdlaaGreatDoor
