/-
  DERIVED. GIVEN WITH THE SEED: THE CARDS: each row of YtkkdpbicppdglaaGreatDoorRows.lean that lists a variable, with what it lists TIED to the program's text (the seventh form; the later family's looks); each row that meets fmt, with fmt's text TOLD by the authors' own Lean function (tested against real Go, not proved from fmt's source: count such statements apart). THE CARD IS WHAT COUNTS. Prove the row's statement (the work); the ties are given (YtkkdpbicppdglaaGreatDoorTie.lean); close each card by the builder's one call (the guide's Derived/Test/ToyasCard.lean, 'card_holds'). Laid BY PROGRAM, IN A SANDBOX (cutbox-door.mjs). By AI agents, Wed Nov 11 2026. No macro, syntax, notation, axiom, sorry.
-/
import Derived.Test.YtkkdpbicppdglaaGreatDoorRows
import GoSem.ClaimSeven
namespace Go.Proofs.YtkkdpbicppdglaaGreatDoor
namespace Rows

/-- THE TIED CARD OF 'januslaw22.UnixKills'. -/
def unixKillsCard : Claim7 := { stood := { row := unixKillsRow, standIns := [], harness := (true, "0d56cdc04e4d55dbe69738f15fddf860b6639bdc2aad11bb538e390606457b59"), looks := true }, kinds := [], alts := [], laidByText := true, laidKinds := [.data], laidTests := true, laidLooks := .later }
def UnixKillsCardSaid : Prop := Claim7.holds Tryz.pinned (.plain (OpenSpec.ofChange unixKillsSpec)) unixKillsCard

/-- THE TIED CARD OF 'januslaw22.UnixNone'. -/
def unixNoneCard : Claim7 := { stood := { row := unixNoneRow, standIns := [], harness := (true, "0d56cdc04e4d55dbe69738f15fddf860b6639bdc2aad11bb538e390606457b59"), looks := true }, kinds := [], alts := [], laidByText := true, laidKinds := [.data], laidTests := true, laidLooks := .later }
def UnixNoneCardSaid : Prop := Claim7.holds Tryz.pinned (.plain (OpenSpec.ofChange unixNoneSpec)) unixNoneCard

/-- THE TIED CARD OF 'januslaw28.TransBounds'. -/
def transBoundsCard : Claim7 := { stood := { row := transBoundsRow, standIns := [], harness := (true, "0d56cdc04e4d55dbe69738f15fddf860b6639bdc2aad11bb538e390606457b59"), looks := true }, kinds := [], alts := [], laidByText := true, laidKinds := [.data], laidTests := true, laidLooks := .later }
def TransBoundsCardSaid : Prop := Claim7.holds Tryz.pinned (.plain (OpenSpec.ofChange transBoundsSpec)) transBoundsCard

/-- THE TIED CARD OF 'januslaw23.UspecNone'. -/
def uspecNoneCard : Claim7 := { stood := { row := uspecNoneRow, standIns := [], harness := (true, "0d56cdc04e4d55dbe69738f15fddf860b6639bdc2aad11bb538e390606457b59"), looks := true }, kinds := [], alts := [], laidByText := true, laidKinds := [.data], laidTests := true, laidLooks := .later }
def UspecNoneCardSaid : Prop := Claim7.holds Tryz.pinned (.plain (OpenSpec.ofChange uspecNoneSpec)) uspecNoneCard

/-- THE SECOND FORM's CARD OF 'januslaw22.UnixKills'. -/
def unixKillsUptoCard : Claim7 := { stood := { row := unixKillsUptoRow, standIns := [], harness := (true, "0d56cdc04e4d55dbe69738f15fddf860b6639bdc2aad11bb538e390606457b59"), looks := true }, kinds := [], alts := [], laidByText := true, laidKinds := [.data], laidTests := true, laidLooks := .later }
def UnixKillsUptoCardSaid : Prop := Claim7.holds Tryz.pinned (.plain (OpenSpec.upto unixKillsSpec)) unixKillsUptoCard

/-- THE SECOND FORM's CARD OF 'januslaw22.UnixNone'. -/
def unixNoneUptoCard : Claim7 := { stood := { row := unixNoneUptoRow, standIns := [], harness := (true, "0d56cdc04e4d55dbe69738f15fddf860b6639bdc2aad11bb538e390606457b59"), looks := true }, kinds := [], alts := [], laidByText := true, laidKinds := [.data], laidTests := true, laidLooks := .later }
def UnixNoneUptoCardSaid : Prop := Claim7.holds Tryz.pinned (.plain (OpenSpec.upto unixNoneSpec)) unixNoneUptoCard

/-- THE SECOND FORM's CARD OF 'januslaw28.TransBounds'. -/
def transBoundsUptoCard : Claim7 := { stood := { row := transBoundsUptoRow, standIns := [], harness := (true, "0d56cdc04e4d55dbe69738f15fddf860b6639bdc2aad11bb538e390606457b59"), looks := true }, kinds := [], alts := [], laidByText := true, laidKinds := [.data], laidTests := true, laidLooks := .later }
def TransBoundsUptoCardSaid : Prop := Claim7.holds Tryz.pinned (.plain (OpenSpec.upto transBoundsSpec)) transBoundsUptoCard

/-- THE SECOND FORM's CARD OF 'januslaw23.UspecNone'. -/
def uspecNoneUptoCard : Claim7 := { stood := { row := uspecNoneUptoRow, standIns := [], harness := (true, "0d56cdc04e4d55dbe69738f15fddf860b6639bdc2aad11bb538e390606457b59"), looks := true }, kinds := [], alts := [], laidByText := true, laidKinds := [.data], laidTests := true, laidLooks := .later }
def UspecNoneUptoCardSaid : Prop := Claim7.holds Tryz.pinned (.plain (OpenSpec.upto uspecNoneSpec)) uspecNoneUptoCard
end Rows
end Go.Proofs.YtkkdpbicppdglaaGreatDoor
