/-
  DERIVED. GIVEN WITH THE SEED: THE CARDS: each row of YtgdbknbgpkmncaaGreatDoorRows.lean that lists a variable, with what it lists TIED to the program's text (the seventh form; the later family's looks); each row that meets fmt, with fmt's text TOLD by the authors' own Lean function (tested against real Go, not proved from fmt's source: count such statements apart). THE CARD IS WHAT COUNTS. Prove the row's statement (the work); the ties are given (YtgdbknbgpkmncaaGreatDoorTie.lean); close each card by the builder's one call (the guide's Derived/Test/ToyasCard.lean, 'card_holds'). Laid BY PROGRAM, IN A SANDBOX (cutbox-door.mjs). By AI agents, Wed Nov 11 2026. No macro, syntax, notation, axiom, sorry.
-/
import Derived.Test.YtgdbknbgpkmncaaGreatDoorRows
import GoSem.ClaimSeven
namespace Go.Proofs.YtgdbknbgpkmncaaGreatDoor
namespace Rows

/-- THE TIED CARD OF 'januslaw16.DirPlays'. -/
def dirPlaysCard : Claim7 := { stood := { row := dirPlaysRow, standIns := [], harness := (true, "cdeab5956b596ede5e3fc3e849396d632c1747e8360fe233d98d7033ab3cd1a1"), looks := true }, kinds := [], alts := [], laidByText := true, laidKinds := [.data], laidTests := true, laidLooks := .later }
def DirPlaysCardSaid : Prop := Claim7.holds Tryz.pinned (.plain (OpenSpec.ofChange dirPlaysSpec)) dirPlaysCard

/-- THE TIED CARD OF 'januslaw17.FscoreMakes'. -/
def fscoreMakesCard : Claim7 := { stood := { row := fscoreMakesRow, standIns := [], harness := (true, "cdeab5956b596ede5e3fc3e849396d632c1747e8360fe233d98d7033ab3cd1a1"), looks := true }, kinds := [], alts := [], laidByText := true, laidKinds := [.data], laidTests := true, laidLooks := .later }
def FscoreMakesCardSaid : Prop := Claim7.holds Tryz.pinned (.plain (OpenSpec.ofChange fscoreMakesSpec)) fscoreMakesCard

/-- THE TIED CARD OF 'januslaw17.FscorePlays'. -/
def fscorePlaysCard : Claim7 := { stood := { row := fscorePlaysRow, standIns := [], harness := (true, "cdeab5956b596ede5e3fc3e849396d632c1747e8360fe233d98d7033ab3cd1a1"), looks := true }, kinds := [], alts := [], laidByText := true, laidKinds := [.data], laidTests := true, laidLooks := .later }
def FscorePlaysCardSaid : Prop := Claim7.holds Tryz.pinned (.plain (OpenSpec.ofChange fscorePlaysSpec)) fscorePlaysCard

/-- THE TIED CARD OF 'januslaw22.UnixPipes'. -/
def unixPipesCard : Claim7 := { stood := { row := unixPipesRow, standIns := [], harness := (true, "cdeab5956b596ede5e3fc3e849396d632c1747e8360fe233d98d7033ab3cd1a1"), looks := true }, kinds := [], alts := [], laidByText := true, laidKinds := [.data], laidTests := true, laidLooks := .later }
def UnixPipesCardSaid : Prop := Claim7.holds Tryz.pinned (.plain (OpenSpec.ofChange unixPipesSpec)) unixPipesCard

/-- THE TIED CARD OF 'januslaw22.UnixForks'. -/
def unixForksCard : Claim7 := { stood := { row := unixForksRow, standIns := [], harness := (true, "cdeab5956b596ede5e3fc3e849396d632c1747e8360fe233d98d7033ab3cd1a1"), looks := true }, kinds := [], alts := [], laidByText := true, laidKinds := [.data], laidTests := true, laidLooks := .later }
def UnixForksCardSaid : Prop := Claim7.holds Tryz.pinned (.plain (OpenSpec.ofChange unixForksSpec)) unixForksCard

/-- THE TIED CARD OF 'januslaw22.UnixReads'. -/
def unixReadsCard : Claim7 := { stood := { row := unixReadsRow, standIns := [], harness := (true, "cdeab5956b596ede5e3fc3e849396d632c1747e8360fe233d98d7033ab3cd1a1"), looks := true }, kinds := [], alts := [], laidByText := true, laidKinds := [.data], laidTests := true, laidLooks := .later }
def UnixReadsCardSaid : Prop := Claim7.holds Tryz.pinned (.plain (OpenSpec.ofChange unixReadsSpec)) unixReadsCard

/-- THE SECOND FORM's CARD OF 'januslaw16.DirPlays'. -/
def dirPlaysUptoCard : Claim7 := { stood := { row := dirPlaysUptoRow, standIns := [], harness := (true, "cdeab5956b596ede5e3fc3e849396d632c1747e8360fe233d98d7033ab3cd1a1"), looks := true }, kinds := [], alts := [], laidByText := true, laidKinds := [.data], laidTests := true, laidLooks := .later }
def DirPlaysUptoCardSaid : Prop := Claim7.holds Tryz.pinned (.plain (OpenSpec.upto dirPlaysSpec)) dirPlaysUptoCard

/-- THE SECOND FORM's CARD OF 'januslaw17.FscoreMakes'. -/
def fscoreMakesUptoCard : Claim7 := { stood := { row := fscoreMakesUptoRow, standIns := [], harness := (true, "cdeab5956b596ede5e3fc3e849396d632c1747e8360fe233d98d7033ab3cd1a1"), looks := true }, kinds := [], alts := [], laidByText := true, laidKinds := [.data], laidTests := true, laidLooks := .later }
def FscoreMakesUptoCardSaid : Prop := Claim7.holds Tryz.pinned (.plain (OpenSpec.upto fscoreMakesSpec)) fscoreMakesUptoCard

/-- THE SECOND FORM's CARD OF 'januslaw17.FscorePlays'. -/
def fscorePlaysUptoCard : Claim7 := { stood := { row := fscorePlaysUptoRow, standIns := [], harness := (true, "cdeab5956b596ede5e3fc3e849396d632c1747e8360fe233d98d7033ab3cd1a1"), looks := true }, kinds := [], alts := [], laidByText := true, laidKinds := [.data], laidTests := true, laidLooks := .later }
def FscorePlaysUptoCardSaid : Prop := Claim7.holds Tryz.pinned (.plain (OpenSpec.upto fscorePlaysSpec)) fscorePlaysUptoCard

/-- THE SECOND FORM's CARD OF 'januslaw22.UnixPipes'. -/
def unixPipesUptoCard : Claim7 := { stood := { row := unixPipesUptoRow, standIns := [], harness := (true, "cdeab5956b596ede5e3fc3e849396d632c1747e8360fe233d98d7033ab3cd1a1"), looks := true }, kinds := [], alts := [], laidByText := true, laidKinds := [.data], laidTests := true, laidLooks := .later }
def UnixPipesUptoCardSaid : Prop := Claim7.holds Tryz.pinned (.plain (OpenSpec.upto unixPipesSpec)) unixPipesUptoCard

/-- THE SECOND FORM's CARD OF 'januslaw22.UnixForks'. -/
def unixForksUptoCard : Claim7 := { stood := { row := unixForksUptoRow, standIns := [], harness := (true, "cdeab5956b596ede5e3fc3e849396d632c1747e8360fe233d98d7033ab3cd1a1"), looks := true }, kinds := [], alts := [], laidByText := true, laidKinds := [.data], laidTests := true, laidLooks := .later }
def UnixForksUptoCardSaid : Prop := Claim7.holds Tryz.pinned (.plain (OpenSpec.upto unixForksSpec)) unixForksUptoCard

/-- THE SECOND FORM's CARD OF 'januslaw22.UnixReads'. -/
def unixReadsUptoCard : Claim7 := { stood := { row := unixReadsUptoRow, standIns := [], harness := (true, "cdeab5956b596ede5e3fc3e849396d632c1747e8360fe233d98d7033ab3cd1a1"), looks := true }, kinds := [], alts := [], laidByText := true, laidKinds := [.data], laidTests := true, laidLooks := .later }
def UnixReadsUptoCardSaid : Prop := Claim7.holds Tryz.pinned (.plain (OpenSpec.upto unixReadsSpec)) unixReadsUptoCard
end Rows
end Go.Proofs.YtgdbknbgpkmncaaGreatDoor
