/-
  DERIVED. GIVEN WITH THE SEED: THE CARDS: each row of YtmadjdgipfdnkaaDoorRows.lean that lists a variable, with what it lists TIED to the program's text (the seventh form; the later family's looks); each row that meets fmt, with fmt's text TOLD by the authors' own Lean function (tested against real Go, not proved from fmt's source: count such statements apart). THE CARD IS WHAT COUNTS. Prove the row's statement (the work); the ties are given (YtmadjdgipfdnkaaDoorTie.lean); close each card by the builder's one call (the guide's Derived/Test/ToyasCard.lean, 'card_holds'). Laid BY PROGRAM, IN A SANDBOX (cutbox-door.mjs). By AI agents, Wed Nov 11 2026. No macro, syntax, notation, axiom, sorry.
-/
import Derived.Test.YtmadjdgipfdnkaaDoorRows
import GoSem.ClaimSeven
namespace Go.Proofs.YtmadjdgipfdnkaaDoor
namespace Rows

/-- THE TIED CARD OF 'januslaw15.InodeFiles'. -/
def inodeFilesCard : Claim7 := { stood := { row := inodeFilesRow, standIns := [], harness := (true, "3cdd66552f780c30dc08e0f4faaeedf58526e7e1e8e6298768371d38afb56cf5"), looks := false }, kinds := [], alts := [], laidByText := true, laidKinds := [.data], laidTests := true, laidLooks := .later }
def InodeFilesCardSaid : Prop := Claim7.holds Tryd.pinned (.plain (OpenSpec.ofChange inodeFilesSpec)) inodeFilesCard

/-- THE TIED CARD OF 'januslaw15.InodeBounds'. -/
def inodeBoundsCard : Claim7 := { stood := { row := inodeBoundsRow, standIns := [], harness := (true, "3cdd66552f780c30dc08e0f4faaeedf58526e7e1e8e6298768371d38afb56cf5"), looks := false }, kinds := [], alts := [], laidByText := true, laidKinds := [.data], laidTests := true, laidLooks := .later }
def InodeBoundsCardSaid : Prop := Claim7.holds Tryd.pinned (.plain (OpenSpec.ofChange inodeBoundsSpec)) inodeBoundsCard

/-- THE TIED CARD OF 'januslaw15.InodeShrinks'. -/
def inodeShrinksCard : Claim7 := { stood := { row := inodeShrinksRow, standIns := [], harness := (true, "3cdd66552f780c30dc08e0f4faaeedf58526e7e1e8e6298768371d38afb56cf5"), looks := false }, kinds := [], alts := [], laidByText := true, laidKinds := [.data], laidTests := true, laidLooks := .later }
def InodeShrinksCardSaid : Prop := Claim7.holds Tryd.pinned (.plain (OpenSpec.ofChange inodeShrinksSpec)) inodeShrinksCard

/-- THE TIED CARD OF 'januslaw15.InodePuts'. -/
def inodePutsCard : Claim7 := { stood := { row := inodePutsRow, standIns := [], harness := (true, "3cdd66552f780c30dc08e0f4faaeedf58526e7e1e8e6298768371d38afb56cf5"), looks := false }, kinds := [], alts := [], laidByText := true, laidKinds := [.data], laidTests := true, laidLooks := .later }
def InodePutsCardSaid : Prop := Claim7.holds Tryd.pinned (.plain (OpenSpec.ofChange inodePutsSpec)) inodePutsCard

/-- THE TIED CARD OF 'januslaw15.InodeRoom'. -/
def inodeRoomCard : Claim7 := { stood := { row := inodeRoomRow, standIns := [], harness := (true, "3cdd66552f780c30dc08e0f4faaeedf58526e7e1e8e6298768371d38afb56cf5"), looks := false }, kinds := [], alts := [], laidByText := true, laidKinds := [.data], laidTests := true, laidLooks := .later }
def InodeRoomCardSaid : Prop := Claim7.holds Tryd.pinned (.plain (OpenSpec.ofChange inodeRoomSpec)) inodeRoomCard

/-- THE TIED CARD OF 'januslaw16.DirSplits'. -/
def dirSplitsCard : Claim7 := { stood := { row := dirSplitsRow, standIns := [], harness := (true, "3cdd66552f780c30dc08e0f4faaeedf58526e7e1e8e6298768371d38afb56cf5"), looks := false }, kinds := [], alts := [], laidByText := true, laidKinds := [.data], laidTests := true, laidLooks := .later }
def DirSplitsCardSaid : Prop := Claim7.holds Tryd.pinned (.plain (OpenSpec.ofChange dirSplitsSpec)) dirSplitsCard

/-- THE TIED CARD OF 'januslaw16.DirPaths'. -/
def dirPathsCard : Claim7 := { stood := { row := dirPathsRow, standIns := [], harness := (true, "3cdd66552f780c30dc08e0f4faaeedf58526e7e1e8e6298768371d38afb56cf5"), looks := false }, kinds := [], alts := [], laidByText := true, laidKinds := [.data], laidTests := true, laidLooks := .later }
def DirPathsCardSaid : Prop := Claim7.holds Tryd.pinned (.plain (OpenSpec.ofChange dirPathsSpec)) dirPathsCard

/-- THE TIED CARD OF 'januslaw16.DirFull'. -/
def dirFullCard : Claim7 := { stood := { row := dirFullRow, standIns := [], harness := (true, "3cdd66552f780c30dc08e0f4faaeedf58526e7e1e8e6298768371d38afb56cf5"), looks := false }, kinds := [], alts := [], laidByText := true, laidKinds := [.data], laidTests := true, laidLooks := .later }
def DirFullCardSaid : Prop := Claim7.holds Tryd.pinned (.plain (OpenSpec.ofChange dirFullSpec)) dirFullCard

/-- THE TIED CARD OF 'januslaw16.DirNames'. -/
def dirNamesCard : Claim7 := { stood := { row := dirNamesRow, standIns := [], harness := (true, "3cdd66552f780c30dc08e0f4faaeedf58526e7e1e8e6298768371d38afb56cf5"), looks := false }, kinds := [], alts := [], laidByText := true, laidKinds := [.data], laidTests := true, laidLooks := .later }
def DirNamesCardSaid : Prop := Claim7.holds Tryd.pinned (.plain (OpenSpec.ofChange dirNamesSpec)) dirNamesCard

/-- THE SECOND FORM's CARD OF 'januslaw15.InodeFiles'. -/
def inodeFilesUptoCard : Claim7 := { stood := { row := inodeFilesUptoRow, standIns := [], harness := (true, "3cdd66552f780c30dc08e0f4faaeedf58526e7e1e8e6298768371d38afb56cf5"), looks := false }, kinds := [], alts := [], laidByText := true, laidKinds := [.data], laidTests := true, laidLooks := .later }
def InodeFilesUptoCardSaid : Prop := Claim7.holds Tryd.pinned (.plain (OpenSpec.upto inodeFilesSpec)) inodeFilesUptoCard

/-- THE SECOND FORM's CARD OF 'januslaw15.InodeBounds'. -/
def inodeBoundsUptoCard : Claim7 := { stood := { row := inodeBoundsUptoRow, standIns := [], harness := (true, "3cdd66552f780c30dc08e0f4faaeedf58526e7e1e8e6298768371d38afb56cf5"), looks := false }, kinds := [], alts := [], laidByText := true, laidKinds := [.data], laidTests := true, laidLooks := .later }
def InodeBoundsUptoCardSaid : Prop := Claim7.holds Tryd.pinned (.plain (OpenSpec.upto inodeBoundsSpec)) inodeBoundsUptoCard

/-- THE SECOND FORM's CARD OF 'januslaw15.InodeShrinks'. -/
def inodeShrinksUptoCard : Claim7 := { stood := { row := inodeShrinksUptoRow, standIns := [], harness := (true, "3cdd66552f780c30dc08e0f4faaeedf58526e7e1e8e6298768371d38afb56cf5"), looks := false }, kinds := [], alts := [], laidByText := true, laidKinds := [.data], laidTests := true, laidLooks := .later }
def InodeShrinksUptoCardSaid : Prop := Claim7.holds Tryd.pinned (.plain (OpenSpec.upto inodeShrinksSpec)) inodeShrinksUptoCard

/-- THE SECOND FORM's CARD OF 'januslaw15.InodePuts'. -/
def inodePutsUptoCard : Claim7 := { stood := { row := inodePutsUptoRow, standIns := [], harness := (true, "3cdd66552f780c30dc08e0f4faaeedf58526e7e1e8e6298768371d38afb56cf5"), looks := false }, kinds := [], alts := [], laidByText := true, laidKinds := [.data], laidTests := true, laidLooks := .later }
def InodePutsUptoCardSaid : Prop := Claim7.holds Tryd.pinned (.plain (OpenSpec.upto inodePutsSpec)) inodePutsUptoCard

/-- THE SECOND FORM's CARD OF 'januslaw15.InodeRoom'. -/
def inodeRoomUptoCard : Claim7 := { stood := { row := inodeRoomUptoRow, standIns := [], harness := (true, "3cdd66552f780c30dc08e0f4faaeedf58526e7e1e8e6298768371d38afb56cf5"), looks := false }, kinds := [], alts := [], laidByText := true, laidKinds := [.data], laidTests := true, laidLooks := .later }
def InodeRoomUptoCardSaid : Prop := Claim7.holds Tryd.pinned (.plain (OpenSpec.upto inodeRoomSpec)) inodeRoomUptoCard

/-- THE SECOND FORM's CARD OF 'januslaw16.DirSplits'. -/
def dirSplitsUptoCard : Claim7 := { stood := { row := dirSplitsUptoRow, standIns := [], harness := (true, "3cdd66552f780c30dc08e0f4faaeedf58526e7e1e8e6298768371d38afb56cf5"), looks := false }, kinds := [], alts := [], laidByText := true, laidKinds := [.data], laidTests := true, laidLooks := .later }
def DirSplitsUptoCardSaid : Prop := Claim7.holds Tryd.pinned (.plain (OpenSpec.upto dirSplitsSpec)) dirSplitsUptoCard

/-- THE SECOND FORM's CARD OF 'januslaw16.DirPaths'. -/
def dirPathsUptoCard : Claim7 := { stood := { row := dirPathsUptoRow, standIns := [], harness := (true, "3cdd66552f780c30dc08e0f4faaeedf58526e7e1e8e6298768371d38afb56cf5"), looks := false }, kinds := [], alts := [], laidByText := true, laidKinds := [.data], laidTests := true, laidLooks := .later }
def DirPathsUptoCardSaid : Prop := Claim7.holds Tryd.pinned (.plain (OpenSpec.upto dirPathsSpec)) dirPathsUptoCard

/-- THE SECOND FORM's CARD OF 'januslaw16.DirFull'. -/
def dirFullUptoCard : Claim7 := { stood := { row := dirFullUptoRow, standIns := [], harness := (true, "3cdd66552f780c30dc08e0f4faaeedf58526e7e1e8e6298768371d38afb56cf5"), looks := false }, kinds := [], alts := [], laidByText := true, laidKinds := [.data], laidTests := true, laidLooks := .later }
def DirFullUptoCardSaid : Prop := Claim7.holds Tryd.pinned (.plain (OpenSpec.upto dirFullSpec)) dirFullUptoCard

/-- THE SECOND FORM's CARD OF 'januslaw16.DirNames'. -/
def dirNamesUptoCard : Claim7 := { stood := { row := dirNamesUptoRow, standIns := [], harness := (true, "3cdd66552f780c30dc08e0f4faaeedf58526e7e1e8e6298768371d38afb56cf5"), looks := false }, kinds := [], alts := [], laidByText := true, laidKinds := [.data], laidTests := true, laidLooks := .later }
def DirNamesUptoCardSaid : Prop := Claim7.holds Tryd.pinned (.plain (OpenSpec.upto dirNamesSpec)) dirNamesUptoCard
end Rows
end Go.Proofs.YtmadjdgipfdnkaaDoor
