/- Closed facts of this seat's program, each by itself: together they outgrow a process. -/
import Derived.Test.YtkkdpbicppdglaaGreatDoorRows
import Derived.ProofKit
import GoSem.ClaimSeven
namespace Go.Proofs.YtkkdpbicppdglaaGreatDoor
open Go.ChangeShapes Go.WideShapes Go.ChangeAt Go.RowKit
theorem Tryz.laidOut : laidOutB Tryz.prog = true := by kernel_rfl
theorem Tryz.mapsRowed : mapsRowed Tryz.prog = true := by kernel_rfl
theorem Tryz.plainKeys : (Rows.unixNoneRow.plainKeys == Tryz.prog.plainKeys) = true := by kernel_rfl
theorem Tryz.stopsHeard : Tryz.prog.stopsHeard = true := by kernel_rfl
theorem Tryz.mayEnter : Tryz.prog.mayEnter = true := by kernel_rfl
theorem Tryz.lifted : (Rows.unixNoneRow.lifted == Tryz.prog.liftsFinal) = true := by kernel_rfl
theorem Tryz.make : (Tryz.prog.make == some Rows.unixNoneRow.make) = true := by kernel_rfl
theorem Tryz.looks : true = Tryz.prog.looks [] := by kernel_rfl
end Go.Proofs.YtkkdpbicppdglaaGreatDoor
