/- UnixKills: whatever the process and the signal, the law gives true. (Its card: the table of math/bits is as the program's text lays it.) -/
import Derived.Test.YtkkdpbicppdglaaGreatDoorCards
import Derived.Test.YtkkdpbicppdglaaGreatDoorTie
import Derived.Test.YtkkdpbicppdglaaGreatDoorMyUnixKillsL
import Derived.Test.YtkkdpbicppdglaaGreatDoorMyFactsTryz
namespace Go.Proofs.YtkkdpbicppdglaaGreatDoor
open Go.ChangeShapes Go.WideShapes Go.ChangeAt Go.RowKit Go.AM
theorem unixKills_inPlace : (Rows.unixKillsRow.inPlace == Tryz.prog.inPlace 3) = true := by kernel_rfl
theorem unixKills_unfollowed : (Rows.unixKillsRow.unfollowed == Tryz.prog.unfollowed 3) = true := by kernel_rfl
theorem unixKills_recurses : (Rows.unixKillsRow.recurses == Tryz.prog.recurses 3) = true := by kernel_rfl
theorem unixKills_named : (Rows.unixKillsRow.named == Tryz.prog.varsNamed 3) = true := by kernel_rfl
theorem unixKills_joined : joinedFacts Tryz.prog 3 Tryz.f3 Rows.unixKillsSpec Rows.unixKillsRow = true := by
  simp only [joinedFacts, Bool.and_eq_true]
  exact ⟨⟨⟨⟨⟨⟨⟨⟨⟨⟨⟨⟨⟨⟨⟨⟨⟨⟨⟨⟨⟨⟨⟨⟨⟨⟨⟨⟨⟨⟨⟨by kernel_rfl, Tryz.laidOut⟩, Tryz.mapsRowed⟩, by kernel_rfl⟩, by kernel_rfl⟩, by kernel_rfl⟩, by kernel_rfl⟩, by kernel_rfl⟩, by kernel_rfl⟩, unixKills_inPlace⟩, unixKills_unfollowed⟩, unixKills_recurses⟩, unixKills_named⟩, by kernel_rfl⟩, by kernel_rfl⟩, by kernel_rfl⟩, by kernel_rfl⟩, by kernel_rfl⟩, by kernel_rfl⟩, by kernel_rfl⟩, by kernel_rfl⟩, by kernel_rfl⟩, Tryz.plainKeys⟩, by kernel_rfl⟩, Tryz.stopsHeard⟩, Tryz.mayEnter⟩, Tryz.lifted⟩, Tryz.make⟩, by kernel_rfl⟩, by kernel_rfl⟩, by kernel_rfl⟩, by kernel_rfl⟩
theorem unixKills_holds : Rows.UnixKillsSaid :=
  OpenClaim.holds_of_wide 3 Tryz.f3 rfl rfl rfl rfl rfl rfl rfl ⟨rfl, rfl, rfl, rfl, rfl⟩ rfl rfl rfl rfl rfl (by kernel_rfl) Tryz.func3 unixKills_joined
    (of_decide_eq_true (by kernel_rfl)) (by unfold Func.isWrapper; first | (rw [if_pos (by decide +kernel)]; kernel_rfl) | (rw [if_neg (by decide +kernel)]; exact ⟨rfl, rfl⟩))
    (fun os started H enc _ => unixKills_lifted os started H enc)
end Go.Proofs.YtkkdpbicppdglaaGreatDoor
