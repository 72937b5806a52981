/- UnixNone: whatever the deed, the law gives true, and leaves its argument as it was. (Its card: the table of math/bits is as the program's text lays it.) -/
import Derived.Test.YtkkdpbicppdglaaGreatDoorCards
import Derived.Test.YtkkdpbicppdglaaGreatDoorTie
import Derived.Test.YtkkdpbicppdglaaGreatDoorMyUnixNoneL
import Derived.Test.YtkkdpbicppdglaaGreatDoorMyFactsTryz
namespace Go.Proofs.YtkkdpbicppdglaaGreatDoor
open Go.ChangeShapes Go.WideShapes Go.ChangeAt Go.RowKit Go.AM
theorem unixNone_inPlace : (Rows.unixNoneRow.inPlace == Tryz.prog.inPlace 4) = true := by kernel_rfl
theorem unixNone_unfollowed : (Rows.unixNoneRow.unfollowed == Tryz.prog.unfollowed 4) = true := by kernel_rfl
theorem unixNone_recurses : (Rows.unixNoneRow.recurses == Tryz.prog.recurses 4) = true := by kernel_rfl
theorem unixNone_named : (Rows.unixNoneRow.named == Tryz.prog.varsNamed 4) = true := by kernel_rfl
theorem unixNone_joined : joinedFacts Tryz.prog 4 Tryz.f4 Rows.unixNoneSpec Rows.unixNoneRow = true := by
  simp only [joinedFacts, Bool.and_eq_true]
  exact ⟨⟨⟨⟨⟨⟨⟨⟨⟨⟨⟨⟨⟨⟨⟨⟨⟨⟨⟨⟨⟨⟨⟨⟨⟨⟨⟨⟨⟨⟨⟨by kernel_rfl, Tryz.laidOut⟩, Tryz.mapsRowed⟩, by kernel_rfl⟩, by kernel_rfl⟩, by kernel_rfl⟩, by kernel_rfl⟩, by kernel_rfl⟩, by kernel_rfl⟩, unixNone_inPlace⟩, unixNone_unfollowed⟩, unixNone_recurses⟩, unixNone_named⟩, by kernel_rfl⟩, by kernel_rfl⟩, by kernel_rfl⟩, by kernel_rfl⟩, by kernel_rfl⟩, by kernel_rfl⟩, by kernel_rfl⟩, by kernel_rfl⟩, by kernel_rfl⟩, Tryz.plainKeys⟩, by kernel_rfl⟩, Tryz.stopsHeard⟩, Tryz.mayEnter⟩, Tryz.lifted⟩, Tryz.make⟩, by kernel_rfl⟩, by kernel_rfl⟩, by kernel_rfl⟩, by kernel_rfl⟩
theorem unixNone_holds : Rows.UnixNoneSaid :=
  OpenClaim.holds_of_wide 4 Tryz.f4 rfl rfl rfl rfl rfl rfl rfl ⟨rfl, rfl, rfl, rfl, rfl⟩ rfl rfl rfl rfl rfl (by kernel_rfl) Tryz.func4 unixNone_joined
    (of_decide_eq_true (by kernel_rfl)) (by unfold Func.isWrapper; first | (rw [if_pos (by decide +kernel)]; kernel_rfl) | (rw [if_neg (by decide +kernel)]; exact ⟨rfl, rfl⟩))
    (fun os started H enc _ => unixNone_lifted os started H enc)
end Go.Proofs.YtkkdpbicppdglaaGreatDoor
