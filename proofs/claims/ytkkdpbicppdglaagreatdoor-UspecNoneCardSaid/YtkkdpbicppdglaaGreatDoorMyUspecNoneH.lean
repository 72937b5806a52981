/- UspecNone: whatever the pick, the law gives true. (Its card: the table of math/bits is as the program's text lays it.) -/
import Derived.Test.YtkkdpbicppdglaaGreatDoorCards
import Derived.Test.YtkkdpbicppdglaaGreatDoorTie
import Derived.Test.YtkkdpbicppdglaaGreatDoorMyUspecNoneL
import Derived.Test.YtkkdpbicppdglaaGreatDoorMyFactsTryz
namespace Go.Proofs.YtkkdpbicppdglaaGreatDoor
open Go.ChangeShapes Go.WideShapes Go.ChangeAt Go.RowKit Go.AM
theorem uspecNone_inPlace : (Rows.uspecNoneRow.inPlace == Tryz.prog.inPlace 6) = true := by kernel_rfl
theorem uspecNone_unfollowed : (Rows.uspecNoneRow.unfollowed == Tryz.prog.unfollowed 6) = true := by kernel_rfl
theorem uspecNone_recurses : (Rows.uspecNoneRow.recurses == Tryz.prog.recurses 6) = true := by kernel_rfl
theorem uspecNone_named : (Rows.uspecNoneRow.named == Tryz.prog.varsNamed 6) = true := by kernel_rfl
theorem uspecNone_joined : joinedFacts Tryz.prog 6 Tryz.f6 Rows.uspecNoneSpec Rows.uspecNoneRow = true := by
  simp only [joinedFacts, Bool.and_eq_true]
  exact ⟨⟨⟨⟨⟨⟨⟨⟨⟨⟨⟨⟨⟨⟨⟨⟨⟨⟨⟨⟨⟨⟨⟨⟨⟨⟨⟨⟨⟨⟨⟨by kernel_rfl, Tryz.laidOut⟩, Tryz.mapsRowed⟩, by kernel_rfl⟩, by kernel_rfl⟩, by kernel_rfl⟩, by kernel_rfl⟩, by kernel_rfl⟩, by kernel_rfl⟩, uspecNone_inPlace⟩, uspecNone_unfollowed⟩, uspecNone_recurses⟩, uspecNone_named⟩, by kernel_rfl⟩, by kernel_rfl⟩, by kernel_rfl⟩, by kernel_rfl⟩, by kernel_rfl⟩, by kernel_rfl⟩, by kernel_rfl⟩, by kernel_rfl⟩, by kernel_rfl⟩, Tryz.plainKeys⟩, by kernel_rfl⟩, Tryz.stopsHeard⟩, Tryz.mayEnter⟩, Tryz.lifted⟩, Tryz.make⟩, by kernel_rfl⟩, by kernel_rfl⟩, by kernel_rfl⟩, by kernel_rfl⟩
theorem uspecNone_holds : Rows.UspecNoneSaid :=
  OpenClaim.holds_of_wide 6 Tryz.f6 rfl rfl rfl rfl rfl rfl rfl ⟨rfl, rfl, rfl, rfl, rfl⟩ rfl rfl rfl rfl rfl (by kernel_rfl) Tryz.func6 uspecNone_joined
    (of_decide_eq_true (by kernel_rfl)) (by unfold Func.isWrapper; first | (rw [if_pos (by decide +kernel)]; kernel_rfl) | (rw [if_neg (by decide +kernel)]; exact ⟨rfl, rfl⟩))
    (fun os started H enc _ => uspecNone_lifted os started H enc)
end Go.Proofs.YtkkdpbicppdglaaGreatDoor
