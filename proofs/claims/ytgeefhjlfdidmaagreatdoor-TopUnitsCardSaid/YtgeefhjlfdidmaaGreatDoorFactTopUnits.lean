/- The closed facts of the row of TopUnits, evaluated by the kernel, part by part. No condition. -/
import Derived.Test.YtgeefhjlfdidmaaGreatDoorRows
import Derived.Test.YtgeefhjlfdidmaaGreatDoorChecked
import Derived.Test.YtgeefhjlfdidmaaGreatDoorFactP1
import Derived.Test.YtgeefhjlfdidmaaGreatDoorFactP2
import Derived.Test.YtgeefhjlfdidmaaGreatDoorFactP3
import Derived.Test.YtgeefhjlfdidmaaGreatDoorFactP4
import Derived.JoinedCond
import Derived.KernelRfl
import Derived.SevenTiedAt
namespace Go.Proofs.YtgeefhjlfdidmaaGreatDoor.topUnits
open Go
theorem fact10 : (Rows.topUnitsRow.inPlace == Tryz.pinned.checked.prog.inPlace 3) = true := by kernel_rfl
theorem fact11 : (Rows.topUnitsRow.unfollowed == Tryz.pinned.checked.prog.unfollowed 3) = true := by kernel_rfl
theorem fact12 : (Rows.topUnitsRow.recurses == Tryz.pinned.checked.prog.recurses 3) = true := by kernel_rfl
theorem fact13 : (Rows.topUnitsRow.named == Tryz.pinned.checked.prog.varsNamed 3) = true := by kernel_rfl
theorem fact2 : laidOutB Tryz.pinned.checked.prog = true := by kernel_rfl
theorem fact3 : mapsRowed Tryz.pinned.checked.prog = true := by kernel_rfl
theorem fact25 : Tryz.pinned.checked.prog.stopsHeard = true := by kernel_rfl
theorem cardW : Rows.topUnitsRow.wfByText (OpenSpec.ofChange Rows.topUnitsSpec) = true := by kernel_rfl
theorem cardG : false = Rows.topUnitsRow.goesBy Tryz.pinned.checked.prog := by kernel_rfl
theorem and_t {a b : Bool} (ha : a = true) (hb : b = true) : (a && b) = true := by rw [ha, hb]; rfl
theorem facts : joinedFacts Tryz.pinned.checked.prog 3 Tryz.f3 (OpenSpec.ofChange Rows.topUnitsSpec).bare Rows.topUnitsRow = true := by
  unfold joinedFacts
  refine and_t (and_t (and_t (and_t (and_t (and_t (and_t (and_t (and_t (and_t (and_t (and_t (and_t (and_t (and_t (and_t (and_t (and_t (and_t (and_t (and_t (and_t (and_t (and_t (and_t (and_t (and_t (and_t (and_t (and_t (and_t ?_ ?_) ?_) ?_) ?_) ?_) ?_) ?_) ?_) ?_) ?_) ?_) ?_) ?_) ?_) ?_) ?_) ?_) ?_) ?_) ?_) ?_) ?_) ?_) ?_) ?_) ?_) ?_) ?_) ?_) ?_) ?_
  · kernel_rfl
  · exact fact2
  · exact fact3
  · kernel_rfl
  · kernel_rfl
  · kernel_rfl
  · kernel_rfl
  · kernel_rfl
  · kernel_rfl
  · exact fact10
  · exact fact11
  · exact fact12
  · exact fact13
  · kernel_rfl
  · kernel_rfl
  · kernel_rfl
  · kernel_rfl
  · kernel_rfl
  · kernel_rfl
  · kernel_rfl
  · kernel_rfl
  · kernel_rfl
  · kernel_rfl
  · kernel_rfl
  · exact fact25
  · exact factP.mayEnter
  · exact factP.lifts
  · exact factP.make
  · kernel_rfl
  · kernel_rfl
  · kernel_rfl
  · kernel_rfl
end Go.Proofs.YtgeefhjlfdidmaaGreatDoor.topUnits
