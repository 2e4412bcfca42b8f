/- The closed facts of the row of NarrowAll, evaluated by the kernel, part by part. No condition. -/
import Derived.Test.YtdlgenbfnahmeaaGreatDoorRows
import Derived.Test.YtdlgenbfnahmeaaGreatDoorChecked
import Derived.Test.YtdlgenbfnahmeaaGreatDoorFactP1
import Derived.Test.YtdlgenbfnahmeaaGreatDoorFactP2
import Derived.Test.YtdlgenbfnahmeaaGreatDoorFactP3
import Derived.Test.YtdlgenbfnahmeaaGreatDoorFactP4
import Derived.JoinedCond
import Derived.KernelRfl
import Derived.SevenTiedAt
namespace Go.Proofs.YtdlgenbfnahmeaaGreatDoor.narrowAll
open Go
theorem fact10 : (Rows.narrowAllRow.inPlace == Tryz.pinned.checked.prog.inPlace 9) = true := by kernel_rfl
theorem fact11 : (Rows.narrowAllRow.unfollowed == Tryz.pinned.checked.prog.unfollowed 9) = true := by kernel_rfl
theorem fact12 : (Rows.narrowAllRow.recurses == Tryz.pinned.checked.prog.recurses 9) = true := by kernel_rfl
theorem fact13 : (Rows.narrowAllRow.named == Tryz.pinned.checked.prog.varsNamed 9) = true := by kernel_rfl
theorem fact2 : laidOutB Tryz.pinned.checked.prog = true := by kernel_rfl
theorem fact3 : mapsRowed Tryz.pinned.checked.prog = true := by kernel_rfl
theorem fact25 : Tryz.pinned.checked.prog.stopsHeard = true := by kernel_rfl
theorem cardW : Rows.narrowAllRow.wfByText (OpenSpec.ofChange Rows.narrowAllSpec) = true := by kernel_rfl
theorem cardG : false = Rows.narrowAllRow.goesBy Tryz.pinned.checked.prog := by kernel_rfl
theorem and_t {a b : Bool} (ha : a = true) (hb : b = true) : (a && b) = true := by rw [ha, hb]; rfl
theorem facts : joinedFacts Tryz.pinned.checked.prog 9 Tryz.f9 (OpenSpec.ofChange Rows.narrowAllSpec).bare Rows.narrowAllRow = true := by
  unfold joinedFacts
  refine and_t (and_t (and_t (and_t (and_t (and_t (and_t (and_t (and_t (and_t (and_t (and_t (and_t (and_t (and_t (and_t (and_t (and_t (and_t (and_t (and_t (and_t (and_t (and_t (and_t (and_t (and_t (and_t (and_t (and_t (and_t ?_ ?_) ?_) ?_) ?_) ?_) ?_) ?_) ?_) ?_) ?_) ?_) ?_) ?_) ?_) ?_) ?_) ?_) ?_) ?_) ?_) ?_) ?_) ?_) ?_) ?_) ?_) ?_) ?_) ?_) ?_) ?_
  · kernel_rfl
  · exact fact2
  · exact fact3
  · kernel_rfl
  · kernel_rfl
  · kernel_rfl
  · kernel_rfl
  · kernel_rfl
  · kernel_rfl
  · exact fact10
  · exact fact11
  · exact fact12
  · exact fact13
  · kernel_rfl
  · kernel_rfl
  · kernel_rfl
  · kernel_rfl
  · kernel_rfl
  · kernel_rfl
  · kernel_rfl
  · kernel_rfl
  · kernel_rfl
  · kernel_rfl
  · kernel_rfl
  · exact fact25
  · exact factP.mayEnter
  · exact factP.lifts
  · exact factP.make
  · kernel_rfl
  · kernel_rfl
  · kernel_rfl
  · kernel_rfl
end Go.Proofs.YtdlgenbfnahmeaaGreatDoor.narrowAll
