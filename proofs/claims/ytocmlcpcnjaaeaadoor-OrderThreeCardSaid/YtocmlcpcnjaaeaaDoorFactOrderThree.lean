/- The closed facts of the row of OrderThree, evaluated by the kernel, part by part. No condition. -/
import Derived.Test.YtocmlcpcnjaaeaaDoorRows
import Derived.Test.YtocmlcpcnjaaeaaDoorChecked
import Derived.Test.YtocmlcpcnjaaeaaDoorFactP1
import Derived.Test.YtocmlcpcnjaaeaaDoorFactP2
import Derived.Test.YtocmlcpcnjaaeaaDoorFactP3
import Derived.Test.YtocmlcpcnjaaeaaDoorFactP4
import Derived.JoinedCond
import Derived.KernelRfl
import Derived.SevenTiedAt
namespace Go.Proofs.YtocmlcpcnjaaeaaDoor.orderThree
open Go
theorem fact10 : (Rows.orderThreeRow.inPlace == Tryd.pinned.checked.prog.inPlace 6) = true := by kernel_rfl
theorem fact11 : (Rows.orderThreeRow.unfollowed == Tryd.pinned.checked.prog.unfollowed 6) = true := by kernel_rfl
theorem fact12 : (Rows.orderThreeRow.recurses == Tryd.pinned.checked.prog.recurses 6) = true := by kernel_rfl
theorem fact13 : (Rows.orderThreeRow.named == Tryd.pinned.checked.prog.varsNamed 6) = true := by kernel_rfl
theorem fact2 : laidOutB Tryd.pinned.checked.prog = true := by kernel_rfl
theorem fact3 : mapsRowed Tryd.pinned.checked.prog = true := by kernel_rfl
theorem fact25 : Tryd.pinned.checked.prog.stopsHeard = true := by kernel_rfl
theorem cardW : Rows.orderThreeRow.wfByText (OpenSpec.ofChange Rows.orderThreeSpec) = true := by kernel_rfl
theorem cardG : false = Rows.orderThreeRow.goesBy Tryd.pinned.checked.prog := by kernel_rfl
theorem and_t {a b : Bool} (ha : a = true) (hb : b = true) : (a && b) = true := by rw [ha, hb]; rfl
theorem facts : joinedFacts Tryd.pinned.checked.prog 6 Tryd.f6 (OpenSpec.ofChange Rows.orderThreeSpec).bare Rows.orderThreeRow = true := by
  unfold joinedFacts
  refine and_t (and_t (and_t (and_t (and_t (and_t (and_t (and_t (and_t (and_t (and_t (and_t (and_t (and_t (and_t (and_t (and_t (and_t (and_t (and_t (and_t (and_t (and_t (and_t (and_t (and_t (and_t (and_t (and_t (and_t (and_t ?_ ?_) ?_) ?_) ?_) ?_) ?_) ?_) ?_) ?_) ?_) ?_) ?_) ?_) ?_) ?_) ?_) ?_) ?_) ?_) ?_) ?_) ?_) ?_) ?_) ?_) ?_) ?_) ?_) ?_) ?_) ?_
  · kernel_rfl
  · exact fact2
  · exact fact3
  · kernel_rfl
  · kernel_rfl
  · kernel_rfl
  · kernel_rfl
  · kernel_rfl
  · kernel_rfl
  · exact fact10
  · exact fact11
  · exact fact12
  · exact fact13
  · kernel_rfl
  · kernel_rfl
  · kernel_rfl
  · kernel_rfl
  · kernel_rfl
  · kernel_rfl
  · kernel_rfl
  · kernel_rfl
  · kernel_rfl
  · kernel_rfl
  · kernel_rfl
  · exact fact25
  · exact factP.mayEnter
  · exact factP.lifts
  · exact factP.make
  · kernel_rfl
  · kernel_rfl
  · kernel_rfl
  · kernel_rfl
end Go.Proofs.YtocmlcpcnjaaeaaDoor.orderThree
