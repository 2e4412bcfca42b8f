/- The closed facts of the row of OrderCompare, evaluated by the kernel, part by part. No condition. -/
import Derived.Test.YtocmlcpcnjaaeaaDoorRows
import Derived.Test.YtocmlcpcnjaaeaaDoorChecked
import Derived.Test.YtocmlcpcnjaaeaaDoorFactP1
import Derived.Test.YtocmlcpcnjaaeaaDoorFactP2
import Derived.Test.YtocmlcpcnjaaeaaDoorFactP3
import Derived.Test.YtocmlcpcnjaaeaaDoorFactP4
import Derived.JoinedCond
import Derived.KernelRfl
import Derived.SevenTiedAt
namespace Go.Proofs.YtocmlcpcnjaaeaaDoor.orderCompare
open Go
theorem fact10 : (Rows.orderCompareRow.inPlace == Tryd.pinned.checked.prog.inPlace 4) = true := by kernel_rfl
theorem fact11 : (Rows.orderCompareRow.unfollowed == Tryd.pinned.checked.prog.unfollowed 4) = true := by kernel_rfl
theorem fact12 : (Rows.orderCompareRow.recurses == Tryd.pinned.checked.prog.recurses 4) = true := by kernel_rfl
theorem fact13 : (Rows.orderCompareRow.named == Tryd.pinned.checked.prog.varsNamed 4) = true := by kernel_rfl
theorem fact2 : laidOutB Tryd.pinned.checked.prog = true := by kernel_rfl
theorem fact3 : mapsRowed Tryd.pinned.checked.prog = true := by kernel_rfl
theorem fact25 : Tryd.pinned.checked.prog.stopsHeard = true := by kernel_rfl
theorem cardW : Rows.orderCompareRow.wfByText (OpenSpec.ofChange Rows.orderCompareSpec) = true := by kernel_rfl
theorem cardG : false = Rows.orderCompareRow.goesBy Tryd.pinned.checked.prog := by kernel_rfl
theorem and_t {a b : Bool} (ha : a = true) (hb : b = true) : (a && b) = true := by rw [ha, hb]; rfl
theorem facts : joinedFacts Tryd.pinned.checked.prog 4 Tryd.f4 (OpenSpec.ofChange Rows.orderCompareSpec).bare Rows.orderCompareRow = true := by
  unfold joinedFacts
  refine and_t (and_t (and_t (and_t (and_t (and_t (and_t (and_t (and_t (and_t (and_t (and_t (and_t (and_t (and_t (and_t (and_t (and_t (and_t (and_t (and_t (and_t (and_t (and_t (and_t (and_t (and_t (and_t (and_t (and_t (and_t ?_ ?_) ?_) ?_) ?_) ?_) ?_) ?_) ?_) ?_) ?_) ?_) ?_) ?_) ?_) ?_) ?_) ?_) ?_) ?_) ?_) ?_) ?_) ?_) ?_) ?_) ?_) ?_) ?_) ?_) ?_) ?_
  · kernel_rfl
  · exact fact2
  · exact fact3
  · kernel_rfl
  · kernel_rfl
  · kernel_rfl
  · kernel_rfl
  · kernel_rfl
  · kernel_rfl
  · exact fact10
  · exact fact11
  · exact fact12
  · exact fact13
  · kernel_rfl
  · kernel_rfl
  · kernel_rfl
  · kernel_rfl
  · kernel_rfl
  · kernel_rfl
  · kernel_rfl
  · kernel_rfl
  · kernel_rfl
  · kernel_rfl
  · kernel_rfl
  · exact fact25
  · exact factP.mayEnter
  · exact factP.lifts
  · exact factP.make
  · kernel_rfl
  · kernel_rfl
  · kernel_rfl
  · kernel_rfl
end Go.Proofs.YtocmlcpcnjaaeaaDoor.orderCompare
