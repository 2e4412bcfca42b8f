/- The closed facts of the row of OrderSorts, evaluated by the kernel, part by part. No condition. -/
import Derived.Test.YtocmlcpcnjaaeaaGreatDoorRows
import Derived.Test.YtocmlcpcnjaaeaaGreatDoorChecked
import Derived.Test.YtocmlcpcnjaaeaaGreatDoorFactP1
import Derived.Test.YtocmlcpcnjaaeaaGreatDoorFactP2
import Derived.Test.YtocmlcpcnjaaeaaGreatDoorFactP3
import Derived.Test.YtocmlcpcnjaaeaaGreatDoorFactP4
import Derived.JoinedCond
import Derived.KernelRfl
import Derived.SevenTiedAt
namespace Go.Proofs.YtocmlcpcnjaaeaaGreatDoor.orderSorts
open Go
theorem fact10 : (Rows.orderSortsRow.inPlace == Tryz.pinned.checked.prog.inPlace 11) = true := by kernel_rfl
theorem fact11 : (Rows.orderSortsRow.unfollowed == Tryz.pinned.checked.prog.unfollowed 11) = true := by kernel_rfl
theorem fact12 : (Rows.orderSortsRow.recurses == Tryz.pinned.checked.prog.recurses 11) = true := by kernel_rfl
theorem fact13 : (Rows.orderSortsRow.named == Tryz.pinned.checked.prog.varsNamed 11) = true := by kernel_rfl
theorem fact2 : laidOutB Tryz.pinned.checked.prog = true := by kernel_rfl
theorem fact3 : mapsRowed Tryz.pinned.checked.prog = true := by kernel_rfl
theorem fact25 : Tryz.pinned.checked.prog.stopsHeard = true := by kernel_rfl
theorem cardW : Rows.orderSortsRow.wfByText (OpenSpec.ofChange Rows.orderSortsSpec) = true := by kernel_rfl
theorem cardG : false = Rows.orderSortsRow.goesBy Tryz.pinned.checked.prog := by kernel_rfl
theorem and_t {a b : Bool} (ha : a = true) (hb : b = true) : (a && b) = true := by rw [ha, hb]; rfl
theorem facts : joinedFacts Tryz.pinned.checked.prog 11 Tryz.f11 (OpenSpec.ofChange Rows.orderSortsSpec).bare Rows.orderSortsRow = true := by
  unfold joinedFacts
  refine and_t (and_t (and_t (and_t (and_t (and_t (and_t (and_t (and_t (and_t (and_t (and_t (and_t (and_t (and_t (and_t (and_t (and_t (and_t (and_t (and_t (and_t (and_t (and_t (and_t (and_t (and_t (and_t (and_t (and_t (and_t ?_ ?_) ?_) ?_) ?_) ?_) ?_) ?_) ?_) ?_) ?_) ?_) ?_) ?_) ?_) ?_) ?_) ?_) ?_) ?_) ?_) ?_) ?_) ?_) ?_) ?_) ?_) ?_) ?_) ?_) ?_) ?_
  · kernel_rfl
  · exact fact2
  · exact fact3
  · kernel_rfl
  · kernel_rfl
  · kernel_rfl
  · kernel_rfl
  · kernel_rfl
  · kernel_rfl
  · exact fact10
  · exact fact11
  · exact fact12
  · exact fact13
  · kernel_rfl
  · kernel_rfl
  · kernel_rfl
  · kernel_rfl
  · kernel_rfl
  · kernel_rfl
  · kernel_rfl
  · kernel_rfl
  · kernel_rfl
  · kernel_rfl
  · kernel_rfl
  · exact fact25
  · exact factP.mayEnter
  · exact factP.lifts
  · exact factP.make
  · kernel_rfl
  · kernel_rfl
  · kernel_rfl
  · kernel_rfl
end Go.Proofs.YtocmlcpcnjaaeaaGreatDoor.orderSorts
