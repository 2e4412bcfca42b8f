/- The closed facts of the row of lustrum/lustrumlaw17.CoverIs, evaluated by the kernel. No condition. -/
import Derived.Test.YtjeoelajkncpcaaGreatDoorRows
import Derived.Test.YtjeoelajkncpcaaGreatDoorChecked
import Derived.JoinedCond
import Derived.KernelRfl
namespace Go.Proofs.YtjeoelajkncpcaaGreatDoor.coverIs
theorem facts : joinedFacts Tryz.pinned.checked.prog 4 Tryz.f4 (OpenSpec.ofChange Rows.coverIsSpec).bare Rows.coverIsRow = true := by kernel_rfl
end Go.Proofs.YtjeoelajkncpcaaGreatDoor.coverIs
