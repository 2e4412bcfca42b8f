/- The closed facts of the row of lustrum/lustrumlaw14.LeafIs, evaluated by the kernel. No condition. -/
import Derived.Test.YtjeoelajkncpcaaGreatDoorRows
import Derived.Test.YtjeoelajkncpcaaGreatDoorChecked
import Derived.JoinedCond
import Derived.KernelRfl
namespace Go.Proofs.YtjeoelajkncpcaaGreatDoor.leafIs
theorem facts : joinedFacts Tryz.pinned.checked.prog 3 Tryz.f3 (OpenSpec.ofChange Rows.leafIsSpec).bare Rows.leafIsRow = true := by kernel_rfl
end Go.Proofs.YtjeoelajkncpcaaGreatDoor.leafIs
