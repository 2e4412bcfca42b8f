/- The closed facts of the row of lustrum/lustrumlaw14.LeafMore, evaluated by the kernel. No condition. -/
import Derived.Test.YtjeoelajkncpcaaDoorRows
import Derived.Test.YtjeoelajkncpcaaDoorChecked
import Derived.JoinedCond
import Derived.KernelRfl
namespace Go.Proofs.YtjeoelajkncpcaaDoor.leafMore
theorem facts : joinedFacts Tryd.pinned.checked.prog 12 Tryd.f12 (OpenSpec.ofChange Rows.leafMoreSpec).bare Rows.leafMoreRow = true := by kernel_rfl
end Go.Proofs.YtjeoelajkncpcaaDoor.leafMore
