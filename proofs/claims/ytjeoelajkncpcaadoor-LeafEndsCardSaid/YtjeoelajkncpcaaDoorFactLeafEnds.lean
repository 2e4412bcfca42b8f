/- The closed facts of the row of lustrum/lustrumlaw14.LeafEnds, evaluated by the kernel. No condition. -/
import Derived.Test.YtjeoelajkncpcaaDoorRows
import Derived.Test.YtjeoelajkncpcaaDoorChecked
import Derived.JoinedCond
import Derived.KernelRfl
namespace Go.Proofs.YtjeoelajkncpcaaDoor.leafEnds
theorem facts : joinedFacts Tryd.pinned.checked.prog 13 Tryd.f13 (OpenSpec.ofChange Rows.leafEndsSpec).bare Rows.leafEndsRow = true := by kernel_rfl
end Go.Proofs.YtjeoelajkncpcaaDoor.leafEnds
