/- The closed facts of the row of lustrum/lustrumlaw14.LeafMeans, evaluated by the kernel. No condition. -/
import Derived.Test.YtjeoelajkncpcaaDoorRows
import Derived.Test.YtjeoelajkncpcaaDoorChecked
import Derived.JoinedCond
import Derived.KernelRfl
namespace Go.Proofs.YtjeoelajkncpcaaDoor.leafMeans
theorem facts : joinedFacts Tryd.pinned.checked.prog 10 Tryd.f10 (OpenSpec.ofChange Rows.leafMeansSpec).bare Rows.leafMeansRow = true := by kernel_rfl
end Go.Proofs.YtjeoelajkncpcaaDoor.leafMeans
