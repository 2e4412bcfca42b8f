/- The closed facts of the row of lustrum/lustrumlaw14.LeafCovers, evaluated by the kernel. No condition. -/
import Derived.Test.YtjeoelajkncpcaaDoorRows
import Derived.Test.YtjeoelajkncpcaaDoorChecked
import Derived.JoinedCond
import Derived.KernelRfl
namespace Go.Proofs.YtjeoelajkncpcaaDoor.leafCovers
theorem facts : joinedFacts Tryd.pinned.checked.prog 8 Tryd.f8 (OpenSpec.ofChange Rows.leafCoversSpec).bare Rows.leafCoversRow = true := by kernel_rfl
end Go.Proofs.YtjeoelajkncpcaaDoor.leafCovers
