/- The closed facts of the row of lustrum/lustrumlaw14.LeafTidy, evaluated by the kernel. No condition. -/
import Derived.Test.YtjeoelajkncpcaaDoorRows
import Derived.Test.YtjeoelajkncpcaaDoorChecked
import Derived.JoinedCond
import Derived.KernelRfl
namespace Go.Proofs.YtjeoelajkncpcaaDoor.leafTidy
theorem facts : joinedFacts Tryd.pinned.checked.prog 11 Tryd.f11 (OpenSpec.ofChange Rows.leafTidySpec).bare Rows.leafTidyRow = true := by kernel_rfl
end Go.Proofs.YtjeoelajkncpcaaDoor.leafTidy
