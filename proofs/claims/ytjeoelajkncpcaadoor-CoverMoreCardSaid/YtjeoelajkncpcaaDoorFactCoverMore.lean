/- The closed facts of the row of lustrum/lustrumlaw17.CoverMore, evaluated by the kernel. No condition. -/
import Derived.Test.YtjeoelajkncpcaaDoorRows
import Derived.Test.YtjeoelajkncpcaaDoorChecked
import Derived.JoinedCond
import Derived.KernelRfl
namespace Go.Proofs.YtjeoelajkncpcaaDoor.coverMore
theorem facts : joinedFacts Tryd.pinned.checked.prog 19 Tryd.f19 (OpenSpec.ofChange Rows.coverMoreSpec).bare Rows.coverMoreRow = true := by kernel_rfl
end Go.Proofs.YtjeoelajkncpcaaDoor.coverMore
