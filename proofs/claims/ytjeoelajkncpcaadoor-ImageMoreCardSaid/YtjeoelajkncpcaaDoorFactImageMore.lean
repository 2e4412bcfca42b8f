/- The closed facts of the row of lustrum/lustrumlaw07.ImageMore, evaluated by the kernel. No condition. -/
import Derived.Test.YtjeoelajkncpcaaDoorRows
import Derived.Test.YtjeoelajkncpcaaDoorChecked
import Derived.JoinedCond
import Derived.KernelRfl
namespace Go.Proofs.YtjeoelajkncpcaaDoor.imageMore
theorem facts : joinedFacts Tryd.pinned.checked.prog 5 Tryd.f5 (OpenSpec.ofChange Rows.imageMoreSpec).bare Rows.imageMoreRow = true := by kernel_rfl
end Go.Proofs.YtjeoelajkncpcaaDoor.imageMore
