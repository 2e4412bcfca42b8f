/- The closed facts of the row of lustrum/lustrumlaw16.EnvMore, evaluated by the kernel. No condition. -/
import Derived.Test.YtjeoelajkncpcaaDoorRows
import Derived.Test.YtjeoelajkncpcaaDoorChecked
import Derived.JoinedCond
import Derived.KernelRfl
namespace Go.Proofs.YtjeoelajkncpcaaDoor.envMore
theorem facts : joinedFacts Tryd.pinned.checked.prog 15 Tryd.f15 (OpenSpec.ofChange Rows.envMoreSpec).bare Rows.envMoreRow = true := by kernel_rfl
end Go.Proofs.YtjeoelajkncpcaaDoor.envMore
