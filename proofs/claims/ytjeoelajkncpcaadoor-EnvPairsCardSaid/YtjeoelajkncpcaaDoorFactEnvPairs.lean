/- The closed facts of the row of lustrum/lustrumlaw16.EnvPairs, evaluated by the kernel. No condition. -/
import Derived.Test.YtjeoelajkncpcaaDoorRows
import Derived.Test.YtjeoelajkncpcaaDoorChecked
import Derived.JoinedCond
import Derived.KernelRfl
namespace Go.Proofs.YtjeoelajkncpcaaDoor.envPairs
theorem facts : joinedFacts Tryd.pinned.checked.prog 17 Tryd.f17 (OpenSpec.ofChange Rows.envPairsSpec).bare Rows.envPairsRow = true := by kernel_rfl
end Go.Proofs.YtjeoelajkncpcaaDoor.envPairs
