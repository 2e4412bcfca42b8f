/- The closed facts of the row of lustrum/lustrumlaw14.LeafPairs, evaluated by the kernel. No condition. -/
import Derived.Test.YtjeoelajkncpcaaDoorRows
import Derived.Test.YtjeoelajkncpcaaDoorChecked
import Derived.JoinedCond
import Derived.KernelRfl
namespace Go.Proofs.YtjeoelajkncpcaaDoor.leafPairs
theorem facts : joinedFacts Tryd.pinned.checked.prog 9 Tryd.f9 (OpenSpec.ofChange Rows.leafPairsSpec).bare Rows.leafPairsRow = true := by kernel_rfl
end Go.Proofs.YtjeoelajkncpcaaDoor.leafPairs
