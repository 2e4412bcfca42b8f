/- The closed facts of the row of lustrum/lustrumlaw17.CoverPairs, evaluated by the kernel. No condition. -/
import Derived.Test.YtjeoelajkncpcaaDoorRows
import Derived.Test.YtjeoelajkncpcaaDoorChecked
import Derived.JoinedCond
import Derived.KernelRfl
namespace Go.Proofs.YtjeoelajkncpcaaDoor.coverPairs
theorem facts : joinedFacts Tryd.pinned.checked.prog 21 Tryd.f21 (OpenSpec.ofChange Rows.coverPairsSpec).bare Rows.coverPairsRow = true := by kernel_rfl
end Go.Proofs.YtjeoelajkncpcaaDoor.coverPairs
