/- The closed facts of the row of lustrum/lustrumlaw17.CoverSets, evaluated by the kernel. No condition. -/
import Derived.Test.YtjeoelajkncpcaaDoorRows
import Derived.Test.YtjeoelajkncpcaaDoorChecked
import Derived.JoinedCond
import Derived.KernelRfl
namespace Go.Proofs.YtjeoelajkncpcaaDoor.coverSets
theorem facts : joinedFacts Tryd.pinned.checked.prog 18 Tryd.f18 (OpenSpec.ofChange Rows.coverSetsSpec).bare Rows.coverSetsRow = true := by kernel_rfl
end Go.Proofs.YtjeoelajkncpcaaDoor.coverSets
