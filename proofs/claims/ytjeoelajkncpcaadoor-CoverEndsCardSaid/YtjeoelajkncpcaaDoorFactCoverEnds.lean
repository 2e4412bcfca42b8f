/- The closed facts of the row of lustrum/lustrumlaw17.CoverEnds, evaluated by the kernel. No condition. -/
import Derived.Test.YtjeoelajkncpcaaDoorRows
import Derived.Test.YtjeoelajkncpcaaDoorChecked
import Derived.JoinedCond
import Derived.KernelRfl
namespace Go.Proofs.YtjeoelajkncpcaaDoor.coverEnds
theorem facts : joinedFacts Tryd.pinned.checked.prog 20 Tryd.f20 (OpenSpec.ofChange Rows.coverEndsSpec).bare Rows.coverEndsRow = true := by kernel_rfl
end Go.Proofs.YtjeoelajkncpcaaDoor.coverEnds
