/- The closed facts of the row of lustrum/lustrumlaw07.ImageEnds, evaluated by the kernel. No condition. -/
import Derived.Test.YtjeoelajkncpcaaDoorRows
import Derived.Test.YtjeoelajkncpcaaDoorChecked
import Derived.JoinedCond
import Derived.KernelRfl
namespace Go.Proofs.YtjeoelajkncpcaaDoor.imageEnds
theorem facts : joinedFacts Tryd.pinned.checked.prog 6 Tryd.f6 (OpenSpec.ofChange Rows.imageEndsSpec).bare Rows.imageEndsRow = true := by kernel_rfl
end Go.Proofs.YtjeoelajkncpcaaDoor.imageEnds
