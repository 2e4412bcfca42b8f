/- The closed facts of the row of lustrum/lustrumlaw07.ImageIs, evaluated by the kernel. No condition. -/
import Derived.Test.YtjeoelajkncpcaaDoorRows
import Derived.Test.YtjeoelajkncpcaaDoorChecked
import Derived.JoinedCond
import Derived.KernelRfl
namespace Go.Proofs.YtjeoelajkncpcaaDoor.imageIs
theorem facts : joinedFacts Tryd.pinned.checked.prog 3 Tryd.f3 (OpenSpec.ofChange Rows.imageIsSpec).bare Rows.imageIsRow = true := by kernel_rfl
end Go.Proofs.YtjeoelajkncpcaaDoor.imageIs
