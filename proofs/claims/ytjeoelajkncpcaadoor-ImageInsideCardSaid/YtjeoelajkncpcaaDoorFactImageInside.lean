/- The closed facts of the row of lustrum/lustrumlaw07.ImageInside, evaluated by the kernel. No condition. -/
import Derived.Test.YtjeoelajkncpcaaDoorRows
import Derived.Test.YtjeoelajkncpcaaDoorChecked
import Derived.JoinedCond
import Derived.KernelRfl
namespace Go.Proofs.YtjeoelajkncpcaaDoor.imageInside
theorem facts : joinedFacts Tryd.pinned.checked.prog 4 Tryd.f4 (OpenSpec.ofChange Rows.imageInsideSpec).bare Rows.imageInsideRow = true := by kernel_rfl
end Go.Proofs.YtjeoelajkncpcaaDoor.imageInside
