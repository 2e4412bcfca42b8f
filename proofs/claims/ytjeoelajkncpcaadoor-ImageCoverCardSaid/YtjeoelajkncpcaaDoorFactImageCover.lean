/- The closed facts of the row of lustrum/lustrumlaw07.ImageCover, evaluated by the kernel. No condition. -/
import Derived.Test.YtjeoelajkncpcaaDoorRows
import Derived.Test.YtjeoelajkncpcaaDoorChecked
import Derived.JoinedCond
import Derived.KernelRfl
namespace Go.Proofs.YtjeoelajkncpcaaDoor.imageCover
theorem facts : joinedFacts Tryd.pinned.checked.prog 7 Tryd.f7 (OpenSpec.ofChange Rows.imageCoverSpec).bare Rows.imageCoverRow = true := by kernel_rfl
end Go.Proofs.YtjeoelajkncpcaaDoor.imageCover
