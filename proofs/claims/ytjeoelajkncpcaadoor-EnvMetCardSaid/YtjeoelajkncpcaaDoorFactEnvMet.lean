/- The closed facts of the row of lustrum/lustrumlaw16.EnvMet, evaluated by the kernel. No condition. -/
import Derived.Test.YtjeoelajkncpcaaDoorRows
import Derived.Test.YtjeoelajkncpcaaDoorChecked
import Derived.JoinedCond
import Derived.KernelRfl
namespace Go.Proofs.YtjeoelajkncpcaaDoor.envMet
theorem facts : joinedFacts Tryd.pinned.checked.prog 16 Tryd.f16 (OpenSpec.ofChange Rows.envMetSpec).bare Rows.envMetRow = true := by kernel_rfl
end Go.Proofs.YtjeoelajkncpcaaDoor.envMet
