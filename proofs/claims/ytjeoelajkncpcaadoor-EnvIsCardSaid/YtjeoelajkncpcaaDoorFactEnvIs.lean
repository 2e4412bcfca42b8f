/- The closed facts of the row of lustrum/lustrumlaw16.EnvIs, evaluated by the kernel. No condition. -/
import Derived.Test.YtjeoelajkncpcaaDoorRows
import Derived.Test.YtjeoelajkncpcaaDoorChecked
import Derived.JoinedCond
import Derived.KernelRfl
namespace Go.Proofs.YtjeoelajkncpcaaDoor.envIs
theorem facts : joinedFacts Tryd.pinned.checked.prog 14 Tryd.f14 (OpenSpec.ofChange Rows.envIsSpec).bare Rows.envIsRow = true := by kernel_rfl
end Go.Proofs.YtjeoelajkncpcaaDoor.envIs
