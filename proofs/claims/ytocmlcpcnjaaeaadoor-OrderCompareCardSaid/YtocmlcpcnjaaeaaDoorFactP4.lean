/- A closed fact of the program, evaluated by the kernel. No condition. -/
import Derived.Test.YtocmlcpcnjaaeaaDoorRows
import Derived.Test.YtocmlcpcnjaaeaaDoorChecked
import Derived.JoinedCond
import Derived.KernelRfl
import Derived.SevenTiedAt
namespace Go.Proofs.YtocmlcpcnjaaeaaDoor.factP
open Go
theorem mainIs : Tryd.pinned.checked.prog.mainIs = some (true, ( "05c76a7f94a8dc2cac4d3aa2fbd1d395106b7f894ddbd40eda08a2015899f74d" : String).toList) := by kernel_rfl
theorem looks : true = Tryd.pinned.checked.prog.looks [] := by kernel_rfl
end Go.Proofs.YtocmlcpcnjaaeaaDoor.factP
