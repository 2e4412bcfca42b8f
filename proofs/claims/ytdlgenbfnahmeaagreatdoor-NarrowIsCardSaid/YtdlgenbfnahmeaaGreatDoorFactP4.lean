/- A closed fact of the program, evaluated by the kernel. No condition. -/
import Derived.Test.YtdlgenbfnahmeaaGreatDoorRows
import Derived.Test.YtdlgenbfnahmeaaGreatDoorChecked
import Derived.JoinedCond
import Derived.KernelRfl
import Derived.SevenTiedAt
namespace Go.Proofs.YtdlgenbfnahmeaaGreatDoor.factP
open Go
theorem mainIs : Tryz.pinned.checked.prog.mainIs = some (true, ( "b1d5bea57e8ba6e6a5b810237e4267f2904c478e6d60f9bc29368d735217b55c" : String).toList) := by kernel_rfl
theorem looks : true = Tryz.pinned.checked.prog.looks [] := by kernel_rfl
end Go.Proofs.YtdlgenbfnahmeaaGreatDoor.factP
