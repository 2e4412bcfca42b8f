/- A closed fact of the program, evaluated by the kernel. No condition. -/
import Derived.Test.YtgeefhjlfdidmaaGreatDoorRows
import Derived.Test.YtgeefhjlfdidmaaGreatDoorChecked
import Derived.JoinedCond
import Derived.KernelRfl
import Derived.SevenTiedAt
namespace Go.Proofs.YtgeefhjlfdidmaaGreatDoor.factP
open Go
theorem mainIs : Tryz.pinned.checked.prog.mainIs = some (true, ( "1e0bd10dbe26d7758375bb526d394d7bb61e40b1fe553fcdbce64684e526f9a4" : String).toList) := by kernel_rfl
theorem looks : true = Tryz.pinned.checked.prog.looks [] := by kernel_rfl
end Go.Proofs.YtgeefhjlfdidmaaGreatDoor.factP
