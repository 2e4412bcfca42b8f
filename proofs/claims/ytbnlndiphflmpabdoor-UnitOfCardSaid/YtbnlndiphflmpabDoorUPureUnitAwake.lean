/- The document's example of layer 3 holds: plain, of the printed functions. -/
import Derived.Test.YtbnlndiphflmpabDoorUPureUnit
namespace Go.Proofs.YtbnlndiphflmpabDoor.UPure
open Go.RowKit Go.Proofs.YtbnlndiphflmpabDoor.PU Go.Proofs.YtbnlndiphflmpabDoorW.PrintWords Go.Proofs.YtbnlndiphflmpabDoorW.PrintLast
theorem awake03_eq : lustrumlaw03_awake.f = some true := by
  unfold lustrumlaw03_awake.f
  rw [ufirst_eq, ulast_eq, uof_eq, ucount_eq]
  rw [show UCal.ucount 2 = 40000 from rfl, show UCal.ufirst 2 7999 = 730454 by decide, show UCal.ulast 2 7999 = 730544 by decide, show UCal.uof 4 730485 = some 200 by decide, show UCal.ucount 1 = 120000 from rfl]
  rfl
end Go.Proofs.YtbnlndiphflmpabDoor.UPure
