/- Leap years, days of months, what is a date, its number, a number's date and weekday are what the document says, of any numbers. No condition. -/
import Derived.Test.YtbnlndiphflmpaaDoorPCx1
import Derived.Test.YtbnlndiphflmpaaDoorPureAwake
import Derived.Test.YtbnlndiphflmpaaDoorPureCivilRef
namespace Go.Proofs.YtbnlndiphflmpaaDoor.Pure
open Go.RowKit Go.Proofs.YtbnlndiphflmpaaDoor.PC Go.Proofs.YtbnlndiphflmpaaDoorW.PrintWords Go.Proofs.YtbnlndiphflmpaaDoorW.PrintLast
theorem CivilIs : lustrumlaw02_CivilIs.Pure := by
  intro y m d n hy hm hd hn
  replace hy := wf_in hy
  refine ⟨10018 + 2, ?_⟩
  unfold lustrumlaw02_CivilIs.f
  rw [awake_eq, number_eq y m d hy, rnumber_eq _ y m d (by omega), date_eq, rdate_eq _ n (by omega), leap_eq y hy, rleap_eq, days_eq y m hy, rdays_eq, valid_eq y m d hy, rvalid_eq, weekday_eq, rweekday_eq]
  simp
end Go.Proofs.YtbnlndiphflmpaaDoor.Pure
