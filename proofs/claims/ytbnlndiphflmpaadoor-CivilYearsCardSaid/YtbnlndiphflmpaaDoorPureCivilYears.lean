/- How long years are: 365 days, 366 of a leap year, which are as many as its months have; four hundred years have 146097 days. No condition. -/
import Derived.Test.YtbnlndiphflmpaaDoorPCx2
import Derived.Test.YtbnlndiphflmpaaDoorPureAwake
namespace Go.Proofs.YtbnlndiphflmpaaDoor.Pure
open Go.RowKit Go.Proofs.YtbnlndiphflmpaaDoor.PC Go.Proofs.YtbnlndiphflmpaaDoorW.PrintWords Go.Proofs.YtbnlndiphflmpaaDoorW.PrintLast
theorem first_of (y : Int) (hy : -9223372036854775808 ≤ y ∧ y ≤ 9223372036854775807) : civil_Number.f y 1 1 = some (if 0 ≤ y ∧ y ≤ 9999 then (Cal.start y, true) else (0, false)) := by
  rw [number_eq y 1 1 hy, Cal.num_jan]
  by_cases h : 0 ≤ y ∧ y ≤ 9999
  · rw [if_pos h, if_pos ⟨h.1, h.2, by omega, by rw [Cal.mlen_1]; omega⟩]
  · rw [if_neg h, if_neg (fun v => h ⟨v.1, v.2.1⟩)]
theorem start_in {y : Int} (h : 0 ≤ y ∧ y ≤ 9999) : 0 ≤ Cal.start y ∧ Cal.start y ≤ 3652424 := by
  rw [← Cal.num_jan]
  exact Cal.num_bounds ⟨h.1, h.2, by omega, by rw [Cal.mlen_1]; omega⟩
theorem years_step (k : Nat) (x3 : Bool) (y a : Int) (b : Bool) (c : Int) (d : Bool) (s m : Int) (hy : 0 ≤ y ∧ y ≤ 9999) (hm : 1 ≤ m ∧ m ≤ 12) (hs : 0 ≤ s ∧ s ≤ 1000) :
    lustrumlaw02_CivilYears.l0 (k + 1) x3 y a b c d s m = lustrumlaw02_CivilYears.l0 k x3 y a b c d (s + Cal.mlen y m) (m + 1) := by
  have hl := Cal.mlen_pos (y := y) hm.1 hm.2
  rw [lustrumlaw02_CivilYears.l0, if_pos hm.2, days_eq y m (by omega)]
  simp only [Option.bind_some]
  rw [w64s (n := s + Cal.mlen y m) (by omega), w64s (n := m + 1) (by omega)]
theorem leap_400 (y : Int) : Cal.Leap (y + 400) ↔ Cal.Leap y := by unfold Cal.Leap; omega
theorem start_400 (y : Int) : Cal.start (y + 400) = Cal.start y + 146097 := by unfold Cal.start; omega
theorem years_last (y : Int) (hy : 0 ≤ y ∧ y ≤ 9998) : lustrumlaw02_CivilYears.j2 1 true y (Cal.start y) false = some true := by
  simp only [lustrumlaw02_CivilYears.j2, Bool.false_eq_true, if_false, if_true]
  rw [w64s (n := y + 400) (by omega), first_of _ (by omega)]
  have b0 := start_in (y := y) (by omega)
  by_cases h : y > 9599
  · rw [if_neg (by omega)]; simp only [Option.bind_some]; rw [if_pos h]; rfl
  · have b1 := start_in (y := y + 400) (by omega)
    rw [if_pos (by omega)]; simp only [Option.bind_some, if_true]; rw [if_neg h]
    rw [w64s (n := Cal.start (y + 400) - Cal.start y) (by omega), if_pos (by rw [start_400]; omega), weekday_eq, weekday_eq, if_pos b1, if_pos b0]
    simp only [Option.bind_some]
    rw [start_400, show (Cal.start y + 146097 + 5) % 7 = (Cal.start y + 5) % 7 by omega]
    simp
theorem years_want (y w s : Int) (hy : 0 ≤ y ∧ y ≤ 9998) (hw : w = if Cal.Leap y then 366 else 365) (hs : s = w) : lustrumlaw02_CivilYears.j1 2 true y (Cal.start y) true (Cal.start (y + 1)) true s w = some true := by
  have b0 := start_in (y := y) (by omega)
  have b1 := start_in (y := y + 1) (by omega)
  have e := Cal.start_succ y
  rw [← hw] at e
  simp only [lustrumlaw02_CivilYears.j1, if_true]
  rw [w64s (n := Cal.start (y + 1) - Cal.start y) (by omega), if_pos (by omega), if_pos hs, leap_eq y (by omega), w64s (n := y + 400) (by omega), leap_eq (y + 400) (by omega)]
  simp only [Option.bind_some]
  rw [show (decide (Cal.Leap y) != decide (Cal.Leap (y + 400))) = false by simp [leap_400]]
  exact years_last y hy
theorem CivilYears : lustrumlaw02_CivilYears.Pure := by
  intro a _
  refine ⟨15, ?_⟩
  unfold lustrumlaw02_CivilYears.f
  rw [awake_eq, and_16, tmods (by omega)]
  have hy : 0 ≤ a % 65536 % 9999 ∧ a % 65536 % 9999 ≤ 9998 := by omega
  generalize a % 65536 % 9999 = y at *
  rw [w64s (n := y + 1) (by omega), first_of y (by omega), first_of (y + 1) (by omega), if_pos (by omega), if_pos (by omega)]
  simp only [Option.bind_some]
  have m2 := Cal.mlen_pos (y := y) (m := 2) (by omega) (by omega)
  rw [years_step _ _ _ _ _ _ _ 0 1 (by omega) (by omega) (by omega), Cal.mlen_1, years_step _ _ _ _ _ _ _ _ _ (by omega) (by omega) (by omega), show (1 : Int) + 1 = 2 by omega]
  generalize hz : Cal.mlen y 2 = z at *
  rw [show (2 : Int) + 1 = 3 by omega, years_step _ _ _ _ _ _ _ _ 3 (by omega) (by omega) (by omega), Cal.mlen_3, show (3 : Int) + 1 = 4 by omega,
    years_step _ _ _ _ _ _ _ _ 4 (by omega) (by omega) (by omega), Cal.mlen_4, show (4 : Int) + 1 = 5 by omega,
    years_step _ _ _ _ _ _ _ _ 5 (by omega) (by omega) (by omega), Cal.mlen_5, show (5 : Int) + 1 = 6 by omega,
    years_step _ _ _ _ _ _ _ _ 6 (by omega) (by omega) (by omega), Cal.mlen_6, show (6 : Int) + 1 = 7 by omega,
    years_step _ _ _ _ _ _ _ _ 7 (by omega) (by omega) (by omega), Cal.mlen_7, show (7 : Int) + 1 = 8 by omega,
    years_step _ _ _ _ _ _ _ _ 8 (by omega) (by omega) (by omega), Cal.mlen_8, show (8 : Int) + 1 = 9 by omega,
    years_step _ _ _ _ _ _ _ _ 9 (by omega) (by omega) (by omega), Cal.mlen_9, show (9 : Int) + 1 = 10 by omega,
    years_step _ _ _ _ _ _ _ _ 10 (by omega) (by omega) (by omega), Cal.mlen_10, show (10 : Int) + 1 = 11 by omega,
    years_step _ _ _ _ _ _ _ _ 11 (by omega) (by omega) (by omega), Cal.mlen_11, show (11 : Int) + 1 = 12 by omega,
    years_step _ _ _ _ _ _ _ _ 12 (by omega) (by omega) (by omega), Cal.mlen_12, show (12 : Int) + 1 = 13 by omega]
  rw [lustrumlaw02_CivilYears.l0, if_neg (by omega), leap_eq y (by omega)]
  simp only [Option.bind_some, decide_eq_true_eq]
  rw [Cal.mlen_2] at hz
  by_cases hl : Cal.Leap y
  · rw [if_pos hl] at hz
    rw [if_pos hl]
    exact years_want y 366 _ hy (by rw [if_pos hl]) (by omega)
  · rw [if_neg hl] at hz
    rw [if_neg hl]
    exact years_want y 365 _ hy (by rw [if_neg hl]) (by omega)
end Go.Proofs.YtbnlndiphflmpaaDoor.Pure
