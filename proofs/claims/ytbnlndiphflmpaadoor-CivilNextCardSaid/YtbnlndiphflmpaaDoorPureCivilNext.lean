/- Each day is followed by the next one: of the same month, or the first one of the next month, of the next year behind December; weekdays go round. No condition. -/
import Derived.Test.YtbnlndiphflmpaaDoorPCx2
import Derived.Test.YtbnlndiphflmpaaDoorPureAwake
namespace Go.Proofs.YtbnlndiphflmpaaDoor.Pure
open Go.RowKit Go.Proofs.YtbnlndiphflmpaaDoor.PC Go.Proofs.YtbnlndiphflmpaaDoorW.PrintWords Go.Proofs.YtbnlndiphflmpaaDoorW.PrintLast
theorem next_date {y m d n : Int} (v : Cal.Valid y m d) (e : Cal.num y m d = n) (hn : n < 3652424) :
    Cal.dateOf (n + 1) = if d < Cal.mlen y m then (y, m, d + 1) else if m < 12 then (y, m + 1, 1) else (y + 1, 1, 1) := by
  have hm := Cal.valid_month v
  have hl := Cal.mlen_pos (y := y) hm.1 hm.2
  obtain ⟨v0, v1, v2, v3⟩ := v
  have ed := Cal.num_day y m d
  by_cases h1 : d < Cal.mlen y m
  · rw [if_pos h1, show n + 1 = Cal.num y m (d + 1) by rw [Cal.num_day]; omega]
    exact Cal.date_of_num ⟨v0, v1, by omega, by omega⟩
  · rw [if_neg h1]
    by_cases h2 : m < 12
    · have := Cal.num_month (y := y) hm.1 (show m ≤ 11 by omega)
      have hl' := Cal.mlen_pos (y := y) (m := m + 1) (by omega) (by omega)
      rw [if_pos h2, show n + 1 = Cal.num y (m + 1) 1 by omega]
      exact Cal.date_of_num ⟨v0, v1, by omega, by omega⟩
    · have e12 : m = 12 := by omega
      subst e12
      have := Cal.num_december y
      rw [Cal.mlen_12] at h1 hl v3
      have hd : d = 31 := by omega
      subst hd
      have hy : y ≠ 9999 := by
        rintro rfl
        have : Cal.num 9999 12 31 = 3652424 := by decide
        omega
      rw [if_neg h2, show n + 1 = Cal.num (y + 1) 1 1 by omega]
      exact Cal.date_of_num ⟨by omega, by omega, by omega, by rw [Cal.mlen_1]; omega⟩
theorem CivilNext : lustrumlaw02_CivilNext.Pure := by
  intro a _
  refine ⟨1, ?_⟩
  unfold lustrumlaw02_CivilNext.f
  rw [awake_eq, and_22]
  have bn : 0 ≤ a % 4194304 ∧ a % 4194304 < 4194304 := by omega
  generalize a % 4194304 = n at *
  simp only [Option.bind_some, if_true]
  rw [w64s (n := n + 1) (by omega)]
  by_cases h : n ≥ 3652424
  · rw [if_pos h, weekday_eq, if_neg (by omega)]; rfl
  · rw [if_neg h, date_eq, if_pos (by omega), date_eq, if_pos (by omega), weekday_eq, if_pos (by omega), weekday_eq, if_pos (by omega)]
    obtain ⟨v, e⟩ := Cal.date_num (n := n) (by omega)
    have nd := next_date v e (by omega)
    have v1 := v.1
    have v2 := v.2.1
    have hm := Cal.valid_month v
    have v3 := v.2.2.1
    have v4 := v.2.2.2
    have hl := Cal.mlen_pos (y := (Cal.dateOf n).1) hm.1 hm.2
    simp only [Option.bind_some]
    rw [w64s (n := (n + 5) % 7 + 1) (by omega), tmods (by omega), if_pos (by omega), days_eq _ _ (by omega)]
    simp only [Option.bind_some]
    rw [nd, w64s (n := (Cal.dateOf n).2.2 + 1) (by omega), w64s (n := (Cal.dateOf n).2.1 + 1) (by omega), w64s (n := (Cal.dateOf n).1 + 1) (by omega)]
    by_cases h1 : (Cal.dateOf n).2.2 < Cal.mlen (Cal.dateOf n).1 (Cal.dateOf n).2.1
    · rw [if_pos h1, if_pos h1]; simp
    · rw [if_neg h1, if_neg h1]
      by_cases h2 : (Cal.dateOf n).2.1 < 12
      · rw [if_pos h2, if_pos h2]; simp
      · rw [if_neg h2, if_neg h2]; simp
end Go.Proofs.YtbnlndiphflmpaaDoor.Pure
