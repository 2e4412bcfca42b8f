/- The whole part and what is left lead back, of any number and any divisor of at least 1; what is left is 0 to one less than the divisor; with a lesser divisor both are 0. No condition. -/
import Derived.Test.YtbnlndiphflmpaaPureInts
namespace Go.Proofs.Ytbnlndiphflmpaa.Pure
open Go.RowKit Go.Proofs.Ytbnlndiphflmpaa.PI Go.Proofs.YtbnlndiphflmpaaW.PrintWords Go.Proofs.YtbnlndiphflmpaaW.PrintLast

theorem mul_back (a b : Int) (ha : -9223372036854775808 ≤ a ∧ a ≤ 9223372036854775807) (hb : 1 ≤ b) (hb' : b ≤ 9223372036854775807) : wrap64 (wrap64 (a / b * b) + a % b) = a := by
  have h2 := Int.mul_ediv_add_emod a b
  have h3 := Int.emod_nonneg a (show b ≠ 0 by omega)
  have h4 := Int.emod_lt_of_pos a (show 0 < b by omega)
  rw [Int.mul_comm] at h2
  generalize a / b * b = p at *
  generalize a % b = r at *
  unfold wrap64
  omega
theorem IntsBack : lustrumlaw01_IntsBack.Pure := by
  intro a b ha hb
  replace ha := wf_in ha
  replace hb := wf_in hb
  unfold lustrumlaw01_IntsBack.f
  rw [awake_eq, floor_eq a b ha hb.2, mod_eq a b ha hb.2]
  simp only [Option.bind_some, if_true]
  by_cases h : b < 1
  · rw [if_pos h]; unfold floorS modS; simp [h]
  · rw [if_neg h]
    have h3 := Int.emod_nonneg a (show b ≠ 0 by omega)
    have h4 := Int.emod_lt_of_pos a (show 0 < b by omega)
    have e := mul_back a b ha (by omega) hb.2
    unfold floorS modS
    simp only [if_neg h]
    rw [if_pos h3, if_pos h4, if_pos e]
    by_cases h0 : a < 0
    · have := Int.ediv_neg_of_neg_of_pos h0 (show 0 < b by omega)
      rw [if_pos h0, if_neg (by omega)]; simp [this]
    · have hq := div_lo (show 1 ≤ b by omega) ha
      rw [if_neg h0, if_neg (by omega), tdiv_pos' (by omega), w64 hq.1 hq.2, if_pos rfl, if_pos (by omega)]
end Go.Proofs.Ytbnlndiphflmpaa.Pure
