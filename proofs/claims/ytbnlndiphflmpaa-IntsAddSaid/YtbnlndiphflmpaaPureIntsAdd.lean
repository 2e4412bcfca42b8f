/- A sum of two numbers is a sum, or too great: either way round; less one it is the other one; if it is none, both are above 0, or both below. No condition. -/
import Derived.Test.YtbnlndiphflmpaaPureInts
namespace Go.Proofs.Ytbnlndiphflmpaa.Pure
open Go.RowKit Go.Proofs.Ytbnlndiphflmpaa.PI Go.Proofs.YtbnlndiphflmpaaW.PrintWords Go.Proofs.YtbnlndiphflmpaaW.PrintLast

theorem IntsAdd : lustrumlaw01_IntsAdd.Pure := by
  intro a b ha hb
  replace ha := wf_in ha
  replace hb := wf_in hb
  refine ⟨1, ?_⟩
  unfold lustrumlaw01_IntsAdd.f
  rw [awake_eq, add_eq a b ha hb, add_eq b a hb ha, Int.add_comm b a]
  by_cases h : -9223372036854775808 ≤ a + b ∧ a + b ≤ 9223372036854775807
  · rw [told_yes h]
    have e : wrap64 (a + b - b) = a := by rw [w64 (by omega) (by omega)]; omega
    simp only [Option.bind_some, bne_self_eq_false, Bool.false_eq_true, if_false, lustrumlaw01_IntsAdd.j0, if_true]
    rw [e, if_pos rfl]
    by_cases h1 : b < 0
    · rw [if_pos h1, if_neg (by omega)]; simp; omega
    · rw [if_neg h1, if_pos (by omega)]
      by_cases h2 : b > 0
      · rw [if_pos h2]
      · rw [if_neg h2]; simp; omega
  · rw [told_no h]
    have hw : wrap64 (a + b) = if a + b < 0 then a + b + 18446744073709551616 else a + b - 18446744073709551616 := by
      unfold wrap64; split <;> omega
    simp only [Option.bind_some, bne_self_eq_false, Bool.false_eq_true, if_false, lustrumlaw01_IntsAdd.j0, if_true]
    rw [hw]
    by_cases h0 : a + b < 0
    · rw [if_pos h0, if_neg (by omega), if_pos (by omega), if_pos (by omega)]; simp; omega
    · rw [if_neg h0, if_pos (by omega), if_pos (by omega), if_pos (by omega)]
end Go.Proofs.Ytbnlndiphflmpaa.Pure
