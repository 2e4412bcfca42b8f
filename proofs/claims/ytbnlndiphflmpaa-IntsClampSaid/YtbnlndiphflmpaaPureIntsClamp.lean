/- What is within bounds stays: of any number and bounds it comes to lie within them, if they are some; nothing moves that lay there, and what was greater is no less. No condition. -/
import Derived.Test.YtbnlndiphflmpaaPureInts
namespace Go.Proofs.Ytbnlndiphflmpaa.Pure
open Go.RowKit Go.Proofs.Ytbnlndiphflmpaa.PI Go.Proofs.YtbnlndiphflmpaaW.PrintWords Go.Proofs.YtbnlndiphflmpaaW.PrintLast

theorem clamp_le {n lo hi : Int} (h : lo ≤ hi) : mx lo (mn n (mx lo hi)) = if n < lo then lo else if n > hi then hi else n := by
  unfold mx mn
  split <;> split <;> (try split) <;> (try split) <;> omega
theorem IntsClamp : lustrumlaw01_IntsClamp.Pure := by
  intro n m lo hi _ _ _ _
  unfold lustrumlaw01_IntsClamp.f
  rw [awake_eq, clamp_eq, clamp_eq]
  simp only [Option.bind_some, if_true]
  by_cases h : lo > hi
  · rw [if_pos h]
    have e : mx lo (mn n (mx lo hi)) = lo := by unfold mx mn; split <;> split <;> (try split) <;> omega
    rw [e]; simp
  · rw [if_neg h]
    have hl : lo ≤ hi := by omega
    have c := clamp_le (n := n) hl
    have d := clamp_le (n := m) hl
    generalize mx lo (mn n (mx lo hi)) = x at *
    generalize mx lo (mn m (mx lo hi)) = y at *
    have e : ints_Clamp.f x lo hi = some x := by
      rw [clamp_eq, clamp_le hl]; congr 1
      rw [c]; split <;> (try split) <;> (try split) <;> (try split) <;> omega
    rw [e]
    simp only [Option.bind_some, beq_self_eq_true]
    have f1 : x ≥ lo := by rw [c]; split <;> (try split) <;> omega
    have f2 : x ≤ hi := by rw [c]; split <;> (try split) <;> omega
    have f3 : ¬ n > m → x ≤ y := by intro z; rw [c, d]; split <;> (try split) <;> (try split) <;> (try split) <;> omega
    rw [if_pos f1, if_pos f2]
    have f4 : (if n > m then some true else if x ≤ y then some true else some false) = some true := by
      split
      · rfl
      · rename_i z; rw [if_pos (f3 z)]
    split
    · exact f4
    · rename_i z1
      split
      · exact f4
      · rename_i z2
        rw [if_pos (by rw [c, if_neg z1, if_neg z2])]
        exact f4
end Go.Proofs.Ytbnlndiphflmpaa.Pure
