/- Units are within units: the first and the last day of a month are in one year, that number is a twelfth; those of a year in one decade, of a decade in one century; those of a month in one season, or in none. No condition. -/
import Derived.Test.YtbnlndiphflmpabDoorPUx1
import Derived.Test.YtbnlndiphflmpabDoorPUx2
import Derived.Test.YtbnlndiphflmpabDoorUPureUnitAwake
namespace Go.Proofs.YtbnlndiphflmpabDoor.Pure
open Go.RowKit Go.Proofs.YtbnlndiphflmpabDoor.PU Go.Proofs.YtbnlndiphflmpabDoor.UPure Go.Proofs.YtbnlndiphflmpabDoorW.PrintWords Go.Proofs.YtbnlndiphflmpabDoorW.PrintLast
set_option linter.unusedVariables false
theorem within_mon {k : Int} (h : 0 ≤ k ∧ k < 120000) {d : Int} (h0 : UCal.mfirst k ≤ d) (h1 : d < UCal.mfirst (k + 1)) : (0 ≤ d ∧ d ≤ 3652424) ∧ UCal.mon d = k := by
  have b := UCal.mfirst_bounds h
  have hs := UCal.mfirst_mono (a := k + 1) (b := 120000) (by omega) (by omega)
  rw [UCal.mfirst_120000] at hs
  have hd : 0 ≤ d ∧ d ≤ 3652424 := by omega
  refine ⟨hd, ?_⟩
  have a1 := (UCal.le_mon hd h.1).mp h0
  have a2 : ¬ k + 1 ≤ UCal.mon d := fun z => by have := (UCal.le_mon hd (by omega)).mpr z; omega
  omega
theorem uof_mon {d k : Int} (hd : 0 ≤ d ∧ d ≤ 3652424) (hk : UCal.mon d = k) (_h : 0 ≤ k) : UCal.uof 3 d = some (k / 12) ∧ UCal.uof 2 d = (if k < 2 then none else some ((k - 2) / 3)) ∧ UCal.uof 4 d = some (k / 120) ∧ UCal.uof 5 d = some (k / 1200) := by
  have t3 : UCal.tab 3 = some (12, 0, 10000) := rfl
  have t2 : UCal.tab 2 = some (3, 2, 40000) := rfl
  have t4 : UCal.tab 4 = some (120, 0, 1000) := rfl
  have t5 : UCal.tab 5 = some (1200, 0, 100) := rfl
  unfold UCal.uof
  rw [t3, t2, t4, t5, hk]
  simp only [if_pos hd]
  refine ⟨?_, ?_, ?_, ?_⟩
  · rw [if_neg (by omega), if_neg (by omega), show k - 0 = k by omega]
  · rw [if_neg (by omega)]; split <;> split <;> first | rfl | omega
  · rw [if_neg (by omega), if_neg (by omega), show k - 0 = k by omega]
  · rw [if_neg (by omega), if_neg (by omega), show k - 0 = k by omega]
theorem month_days {k : Int} (h : 0 ≤ k ∧ k < 120000) : UCal.ufirst 1 k = UCal.mfirst k ∧ UCal.ulast 1 k = UCal.mfirst (k + 1) - 1 := by
  have e : ∀ i, UCal.ufirst 1 i = UCal.mfirst i := by
    intro i
    show UCal.mfirst (0 + 1 * i) = _
    rw [show 0 + 1 * i = i by omega]
  refine ⟨e k, ?_⟩
  unfold UCal.ulast
  rw [show UCal.ucount 1 = 120000 from rfl, e]
  split
  · rename_i z
    rw [show k + 1 = 120000 by omega, UCal.mfirst_120000]
    omega
  · rfl
theorem UnitWithin : lustrumlaw03_UnitWithin.Pure := by
  intro a _
  unfold lustrumlaw03_UnitWithin.f
  rw [awake03_eq, and_24, tmods (by omega)]
  have hk : 0 ≤ a % 16777216 % 120000 ∧ a % 16777216 % 120000 < 120000 := by omega
  generalize a % 16777216 % 120000 = k at *
  rw [ufirst_eq, ulast_eq, show UCal.ucount 1 = 120000 from rfl, if_pos hk, if_pos hk]
  obtain ⟨e1, e2⟩ := month_days hk
  rw [e1, e2]
  have hs := UCal.mfirst_step hk.1
  obtain ⟨d1, m1⟩ := within_mon hk (Int.le_refl _) (by omega)
  obtain ⟨d2, m2⟩ := within_mon hk (d := UCal.mfirst (k + 1) - 1) (by omega) (by omega)
  obtain ⟨a3, a2, a4, a5⟩ := uof_mon d1 m1 hk.1
  obtain ⟨b3, b2, b4, b5⟩ := uof_mon d2 m2 hk.1
  simp only [Option.bind_some]
  rw [uof_eq, uof_eq, uof_eq, uof_eq, uof_eq, uof_eq, a3, b3, a2, b2, b4, a5]
  simp only [Option.bind_some, if_true, beq_self_eq_true]
  have q1 : wrap64 (Int.tdiv k 12) = k / 12 := by rw [tdivs (by omega), w64s (by omega)]
  have q2 : wrap64 (Int.tdiv (k / 12) 10) = k / 120 := by rw [tdivs (by omega), w64s (by omega)]; omega
  have q3 : wrap64 (Int.tdiv (k / 120) 10) = k / 1200 := by rw [tdivs (by omega), w64s (by omega)]; omega
  rw [q1, q2, q3]
  by_cases h2 : k < 2
  · simp only [if_pos h2, decide_eq_false (show ¬ k ≥ 2 by omega)]
    simp
  · have q4 : wrap64 (Int.tdiv (wrap64 (k - 2)) 3) = (k - 2) / 3 := by rw [w64s (n := k - 2) (by omega), tdivs (by omega), w64s (by omega)]
    simp only [if_neg h2, decide_eq_true (show k ≥ 2 by omega), q4]
    simp
end Go.Proofs.YtbnlndiphflmpabDoor.Pure
