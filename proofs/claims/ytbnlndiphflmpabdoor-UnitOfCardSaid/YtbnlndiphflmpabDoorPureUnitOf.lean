/- A day is in its unit, of any kind and day: that unit begins no later, and ends no earlier; the first and the last day of every unit have that number. No condition. -/
import Derived.Test.YtbnlndiphflmpabDoorPUx1
import Derived.Test.YtbnlndiphflmpabDoorPUx2
import Derived.Test.YtbnlndiphflmpabDoorUPureUnitAwake
namespace Go.Proofs.YtbnlndiphflmpabDoor.Pure
open Go.RowKit Go.Proofs.YtbnlndiphflmpabDoor.PU Go.Proofs.YtbnlndiphflmpabDoor.UPure Go.Proofs.YtbnlndiphflmpabDoorW.PrintWords Go.Proofs.YtbnlndiphflmpabDoorW.PrintLast
theorem uof_first {kind i : Int} (h0 : 0 ≤ i) (h1 : i < UCal.ucount kind) : UCal.uof kind (UCal.ufirst kind i) = some i := by
  have hu := UCal.unit_in h0 h1
  exact UCal.uof_some.mpr ⟨h0, h1, Int.le_refl _, by omega⟩
theorem uof_last {kind i : Int} (h0 : 0 ≤ i) (h1 : i < UCal.ucount kind) : UCal.uof kind (UCal.ulast kind i) = some i := by
  have hu := UCal.unit_in h0 h1
  exact UCal.uof_some.mpr ⟨h0, h1, by omega, Int.le_refl _⟩
theorem of_last (kind i : Int) : lustrumlaw03_UnitOf.j0 1 kind i true false = some true := by
  simp only [lustrumlaw03_UnitOf.j0, Bool.false_eq_true, if_false, if_true]
  rw [ufirst_eq, ulast_eq]
  by_cases h : 0 ≤ i ∧ i < UCal.ucount kind
  · rw [if_pos h, if_pos h]
    simp only [Option.bind_some]
    rw [uof_eq, uof_eq, uof_first h.1 h.2, uof_last h.1 h.2]
    simp
  · rw [if_neg h, if_neg h]
    simp
theorem of_none {kind day : Int} (hd : 0 ≤ day ∧ day ≤ 3652424) (h : UCal.uof kind day = none) : UCal.ucount kind = 0 ∨ (kind = 2 ∧ day < 60) := by
  unfold UCal.uof at h
  rw [if_pos hd] at h
  by_cases h0 : kind = 0
  · rw [if_pos h0] at h; cases h
  · rw [if_neg h0] at h
    cases ht : UCal.tab kind with
    | none => left; unfold UCal.ucount; rw [if_neg h0, ht]
    | some t =>
      obtain ⟨m, f, c⟩ := t
      rw [ht] at h
      simp only at h
      have hm := UCal.mon_spec hd
      split at h
      · rename_i hl
        rcases UCal.tab_cases ht with ⟨rfl, rfl, rfl, rfl⟩ | ⟨rfl, rfl, rfl, rfl⟩ | ⟨rfl, rfl, rfl, rfl⟩ | ⟨rfl, rfl, rfl, rfl⟩ | ⟨rfl, rfl, rfl, rfl⟩
        · omega
        · right
          refine ⟨rfl, ?_⟩
          have e : UCal.mfirst 2 = 60 := by decide
          have := (UCal.le_mon hd (k := 2) (by omega)).mp
          omega
        · omega
        · omega
        · omega
      · cases h
theorem UnitOf : lustrumlaw03_UnitOf.Pure := by
  intro kind k i hk0 hk hi
  refine ⟨1, ?_⟩
  unfold lustrumlaw03_UnitOf.f
  rw [awake03_eq, and_30, tmods (by omega)]
  have hd : 0 ≤ k % 1073741824 % 3652425 ∧ k % 1073741824 % 3652425 ≤ 3652424 := by omega
  generalize k % 1073741824 % 3652425 = day at *
  rw [uof_eq]
  simp only [Option.bind_some]
  cases hu : UCal.uof kind day with
  | none =>
    simp only [Bool.false_eq_true, if_false, if_true]
    rw [ucount_eq]
    simp only [Option.bind_some]
    rcases of_none hd hu with h | ⟨rfl, h⟩
    · rw [if_pos h]
    · rw [if_neg (by decide), if_pos rfl, decide_eq_true h]
  | some n =>
    obtain ⟨n0, n1, n2, n3⟩ := UCal.uof_some.mp hu
    simp only [if_true]
    rw [ufirst_eq, ulast_eq, if_pos ⟨n0, n1⟩, if_pos ⟨n0, n1⟩]
    simp only [Option.bind_some, if_true]
    rw [if_neg (by omega), if_neg (by omega), ucount_eq]
    simp only [Option.bind_some]
    rw [beq_eq_false_iff_ne.mpr (show UCal.ucount kind ≠ 0 by omega)]
    exact of_last kind i
end Go.Proofs.YtbnlndiphflmpabDoor.Pure
