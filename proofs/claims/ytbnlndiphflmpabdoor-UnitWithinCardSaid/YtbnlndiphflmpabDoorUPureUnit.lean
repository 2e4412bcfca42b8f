/- Units, as the contracts tell them: how many there are, a unit's first and last day, the unit of a day. Plain facts, no program's run in sight. -/
import Derived.Test.YtbnlndiphflmpabDoorUPureCivil
import Derived.Test.YtbnlndiphflmpabDoorUCalUnit
namespace Go.Proofs.YtbnlndiphflmpabDoor.UPure
open Go.RowKit Go.Proofs.YtbnlndiphflmpabDoor.PU Go.Proofs.YtbnlndiphflmpabDoorW.PrintWords Go.Proofs.YtbnlndiphflmpabDoorW.PrintLast
set_option linter.unusedVariables false

theorem unit_tab_eq (kind : Int) : unit_tab kind = UCal.tab kind := rfl
theorem ucount_eq (kind : Int) : unit_Count.f kind = some (UCal.ucount kind) := by
  unfold unit_Count.f UCal.ucount
  rw [unit_tab_eq]
  split
  · rfl
  · split <;> simp_all
theorem begins_eq (m f i : Int) (h : 0 ≤ f + m * i ∧ f + m * i < 120000) : unit_begins.f m f i = some (UCal.mfirst (f + m * i)) := by
  unfold unit_begins.f UCal.mfirst
  have v := UCal.valid_first h
  have v0 := v.1
  have v1 := v.2.1
  rw [number_eq _ _ _ (by omega), if_pos v]
  rfl
theorem ufirst_eq (kind i : Int) : unit_First.f kind i = some (if 0 ≤ i ∧ i < UCal.ucount kind then (UCal.ufirst kind i, true) else (0, false)) := by
  unfold unit_First.f UCal.ufirst UCal.ucount
  rw [unit_tab_eq]
  by_cases h0 : kind = 0
  · rw [if_pos h0, if_pos h0, if_pos h0]; split <;> rfl
  · rw [if_neg h0, if_neg h0, if_neg h0]
    cases ht : UCal.tab kind with
    | none => simp only; rw [if_neg (by omega)]
    | some t =>
      obtain ⟨m, f, c⟩ := t
      simp only
      by_cases hi : 0 ≤ i ∧ i < c
      · have hf := UCal.tab_fit ht hi.1 hi.2
        rw [if_pos hi, if_pos hi, begins_eq m f i ⟨hf.1, hf.2.1⟩]; rfl
      · rw [if_neg hi, if_neg hi]
theorem ulast_eq (kind i : Int) : unit_Last.f kind i = some (if 0 ≤ i ∧ i < UCal.ucount kind then (UCal.ulast kind i, true) else (0, false)) := by
  unfold unit_Last.f UCal.ulast
  rw [unit_tab_eq]
  by_cases h0 : kind = 0
  · subst h0
    rw [if_pos rfl]
    have e : UCal.ufirst 0 (i + 1) = i + 1 := rfl
    rw [UCal.ucount_0, e]
    split
    · congr 2
      split <;> omega
    · rfl
  · rw [if_neg h0]
    cases ht : UCal.tab kind with
    | none =>
      have hc : UCal.ucount kind = 0 := by unfold UCal.ucount; rw [if_neg h0, ht]
      simp only; rw [if_neg (by omega)]
    | some t =>
      obtain ⟨m, f, c⟩ := t
      have hc : UCal.ucount kind = c := by unfold UCal.ucount; rw [if_neg h0, ht]
      have hu : UCal.ufirst kind (i + 1) = UCal.mfirst (f + m * (i + 1)) := by unfold UCal.ufirst; rw [if_neg h0, ht]
      rw [hc, hu]
      simp only
      by_cases hi : 0 ≤ i ∧ i < c
      · rw [if_pos hi, if_pos hi]
        have hf := UCal.tab_fit ht hi.1 hi.2
        by_cases hl : i = c - 1
        · rw [if_pos hl, if_pos hl]
        · have hm : 1 ≤ m := by have := UCal.tab_cases ht; omega
          have hr : 0 ≤ f + m * (i + 1) ∧ f + m * (i + 1) < 120000 := ⟨by rw [Int.mul_add, Int.mul_one]; omega, hf.2.2.1 (by omega)⟩
          have b := UCal.mfirst_bounds hr
          rw [if_neg hl, if_neg hl, begins_eq m f (i + 1) hr]
          simp only [Option.bind_some]
          rw [if_pos (by omega)]
      · rw [if_neg hi, if_neg hi]
theorem uof_eq (kind day : Int) : unit_Of.f kind day = some (match UCal.uof kind day with | some n => (n, true) | none => (0, false)) := by
  unfold unit_Of.f UCal.uof
  rw [unit_tab_eq]
  by_cases hd : 0 ≤ day ∧ day ≤ 3652424
  · rw [if_pos hd, if_pos hd]
    by_cases h0 : kind = 0
    · rw [if_pos h0, if_pos h0]
    · rw [if_neg h0, if_neg h0]
      cases ht : UCal.tab kind with
      | none => rfl
      | some t =>
        obtain ⟨m, f, c⟩ := t
        simp only
        obtain ⟨v, e⟩ := UCal.date_num hd
        have hm := UCal.valid_month v
        have v0 := v.1
        have v1 := v.2.1
        have hmon : unit_monthly.f2 day = some (UCal.mon day) := by
          unfold unit_monthly.f2
          rw [date_eq, if_pos hd]
          simp only [Option.bind_some]
          rw [if_pos (by omega)]
          rfl
        unfold unit_number.f
        rw [hmon]
        simp only [Option.bind_some]
        have hm1 : 1 ≤ m := by have := UCal.tab_cases ht; omega
        by_cases hl : UCal.mon day - f < 0
        · rw [if_pos hl, if_pos hl]; rfl
        · have := Int.ediv_nonneg (a := UCal.mon day - f) (b := m) (by omega) (by omega)
          rw [if_neg hl, if_neg hl, if_pos this]
  · rw [if_neg hd, if_neg hd]
end Go.Proofs.YtbnlndiphflmpabDoor.UPure
