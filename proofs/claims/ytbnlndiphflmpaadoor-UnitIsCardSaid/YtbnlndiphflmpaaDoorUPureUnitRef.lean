/- The document's answer for units, as the printed functions tell it: the same units. Plain facts, no program's run in sight. -/
import Derived.Test.YtbnlndiphflmpaaDoorUPureUnit
import Derived.Test.YtbnlndiphflmpaaDoorUPureCivilRef
namespace Go.Proofs.YtbnlndiphflmpaaDoor.UPure
open Go.RowKit Go.Proofs.YtbnlndiphflmpaaDoor.PU Go.Proofs.YtbnlndiphflmpaaDoorW.PrintWords Go.Proofs.YtbnlndiphflmpaaDoorW.PrintLast
set_option linter.unusedVariables false

theorem rucount_eq (kind : Int) : lustrumref03_Count.f kind = some (UCal.ucount kind) := by
  unfold lustrumref03_Count.f UCal.ucount UCal.tab
  repeat' split
  all_goals first | rfl | omega | simp_all
theorem rnum_first (k : Nat) (q : Int) (hk : 15 ≤ k) (h : 0 ≤ q ∧ q < 120000) : lustrumref02_Number.f k (q / 12) (q % 12 + 1) 1 = some (UCal.mfirst q, true) := by
  rw [rnumber_eq k _ _ _ hk, if_pos (UCal.valid_first h)]
  rfl
theorem rfirst_no (k : Nat) (kind i : Int) : lustrumref03_First.j0 (k + 1) kind i true = some (0, false) := by
  simp only [lustrumref03_First.j0, if_true]
theorem rufirst_eq (k : Nat) (kind i : Int) (hk : 20 ≤ k) : lustrumref03_First.f k kind i = some (if 0 ≤ i ∧ i < UCal.ucount kind then (UCal.ufirst kind i, true) else (0, false)) := by
  obtain ⟨k, rfl⟩ : ∃ m, k = m + 1 := ⟨k - 1, by omega⟩
  unfold lustrumref03_First.f
  by_cases h0 : i < 0
  · rw [if_pos h0, if_neg (by omega), rfirst_no]
  · rw [if_neg h0, rucount_eq]
    simp only [Option.bind_some]
    by_cases h1 : i ≥ UCal.ucount kind
    · rw [decide_eq_true h1, if_neg (by omega), rfirst_no]
    · rw [decide_eq_false h1, if_pos (by omega)]
      rw [lustrumref03_First.j0, if_neg (by simp)]
      unfold UCal.ufirst
      by_cases hk0 : kind = 0
      · rw [if_pos hk0, if_pos hk0]
      · rw [if_neg hk0, if_neg hk0]
        cases ht : UCal.tab kind with
        | none =>
          have hc : UCal.ucount kind = 0 := by unfold UCal.ucount; rw [if_neg hk0, ht]
          omega
        | some t =>
          obtain ⟨m, f, c⟩ := t
          have hc : UCal.ucount kind = c := by unfold UCal.ucount; rw [if_neg hk0, ht]
          rw [hc] at h1
          have hf := UCal.tab_fit ht (show 0 ≤ i by omega) (show i < c by omega)
          have rn := rnum_first k (f + m * i) (by omega) ⟨hf.1, hf.2.1⟩
          simp only
          rcases UCal.tab_cases ht with ⟨rfl, rfl, rfl, rfl⟩ | ⟨rfl, rfl, rfl, rfl⟩ | ⟨rfl, rfl, rfl, rfl⟩ | ⟨rfl, rfl, rfl, rfl⟩ | ⟨rfl, rfl, rfl, rfl⟩
          · rw [if_pos rfl, tdivs (by omega), tmods (by omega), w64s (n := i / 12) (by omega), w64s (n := i % 12 + 1) (by omega)]
            rw [show i / 12 = (0 + 1 * i) / 12 by omega, show i % 12 + 1 = (0 + 1 * i) % 12 + 1 by omega, rn]
            rfl
          · rw [if_neg (by omega), if_pos rfl, tdivs (by omega), tmods (by omega), w64s (n := i / 4) (by omega), w64s (n := i % 4 * 3) (by omega), w64s (n := i % 4 * 3 + 3) (by omega)]
            rw [show i / 4 = (2 + 3 * i) / 12 by omega, show i % 4 * 3 + 3 = (2 + 3 * i) % 12 + 1 by omega, rn]
            rfl
          · rw [if_neg (by omega), if_neg (by omega), if_pos rfl]
            rw [show (0 + 12 * i) / 12 = i by omega, show (0 + 12 * i) % 12 + 1 = 1 by omega] at rn
            rw [rn]
            rfl
          · rw [if_neg (by omega), if_neg (by omega), if_neg (by omega), if_pos rfl, w64s (n := i * 10) (by omega)]
            rw [show (0 + 120 * i) / 12 = i * 10 by omega, show (0 + 120 * i) % 12 + 1 = 1 by omega] at rn
            rw [rn]
            rfl
          · rw [if_neg (by omega), if_neg (by omega), if_neg (by omega), if_neg (by omega), w64s (n := i * 100) (by omega)]
            rw [show (0 + 1200 * i) / 12 = i * 100 by omega, show (0 + 1200 * i) % 12 + 1 = 1 by omega] at rn
            rw [rn]
            rfl
theorem rlast_no (k : Nat) (kind i : Int) : lustrumref03_Last.j0 (k + 1) kind i true = some (0, false) := by
  simp only [lustrumref03_Last.j0, if_true]
theorem rulast_eq (k : Nat) (kind i : Int) (hk : 21 ≤ k) (hi : i ≤ 9223372036854775807) : lustrumref03_Last.f k kind i = some (if 0 ≤ i ∧ i < UCal.ucount kind then (UCal.ulast kind i, true) else (0, false)) := by
  obtain ⟨k, rfl⟩ : ∃ m, k = m + 1 := ⟨k - 1, by omega⟩
  have hc := UCal.ucount_pos kind
  unfold lustrumref03_Last.f
  by_cases h0 : i < 0
  · rw [if_pos h0, if_neg (by omega), rlast_no]
  · rw [if_neg h0, rucount_eq]
    simp only [Option.bind_some]
    by_cases h1 : i ≥ UCal.ucount kind
    · rw [decide_eq_true h1, if_neg (by omega), rlast_no]
    · rw [decide_eq_false h1, if_pos (by omega)]
      rw [lustrumref03_Last.j0, if_neg (by simp), w64s (n := i + 1) (by omega), rufirst_eq k kind (i + 1) (by omega)]
      simp only [Option.bind_some]
      by_cases hl : i = UCal.ucount kind - 1
      · rw [if_neg (show ¬ (0 ≤ i + 1 ∧ i + 1 < UCal.ucount kind) by omega)]
        unfold UCal.ulast
        rw [if_pos hl]
        rfl
      · rw [if_pos (show 0 ≤ i + 1 ∧ i + 1 < UCal.ucount kind by omega)]
        simp only [if_true]
        have hn := UCal.ulast_next (kind := kind) (i := i) (by omega)
        have b := UCal.unit_in (kind := kind) (i := i + 1) (by omega) (by omega)
        rw [w64s (n := UCal.ufirst kind (i + 1) - 1) (by omega), hn]
        congr 2
        omega
theorem ruof_eq (k : Nat) (kind day : Int) (hk : 10020 ≤ k) : lustrumref03_Of.f k kind day = some (match UCal.uof kind day with | some n => (n, true) | none => (0, false)) := by
  unfold lustrumref03_Of.f
  rw [rdate_eq k day hk]
  simp only [Option.bind_some]
  unfold UCal.uof
  by_cases hd : 0 ≤ day ∧ day ≤ 3652424
  · rw [if_pos hd, if_pos hd]
    obtain ⟨v, e⟩ := UCal.date_num hd
    have hm := UCal.valid_month v
    have v0 := v.1
    have v1 := v.2.1
    rw [if_neg (by omega)]
    by_cases h0 : kind = 0
    · rw [if_pos h0, if_pos h0]
    · rw [if_neg h0, if_neg h0]
      have hmon : UCal.mon day = 12 * (UCal.dateOf day).1 + (UCal.dateOf day).2.1 - 1 := rfl
      generalize (UCal.dateOf day).1 = y at *
      generalize (UCal.dateOf day).2.1 = mo at *
      cases ht : UCal.tab kind with
      | none =>
        have hn : kind ≠ 1 ∧ kind ≠ 2 ∧ kind ≠ 3 ∧ kind ≠ 4 ∧ kind ≠ 5 := by
          refine ⟨?_, ?_, ?_, ?_, ?_⟩ <;> (rintro rfl; cases ht)
        rw [if_neg hn.1, if_neg hn.2.1, if_neg hn.2.2.1, if_neg hn.2.2.2.1, if_neg hn.2.2.2.2]
      | some t =>
        obtain ⟨m, f, c⟩ := t
        simp only
        rcases UCal.tab_cases ht with ⟨rfl, rfl, rfl, rfl⟩ | ⟨rfl, rfl, rfl, rfl⟩ | ⟨rfl, rfl, rfl, rfl⟩ | ⟨rfl, rfl, rfl, rfl⟩ | ⟨rfl, rfl, rfl, rfl⟩
        · rw [if_pos rfl, w64s (n := y * 12) (by omega), w64s (n := y * 12 + mo) (by omega), w64s (n := y * 12 + mo - 1) (by omega), if_neg (by omega)]
          simp only
          congr 2
          omega
        · rw [if_neg (by omega), if_pos rfl, tdivs (by omega), w64s (n := y * 4) (by omega), w64s (n := mo / 3) (by omega), w64s (n := y * 4 + mo / 3) (by omega), w64s (n := y * 4 + mo / 3 - 1) (by omega)]
          by_cases hl : UCal.mon day - 2 < 0
          · rw [if_pos hl]
            simp only
            congr 1
            unfold mx
            rw [if_pos (by omega), decide_eq_false (by omega)]
          · rw [if_neg hl]
            simp only
            congr 1
            unfold mx
            rw [if_neg (by omega), decide_eq_true (by omega)]
            congr 1
            omega
        · rw [if_neg (by omega), if_neg (by omega), if_pos rfl, if_neg (by omega)]
          simp only
          congr 2
          omega
        · rw [if_neg (by omega), if_neg (by omega), if_neg (by omega), if_pos rfl, tdivs (by omega), w64s (n := y / 10) (by omega), if_neg (by omega)]
          simp only
          congr 2
          omega
        · rw [if_neg (by omega), if_neg (by omega), if_neg (by omega), if_neg (by omega), if_pos rfl, tdivs (by omega), w64s (n := y / 100) (by omega), if_neg (by omega)]
          simp only
          congr 2
          omega
  · rw [if_neg hd, if_neg hd]
    simp
end Go.Proofs.YtbnlndiphflmpaaDoor.UPure
