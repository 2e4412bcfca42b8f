/- How long units are: a month has as many days as its month has; a season 90 to 92, but the last one 31; a year 365 or 366; a decade 3652 or 3653; a century 36524 or 36525. No condition. -/
import Derived.Test.YtbnlndiphflmpabDoorPUx1
import Derived.Test.YtbnlndiphflmpabDoorPUx2
import Derived.Test.YtbnlndiphflmpabDoorUPureUnitAwake
namespace Go.Proofs.YtbnlndiphflmpabDoor.Pure
open Go.RowKit Go.Proofs.YtbnlndiphflmpabDoor.PU Go.Proofs.YtbnlndiphflmpabDoor.UPure Go.Proofs.YtbnlndiphflmpabDoorW.PrintWords Go.Proofs.YtbnlndiphflmpabDoorW.PrintLast
/-- The days from a month's first one to another's, months of whole years apart. -/
theorem mfirst_year (y : Int) : UCal.mfirst (12 * y) = UCal.start y := by
  unfold UCal.mfirst
  rw [show 12 * y / 12 = y by omega, show 12 * y % 12 + 1 = 1 by omega, UCal.num_jan]
theorem season_size {i : Int} (h : 0 ≤ i) : 90 ≤ UCal.mfirst (2 + 3 * (i + 1)) - UCal.mfirst (2 + 3 * i) ∧ UCal.mfirst (2 + 3 * (i + 1)) - UCal.mfirst (2 + 3 * i) ≤ 92 := by
  have e1 := UCal.mfirst_succ (k := 2 + 3 * i) (by omega)
  have e2 := UCal.mfirst_succ (k := 2 + 3 * i + 1) (by omega)
  have e3 := UCal.mfirst_succ (k := 2 + 3 * i + 2) (by omega)
  rw [show 2 + 3 * (i + 1) = 2 + 3 * i + 2 + 1 by omega, e3, show 2 + 3 * i + 2 = 2 + 3 * i + 1 + 1 by omega, e2, e1]
  have hq : i % 4 = 0 ∨ i % 4 = 1 ∨ i % 4 = 2 ∨ i % 4 = 3 := by omega
  rcases hq with hq | hq | hq | hq
  · rw [show (2 + 3 * i) % 12 + 1 = 3 by omega, show (2 + 3 * i + 1) % 12 + 1 = 4 by omega, show (2 + 3 * i + 1 + 1) % 12 + 1 = 5 by omega, UCal.mlen_3, UCal.mlen_4, UCal.mlen_5]; omega
  · rw [show (2 + 3 * i) % 12 + 1 = 6 by omega, show (2 + 3 * i + 1) % 12 + 1 = 7 by omega, show (2 + 3 * i + 1 + 1) % 12 + 1 = 8 by omega, UCal.mlen_6, UCal.mlen_7, UCal.mlen_8]; omega
  · rw [show (2 + 3 * i) % 12 + 1 = 9 by omega, show (2 + 3 * i + 1) % 12 + 1 = 10 by omega, show (2 + 3 * i + 1 + 1) % 12 + 1 = 11 by omega, UCal.mlen_9, UCal.mlen_10, UCal.mlen_11]; omega
  · rw [show (2 + 3 * i) % 12 + 1 = 12 by omega, show (2 + 3 * i + 1) % 12 + 1 = 1 by omega, show (2 + 3 * i + 1 + 1) % 12 + 1 = 2 by omega, UCal.mlen_12, UCal.mlen_1, UCal.mlen_2]; split <;> omega
theorem ulast_at {kind m f c i : Int} (ht : UCal.tab kind = some (m, f, c)) (h0 : kind ≠ 0) (_hi : i < c) (hm : i = c - 1 → UCal.mfirst (f + m * (i + 1)) = 3652425) : UCal.ucount kind = c ∧ UCal.ufirst kind i = UCal.mfirst (f + m * i) ∧ UCal.ulast kind i = UCal.mfirst (f + m * (i + 1)) - 1 := by
  have hc : UCal.ucount kind = c := by unfold UCal.ucount; rw [if_neg h0, ht]
  have hu : ∀ i, UCal.ufirst kind i = UCal.mfirst (f + m * i) := by intro i; unfold UCal.ufirst; rw [if_neg h0, ht]
  refine ⟨hc, hu i, ?_⟩
  unfold UCal.ulast
  rw [hc, hu]
  split
  · rename_i z; rw [hm z]; omega
  · rfl
theorem sizes_in (kind i : Int) (h0 : 0 ≤ i) (h1 : i < UCal.ucount kind) : lustrumlaw03_UnitSizes.j0 1 kind true (UCal.ucount kind) i (UCal.ufirst kind i) (UCal.ulast kind i) false = some true := by
  have hu := UCal.unit_in h0 h1
  have hc := UCal.ucount_pos kind
  simp only [lustrumlaw03_UnitSizes.j0, Bool.false_eq_true, if_false, if_true]
  rw [w64s (n := UCal.ulast kind i - UCal.ufirst kind i) (by omega), w64s (n := UCal.ulast kind i - UCal.ufirst kind i + 1) (by omega), w64s (n := UCal.ucount kind - 1) (by omega)]
  by_cases hk : kind = 0
  · subst hk
    rw [if_pos rfl]
    have e : ∀ i, UCal.ufirst 0 i = i := fun i => rfl
    have el : UCal.ulast 0 i = i := by unfold UCal.ulast; rw [UCal.ucount_0, e]; rw [UCal.ucount_0] at h1; split <;> omega
    rw [el, e, show i - i + 1 = 1 by omega]
    simp
  · rw [if_neg hk]
    cases ht : UCal.tab kind with
    | none => exfalso; unfold UCal.ucount at h1; rw [if_neg hk, ht] at h1; simp at h1; omega
    | some t =>
      obtain ⟨m, f, c⟩ := t
      have hcc : UCal.ucount kind = c := by unfold UCal.ucount; rw [if_neg hk, ht]
      rw [hcc] at h1
      rcases UCal.tab_cases ht with ⟨rfl, rfl, rfl, rfl⟩ | ⟨rfl, rfl, rfl, rfl⟩ | ⟨rfl, rfl, rfl, rfl⟩ | ⟨rfl, rfl, rfl, rfl⟩ | ⟨rfl, rfl, rfl, rfl⟩
      · obtain ⟨_, e1, e2⟩ := ulast_at ht hk h1 (by rintro rfl; decide)
        rw [if_pos rfl, tdivs (by omega), tmods (by omega), w64s (n := i / 12) (by omega), w64s (n := i % 12 + 1) (by omega), days_eq _ _ (by omega)]
        have es := UCal.mfirst_succ h0
        rw [e1, e2, show 0 + 1 * i = i by omega, show 0 + 1 * (i + 1) = i + 1 by omega, es]
        simp only [Option.bind_some]
        congr 1
        rw [beq_iff_eq]
        omega
      · rw [if_neg (by omega), if_pos rfl]
        by_cases hl : i = 39999
        · subst hl
          rw [show UCal.ulast 2 39999 = 3652424 by decide, show UCal.ufirst 2 39999 = 3652394 by decide, show UCal.ucount 2 = 40000 from rfl]
          decide
        · have e : UCal.ulast 2 i = UCal.mfirst (2 + 3 * (i + 1)) - 1 := by
            unfold UCal.ulast
            rw [show UCal.ucount 2 = 40000 from rfl, if_neg (by omega)]
            rfl
          have s := season_size h0
          rw [e, show UCal.ufirst 2 i = UCal.mfirst (2 + 3 * i) from rfl, if_pos (by omega), if_pos (by omega)]
      · obtain ⟨_, e1, e2⟩ := ulast_at ht hk h1 (by rintro rfl; decide)
        rw [if_neg (by omega), if_neg (by omega), if_pos rfl, leap_eq i (by omega)]
        have es := UCal.start_succ i
        rw [e1, e2, show 0 + 12 * i = 12 * i by omega, show 0 + 12 * (i + 1) = 12 * (i + 1) by omega, mfirst_year, mfirst_year, es]
        by_cases hL : UCal.Leap i
        · rw [if_pos hL, if_neg (by omega), if_pos (by omega), decide_eq_true hL]; rfl
        · rw [if_neg hL, if_pos (by omega)]
      · obtain ⟨_, e1, e2⟩ := ulast_at ht hk h1 (by rintro rfl; decide)
        rw [if_neg (by omega), if_neg (by omega), if_neg (by omega), if_pos rfl]
        rw [e1, e2, show 0 + 120 * i = 12 * (10 * i) by omega, show 0 + 120 * (i + 1) = 12 * (10 * i + 10) by omega, mfirst_year, mfirst_year]
        have : UCal.start (10 * i + 10) - UCal.start (10 * i) = 3652 ∨ UCal.start (10 * i + 10) - UCal.start (10 * i) = 3653 := by
          unfold UCal.start
          have e2 : i % 2 = 0 ∨ i % 2 = 1 := by omega
          by_cases e10 : i % 10 = 0 <;> by_cases e40 : i % 40 = 0 <;> rcases e2 with e2 | e2 <;> omega
        rcases this with z | z
        · rw [if_pos (by omega)]
        · rw [if_neg (by omega), show UCal.start (10 * i + 10) - 1 - UCal.start (10 * i) + 1 = 3653 by omega]; rfl
      · obtain ⟨_, e1, e2⟩ := ulast_at ht hk h1 (by rintro rfl; decide)
        rw [if_neg (by omega), if_neg (by omega), if_neg (by omega), if_neg (by omega), tmods (by omega)]
        rw [e1, e2, show 0 + 1200 * i = 12 * (100 * i) by omega, show 0 + 1200 * (i + 1) = 12 * (100 * i + 100) by omega, mfirst_year, mfirst_year]
        have : UCal.start (100 * i + 100) - UCal.start (100 * i) = 36524 ∨ (UCal.start (100 * i + 100) - UCal.start (100 * i) = 36525 ∧ i % 4 = 0) := by unfold UCal.start; omega
        rcases this with z | ⟨z, z'⟩
        · rw [if_pos (by omega)]
        · rw [if_neg (by omega), if_pos (by omega), z']; rfl
theorem UnitSizes : lustrumlaw03_UnitSizes.Pure := by
  intro kind a _ _
  refine ⟨1, ?_⟩
  unfold lustrumlaw03_UnitSizes.f
  rw [awake03_eq, ucount_eq]
  simp only [Option.bind_some]
  have hc := UCal.ucount_pos kind
  by_cases h : UCal.ucount kind = 0
  · rw [if_pos h]
  · have hi0 := Int.emod_nonneg (a % 1073741824) h
    have hi1 := Int.emod_lt_of_pos (a % 1073741824) (show 0 < UCal.ucount kind by omega)
    rw [if_neg h, and_30, tmods (by omega), ufirst_eq, ulast_eq, if_pos ⟨hi0, hi1⟩, if_pos ⟨hi0, hi1⟩]
    simp only [Option.bind_some, if_true]
    exact sizes_in kind _ hi0 hi1
end Go.Proofs.YtbnlndiphflmpabDoor.Pure
