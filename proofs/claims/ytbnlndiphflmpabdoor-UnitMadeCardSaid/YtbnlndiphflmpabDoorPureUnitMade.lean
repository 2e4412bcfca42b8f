/- Greater units are made of lesser ones: a season begins with its first month, and ends with its third one, if there is one; a year with its first and its twelfth month; a decade with its first and its tenth year, a century with its first and its tenth decade. No condition. -/
import Derived.Test.YtbnlndiphflmpabDoorPUx1
import Derived.Test.YtbnlndiphflmpabDoorPUx2
import Derived.Test.YtbnlndiphflmpabDoorUPureUnitAwake
namespace Go.Proofs.YtbnlndiphflmpabDoor.Pure
open Go.RowKit Go.Proofs.YtbnlndiphflmpabDoor.PU Go.Proofs.YtbnlndiphflmpabDoor.UPure Go.Proofs.YtbnlndiphflmpabDoorW.PrintWords Go.Proofs.YtbnlndiphflmpabDoorW.PrintLast
theorem made_eq (kind i part p q : Int) (hi : 0 ≤ i ∧ i < UCal.ucount kind) (hp : 0 ≤ p ∧ p < UCal.ucount part) (hq : 0 ≤ q ∧ q < UCal.ucount part) (h1 : UCal.ufirst kind i = UCal.ufirst part p) (h2 : UCal.ulast kind i = UCal.ulast part q) :
    lustrumlaw03_made.f kind i part p q = some true := by
  unfold lustrumlaw03_made.f
  rw [ufirst_eq, ufirst_eq, ulast_eq, ulast_eq, if_pos hi, if_pos hi, if_pos hp, if_pos hq, h1, h2]
  simp
theorem uf (kind m f c : Int) (ht : UCal.tab kind = some (m, f, c)) (h0 : kind ≠ 0) (i : Int) : UCal.ufirst kind i = UCal.mfirst (f + m * i) := by unfold UCal.ufirst; rw [if_neg h0, ht]
theorem ul (kind m f c : Int) (ht : UCal.tab kind = some (m, f, c)) (h0 : kind ≠ 0) (i : Int) : UCal.ulast kind i = if i = c - 1 then 3652424 else UCal.mfirst (f + m * (i + 1)) - 1 := by
  unfold UCal.ulast
  rw [uf kind m f c ht h0]
  have hc : UCal.ucount kind = c := by unfold UCal.ucount; rw [if_neg h0, ht]
  rw [hc]
theorem UnitMade : lustrumlaw03_UnitMade.Pure := by
  intro a _
  unfold lustrumlaw03_UnitMade.f
  rw [awake03_eq, and_24, tmods (by omega)]
  have hk : 0 ≤ a % 16777216 % 40000 ∧ a % 16777216 % 40000 < 40000 := by omega
  generalize a % 16777216 % 40000 = i at *
  simp only [Option.bind_some, if_true]
  rw [tdivs (by omega), tdivs (by omega), tdivs (by omega)]
  have t1 : UCal.tab 1 = some (1, 0, 120000) := rfl
  have t2 : UCal.tab 2 = some (3, 2, 40000) := rfl
  have t3 : UCal.tab 3 = some (12, 0, 10000) := rfl
  have t4 : UCal.tab 4 = some (120, 0, 1000) := rfl
  have t5 : UCal.tab 5 = some (1200, 0, 100) := rfl
  have c1 : UCal.ucount 1 = 120000 := rfl
  have c2 : UCal.ucount 2 = 40000 := rfl
  have c3 : UCal.ucount 3 = 10000 := rfl
  have c4 : UCal.ucount 4 = 1000 := rfl
  have c5 : UCal.ucount 5 = 100 := rfl
  have f1 := uf 1 _ _ _ t1 (by omega)
  have f2 := uf 2 _ _ _ t2 (by omega)
  have f3 := uf 3 _ _ _ t3 (by omega)
  have f4 := uf 4 _ _ _ t4 (by omega)
  have f5 := uf 5 _ _ _ t5 (by omega)
  have l1 := ul 1 _ _ _ t1 (by omega)
  have l2 := ul 2 _ _ _ t2 (by omega)
  have l3 := ul 3 _ _ _ t3 (by omega)
  have l4 := ul 4 _ _ _ t4 (by omega)
  have l5 := ul 5 _ _ _ t5 (by omega)
  have m1 : lustrumlaw03_made.f 2 i 1 (wrap64 (wrap64 (3 * i) + 2)) (mn (wrap64 (wrap64 (3 * i) + 4)) 119999) = some true := by
    rw [w64s (n := 3 * i) (by omega), w64s (n := 3 * i + 2) (by omega), w64s (n := 3 * i + 4) (by omega)]
    by_cases e : i = 39999
    · subst e
      rw [show mn (3 * 39999 + 4) 119999 = 119999 by decide]
      refine made_eq _ _ _ _ _ (by omega) (by omega) (by omega) ?_ ?_
      · rw [f2, f1]; congr 1
      · rw [l2, l1, if_pos (by omega), if_pos (by omega)]
    · have em : mn (3 * i + 4) 119999 = 3 * i + 4 := by unfold mn; rw [if_neg (by omega)]
      rw [em]
      refine made_eq _ _ _ _ _ (by omega) (by omega) (by omega) ?_ ?_
      · rw [f2, f1]; congr 1; omega
      · rw [l2, l1, if_neg (by omega), if_neg (by omega)]; congr 2; omega
  have m2 : lustrumlaw03_made.f 3 (wrap64 (i / 4)) 1 (wrap64 (wrap64 (i / 4) * 12)) (wrap64 (wrap64 (wrap64 (i / 4) * 12) + 11)) = some true := by
    have hj : 0 ≤ i / 4 ∧ i / 4 < 10000 := by omega
    generalize i / 4 = j at *
    rw [w64s (n := j) (by omega), w64s (n := j * 12) (by omega), w64s (n := j * 12 + 11) (by omega)]
    refine made_eq _ _ _ _ _ (by omega) (by omega) (by omega) ?_ ?_
    · rw [f3, f1]; congr 1; omega
    · rw [l3, l1]
      by_cases e : j = 10000 - 1
      · rw [if_pos e, if_pos (by omega)]
      · rw [if_neg e, if_neg (by omega)]; congr 2; omega
  have m3 : lustrumlaw03_made.f 4 (wrap64 (i / 40)) 3 (wrap64 (wrap64 (i / 40) * 10)) (wrap64 (wrap64 (wrap64 (i / 40) * 10) + 9)) = some true := by
    have hj : 0 ≤ i / 40 ∧ i / 40 < 1000 := by omega
    generalize i / 40 = j at *
    rw [w64s (n := j) (by omega), w64s (n := j * 10) (by omega), w64s (n := j * 10 + 9) (by omega)]
    refine made_eq _ _ _ _ _ (by omega) (by omega) (by omega) ?_ ?_
    · rw [f4, f3]; congr 1; omega
    · rw [l4, l3]
      by_cases e : j = 1000 - 1
      · rw [if_pos e, if_pos (by omega)]
      · rw [if_neg e, if_neg (by omega)]; congr 2; omega
  have m4 : lustrumlaw03_made.f 5 (wrap64 (i / 400)) 4 (wrap64 (wrap64 (i / 400) * 10)) (wrap64 (wrap64 (wrap64 (i / 400) * 10) + 9)) = some true := by
    have hj : 0 ≤ i / 400 ∧ i / 400 < 100 := by omega
    generalize i / 400 = j at *
    rw [w64s (n := j) (by omega), w64s (n := j * 10) (by omega), w64s (n := j * 10 + 9) (by omega)]
    refine made_eq _ _ _ _ _ (by omega) (by omega) (by omega) ?_ ?_
    · rw [f5, f4]; congr 1; omega
    · rw [l5, l4]
      by_cases e : j = 100 - 1
      · rw [if_pos e, if_pos (by omega)]
      · rw [if_neg e, if_neg (by omega)]; congr 2; omega
  rw [m1]
  simp only [Option.bind_some, if_true]
  rw [m2]
  simp only [Option.bind_some, if_true]
  rw [m3]
  simp only [Option.bind_some, if_true]
  rw [m4]
  rfl
end Go.Proofs.YtbnlndiphflmpabDoor.Pure
