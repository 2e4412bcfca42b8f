/- Units follow one another, of any kind and number: a unit begins no later than it ends, the next one begins behind its last day, the first one begins at day 0 (of seasons at day 60), the last one ends at the last day. No condition. -/
import Derived.Test.YtbnlndiphflmpabDoorPUx1
import Derived.Test.YtbnlndiphflmpabDoorPUx2
import Derived.Test.YtbnlndiphflmpabDoorUPureUnitAwake
namespace Go.Proofs.YtbnlndiphflmpabDoor.Pure
open Go.RowKit Go.Proofs.YtbnlndiphflmpabDoor.PU Go.Proofs.YtbnlndiphflmpabDoor.UPure Go.Proofs.YtbnlndiphflmpabDoorW.PrintWords Go.Proofs.YtbnlndiphflmpabDoorW.PrintLast
theorem rows_next (kind i : Int) (h0 : 0 ≤ i) (h1 : i < UCal.ucount kind) :
    ((unit_First.f kind (wrap64 (i + 1))).bind fun bt => (if (bt.2 == (decide (i < (wrap64 (UCal.ucount kind - 1))))) = true then (if bt.2 = true then (some (bt.1 == (wrap64 (UCal.ulast kind i + 1)))) else (some true)) else (some false))) = some true := by
  have hc := UCal.ucount_pos kind
  have hu := UCal.unit_in h0 h1
  rw [w64s (n := i + 1) (by omega), w64s (n := UCal.ucount kind - 1) (by omega), w64s (n := UCal.ulast kind i + 1) (by omega), ufirst_eq]
  by_cases hl : i < UCal.ucount kind - 1
  · rw [if_pos (by omega), decide_eq_true hl, UCal.ulast_next hl]; simp
  · rw [if_neg (by omega), decide_eq_false hl]; simp
theorem rows_0 (kind : Int) (h : 0 < UCal.ucount kind) : UCal.ufirst kind 0 = if kind = 2 then 60 else 0 := by
  unfold UCal.ufirst
  by_cases h0 : kind = 0
  · subst h0; rfl
  · rw [if_neg h0]
    cases ht : UCal.tab kind with
    | none => exfalso; unfold UCal.ucount at h; rw [if_neg h0, ht] at h; simp at h
    | some t =>
      obtain ⟨m, f, c⟩ := t
      rcases UCal.tab_cases ht with ⟨rfl, rfl, rfl, rfl⟩ | ⟨rfl, rfl, rfl, rfl⟩ | ⟨rfl, rfl, rfl, rfl⟩ | ⟨rfl, rfl, rfl, rfl⟩ | ⟨rfl, rfl, rfl, rfl⟩ <;> decide
theorem rows_in (kind i : Int) (h0 : 0 ≤ i) (h1 : i < UCal.ucount kind) : lustrumlaw03_UnitRows.j0 1 kind i true (UCal.ucount kind) (UCal.ufirst kind i) true (UCal.ulast kind i) false = some true := by
  have hc := UCal.ucount_pos kind
  have hu := UCal.unit_in h0 h1
  have hn := rows_next kind i h0 h1
  simp only [lustrumlaw03_UnitRows.j0, Bool.false_eq_true, if_false, if_true]
  have hlast : (if i = wrap64 (UCal.ucount kind - 1) then (if UCal.ulast kind i = 3652424 then (if UCal.ufirst kind i > UCal.ulast kind i then some false else ((unit_First.f kind (wrap64 (i + 1))).bind fun bt => (if (bt.2 == (decide (i < (wrap64 (UCal.ucount kind - 1))))) = true then (if bt.2 = true then (some (bt.1 == (wrap64 (UCal.ulast kind i + 1)))) else (some true)) else (some false)))) else some false) else (if UCal.ufirst kind i > UCal.ulast kind i then some false else ((unit_First.f kind (wrap64 (i + 1))).bind fun bt => (if (bt.2 == (decide (i < (wrap64 (UCal.ucount kind - 1))))) = true then (if bt.2 = true then (some (bt.1 == (wrap64 (UCal.ulast kind i + 1)))) else (some true)) else (some false))))) = some true := by
    rw [hn]
    split
    · rename_i e
      rw [w64s (n := UCal.ucount kind - 1) (by omega)] at e
      rw [if_pos (by rw [e, UCal.ulast_last]), if_neg (by omega)]
    · rw [if_neg (by omega)]
  by_cases hi : i = 0
  · subst hi
    rw [if_pos rfl]
    have hz := rows_0 kind (by omega)
    by_cases h2 : kind = 2
    · rw [if_pos h2] at hz
      rw [if_neg (by omega), if_pos h2, if_pos hz]
      exact hlast
    · rw [if_neg h2] at hz
      rw [if_pos hz]
      exact hlast
  · rw [if_neg hi]
    exact hlast
theorem UnitRows : lustrumlaw03_UnitRows.Pure := by
  intro kind i hk hi
  refine ⟨1, ?_⟩
  unfold lustrumlaw03_UnitRows.f
  rw [awake03_eq, ucount_eq, ufirst_eq, ulast_eq]
  simp only [Option.bind_some]
  by_cases h0 : i ≥ 0
  · by_cases h1 : i < UCal.ucount kind
    · have hp : 0 ≤ i ∧ i < UCal.ucount kind := ⟨h0, h1⟩
      simp only [if_pos hp, if_pos h0, decide_eq_true h1, bne_self_eq_false, Bool.false_eq_true, if_false]
      exact rows_in kind i h0 h1
    · have hp : ¬ (0 ≤ i ∧ i < UCal.ucount kind) := fun z => h1 z.2
      simp only [if_neg hp, if_pos h0, decide_eq_false h1]
      simp [lustrumlaw03_UnitRows.j0]
  · have hp : ¬ (0 ≤ i ∧ i < UCal.ucount kind) := fun z => h0 z.1
    simp only [if_neg hp, if_neg h0]
    simp [lustrumlaw03_UnitRows.j0]
end Go.Proofs.YtbnlndiphflmpabDoor.Pure
