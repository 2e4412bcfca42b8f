/- lustrumlaw14: the laws of leaves, as conditions on the program's functions alone. No condition of its own. -/
import Derived.Test.YtjeoelajkncpcaaDoorC6
namespace Go.Proofs.YtjeoelajkncpcaaDoor.V
open Go
set_option linter.unusedVariables false

theorem ok_lustrumref14_Few {f : Leaf} : FnE bs n_lustrumref14_Few (sApiLeaf.compsE f) .bool (· = decide (f.2.2.1.length ≤ 40 ∧ f.2.2.2.length ≤ 40)) := by
  obtain ⟨sp, u, a, b⟩ := f
  refine ok_of (e_lustrumref14_Few (sp, u, a, b) _) rfl ?_
  unfold c_lustrumref14_Few
  refine cond_dec (fun h => be (decide_eq_decide.2 ?_)) fun h => be (decide_eq_false ?_).symm <;> dsimp only [Shape.Val] at *
  · omega
  · omega

def exLeaf : Leaf := (true, 0, [(1, 3)], [(2, 2)])
theorem ex_of : ofF exLeaf = some (.inr ([(1, 2)], [(2, 2)])) := by decide
theorem ex_pairs : pairsF exLeaf 9 = [(1, 2), (2, 2)] := by unfold pairsF; rw [ex_of]; decide
theorem ex_tidy : tidyF exLeaf = (true, 0, [(1, 2)], [(2, 2)]) := by unfold tidyF; rw [ex_of]
theorem ex_covers (d : Int) : CoversF exLeaf d ↔ 1 ≤ d ∧ d ≤ 2 := by unfold CoversF; rw [ex_of]; exact Iff.rfl
theorem nil_of : ofF (false, 0, [], []) = none := by decide

theorem ok_lustrumlaw14_awake : FnE bs n_lustrumlaw14_awake ((Shape.unit).compsE ()) .bool (· = true) := by
  refine ok_of (e_lustrumlaw14_awake _) rfl ?_
  unfold c_lustrumlaw14_awake
  refine callP_eq (ok_leaf_Pairs (f := exLeaf) (by decide) (by decide)) (callP_eq (ok_leaf_Tidy (f := exLeaf) (by decide) (by decide)) (callP_eq (ok_leaf_Sane (f := exLeaf) (by decide) (by decide)) ?_))
  rw [ex_pairs, ex_tidy]
  refine cond_yes (by decide) (cond_yes (by decide) ⟨by decide, cond_yes (by decide) ⟨by decide, cond_yes (by decide) ⟨by decide, cond_yes (by decide) (cond_yes (by decide) ⟨by decide, cond_yes (by decide) ?_⟩)⟩⟩⟩)
  refine callP_eq (ok_leaf_Covers (f := exLeaf) (by decide) (by decide)) (cond_yes ?_ (callP_eq (ok_leaf_Covers (f := exLeaf) (by decide) (by decide)) (cond_yes ?_ (callP_eq (ok_leaf_Empty (f := (false, 0, [], [])) (by decide) (by decide)) ?_))))
  · exact @decide_eq_true _ (Classical.propDecidable _) ((ex_covers 2).2 (by decide))
  · rw [Bool.not_eq_true', decide_eq_false_iff_not]
    exact fun q => absurd ((ex_covers 3).1 q) (by decide)
  · exact be (by rw [nil_of]; rfl)

theorem uof_first {u i : Int} (h0 : 0 ≤ i) (h1 : i < VCal.ucount u) : VCal.uof u (VCal.ufirst u i) = some i := by
  have h := VCal.unit_in h0 h1
  exact VCal.uof_some.2 ⟨h0, h1, Int.le_refl _, h.2.1⟩

open Classical in
theorem ok_LeafMeans (a : Leaf × (Int × Int) × Int) : FnE bs n_lustrumlaw14_LeafMeans ((Shape.pair sApiLeaf (.pair sRun (.int .i64))).compsE a) .bool (· = true) := by
  obtain ⟨f, p, i⟩ := a
  refine ok_of (e_lustrumlaw14_LeafMeans (f, p, i) _) rfl ?_
  unfold c_lustrumlaw14_LeafMeans
  refine callP_eq ok_lustrumlaw14_awake (callP_eq (ok_lustrumref14_Few (f := f)) (cond_not (fun h => rfl) fun h => ?_))
  have hf : f.2.2.1.length ≤ 40 ∧ f.2.2.2.length ≤ 40 := by simpa using h
  have hla : f.2.2.1.length ≤ 1000000000 := by omega
  have hlb : f.2.2.2.length ≤ 1000000000 := by omega
  refine callP_eq (ok_leaf_Sane (f := f) hla hlb) (cond_not (fun h => rfl) fun h => ?_)
  have hs : LeafSane f := by simpa using h
  have has : ∀ q : Int × Int, FnE bs n_leaf_Has ((Shape.pair sApiLeaf sRun).compsE (f, q)) .bool (· = decide (HasF f q)) := fun q => ok_leaf_Has hla hlb
  have hs' := hs
  unfold LeafSane at hs'
  refine cond_bool (fun hsp => ?_) fun hsp => ?_
  · have hsp : f.1 = true := hsp
    rw [if_pos hsp] at hs'
    refine cond_yes rfl (callP_eq (has p) (cond_dec (fun h1 => callP_eq (ok_runs_Has hla hs'.2.1.1) (cond_dec (fun h2 => callP_eq (ok_runs_Has hlb hs'.2.2.1) ?_) fun h2 => ?_)) fun h1 => ?_))
    · refine be (decide_eq_true (decide_eq_decide.2 ?_))
      rw [has_span hs hsp]
      exact ⟨fun q => q.2.2, fun q => ⟨h1, h2, q⟩⟩
    · refine be (decide_eq_true (@decide_eq_false _ (propDecidable _) ?_))
      rw [has_span hs hsp]
      exact fun q => h2 q.2.1
    · refine be (decide_eq_true (@decide_eq_false _ (propDecidable _) ?_))
      rw [has_span hs hsp]
      exact fun q => h1 q.1
  · have hsp : f.1 = false := hsp
    rw [if_neg (by rw [hsp]; decide)] at hs'
    obtain ⟨hu, hw, hb⟩ := hs'
    have hc := VCal.ucount_pos f.2.1
    -- the last part: the unit that is asked
    have last : ∀ r14 : Bool, (r14 = true ↔ HasF f ((firstS f.2.1 i).1, (lastS f.2.1 i).1)) → (firstS f.2.1 i).2 = true → r14 = decide (mem f.2.2.1 i) := by
      intro r14 h1 h2
      have hin : 0 ≤ i ∧ i < VCal.ucount f.2.1 := by
        unfold firstS at h2
        split at h2
        · assumption
        · cases h2
      have e1 : (firstS f.2.1 i).1 = VCal.ufirst f.2.1 i := by unfold firstS; rw [if_pos hin]
      have e2 : (lastS f.2.1 i).1 = VCal.ulast f.2.1 i := by unfold lastS; rw [if_pos hin]
      rw [e1, e2, has_units hs hsp] at h1
      rw [Bool.eq_iff_iff, h1, decide_eq_true_iff]
      constructor
      · rintro ⟨j, hj, hm, _⟩
        dsimp only at hj
        rw [uof_first hin.1 hin.2] at hj
        cases hj
        exact hm
      · intro hm
        exact ⟨i, uof_first hin.1 hin.2, hm, rfl⟩
    have hT : cond (!(firstS f.2.1 i).2) ((fun x : Bool => x = true) true) (callP bs n_leaf_Has (.pair sApiLeaf sRun) .bool (f, (firstS f.2.1 i).1, (lastS f.2.1 i).1) (fun r14 => (callP bs n_runs_Has (.pair (.slice sRun) (.int .i64)) .bool (f.2.2.1, i) (fun r15 => (fun x : Bool => x = true) (decide (r14 = r15)))))) := by
      refine cond_not (fun h3 => rfl) fun h3 => callP_eq (has _) (callP_eq (ok_runs_Has hla hw.1) ?_)
      exact decide_eq_true (last _ decide_eq_true_iff h3)
    refine callP_eq ok_unit_First (callP_eq ok_unit_Last (callP_eq ok_unit_Of (callP_eq ok_unit_First (callP_eq ok_unit_Last (cond_yes rfl (callP_eq (has p) ?_))))))
    dsimp only
    rcases Option.eq_none_or_eq_some (VCal.uof f.2.1 p.1) with hu1 | ⟨j, hu1⟩
    · have e : ofS f.2.1 p.1 = (0, false) := by unfold ofS; rw [hu1]
      rw [e]
      refine cond_no rfl (cond_yes (decide_eq_true (@decide_eq_false _ (propDecidable _) ?_)) hT)
      rw [has_units hs hsp]
      rintro ⟨k, hk, _⟩
      rw [hu1] at hk; cases hk
    · have e : ofS f.2.1 p.1 = (j, true) := by unfold ofS; rw [hu1]
      rw [e]
      have hj := VCal.uof_some.1 hu1
      have e1 : firstS f.2.1 j = (VCal.ufirst f.2.1 j, true) := by unfold firstS; rw [if_pos (by omega)]
      have e2 : lastS f.2.1 j = (VCal.ulast f.2.1 j, true) := by unfold lastS; rw [if_pos (by omega)]
      dsimp only
      rw [e1, e2]
      have key : HasF f p ↔ mem f.2.2.1 j ∧ p.1 = VCal.ufirst f.2.1 j ∧ p.2 = VCal.ulast f.2.1 j := by
        rw [has_units hs hsp]
        constructor
        · rintro ⟨k, hk, hm, e⟩
          rw [hu1] at hk; cases hk
          exact ⟨hm, congrArg Prod.fst e, congrArg Prod.snd e⟩
        · rintro ⟨hm, h1, h2⟩
          exact ⟨j, hu1, hm, Prod.ext h1 h2⟩
      refine cond_yes rfl (callP_eq (ok_runs_Has hla hw.1) (cond_dec (fun h1 => cond_dec (fun h2 => cond_yes (decide_eq_true (decide_eq_decide.2 ?_)) hT) fun h2 => cond_yes (decide_eq_true (@decide_eq_false _ (propDecidable _) ?_)) hT) fun h1 => cond_yes (decide_eq_true (@decide_eq_false _ (propDecidable _) ?_)) hT))
      · rw [key]
        exact ⟨fun q => q.2.2, fun q => ⟨h1, h2, q⟩⟩
      · rw [key]
        exact fun q => h2 q.2.1
      · rw [key]
        exact fun q => h1 q.1
end Go.Proofs.YtjeoelajkncpcaaDoor.V
