/- The calculus of the program's functions and their contracts, part 9. No condition of its own. -/
import Derived.Test.YtdlgenbfnahmeaaGreatDoorM8
import Derived.RangeFuncBound
import Derived.RangeFuncCalls
import Derived.Shelf.Abstract
import Derived.Shelf.RegionOpen
import Derived.WalkKit
import Derived.OwnWalkIn
import Derived.TacticsInMore
import Derived.LoopNIn
import Derived.LoopIn
import Derived.Shelf.Spec.SlicesGrow


/- Leaves: what the program's functions answer. No condition of its own. -/
namespace Go.Proofs.YtdlgenbfnahmeaaGreatDoor.V
open Go
set_option linter.unusedVariables false
set_option linter.unusedSimpArgs false

theorem ok_sets_Clip {s : Runs} {lo hi : Int} (hl : s.length ≤ 100000000000) (h : Sane s) (hb : -Lim ≤ lo ∧ lo ≤ hi ∧ hi ≤ Lim) : FnE bs n_sets_Clip ((Shape.pair (.slice sRun) (.pair (.int .i64) (.int .i64))).compsE (s, lo, hi)) (.slice sRun) (· = clipF s lo hi) := by
  refine ok_of (e_sets_Clip (s, lo, hi) _) rfl ?_
  unfold c_sets_Clip
  have hs : Sane [(lo, hi)] := ⟨hb.2.1, by unfold Lim at hb; dsimp only; omega, hb.2.2, trivial⟩
  refine callP_of (ok_sets_Meet (a := s) (b := [(lo, hi)]) hl (by simp) h hs) fun r hr => ?_
  refine sane_ext hr.1 (sane_clip h) fun n => ?_
  rw [hr.2.2 n, mem_clip, mem_cons]
  constructor
  · rintro ⟨h1, h2 | h2⟩
    · exact ⟨h1, h2⟩
    · exact (mem_nil h2).elim
  · rintro ⟨h1, h2⟩; exact ⟨h1, .inl h2⟩

theorem rd_lo {s : Runs} (h : s ≠ []) : (rd sRun s (0 : Int).toNat).1 = loF s := by
  obtain ⟨r, h1, h2⟩ := loF_get h
  rw [show ((0 : Int).toNat) = 0 from rfl, rd_of (s := sRun) h1, h2]

theorem rd_hi {s : Runs} (h : s ≠ []) (hl : s.length ≤ 100000000000) : (rd sRun s (w64 ((s.length : Int) - 1)).toNat).2 = hiF s := by
  obtain ⟨r, h1, h2⟩ := hiF_get h
  have hp := List.length_pos_iff.2 h
  rw [w64_of (n := (s.length : Int) - 1) (by omega), show ((s.length : Int) - 1).toNat = s.length - 1 by omega, rd_of (s := sRun) h1, h2]

theorem last_in {s : Runs} (h : s ≠ []) (hl : s.length ≤ 100000000000) : (0 : Int) ≤ w64 ((s.length : Int) - 1) ∧ w64 ((s.length : Int) - 1) < (s.length : Int) := by
  have hp := List.length_pos_iff.2 h
  rw [w64_of (n := (s.length : Int) - 1) (by omega)]
  omega

theorem first_in {s : Runs} (h : s ≠ []) : (0 : Int) ≤ 0 ∧ (0 : Int) < (s.length : Int) := by
  have hp := List.length_pos_iff.2 h
  omega

theorem len_zero {s : Runs} : ((s.length : Int) = 0) ↔ s = [] := by
  rw [← List.length_eq_zero_iff]; omega

theorem ok_leaf_within {s : Runs} {m : Int} (hl : s.length ≤ 100000000000) : FnE bs n_leaf_within ((Shape.pair (.slice sRun) (.int .i64)).compsE (s, m)) .bool (· = decide (Within s m)) := by
  refine ok_of (e_leaf_within (s, m) _) rfl ?_
  unfold c_leaf_within Within
  refine callP_eq (ok_runs_Sane hl) (cond_dec (fun h => cond_dec (fun h2 => ?_) fun h2 => ?_) fun h => ?_)
  · have h2 : s = [] := len_zero.1 h2
    have h : Sane s := h
    exact be (decide_eq_true ⟨h, .inl h2⟩).symm
  · have h2 : ¬ s = [] := fun e => h2 (len_zero.2 e)
    refine ⟨first_in h2, ?_⟩
    dsimp only
    rw [rd_lo h2, rd_hi h2 hl]
    refine cond_dec (fun h3 => ⟨last_in h2 hl, be ?_⟩) fun h3 => be ?_
    · have h3 : 0 ≤ loF s := h3
      simp [h, h2, h3]
    · have h3 : ¬ 0 ≤ loF s := h3
      simp [h2, h3]
  · exact be (by simp [h])

theorem ok_leaf_Sane {f : Leaf} (hla : f.2.2.1.length ≤ 100000000000) (hlb : f.2.2.2.length ≤ 100000000000) : FnE bs n_leaf_Sane (sApiLeaf.compsE f) .bool (· = decide (LeafSane f)) := by
  obtain ⟨sp, u, a, b⟩ := f
  dsimp only at hla hlb
  refine ok_of (e_leaf_Sane (sp, u, a, b) _) rfl ?_
  unfold c_leaf_Sane LeafSane
  dsimp only
  cases sp
  · refine cond_no rfl (cond_dec (fun h1 => cond_dec (fun h2 => callP_eq ok_unit_Count ?_) fun h2 => be ?_) fun h1 => be ?_)
    · have := VCal.ucount_pos u
      rw [w64_of (by omega)]
      refine callP_eq (ok_leaf_within hla) (cond_dec (fun h3 => be ?_) fun h3 => be ?_)
      · have h1 : 0 ≤ u := h1
        have h2 : u ≤ 5 := h2
        refine decide_eq_decide.2 ⟨fun q => ?_, fun q => ?_⟩
        · rw [if_neg (by decide)]; exact ⟨⟨h1, h2⟩, h3, len_zero.1 q⟩
        · rw [if_neg (by decide)] at q; exact len_zero.2 q.2.2
      · simp [h3]
    · have h2 : ¬ u ≤ 5 := h2
      simp [h2]
    · have h1 : ¬ 0 ≤ u := h1
      simp [h1]
  · refine cond_yes rfl (cond_dec (fun h1 => callP_eq (ok_leaf_within hla) (cond_dec (fun h2 => callP_eq (ok_leaf_within hlb) (be ?_)) fun h2 => be ?_)) fun h1 => be ?_)
    · have h1 : u = 0 := h1
      simp [h1, h2]
    · simp [h2]
    · have h1 : ¬ u = 0 := h1
      simp [h1]

theorem ok_leaf_of {f : Leaf} (hla : f.2.2.1.length ≤ 100000000000) (hlb : f.2.2.2.length ≤ 100000000000) : FnE bs n_leaf_of (sApiLeaf.compsE f) sLeafFamily (· = ofF f) := by
  obtain ⟨sp, u, a, b⟩ := f
  dsimp only at hla hlb
  refine ok_of (e_leaf_of (sp, u, a, b) _) rfl ?_
  unfold c_leaf_of ofF
  dsimp only
  refine callP_eq (ok_leaf_Sane (f := (sp, u, a, b)) hla hlb) (cond_not (fun h => ?_) fun h => cond_dec (fun h1 => ?_) fun h1 => ?_)
  · rw [if_pos (.inl (by simpa using h))]
  · rw [if_pos (.inr (len_zero.1 h1))]
  · have h : LeafSane (sp, u, a, b) := by simpa using h
    have h1 : ¬ a = [] := fun e => h1 (len_zero.2 e)
    rw [if_neg (by simp [h, h1])]
    cases sp
    · exact cond_yes rfl (by rw [if_pos rfl])
    · refine cond_no rfl (cond_dec (fun h2 => ?_) fun h2 => ⟨first_in h1, ?_⟩)
      · rw [if_neg (by simp), if_pos (.inl (len_zero.1 h2))]
      · have h2 : ¬ b = [] := fun e => h2 (len_zero.2 e)
        have hs := h
        unfold LeafSane at hs
        dsimp only at hs
        rw [if_pos rfl] at hs
        refine ⟨last_in h2 hlb, ?_⟩
        rw [rd_lo h1, rd_hi h2 hlb]
        refine cond_dec (fun h3 => ?_) fun h3 => ⟨last_in h2 hlb, first_in h1, ?_⟩
        · have h3 : hiF b < loF a := h3
          rw [if_neg (by simp), if_pos (.inr h3)]
        · have h3 : ¬ hiF b < loF a := h3
          have b1 := Within.bounds hs.2.1 (mem_lo hs.2.1.1 h1)
          have b2 := Within.bounds hs.2.2 (mem_hi hs.2.2.1 h2)
          refine callP_eq (ok_sets_Clip hla hs.2.1.1 (by unfold Lim; omega)) (callP_eq (ok_sets_Clip hlb hs.2.2.1 (by unfold Lim; omega)) ?_)
          rw [if_neg (by simp), if_neg (by simp [h2, h3])]

theorem ok_leaf_Empty {f : Leaf} (hla : f.2.2.1.length ≤ 100000000000) (hlb : f.2.2.2.length ≤ 100000000000) : FnE bs n_leaf_Empty (sApiLeaf.compsE f) .bool (· = (ofF f).isNone) := by
  obtain ⟨sp, u, a, b⟩ := f
  refine ok_of (e_leaf_Empty (sp, u, a, b) _) rfl ?_
  unfold c_leaf_Empty
  exact callP_eq (ok_leaf_of hla hlb) rfl

/-- A leaf without what is in no pair. -/
def tidyF (f : Leaf) : Leaf := match ofF f with
  | none => (false, 0, [], [])
  | some (.inl (u, s)) => (false, u, s, [])
  | some (.inr (a, b)) => (true, 0, a, b)

theorem ok_leaf_Tidy {f : Leaf} (hla : f.2.2.1.length ≤ 100000000000) (hlb : f.2.2.2.length ≤ 100000000000) : FnE bs n_leaf_Tidy (sApiLeaf.compsE f) sApiLeaf (· = tidyF f) := by
  obtain ⟨sp, u, a, b⟩ := f
  refine ok_of (e_leaf_Tidy (sp, u, a, b) _) rfl ?_
  unfold c_leaf_Tidy tidyF
  refine callP_eq (ok_leaf_of hla hlb) ?_
  dsimp only
  generalize ofF (sp, u, a, b) = x
  rcases x with _ | ⟨y⟩ | ⟨y⟩ <;> rfl

theorem ok_leaf_units_pair {u i : Int} {s : Runs} : FnE bs n_leaf_units_pair ((Shape.pair sLeafUnits (.int .i64)).compsE ((u, s), i)) sRun (· = ((firstS u i).1, (lastS u i).1)) := by
  refine ok_of (e_leaf_units_pair ((u, s), i) _) rfl ?_
  unfold c_leaf_units_pair
  exact callP_eq ok_unit_First (callP_eq ok_unit_Last rfl)

open Classical in
theorem ok_leaf_units_has {u : Int} {s : Runs} {p : Int × Int} (hl : s.length ≤ 100000000000) (h : Within s (VCal.ucount u - 1)) : FnE bs n_leaf_units_has ((Shape.pair sLeafUnits sRun).compsE ((u, s), p)) .bool (· = decide (∃ i, VCal.uof u p.1 = some i ∧ mem s i ∧ p = (VCal.ufirst u i, VCal.ulast u i))) := by
  refine ok_of (e_leaf_units_has ((u, s), p) _) rfl ?_
  unfold c_leaf_units_has
  refine callP_eq ok_unit_Of ?_
  unfold ofS
  cases ho : VCal.uof u p.1 with
  | none => exact be (by simp)
  | some i =>
    dsimp only
    refine cond_yes rfl (callP_eq (ok_runs_Has hl h.1) (cond_dec (fun hm => callP_eq ok_leaf_units_pair ?_) fun hm => be (by simp [hm])))
    have hb := Within.bounds h hm
    unfold firstS lastS
    dsimp only at hb ⊢
    rw [if_pos (by omega), if_pos (by omega)]
    refine be ?_
    dsimp only
    rw [← Bool.decide_and, decide_eq_decide]
    constructor
    · rintro ⟨h1, h2⟩
      exact ⟨i, rfl, hm, Prod.ext h1.symm h2.symm⟩
    · rintro ⟨j, hj, _, e⟩
      cases hj
      exact ⟨(congrArg Prod.fst e).symm, (congrArg Prod.snd e).symm⟩

open Classical in
theorem ok_leaf_span_has {a b : Runs} {p : Int × Int} (hla : a.length ≤ 100000000000) (hlb : b.length ≤ 100000000000) (ha : Sane a) (hb : Sane b) : FnE bs n_leaf_span_has ((Shape.pair sLeafSpan sRun).compsE ((a, b), p)) .bool (· = decide (p.1 ≤ p.2 ∧ mem a p.1 ∧ mem b p.2)) := by
  refine ok_of (e_leaf_span_has ((a, b), p) _) rfl ?_
  unfold c_leaf_span_has
  refine cond_dec (fun h => callP_eq (ok_runs_Has hla ha) (cond_dec (fun h2 => callP_eq (ok_runs_Has hlb hb) (be ?_)) fun h2 => be ?_)) fun h => be ?_
  · have h : p.1 ≤ p.2 := h
    simp [h, h2]
  · simp [h2]
  · have h : ¬ p.1 ≤ p.2 := h
    simp [h]

open Classical in
theorem ok_leaf_Has {f : Leaf} {p : Int × Int} (hla : f.2.2.1.length ≤ 100000000000) (hlb : f.2.2.2.length ≤ 100000000000) : FnE bs n_leaf_Has ((Shape.pair sApiLeaf sRun).compsE (f, p)) .bool (· = decide (HasF f p)) := by
  refine ok_of (e_leaf_Has (f, p) _) rfl ?_
  unfold c_leaf_Has HasF
  refine callP_eq (ok_leaf_of (f := f) hla hlb) ?_
  dsimp only
  cases ho : ofF f with
  | none => exact be (by simp)
  | some x =>
    cases x with
    | inl y =>
      obtain ⟨u, s⟩ := y
      obtain ⟨h1, h2, h3, h4, h5, h6, h7⟩ := of_units ho
      exact cond_yes rfl (callP_eq (ok_leaf_units_has (by rw [h4]; exact hla) h6) (be (decide_eq_decide.2 Iff.rfl)))
    | inr y =>
      obtain ⟨a, b⟩ := y
      obtain ⟨h1, h2, h3, h4, h5, h6, h7, e1, e2⟩ := of_span ho
      obtain ⟨sa, sb, _⟩ := span_ends ho
      have la : a.length ≤ 100000000000 := by rw [e1]; exact Nat.le_trans (clip_length _ _ _) hla
      have lb : b.length ≤ 100000000000 := by rw [e2]; exact Nat.le_trans (clip_length _ _ _) hlb
      exact cond_yes rfl (callP_eq (ok_leaf_span_has la lb sa sb) (be (decide_eq_decide.2 Iff.rfl)))
end Go.Proofs.YtdlgenbfnahmeaaGreatDoor.V


/- Leaves' pairs: what the program's functions answer. No condition of its own. -/
namespace Go.Proofs.YtdlgenbfnahmeaaGreatDoor.V
open Go
set_option linter.unusedVariables false
set_option linter.unusedSimpArgs false

open Classical in
theorem ok_leaf_Covers {f : Leaf} {d : Int} (hla : f.2.2.1.length ≤ 100000000000) (hlb : f.2.2.2.length ≤ 100000000000) : FnE bs n_leaf_Covers ((Shape.pair sApiLeaf (.int .i64)).compsE (f, d)) .bool (· = decide (CoversF f d)) := by
  refine ok_of (e_leaf_Covers (f, d) _) rfl ?_
  unfold c_leaf_Covers CoversF
  refine callP_eq (ok_leaf_of (f := f) hla hlb) ?_
  dsimp only
  cases ho : ofF f with
  | none => exact be (by simp)
  | some x =>
    cases x with
    | inl y =>
      obtain ⟨u, s⟩ := y
      obtain ⟨h1, h2, h3, h4, h5, h6, h7⟩ := of_units ho
      refine callP_eq ok_unit_Of ?_
      dsimp only
      rcases Option.eq_none_or_eq_some (VCal.uof u d) with hu | ⟨i, hu⟩
      · have e : ofS u d = (0, false) := by unfold ofS; rw [hu]
        rw [e]
        exact be (@decide_eq_false _ (propDecidable _) fun ⟨i, hi, _⟩ => by rw [hu] at hi; cases hi).symm
      · have e : ofS u d = (i, true) := by unfold ofS; rw [hu]
        rw [e]
        refine cond_yes rfl (callP_eq (ok_runs_Has (by rw [h4]; exact hla) h6.1) (be (decide_eq_decide.2 ?_)))
        exact ⟨fun h => ⟨i, hu, h⟩, fun ⟨j, hj, h⟩ => by rw [hu] at hj; cases hj; exact h⟩
    | inr y =>
      obtain ⟨a, b⟩ := y
      obtain ⟨h1, h2, h3, h4, h5, h6, h7, e1, e2⟩ := of_span ho
      obtain ⟨sa, sb, na, nb, _⟩ := span_ends ho
      have la : a.length ≤ 100000000000 := by rw [e1]; exact Nat.le_trans (clip_length _ _ _) hla
      have lb : b.length ≤ 100000000000 := by rw [e2]; exact Nat.le_trans (clip_length _ _ _) hlb
      refine ⟨first_in na, ?_⟩
      rw [rd_lo na, rd_hi nb lb]
      refine cond_dec (fun h => ⟨last_in nb lb, be (decide_eq_decide.2 ?_)⟩) fun h => be (@decide_eq_false _ (propDecidable _) ?_).symm
      · exact ⟨fun q => ⟨h, q⟩, fun q => q.2⟩
      · exact fun q => h q.1

theorem ok_leaf_units_pairs {u n : Int} {s : Runs} (hl : s.length ≤ 100000000000) (h : Within s (VCal.ucount u - 1)) (hn : n ≤ 1000) : FnE bs n_leaf_units_pairs ((Shape.pair sLeafUnits (.int .i64)).compsE ((u, s), n)) (.slice sRun) (· = (unitPairs u s).take n.toNat) := by
  refine ok_of (e_leaf_units_pairs ((u, s), n) _) rfl ?_
  unfold c_leaf_units_pairs
  have hcnt := VCal.ucount_pos u
  refine loopP_of (fun z : Unit × Int × List (Int × Int) => ∃ k : Nat, z.2.1 = k ∧ k ≤ s.length ∧ Fill (unitPairs u s) n z.2.2 (unitPairs u (s.drop k))) (fun z => s.length - z.2.1.toNat) ?_ ⟨0, rfl, Nat.zero_le _, Fill.start⟩
  intro z A ⟨k, e1, hk, hf⟩ back
  obtain ⟨_, zk, out⟩ := z
  dsimp only [Shape.Val] at *
  subst e1
  refine cond_dec (fun h1 => ⟨⟨by omega, h1⟩, ?_⟩) fun h1 => ?_
  · have hk' : k < s.length := by omega
    have hg := List.getElem?_eq_getElem hk'
    generalize s[k] = r at hg
    have hr := Sane.bounds h.1 r (List.mem_of_getElem? hg)
    have hb : ∀ i, r.1 ≤ i → i ≤ r.2 → 0 ≤ i ∧ i ≤ VCal.ucount u - 1 := fun i h1 h2 => Within.bounds h ⟨r, List.mem_of_getElem? hg, h1, h2⟩
    rw [toNat_ofNat, rd_of (s := sRun) hg, w64_of (n := (k : Int) + 1) (by omega)]
    rw [drop_cons hg] at hf
    refine loopP_of (fun z : Unit × Int × List (Int × Int) => r.1 ≤ z.2.1 ∧ z.2.1 ≤ r.2 + 1 ∧ Fill (unitPairs u s) n z.2.2 ((upTo z.2.1 r.2).map (fun i => (VCal.ufirst u i, VCal.ulast u i)) ++ unitPairs u (s.drop (k + 1)))) (fun z => (r.2 + 1 - z.2.1).toNat) ?_ ⟨by dsimp only; omega, by dsimp only; omega, ?_⟩
    · intro z A' ⟨g1, g2, g3⟩ back'
      obtain ⟨_, i, out'⟩ := z
      dsimp only [Shape.Val] at *
      refine cond_dec (fun h2 => cond_dec (fun h3 => callP_eq ok_leaf_units_pair ⟨?_, ?_⟩) fun h3 => ?_) fun h2 => ?_
      · have := g3.1
        simp only [List.length_cons, List.length_nil]
        omega
      · have hi := hb i g1 h2
        unfold firstS lastS
        rw [if_pos (by omega), if_pos (by omega), w64_of (n := i + 1) (by omega)]
        refine back' ((), i + 1, out' ++ [(VCal.ufirst u i, VCal.ulast u i)]) ⟨by dsimp only; omega, by dsimp only; omega, ?_⟩ (by dsimp only; omega)
        rw [upTo_cons h2] at g3
        exact Fill.step g3 h3
      · exact back ((), (k : Int) + 1, out') ⟨k + 1, by simp, hk', Fill.full g3 h3⟩ (by dsimp only; omega)
      · rw [upTo_nil (by omega)] at g3
        exact back ((), (k : Int) + 1, out') ⟨k + 1, by simp, hk', g3⟩ (by dsimp only; omega)
    · have e : unitPairs u (r :: s.drop (k + 1)) = (upTo r.1 r.2).map (fun i => (VCal.ufirst u i, VCal.ulast u i)) ++ unitPairs u (s.drop (k + 1)) := by
        unfold unitPairs nums
        rw [List.flatMap_cons, List.map_append]
      rw [e] at hf
      exact hf
  · rw [List.drop_eq_nil_of_le (by omega)] at hf
    exact Fill.done hf

theorem ok_leaf_span_pairs {n : Int} {a b : Runs} (hla : a.length ≤ 100000000000) (hlb : b.length ≤ 100000000000) (ha : Sane a) (hb : Sane b) (hn : n ≤ 1000) : FnE bs n_leaf_span_pairs ((Shape.pair sLeafSpan (.int .i64)).compsE ((a, b), n)) (.slice sRun) (· = (spanPairs a b).take n.toNat) := by
  refine ok_of (e_leaf_span_pairs ((a, b), n) _) rfl ?_
  unfold c_leaf_span_pairs
  let one : Int → Runs → List (Int × Int) := fun s bs => bs.flatMap fun r => (upTo (max r.1 s) r.2).map fun t => (s, t)
  refine loopP_of (fun z : Unit × Int × List (Int × Int) => ∃ k : Nat, z.2.1 = k ∧ k ≤ a.length ∧ Fill (spanPairs a b) n z.2.2 (spanPairs (a.drop k) b)) (fun z => a.length - z.2.1.toNat) ?_ ⟨0, rfl, Nat.zero_le _, Fill.start⟩
  intro z A ⟨k, e1, hk, hf⟩ back
  obtain ⟨_, zk, out⟩ := z
  dsimp only [Shape.Val] at *
  subst e1
  refine cond_dec (fun h1 => ⟨⟨by omega, h1⟩, ?_⟩) fun h1 => ?_
  · have hk' : k < a.length := by omega
    have hg := List.getElem?_eq_getElem hk'
    generalize a[k] = r at hg
    have hr := Sane.bounds ha r (List.mem_of_getElem? hg)
    unfold Lim at hr
    rw [toNat_ofNat, rd_of (s := sRun) hg, w64_of (n := (k : Int) + 1) (by omega)]
    rw [drop_cons hg] at hf
    refine loopP_of (fun z : Unit × Int × List (Int × Int) => r.1 ≤ z.2.1 ∧ z.2.1 ≤ r.2 + 1 ∧ Fill (spanPairs a b) n z.2.2 ((upTo z.2.1 r.2).flatMap (fun s => one s b) ++ spanPairs (a.drop (k + 1)) b)) (fun z => (r.2 + 1 - z.2.1).toNat) ?_ ⟨by dsimp only; omega, by dsimp only; omega, ?_⟩
    · intro z A' ⟨g1, g2, g3⟩ back'
      obtain ⟨_, i, out'⟩ := z
      dsimp only [Shape.Val] at *
      refine cond_dec (fun h2 => cond_dec (fun h3 => ?_) fun h3 => ?_) fun h2 => ?_
      · rw [upTo_cons h2, List.flatMap_cons, List.append_assoc] at g3
        rw [w64_of (n := i + 1) (by omega)]
        refine loopP_of (fun z : Unit × Int × List (Int × Int) => ∃ j : Nat, z.2.1 = j ∧ j ≤ b.length ∧ Fill (spanPairs a b) n z.2.2 (one i (b.drop j) ++ ((upTo (i + 1) r.2).flatMap (fun s => one s b) ++ spanPairs (a.drop (k + 1)) b))) (fun z => b.length - z.2.1.toNat) ?_ ⟨0, rfl, Nat.zero_le _, g3⟩
        intro z A2 ⟨j, e2, hj, f3⟩ back2
        obtain ⟨_, zj, out2⟩ := z
        dsimp only [Shape.Val] at *
        subst e2
        refine cond_dec (fun h4 => ⟨⟨by omega, h4⟩, ?_⟩) fun h4 => ?_
        · have hj' : j < b.length := by omega
          have hq := List.getElem?_eq_getElem hj'
          generalize b[j] = q at hq
          have hqb := Sane.bounds hb q (List.mem_of_getElem? hq)
          unfold Lim at hqb
          rw [toNat_ofNat, rd_of (s := sRun) hq, w64_of (n := (j : Int) + 1) (by omega)]
          have hmax : maxI q.1 i = max q.1 i := by unfold maxI; split <;> omega
          rw [hmax]
          rw [drop_cons hq] at f3
          have e5 : one i (q :: b.drop (j + 1)) = (upTo (max q.1 i) q.2).map (fun t => (i, t)) ++ one i (b.drop (j + 1)) := List.flatMap_cons ..
          rw [e5, List.append_assoc] at f3
          refine loopP_of (fun z : Unit × Int × List (Int × Int) => -1099511627776 ≤ z.2.1 ∧ z.2.1 ≤ 1099511627777 ∧ Fill (spanPairs a b) n z.2.2 ((upTo z.2.1 q.2).map (fun t => (i, t)) ++ (one i (b.drop (j + 1)) ++ ((upTo (i + 1) r.2).flatMap (fun s => one s b) ++ spanPairs (a.drop (k + 1)) b)))) (fun z => (q.2 + 1 - z.2.1).toNat) ?_ ⟨by dsimp only; omega, by dsimp only; omega, f3⟩
          intro z A3 ⟨c1, c2, c3⟩ back3
          obtain ⟨_, t, out3⟩ := z
          dsimp only [Shape.Val] at *
          refine cond_dec (fun h5 => cond_dec (fun h6 => ⟨?_, ?_⟩) fun h6 => ?_) fun h5 => ?_
          · have := c3.1
            simp only [List.length_cons, List.length_nil]
            omega
          · rw [w64_of (n := t + 1) (by omega)]
            refine back3 ((), t + 1, out3 ++ [(i, t)]) ⟨by dsimp only; omega, by dsimp only; omega, ?_⟩ (by dsimp only; omega)
            rw [upTo_cons h5] at c3
            exact Fill.step c3 h6
          · exact back2 ((), (j : Int) + 1, out3) ⟨j + 1, by simp, hj', Fill.full c3 h6⟩ (by dsimp only; omega)
          · rw [upTo_nil (by omega)] at c3
            exact back2 ((), (j : Int) + 1, out3) ⟨j + 1, by simp, hj', c3⟩ (by dsimp only; omega)
        · rw [List.drop_eq_nil_of_le (by omega)] at f3
          exact back' ((), i + 1, out2) ⟨by dsimp only; omega, by dsimp only; omega, f3⟩ (by dsimp only; omega)
      · exact back ((), (k : Int) + 1, out') ⟨k + 1, by simp, hk', Fill.full g3 h3⟩ (by dsimp only; omega)
      · rw [upTo_nil (by omega)] at g3
        exact back ((), (k : Int) + 1, out') ⟨k + 1, by simp, hk', g3⟩ (by dsimp only; omega)
    · have e : spanPairs (r :: a.drop (k + 1)) b = (upTo r.1 r.2).flatMap (fun s => one s b) ++ spanPairs (a.drop (k + 1)) b := by
        unfold spanPairs nums
        rw [List.flatMap_cons, List.flatMap_append]
      rw [e] at hf
      exact hf
  · rw [List.drop_eq_nil_of_le (by omega)] at hf
    exact Fill.done hf

theorem ok_leaf_Pairs {f : Leaf} {n : Int} (hla : f.2.2.1.length ≤ 100000000000) (hlb : f.2.2.2.length ≤ 100000000000) : FnE bs n_leaf_Pairs ((Shape.pair sApiLeaf (.int .i64)).compsE (f, n)) (.slice sRun) (· = pairsF f n) := by
  refine ok_of (e_leaf_Pairs (f, n) _) rfl ?_
  unfold c_leaf_Pairs pairsF
  refine callP_eq (ok_leaf_of (f := f) hla hlb) ?_
  have hmin : minI n 1000 = min n 1000 := by unfold minI; split <;> omega
  dsimp only
  rw [hmin]
  cases ho : ofF f with
  | none => exact cond_yes rfl (by rw [show famPairs none = [] from rfl, List.take_nil])
  | some x =>
    cases x with
    | inl y =>
      obtain ⟨u, s⟩ := y
      obtain ⟨h1, h2, h3, h4, h5, h6, h7⟩ := of_units ho
      exact callP_eq (ok_leaf_units_pairs (by rw [h4]; exact hla) h6 (by omega)) rfl
    | inr y =>
      obtain ⟨a, b⟩ := y
      obtain ⟨h1, h2, h3, h4, h5, h6, h7, e1, e2⟩ := of_span ho
      obtain ⟨sa, sb, na, nb, _⟩ := span_ends ho
      have la : a.length ≤ 100000000000 := by rw [e1]; exact Nat.le_trans (clip_length _ _ _) hla
      have lb : b.length ≤ 100000000000 := by rw [e2]; exact Nat.le_trans (clip_length _ _ _) hlb
      exact callP_eq (ok_leaf_span_pairs la lb sa sb (by omega)) rfl
end Go.Proofs.YtdlgenbfnahmeaaGreatDoor.V


/- Sets as runs, of whatever runs: what the program's functions answer. No condition of its own. -/
namespace Go.Proofs.YtdlgenbfnahmeaaGreatDoor.V
open Go
set_option linter.unusedVariables false
set_option linter.unusedSimpArgs false

theorem ok_runs_order_compare {x : PR × PR} : FnE bs n_runs_order_compare ((Shape.pair sRunsOrder (.pair sRun sRun)).compsE (false, x)) (.int .i64) (· = cmpS x.1.1 x.2.1) := by
  refine ok_of (e_runs_order_compare (false, x) _) rfl ?_
  unfold c_runs_order_compare
  exact cond_no rfl (callP_eq ok_cmp_Compare rfl)

theorem ky_get {xs : List PR} {k : Nat} {r : PR} (h : xs[k]? = some r) : ky xs k = r.1 := by
  unfold ky el
  rw [List.getD_eq_getElem?_getD, h]
  rfl

theorem max_max (a b : Int) : maxI a b = max a b := by unfold maxI; split <;> omega
theorem min_min (a b : Int) : minI a b = min a b := by unfold minI; split <;> omega

/-- Runs that are clamped, the empty ones left out. -/
def clampO (r : PR) : Option PR := if (clampR r).1 ≤ (clampR r).2 then some (clampR r) else none

theorem clampO_mem {l : Runs} {n : Int} : mem (l.filterMap clampO) n ↔ memL l n := by
  unfold memL mem
  constructor
  · rintro ⟨q, hq, h1, h2⟩
    obtain ⟨r, hr, e⟩ := List.mem_filterMap.1 hq
    unfold clampO at e
    split at e
    · cases e
      have := clamp_in.1 ⟨h1, h2⟩
      exact ⟨this.1, this.2.1, r, hr, this.2.2⟩
    · cases e
  · rintro ⟨h1, h2, r, hr, h3, h4⟩
    have := clamp_in.2 ⟨h1, h2, h3, h4⟩
    exact ⟨clampR r, List.mem_filterMap.2 ⟨r, hr, by unfold clampO; rw [if_pos (by omega)]⟩, this.1, this.2⟩

theorem mem_take_succ {s : Runs} {k : Nat} {r : PR} (h : s[k]? = some r) (n : Int) : mem (s.take (k + 1)) n ↔ mem (s.take k) n ∨ (r.1 ≤ n ∧ n ≤ r.2) := by
  rw [List.take_add_one, h, Option.toList_some, mem_append, mem_cons]
  exact ⟨fun q => q.imp id fun q => q.elim id fun q => (mem_nil q).elim, fun q => q.imp id .inl⟩

theorem ok_runs_Make {l : Runs} (hl : l.length < 100000000000) : FnE bs n_runs_Make ((Shape.slice sRun).compsE l) (.slice sRun) (· = makeF l) := by
  refine ok_han (e_runs_Make l _) rfl (HanOK.ofList [(95, .mut 0)] rfl rfl trivial) ?_
  unfold c_runs_Make
  refine loopP_of (fun z : Unit × Int × Runs => ∃ k : Nat, z.2.1 = k ∧ k ≤ l.length ∧ z.2.2 = (l.take k).filterMap clampO) (fun z => l.length - z.2.1.toNat) ?_ ⟨0, rfl, Nat.zero_le _, rfl⟩
  rintro ⟨u, _, acc⟩ A ⟨k, e1, hk, e2⟩ back
  dsimp only at e1 e2 ⊢
  subst e1
  subst e2
  have hacc : ((l.take k).filterMap clampO).length ≤ k := Nat.le_trans (List.length_filterMap_le _ _) (by rw [List.length_take]; omega)
  refine cond_dec (fun h1 => ⟨⟨by omega, h1⟩, ?_⟩) fun h1 => ?_
  · have h1 : (k : Int) < l.length := h1
    have hk' : k < l.length := by omega
    have hg := List.getElem?_eq_getElem hk'
    generalize l[k] = r at hg
    rw [toNat_ofNat, rd_of (s := sRun) hg, max_max, min_min, w_succ (by omega)]
    have ht : l.take (k + 1) = l.take k ++ [r] := by rw [List.take_add_one, hg]; rfl
    refine cond_dec (fun h2 => ⟨?_, ?_⟩) fun h2 => ?_
    · simp only [List.length_cons, List.length_nil]; omega
    · refine back ((), ((k + 1 : Nat) : Int), _) ⟨k + 1, rfl, hk', ?_⟩ (by dsimp only; omega)
      rw [ht, List.filterMap_append]
      have : clampO r = some (max r.1 (-1099511627776), min r.2 1099511627776) := by unfold clampO; rw [if_pos (show (clampR r).1 ≤ (clampR r).2 from h2)]; rfl
      simp [this]
    · refine back ((), ((k + 1 : Nat) : Int), _) ⟨k + 1, rfl, hk', ?_⟩ (by dsimp only; omega)
      rw [ht, List.filterMap_append]
      have : clampO r = none := by unfold clampO; rw [if_neg (show ¬ (clampR r).1 ≤ (clampR r).2 from h2)]
      simp [this]
  · have hkl : k = l.length := by have h1 : ¬ (k : Int) < l.length := h1; omega
    subst hkl
    rw [List.take_length] at hacc ⊢
    have hmem := fun n => clampO_mem (l := l) (n := n)
    have hbd : ∀ r ∈ l.filterMap clampO, -Lim ≤ r.1 ∧ r.1 ≤ r.2 ∧ r.2 ≤ Lim := fun r hr => by
      obtain ⟨q, hq, e⟩ := List.mem_filterMap.1 hr
      unfold clampO at e
      split at e
      · cases e
        rename_i h
        unfold clampR Lim at *
        dsimp only at *
        omega
      · cases e
    refine ⟨G, ⟨(ok_runs_order_compare (x := ((0, 0), (0, 0)))).1, fun x r hx => by cases hx; exact ok_runs_order_compare⟩, ?_⟩
    generalize l.filterMap clampO = xs at hacc hmem hbd
    refine callMP_of (ok_SortFunc (xs := xs) (by omega)) fun r (ys : Runs) hy => ?_
    have hy : ys.Perm xs ∧ Srt ys 0 xs.length := hy
    have hyl : ys.length = xs.length := hy.1.length_eq
    refine ⟨hyl, ?_⟩
    have hyb : ∀ (j : Nat) r, ys[j]? = some r → -Lim ≤ r.1 ∧ r.1 ≤ r.2 ∧ r.2 ≤ Lim := fun j r hr => hbd r (hy.1.subset (List.mem_of_getElem? hr))
    refine loopP_of (fun z : Unit × Int × Runs => ∃ k : Nat, z.2.1 = k ∧ k ≤ ys.length ∧ z.2.2.length ≤ k ∧ Sane z.2.2 ∧ (∀ n, mem z.2.2 n ↔ mem (ys.take k) n) ∧ ∀ q ∈ z.2.2, ∀ j r, k ≤ j → ys[j]? = some r → q.1 ≤ r.1) (fun z => ys.length - z.2.1.toNat) ?_ ⟨0, rfl, Nat.zero_le _, Nat.zero_le _, sane_nil', fun n => Iff.rfl, fun q hq => by cases hq⟩
    rintro ⟨u, _, out⟩ A2 ⟨k, e1, hk, g1, g2, g3, g4⟩ back2
    dsimp only at e1 g1 g2 g3 g4 ⊢
    subst e1
    refine cond_dec (fun h1 => ⟨⟨by omega, h1⟩, ?_⟩) fun h1 => ?_
    · have h1 : (k : Int) < ys.length := h1
      have hk' : k < ys.length := by omega
      have hg := List.getElem?_eq_getElem hk'
      generalize ys[k] = r at hg
      have hb := hyb k r hg
      rw [toNat_ofNat, rd_of (s := sRun) hg, w_succ (by omega)]
      have hlater : ∀ j q, k + 1 ≤ j → ys[j]? = some q → r.1 ≤ q.1 := fun j q hj hq => by
        have := hy.2 k j (Nat.zero_le _) (by omega) (by have := (List.getElem?_eq_some_iff.1 hq).1; omega)
        rw [ky_get hg, ky_get hq] at this
        exact this
      -- a run of its own
      have own : (∀ q ∈ out, q.2 + 2 ≤ r.1) → chk ((out.length + [(r.1, r.2)].length) * 16 ≤ 140737488355328) (A2 ((), ((k + 1 : Nat) : Int), out ++ [(r.1, r.2)])) := fun h => by
        refine ⟨by simp only [List.length_cons, List.length_nil]; omega, ?_⟩
        refine back2 ((), ((k + 1 : Nat) : Int), out ++ [(r.1, r.2)]) ⟨k + 1, rfl, hk', by simp; omega, SaneFrom.append g2 hb.2.1 hb.2.2 (by unfold Lim at hb; dsimp only; omega) h, fun n => ?_, fun q hq j p hj hp => ?_⟩ (by dsimp only; omega)
        · rw [mem_take_succ hg, mem_append, g3 n, mem_cons]
          exact ⟨fun q => q.imp id fun q => q.elim id fun q => (mem_nil q).elim, fun q => q.imp id .inl⟩
        · rcases List.mem_append.1 hq with hq | hq
          · exact g4 q hq j p (by omega) hp
          · rw [List.mem_singleton] at hq; subst hq; exact hlater j p hj hp
      rcases List.eq_nil_or_concat out with e | ⟨f, q, e⟩
      · subst e
        refine cond_dec (fun h2 => ?_) fun _ => own fun q hq => by cases hq
        exact absurd h2 (by decide)
      · rw [List.concat_eq_append] at e
        subst e
        have hfl : ((f ++ [q]).length : Int) - 1 = (f.length : Int) := by simp
        rw [hfl, w64_of (n := (f.length : Int)) (by simp at g1; omega)]
        have hgl : (f ++ [q])[f.length]? = some q := by simp
        rw [toNat_ofNat, rd_of (s := sRun) hgl, set_last]
        have hq := Sane.bounds g2 q (by simp)
        have hql := g4 q (by simp) k r (Nat.le_refl _) hg
        refine cond_dec (fun h2 => ⟨⟨by omega, by simp; omega⟩, ?_⟩) fun h2 => absurd (show (0 : Int) ≤ f.length by omega) h2
        rw [w64_of (n := q.2 + 1) (by unfold Lim at hq; omega), max_max]
        refine cond_dec (fun h3 => ⟨⟨by omega, by simp; omega⟩, ⟨by omega, by simp; omega⟩, ?_⟩) fun h3 => own fun p hp => ?_
        · have h3 : r.1 ≤ q.2 + 1 := h3
          refine back2 ((), ((k + 1 : Nat) : Int), f ++ [(q.1, max q.2 r.2)]) ⟨k + 1, rfl, hk', by simp at g1 ⊢; omega, sane_last g2 rfl (by dsimp only; omega) (by dsimp only; omega), fun n => ?_, fun p hp j t hj ht => ?_⟩ (by dsimp only; omega)
          · rw [mem_take_succ hg, ← g3 n, mem_append, mem_append, mem_cons, mem_cons]
            dsimp only
            constructor
            · rintro (x | x | x)
              · exact .inl (.inl x)
              · by_cases e : n ≤ q.2
                · exact .inl (.inr (.inl ⟨x.1, e⟩))
                · exact .inr (by omega)
              · exact (mem_nil x).elim
            · rintro ((x | x | x) | x)
              · exact .inl x
              · exact .inr (.inl (by omega))
              · exact (mem_nil x).elim
              · exact .inr (.inl (by omega))
          · rcases List.mem_append.1 hp with hp | hp
            · exact g4 p (by simp [hp]) j t (by omega) ht
            · rw [List.mem_singleton] at hp; subst hp; exact g4 q (by simp) j t (by omega) ht
        · have h3 : ¬ r.1 ≤ q.2 + 1 := h3
          obtain ⟨i, hi⟩ := List.getElem?_of_mem hp
          have hil := (List.getElem?_eq_some_iff.1 hi).1
          by_cases e : i = f.length
          · subst e
            rw [hgl] at hi; cases hi; omega
          · have := SaneFrom.get g2 i f.length p q hi hgl (by simp at hil; omega)
            omega
    · have hkl : k = ys.length := by have h1 : ¬ (k : Int) < ys.length := h1; omega
      subst hkl
      refine make_of g2 fun n => ?_
      rw [g3 n, List.take_length, ← hmem n]
      unfold mem
      exact ⟨fun ⟨q, hq, h⟩ => ⟨q, hy.1.subset hq, h⟩, fun ⟨q, hq, h⟩ => ⟨q, hy.1.symm.subset hq, h⟩⟩

theorem ok_runs_knownA {s : Runs} (hl : s.length < 100000000000) : FnE bs n_runs_known ((Shape.slice sRun).compsE s) (.slice sRun) (· = makeF s) := by
  refine ok_of (e_runs_known s _) rfl ?_
  unfold c_runs_known
  refine callP_eq (ok_runs_Sane (by omega)) (cond_dec (fun h => (make_self h).symm) fun h => callP_eq (ok_runs_Make hl) rfl)

theorem ok_sets_knownA {s : Runs} (hl : s.length < 100000000000) : FnE bs n_sets_known ((Shape.slice sRun).compsE s) (.slice sRun) (· = makeF s) := by
  refine ok_of (e_sets_known s _) rfl ?_
  unfold c_sets_known
  refine callP_eq (ok_runs_Sane (by omega)) (cond_dec (fun h => (make_self h).symm) fun h => callP_eq (ok_runs_Make hl) rfl)

section
variable {s a b : Runs} {n lo hi : Int}

theorem ok_runs_HasA (hl : s.length < 100000000000) : FnE bs n_runs_Has ((Shape.pair (.slice sRun) (.int .i64)).compsE (s, n)) .bool (· = decide (mem (makeF s) n)) :=
  ok_runs_Has_gen (ok_runs_knownA hl) (by have := make_length s; omega) (make_sane s)

theorem ok_sets_MeetA (hla : a.length < 100000000000) (hlb : b.length < 100000000000) : FnE bs n_sets_Meet ((Shape.pair (.slice sRun) (.slice sRun)).compsE (a, b)) (.slice sRun) (MeetR (makeF a) (makeF b)) :=
  ok_sets_Meet_gen (ok_sets_knownA hla) (ok_sets_knownA hlb) (by have := make_length a; omega) (by have := make_length b; omega) (make_sane a) (make_sane b)

theorem ok_sets_WideA (hl : s.length < 100000000000) : FnE bs n_sets_Wide ((Shape.slice sRun).compsE s) .bool (· = decide (400 < (makeF s).length)) := by
  refine ok_of (e_sets_Wide s _) rfl ?_
  unfold c_sets_Wide
  refine callP_eq (ok_sets_knownA hl) (be (decide_eq_decide.2 ?_))
  omega

/-- How many numbers a set has. -/
def countF : Runs → Int
  | [] => 0
  | r :: s => (r.2 - r.1 + 1) + countF s

theorem count_append (s t : Runs) : countF (s ++ t) = countF s + countF t := by
  induction s with
  | nil => simp [countF]
  | cons r s ih => simp only [List.cons_append, countF, ih]; omega

theorem count_take : ∀ (s : Runs) {a : Int}, SaneFrom a s → ∀ k : Nat, 0 ≤ countF (s.take k) ∧ countF (s.take k) ≤ max 0 (Lim - a)
  | [], a, _, k => by rw [List.take_nil]; exact ⟨Int.le_refl _, by unfold countF; omega⟩
  | r :: s, a, h, 0 => ⟨Int.le_refl _, by show (0 : Int) ≤ _; omega⟩
  | r :: s, a, h, k + 1 => by
    have ih := count_take s h.2.2.2 k
    have h1 := h.1
    have h2 := h.2.1
    have h3 := h.2.2.1
    rw [List.take_succ_cons]
    unfold countF
    omega

theorem ok_runs_CountA (hl : s.length < 100000000000) : FnE bs n_runs_Count ((Shape.slice sRun).compsE s) (.int .i64) (· = countF (makeF s)) := by
  refine ok_of (e_runs_Count s _) rfl ?_
  unfold c_runs_Count
  have hml := make_length s
  have h := make_sane s
  refine callP_eq (ok_runs_knownA hl) ?_
  generalize makeF s = t at hml h
  refine loopP_of (fun z : Int × Int => ∃ k : Nat, z.2 = k ∧ k ≤ t.length ∧ z.1 = countF (t.take k)) (fun z => t.length - z.2.toNat) ?_ ⟨0, rfl, Nat.zero_le _, rfl⟩
  rintro ⟨_, _⟩ A ⟨k, e1, hk, e2⟩ back
  dsimp only at e1 e2 ⊢
  subst e1
  subst e2
  refine cond_dec (fun h1 => ⟨⟨by omega, h1⟩, ?_⟩) fun h1 => ?_
  · have h1 : (k : Int) < t.length := h1
    have hk' : k < t.length := by omega
    have hg := List.getElem?_eq_getElem hk'
    generalize t[k] = r at hg
    have hb := Sane.bounds h r (List.mem_of_getElem? hg)
    have hct := count_take t h k
    unfold Lim at hb hct
    rw [toNat_ofNat, rd_of (s := sRun) hg, w_succ (by omega), w64_of (n := r.2 - r.1) (by omega), w64_of (n := r.2 - r.1 + 1) (by omega), w64_of (n := countF (t.take k) + (r.2 - r.1 + 1)) (by omega)]
    refine back (_, ((k + 1 : Nat) : Int)) ⟨k + 1, rfl, hk', ?_⟩ (by dsimp only; omega)
    dsimp only
    rw [List.take_add_one, hg, Option.toList_some, count_append]
    simp [countF]
  · rw [List.take_of_length_le (by have h1 : ¬ (k : Int) < t.length := h1; omega)]

theorem ok_runs_Of {l : List Int} (hl : l.length < 100000000000) : FnE bs n_runs_Of ((Shape.slice (.int .i64)).compsE l) (.slice sRun) (· = makeF (l.map fun n => (n, n))) := by
  refine ok_of (e_runs_Of l _) rfl ?_
  unfold c_runs_Of
  refine loopP_of (fun z : Unit × Int × Runs => ∃ k : Nat, z.2.1 = k ∧ k ≤ l.length ∧ z.2.2 = (l.take k).map fun n => (n, n)) (fun z => l.length - z.2.1.toNat) ?_ ⟨0, rfl, Nat.zero_le _, rfl⟩
  rintro ⟨u, _, acc⟩ A ⟨k, e1, hk, e2⟩ back
  dsimp only at e1 e2 ⊢
  subst e1
  subst e2
  refine cond_dec (fun h1 => ⟨⟨by omega, h1⟩, ?_⟩) fun h1 => ?_
  · have h1 : (k : Int) < l.length := h1
    have hk' : k < l.length := by omega
    have hg := List.getElem?_eq_getElem hk'
    generalize l[k] = r at hg
    rw [toNat_ofNat, rd_of (s := .int .i64) hg, w_succ (by omega)]
    refine ⟨by simp only [List.length_cons, List.length_nil, List.length_map, List.length_take]; omega, ?_⟩
    refine back ((), ((k + 1 : Nat) : Int), _) ⟨k + 1, rfl, hk', ?_⟩ (by dsimp only; omega)
    rw [List.take_add_one, hg, Option.toList_some, List.map_append]
    rfl
  · rw [List.take_of_length_le (by have h1 : ¬ (k : Int) < l.length := h1; omega)]
    exact callP_eq (ok_runs_Make (by rw [List.length_map]; exact hl)) rfl
end
end Go.Proofs.YtdlgenbfnahmeaaGreatDoor.V


/- The document's answer for sets: what its functions answer. No condition of its own. -/
namespace Go.Proofs.YtdlgenbfnahmeaaGreatDoor.V
open Go
set_option linter.unusedVariables false
set_option linter.unusedSimpArgs false

theorem saneFrom_take : ∀ {s : Runs} {a : Int}, SaneFrom a s ↔ ∀ (k : Nat) r, s[k]? = some r → r.1 ≤ r.2 ∧ r.2 ≤ Lim ∧ (k = 0 → a + 2 ≤ r.1) ∧ ∀ q, 1 ≤ k → s[k - 1]? = some q → q.2 + 2 ≤ r.1
  | [], a => ⟨fun _ k r h => by simp at h, fun _ => trivial⟩
  | x :: s, a => by
    constructor
    · intro h k r hk
      cases k with
      | zero => simp at hk; subst hk; exact ⟨h.1, h.2.2.1, fun _ => h.2.1, fun q h1 => by omega⟩
      | succ k =>
        have hk' : s[k]? = some r := by simpa using hk
        have := (saneFrom_take.1 h.2.2.2) k r hk'
        refine ⟨this.1, this.2.1, fun e => by omega, fun q _ hq => ?_⟩
        cases k with
        | zero => simp at hq; subst hq; exact this.2.2.1 rfl
        | succ k => exact this.2.2.2 q (by omega) (by simpa using hq)
    · intro h
      have h0 := h 0 x rfl
      refine ⟨h0.1, h0.2.2.1 rfl, h0.2.1, saneFrom_take.2 fun k r hk => ?_⟩
      have := h (k + 1) r (by simpa using hk)
      refine ⟨this.1, this.2.1, fun e => ?_, fun q hk1 hq => ?_⟩
      · subst e; exact this.2.2.2 x (by omega) rfl
      · obtain ⟨j, rfl⟩ : ∃ j, k = j + 1 := ⟨k - 1, by omega⟩
        exact this.2.2.2 q (by omega) (by simpa using hq)

theorem ok_ref04_Sane {s : Runs} (hl : s.length ≤ 100000000000) : FnE bs n_lustrumref04_Sane ((Shape.slice sRun).compsE s) .bool (· = decide (Sane s)) := by
  refine ok_of (e_lustrumref04_Sane s _) rfl ?_
  unfold c_lustrumref04_Sane
  have hS : Sane s ↔ _ := saneFrom_take
  refine loopP_of (fun z : Int => ∃ k : Nat, z = k ∧ k ≤ s.length ∧ ∀ (i : Nat) r, i < k → s[i]? = some r → r.1 ≤ r.2 ∧ -Lim ≤ r.1 ∧ r.2 ≤ Lim ∧ ∀ q, 1 ≤ i → s[i - 1]? = some q → q.2 + 2 ≤ r.1) (fun z => s.length - z.toNat) ?_ ⟨0, rfl, Nat.zero_le _, fun i r h => by omega⟩
  rintro _ A ⟨k, rfl, hk, hi⟩ back
  refine cond_dec (fun h1 => ?_) fun h1 => ?_
  · have h1 : (k : Int) < s.length := h1
    have hk' : k < s.length := by omega
    have hg := List.getElem?_eq_getElem hk'
    generalize s[k] = r at hg
    rw [toNat_ofNat, rd_of (s := sRun) hg, w64_of (n := (k : Int) + 1) (by omega)]
    have no : ∀ {P : Prop}, (Sane s → P) → ¬ P → (false : Bool) = decide (Sane s) := fun h q => (decide_eq_false fun hs => q (h hs)).symm
    refine ⟨⟨by omega, h1⟩, ⟨by omega, h1⟩, cond_dec (fun h2 => be (no (P := r.1 ≤ r.2) (fun hs => (Sane.bounds hs r (List.mem_of_getElem? hg)).2.1) (by have h2 : r.2 < r.1 := h2; omega))) fun h2 => ⟨⟨by omega, h1⟩, cond_dec (fun h3 => be (no (P := -Lim ≤ r.1) (fun hs => (Sane.bounds hs r (List.mem_of_getElem? hg)).1) (by have h3 : r.1 < -1099511627776 := h3; unfold Lim; omega))) fun h3 => ⟨⟨by omega, h1⟩, cond_dec (fun h4 => be (no (P := r.2 ≤ Lim) (fun hs => (Sane.bounds hs r (List.mem_of_getElem? hg)).2.2) (by have h4 : 1099511627776 < r.2 := h4; unfold Lim; omega))) fun h4 => cond_dec (fun h5 => ?_) fun h5 => ?_⟩⟩⟩
    · have h2 : ¬ r.2 < r.1 := h2
      have h3 : ¬ r.1 < -1099511627776 := h3
      have h4 : ¬ 1099511627776 < r.2 := h4
      have h5 : (0 : Int) < k := h5
      rw [w_pred (by omega) (by omega), toNat_ofNat, w64_of (n := r.1 - 1) (by omega)]
      have hk2 : k - 1 < s.length := by omega
      have hg2 := List.getElem?_eq_getElem hk2
      generalize s[k - 1] = q at hg2
      rw [rd_of (s := sRun) hg2]
      refine ⟨⟨by omega, h1⟩, ⟨by omega, by omega⟩, cond_dec (fun h6 => be (no (P := q.2 + 2 ≤ r.1) (fun hs => SaneFrom.get hs (k - 1) k q r hg2 hg (by omega)) (by have h6 : r.1 - 1 ≤ q.2 := h6; omega))) fun h6 => ?_⟩
      have h6 : ¬ r.1 - 1 ≤ q.2 := h6
      refine back _ ⟨k + 1, by simp, hk', fun i p hik hp => ?_⟩ (by omega)
      by_cases e : i = k
      · subst e
        rw [hg] at hp; cases hp
        exact ⟨by omega, by unfold Lim; omega, by unfold Lim; omega, fun p hp1 hp2 => by rw [hg2] at hp2; cases hp2; omega⟩
      · exact hi i p (by omega) hp
    · have h2 : ¬ r.2 < r.1 := h2
      have h3 : ¬ r.1 < -1099511627776 := h3
      have h4 : ¬ 1099511627776 < r.2 := h4
      have h5 : ¬ (0 : Int) < k := h5
      have : k = 0 := by omega
      subst this
      refine back _ ⟨1, by simp, hk', fun i p hik hp => ?_⟩ (by omega)
      have : i = 0 := by omega
      subst this
      rw [hg] at hp; cases hp
      exact ⟨by omega, by unfold Lim; omega, by unfold Lim; omega, fun p hp1 => by omega⟩
  · refine be (decide_eq_true (hS.2 fun i r hr => ?_)).symm
    have hil := (List.getElem?_eq_some_iff.1 hr).1
    have := hi i r (by have h1 : ¬ (k : Int) < s.length := h1; omega) hr
    exact ⟨this.1, this.2.2.1, fun _ => by unfold Lim at this; omega, this.2.2.2⟩

theorem ok_ref04_put {s : Runs} {r : Int × Int} (hl : s.length ≤ 100000000000) (h : Sane s) : FnE bs n_lustrumref04_put ((Shape.pair (.slice sRun) sRun).compsE (s, r)) (.slice sRun) (· = putF s r) := by
  refine ok_of (e_lustrumref04_put (s, r) _) rfl ?_
  unfold c_lustrumref04_put
  dsimp only
  rw [max_max, min_min]
  have hc : clampR r = (max r.1 (-1099511627776), min r.2 1099511627776) := rfl
  refine cond_dec (fun h1 => ?_) fun h1 => ?_
  · show s = putF s r
    have h1 : min r.2 1099511627776 < max r.1 (-1099511627776) := h1
    unfold putF
    rw [hc, if_neg (by dsimp only; omega)]
  · have h1 : ¬ min r.2 1099511627776 < max r.1 (-1099511627776) := h1
    have hput : putF s r = putS s (max r.1 (-1099511627776), min r.2 1099511627776) := by unfold putF; rw [hc, if_pos (by dsimp only; omega)]
    rw [hput]
    generalize hx : (max r.1 (-1099511627776), min r.2 1099511627776) = x0
    have hx1 : max r.1 (-1099511627776) = x0.1 := by rw [← hx]
    have hx2 : min r.2 1099511627776 = x0.2 := by rw [← hx]
    rw [hx1, hx2] at h1
    have hb0 : -Lim ≤ x0.1 ∧ x0.2 ≤ Lim := by rw [← hx1, ← hx2]; unfold Lim; omega
    -- those ahead; then what is still to be looked at, unless some are behind
    refine loopP_of (fun z : Unit × Unit × Int × (Int × Int) × Runs × Runs => ∃ k : Nat, z.2.2.1 = k ∧ k ≤ s.length ∧ z.2.2.2.2.1.length ≤ k ∧ z.2.2.2.2.2.length ≤ k ∧ -Lim ≤ z.2.2.2.1.1 ∧ z.2.2.2.1.1 ≤ z.2.2.2.1.2 ∧ z.2.2.2.1.2 ≤ Lim ∧
        ((z.2.2.2.2.2 = [] ∧ putS s x0 = z.2.2.2.2.1 ++ putS (s.drop k) z.2.2.2.1) ∨ (z.2.2.2.2.2 ≠ [] ∧ putS s x0 = z.2.2.2.2.1 ++ z.2.2.2.1 :: (z.2.2.2.2.2 ++ s.drop k) ∧ ∀ q ∈ s.drop k, z.2.2.2.1.2 + 1 < q.1))) (fun z => s.length - z.2.2.1.toNat) ?_ ⟨0, rfl, Nat.zero_le _, Nat.zero_le _, Nat.zero_le _, hb0.1, by dsimp only; omega, hb0.2, .inl ⟨rfl, rfl⟩⟩
    rintro ⟨_, _, _, x, be', af⟩ A ⟨k, e1, hk, hlb, hla, b1, b2, b3, hcase⟩ back
    dsimp only at e1 hlb hla b1 b2 b3 hcase ⊢
    subst e1
    unfold Lim at b1 b3
    refine cond_dec (fun h2 => ?_) fun h2 => ?_
    · have h2 : (k : Int) < s.length := h2
      have hk' : k < s.length := by omega
      have hg := List.getElem?_eq_getElem hk'
      generalize s[k] = q at hg
      have hq := Sane.bounds h q (List.mem_of_getElem? hg)
      unfold Lim at hq
      have ed := drop_cons hg
      rw [toNat_ofNat, rd_of (s := sRun) hg, w64_of (n := x.1 - 1) (by omega), w64_of (n := x.2 + 1) (by omega), w_succ (by omega)]
      have hafter : ∀ p ∈ s.drop (k + 1), q.2 + 2 ≤ p.1 := fun p hp => by
        obtain ⟨c, hcc⟩ := SaneFrom.drop k h
        rw [ed] at hcc
        exact (SaneFrom.lt hcc.2.2.2 p hp).1
      refine ⟨⟨by omega, h2⟩, cond_dec (fun h3 => ⟨⟨by omega, h2⟩, ?_, ?_⟩) fun h3 => ⟨⟨by omega, h2⟩, cond_dec (fun h4 => ⟨⟨by omega, h2⟩, ?_, ?_⟩) fun h4 => ⟨⟨by omega, h2⟩, ⟨by omega, h2⟩, ?_⟩⟩⟩
      · simp only [List.length_cons, List.length_nil]; omega
      · have h3 : q.2 < x.1 - 1 := h3
        refine back ((), (), ((k + 1 : Nat) : Int), x, be' ++ [q], af) ⟨k + 1, rfl, hk', by simp; omega, by dsimp only; omega, b1, b2, b3, ?_⟩ (by dsimp only; omega)
        dsimp only
        rcases hcase with ⟨c1, c2⟩ | ⟨c1, c2, c3⟩
        · refine .inl ⟨c1, ?_⟩
          rw [c2, ed]
          conv => lhs; unfold putS
          rw [if_pos (by omega)]
          simp
        · have := c3 q (by rw [ed]; exact List.mem_cons_self ..)
          omega
      · simp only [List.length_cons, List.length_nil]; omega
      · have h3 : ¬ q.2 < x.1 - 1 := h3
        have h4 : x.2 + 1 < q.1 := h4
        refine back ((), (), ((k + 1 : Nat) : Int), x, be', af ++ [q]) ⟨k + 1, rfl, hk', by dsimp only; omega, by simp; omega, b1, b2, b3, .inr ⟨by simp, ?_, fun p hp => ?_⟩⟩ (by dsimp only; omega) <;> dsimp only at *
        · rcases hcase with ⟨c1, c2⟩ | ⟨c1, c2, c3⟩
          · rw [c2, ed, c1]
            conv => lhs; unfold putS
            rw [if_neg (by omega), if_pos h4]
            simp
          · rw [c2, ed]
            simp
        · have := hafter p hp; omega
      · have h3 : ¬ q.2 < x.1 - 1 := h3
        have h4 : ¬ x.2 + 1 < q.1 := h4
        rw [max_max, min_min]
        refine back ((), (), ((k + 1 : Nat) : Int), (min x.1 q.1, max x.2 q.2), be', af) ⟨k + 1, rfl, hk', by dsimp only; omega, by dsimp only; omega, by unfold Lim; dsimp only; omega, by dsimp only; omega, by unfold Lim; dsimp only; omega, ?_⟩ (by dsimp only; omega)
        dsimp only
        rcases hcase with ⟨c1, c2⟩ | ⟨c1, c2, c3⟩
        · refine .inl ⟨c1, ?_⟩
          rw [c2, ed]
          conv => lhs; unfold putS
          rw [if_neg (by omega), if_neg h4]
        · have := c3 q (by rw [ed]; exact List.mem_cons_self ..)
          omega
    · have hkl : k = s.length := by have h2 : ¬ (k : Int) < s.length := h2; omega
      subst hkl
      rw [List.drop_length] at hcase
      refine ⟨?_, ?_, ?_⟩
      · simp only [List.length_cons, List.length_nil]; omega
      · simp only [List.length_append, List.length_cons, List.length_nil]; omega
      · show (be' ++ [(x.1, x.2)]) ++ af = putS s x0
        rcases hcase with ⟨c1, c2⟩ | ⟨c1, c2, c3⟩
        · rw [c2, c1]; simp [putS]
        · rw [c2]; simp

theorem ok_ref04_Make {l : Runs} (hl : l.length ≤ 10000000000) : FnE bs n_lustrumref04_Make ((Shape.slice sRun).compsE l) (.slice sRun) (· = makeF l) := by
  refine ok_of (e_lustrumref04_Make l _) rfl ?_
  unfold c_lustrumref04_Make
  refine loopP_of (fun z : Runs × Int => ∃ k : Nat, z.2 = k ∧ k ≤ l.length ∧ z.1 = makeF (l.take k)) (fun z => l.length - z.2.toNat) ?_ ⟨0, rfl, Nat.zero_le _, rfl⟩
  rintro ⟨_, _⟩ A ⟨k, e1, hk, e2⟩ back
  dsimp only at e1 e2 ⊢
  subst e1
  subst e2
  refine cond_dec (fun h1 => ⟨⟨by omega, h1⟩, ?_⟩) fun h1 => ?_
  · have h1 : (k : Int) < l.length := h1
    have hk' : k < l.length := by omega
    have hg := List.getElem?_eq_getElem hk'
    generalize l[k] = q at hg
    rw [toNat_ofNat, rd_of (s := sRun) hg, w_succ (by omega)]
    have hml := make_length (l.take k)
    rw [List.length_take] at hml
    refine callP_eq (ok_ref04_put (by omega) (make_sane _)) (back _ ⟨k + 1, rfl, hk', ?_⟩ (by dsimp only; omega))
    dsimp only
    rw [List.take_add_one, hg, Option.toList_some]
    unfold makeF
    rw [List.foldl_append]
    rfl
  · rw [List.take_of_length_le (by have h1 : ¬ (k : Int) < l.length := h1; omega)]

theorem ok_ref04_As {s : Runs} (hl : s.length ≤ 10000000000) : FnE bs n_lustrumref04_As ((Shape.slice sRun).compsE s) (.slice sRun) (· = makeF s) := by
  refine ok_of (e_lustrumref04_As s _) rfl ?_
  unfold c_lustrumref04_As
  exact callP_eq (ok_ref04_Sane (by omega)) (cond_dec (fun h => (make_self h).symm) fun h => callP_eq (ok_ref04_Make hl) rfl)

/-! ### What two sets have in common -/

def meetF (a b : Runs) : Runs := a.flatMap fun x => clipF b x.1 x.2

theorem mem_meet {a b : Runs} {n : Int} : mem (meetF a b) n ↔ mem a n ∧ mem b n := by
  unfold meetF
  constructor
  · rintro ⟨q, hq, h1, h2⟩
    obtain ⟨x, hx, hqx⟩ := List.mem_flatMap.1 hq
    have := (mem_clip (s := b) (lo := x.1) (hi := x.2) (n := n)).1 ⟨q, hqx, h1, h2⟩
    exact ⟨⟨x, hx, this.2⟩, this.1⟩
  · rintro ⟨⟨x, hx, h1, h2⟩, hb⟩
    obtain ⟨q, hq, h3⟩ := (mem_clip (s := b) (lo := x.1) (hi := x.2) (n := n)).2 ⟨hb, h1, h2⟩
    exact ⟨q, List.mem_flatMap.2 ⟨x, hx, hq⟩, h3⟩

theorem saneFrom_append : ∀ {s t : Runs} {a b : Int}, SaneFrom a s → SaneFrom b t → a ≤ b → (∀ q ∈ s, q.2 ≤ b) → SaneFrom a (s ++ t)
  | [], t, a, b, _, h, hab, _ => h.mono hab
  | x :: s, t, a, b, hs, h, hab, hq => ⟨hs.1, hs.2.1, hs.2.2.1, saneFrom_append hs.2.2.2 h (hq x (List.mem_cons_self ..)) fun q hqs => hq q (List.mem_cons_of_mem _ hqs)⟩

theorem clip_in {s : Runs} {lo hi : Int} : ∀ q ∈ clipF s lo hi, lo ≤ q.1 ∧ q.2 ≤ hi := by
  intro q hq
  obtain ⟨r, _, e⟩ := List.mem_filterMap.1 hq
  split at e
  · cases e; dsimp only; omega
  · cases e

theorem clip_from2 {s : Runs} {b a lo hi : Int} (h : SaneFrom b s) (hlo : a + 2 ≤ lo) : SaneFrom a (clipF s lo hi) := by
  rcases Int.lt_or_le b a with hba | hba
  · have h1 := clip_from (b := b) (lo := lo) (hi := hi) h (Int.le_refl _)
    have h2 := fun q (hq : q ∈ clipF s lo hi) => (clip_in q hq).1
    cases he : clipF s lo hi with
    | nil => trivial
    | cons x t =>
      rw [he] at h1 h2
      exact ⟨h1.1, by have := h2 x (List.mem_cons_self ..); omega, h1.2.2.1, h1.2.2.2⟩
  · exact clip_from h hba

theorem meet_from {b : Runs} (hb : Sane b) : ∀ {s : Runs} {a : Int}, SaneFrom a s → SaneFrom a (meetF s b)
  | [], _, _ => trivial
  | x :: s, a, h => by
    unfold meetF
    rw [List.flatMap_cons]
    refine saneFrom_append (clip_from2 hb h.2.1) (meet_from hb h.2.2.2) (by have := h.1; have := h.2.1; omega) fun q hq => (clip_in q hq).2

theorem meet_sane {a b : Runs} (ha : Sane a) (hb : Sane b) : Sane (meetF a b) := meet_from hb ha

theorem meet_of {a b out : Runs} (ha : Sane a) (hb : Sane b) (h : MeetR a b out) : out = meetF a b := sane_ext h.1 (meet_sane ha hb) fun n => by rw [h.2.2 n, mem_meet]

theorem ok_sets_MeetF {a b : Runs} (hla : a.length < 100000000000) (hlb : b.length < 100000000000) : FnE bs n_sets_Meet ((Shape.pair (.slice sRun) (.slice sRun)).compsE (a, b)) (.slice sRun) (fun r => r = meetF (makeF a) (makeF b) ∧ r.length ≤ a.length + b.length) :=
  (ok_sets_MeetA hla hlb).mono fun r hr => ⟨meet_of (make_sane _) (make_sane _) hr, by have := hr.2.1; have := make_length a; have := make_length b; omega⟩

/-- Within bounds is what it has in common with one run. -/
theorem meet_clip {s : Runs} {lo hi : Int} (hs : Sane s) : meetF s (makeF [(lo, hi)]) = clipF s lo hi := by
  refine sane_ext (meet_sane hs (make_sane _)) (sane_clip hs) fun n => ?_
  rw [mem_meet, mem_make, mem_clip]
  unfold memL
  rw [mem_cons]
  constructor
  · rintro ⟨h1, h2, h3, h4 | h4⟩
    · exact ⟨h1, h4⟩
    · exact (mem_nil h4).elim
  · rintro ⟨h1, h2⟩
    have := mem_lim hs h1
    exact ⟨h1, this.1, this.2, .inl h2⟩

theorem ok_sets_ClipA {s : Runs} {lo hi : Int} (hl : s.length < 100000000000) : FnE bs n_sets_Clip ((Shape.pair (.slice sRun) (.pair (.int .i64) (.int .i64))).compsE (s, lo, hi)) (.slice sRun) (· = clipF (makeF s) lo hi) := by
  refine ok_of (e_sets_Clip (s, lo, hi) _) rfl ?_
  unfold c_sets_Clip
  refine callP_of (ok_sets_MeetF (a := s) (b := [(lo, hi)]) hl (by simp)) fun r hr => ?_
  exact hr.1.trans (meet_clip (make_sane s))

theorem ok_ref05_Meet {a b : Runs} (hla : a.length ≤ 1000) (hlb : b.length ≤ 1000) : FnE bs n_lustrumref05_Meet ((Shape.pair (.slice sRun) (.slice sRun)).compsE (a, b)) (.slice sRun) (· = meetF (makeF a) (makeF b)) := by
  refine ok_of (e_lustrumref05_Meet (a, b) _) rfl ?_
  unfold c_lustrumref05_Meet
  have la := make_length a
  have lb := make_length b
  refine callP_eq (ok_ref04_As (by dsimp only; omega)) (callP_eq (ok_ref04_As (by dsimp only; omega)) ?_)
  generalize makeF a = p at la
  generalize makeF b = q at lb
  have hcl : ∀ lo hi, (clipF q lo hi).length ≤ 1000 := fun lo hi => Nat.le_trans (clip_length _ _ _) (by omega)
  have hml : ∀ k, (meetF (p.take k) q).length ≤ k * 1000 := by
    intro k
    induction k with
    | zero => simp [meetF]
    | succ k ih =>
      rcases Nat.lt_or_ge k p.length with e | e
      · rw [List.take_add_one, List.getElem?_eq_getElem e, Option.toList_some]
        unfold meetF at *
        rw [List.flatMap_append, List.length_append, List.flatMap_cons, List.flatMap_nil, List.append_nil]
        have := hcl p[k].1 p[k].2
        omega
      · rw [List.take_of_length_le (i := k + 1) (by omega)]
        rw [List.take_of_length_le (i := k) e] at ih
        exact Nat.le_trans ih (Nat.mul_le_mul_right _ (Nat.le_succ k))
  refine loopP_of (fun z : Unit × Int × Runs => ∃ k : Nat, z.2.1 = k ∧ k ≤ p.length ∧ z.2.2 = meetF (p.take k) q) (fun z => p.length - z.2.1.toNat) ?_ ⟨0, rfl, Nat.zero_le _, rfl⟩
  rintro ⟨u, _, _⟩ A ⟨k, e1, hk, e2⟩ back
  dsimp only at e1 e2 ⊢
  subst e1
  subst e2
  refine cond_dec (fun h1 => ?_) fun h1 => ?_
  · have h1 : (k : Int) < p.length := h1
    have hk' : k < p.length := by omega
    have hg := List.getElem?_eq_getElem hk'
    generalize p[k] = x at hg
    rw [toNat_ofNat, rd_of (s := sRun) hg, w_succ (by omega)]
    refine loopP_of (fun z : Unit × Int × Runs => ∃ j : Nat, z.2.1 = j ∧ j ≤ q.length ∧ z.2.2 = meetF (p.take k) q ++ clipF (q.take j) x.1 x.2) (fun z => q.length - z.2.1.toNat) ?_ ⟨0, rfl, Nat.zero_le _, by simp [clipF]⟩
    rintro ⟨u, _, _⟩ A2 ⟨j, e1, hj, e2⟩ back2
    dsimp only at e1 e2 ⊢
    subst e1
    subst e2
    refine cond_dec (fun h2 => ?_) fun h2 => ?_
    · have h2 : (j : Int) < q.length := h2
      have hj' : j < q.length := by omega
      have hg2 := List.getElem?_eq_getElem hj'
      generalize q[j] = y at hg2
      rw [toNat_ofNat, rd_of (s := sRun) hg2, w_succ (by omega), max_max, min_min]
      have step : ∀ t : Runs, t = clipF [y] x.1 x.2 → A2 ((), ((j + 1 : Nat) : Int), (meetF (p.take k) q ++ clipF (q.take j) x.1 x.2) ++ t) := fun t ht => by
        refine back2 ((), ((j + 1 : Nat) : Int), _) ⟨j + 1, rfl, hj', ?_⟩ (by dsimp only; omega)
        dsimp only
        rw [ht, List.append_assoc, List.take_add_one, hg2, Option.toList_some]
        unfold clipF
        rw [List.filterMap_append]
      have hs1 : (clipF (q.take j) x.1 x.2).length ≤ 1000 := Nat.le_trans (clip_length _ _ _) (by rw [List.length_take]; omega)
      have hs2 := hml k
      refine ⟨⟨by omega, h1⟩, ⟨by omega, h2⟩, ⟨by omega, h1⟩, ⟨by omega, h2⟩, cond_dec (fun h3 => ⟨⟨by omega, h1⟩, ⟨by omega, h2⟩, ⟨by omega, h1⟩, ⟨by omega, h2⟩, ?_, ?_⟩) fun h3 => ?_⟩
      · have : k * 1000 ≤ 1000 * 1000 := Nat.mul_le_mul_right _ (by omega)
        simp only [List.length_append, List.length_cons, List.length_nil]; omega
      · have h3 : max x.1 y.1 ≤ min x.2 y.2 := h3
        refine step _ ?_
        unfold clipF
        rw [List.filterMap_cons, if_pos (by omega), Int.max_comm y.1 x.1, Int.min_comm y.2 x.2]
        rfl
      · have h3 : ¬ max x.1 y.1 ≤ min x.2 y.2 := h3
        have := step [] (by unfold clipF; rw [List.filterMap_cons, if_neg (by omega)]; rfl)
        rwa [List.append_nil] at this
    · rw [List.take_of_length_le (l := q) (i := j) (by have h2 : ¬ (j : Int) < q.length := h2; omega)]
      refine back ((), ((k + 1 : Nat) : Int), _) ⟨k + 1, rfl, hk', ?_⟩ (by dsimp only; omega)
      dsimp only
      rw [List.take_add_one, hg, Option.toList_some]
      unfold meetF
      rw [List.flatMap_append, List.flatMap_cons, List.flatMap_nil, List.append_nil]
  · rw [List.take_of_length_le (by have h1 : ¬ (k : Int) < p.length := h1; omega)]

theorem ok_ref05_Clip {s : Runs} {lo hi : Int} (hl : s.length ≤ 1000) : FnE bs n_lustrumref05_Clip ((Shape.pair (.slice sRun) (.pair (.int .i64) (.int .i64))).compsE (s, lo, hi)) (.slice sRun) (· = clipF (makeF s) lo hi) := by
  refine ok_of (e_lustrumref05_Clip (s, lo, hi) _) rfl ?_
  unfold c_lustrumref05_Clip
  exact callP_eq (ok_ref05_Meet (a := s) (b := [(lo, hi)]) hl (by simp)) (meet_clip (make_sane s))
end Go.Proofs.YtdlgenbfnahmeaaGreatDoor.V


/- lustrumlaw14: the laws of leaves, as conditions on the program's functions alone. No condition of its own. -/
namespace Go.Proofs.YtdlgenbfnahmeaaGreatDoor.V
open Go
set_option linter.unusedVariables false
set_option linter.unusedSimpArgs false

theorem ok_lustrumref14_Few {f : Leaf} : FnE bs n_lustrumref14_Few (sApiLeaf.compsE f) .bool (· = decide (f.2.2.1.length ≤ 40 ∧ f.2.2.2.length ≤ 40)) := by
  obtain ⟨sp, u, a, b⟩ := f
  refine ok_of (e_lustrumref14_Few (sp, u, a, b) _) rfl ?_
  unfold c_lustrumref14_Few
  refine cond_dec (fun h => be (decide_eq_decide.2 ?_)) fun h => be (decide_eq_false ?_).symm <;> dsimp only [Shape.Val] at *
  · omega
  · omega

theorem uof_first {u i : Int} (h0 : 0 ≤ i) (h1 : i < VCal.ucount u) : VCal.uof u (VCal.ufirst u i) = some i := by
  have h := VCal.unit_in h0 h1
  exact VCal.uof_some.2 ⟨h0, h1, Int.le_refl _, h.2.1⟩

end Go.Proofs.YtdlgenbfnahmeaaGreatDoor.V


/- lustrumlaw14.LeafCovers, as a condition on the program's functions alone. No condition of its own. -/
namespace Go.Proofs.YtdlgenbfnahmeaaGreatDoor.V
open Go
set_option linter.unusedVariables false

/-- What a family's pair is. -/
theorem fam_pair {f : Leaf} {p : Int × Int} (h : p ∈ famPairs (ofF f)) : (0 ≤ p.1 ∧ p.1 ≤ p.2 ∧ p.2 ≤ 3652424) ∧ HasF f p ∧ ∀ d, p.1 ≤ d → d ≤ p.2 → CoversF f d := by
  unfold HasF CoversF
  rcases ho : ofF f with _ | ⟨u, s⟩ | ⟨a, b⟩
  · rw [ho] at h; cases h
  · rw [ho] at h
    obtain ⟨i, hi, rfl⟩ := List.mem_map.1 h
    have hm := mem_nums.1 hi
    obtain ⟨h1, h2, h3, h4, h5, h6, h7⟩ := of_units ho
    have hb := Within.bounds h6 hm
    have hu := VCal.unit_in (kind := u) (i := i) (by omega) (by omega)
    refine ⟨⟨hu.1, hu.2.1, hu.2.2⟩, ⟨i, uof_first (by omega) (by omega), hm, rfl⟩, fun d h1 h2 => ⟨i, VCal.uof_some.2 ⟨by omega, by omega, h1, h2⟩, hm⟩⟩
  · rw [ho] at h
    obtain ⟨s, hs, h⟩ := List.mem_flatMap.1 h
    obtain ⟨r, hr, h⟩ := List.mem_flatMap.1 h
    obtain ⟨t, ht, rfl⟩ := List.mem_map.1 h
    have ht := mem_upTo.1 ht
    have ms := mem_nums.1 hs
    have mt : mem b t := ⟨r, hr, by omega, by omega⟩
    obtain ⟨h1, h2, h3, h4, h5, h6, h7, e1, e2⟩ := of_span ho
    obtain ⟨sa, sb, na, nb, l1, l2⟩ := span_ends ho
    have := mem_between sa ms
    have := mem_between sb mt
    rw [e1, mem_clip] at ms
    have mt' := mt
    rw [e2, mem_clip] at mt'
    dsimp only
    refine ⟨⟨by omega, by omega, by omega⟩, ⟨by omega, ?_, mt⟩, fun d h1 h2 => ⟨by omega, by omega⟩⟩
    rw [e1, mem_clip]; exact ms

theorem fam_covers {f : Leaf} {d : Int} (h : CoversF f d) : ∃ p ∈ famPairs (ofF f), p.1 ≤ d ∧ d ≤ p.2 := by
  unfold CoversF at h
  rcases ho : ofF f with _ | ⟨u, s⟩ | ⟨a, b⟩
  · rw [ho] at h; exact h.elim
  · rw [ho] at h
    obtain ⟨i, hi, hm⟩ := h
    have hu := VCal.uof_some.1 hi
    exact ⟨_, List.mem_map.2 ⟨i, mem_nums.2 hm, rfl⟩, hu.2.2.1, hu.2.2.2⟩
  · rw [ho] at h
    obtain ⟨sa, sb, na, nb, l1, l2⟩ := span_ends ho
    obtain ⟨r, hr, e⟩ := hiF_get nb
    have hrm := List.mem_of_getElem? hr
    have hrb := (SaneFrom.lt sb r hrm).2.1
    refine ⟨(loF a, hiF b), List.mem_flatMap.2 ⟨loF a, mem_nums.2 (mem_lo sa na), List.mem_flatMap.2 ⟨r, hrm, List.mem_map.2 ⟨hiF b, mem_upTo.2 ⟨by omega, by omega⟩, rfl⟩⟩⟩, h.1, h.2⟩

end Go.Proofs.YtdlgenbfnahmeaaGreatDoor.V


/- lustrumlaw14.LeafPairs, as a condition on the program's functions alone. No condition of its own. -/
namespace Go.Proofs.YtdlgenbfnahmeaaGreatDoor.V
open Go
set_option linter.unusedVariables false
set_option linter.unusedSimpArgs false

end Go.Proofs.YtdlgenbfnahmeaaGreatDoor.V


/- lustrumlaw14.LeafTidy, as a condition on the program's functions alone. No condition of its own. -/
namespace Go.Proofs.YtdlgenbfnahmeaaGreatDoor.V
open Go
set_option linter.unusedVariables false
set_option linter.unusedSimpArgs false

theorem ok_lustrumref04_Same {a b : Runs} (hl : a.length ≤ 100000000000) (hlb : b.length ≤ 100000000000) : FnE bs n_lustrumref04_Same ((Shape.pair (.slice sRun) (.slice sRun)).compsE (a, b)) .bool (· = decide (a = b)) := by
  refine ok_of (e_lustrumref04_Same (a, b) _) rfl ?_
  unfold c_lustrumref04_Same
  refine cond_not (fun h => be (decide_eq_false fun e => ?_).symm) fun h => ?_
  · subst e; simp at h
  · have hab : a.length = b.length := by have h : (a.length : Int) = b.length := of_decide_eq_true h; omega
    refine loopP_of (fun z : Int => ∃ k : Nat, z = k ∧ k ≤ a.length ∧ a.take k = b.take k) (fun z => a.length - z.toNat) ?_ ⟨0, rfl, Nat.zero_le _, rfl⟩
    rintro _ A ⟨k, rfl, hk, ht⟩ back
    refine cond_dec (fun h1 => ?_) fun h1 => ?_
    · have h1 : (k : Int) < a.length := h1
      have hka : k < a.length := by omega
      have hkb : k < b.length := by omega
      have ga := List.getElem?_eq_getElem hka
      have gb := List.getElem?_eq_getElem hkb
      generalize a[k] = x at ga
      generalize b[k] = y at gb
      dsimp only
      rw [toNat_ofNat, rd_of (s := sRun) ga, rd_of (s := sRun) gb, w64_of (n := (k : Int) + 1) (by omega)]
      refine ⟨⟨by omega, h1⟩, ⟨by omega, by omega⟩, cond_not (fun h2 => be (decide_eq_false fun e => ?_).symm) fun h2 => ?_⟩
      · subst e
        rw [ga] at gb
        cases gb
        simp at h2
      · rw [Bool.and_eq_true, decide_eq_true_iff, decide_eq_true_iff] at h2
        have : x = y := Prod.ext h2.1 h2.2
        subst this
        refine back ((k : Int) + 1) ⟨k + 1, by simp, hka, ?_⟩ (by omega)
        rw [List.take_add_one, List.take_add_one, ht, ga, gb]
    · have h1 : ¬ (k : Int) < a.length := h1
      rw [List.take_of_length_le (by omega), List.take_of_length_le (by omega)] at ht
      exact be (decide_eq_true ht).symm

/-! ### Tidied -/

theorem clip_self {s : Runs} {lo hi : Int} (h : Sane s) (k : ∀ n, mem s n → lo ≤ n ∧ n ≤ hi) : clipF s lo hi = s :=
  sane_ext (sane_clip h) h fun n => by rw [mem_clip]; exact ⟨fun q => q.1, fun q => ⟨q, k n q⟩⟩

theorem within_clip {s : Runs} {lo hi m : Int} (h : Within s m) : Within (clipF s lo hi) m := by
  refine ⟨sane_clip h.1, ?_⟩
  by_cases e : clipF s lo hi = []
  · exact .inl e
  · have h1 := mem_clip.1 (mem_lo (sane_clip (lo := lo) (hi := hi) h.1) e)
    have h2 := mem_clip.1 (mem_hi (sane_clip (lo := lo) (hi := hi) h.1) e)
    have b1 := Within.bounds h h1.1
    have b2 := Within.bounds h h2.1
    exact .inr ⟨b1.1, b2.2⟩

/-- What is tidied may be, and is the same family. -/
theorem tidy_of (f : Leaf) : LeafSane (tidyF f) ∧ ofF (tidyF f) = ofF f := by
  rcases ho : ofF f with _ | ⟨u, s⟩ | ⟨a, b⟩
  · have e : tidyF f = (false, 0, [], []) := by unfold tidyF; rw [ho]
    rw [e]
    exact ⟨by decide, by decide⟩
  · obtain ⟨h1, h2, h3, h4, h5, h6, h7⟩ := of_units ho
    have e : tidyF f = (false, u, s, []) := by unfold tidyF; rw [ho]
    have hs : LeafSane (false, u, s, []) := by
      unfold LeafSane
      rw [if_neg (by simp)]
      exact ⟨h7, h6, rfl⟩
    rw [e]
    refine ⟨hs, ?_⟩
    unfold ofF
    rw [if_neg (by simp [hs, h5]), if_pos rfl]
  · obtain ⟨h1, h2, h3, h4, h5, h6, h7, e1, e2⟩ := of_span ho
    obtain ⟨sa, sb, na, nb, l1, l2⟩ := span_ends ho
    have e : tidyF f = (true, 0, a, b) := by unfold tidyF; rw [ho]
    have hs : LeafSane (true, 0, a, b) := by
      unfold LeafSane
      rw [if_pos rfl]
      refine ⟨rfl, ?_, ?_⟩
      · show Within a 3652424
        rw [e1]; exact within_clip h6
      · show Within b 3652424
        rw [e2]; exact within_clip h7
    rw [e]
    refine ⟨hs, ?_⟩
    unfold ofF
    rw [if_neg (by simp [hs, na]), if_neg (by simp), if_neg (by dsimp only; rw [l1, l2]; simp [nb]; omega)]
    have ha : clipF a 0 (hiF b) = a := clip_self sa fun n hn => by
      have h := hn
      rw [e1, mem_clip] at h
      rw [l2]
      exact h.2
    have hb : clipF b (loF a) 3652424 = b := clip_self sb fun n hn => by
      have h := hn
      rw [e2, mem_clip] at h
      rw [l1]
      exact h.2
    dsimp only
    rw [ha, hb]

theorem tidy_lens (f : Leaf) : (tidyF f).2.2.1.length ≤ f.2.2.1.length ∧ (tidyF f).2.2.2.length ≤ f.2.2.2.length := by
  rcases ho : ofF f with _ | ⟨u, s⟩ | ⟨a, b⟩
  · have e : tidyF f = (false, 0, [], []) := by unfold tidyF; rw [ho]
    rw [e]; simp
  · obtain ⟨h1, h2, h3, h4, h5, h6, h7⟩ := of_units ho
    have e : tidyF f = (false, u, s, []) := by unfold tidyF; rw [ho]
    rw [e]; simp [h4]
  · obtain ⟨h1, h2, h3, h4, h5, h6, h7, e1, e2⟩ := of_span ho
    have e : tidyF f = (true, 0, a, b) := by unfold tidyF; rw [ho]
    rw [e, e1, e2]
    exact ⟨clip_length _ _ _, clip_length _ _ _⟩

end Go.Proofs.YtdlgenbfnahmeaaGreatDoor.V


/- The least and greatest days of families: plain facts. No program in sight. -/
namespace Go.Proofs.YtdlgenbfnahmeaaGreatDoor.V
set_option linter.unusedVariables false
set_option linter.unusedSimpArgs false

/-- The least and the greatest start, the least and the greatest end. -/
abbrev Q4 := Int × Int × Int × Int

def extF (f : Leaf) : Option Q4 := match ofF f with
  | none => none
  | some (.inl (u, s)) => some (VCal.ufirst u (loF s), VCal.ufirst u (hiF s), VCal.ulast u (loF s), VCal.ulast u (hiF s))
  | some (.inr (a, b)) => some (loF a, hiF a, loF b, hiF b)

def comb : Option Q4 → Option Q4 → Option Q4
  | none, q => q
  | some p, none => some p
  | some p, some q => some (min p.1 q.1, max p.2.1 q.2.1, min p.2.2.1 q.2.2.1, max p.2.2.2 q.2.2.2)

def allF (l : List Leaf) : Option Q4 := l.foldl (fun x f => comb x (extF f)) none

theorem comb_none (p : Option Q4) : comb p none = p := by cases p <;> rfl

theorem comb_assoc (p q r : Option Q4) : comb (comb p q) r = comb p (comb q r) := by
  cases p with
  | none => rfl
  | some p =>
    cases q with
    | none => rfl
    | some q =>
      cases r with
      | none => rfl
      | some r =>
        simp only [comb, Option.some.injEq, Prod.mk.injEq]
        omega

theorem foldl_comb : ∀ (l : List Leaf) (x : Option Q4), l.foldl (fun x f => comb x (extF f)) x = comb x (allF l)
  | [], x => (comb_none x).symm
  | f :: l, x => by
    unfold allF
    rw [List.foldl_cons, List.foldl_cons, foldl_comb l (comb x (extF f)), foldl_comb l (comb none (extF f)), comb_assoc]
    rfl

theorem all_append (l m : List Leaf) : allF (l ++ m) = comb (allF l) (allF m) := by
  unfold allF
  rw [List.foldl_append, foldl_comb m]
  rfl

theorem all_cons (f : Leaf) (l : List Leaf) : allF (f :: l) = comb (extF f) (allF l) := by
  rw [show f :: l = [f] ++ l from rfl, all_append]
  rfl

/-- What a quadruple says of pairs: it bounds them, and each of its days is met. -/
def Bounds (q : Q4) (P : Int × Int → Prop) : Prop := (∀ p, P p → q.1 ≤ p.1 ∧ p.1 ≤ q.2.1 ∧ q.2.2.1 ≤ p.2 ∧ p.2 ≤ q.2.2.2 ∧ p.1 ≤ p.2) ∧ (∃ p, P p ∧ p.1 = q.1) ∧ (∃ p, P p ∧ p.1 = q.2.1) ∧ (∃ p, P p ∧ p.2 = q.2.2.1) ∧ ∃ p, P p ∧ p.2 = q.2.2.2

theorem ufirst_le {u i j : Int} (h0 : 0 ≤ i) (hij : i ≤ j) (hj : j < VCal.ucount u) : VCal.ufirst u i ≤ VCal.ufirst u j ∧ VCal.ulast u i ≤ VCal.ulast u j := by
  rcases Int.lt_or_eq_of_le hij with e | e
  · have h1 := ufirst_lt h0 e hj
    have h2 := VCal.unit_in (kind := u) (i := i) h0 (by omega)
    have h3 := VCal.unit_in (kind := u) (i := j) (by omega) hj
    omega
  · subst e; omega

theorem span_pair {a b : Runs} (sa : Sane a) (sb : Sane b) {s t : Int} (hs : mem a s) (ht : mem b t) (h : s ≤ t) : (s, t) ∈ spanPairs a b := by
  obtain ⟨r, hr, h1, h2⟩ := ht
  exact List.mem_flatMap.2 ⟨s, mem_nums.2 hs, List.mem_flatMap.2 ⟨r, hr, List.mem_map.2 ⟨t, mem_upTo.2 ⟨by omega, h2⟩, rfl⟩⟩⟩

theorem pair_span {a b : Runs} {p : Int × Int} (h : p ∈ spanPairs a b) : mem a p.1 ∧ mem b p.2 ∧ p.1 ≤ p.2 := by
  obtain ⟨s, hs, h⟩ := List.mem_flatMap.1 h
  obtain ⟨r, hr, h⟩ := List.mem_flatMap.1 h
  obtain ⟨t, ht, rfl⟩ := List.mem_map.1 h
  have ht := mem_upTo.1 ht
  exact ⟨mem_nums.1 hs, ⟨r, hr, by dsimp only; omega, by dsimp only; omega⟩, by dsimp only; omega⟩

theorem Bounds.comb {p q : Q4} {P R : Int × Int → Prop} (h : Bounds p P) (k : Bounds q R) : Bounds (min p.1 q.1, max p.2.1 q.2.1, min p.2.2.1 q.2.2.1, max p.2.2.2 q.2.2.2) fun x => P x ∨ R x := by
  obtain ⟨h0, ⟨a1, h1, h1'⟩, ⟨a2, h2, h2'⟩, ⟨a3, h3, h3'⟩, ⟨a4, h4, h4'⟩⟩ := h
  obtain ⟨k0, ⟨b1, k1, k1'⟩, ⟨b2, k2, k2'⟩, ⟨b3, k3, k3'⟩, ⟨b4, k4, k4'⟩⟩ := k
  refine ⟨fun x hx => ?_, ?_, ?_, ?_, ?_⟩
  · rcases hx with hx | hx
    · have := h0 x hx; dsimp only; omega
    · have := k0 x hx; dsimp only; omega
  · rcases Int.le_total p.1 q.1 with e | e
    · exact ⟨a1, .inl h1, by dsimp only; omega⟩
    · exact ⟨b1, .inr k1, by dsimp only; omega⟩
  · rcases Int.le_total p.2.1 q.2.1 with e | e
    · exact ⟨b2, .inr k2, by dsimp only; omega⟩
    · exact ⟨a2, .inl h2, by dsimp only; omega⟩
  · rcases Int.le_total p.2.2.1 q.2.2.1 with e | e
    · exact ⟨a3, .inl h3, by dsimp only; omega⟩
    · exact ⟨b3, .inr k3, by dsimp only; omega⟩
  · rcases Int.le_total p.2.2.2 q.2.2.2 with e | e
    · exact ⟨b4, .inr k4, by dsimp only; omega⟩
    · exact ⟨a4, .inl h4, by dsimp only; omega⟩

theorem Bounds.congr {q : Q4} {P R : Int × Int → Prop} (h : Bounds q P) (k : ∀ p, P p ↔ R p) : Bounds q R := by
  have : P = R := funext fun p => propext (k p)
  subst this
  exact h

/-- A pair of some family. -/
def anyP (l : List Leaf) (p : Int × Int) : Prop := ∃ f ∈ l, p ∈ famPairs (ofF f)

end Go.Proofs.YtdlgenbfnahmeaaGreatDoor.V


/- The document's answer for leaves and their least and greatest days, and the program's: what the functions answer. No condition of its own. -/
namespace Go.Proofs.YtdlgenbfnahmeaaGreatDoor.V
open Go
set_option linter.unusedVariables false
set_option linter.unusedSimpArgs false

theorem ok_ref14_within {s : Runs} {m : Int} (hl : s.length ≤ 100000000000) : FnE bs n_lustrumref14_within ((Shape.pair (.slice sRun) (.int .i64)).compsE (s, m)) .bool (· = decide (Within s m)) := by
  refine ok_of (e_lustrumref14_within (s, m) _) rfl ?_
  unfold c_lustrumref14_within Within
  refine callP_eq (ok_ref04_Sane hl) (cond_dec (fun h => cond_dec (fun h2 => ?_) fun h2 => ?_) fun h => ?_)
  · have h2 : s = [] := len_zero.1 h2
    have h : Sane s := h
    exact be (decide_eq_true ⟨h, .inl h2⟩).symm
  · have h2 : ¬ s = [] := fun e => h2 (len_zero.2 e)
    refine ⟨first_in h2, ?_⟩
    dsimp only
    rw [rd_lo h2, rd_hi h2 hl]
    refine cond_dec (fun h3 => ⟨last_in h2 hl, be ?_⟩) fun h3 => be ?_
    · have h3 : 0 ≤ loF s := h3
      simp [h, h2, h3]
    · have h3 : ¬ 0 ≤ loF s := h3
      simp [h2, h3]
  · exact be (by simp [h])

theorem ok_ref14_Sane {f : Leaf} (hla : f.2.2.1.length ≤ 100000000000) (hlb : f.2.2.2.length ≤ 100000000000) : FnE bs n_lustrumref14_Sane (sApiLeaf.compsE f) .bool (· = decide (LeafSane f)) := by
  obtain ⟨sp, u, a, b⟩ := f
  dsimp only at hla hlb
  refine ok_of (e_lustrumref14_Sane (sp, u, a, b) _) rfl ?_
  unfold c_lustrumref14_Sane LeafSane
  dsimp only
  cases sp
  · refine cond_no rfl (cond_dec (fun h1 => cond_dec (fun h2 => callP_eq ok_ref03_Count ?_) fun h2 => be ?_) fun h1 => be ?_)
    · have := VCal.ucount_pos u
      rw [w64_of (by omega)]
      refine callP_eq (ok_ref14_within hla) (cond_dec (fun h3 => be ?_) fun h3 => be ?_)
      · have h1 : 0 ≤ u := h1
        have h2 : u ≤ 5 := h2
        refine decide_eq_decide.2 ⟨fun q => ?_, fun q => ?_⟩
        · rw [if_neg (by decide)]; exact ⟨⟨h1, h2⟩, h3, len_zero.1 q⟩
        · rw [if_neg (by decide)] at q; exact len_zero.2 q.2.2
      · simp [h3]
    · have h2 : ¬ u ≤ 5 := h2
      simp [h2]
    · have h1 : ¬ 0 ≤ u := h1
      simp [h1]
  · refine cond_yes rfl (cond_dec (fun h1 => callP_eq (ok_ref14_within hla) (cond_dec (fun h2 => callP_eq (ok_ref14_within hlb) (be ?_)) fun h2 => be ?_)) fun h1 => be ?_)
    · have h1 : u = 0 := h1
      simp [h1, h2]
    · simp [h2]
    · have h1 : ¬ u = 0 := h1
      simp [h1]

def asL (f : Leaf) : Leaf := if LeafSane f then f else (false, 0, [], [])

theorem ok_ref14_As {f : Leaf} (hla : f.2.2.1.length ≤ 100000000000) (hlb : f.2.2.2.length ≤ 100000000000) : FnE bs n_lustrumref14_As (sApiLeaf.compsE f) sApiLeaf (· = asL f) := by
  obtain ⟨sp, u, a, b⟩ := f
  refine ok_of (e_lustrumref14_As (sp, u, a, b) _) rfl ?_
  unfold c_lustrumref14_As asL
  refine callP_eq (ok_ref14_Sane hla hlb) (cond_not (fun h => ?_) fun h => ?_)
  · rw [if_neg (by simpa using h)]
  · rw [if_pos (by simpa using h)]

theorem ok_ref14_Tidy {f : Leaf} (hla : f.2.2.1.length ≤ 1000) (hlb : f.2.2.2.length ≤ 1000) : FnE bs n_lustrumref14_Tidy (sApiLeaf.compsE f) sApiLeaf (· = tidyF f) := by
  obtain ⟨sp, u, a, b⟩ := f
  dsimp only at hla hlb
  refine ok_of (e_lustrumref14_Tidy (sp, u, a, b) _) rfl ?_
  unfold c_lustrumref14_Tidy
  refine callP_eq (ok_ref14_As (by dsimp only; omega) (by dsimp only; omega)) ?_
  unfold tidyF ofF asL
  dsimp only
  by_cases hs : LeafSane (sp, u, a, b)
  · rw [if_pos hs]
    dsimp only
    refine cond_dec (fun h => ?_) fun h => ?_
    · have h : a = [] := len_zero.1 h
      rw [if_pos (.inr h)]
    · have h : ¬ a = [] := fun e => h (len_zero.2 e)
      rw [if_neg (by simp [hs, h])]
      have hs' := hs
      unfold LeafSane at hs'
      dsimp only at hs'
      cases sp with
      | false =>
        rw [if_neg (by decide)] at hs'
        refine cond_no rfl (cond_yes rfl ?_)
        rw [if_pos rfl]
        show (false, u, a, b) = (false, u, a, [])
        rw [hs'.2.2]
      | true =>
        rw [if_pos rfl] at hs'
        refine cond_yes rfl (cond_dec (fun h2 => ?_) fun h2 => ⟨first_in h, ?_⟩)
        · rw [if_neg (by simp), if_pos (.inl (len_zero.1 h2))]
        · have h2 : ¬ b = [] := fun e => h2 (len_zero.2 e)
          refine ⟨last_in h2 (by omega), ?_⟩
          rw [rd_lo h, rd_hi h2 (by omega)]
          refine cond_dec (fun h3 => ?_) fun h3 => cond_no rfl ⟨last_in h2 (by omega), ?_⟩
          · have h3 : hiF b < loF a := h3
            rw [if_neg (by simp), if_pos (.inr h3)]
          · have h3 : ¬ hiF b < loF a := h3
            refine callP_eq (ok_ref05_Clip hla) ⟨first_in h, callP_eq (ok_ref05_Clip hlb) ?_⟩
            rw [if_neg (by simp), if_neg (by simp [h2, h3]), make_self hs'.2.1.1, make_self hs'.2.2.1]
  · rw [if_neg hs]
    dsimp only
    rw [if_pos (.inl hs)]
    exact cond_yes (by decide) rfl

/-! ### The least and greatest days -/

/-- A list of leaves of few runs. -/
def FewL (n : Nat) (l : List Leaf) : Prop := l.length ≤ 1000000 ∧ ∀ f ∈ l, f.2.2.1.length ≤ n ∧ f.2.2.2.length ≤ n

def Q4.out : Option Q4 → Q4 × Bool
  | none => ((0, 0, 0, 0), false)
  | some q => (q, true)

/-! ### The program's -/

theorem cl_First : CloSpec bs 84 [] [] (.pair (.int .i64) (.int .i64)) (.tup (.pair (.int .i64) .bool)) (fun x => some (firstS x.1 x.2)) := ⟨(ok_unit_First (kind := 0) (i := 0)).1, fun x r hx => by cases hx; exact ok_unit_First⟩
theorem cl_Last : CloSpec bs 42 [] [] (.pair (.int .i64) (.int .i64)) (.tup (.pair (.int .i64) .bool)) (fun x => some (lastS x.1 x.2)) := ⟨(ok_unit_Last (kind := 0) (i := 0)).1, fun x r hx => by cases hx; exact ok_unit_Last⟩
section
variable {l : List Leaf} (hl : FewL 1000 l)

theorem FewL.tidy {f : Leaf} (hl : FewL 1000 l) (hf : f ∈ l) : (tidyF f).2.2.1.length ≤ 100000000000 ∧ (tidyF f).2.2.2.length ≤ 100000000000 := by
  have := hl.2 f hf
  have := tidy_lens f
  omega

end
end Go.Proofs.YtdlgenbfnahmeaaGreatDoor.V


/- Places in order: plain facts. No program in sight. -/
namespace Go.Proofs.YtdlgenbfnahmeaaGreatDoor.V
set_option linter.unusedVariables false
set_option linter.unusedSimpArgs false

/-- A place, its key, and whether it is empty. -/
abbrev Pl := Int × (Int × Int) × Bool

/-- Is one taken ahead of another one, or alike? -/
def leP (a b : Pl) : Prop := (a.2.2 = false ∧ b.2.2 = true) ∨ (a.2.2 = b.2.2 ∧ (a.2.1.1 < b.2.1.1 ∨ (a.2.1.1 = b.2.1.1 ∧ (a.2.1.2 < b.2.1.2 ∨ (a.2.1.2 = b.2.1.2 ∧ a.1 ≤ b.1)))))
instance (a b : Pl) : Decidable (leP a b) := inferInstanceAs (Decidable (_ ∨ _))

/-- What was taken, and the heap that is left. -/
def Took (all taken heap : List Pl) : Prop := (taken ++ heap).Perm all ∧ taken.Pairwise leP ∧ ∀ a ∈ taken, ∀ b ∈ heap, leP a b

theorem Took.start (all heap : List Pl) (h : heap.Perm all) : Took all [] heap := ⟨h, List.Pairwise.nil, fun a ha => by cases ha⟩

theorem Took.step {all taken heap heap' : List Pl} {x : Pl} (h : Took all taken heap) (hp : heap.Perm (x :: heap')) (hx : ∀ b ∈ heap, leP x b) : Took all (taken ++ [x]) heap' := by
  obtain ⟨h1, h2, h3⟩ := h
  have hxm : x ∈ heap := hp.symm.subset (List.mem_cons_self ..)
  refine ⟨?_, ?_, ?_⟩
  · rw [List.append_assoc]
    exact (List.Perm.append_left taken hp.symm).trans h1
  · rw [List.pairwise_append]
    refine ⟨h2, List.pairwise_singleton _ _, fun a ha b hb => ?_⟩
    cases List.mem_singleton.1 hb
    exact h3 a ha x hxm
  · intro a ha b hb
    have hbm : b ∈ heap := hp.symm.subset (List.mem_cons_of_mem _ hb)
    rcases List.mem_append.1 ha with ha | ha
    · exact h3 a ha b hbm
    · cases List.mem_singleton.1 ha
      exact hx b hbm

theorem Took.done {all taken : List Pl} (h : Took all taken []) : taken.Perm all ∧ taken.Pairwise leP := ⟨by simpa using h.1, h.2.1⟩
end Go.Proofs.YtdlgenbfnahmeaaGreatDoor.V


/- What sets of units cover: plain facts. No program in sight. -/
namespace Go.Proofs.YtdlgenbfnahmeaaGreatDoor.V
set_option linter.unusedVariables false
set_option linter.unusedSimpArgs false

def unitsF (u : Int) (s : Runs) : Runs := clipF (makeF s) 0 (VCal.ucount u - 1)
theorem units_sane (u : Int) (s : Runs) : Sane (unitsF u s) := sane_clip (make_sane s)
theorem units_length (u : Int) (s : Runs) : (unitsF u s).length ≤ s.length := Nat.le_trans (clip_length _ _ _) (make_length s)
theorem mem_units {u : Int} {s : Runs} {n : Int} : mem (unitsF u s) n ↔ mem (makeF s) n ∧ 0 ≤ n ∧ n < VCal.ucount u := by
  unfold unitsF
  rw [mem_clip]
  constructor
  · rintro ⟨a, b, c⟩; exact ⟨a, b, by omega⟩
  · rintro ⟨a, b, c⟩; exact ⟨a, b, by omega⟩

theorem units_in {u : Int} {s : Runs} {r : Int × Int} (h : r ∈ unitsF u s) : 0 ≤ r.1 ∧ r.1 ≤ r.2 ∧ r.2 < VCal.ucount u := by
  have h1 := (Sane.bounds (units_sane u s) r h).2.1
  have a := (mem_units (u := u) (s := s) (n := r.1)).1 ⟨r, h, Int.le_refl _, h1⟩
  have b := (mem_units (u := u) (s := s) (n := r.2)).1 ⟨r, h, h1, Int.le_refl _⟩
  omega

/-- A set of units that are within is what it is. -/
theorem units_self {u : Int} {s : Runs} (h : Within s (VCal.ucount u - 1)) : unitsF u s = s := by
  refine sane_ext (units_sane u s) h.1 fun n => ?_
  rw [mem_units, make_self h.1]
  exact ⟨fun q => q.1, fun q => ⟨q, by have := Within.bounds h q; omega⟩⟩

def spanOf (u : Int) (r : Int × Int) : Int × Int := (VCal.ufirst u r.1, VCal.ulast u r.2)
def coverF (u : Int) (s : Runs) : Runs := makeF ((unitsF u s).map (spanOf u))

theorem cover_length (u : Int) (s : Runs) : (coverF u s).length ≤ s.length := by
  have := make_length ((unitsF u s).map (spanOf u))
  rw [List.length_map] at this
  exact Nat.le_trans this (units_length u s)

theorem unit_at {u : Int} : ∀ (n : Nat) (i j d : Int), j - i ≤ n → 0 ≤ i → j < VCal.ucount u → i ≤ j → VCal.ufirst u i ≤ d → d ≤ VCal.ulast u j → ∃ k, VCal.uof u d = some k ∧ i ≤ k ∧ k ≤ j
  | 0, i, j, d, hn, h0, hj, hij, h1, h2 => by
    obtain rfl : i = j := by omega
    exact ⟨i, VCal.uof_some.2 ⟨h0, hj, h1, h2⟩, by omega, by omega⟩
  | n + 1, i, j, d, hn, h0, hj, hij, h1, h2 => by
    by_cases e : d ≤ VCal.ulast u i
    · exact ⟨i, VCal.uof_some.2 ⟨h0, by omega, h1, e⟩, by omega, hij⟩
    · by_cases e2 : i = j
      · subst e2; omega
      · have := VCal.ulast_next (kind := u) (i := i) (by omega)
        obtain ⟨k, a, b, c⟩ := unit_at n (i + 1) j d (by omega) (by omega) hj (by omega) (by omega) h2
        exact ⟨k, a, by omega, c⟩

theorem mem_cover {u : Int} {s : Runs} {d : Int} : mem (coverF u s) d ↔ ∃ i, VCal.uof u d = some i ∧ mem (makeF s) i := by
  unfold coverF
  rw [mem_make]
  constructor
  · rintro ⟨_, _, q, hq, h1, h2⟩
    obtain ⟨r, hr, rfl⟩ := List.mem_map.1 hq
    have hi := units_in hr
    obtain ⟨k, a, b, c⟩ := unit_at (r.2 - r.1).toNat r.1 r.2 d (by omega) hi.1 hi.2.2 hi.2.1 h1 h2
    exact ⟨k, a, (mem_units.1 ⟨r, hr, b, c⟩).1⟩
  · rintro ⟨i, hi, hm⟩
    obtain ⟨a, b, c, d'⟩ := VCal.uof_some.1 hi
    have hd := VCal.unit_in a b
    obtain ⟨r, hr, h1, h2⟩ := (mem_units (u := u)).2 ⟨hm, a, b⟩
    have hr' := units_in hr
    have l1 := ufirst_le (u := u) (i := r.1) (j := i) hr'.1 h1 b
    have l2 := ufirst_le (u := u) (i := i) (j := r.2) a h2 hr'.2.2
    refine ⟨by unfold Lim; omega, by unfold Lim; omega, spanOf u r, List.mem_map.2 ⟨r, hr, rfl⟩, ?_, ?_⟩
    · show VCal.ufirst u r.1 ≤ d; omega
    · show d ≤ VCal.ulast u r.2; omega

/-- The days of a leaf. -/
def partF (f : Leaf) : Runs := match ofF f with
  | none => []
  | some (.inl (u, s)) => coverF u s
  | some (.inr (a, b)) => [(loF a, hiF b)]

theorem mem_part {f : Leaf} {d : Int} : memL (partF f) d ↔ CoversF f d := by
  unfold memL partF CoversF
  rcases ho : ofF f with _ | ⟨u, s⟩ | ⟨a, b⟩
  · exact ⟨fun h => mem_nil h.2.2, False.elim⟩
  · obtain ⟨h1, h2, h3, h4, h5, h6, h7⟩ := of_units ho
    dsimp only
    rw [mem_cover, make_self h6.1]
    constructor
    · exact fun h => h.2.2
    · rintro ⟨i, hi, hm⟩
      obtain ⟨q1, q2, q3, q4⟩ := VCal.uof_some.1 hi
      have := VCal.unit_in q1 q2
      exact ⟨by unfold Lim; omega, by unfold Lim; omega, i, hi, hm⟩
  · obtain ⟨h1, h2, h3, h4, h5, h6, h7, rfl, rfl⟩ := of_span ho
    obtain ⟨sa, sb, na, nb, l1, l2⟩ := span_ends ho
    have b1 := Within.bounds h6 (mem_lo h6.1 h3)
    have b2 := Within.bounds h7 (mem_hi h7.1 h4)
    dsimp only
    rw [mem_cons, l1, l2]
    constructor
    · rintro ⟨_, _, h | h⟩
      · exact h
      · exact (mem_nil h).elim
    · exact fun h => ⟨by unfold Lim; omega, by unfold Lim; omega, .inl h⟩

theorem part_length (f : Leaf) : (partF f).length ≤ f.2.2.1.length + 1 := by
  unfold partF
  rcases ho : ofF f with _ | ⟨u, s⟩ | ⟨a, b⟩
  · exact Nat.zero_le _
  · obtain ⟨h1, h2, rfl, rfl, h5, h6, h7⟩ := of_units ho
    exact Nat.le_trans (cover_length _ _) (Nat.le_succ _)
  · simp

theorem memL_append {a b : Runs} {n : Int} : memL (a ++ b) n ↔ memL a n ∨ memL b n := by
  unfold memL
  rw [mem_append]
  constructor
  · rintro ⟨a, b, h | h⟩
    · exact .inl ⟨a, b, h⟩
    · exact .inr ⟨a, b, h⟩
  · rintro (⟨a, b, h⟩ | ⟨a, b, h⟩)
    · exact ⟨a, b, .inl h⟩
    · exact ⟨a, b, .inr h⟩

def daysL (l : List Leaf) : Runs := l.flatMap partF
theorem days_length : ∀ (l : List Leaf) {n : Nat}, (∀ f ∈ l, f.2.2.1.length ≤ n) → (daysL l).length ≤ l.length * (n + 1)
  | [], _, _ => by simp [daysL]
  | f :: l, n, h => by
    have h1 := days_length l fun g hg => h g (List.mem_cons_of_mem _ hg)
    have h2 := part_length f
    have h3 := h f List.mem_cons_self
    unfold daysL at *
    rw [List.flatMap_cons, List.length_append, List.length_cons, Nat.add_mul]
    omega

theorem mem_days : ∀ {l : List Leaf} {d : Int}, memL (daysL l) d ↔ ∃ f ∈ l, CoversF f d
  | [], d => ⟨fun h => (mem_nil h.2.2).elim, fun ⟨f, hf, _⟩ => by cases hf⟩
  | f :: l, d => by
    unfold daysL
    rw [List.flatMap_cons, memL_append, mem_part]
    have := mem_days (l := l) (d := d)
    unfold daysL at this
    rw [this]
    simp

/-- All days that are possible. -/
def daysF (l : List Leaf) : Runs := makeF (daysL l)
theorem mem_daysF {l : List Leaf} {d : Int} : mem (daysF l) d ↔ ∃ f ∈ l, CoversF f d := mem_make.trans mem_days

theorem covers_iff {f : Leaf} {d : Int} : CoversF f d ↔ ∃ p ∈ famPairs (ofF f), p.1 ≤ d ∧ d ≤ p.2 :=
  ⟨fam_covers, fun ⟨p, hp, h1, h2⟩ => (fam_pair hp).2.2 d h1 h2⟩

theorem any_covers {l : List Leaf} {d : Int} : (∃ f ∈ l, CoversF f d) ↔ ∃ p, anyP l p ∧ p.1 ≤ d ∧ d ≤ p.2 := by
  constructor
  · rintro ⟨f, hf, h⟩
    obtain ⟨p, hp, h1, h2⟩ := covers_iff.1 h
    exact ⟨p, ⟨f, hf, hp⟩, h1, h2⟩
  · rintro ⟨p, ⟨f, hf, hp⟩, h1, h2⟩
    exact ⟨f, hf, covers_iff.2 ⟨p, hp, h1, h2⟩⟩

theorem any_in {l : List Leaf} {p : Int × Int} (h : anyP l p) : 0 ≤ p.1 ∧ p.1 ≤ p.2 ∧ p.2 ≤ 3652424 := by
  obtain ⟨f, hf, hp⟩ := h
  exact (fam_pair hp).1

end Go.Proofs.YtdlgenbfnahmeaaGreatDoor.V


/- The first and the last days of units, and units within days: plain facts. No program in sight. -/
namespace Go.Proofs.YtdlgenbfnahmeaaGreatDoor.V
set_option linter.unusedVariables false
set_option linter.unusedSimpArgs false

theorem upTo_length (lo hi : Int) : (upTo lo hi).length = (hi + 1 - lo).toNat := by unfold upTo; simp

def singles (l : List Int) : Runs := l.map fun n => (n, n)

theorem mem_singles {l : List Int} {n : Int} : mem (singles l) n ↔ n ∈ l := by
  unfold singles
  constructor
  · rintro ⟨r, hr, h1, h2⟩
    obtain ⟨k, hk, rfl⟩ := List.mem_map.1 hr
    have h1 : k ≤ n := h1
    have h2 : n ≤ k := h2
    obtain rfl : n = k := by omega
    exact hk
  · intro h
    exact ⟨(n, n), List.mem_map.2 ⟨n, h, rfl⟩, Int.le_refl _, Int.le_refl _⟩

/-- Days that lie apart are a set. -/
theorem singles_from : ∀ {l : List Int} {a : Int}, (∀ n ∈ l, a + 2 ≤ n ∧ n ≤ Lim) → l.Pairwise (fun m n => m + 2 ≤ n) → SaneFrom a (singles l)
  | [], _, _, _ => trivial
  | n :: l, a, h, k => by
    have h1 := h n List.mem_cons_self
    obtain ⟨k1, k2⟩ := List.pairwise_cons.1 k
    exact ⟨Int.le_refl _, h1.1, h1.2, singles_from (fun m hm => ⟨k1 m hm, (h m (List.mem_cons_of_mem _ hm)).2⟩) k2⟩

/-- Units of several days have at least twenty-eight. -/
theorem unit_long {u i : Int} (hu : u ≠ 0) (h0 : 0 ≤ i) (h1 : i < VCal.ucount u) : VCal.ufirst u i + 27 ≤ VCal.ulast u i := by
  have hc : VCal.ucount u = match VCal.tab u with | some (_, _, c) => c | none => 0 := by unfold VCal.ucount; rw [if_neg hu]; all_goals (cases VCal.tab u <;> rfl)
  have hf : ∀ k, VCal.ufirst u k = match VCal.tab u with | some (m, f, _) => VCal.mfirst (f + m * k) | none => 0 := fun k => by unfold VCal.ufirst; rw [if_neg hu]; all_goals (cases VCal.tab u <;> rfl)
  unfold VCal.ulast
  rw [hf i, hf (i + 1)]
  cases ht : VCal.tab u with
  | none => rw [ht] at hc; dsimp only at hc; omega
  | some q =>
    obtain ⟨m, f, cc⟩ := q
    rw [ht] at hc
    dsimp only at hc ⊢
    obtain ⟨t1, t2, t3, t4⟩ := VCal.tab_fit ht h0 (by omega)
    have hm : 1 ≤ m := by rcases VCal.tab_cases ht with h | h | h | h | h <;> omega
    split
    · have := VCal.mfirst_lt (a := f + m * i) (b := 120000) t1 t2
      rw [VCal.mfirst_120000] at this
      omega
    · have e : f + m * (i + 1) = f + m * i + m := by rw [Int.mul_add]; omega
      have := VCal.mfirst_lt (a := f + m * i) (b := f + m * (i + 1)) t1 (by omega)
      omega

theorem day_unit {i : Int} (h : 0 ≤ i ∧ i < VCal.ucount 0) : VCal.ufirst 0 i = i ∧ VCal.ulast 0 i = i := by
  have hf : ∀ k, VCal.ufirst 0 k = k := fun k => by unfold VCal.ufirst; rw [if_pos rfl]
  refine ⟨hf i, ?_⟩
  unfold VCal.ulast
  rw [VCal.ucount_0] at *
  split
  · omega
  · rw [hf]; omega

/-- The first or last days of units: told as a set, if they are not too many. -/
def marksF (g : Int → Int → Int) (u : Int) (s : Runs) : Runs × Bool :=
  if u = 0 then (if 400 < (unitsF u s).length then ([], false) else (unitsF u s, true))
  else if 400 < (nums (unitsF u s)).length then ([], false)
  else (makeF (singles ((nums (unitsF u s)).map (g u))), true)

/-- Days of units, one of each: within the unit. -/
structure DayIn (g : Int → Int → Int) : Prop where
  is : ∀ {u i : Int}, 0 ≤ i → i < VCal.ucount u → VCal.ufirst u i ≤ g u i ∧ g u i ≤ VCal.ulast u i
  apart : ∀ {u i j : Int}, u ≠ 0 → 0 ≤ i → i < j → j < VCal.ucount u → g u i + 2 ≤ g u j

theorem dayIn_first : DayIn VCal.ufirst := ⟨fun h0 h1 => ⟨Int.le_refl _, (VCal.unit_in h0 h1).2.1⟩, fun hu h0 hij hj => by
  have := ufirst_lt h0 hij hj
  have := unit_long hu h0 (by omega)
  omega⟩
theorem dayIn_last : DayIn VCal.ulast := ⟨fun h0 h1 => ⟨(VCal.unit_in h0 h1).2.1, Int.le_refl _⟩, fun {u i j} hu h0 hij hj => by
  have := ufirst_lt h0 hij hj
  have := unit_long hu (show 0 ≤ j by omega) hj
  omega⟩

theorem nums_units {u : Int} {s : Runs} {i : Int} (h : i ∈ nums (unitsF u s)) : 0 ≤ i ∧ i < VCal.ucount u := (mem_units.1 (mem_nums.1 h)).2

/-- Of units of several days these days are a set as they stand. -/
theorem marks_sane {g : Int → Int → Int} (hg : DayIn g) {u : Int} (hu : u ≠ 0) (s : Runs) : Sane (singles ((nums (unitsF u s)).map (g u))) := by
  refine singles_from (fun n hn => ?_) ?_
  · obtain ⟨i, hi, rfl⟩ := List.mem_map.1 hn
    have b := nums_units hi
    have := hg.is b.1 b.2
    have := VCal.unit_in b.1 b.2
    unfold Lim
    omega
  · rw [List.pairwise_map]
    refine List.Pairwise.imp_of_mem ?_ (nums_sorted (units_sane u s))
    intro i j hi hj hij
    exact hg.apart hu (nums_units hi).1 hij (nums_units hj).2

theorem marks_eq {g : Int → Int → Int} (hg : DayIn g) {u : Int} (hu : u ≠ 0) (s : Runs) : makeF (singles ((nums (unitsF u s)).map (g u))) = singles ((nums (unitsF u s)).map (g u)) := make_self (marks_sane hg hu s)

theorem mem_marks {g : Int → Int → Int} (hg : DayIn g) {u : Int} {s l : Runs} (h : marksF g u s = (l, true)) {d : Int} : mem l d ↔ ∃ i, mem (makeF s) i ∧ 0 ≤ i ∧ i < VCal.ucount u ∧ g u i = d := by
  unfold marksF at h
  split at h
  · rename_i e
    subst e
    split at h
    · cases h
    · cases h
      rw [mem_units]
      constructor
      · rintro ⟨h1, h2, h3⟩
        have := day_unit ⟨h2, h3⟩
        have := hg.is h2 h3
        exact ⟨d, h1, h2, h3, by omega⟩
      · rintro ⟨i, h1, h2, h3, h4⟩
        have := day_unit ⟨h2, h3⟩
        have := hg.is h2 h3
        obtain rfl : i = d := by omega
        exact ⟨h1, h2, h3⟩
  · rename_i e
    split at h
    · cases h
    · cases h
      rw [marks_eq hg e, mem_singles, List.mem_map]
      constructor
      · rintro ⟨i, hi, h⟩
        have := mem_units.1 (mem_nums.1 hi)
        exact ⟨i, this.1, this.2.1, this.2.2, h⟩
      · rintro ⟨i, h1, h2, h3, h4⟩
        exact ⟨i, mem_nums.2 (mem_units.2 ⟨h1, h2, h3⟩), h4⟩

theorem marks_is_sane {g : Int → Int → Int} {u : Int} {s l : Runs} {b : Bool} (h : marksF g u s = (l, b)) : Sane l := by
  unfold marksF at h
  split at h
  · split at h
    · cases h; trivial
    · cases h; exact units_sane _ _
  · split at h
    · cases h; trivial
    · cases h; exact make_sane _

theorem marks_len {g : Int → Int → Int} {u : Int} {s l : Runs} {b : Bool} (h : marksF g u s = (l, b)) : l.length ≤ 400 := by
  unfold marksF at h
  split at h
  · split at h
    · cases h; exact Nat.zero_le _
    · cases h; omega
  · split at h
    · cases h; exact Nat.zero_le _
    · cases h
      have := make_length (singles ((nums (unitsF u s)).map (g u)))
      unfold singles at *
      rw [List.length_map, List.length_map] at this
      omega

/-! ### Units within days -/

/-- A place from which on something holds. -/
def FromR (cnt : Int) (P : Int → Prop) (r : Int) : Prop := 0 ≤ r ∧ r ≤ cnt ∧ (∀ i, 0 ≤ i → i < r → ¬ P i) ∧ ∀ i, r ≤ i → i < cnt → P i

theorem FromR.eq {cnt r r' : Int} {P : Int → Prop} (h : FromR cnt P r) (k : FromR cnt P r') : r = r' := by
  obtain ⟨h0, h1, h2, h3⟩ := h
  obtain ⟨k0, k1, k2, k3⟩ := k
  rcases Int.lt_or_le r r' with e | e
  · exact absurd (h3 r (Int.le_refl _) (by omega)) (k2 r h0 e)
  · rcases Int.lt_or_le r' r with e2 | e2
    · exact absurd (k3 r' (Int.le_refl _) (by omega)) (h2 r' k0 e2)
    · omega

end Go.Proofs.YtdlgenbfnahmeaaGreatDoor.V


/- Relations of families: plain facts on views. No program in sight. -/
namespace Go.Proofs.YtdlgenbfnahmeaaGreatDoor.V
set_option linter.unusedVariables false
set_option linter.unusedSimpArgs false
set_option linter.unusedSectionVars false

abbrev Pr := Int × Int

/-- Days on which pairs start, and end; or days that are a pair each. -/
abbrev View := Bool × Runs × Runs
def PV (x : View) (p : Pr) : Prop := if x.1 = true then p.1 = p.2 ∧ mem x.2.1 p.1 else p.1 ≤ p.2 ∧ mem x.2.1 p.1 ∧ mem x.2.2 p.2

structure VOK (x : View) : Prop where
  wa : Within x.2.1 3652424
  wb : Within x.2.2 3652424
  na : x.2.1 ≠ []
  nb : x.2.2 ≠ []
  one : x.1 = true → x.2.2 = x.2.1
  lo : loF x.2.1 ≤ loF x.2.2
  hi : hiF x.2.1 ≤ hiF x.2.2
  la : x.2.1.length ≤ 1000
  lb : x.2.2.length ≤ 1000

theorem VOK.pv {x : View} (h : VOK x) {p : Pr} (k : PV x p) : p.1 ≤ p.2 ∧ mem x.2.1 p.1 ∧ mem x.2.2 p.2 := by
  unfold PV at k
  split at k
  · rename_i e
    rw [h.one e]
    exact ⟨by omega, k.2, k.1 ▸ k.2⟩
  · exact k

theorem VOK.bd {x : View} (h : VOK x) {p : Pr} (k : PV x p) : p.1 ≤ p.2 ∧ loF x.2.1 ≤ p.1 ∧ p.1 ≤ hiF x.2.1 ∧ loF x.2.2 ≤ p.2 ∧ p.2 ≤ hiF x.2.2 := by
  have h1 := h.pv k
  have h2 := mem_between h.wa.1 h1.2.1
  have h3 := mem_between h.wb.1 h1.2.2
  exact ⟨h1.1, h2.1, h2.2, h3.1, h3.2⟩

theorem PV.single {x : View} (e : x.1 = true) {p : Pr} : PV x p ↔ p.1 = p.2 ∧ mem x.2.1 p.1 := by unfold PV; rw [if_pos e]
theorem PV.span {x : View} (e : x.1 = false) {p : Pr} : PV x p ↔ p.1 ≤ p.2 ∧ mem x.2.1 p.1 ∧ mem x.2.2 p.2 := by unfold PV; rw [if_neg (by simp [e])]

/-- Each start starts a pair, each end ends one. -/
theorem VOK.start {x : View} (h : VOK x) {s : Int} (k : mem x.2.1 s) : PV x (s, if x.1 = true then s else hiF x.2.2) := by
  cases e : x.1
  · have := mem_between h.wa.1 k
    have := h.hi
    exact (PV.span e).2 ⟨by simp; omega, k, by simpa using mem_hi h.wb.1 h.nb⟩
  · exact (PV.single e).2 ⟨by simp, k⟩

theorem VOK.fin {x : View} (h : VOK x) {t : Int} (k : mem x.2.2 t) : PV x (if x.1 = true then t else loF x.2.1, t) := by
  cases e : x.1
  · have := mem_between h.wb.1 k
    have := h.lo
    exact (PV.span e).2 ⟨by simp; omega, by simpa using mem_lo h.wa.1 h.na, k⟩
  · rw [h.one e] at k
    exact (PV.single e).2 ⟨by simp, by simpa using k⟩

section
variable {x y : View} (hx : VOK x) (hy : VOK y)
include hx hy

end

/-- A number whose bits are those for which something holds. -/
def IsMask (n : Int) (P : Nat → Prop) : Prop := ∃ m : Nat, n = (m : Int) ∧ ∀ k, m.testBit k = true ↔ (k ≤ 12 ∧ P k)

theorem IsMask.lt {m : Nat} {P : Nat → Prop} (h : ∀ k, m.testBit k = true ↔ (k ≤ 12 ∧ P k)) : m < 8192 := by
  refine Nat.lt_pow_two_of_testBit (n := 13) m fun i hi => ?_
  cases e : m.testBit i
  · rfl
  · have := ((h i).1 e).1; omega

theorem IsMask.ext {a b : Int} {P Q : Nat → Prop} (ha : IsMask a P) (hb : IsMask b Q) (h : ∀ k, k ≤ 12 → (P k ↔ Q k)) : a = b := by
  obtain ⟨m, rfl, hm⟩ := ha
  obtain ⟨n, rfl, hn⟩ := hb
  have : m = n := Nat.eq_of_testBit_eq fun k => by
    rw [Bool.eq_iff_iff, hm k, hn k]
    exact ⟨fun ⟨h1, h2⟩ => ⟨h1, (h k h1).1 h2⟩, fun ⟨h1, h2⟩ => ⟨h1, (h k h1).2 h2⟩⟩
  rw [this]

theorem IsMask.bd {a : Int} {P : Nat → Prop} (ha : IsMask a P) : 0 ≤ a ∧ a ≤ 8191 := by
  obtain ⟨m, rfl, hm⟩ := ha
  have := IsMask.lt hm
  omega

theorem IsMask.zero : IsMask 0 fun _ => False := ⟨0, rfl, fun k => by simp⟩

theorem ofInt_nat (m : Nat) : BitVec.ofInt 64 (m : Int) = BitVec.ofNat 64 m := by
  apply BitVec.eq_of_toInt_eq
  simp

theorem IsMask.or {a b : Int} {P Q : Nat → Prop} (ha : IsMask a P) (hb : IsMask b Q) : IsMask (w64 ((BitVec.ofInt 64 a ||| BitVec.ofInt 64 b).toNat : Int)) fun k => P k ∨ Q k := by
  obtain ⟨m, rfl, hm⟩ := ha
  obtain ⟨n, rfl, hn⟩ := hb
  have h1 := IsMask.lt hm
  have h2 := IsMask.lt hn
  have h3 : m ||| n < 2 ^ 13 := Nat.or_lt_two_pow h1 h2
  refine ⟨m ||| n, ?_, fun k => ?_⟩
  · rw [ofInt_nat, ofInt_nat, BitVec.toNat_or, BitVec.toNat_ofNat, BitVec.toNat_ofNat, Nat.mod_eq_of_lt (by omega), Nat.mod_eq_of_lt (by omega), w64_of (by omega)]
  · rw [Nat.testBit_or, Bool.or_eq_true, hm k, hn k]
    constructor
    · rintro (⟨h, k⟩ | ⟨h, k⟩)
      · exact ⟨h, .inl k⟩
      · exact ⟨h, .inr k⟩
    · rintro ⟨h, k | k⟩
      · exact .inl ⟨h, k⟩
      · exact .inr ⟨h, k⟩

theorem IsMask.one {k : Nat} (hk : k ≤ 12) : IsMask (w64 (1 * 2 ^ k)) fun j => j = k := by
  have h : (2 : Nat) ^ k ≤ 2 ^ 12 := Nat.pow_le_pow_right (by decide) hk
  refine ⟨2 ^ k, ?_, fun j => ?_⟩
  · have e : (1 : Int) * 2 ^ k = ((2 ^ k : Nat) : Int) := by simp
    have key : ∀ z : Nat, z ≤ 4096 → w64 (z : Int) = (z : Int) := fun z hz => w64_of (by omega)
    rw [e]
    exact key _ h
  · rw [Nat.testBit_two_pow, decide_eq_true_iff]
    constructor
    · rintro rfl; exact ⟨hk, rfl⟩
    · rintro ⟨_, rfl⟩; rfl

theorem IsMask.bit {a : Int} {P : Nat → Prop} (ha : IsMask a P) {k : Nat} (hk : k ≤ 12) : w64 ((BitVec.ofInt 64 (Int.fdiv a (2 ^ k)) &&& BitVec.ofInt 64 1).toNat : Int) = 1 ↔ P k := by
  obtain ⟨m, rfl, hm⟩ := ha
  have h1 := IsMask.lt hm
  have e : Int.fdiv (m : Int) (2 ^ k) = ((m / 2 ^ k : Nat) : Int) := by
    rw [Int.fdiv_eq_ediv_of_nonneg _ (Int.le_of_lt (Int.pow_pos (by decide)))]
    simp
  have hle : m / 2 ^ k ≤ m := Nat.div_le_self _ _
  have e2 : (BitVec.ofNat 64 (m / 2 ^ k) &&& BitVec.ofInt 64 1).toNat = m / 2 ^ k % 2 := by
    rw [show (BitVec.ofInt 64 1) = BitVec.ofNat 64 1 from rfl, BitVec.toNat_and, BitVec.toNat_ofNat, BitVec.toNat_ofNat, Nat.mod_eq_of_lt (by omega)]
    exact Nat.and_one_is_mod _
  rw [e, ofInt_nat, e2, w64_of (by omega)]
  have h3 := hm k
  rw [Nat.testBit_eq_decide_div_mod_eq, decide_eq_true_iff] at h3
  constructor
  · intro q
    exact (h3.1 (by omega)).2
  · intro q
    have := h3.2 ⟨hk, q⟩
    omega

end Go.Proofs.YtdlgenbfnahmeaaGreatDoor.V


/- image.units, image.Cover, cover: their contracts. No condition of its own. -/
namespace Go.Proofs.YtdlgenbfnahmeaaGreatDoor.V
open Go
set_option linter.unusedVariables false
set_option linter.unusedSimpArgs false

theorem ok_image_units {u : Int} {s : Runs} (hl : s.length < 100000000000) : FnE bs n_image_units ((Shape.pair (.int .i64) (.slice sRun)).compsE (u, s)) (.slice sRun) (· = unitsF u s) := by
  refine ok_of (e_image_units (u, s) _) rfl ?_
  unfold c_image_units
  have hc := VCal.ucount_pos u
  refine callP_eq ok_unit_Count ?_
  rw [w64_of (n := VCal.ucount u - 1) (by omega)]
  exact callP_eq (ok_sets_ClipA hl) rfl

/-! ### Possible -/

noncomputable def covG (d : Int) (f : Leaf) : Option Bool := if f.2.2.1.length ≤ 100000000000 ∧ f.2.2.2.length ≤ 100000000000 then some (@decide (CoversF f d) (Classical.propDecidable _)) else none

theorem ok_cover_Possible_1 {d : Int} {f : Leaf} (hla : f.2.2.1.length ≤ 100000000000) (hlb : f.2.2.2.length ≤ 100000000000) : FnE bs n_cover_Possible_1 ([] ++ Shape.compsE sApiLeaf f ++ [(.ip [(.p (.int .i64) d)] 0)]) .bool (· = @decide (CoversF f d) (Classical.propDecidable _)) := by
  refine ok_of (e_cover_Possible_1 d f _) rfl ?_
  unfold c_cover_Possible_1
  exact callP_of (ok_leaf_Covers hla hlb) fun r hr => by rw [hr]

theorem cl_Possible {d : Int} : CloSpec bs 54 [] [(.ip [(.p (.int .i64) d)] 0)] sApiLeaf .bool (covG d) := ⟨(ok_cover_Possible_1 (d := 0) (f := (false, 0, [], [])) (by decide) (by decide)).1, fun x r hx => by
  unfold covG at hx
  split at hx
  · rename_i h
    cases hx
    exact ok_cover_Possible_1 h.1 h.2
  · cases hx⟩

open Classical in
theorem ok_slices_IndexFunc {l : List Leaf} {d : Int} (hl : FewL 1000 l) : FnE bs n_slices_IndexFunc ((Shape.pair (.slice sApiLeaf) (.func sApiLeaf .bool)).compsE (l, covG d)) (.int .i64) (fun r => 0 ≤ r ↔ ∃ f ∈ l, CoversF f d) := by
  refine ok_of (e_slices_IndexFunc (l, covG d) _) rfl ?_
  unfold c_slices_IndexFunc
  have hll := hl.1
  refine loopP_of (fun z : Int => ∃ k : Nat, z = k ∧ k ≤ l.length ∧ ∀ (i : Nat) f, i < k → l[i]? = some f → ¬ CoversF f d) (fun z => l.length - z.toNat) ?_ ⟨0, rfl, Nat.zero_le _, fun i f h => by omega⟩
  rintro _ A ⟨k, rfl, hk, hi⟩ back
  refine cond_dec (fun h1 => ⟨⟨by omega, h1⟩, ?_⟩) fun h1 => ?_
  · have h1 : (k : Int) < l.length := h1
    have hk' : k < l.length := by omega
    have hg := List.getElem?_eq_getElem hk'
    generalize l[k] = f at hg
    have hfm := List.mem_of_getElem? hg
    have hf := hl.2 f hfm
    dsimp only
    rw [toNat_ofNat, rd_of (s := sApiLeaf) hg, w_succ (by omega)]
    refine gcall_eq (show covG d f = _ from if_pos (by omega)) (cond_dec (fun h => ?_) fun h => ?_)
    · exact ⟨fun _ => ⟨f, hfm, h⟩, fun _ => Int.natCast_nonneg k⟩
    · refine back _ ⟨k + 1, rfl, hk', fun i g hik hg2 => ?_⟩ (by omega)
      by_cases e : i = k
      · subst e; rw [hg] at hg2; cases hg2; exact h
      · exact hi i g (by omega) hg2
  · refine ⟨fun h => absurd h (by decide), ?_⟩
    rintro ⟨f, hf, hh⟩
    obtain ⟨i, hi2⟩ := List.getElem?_of_mem hf
    have := (List.getElem?_eq_some_iff.1 hi2).1
    exact absurd hh (hi i f (by have h1 : ¬ (k : Int) < l.length := h1; omega) hi2)

open Classical in
theorem ok_slices_ContainsFunc {l : List Leaf} {d : Int} (hl : FewL 1000 l) : FnE bs n_slices_ContainsFunc ((Shape.pair (.slice sApiLeaf) (.func sApiLeaf .bool)).compsE (l, covG d)) .bool (· = decide (∃ f ∈ l, CoversF f d)) := by
  refine ok_of (e_slices_ContainsFunc (l, covG d) _) rfl ?_
  unfold c_slices_ContainsFunc
  exact callP_of (ok_slices_IndexFunc hl) fun r hr => be (decide_eq_decide.2 hr)

open Classical in
theorem ok_cover_Possible {l : List Leaf} {d : Int} (hl : FewL 1000 l) : FnE bs n_cover_Possible ((Shape.pair (.slice sApiLeaf) (.int .i64)).compsE (l, d)) .bool (· = decide (∃ f ∈ l, CoversF f d)) := by
  refine ok_of (e_cover_Possible (l, d) _) rfl ?_
  unfold c_cover_Possible
  exact ⟨_, cl_Possible, callP_eq (ok_slices_ContainsFunc hl) rfl⟩

/-! ### Days, Sure, Certain -/

end Go.Proofs.YtdlgenbfnahmeaaGreatDoor.V


/- image.each's closure: what it hands on. No condition of its own. -/
namespace Go.Proofs.YtdlgenbfnahmeaaGreatDoor.V
open Go Go.RowKit Go.Shelf
attribute [local go_sem] Oper.semAt_some
set_option linter.unusedVariables false
set_option linter.unusedSimpArgs false

/-- What is handed on, one by one. -/
def handL (P : Program) (m : Mem) (xs : List Int) : List (Handed P m (.int .i64) xs) := xs.attach.map fun x => ⟨(x.1, .int .i64 x.1), by show Value.int .i64 x.1 = Value.int .i64 x.1; rfl, x.2⟩

theorem hand_map (P : Program) (m : Mem) (xs : List Int) : (handL P m xs).map (·.1.1) = xs := by
  unfold handL
  rw [List.map_map]
  exact List.attach_map_subtype_val xs

theorem hand_length (P : Program) (m : Mem) (xs : List Int) : (handL P m xs).length = xs.length := by unfold handL; simp

theorem hand_get (P : Program) (m : Mem) (xs : List Int) {j : Nat} {x : Int} (h : xs[j]? = some x) : ∃ e : Handed P m (.int .i64) xs, (handL P m xs)[j]? = some e ∧ e.1.2 = .int .i64 x := by
  unfold handL
  have hl := (List.getElem?_eq_some_iff.1 h)
  refine ⟨⟨(x, .int .i64 x), (by show Value.int .i64 x = Value.int .i64 x; rfl), List.mem_of_getElem? h⟩, ?_, rfl⟩
  rw [List.getElem?_map]
  obtain ⟨h1, h2⟩ := hl
  rw [List.getElem?_eq_getElem (by simpa using h1)]
  simp [h2]

theorem drop_cons' {α : Type} {s : List α} {k : Nat} {r : α} (h : s[k]? = some r) : s.drop k = r :: s.drop (k + 1) := by
  obtain ⟨h1, h2⟩ := List.getElem?_eq_some_iff.1 h
  rw [List.drop_eq_getElem_cons h1, h2]

theorem it_wrap {k a : Nat} (h : k + 1 ≤ a) (hl : a ≤ 100000000000) : wrap64 ((k : Int) + 1) = ((k + 1 : Nat) : Int) := by unfold wrap64; omega
theorem it_measure {k a : Nat} (h : k + 1 ≤ a) (hl : a ≤ 100000000000) : a - (intOf (.int .i64 (wrap64 ((k : Int) + 1)))).toNat < a - (intOf (.int .i64 (k : Int))).toNat := by
  rw [it_wrap h hl]
  simp only [intOf, Int.toNat_natCast]
  omega

set_option maxRecDepth 100000 in
set_option maxHeartbeats 2000000 in
theorem iter_each {z : List (Int × Int)} (hz : ∀ r ∈ z, -1152921504606846976 ≤ r.1 ∧ r.2 ≤ 1152921504606846976) (hl : z.length ≤ 100000000000) (T : TypeId → Bool) (hT : T 43 = false) : IterE bs 137 [.ip [.p (.slice sRun) z] 0] (.int .i64) T (nums z) := by
  refine ⟨⟨_, _, Tryz.func137, rfl, by decide⟩, ?_⟩
  intro m w us ht hh hu l J Jx W hW hJ hJx hY h0
  obtain ⟨u, us', e1, ⟨b, o, cs, e2, e3, e4⟩, e5⟩ := RepL_cons.1 hu
  rw [RepL_nil.1 e5] at e1
  subst e1 e2
  obtain ⟨sv, cs', e6, ⟨base, cap, e7, ecap, e8⟩, e9⟩ := RepL_cons.1 e3
  rw [RepL_nil.1 e9] at e6
  subst e6 e7
  have hs : m b o = some (.slice base z.length cap) := e4 0 _ rfl
  have hHW : Holds W m := fun bb oo v hv => by
    have h1 := hh bb oo v hv
    obtain ⟨ob, h2, _⟩ := cell_obj h1
    exact (World.cell?_of_block (a := ⟨bb, oo, none⟩) (hW.block bb (Array.getElem?_eq_some_iff.1 h2).1)).trans h1
  have c1 : W.cell? ⟨b, o, none⟩ = some (.slice base z.length cap) := hHW _ _ _ hs
  show CallsIn Fence.wide 3 Tryz.prog 137 #[.func (.yield l) #[] #[], .pointer (some ⟨b, o, none⟩)] W _
  refine callsIn_of_wp Tryz.func137 rfl trivial ?_ rfl
  simp only [Tryz.ntmps137, List.size_toArray, List.length_cons, List.length_nil, Nat.reduceAdd, Nat.reduceSub, Array.replicate_succ, Array.replicate_zero, List.push_toArray, List.append_toArray, List.nil_append, List.cons_append]
  have hz0 : J ((handL bs.P m (nums z)).take (nums (z.take 0)).length) W := h0
  clear e4 e9 e5 hu e3 h0
  gi_wp2
  gi_loopw [8] (fun i wr => ∃ k : Nat, k ≤ z.length ∧ i = .int .i64 k ∧ J ((handL bs.P m (nums z)).take (nums (z.take k)).length) wr ∧ Holds wr m ∧ W.heap.size ≤ wr.heap.size)
    (fun i _ => z.length - (intOf i).toNat)
  case atStart => exact ⟨0, Nat.zero_le _, rfl, hz0, hHW, Nat.le_refl _⟩
  case round =>
    rename World => wo
    obtain ⟨k, hk, rfl, hJs, hH, hsz⟩ := hrel
    by_cases hlt : k < z.length
    · have hg := List.getElem?_eq_getElem hlt
      generalize z[k] = r at hg
      have hr := hz r (List.mem_of_getElem? hg)
      rcases e8 with e | ⟨b2, o2, e, e8⟩
      · rw [e] at hlt; cases hlt
      · subst e
        obtain ⟨us, q1, q2⟩ := e8 k r hg
        obtain ⟨_, _, rfl, ⟨_, rfl, q3⟩, ⟨_, rfl, q4⟩⟩ := q1
        have q3 : _ = Value.int .i64 r.1 := q3
        have q4 : _ = Value.int .i64 r.2 := q4
        subst q3 q4
        have c2 : wo.cell? ⟨b2, o2 + k * 2, none⟩ = some (.int .i64 r.1) := hH _ _ _ (q2 0 _ rfl)
        have c3 : wo.cell? ⟨b2, o2 + k * 2 + 1, none⟩ = some (.int .i64 r.2) := hH _ _ _ (q2 1 _ rfl)
        gi_wp2
        have hparts : z = z.take k ++ r :: z.drop (k + 1) := by rw [← drop_cons' hg, List.take_append_drop]
        have hnum : nums z = nums (z.take k) ++ (upTo r.1 r.2 ++ nums (z.drop (k + 1))) := by
          conv => lhs; rw [hparts]
          unfold nums
          rw [List.flatMap_append, List.flatMap_cons]
        have hnxt : (nums (z.take (k + 1))).length = (nums (z.take k)).length + (r.2 + 1 - r.1).toNat := by
          unfold nums
          rw [List.take_add_one, hg, List.flatMap_append, List.length_append]
          simp [upTo]
        obtain ⟨q0, hq0⟩ : ∃ q0, (nums (z.take k)).length = q0 := ⟨_, rfl⟩
        have hnth : ∀ i : Nat, (i : Int) ≤ r.2 - r.1 → (nums z)[q0 + i]? = some (r.1 + i) := fun i hi => by
          rw [hnum, ← hq0, List.getElem?_append_right (by omega), Nat.add_sub_cancel_left, List.getElem?_append_left (by simp [upTo]; omega)]
          unfold upTo
          rw [List.getElem?_map, List.getElem?_range (by omega)]
          rfl
        rw [hq0] at hJs hnxt
        have hB0 : w.heap.size ≤ wo.heap.size := Nat.le_trans hW.size hsz
        have hJ1 := hJ _ _ _ none hJs (World.grownBy_alloc wo (.cells #[.int .i64 r.1, .int .i64 r.2] 43) none) (fun _ e => by cases e)
        have hH1 : Holds (wo.alloc (.cells #[.int .i64 r.1, .int .i64 r.2] 43)) m := fun bb oo v hv => by
          have h1 := hH bb oo v hv
          obtain ⟨ob, h2, _⟩ := cell_obj h1
          exact (World.cell?_of_block (a := ⟨bb, oo, none⟩) (Below.heap_alloc wo _ bb (Array.getElem?_eq_some_iff.1 h2).1)).trans h1
        have hB1 := World.alloc_heap_new wo (.cells #[.int .i64 r.1, .int .i64 r.2] 43)
        clear hJs hH c2 c3 q2 e8 c1 hparts hnum
        gi_loopw [5] (fun v w2 => ∃ n : Int, v = .int .i64 n ∧ r.1 ≤ n ∧ (n = r.1 ∨ n ≤ r.2 + 1) ∧ J ((handL bs.P m (nums z)).take (q0 + (n - r.1).toNat)) w2 ∧ Holds w2 m ∧ wo.heap.size < w2.heap.size ∧ w2.heap[wo.heap.size]? = some (.cells #[.int .i64 r.1, .int .i64 r.2] 43 (0, 0)))
          (fun v _ => (r.2 + 1 - intOf v).toNat)
        case atStart =>
          refine ⟨r.1, rfl, Int.le_refl _, .inl rfl, ?_, hH1, by simp, hB1⟩
          rw [Int.sub_self]
          exact hJ1
        case round =>
          rename World => w2
          obtain ⟨n, rfl, n1, n2, hJ2, hH2, hs2, hb2⟩ := hrel
          have c4 : w2.cell? ⟨wo.heap.size, 1, none⟩ = some (.int .i64 r.2) := by unfold World.cell?; rw [hb2]; rfl
          by_cases hn : n ≤ r.2
          · obtain ⟨e, he1, he2⟩ := hand_get bs.P m (nums z) (hnth (n - r.1).toNat (by omega))
            rw [show r.1 + ((n - r.1).toNat : Int) = n by omega] at he2
            have hl2 : q0 + (n - r.1).toNat < (handL bs.P m (nums z)).length := (List.getElem?_eq_some_iff.1 he1).1
            obtain ⟨fn, tmps, assign, body, hy, hR⟩ := hY _ e w2 hJ2 (by rw [List.length_take]; rw [hand_length] at hl2 ⊢; omega)
            rw [he2] at hy
            have hy : (Instr.yield l #[.int .i64 n]).run Tryz.prog w2 = .ok (.round l fn tmps assign body) w2 := hy
            have hR : RoundIn Fence.wide 2 Tryz.prog l fn tmps assign body w2 _ := hR
            have hw1 : wrap64 (n + 1) = n + 1 := by unfold wrap64; omega
            have htk : (handL bs.P m (nums z)).take (q0 + (n + 1 - r.1).toNat) = (handL bs.P m (nums z)).take (q0 + (n - r.1).toNat) ++ [e] := by
              rw [show q0 + (n + 1 - r.1).toNat = q0 + (n - r.1).toNat + 1 by omega, List.take_add_one, he1]
              rfl
            gi_wp2
            refine hR.mono ?_
            rintro e4 W3 (⟨rfl, hJ3, hk3⟩ | ⟨rfl, hJx3⟩)
            · have hb3 := hk3.2.2 _ _ _ _ hB0 hT hb2
              have hs3 := Nat.lt_of_lt_of_le hs2 hk3.2.1
              have hH3 := hk3.1 hH2
              rw [← htk] at hJ3
              clear htk hy hk3 hR he1 he2
              gi_wp2
              go_roundw
              case rel => exact ⟨n + 1, rfl, by omega, .inr (by omega), hJ3, hH3, hs3, hb3⟩
              case measure => simp [intOf]; omega
            · clear htk hy hR he1 he2
              gi_wp2
              refine bodyPost_ret (results_none rfl _ _ _) rfl ?_
              exact ⟨⟨_, rfl⟩, .inr ⟨_, trivial, hJx3⟩⟩
          · have hq1 : q0 + (n - r.1).toNat = q0 + (r.2 + 1 - r.1).toNat := by omega
            rw [hq1, ← hnxt] at hJ2
            have hs4 : W.heap.size ≤ w2.heap.size := Nat.le_trans hsz (Nat.le_of_lt hs2)
            have hk1 : k + 1 ≤ z.length := hlt
            have hw2 := it_wrap hk1 hl
            have hme := it_measure hk1 hl
            clear hq1 hnxt hz hr hnth n1 n2 hJ1 hH1 hB1 hB0 hz0 hHW hl hs2 hsz hlt
            gi_wp2
            go_roundw
            case rel => exact ⟨k + 1, hk1, congrArg _ hw2, hJ2, hH2, hs4⟩
            case measure => exact hme
    · obtain rfl : k = z.length := by omega
      gi_wp2
      go_end0
      exact ⟨⟨_, rfl⟩, .inl ⟨_, (by
        rw [List.take_length]
        rw [List.take_of_length_le (by rw [hand_length]; exact Nat.le_refl _)]
        exact hand_map _ _ _), hJs⟩⟩
end Go.Proofs.YtdlgenbfnahmeaaGreatDoor.V


/- image.marks: its condition, tied to the function's own code by the kernel. No condition of its own. -/
namespace Go.Proofs.YtdlgenbfnahmeaaGreatDoor.V
open Go
set_option linter.unusedVariables false
abbrev n_image_marks : Nat := 83
noncomputable def g_image_each_in : Cfg := { toBase := bs, lv := fun _ => ([], [], []), rows := [] }
noncomputable def g_image_marks : Cfg := { toBase := bs, lv := fun | 2009 => ([9], [2, 3], [4]) | _ => ([], [], []), rows := [9], rs := .int .i64, han := hanL bs [(118, .inl g_image_each_in)] }
def c_image_marks (a : Int × List (Int × Int) × (Int × Int → Option (Int × Bool))) (R : List (Int × Int) × Bool → Prop) : Prop :=
  callP bs 116 (.pair (.int .i64) (.slice sRun)) (.slice sRun) (a.1, a.2.1) (fun r1 => cond (decide (a.1 = (0 : Int)))
    (callP bs 65 (.slice sRun) .bool r1 (fun r2 => R (r1, !r2)))
    (callP bs 117 (.slice sRun) (.int .i64) r1 (fun r3 => cond (decide ((400 : Int) < r3)) (R ([], false))
      (itP bs 137 [.ip [.p (.slice sRun) r1] 0] (.int .i64) (fun t => (Nat.beq 3 t || (false || false))) (fun xs => rangeP (S := List Int × Unit) (fun x y back => gcall a.2.2 (a.1, x) (fun r4 => chk ((y.1.length + [r4.1].length) * 8 ≤ 140737488355328) (back (y.1 ++ [r4.1], ()))))
        (fun y => callP bs 91 (.slice (.int .i64)) (.slice sRun) y.1 (fun r5 => R (r5, true))) xs ([], ()))))))
theorem e_image_marks (a : Int × List (Int × Int) × (Int × Int → Option (Int × Bool))) (R : List (Int × Int) × Bool → Prop) : g_image_marks.fnRK 83 (Shape.compsE (.pair (.int .i64) (.pair (.slice sRun) (.func (.pair (.int .i64) (.int .i64)) (.tup (.pair (.int .i64) .bool))))) a) (.tup (.pair (.slice sRun) .bool)) R = c_image_marks a R := by kernel_rfl
end Go.Proofs.YtdlgenbfnahmeaaGreatDoor.V


/- image: marks, Starts, Ends, search, Inside, Touch: their contracts. No condition of its own. -/
namespace Go.Proofs.YtdlgenbfnahmeaaGreatDoor.V
open Go
set_option linter.unusedVariables false
set_option linter.unusedSimpArgs false

theorem ok_rf {B : Base} {g : Cfg} {f : FuncId} {args : List EV} {out : Shape} {R : out.Val → Prop} {C : Prop} (e : g.fnRK f args out R = C) (hb : g.toBase = B) (H : HanOK g) (h : C) : FnE B f args out R := by rw [← hb]; exact fnR_sound H (e.mpr h)

theorem nums_count : ∀ {s : Runs} {a : Int}, SaneFrom a s → ((nums s).length : Int) = countF s
  | [], _, _ => rfl
  | r :: s, a, h => by
    have h1 := nums_count h.2.2.2
    have h2 := h.1
    unfold nums at *
    rw [List.flatMap_cons, List.length_append, upTo_length]
    unfold countF
    omega

theorem ok_image_marks {u : Int} {s : Runs} {g : Int → Int → Int} {f : Int × Int → Int × Bool} (hl : s.length < 100000000000) (hf : ∀ i, 0 ≤ i → i < VCal.ucount u → (f (u, i)).1 = g u i) :
    FnE bs n_image_marks ((Shape.pair (.int .i64) (.pair (.slice sRun) (.func (.pair (.int .i64) (.int .i64)) (.tup (.pair (.int .i64) .bool))))).compsE (u, s, fun x => some (f x))) (.tup (.pair (.slice sRun) .bool)) (fun r => r.2 = (marksF g u s).2 ∧ (r.2 = true → r.1 = (marksF g u s).1)) := by
  refine ok_rf (e_image_marks (u, s, fun x => some (f x)) _) rfl (HanOK.ofList [(118, .inl g_image_each_in)] rfl rfl ⟨rfl, HanOK.none rfl rfl, trivial⟩) ?_
  unfold c_image_marks
  refine callP_eq (ok_image_units hl) ?_
  have hs := units_sane u s
  have hlen := units_length u s
  have hc := VCal.ucount_pos u
  have hus := make_self hs
  refine cond_dec (fun e => ?_) fun e => ?_
  · have e : u = 0 := e
    refine callP_eq (ok_sets_WideA (s := unitsF u s) (by omega)) ?_
    rw [hus]
    unfold marksF
    rw [if_pos e]
    by_cases hw : 400 < (unitsF u s).length
    · rw [if_pos hw, decide_eq_true hw]
      exact ⟨rfl, fun h => by cases h⟩
    · rw [if_neg hw, decide_eq_false hw]
      exact ⟨rfl, fun _ => rfl⟩
  · have e : ¬ u = 0 := e
    refine callP_eq (ok_runs_CountA (s := unitsF u s) (by omega)) ?_
    rw [hus, ← nums_count hs]
    unfold marksF
    rw [if_neg e]
    refine cond_dec (fun hw => ?_) fun hw => ?_
    · have hw : (400 : Int) < ((nums (unitsF u s)).length : Int) := hw
      rw [if_pos (by omega)]
      exact ⟨rfl, fun h => by cases h⟩
    · have hw : ¬ (400 : Int) < ((nums (unitsF u s)).length : Int) := hw
      rw [if_neg (by omega)]
      refine ⟨nums (unitsF u s), iter_each (z := unitsF u s) (fun r hr => by have := units_in hr; omega) (by omega) _ rfl, ?_⟩
      refine ⟨fun pre y => y.1 = pre.map (g u), rfl, fun pre x y hx hpl hy => ?_, fun y hy => ?_⟩
      · refine gcall_eq rfl ⟨?_, ?_⟩
        · have : y.1.length = pre.length := by rw [hy, List.length_map]
          show (y.1.length + 1) * 8 ≤ _
          omega
        · show y.1 ++ [(f (u, x)).1] = (pre ++ [x]).map (g u)
          have b := nums_units hx
          rw [hy, List.map_append, hf x b.1 b.2]
          rfl
      · have hyl : y.1.length ≤ 400 := by rw [hy, List.length_map]; omega
        refine callP_eq (ok_runs_Of (l := y.1) (by omega)) ⟨rfl, fun _ => ?_⟩
        show makeF (y.1.map fun n => (n, n)) = _
        rw [hy]
        rfl

theorem ok_image_Starts {u : Int} {s : Runs} (hl : s.length < 100000000000) : FnE bs n_image_Starts ((Shape.pair (.int .i64) (.slice sRun)).compsE (u, s)) (.tup (.pair (.slice sRun) .bool)) (· = marksF VCal.ufirst u s) := by
  refine ok_of (e_image_Starts (u, s) _) rfl ?_
  unfold c_image_Starts
  refine ⟨_, cl_First, callP_of (ok_image_marks (g := VCal.ufirst) hl fun i h0 h1 => by show (firstS u i).1 = _; unfold firstS; rw [if_pos ⟨h0, h1⟩]) fun r hr => ?_⟩
  obtain ⟨h1, h2⟩ := hr
  refine cond_not (fun h => ?_) fun h => ?_
  · rw [h] at h1
    generalize hm : marksF VCal.ufirst u s = q at h1
    obtain ⟨l, b⟩ := q
    have h1 : false = b := h1
    subst h1
    have : l = [] := by
      unfold marksF at hm
      split at hm <;> split at hm <;> first | (cases hm; rfl) | cases hm
    rw [this]
  · rw [h2 h]
    rw [h] at h1
    exact Prod.ext rfl h1

theorem ok_image_Ends {u : Int} {s : Runs} (hl : s.length < 100000000000) : FnE bs n_image_Ends ((Shape.pair (.int .i64) (.slice sRun)).compsE (u, s)) (.tup (.pair (.slice sRun) .bool)) (· = marksF VCal.ulast u s) := by
  refine ok_of (e_image_Ends (u, s) _) rfl ?_
  unfold c_image_Ends
  refine ⟨_, cl_Last, callP_of (ok_image_marks (g := VCal.ulast) hl fun i h0 h1 => by show (lastS u i).1 = _; unfold lastS; rw [if_pos ⟨h0, h1⟩]) fun r hr => ?_⟩
  obtain ⟨h1, h2⟩ := hr
  refine cond_not (fun h => ?_) fun h => ?_
  · rw [h] at h1
    generalize hm : marksF VCal.ulast u s = q at h1
    obtain ⟨l, b⟩ := q
    have h1 : false = b := h1
    subst h1
    have : l = [] := by
      unfold marksF at hm
      split at hm <;> split at hm <;> first | (cases hm; rfl) | cases hm
    rw [this]
  · rw [h2 h]
    rw [h] at h1
    exact Prod.ext rfl h1

/-! ### Units within days -/

end Go.Proofs.YtdlgenbfnahmeaaGreatDoor.V


/- lustrumlaw16: the laws of the least and greatest days, as conditions on the program's functions alone. No condition of its own. -/
namespace Go.Proofs.YtdlgenbfnahmeaaGreatDoor.V
open Go
set_option linter.unusedVariables false
set_option linter.unusedSimpArgs false

theorem w_succ63 {a : Nat} (h : a < 9223372036854775807) : w64 ((a : Int) + 1) = ((a + 1 : Nat) : Int) := by rw [w64_of (by omega)]; omega
theorem ok_lustrumref15_Few {l : List Leaf} (hl : l.length ≤ 9223372036854775807) : FnE bs n_lustrumref15_Few ((Shape.slice sApiLeaf).compsE l) .bool (fun r => r = true → l.length ≤ 12 ∧ FewL 40 l) := by
  refine ok_of (e_lustrumref15_Few l _) rfl ?_
  unfold c_lustrumref15_Few
  refine loopP_of (fun z : Int => ∃ k : Nat, z = k ∧ k ≤ l.length ∧ ∀ (i : Nat) f, i < k → l[i]? = some f → f.2.2.1.length ≤ 40 ∧ f.2.2.2.length ≤ 40) (fun z => l.length - z.toNat) ?_ ⟨0, rfl, Nat.zero_le _, fun i f h => by omega⟩
  rintro _ A ⟨k, rfl, hk, hi⟩ back
  refine cond_dec (fun h1 => ⟨⟨by omega, h1⟩, ?_⟩) fun h1 => ?_
  · have h1 : (k : Int) < l.length := h1
    have hk' : k < l.length := by omega
    have hg := List.getElem?_eq_getElem hk'
    generalize l[k] = f at hg
    rw [toNat_ofNat, rd_of (s := sApiLeaf) hg, w_succ63 (by omega)]
    refine callP_eq (ok_lustrumref14_Few (f := f)) (cond_not (fun h => fun q => by cases q) fun h => ?_)
    have hf : f.2.2.1.length ≤ 40 ∧ f.2.2.2.length ≤ 40 := by simpa using h
    refine back _ ⟨k + 1, rfl, hk', fun i g hik hg2 => ?_⟩ (by omega)
    by_cases e : i = k
    · subst e; rw [hg] at hg2; cases hg2; exact hf
    · exact hi i g (by omega) hg2
  · intro h
    have h : (l.length : Int) ≤ 12 := of_decide_eq_true h
    refine ⟨by omega, by omega, fun f hf => ?_⟩
    obtain ⟨i, hi2⟩ := List.getElem?_of_mem hf
    have := (List.getElem?_eq_some_iff.1 hi2).1
    exact hi i f (by have h1 : ¬ (k : Int) < l.length := h1; omega) hi2

theorem FewL.mono {n m : Nat} {l : List Leaf} (h : FewL n l) (hnm : n ≤ m) : FewL m l := ⟨h.1, fun f hf => by have := h.2 f hf; omega⟩

theorem few1000 {l : List Leaf} (h : FewL 40 l) : FewL 1000 l := h.mono (by decide)

open Classical in
theorem ok_denote_Has {l : List Leaf} {p : Int × Int} (hl : FewL 1000 l) : FnE bs n_denote_Has ((Shape.pair (.slice sApiLeaf) sRun).compsE (l, p)) .bool (· = decide (∃ f ∈ l, HasF f p)) := by
  refine ok_of (e_denote_Has (l, p) _) rfl ?_
  unfold c_denote_Has
  have hll := hl.1
  refine loopP_of (fun z : Int => ∃ k : Nat, z = k ∧ k ≤ l.length ∧ ∀ (i : Nat) f, i < k → l[i]? = some f → ¬ HasF f p) (fun z => l.length - z.toNat) ?_ ⟨0, rfl, Nat.zero_le _, fun i f h => by omega⟩
  rintro _ A ⟨k, rfl, hk, hi⟩ back
  refine cond_dec (fun h1 => ⟨⟨by omega, h1⟩, ?_⟩) fun h1 => ?_
  · have h1 : (k : Int) < l.length := h1
    have hk' : k < l.length := by omega
    have hg := List.getElem?_eq_getElem hk'
    generalize l[k] = f at hg
    have hfm := List.mem_of_getElem? hg
    have hf := hl.2 f hfm
    dsimp only
    rw [toNat_ofNat, rd_of (s := sApiLeaf) hg, w_succ (by omega)]
    refine callP_eq (ok_leaf_Has (f := f) (by omega) (by omega)) (cond_dec (fun h => ?_) fun h => ?_)
    · exact be (decide_eq_true ⟨f, hfm, h⟩).symm
    · refine back _ ⟨k + 1, rfl, hk', fun i g hik hg2 => ?_⟩ (by omega)
      by_cases e : i = k
      · subst e; rw [hg] at hg2; cases hg2; exact h
      · exact hi i g (by omega) hg2
  · refine be (decide_eq_false ?_).symm
    rintro ⟨f, hf, hh⟩
    obtain ⟨i, hi2⟩ := List.getElem?_of_mem hf
    have := (List.getElem?_eq_some_iff.1 hi2).1
    exact hi i f (by have h1 : ¬ (k : Int) < l.length := h1; omega) hi2 hh

end Go.Proofs.YtdlgenbfnahmeaaGreatDoor.V


/- lustrumlaw17: the laws of the days that are possible, and certain, as conditions on the program's functions alone. No condition of its own. -/
namespace Go.Proofs.YtdlgenbfnahmeaaGreatDoor.V
open Go
set_option linter.unusedVariables false
set_option linter.unusedSimpArgs false

theorem days_sane (l : List Leaf) : Sane (daysF l) := make_sane _

theorem any_append {l m : List Leaf} {p : Int × Int} : anyP (l ++ m) p ↔ anyP l p ∨ anyP m p := by
  unfold anyP
  constructor
  · rintro ⟨f, hf, h⟩
    rcases List.mem_append.1 hf with e | e
    · exact .inl ⟨f, e, h⟩
    · exact .inr ⟨f, e, h⟩
  · rintro (⟨f, hf, h⟩ | ⟨f, hf, h⟩)
    · exact ⟨f, List.mem_append_left _ hf, h⟩
    · exact ⟨f, List.mem_append_right _ hf, h⟩

end Go.Proofs.YtdlgenbfnahmeaaGreatDoor.V


/- slices.Grow, slices.Concat, sets.Union: their contracts. No condition of its own. -/
namespace Go.Proofs.YtdlgenbfnahmeaaGreatDoor.V
open Go Go.RowKit Go.Shelf Go.Proofs
set_option linter.unusedVariables false
set_option linter.unusedSimpArgs false

def growRen : Go.Shelf.Ren := ⟨fun _ => 104, fun t => if Nat.beq t 25 then 43 else if Nat.beq t 22 then 30 else if Nat.beq t 20 then 20 else if Nat.beq t 9 then 9 else if Nat.beq t 4 then 4 else if Nat.beq t 3 then 3 else 0, fun x => x⟩

theorem growBears : Bears Tryz.prog (growRen.f 4) (Body8.n4 growRen) := ⟨ "slices.Grow[[]lustrum/api.Run,lustrum/api.Run]", by decide, by kernel_rfl⟩
theorem growMixed : Tryz.prog.follows .mixedOrders = true := by kernel_rfl
theorem growLays : Lays8.n4 Tryz.prog growRen where
  mixed := growMixed
  f4 := growBears
  t0 := Tryz.underlying0
  a0 := Tryz.isAgg0
  z0 := Tryz.sizeOf0
  v0 := Tryz.zeroValue0
  t3 := Tryz.underlying3
  a3 := Tryz.isAgg3
  z3 := Tryz.sizeOf3
  v3 := Tryz.zeroValue3
  t4 := Tryz.underlying4
  a4 := Tryz.isAgg4
  z4 := Tryz.sizeOf4
  v4 := Tryz.zeroValue4
  t9 := Tryz.underlying9
  a9 := Tryz.isAgg9
  z9 := Tryz.sizeOf9
  v9 := Tryz.zeroValue9
  t20 := Tryz.underlying20
  a20 := Tryz.isAgg20
  z20 := Tryz.sizeOf20
  v20 := Tryz.zeroValue20
  t22 := Tryz.underlying30
  a22 := Tryz.isAgg30
  z22 := Tryz.sizeOf30
  v22 := Tryz.zeroValue30

theorem growInfoB : (match Tryz.prog.info? 43 with | some i => Nat.beq i.size 2 && Nat.beq i.bytes 16 && (match i.zero with | some z => Nat.beq z.cells.size 2 | none => false) | none => false) = true := by kernel_rfl
theorem growInfo : ∃ i z, Tryz.prog.info? 43 = some i ∧ i.zero = some z ∧ i.size = 2 ∧ i.bytes = 16 ∧ z.cells.size = 2 := by
  have h := growInfoB
  split at h
  · rename_i i hi
    split at h
    · rename_i z hz
      simp only [Bool.and_eq_true] at h
      exact ⟨i, z, hi, hz, beq_eq h.1.1, beq_eq h.1.2, beq_eq h.2⟩
    · simp at h
  · cases h

theorem growBytes : bs.P.bytesOf 43 = 16 := by kernel_rfl
theorem growBody : ∃ c, (Body8.n4 growRen).body = some c := ⟨_, rfl⟩

theorem fnGrow : FnGrow bs 104 43 sRun := by
  obtain ⟨i, z, hi, hz, h1, h2, h3⟩ := growInfo
  refine ⟨?_, fun n w h0 hb => ?_⟩
  · obtain ⟨nm, g1, g2⟩ := growBears
    obtain ⟨c, hc⟩ := growBody
    exact ⟨_, c, g2, hc, g1⟩
  · rw [growBytes] at hb
    obtain ⟨m, rfl⟩ : ∃ m : Nat, n = m := ⟨n.toNat, by omega⟩
    have hb : m * 16 ≤ 140737488355328 := hb
    rcases Nat.eq_zero_or_pos m with e | e
    · subst e
      refine (Any8.slices_Grow_room growLays none 0 0 0 w (by omega) (by omega) (by omega) (by omega)).mono fun x w' ⟨q1, q2⟩ => ?_
      subst q2
      exact ⟨_, q1, ⟨rfl, .inl ⟨rfl, rfl⟩⟩, Below.refl _ _, fun b hb => by cases hb⟩
    · refine (Any8.slices_Grow_grow growLays i z hi hz (by omega) none 0 0 m [] w (by omega) (by omega) (by rw [h2]; omega) (by omega) (by simp) (fun _ => rfl) (fun a ha => by cases ha)).mono fun x w' ⟨q1, q2⟩ => ?_
      subst q2
      refine ⟨_, q1, ⟨rfl, .inr ⟨_, _, _, rfl, Nat.le_refl _, Array.getElem?_push_size, Nat.zero_le _, ?_, ?_, rfl⟩⟩, ((Below.refl _ _).drew).alloc (Nat.le_refl _) _, fun b hb => ?_⟩
      · exact grownCap_le_maxLen w _ _ _ (by unfold maxLen; omega)
      · have hg := grownCap_ge w (0 + m) 0 (growRen.t 25)
        show (_ : Nat) = _ * 2
        simp only [Array.size_append, size_zeroCells, h3]
        simp only [List.size_toArray, List.length_nil]
        omega
      · cases hb; exact Nat.le_refl _

theorem cat1 : 2 - (w64 ((0 : Int) + 1)).toNat < 2 - (0 : Int).toNat := by decide
theorem cat2 : 2 - (w64 ((1 : Int) + 1)).toNat < 2 - (1 : Int).toNat := by decide
theorem ok_slices_Concat {x y : Runs} (h : x.length + y.length < 100000000000) : FnE bs n_slices_Concat ((Shape.slice (.slice sRun)).compsE [x, y]) (.slice sRun) (· = x ++ y) := by
  refine ok_han (e_slices_Concat [x, y] _) rfl (HanOK.ofList [(104, .grow 43 sRun)] rfl rfl ⟨fnGrow, trivial⟩) ?_
  unfold c_slices_Concat
  refine loopP_of (fun z : Int × Int => z = (0, 0) ∨ z = ((x.length : Int), 1) ∨ z = (((x.length + y.length : Nat) : Int), 2)) (fun z => 2 - z.2.toNat) ?_ (.inl rfl)
  rintro _ A hz back
  have w1 : ∀ n : Nat, n < 4611686018427387904 → w64 (n : Int) = n := fun n h => w64_of (by omega)
  rcases hz with rfl | rfl | rfl
  · refine cond_yes rfl ⟨⟨by dsimp only; omega, by dsimp only [List.length_cons, List.length_nil]; omega⟩, ?_⟩
    have e : w64 ((0 : Int) + ((rd (.slice sRun) [x, y] (0 : Int).toNat).length : Int)) = x.length := by rw [Int.zero_add]; exact w1 _ (by show x.length < _; omega)
    refine cond_no (decide_eq_false ?_) ?_
    · rw [e]; omega
    · rw [e]; exact back _ (.inr (.inl rfl)) cat1
  · refine cond_yes rfl ⟨⟨by dsimp only; omega, by dsimp only [List.length_cons, List.length_nil]; omega⟩, ?_⟩
    have e : w64 ((x.length : Int) + ((rd (.slice sRun) [x, y] (1 : Int).toNat).length : Int)) = ((x.length + y.length : Nat) : Int) := by
      show w64 ((x.length : Int) + (y.length : Int)) = _
      rw [← Int.natCast_add]; exact w1 _ (by omega)
    refine cond_no (decide_eq_false ?_) ?_
    · rw [e]; omega
    · rw [e]; exact back _ (.inr (.inr rfl)) cat2
  · refine cond_no rfl ⟨⟨by dsimp only; omega, by dsimp only; rw [toNat_ofNat]; omega⟩, ?_⟩
    refine loopP_of (fun z : Unit × Int × Runs => z = ((), 0, []) ∨ z = ((), 1, x) ∨ z = ((), 2, x ++ y)) (fun z => 2 - z.2.1.toNat) ?_ (.inl rfl)
    rintro _ A hz back
    rcases hz with rfl | rfl | rfl
    · exact cond_yes rfl ⟨⟨by dsimp only; omega, by dsimp only [List.length_cons, List.length_nil]; omega⟩, by show (0 + x.length) * 16 ≤ _; omega, back _ (.inr (.inl rfl)) cat1⟩
    · exact cond_yes rfl ⟨⟨by dsimp only; omega, by dsimp only [List.length_cons, List.length_nil]; omega⟩, by show (x.length + y.length) * 16 ≤ _; omega, back _ (.inr (.inr rfl)) cat2⟩
    · exact cond_no rfl rfl

theorem ok_sets_Union {x y : Runs} (h : x.length + y.length < 100000000000) : FnE bs n_sets_Union ((Shape.pair (.slice sRun) (.slice sRun)).compsE (x, y)) (.slice sRun) (· = makeF (x ++ y)) := by
  refine ok_of (e_sets_Union (x, y) _) rfl ?_
  unfold c_sets_Union
  exact callP_eq (ok_slices_Concat h) (callP_eq (ok_runs_Make (by rw [List.length_append]; exact h)) rfl)
end Go.Proofs.YtdlgenbfnahmeaaGreatDoor.V


/- lustrumlaw14.LeafMore as a condition on the program's functions. No condition of its own. -/
namespace Go.Proofs.YtdlgenbfnahmeaaGreatDoor.V
open Go
set_option linter.unusedVariables false
set_option linter.unusedSimpArgs false

end Go.Proofs.YtdlgenbfnahmeaaGreatDoor.V


/- lustrumlaw07: the laws of units' days, as conditions on the program's functions alone. No condition of its own. -/
namespace Go.Proofs.YtdlgenbfnahmeaaGreatDoor.V
open Go
set_option linter.unusedVariables false
set_option linter.unusedSimpArgs false

end Go.Proofs.YtdlgenbfnahmeaaGreatDoor.V


/- lustrumlaw07.ImageEnds as a condition on the program's functions. No condition of its own. -/
namespace Go.Proofs.YtdlgenbfnahmeaaGreatDoor.V
open Go
set_option linter.unusedVariables false
set_option linter.unusedSimpArgs false

/-- Is it told? -/
def toldF (u : Int) (s : Runs) : Bool := if u = 0 then !decide (400 < (unitsF u s).length) else !decide (400 < (nums (unitsF u s)).length)

theorem marks_told (g : Int → Int → Int) (u : Int) (s : Runs) : (marksF g u s).2 = toldF u s ∧ (toldF u s = false → (marksF g u s).1 = []) := by
  unfold marksF toldF
  split
  · by_cases h : 400 < (unitsF u s).length
    · rw [if_pos h, decide_eq_true h]; exact ⟨rfl, fun _ => rfl⟩
    · rw [if_neg h, decide_eq_false h]; exact ⟨rfl, fun q => by cases q⟩
  · by_cases h : 400 < (nums (unitsF u s)).length
    · rw [if_pos h, decide_eq_true h]; exact ⟨rfl, fun _ => rfl⟩
    · rw [if_neg h, decide_eq_false h]; exact ⟨rfl, fun q => by cases q⟩

end Go.Proofs.YtdlgenbfnahmeaaGreatDoor.V


/- lustrumlaw14.LeafEnds as a condition on the program's functions. No condition of its own. -/
namespace Go.Proofs.YtdlgenbfnahmeaaGreatDoor.V
open Go
set_option linter.unusedVariables false
set_option linter.unusedSimpArgs false

def knownF (s : Runs) : Runs × Bool := if 400 < s.length then ([], false) else (s, true)

theorem ok_leaf_known {s : Runs} (hl : s.length < 100000000000) (h : Sane s) : FnE bs n_leaf_known ((Shape.slice sRun).compsE s) (.tup (.pair (.slice sRun) .bool)) (· = knownF s) := by
  refine ok_of (e_leaf_known s _) rfl ?_
  unfold c_leaf_known knownF
  refine callP_eq (ok_sets_WideA hl) ?_
  rw [make_self h]
  exact cond_dec (fun q => (if_pos q).symm) fun q => (if_neg q).symm

/-- The days on which a leaf's pairs start, and end. -/
def startsL (f : Leaf) : Runs × Bool := match ofF f with
  | none => ([], true)
  | some (.inl (u, s)) => marksF VCal.ufirst u s
  | some (.inr (a, b)) => knownF a
def endsL (f : Leaf) : Runs × Bool := match ofF f with
  | none => ([], true)
  | some (.inl (u, s)) => marksF VCal.ulast u s
  | some (.inr (a, b)) => knownF b

theorem span_lens {f : Leaf} {a b : Runs} (h : ofF f = some (.inr (a, b))) : a.length ≤ f.2.2.1.length ∧ b.length ≤ f.2.2.2.length := by
  obtain ⟨_, _, _, _, _, _, _, rfl, rfl⟩ := of_span h
  exact ⟨clip_length _ _ _, clip_length _ _ _⟩

theorem ok_leaf_Starts {f : Leaf} (hla : f.2.2.1.length < 100000000000) (hlb : f.2.2.2.length < 100000000000) : FnE bs n_leaf_Starts (sApiLeaf.compsE f) (.tup (.pair (.slice sRun) .bool)) (· = startsL f) := by
  refine ok_of (e_leaf_Starts f _) rfl ?_
  unfold c_leaf_Starts startsL
  refine callP_eq (ok_leaf_of (by dsimp only; omega) (by dsimp only; omega)) ?_
  rw [show ((f.1, f.2.1, f.2.2.1, f.2.2.2) : Leaf) = f from rfl]
  rcases ho : ofF f with _ | ⟨u, s⟩ | ⟨a, b⟩
  · exact rfl
  · obtain ⟨h1, h2, rfl, rfl, h5, h6, h7⟩ := of_units ho
    exact callP_eq (ok_image_Starts hla) rfl
  · have hs := span_ends ho
    have hl := span_lens ho
    exact callP_eq (ok_leaf_known (by dsimp only; omega) hs.1) rfl

theorem ok_leaf_Ends {f : Leaf} (hla : f.2.2.1.length < 100000000000) (hlb : f.2.2.2.length < 100000000000) : FnE bs n_leaf_Ends (sApiLeaf.compsE f) (.tup (.pair (.slice sRun) .bool)) (· = endsL f) := by
  refine ok_of (e_leaf_Ends f _) rfl ?_
  unfold c_leaf_Ends endsL
  refine callP_eq (ok_leaf_of (by dsimp only; omega) (by dsimp only; omega)) ?_
  rw [show ((f.1, f.2.1, f.2.2.1, f.2.2.2) : Leaf) = f from rfl]
  rcases ho : ofF f with _ | ⟨u, s⟩ | ⟨a, b⟩
  · exact rfl
  · obtain ⟨h1, h2, rfl, rfl, h5, h6, h7⟩ := of_units ho
    exact callP_eq (ok_image_Ends hla) rfl
  · have hs := span_ends ho
    have hl := span_lens ho
    exact callP_eq (ok_leaf_known (by dsimp only; omega) hs.2.1) rfl

theorem known_spec {s l : Runs} {b : Bool} (hs : Sane s) (h : knownF s = (l, b)) : Sane l ∧ l.length ≤ 400 ∧ (b = true → l = s) ∧ (b = false → l = []) := by
  unfold knownF at h
  split at h
  · cases h; exact ⟨trivial, Nat.zero_le _, fun q => (by cases q), fun _ => rfl⟩
  · cases h; exact ⟨hs, by omega, fun _ => rfl, fun q => by cases q⟩

theorem marks_nil {g : Int → Int → Int} {u : Int} {s l : Runs} (h : marksF g u s = (l, false)) : l = [] := by
  have := marks_told g u s
  rw [h] at this
  exact this.2 this.1.symm

theorem starts_spec {f : Leaf} {l : Runs} {b : Bool} (h : startsL f = (l, b)) : Sane l ∧ l.length ≤ 400 ∧ (b = false → l = []) ∧ (b = true → ∀ d, mem l d ↔ ∃ p ∈ famPairs (ofF f), p.1 = d) := by
  unfold startsL at h
  rcases ho : ofF f with _ | ⟨u, s⟩ | ⟨x, y⟩
  · rw [ho] at h
    cases h
    exact ⟨trivial, Nat.zero_le _, fun _ => rfl, fun _ d => ⟨fun q => (mem_nil q).elim, fun ⟨p, hp, _⟩ => (by cases hp)⟩⟩
  · rw [ho] at h
    dsimp only at h
    obtain ⟨h1, h2, h3, h4, h5, h6, h7⟩ := of_units ho
    refine ⟨marks_is_sane h, marks_len h, fun q => (by subst q; exact marks_nil h), fun q d => ?_⟩
    subst q
    rw [mem_marks dayIn_first h, make_self h6.1]
    show _ ↔ ∃ p ∈ unitPairs u s, p.1 = d
    unfold unitPairs
    constructor
    · rintro ⟨i, q1, q2, q3, q4⟩
      exact ⟨_, List.mem_map.2 ⟨i, mem_nums.2 q1, rfl⟩, q4⟩
    · rintro ⟨p, hp, rfl⟩
      obtain ⟨i, hi, rfl⟩ := List.mem_map.1 hp
      have b := Within.bounds h6 (mem_nums.1 hi)
      exact ⟨i, mem_nums.1 hi, b.1, by omega, rfl⟩
  · rw [ho] at h
    dsimp only at h
    obtain ⟨sa, sb, na, nb, l1, l2⟩ := span_ends ho
    obtain ⟨k1, k2, k3, k4⟩ := known_spec sa h
    refine ⟨k1, k2, k4, fun q d => ?_⟩
    rw [k3 q]
    show _ ↔ ∃ p ∈ spanPairs x y, p.1 = d
    constructor
    · intro hd
      obtain ⟨_, _, _, _, _, _, _, e1, _⟩ := of_span ho
      have h1 := hd
      rw [e1] at h1
      have := (mem_clip.1 h1).2.2
      exact ⟨(d, hiF y), span_pair sa sb hd (mem_hi sb nb) (by omega), rfl⟩
    · rintro ⟨p, hp, rfl⟩
      exact (pair_span hp).1

theorem ends_spec {f : Leaf} {l : Runs} {b : Bool} (h : endsL f = (l, b)) : Sane l ∧ l.length ≤ 400 ∧ (b = false → l = []) ∧ (b = true → ∀ d, mem l d ↔ ∃ p ∈ famPairs (ofF f), p.2 = d) := by
  unfold endsL at h
  rcases ho : ofF f with _ | ⟨u, s⟩ | ⟨x, y⟩
  · rw [ho] at h
    cases h
    exact ⟨trivial, Nat.zero_le _, fun _ => rfl, fun _ d => ⟨fun q => (mem_nil q).elim, fun ⟨p, hp, _⟩ => (by cases hp)⟩⟩
  · rw [ho] at h
    dsimp only at h
    obtain ⟨h1, h2, h3, h4, h5, h6, h7⟩ := of_units ho
    refine ⟨marks_is_sane h, marks_len h, fun q => (by subst q; exact marks_nil h), fun q d => ?_⟩
    subst q
    rw [mem_marks dayIn_last h, make_self h6.1]
    show _ ↔ ∃ p ∈ unitPairs u s, p.2 = d
    unfold unitPairs
    constructor
    · rintro ⟨i, q1, q2, q3, q4⟩
      exact ⟨_, List.mem_map.2 ⟨i, mem_nums.2 q1, rfl⟩, q4⟩
    · rintro ⟨p, hp, rfl⟩
      obtain ⟨i, hi, rfl⟩ := List.mem_map.1 hp
      have b := Within.bounds h6 (mem_nums.1 hi)
      exact ⟨i, mem_nums.1 hi, b.1, by omega, rfl⟩
  · rw [ho] at h
    dsimp only at h
    obtain ⟨sa, sb, na, nb, l1, l2⟩ := span_ends ho
    obtain ⟨k1, k2, k3, k4⟩ := known_spec sb h
    refine ⟨k1, k2, k4, fun q d => ?_⟩
    rw [k3 q]
    show _ ↔ ∃ p ∈ spanPairs x y, p.2 = d
    constructor
    · intro hd
      obtain ⟨_, _, _, _, _, _, _, _, e1⟩ := of_span ho
      have h1 := hd
      rw [e1] at h1
      have := (mem_clip.1 h1).2.1
      exact ⟨(loF x, d), span_pair sa sb (mem_lo sa na) hd (by omega), rfl⟩
    · rintro ⟨p, hp, rfl⟩
      exact (pair_span hp).2.1

end Go.Proofs.YtdlgenbfnahmeaaGreatDoor.V


/- The views of a family: plain facts. No program in sight. -/
namespace Go.Proofs.YtdlgenbfnahmeaaGreatDoor.V
set_option linter.unusedVariables false
set_option linter.unusedSimpArgs false

/-- A family's views. -/
def viewsF (f : Leaf) : List View := match ofF f with
  | none => []
  | some (.inl (u, s)) => if u = 0 then [(true, s, s)] else (nums s).map fun i => (false, [(VCal.ufirst u i, VCal.ufirst u i)], [(VCal.ulast u i, VCal.ulast u i)])
  | some (.inr (a, b)) => [(false, a, b)]

theorem one_within {d : Int} (h : 0 ≤ d ∧ d ≤ 3652424) : Within [(d, d)] 3652424 := by
  refine ⟨⟨by dsimp only; omega, by dsimp only; omega, by unfold Lim; dsimp only; omega, trivial⟩, .inr ⟨by show 0 ≤ d; omega, by show d ≤ 3652424; omega⟩⟩

theorem views_ok {f : Leaf} (hla : f.2.2.1.length ≤ 1000) (hlb : f.2.2.2.length ≤ 1000) : ∀ x ∈ viewsF f, VOK x := by
  intro x hx
  unfold viewsF at hx
  rcases ho : ofF f with _ | ⟨u, s⟩ | ⟨a, b⟩
  · rw [ho] at hx; cases hx
  · rw [ho] at hx
    obtain ⟨h1, h2, rfl, rfl, h5, h6, h7⟩ := of_units ho
    dsimp only at hx
    split at hx
    · rename_i h0
      cases List.mem_singleton.1 hx
      rw [h0, VCal.ucount_0] at h6
      exact ⟨h6, h6, h5, h5, fun _ => rfl, Int.le_refl _, Int.le_refl _, hla, hla⟩
    · obtain ⟨i, hi, rfl⟩ := List.mem_map.1 hx
      have hb := Within.bounds h6 (mem_nums.1 hi)
      have hu := VCal.unit_in (kind := f.2.1) (i := i) (by omega) (by omega)
      exact ⟨one_within (by omega), one_within (by omega), by simp, by simp, fun e => (by cases e), hu.2.1, hu.2.1, (by simp), (by simp)⟩
  · rw [ho] at hx
    cases List.mem_singleton.1 hx
    obtain ⟨h1, h2, h3, h4, h5, h6, h7, e1, e2⟩ := of_span ho
    obtain ⟨sa, sb, na, nb, la, lb⟩ := span_ends ho
    have hl := span_lens ho
    have ba := Within.bounds h6 (mem_lo h6.1 h3)
    have bb := Within.bounds h7 (mem_hi h7.1 h4)
    have ia : ∀ n, mem a n → mem f.2.2.1 n ∧ 0 ≤ n ∧ n ≤ hiF f.2.2.2 := fun n hn => by rw [e1] at hn; exact mem_clip.1 hn
    have ib : ∀ n, mem b n → mem f.2.2.2 n ∧ loF f.2.2.1 ≤ n ∧ n ≤ 3652424 := fun n hn => by rw [e2] at hn; exact mem_clip.1 hn
    have lo := mem_lo sb nb
    have hi := mem_hi sa na
    have x1 := Within.bounds h6 (ia _ hi).1
    have x2 := Within.bounds h7 (ib _ lo).1
    have x3 := ia _ hi
    have x4 := ib _ lo
    have wa : Within a 3652424 := ⟨sa, .inr ⟨by omega, by omega⟩⟩
    have wb : Within b 3652424 := ⟨sb, .inr ⟨by omega, by omega⟩⟩
    exact ⟨wa, wb, na, nb, fun e => (by cases e), (by show loF a ≤ loF b; omega), (by show hiF a ≤ hiF b; omega), (by show a.length ≤ 1000; omega), (by show b.length ≤ 1000; omega)⟩

theorem mem_spanPairs {a b : Runs} {p : Int × Int} : p ∈ spanPairs a b ↔ p.1 ≤ p.2 ∧ mem a p.1 ∧ mem b p.2 := by
  unfold spanPairs
  simp only [List.mem_flatMap, List.mem_map, mem_nums, mem_upTo]
  constructor
  · rintro ⟨s, hs, r, hr, t, ⟨h1, h2⟩, rfl⟩
    exact ⟨by show s ≤ t; omega, hs, r, hr, by show r.1 ≤ t; omega, h2⟩
  · rintro ⟨h, hs, r, hr, h1, h2⟩
    exact ⟨p.1, hs, r, hr, p.2, ⟨by omega, h2⟩, rfl⟩

theorem mem_one {d n : Int} : mem [(d, d)] n ↔ n = d := by
  rw [mem_cons]
  constructor
  · rintro (h | h)
    · dsimp only at h; omega
    · exact (mem_nil h).elim
  · rintro rfl; exact .inl ⟨Int.le_refl _, Int.le_refl _⟩

theorem views_pairs {f : Leaf} {p : Int × Int} : p ∈ famPairs (ofF f) ↔ ∃ x ∈ viewsF f, PV x p := by
  unfold viewsF
  rcases ho : ofF f with _ | ⟨u, s⟩ | ⟨a, b⟩
  · simp [famPairs]
  · obtain ⟨h1, h2, rfl, rfl, h5, h6, h7⟩ := of_units ho
    dsimp only
    show p ∈ unitPairs f.2.1 f.2.2.1 ↔ _
    unfold unitPairs
    rw [List.mem_map]
    split
    · rename_i h0
      rw [h0] at h6 ⊢
      constructor
      · rintro ⟨i, hi, rfl⟩
        have hb := Within.bounds h6 (mem_nums.1 hi)
        have := day_unit (i := i) (by omega)
        refine ⟨_, List.mem_singleton.2 rfl, (PV.single rfl).2 ⟨?_, ?_⟩⟩
        · show VCal.ufirst 0 i = VCal.ulast 0 i
          rw [this.1, this.2]
        · show mem f.2.2.1 (VCal.ufirst 0 i)
          rw [this.1]; exact mem_nums.1 hi
      · rintro ⟨x, hx, hp⟩
        cases List.mem_singleton.1 hx
        have hp := (PV.single rfl).1 hp
        have hm : mem f.2.2.1 p.1 := hp.2
        have hb := Within.bounds h6 hm
        have := day_unit (i := p.1) (by omega)
        refine ⟨p.1, mem_nums.2 hm, Prod.ext this.1 ?_⟩
        show VCal.ulast 0 p.1 = p.2
        rw [this.2]; exact hp.1
    · constructor
      · rintro ⟨i, hi, rfl⟩
        have hb := Within.bounds h6 (mem_nums.1 hi)
        have hu := VCal.unit_in (kind := f.2.1) (i := i) (by omega) (by omega)
        exact ⟨_, List.mem_map.2 ⟨i, hi, rfl⟩, (PV.span rfl).2 ⟨by show VCal.ufirst _ _ ≤ VCal.ulast _ _; omega, mem_one.2 rfl, mem_one.2 rfl⟩⟩
      · rintro ⟨x, hx, hp⟩
        obtain ⟨i, hi, rfl⟩ := List.mem_map.1 hx
        have hp := (PV.span rfl).1 hp
        exact ⟨i, hi, Prod.ext (mem_one.1 hp.2.1).symm (mem_one.1 hp.2.2).symm⟩
  · show p ∈ spanPairs a b ↔ _
    rw [mem_spanPairs]
    constructor
    · intro h
      exact ⟨_, List.mem_singleton.2 rfl, (PV.span rfl).2 h⟩
    · rintro ⟨x, hx, hp⟩
      cases List.mem_singleton.1 hx
      exact (PV.span rfl).1 hp

def pairsL (l : List Leaf) : List Pr := l.flatMap fun f => famPairs (ofF f)

theorem mem_pairsL {l : List Leaf} {p : Pr} : p ∈ pairsL l ↔ anyP l p := by
  unfold pairsL anyP
  rw [List.mem_flatMap]

/-- A family has too many starts or ends. -/
def wideB (l : List Leaf) : Bool := l.any fun f => !(startsL f).2 || !(endsL f).2

end Go.Proofs.YtdlgenbfnahmeaaGreatDoor.V


/- Bits of any number: plain facts. No program in sight. -/
namespace Go.Proofs.YtdlgenbfnahmeaaGreatDoor.V
set_option linter.unusedVariables false
set_option linter.unusedSimpArgs false

/-- A number's bit. -/
def mbit (mask : Int) (k : Nat) : Prop := (mask % 18446744073709551616) / 2 ^ k % 2 = 1
instance (mask : Int) (k : Nat) : Decidable (mbit mask k) := inferInstanceAs (Decidable (_ = _))

theorem lsb_mbit {mask : Int} {k : Nat} : (BitVec.ofInt 64 mask).getLsbD k = true ↔ mbit mask k := by
  unfold BitVec.getLsbD mbit
  rw [BitVec.toNat_ofInt, Nat.testBit_eq_decide_div_mod_eq, decide_eq_true_iff]
  have h0 : 0 ≤ mask % 18446744073709551616 := Int.emod_nonneg _ (by decide)
  obtain ⟨u, hu⟩ := Int.eq_ofNat_of_zero_le h0
  have e : (mask % ((2 ^ 64 : Nat) : Int)).toNat = u := by
    have : ((2 ^ 64 : Nat) : Int) = 18446744073709551616 := by decide
    rw [this, hu]; rfl
  rw [e, hu]
  have : ((u / 2 ^ k % 2 : Nat) : Int) = (u : Int) / 2 ^ k % 2 := by simp
  rw [← this]
  omega

/-- A mask without the bits of a number. -/
theorem IsMask.andNot {a mask : Int} {P : Nat → Prop} (ha : IsMask a P) : w64 ((BitVec.ofInt 64 a &&& ~~~ BitVec.ofInt 64 mask).toNat : Int) = 0 ↔ ∀ k, k ≤ 12 → P k → mbit mask k := by
  obtain ⟨m, rfl, hm⟩ := ha
  have h1 := IsMask.lt hm
  rw [ofInt_nat]
  have hle : (BitVec.ofNat 64 m &&& ~~~ BitVec.ofInt 64 mask).toNat ≤ m := by
    rw [BitVec.toNat_and, BitVec.toNat_ofNat, Nat.mod_eq_of_lt (by omega)]
    exact Nat.and_le_left
  rw [w64_of (by omega)]
  have e : ((BitVec.ofNat 64 m &&& ~~~ BitVec.ofInt 64 mask).toNat : Int) = 0 ↔ (BitVec.ofNat 64 m &&& ~~~ BitVec.ofInt 64 mask) = 0#64 := by
    constructor
    · intro h
      apply BitVec.eq_of_toNat_eq
      simp only [BitVec.toNat_ofNat]
      omega
    · intro h; rw [h]; rfl
  rw [e]
  constructor
  · intro h k hk hp
    have hb := (hm k).2 ⟨hk, hp⟩
    have := congrArg (fun x => x.getLsbD k) h
    simp only [BitVec.getLsbD_and, BitVec.getLsbD_not, BitVec.getLsbD_ofNat, BitVec.getLsbD_zero] at this
    rw [hb] at this
    refine lsb_mbit.1 ?_
    have h64 : k < 64 := by omega
    simpa [h64] using this
  · intro h
    apply BitVec.eq_of_getLsbD_eq
    intro i hi
    simp only [BitVec.getLsbD_and, BitVec.getLsbD_not, BitVec.getLsbD_ofNat, BitVec.getLsbD_zero]
    cases hb : m.testBit i
    · simp
    · have hq := (hm i).1 hb
      have := lsb_mbit.2 (h i hq.1 hq.2)
      simp [this]

theorem IsMask.and {a mask : Int} {P : Nat → Prop} (ha : IsMask a P) : w64 ((BitVec.ofInt 64 a &&& BitVec.ofInt 64 mask).toNat : Int) = a ↔ ∀ k, k ≤ 12 → P k → mbit mask k := by
  obtain ⟨m, rfl, hm⟩ := ha
  have h1 := IsMask.lt hm
  rw [ofInt_nat]
  have hle : (BitVec.ofNat 64 m &&& BitVec.ofInt 64 mask).toNat ≤ m := by
    rw [BitVec.toNat_and, BitVec.toNat_ofNat, Nat.mod_eq_of_lt (by omega)]
    exact Nat.and_le_left
  rw [w64_of (by omega)]
  have e : ((BitVec.ofNat 64 m &&& BitVec.ofInt 64 mask).toNat : Int) = (m : Int) ↔ (BitVec.ofNat 64 m &&& BitVec.ofInt 64 mask) = BitVec.ofNat 64 m := by
    constructor
    · intro h
      apply BitVec.eq_of_toNat_eq
      rw [BitVec.toNat_ofNat, Nat.mod_eq_of_lt (by omega)]
      omega
    · intro h; rw [h, BitVec.toNat_ofNat, Nat.mod_eq_of_lt (by omega)]
  rw [e]
  constructor
  · intro h k hk hp
    have hb := (hm k).2 ⟨hk, hp⟩
    have := congrArg (fun x => x.getLsbD k) h
    simp only [BitVec.getLsbD_and, BitVec.getLsbD_ofNat] at this
    rw [hb] at this
    refine lsb_mbit.1 ?_
    have h64 : k < 64 := by omega
    simpa [h64] using this
  · intro h
    apply BitVec.eq_of_getLsbD_eq
    intro i hi
    simp only [BitVec.getLsbD_and, BitVec.getLsbD_ofNat]
    cases hb : m.testBit i
    · simp
    · have hq := (hm i).1 hb
      have := lsb_mbit.2 (h i hq.1 hq.2)
      simp [this]
end Go.Proofs.YtdlgenbfnahmeaaGreatDoor.V


/- Units within days, and that have one of some days, by the units of the first and the last day: plain facts. No program in sight. -/
namespace Go.Proofs.YtdlgenbfnahmeaaGreatDoor.V
set_option linter.unusedVariables false
set_option linter.unusedSimpArgs false

end Go.Proofs.YtdlgenbfnahmeaaGreatDoor.V

