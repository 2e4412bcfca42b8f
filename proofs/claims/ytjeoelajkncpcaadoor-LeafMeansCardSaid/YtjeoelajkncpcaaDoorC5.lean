/- Leaves: what the program's functions answer. No condition of its own. -/
import Derived.Test.YtjeoelajkncpcaaDoorC4
import Derived.Test.YtjeoelajkncpcaaDoorS2
namespace Go.Proofs.YtjeoelajkncpcaaDoor.V
open Go
set_option linter.unusedVariables false

theorem ok_sets_Clip {s : Runs} {lo hi : Int} (hl : s.length ≤ 1000000000) (h : Sane s) (hb : -Lim ≤ lo ∧ lo ≤ hi ∧ hi ≤ Lim) : FnE bs n_sets_Clip ((Shape.pair (.slice sRun) (.pair (.int .i64) (.int .i64))).compsE (s, lo, hi)) (.slice sRun) (· = clipF s lo hi) := by
  refine ok_of (e_sets_Clip (s, lo, hi) _) rfl ?_
  unfold c_sets_Clip
  have hs : Sane [(lo, hi)] := ⟨hb.2.1, by unfold Lim at hb; dsimp only; omega, hb.2.2, trivial⟩
  refine callP_of (ok_sets_Meet (a := s) (b := [(lo, hi)]) hl (by simp) h hs) fun r hr => ?_
  refine sane_ext hr.1 (sane_clip h) fun n => ?_
  rw [hr.2.2 n, mem_clip, mem_cons]
  constructor
  · rintro ⟨h1, h2 | h2⟩
    · exact ⟨h1, h2⟩
    · exact (mem_nil h2).elim
  · rintro ⟨h1, h2⟩; exact ⟨h1, .inl h2⟩

theorem rd_lo {s : Runs} (h : s ≠ []) : (rd sRun s (0 : Int).toNat).1 = loF s := by
  obtain ⟨r, h1, h2⟩ := loF_get h
  rw [show ((0 : Int).toNat) = 0 from rfl, rd_of (s := sRun) h1, h2]

theorem rd_hi {s : Runs} (h : s ≠ []) (hl : s.length ≤ 1000000000) : (rd sRun s (w64 ((s.length : Int) - 1)).toNat).2 = hiF s := by
  obtain ⟨r, h1, h2⟩ := hiF_get h
  have hp := List.length_pos_iff.2 h
  rw [w64_of (n := (s.length : Int) - 1) (by omega), show ((s.length : Int) - 1).toNat = s.length - 1 by omega, rd_of (s := sRun) h1, h2]

theorem last_in {s : Runs} (h : s ≠ []) (hl : s.length ≤ 1000000000) : (0 : Int) ≤ w64 ((s.length : Int) - 1) ∧ w64 ((s.length : Int) - 1) < (s.length : Int) := by
  have hp := List.length_pos_iff.2 h
  rw [w64_of (n := (s.length : Int) - 1) (by omega)]
  omega

theorem first_in {s : Runs} (h : s ≠ []) : (0 : Int) ≤ 0 ∧ (0 : Int) < (s.length : Int) := by
  have hp := List.length_pos_iff.2 h
  omega

theorem len_zero {s : Runs} : ((s.length : Int) = 0) ↔ s = [] := by
  rw [← List.length_eq_zero_iff]; omega

theorem ok_leaf_within {s : Runs} {m : Int} (hl : s.length ≤ 1000000000) : FnE bs n_leaf_within ((Shape.pair (.slice sRun) (.int .i64)).compsE (s, m)) .bool (· = decide (Within s m)) := by
  refine ok_of (e_leaf_within (s, m) _) rfl ?_
  unfold c_leaf_within Within
  refine callP_eq (ok_runs_Sane hl) (cond_dec (fun h => cond_dec (fun h2 => ?_) fun h2 => ?_) fun h => ?_)
  · have h2 : s = [] := len_zero.1 h2
    have h : Sane s := h
    exact be (decide_eq_true ⟨h, .inl h2⟩).symm
  · have h2 : ¬ s = [] := fun e => h2 (len_zero.2 e)
    refine ⟨first_in h2, ?_⟩
    dsimp only
    rw [rd_lo h2, rd_hi h2 hl]
    refine cond_dec (fun h3 => ⟨last_in h2 hl, be ?_⟩) fun h3 => be ?_
    · have h3 : 0 ≤ loF s := h3
      simp [h, h2, h3]
    · have h3 : ¬ 0 ≤ loF s := h3
      simp [h2, h3]
  · exact be (by simp [h])

theorem ok_leaf_Sane {f : Leaf} (hla : f.2.2.1.length ≤ 1000000000) (hlb : f.2.2.2.length ≤ 1000000000) : FnE bs n_leaf_Sane (sApiLeaf.compsE f) .bool (· = decide (LeafSane f)) := by
  obtain ⟨sp, u, a, b⟩ := f
  dsimp only at hla hlb
  refine ok_of (e_leaf_Sane (sp, u, a, b) _) rfl ?_
  unfold c_leaf_Sane LeafSane
  dsimp only
  cases sp
  · refine cond_no rfl (cond_dec (fun h1 => cond_dec (fun h2 => callP_eq ok_unit_Count ?_) fun h2 => be ?_) fun h1 => be ?_)
    · have := VCal.ucount_pos u
      rw [w64_of (by omega)]
      refine callP_eq (ok_leaf_within hla) (cond_dec (fun h3 => be ?_) fun h3 => be ?_)
      · have h1 : 0 ≤ u := h1
        have h2 : u ≤ 5 := h2
        refine decide_eq_decide.2 ⟨fun q => ?_, fun q => ?_⟩
        · rw [if_neg (by decide)]; exact ⟨⟨h1, h2⟩, h3, len_zero.1 q⟩
        · rw [if_neg (by decide)] at q; exact len_zero.2 q.2.2
      · simp [h3]
    · have h2 : ¬ u ≤ 5 := h2
      simp [h2]
    · have h1 : ¬ 0 ≤ u := h1
      simp [h1]
  · refine cond_yes rfl (cond_dec (fun h1 => callP_eq (ok_leaf_within hla) (cond_dec (fun h2 => callP_eq (ok_leaf_within hlb) (be ?_)) fun h2 => be ?_)) fun h1 => be ?_)
    · have h1 : u = 0 := h1
      simp [h1, h2]
    · simp [h2]
    · have h1 : ¬ u = 0 := h1
      simp [h1]

theorem ok_leaf_of {f : Leaf} (hla : f.2.2.1.length ≤ 1000000000) (hlb : f.2.2.2.length ≤ 1000000000) : FnE bs n_leaf_of (sApiLeaf.compsE f) sLeafFamily (· = ofF f) := by
  obtain ⟨sp, u, a, b⟩ := f
  dsimp only at hla hlb
  refine ok_of (e_leaf_of (sp, u, a, b) _) rfl ?_
  unfold c_leaf_of ofF
  dsimp only
  refine callP_eq (ok_leaf_Sane (f := (sp, u, a, b)) hla hlb) (cond_not (fun h => ?_) fun h => cond_dec (fun h1 => ?_) fun h1 => ?_)
  · rw [if_pos (.inl (by simpa using h))]
  · rw [if_pos (.inr (len_zero.1 h1))]
  · have h : LeafSane (sp, u, a, b) := by simpa using h
    have h1 : ¬ a = [] := fun e => h1 (len_zero.2 e)
    rw [if_neg (by simp [h, h1])]
    cases sp
    · exact cond_yes rfl (by rw [if_pos rfl])
    · refine cond_no rfl (cond_dec (fun h2 => ?_) fun h2 => ⟨first_in h1, ?_⟩)
      · rw [if_neg (by simp), if_pos (.inl (len_zero.1 h2))]
      · have h2 : ¬ b = [] := fun e => h2 (len_zero.2 e)
        have hs := h
        unfold LeafSane at hs
        dsimp only at hs
        rw [if_pos rfl] at hs
        refine ⟨last_in h2 hlb, ?_⟩
        rw [rd_lo h1, rd_hi h2 hlb]
        refine cond_dec (fun h3 => ?_) fun h3 => ⟨last_in h2 hlb, first_in h1, ?_⟩
        · have h3 : hiF b < loF a := h3
          rw [if_neg (by simp), if_pos (.inr h3)]
        · have h3 : ¬ hiF b < loF a := h3
          have b1 := Within.bounds hs.2.1 (mem_lo hs.2.1.1 h1)
          have b2 := Within.bounds hs.2.2 (mem_hi hs.2.2.1 h2)
          refine callP_eq (ok_sets_Clip hla hs.2.1.1 (by unfold Lim; omega)) (callP_eq (ok_sets_Clip hlb hs.2.2.1 (by unfold Lim; omega)) ?_)
          rw [if_neg (by simp), if_neg (by simp [h2, h3])]

theorem ok_leaf_Empty {f : Leaf} (hla : f.2.2.1.length ≤ 1000000000) (hlb : f.2.2.2.length ≤ 1000000000) : FnE bs n_leaf_Empty (sApiLeaf.compsE f) .bool (· = (ofF f).isNone) := by
  obtain ⟨sp, u, a, b⟩ := f
  refine ok_of (e_leaf_Empty (sp, u, a, b) _) rfl ?_
  unfold c_leaf_Empty
  exact callP_eq (ok_leaf_of hla hlb) rfl

/-- A leaf without what is in no pair. -/
def tidyF (f : Leaf) : Leaf := match ofF f with
  | none => (false, 0, [], [])
  | some (.inl (u, s)) => (false, u, s, [])
  | some (.inr (a, b)) => (true, 0, a, b)

theorem ok_leaf_Tidy {f : Leaf} (hla : f.2.2.1.length ≤ 1000000000) (hlb : f.2.2.2.length ≤ 1000000000) : FnE bs n_leaf_Tidy (sApiLeaf.compsE f) sApiLeaf (· = tidyF f) := by
  obtain ⟨sp, u, a, b⟩ := f
  refine ok_of (e_leaf_Tidy (sp, u, a, b) _) rfl ?_
  unfold c_leaf_Tidy tidyF
  refine callP_eq (ok_leaf_of hla hlb) ?_
  dsimp only
  generalize ofF (sp, u, a, b) = x
  rcases x with _ | ⟨y⟩ | ⟨y⟩ <;> rfl

theorem ok_leaf_units_pair {u i : Int} {s : Runs} : FnE bs n_leaf_units_pair ((Shape.pair sLeafUnits (.int .i64)).compsE ((u, s), i)) sRun (· = ((firstS u i).1, (lastS u i).1)) := by
  refine ok_of (e_leaf_units_pair ((u, s), i) _) rfl ?_
  unfold c_leaf_units_pair
  exact callP_eq ok_unit_First (callP_eq ok_unit_Last rfl)

open Classical in
theorem ok_leaf_units_has {u : Int} {s : Runs} {p : Int × Int} (hl : s.length ≤ 1000000000) (h : Within s (VCal.ucount u - 1)) : FnE bs n_leaf_units_has ((Shape.pair sLeafUnits sRun).compsE ((u, s), p)) .bool (· = decide (∃ i, VCal.uof u p.1 = some i ∧ mem s i ∧ p = (VCal.ufirst u i, VCal.ulast u i))) := by
  refine ok_of (e_leaf_units_has ((u, s), p) _) rfl ?_
  unfold c_leaf_units_has
  refine callP_eq ok_unit_Of ?_
  unfold ofS
  cases ho : VCal.uof u p.1 with
  | none => exact be (by simp)
  | some i =>
    dsimp only
    refine cond_yes rfl (callP_eq (ok_runs_Has hl h.1) (cond_dec (fun hm => callP_eq ok_leaf_units_pair ?_) fun hm => be (by simp [hm])))
    have hb := Within.bounds h hm
    unfold firstS lastS
    dsimp only at hb ⊢
    rw [if_pos (by omega), if_pos (by omega)]
    refine be ?_
    dsimp only
    rw [← Bool.decide_and, decide_eq_decide]
    constructor
    · rintro ⟨h1, h2⟩
      exact ⟨i, rfl, hm, Prod.ext h1.symm h2.symm⟩
    · rintro ⟨j, hj, _, e⟩
      cases hj
      exact ⟨(congrArg Prod.fst e).symm, (congrArg Prod.snd e).symm⟩

open Classical in
theorem ok_leaf_span_has {a b : Runs} {p : Int × Int} (hla : a.length ≤ 1000000000) (hlb : b.length ≤ 1000000000) (ha : Sane a) (hb : Sane b) : FnE bs n_leaf_span_has ((Shape.pair sLeafSpan sRun).compsE ((a, b), p)) .bool (· = decide (p.1 ≤ p.2 ∧ mem a p.1 ∧ mem b p.2)) := by
  refine ok_of (e_leaf_span_has ((a, b), p) _) rfl ?_
  unfold c_leaf_span_has
  refine cond_dec (fun h => callP_eq (ok_runs_Has hla ha) (cond_dec (fun h2 => callP_eq (ok_runs_Has hlb hb) (be ?_)) fun h2 => be ?_)) fun h => be ?_
  · have h : p.1 ≤ p.2 := h
    simp [h, h2]
  · simp [h2]
  · have h : ¬ p.1 ≤ p.2 := h
    simp [h]

open Classical in
theorem ok_leaf_Has {f : Leaf} {p : Int × Int} (hla : f.2.2.1.length ≤ 1000000000) (hlb : f.2.2.2.length ≤ 1000000000) : FnE bs n_leaf_Has ((Shape.pair sApiLeaf sRun).compsE (f, p)) .bool (· = decide (HasF f p)) := by
  refine ok_of (e_leaf_Has (f, p) _) rfl ?_
  unfold c_leaf_Has HasF
  refine callP_eq (ok_leaf_of (f := f) hla hlb) ?_
  dsimp only
  cases ho : ofF f with
  | none => exact be (by simp)
  | some x =>
    cases x with
    | inl y =>
      obtain ⟨u, s⟩ := y
      obtain ⟨h1, h2, h3, h4, h5, h6, h7⟩ := of_units ho
      exact cond_yes rfl (callP_eq (ok_leaf_units_has (by rw [h4]; exact hla) h6) (be (decide_eq_decide.2 Iff.rfl)))
    | inr y =>
      obtain ⟨a, b⟩ := y
      obtain ⟨h1, h2, h3, h4, h5, h6, h7, e1, e2⟩ := of_span ho
      obtain ⟨sa, sb, _⟩ := span_ends ho
      have la : a.length ≤ 1000000000 := by rw [e1]; exact Nat.le_trans (clip_length _ _ _) hla
      have lb : b.length ≤ 1000000000 := by rw [e2]; exact Nat.le_trans (clip_length _ _ _) hlb
      exact cond_yes rfl (callP_eq (ok_leaf_span_has la lb sa sb) (be (decide_eq_decide.2 Iff.rfl)))
end Go.Proofs.YtjeoelajkncpcaaDoor.V
