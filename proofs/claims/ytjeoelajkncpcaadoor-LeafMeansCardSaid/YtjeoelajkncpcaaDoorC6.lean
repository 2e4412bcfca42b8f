/- Leaves' pairs: what the program's functions answer. No condition of its own. -/
import Derived.Test.YtjeoelajkncpcaaDoorC5
import Derived.Test.YtjeoelajkncpcaaDoorS3
namespace Go.Proofs.YtjeoelajkncpcaaDoor.V
open Go
set_option linter.unusedVariables false

open Classical in
theorem ok_leaf_Covers {f : Leaf} {d : Int} (hla : f.2.2.1.length ≤ 1000000000) (hlb : f.2.2.2.length ≤ 1000000000) : FnE bs n_leaf_Covers ((Shape.pair sApiLeaf (.int .i64)).compsE (f, d)) .bool (· = decide (CoversF f d)) := by
  refine ok_of (e_leaf_Covers (f, d) _) rfl ?_
  unfold c_leaf_Covers CoversF
  refine callP_eq (ok_leaf_of (f := f) hla hlb) ?_
  dsimp only
  cases ho : ofF f with
  | none => exact be (by simp)
  | some x =>
    cases x with
    | inl y =>
      obtain ⟨u, s⟩ := y
      obtain ⟨h1, h2, h3, h4, h5, h6, h7⟩ := of_units ho
      refine callP_eq ok_unit_Of ?_
      dsimp only
      rcases Option.eq_none_or_eq_some (VCal.uof u d) with hu | ⟨i, hu⟩
      · have e : ofS u d = (0, false) := by unfold ofS; rw [hu]
        rw [e]
        exact be (@decide_eq_false _ (propDecidable _) fun ⟨i, hi, _⟩ => by rw [hu] at hi; cases hi).symm
      · have e : ofS u d = (i, true) := by unfold ofS; rw [hu]
        rw [e]
        refine cond_yes rfl (callP_eq (ok_runs_Has (by rw [h4]; exact hla) h6.1) (be (decide_eq_decide.2 ?_)))
        exact ⟨fun h => ⟨i, hu, h⟩, fun ⟨j, hj, h⟩ => by rw [hu] at hj; cases hj; exact h⟩
    | inr y =>
      obtain ⟨a, b⟩ := y
      obtain ⟨h1, h2, h3, h4, h5, h6, h7, e1, e2⟩ := of_span ho
      obtain ⟨sa, sb, na, nb, _⟩ := span_ends ho
      have la : a.length ≤ 1000000000 := by rw [e1]; exact Nat.le_trans (clip_length _ _ _) hla
      have lb : b.length ≤ 1000000000 := by rw [e2]; exact Nat.le_trans (clip_length _ _ _) hlb
      refine ⟨first_in na, ?_⟩
      rw [rd_lo na, rd_hi nb lb]
      refine cond_dec (fun h => ⟨last_in nb lb, be (decide_eq_decide.2 ?_)⟩) fun h => be (@decide_eq_false _ (propDecidable _) ?_).symm
      · exact ⟨fun q => ⟨h, q⟩, fun q => q.2⟩
      · exact fun q => h q.1

theorem ok_leaf_units_pairs {u n : Int} {s : Runs} (hl : s.length ≤ 1000000000) (h : Within s (VCal.ucount u - 1)) (hn : n ≤ 1000) : FnE bs n_leaf_units_pairs ((Shape.pair sLeafUnits (.int .i64)).compsE ((u, s), n)) (.slice sRun) (· = (unitPairs u s).take n.toNat) := by
  refine ok_of (e_leaf_units_pairs ((u, s), n) _) rfl ?_
  unfold c_leaf_units_pairs
  have hcnt := VCal.ucount_pos u
  refine loopP_of (fun z : Unit × Int × List (Int × Int) => ∃ k : Nat, z.2.1 = k ∧ k ≤ s.length ∧ Fill (unitPairs u s) n z.2.2 (unitPairs u (s.drop k))) (fun z => s.length - z.2.1.toNat) ?_ ⟨0, rfl, Nat.zero_le _, Fill.start⟩
  intro z A ⟨k, e1, hk, hf⟩ back
  obtain ⟨_, zk, out⟩ := z
  dsimp only [Shape.Val] at *
  subst e1
  refine cond_dec (fun h1 => ⟨⟨by omega, h1⟩, ?_⟩) fun h1 => ?_
  · have hk' : k < s.length := by omega
    have hg := List.getElem?_eq_getElem hk'
    generalize s[k] = r at hg
    have hr := Sane.bounds h.1 r (List.mem_of_getElem? hg)
    have hb : ∀ i, r.1 ≤ i → i ≤ r.2 → 0 ≤ i ∧ i ≤ VCal.ucount u - 1 := fun i h1 h2 => Within.bounds h ⟨r, List.mem_of_getElem? hg, h1, h2⟩
    rw [toNat_ofNat, rd_of (s := sRun) hg, w64_of (n := (k : Int) + 1) (by omega)]
    rw [drop_cons hg] at hf
    refine loopP_of (fun z : Unit × Int × List (Int × Int) => r.1 ≤ z.2.1 ∧ z.2.1 ≤ r.2 + 1 ∧ Fill (unitPairs u s) n z.2.2 ((upTo z.2.1 r.2).map (fun i => (VCal.ufirst u i, VCal.ulast u i)) ++ unitPairs u (s.drop (k + 1)))) (fun z => (r.2 + 1 - z.2.1).toNat) ?_ ⟨by dsimp only; omega, by dsimp only; omega, ?_⟩
    · intro z A' ⟨g1, g2, g3⟩ back'
      obtain ⟨_, i, out'⟩ := z
      dsimp only [Shape.Val] at *
      refine cond_dec (fun h2 => cond_dec (fun h3 => callP_eq ok_leaf_units_pair ⟨?_, ?_⟩) fun h3 => ?_) fun h2 => ?_
      · have := g3.1
        simp only [List.length_cons, List.length_nil]
        omega
      · have hi := hb i g1 h2
        unfold firstS lastS
        rw [if_pos (by omega), if_pos (by omega), w64_of (n := i + 1) (by omega)]
        refine back' ((), i + 1, out' ++ [(VCal.ufirst u i, VCal.ulast u i)]) ⟨by dsimp only; omega, by dsimp only; omega, ?_⟩ (by dsimp only; omega)
        rw [upTo_cons h2] at g3
        exact Fill.step g3 h3
      · exact back ((), (k : Int) + 1, out') ⟨k + 1, by simp, hk', Fill.full g3 h3⟩ (by dsimp only; omega)
      · rw [upTo_nil (by omega)] at g3
        exact back ((), (k : Int) + 1, out') ⟨k + 1, by simp, hk', g3⟩ (by dsimp only; omega)
    · have e : unitPairs u (r :: s.drop (k + 1)) = (upTo r.1 r.2).map (fun i => (VCal.ufirst u i, VCal.ulast u i)) ++ unitPairs u (s.drop (k + 1)) := by
        unfold unitPairs nums
        rw [List.flatMap_cons, List.map_append]
      rw [e] at hf
      exact hf
  · rw [List.drop_eq_nil_of_le (by omega)] at hf
    exact Fill.done hf

theorem ok_leaf_span_pairs {n : Int} {a b : Runs} (hla : a.length ≤ 1000000000) (hlb : b.length ≤ 1000000000) (ha : Sane a) (hb : Sane b) (hn : n ≤ 1000) : FnE bs n_leaf_span_pairs ((Shape.pair sLeafSpan (.int .i64)).compsE ((a, b), n)) (.slice sRun) (· = (spanPairs a b).take n.toNat) := by
  refine ok_of (e_leaf_span_pairs ((a, b), n) _) rfl ?_
  unfold c_leaf_span_pairs
  let one : Int → Runs → List (Int × Int) := fun s bs => bs.flatMap fun r => (upTo (max r.1 s) r.2).map fun t => (s, t)
  refine loopP_of (fun z : Unit × Int × List (Int × Int) => ∃ k : Nat, z.2.1 = k ∧ k ≤ a.length ∧ Fill (spanPairs a b) n z.2.2 (spanPairs (a.drop k) b)) (fun z => a.length - z.2.1.toNat) ?_ ⟨0, rfl, Nat.zero_le _, Fill.start⟩
  intro z A ⟨k, e1, hk, hf⟩ back
  obtain ⟨_, zk, out⟩ := z
  dsimp only [Shape.Val] at *
  subst e1
  refine cond_dec (fun h1 => ⟨⟨by omega, h1⟩, ?_⟩) fun h1 => ?_
  · have hk' : k < a.length := by omega
    have hg := List.getElem?_eq_getElem hk'
    generalize a[k] = r at hg
    have hr := Sane.bounds ha r (List.mem_of_getElem? hg)
    unfold Lim at hr
    rw [toNat_ofNat, rd_of (s := sRun) hg, w64_of (n := (k : Int) + 1) (by omega)]
    rw [drop_cons hg] at hf
    refine loopP_of (fun z : Unit × Int × List (Int × Int) => r.1 ≤ z.2.1 ∧ z.2.1 ≤ r.2 + 1 ∧ Fill (spanPairs a b) n z.2.2 ((upTo z.2.1 r.2).flatMap (fun s => one s b) ++ spanPairs (a.drop (k + 1)) b)) (fun z => (r.2 + 1 - z.2.1).toNat) ?_ ⟨by dsimp only; omega, by dsimp only; omega, ?_⟩
    · intro z A' ⟨g1, g2, g3⟩ back'
      obtain ⟨_, i, out'⟩ := z
      dsimp only [Shape.Val] at *
      refine cond_dec (fun h2 => cond_dec (fun h3 => ?_) fun h3 => ?_) fun h2 => ?_
      · rw [upTo_cons h2, List.flatMap_cons, List.append_assoc] at g3
        rw [w64_of (n := i + 1) (by omega)]
        refine loopP_of (fun z : Unit × Int × List (Int × Int) => ∃ j : Nat, z.2.1 = j ∧ j ≤ b.length ∧ Fill (spanPairs a b) n z.2.2 (one i (b.drop j) ++ ((upTo (i + 1) r.2).flatMap (fun s => one s b) ++ spanPairs (a.drop (k + 1)) b))) (fun z => b.length - z.2.1.toNat) ?_ ⟨0, rfl, Nat.zero_le _, g3⟩
        intro z A2 ⟨j, e2, hj, f3⟩ back2
        obtain ⟨_, zj, out2⟩ := z
        dsimp only [Shape.Val] at *
        subst e2
        refine cond_dec (fun h4 => ⟨⟨by omega, h4⟩, ?_⟩) fun h4 => ?_
        · have hj' : j < b.length := by omega
          have hq := List.getElem?_eq_getElem hj'
          generalize b[j] = q at hq
          have hqb := Sane.bounds hb q (List.mem_of_getElem? hq)
          unfold Lim at hqb
          rw [toNat_ofNat, rd_of (s := sRun) hq, w64_of (n := (j : Int) + 1) (by omega)]
          have hmax : maxI q.1 i = max q.1 i := by unfold maxI; split <;> omega
          rw [hmax]
          rw [drop_cons hq] at f3
          have e5 : one i (q :: b.drop (j + 1)) = (upTo (max q.1 i) q.2).map (fun t => (i, t)) ++ one i (b.drop (j + 1)) := List.flatMap_cons ..
          rw [e5, List.append_assoc] at f3
          refine loopP_of (fun z : Unit × Int × List (Int × Int) => -1099511627776 ≤ z.2.1 ∧ z.2.1 ≤ 1099511627777 ∧ Fill (spanPairs a b) n z.2.2 ((upTo z.2.1 q.2).map (fun t => (i, t)) ++ (one i (b.drop (j + 1)) ++ ((upTo (i + 1) r.2).flatMap (fun s => one s b) ++ spanPairs (a.drop (k + 1)) b)))) (fun z => (q.2 + 1 - z.2.1).toNat) ?_ ⟨by dsimp only; omega, by dsimp only; omega, f3⟩
          intro z A3 ⟨c1, c2, c3⟩ back3
          obtain ⟨_, t, out3⟩ := z
          dsimp only [Shape.Val] at *
          refine cond_dec (fun h5 => cond_dec (fun h6 => ⟨?_, ?_⟩) fun h6 => ?_) fun h5 => ?_
          · have := c3.1
            simp only [List.length_cons, List.length_nil]
            omega
          · rw [w64_of (n := t + 1) (by omega)]
            refine back3 ((), t + 1, out3 ++ [(i, t)]) ⟨by dsimp only; omega, by dsimp only; omega, ?_⟩ (by dsimp only; omega)
            rw [upTo_cons h5] at c3
            exact Fill.step c3 h6
          · exact back2 ((), (j : Int) + 1, out3) ⟨j + 1, by simp, hj', Fill.full c3 h6⟩ (by dsimp only; omega)
          · rw [upTo_nil (by omega)] at c3
            exact back2 ((), (j : Int) + 1, out3) ⟨j + 1, by simp, hj', c3⟩ (by dsimp only; omega)
        · rw [List.drop_eq_nil_of_le (by omega)] at f3
          exact back' ((), i + 1, out2) ⟨by dsimp only; omega, by dsimp only; omega, f3⟩ (by dsimp only; omega)
      · exact back ((), (k : Int) + 1, out') ⟨k + 1, by simp, hk', Fill.full g3 h3⟩ (by dsimp only; omega)
      · rw [upTo_nil (by omega)] at g3
        exact back ((), (k : Int) + 1, out') ⟨k + 1, by simp, hk', g3⟩ (by dsimp only; omega)
    · have e : spanPairs (r :: a.drop (k + 1)) b = (upTo r.1 r.2).flatMap (fun s => one s b) ++ spanPairs (a.drop (k + 1)) b := by
        unfold spanPairs nums
        rw [List.flatMap_cons, List.flatMap_append]
      rw [e] at hf
      exact hf
  · rw [List.drop_eq_nil_of_le (by omega)] at hf
    exact Fill.done hf

theorem ok_leaf_Pairs {f : Leaf} {n : Int} (hla : f.2.2.1.length ≤ 1000000000) (hlb : f.2.2.2.length ≤ 1000000000) : FnE bs n_leaf_Pairs ((Shape.pair sApiLeaf (.int .i64)).compsE (f, n)) (.slice sRun) (· = pairsF f n) := by
  refine ok_of (e_leaf_Pairs (f, n) _) rfl ?_
  unfold c_leaf_Pairs pairsF
  refine callP_eq (ok_leaf_of (f := f) hla hlb) ?_
  have hmin : minI n 1000 = min n 1000 := by unfold minI; split <;> omega
  dsimp only
  rw [hmin]
  cases ho : ofF f with
  | none => exact cond_yes rfl (by rw [show famPairs none = [] from rfl, List.take_nil])
  | some x =>
    cases x with
    | inl y =>
      obtain ⟨u, s⟩ := y
      obtain ⟨h1, h2, h3, h4, h5, h6, h7⟩ := of_units ho
      exact callP_eq (ok_leaf_units_pairs (by rw [h4]; exact hla) h6 (by omega)) rfl
    | inr y =>
      obtain ⟨a, b⟩ := y
      obtain ⟨h1, h2, h3, h4, h5, h6, h7, e1, e2⟩ := of_span ho
      obtain ⟨sa, sb, na, nb, _⟩ := span_ends ho
      have la : a.length ≤ 1000000000 := by rw [e1]; exact Nat.le_trans (clip_length _ _ _) hla
      have lb : b.length ≤ 1000000000 := by rw [e2]; exact Nat.le_trans (clip_length _ _ _) hlb
      exact callP_eq (ok_leaf_span_pairs la lb sa sb (by omega)) rfl
end Go.Proofs.YtjeoelajkncpcaaDoor.V
