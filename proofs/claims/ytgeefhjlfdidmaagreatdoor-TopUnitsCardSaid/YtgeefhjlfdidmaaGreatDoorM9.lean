/- The calculus of the program's functions and their contracts, part 9. No condition of its own. -/
import Derived.Test.YtgeefhjlfdidmaaGreatDoorM8
import Derived.RangeFuncBound
import Derived.RangeFuncCalls
import Derived.Shelf.Abstract
import Derived.Shelf.RegionOpen
import Derived.WalkKit
import Derived.OwnWalkIn
import Derived.TacticsInMore
import Derived.LoopNIn
import Derived.LoopIn


/- Sorting runs, the third part: what the program's functions answer. No condition of its own. -/
namespace Go.Proofs.YtgeefhjlfdidmaaGreatDoor.V
open Go
set_option linter.unusedVariables false
set_option linter.unusedSimpArgs false

/-! ### The scans of a partition -/

theorem scan_up {D : List PR} {a i : Nat} {j : Int} {k : Int → Prop} (ha : a < D.length) (hj : j < D.length) (hl : D.length < 100000000000) (hi : i < 100000000001)
    (h : ∀ i' : Nat, i ≤ i' → (i' = i ∨ (i' : Int) ≤ j + 1) → (∀ t, i ≤ t → t < i' → ky D t < ky D a) → (j < i' ∨ ¬ ky D i' < ky D a) → k i') :
    loopP (S := Int) (fun z back => cond (decide (z ≤ j)) (chk ((0 : Int) ≤ z ∧ z < (D.length : Int)) (chk ((0 : Int) ≤ (a : Int) ∧ (a : Int) < (D.length : Int)) (gcall G (((rd sRun D z.toNat).1, (rd sRun D z.toNat).2), (rd sRun D (a : Int).toNat).1, (rd sRun D (a : Int).toNat).2) (fun r => cond (decide (r < (0 : Int))) (back (w64 (z + (1 : Int)))) (k z))))) (k z)) (i : Int) := by
  refine loopP_of (fun z : Int => ∃ i' : Nat, z = i' ∧ i ≤ i' ∧ (i' = i ∨ (i' : Int) ≤ j + 1) ∧ ∀ t, i ≤ t → t < i' → ky D t < ky D a) (fun z => (j + 1 - z).toNat) ?_ ⟨i, rfl, Nat.le_refl _, .inl rfl, fun t h1 h2 => by omega⟩
  rintro _ A ⟨i', rfl, h1, h2, h3⟩ back
  refine cond_dec (fun q => ?_) fun q => h i' h1 h2 h3 (.inl (by have q : ¬ (i' : Int) ≤ j := q; omega))
  have q : (i' : Int) ≤ j := q
  refine ⟨⟨by omega, by omega⟩, ⟨by omega, by omega⟩, gcall_eq rfl (cond_cmp (fun hc => ?_) fun hc => h i' h1 h2 h3 (.inr hc))⟩
  have hc : ky D i' < ky D a := hc
  rw [w_succ (by omega)]
  refine back _ ⟨i' + 1, rfl, by omega, by omega, fun t t1 t2 => ?_⟩ (by omega)
  by_cases e : t = i'
  · subst e; exact hc
  · exact h3 t t1 (by omega)

theorem scan_dn {D : List PR} {a i : Nat} {j : Int} {k : Int → Prop} (ha : a < D.length) (hj : j < D.length) (hj0 : -1 ≤ j) (hl : D.length < 100000000000) (hi : 1 ≤ i)
    (h : ∀ j' : Int, j' ≤ j → (j' = j ∨ (i : Int) ≤ j' + 1) → (∀ t : Nat, j' < t → (t : Int) ≤ j → ¬ ky D t < ky D a) → (j' < i ∨ ky D j'.toNat < ky D a) → k j') :
    loopP (S := Int) (fun z back => cond (decide ((i : Int) ≤ z)) (chk ((0 : Int) ≤ z ∧ z < (D.length : Int)) (chk ((0 : Int) ≤ (a : Int) ∧ (a : Int) < (D.length : Int)) (gcall G (((rd sRun D z.toNat).1, (rd sRun D z.toNat).2), (rd sRun D (a : Int).toNat).1, (rd sRun D (a : Int).toNat).2) (fun r => cond (!decide (r < (0 : Int))) (back (w64 (z - (1 : Int)))) (k z))))) (k z)) j := by
  refine loopP_of (fun z : Int => z ≤ j ∧ (z = j ∨ (i : Int) ≤ z + 1) ∧ ∀ t : Nat, z < t → (t : Int) ≤ j → ¬ ky D t < ky D a) (fun z => (z + 1).toNat) ?_ ⟨Int.le_refl _, .inl rfl, fun t h1 h2 => by omega⟩
  rintro z A ⟨h1, h2, h3⟩ back
  refine cond_dec (fun q => ?_) fun q => h z h1 h2 h3 (.inl (by have q : ¬ (i : Int) ≤ z := q; omega))
  have q : (i : Int) ≤ z := q
  refine ⟨⟨by omega, by omega⟩, ⟨by omega, by omega⟩, gcall_eq rfl (cond_ncmp (fun hc => ?_) fun hc => h z h1 h2 h3 (.inr hc))⟩
  have hc : ¬ ky D z.toNat < ky D a := hc
  rw [w64_of (n := z - 1) (by omega)]
  refine back _ ⟨by omega, by omega, fun t t1 t2 => ?_⟩ (by omega)
  by_cases e : (t : Int) = z
  · rw [show t = z.toNat by omega]; exact hc
  · exact h3 t (by omega) t2

theorem scan_up2 {D : List PR} {a i : Nat} {j : Int} {k : Int → Prop} (ha : a < D.length) (hj : j < D.length) (hl : D.length < 100000000000) (hi : i < 100000000001)
    (h : ∀ i' : Nat, i ≤ i' → (i' = i ∨ (i' : Int) ≤ j + 1) → (∀ t, i ≤ t → t < i' → ¬ ky D a < ky D t) → (j < i' ∨ ky D a < ky D i') → k i') :
    loopP (S := Int) (fun z back => cond (decide (z ≤ j)) (chk ((0 : Int) ≤ (a : Int) ∧ (a : Int) < (D.length : Int)) (chk ((0 : Int) ≤ z ∧ z < (D.length : Int)) (gcall G (((rd sRun D (a : Int).toNat).1, (rd sRun D (a : Int).toNat).2), (rd sRun D z.toNat).1, (rd sRun D z.toNat).2) (fun r => cond (!decide (r < (0 : Int))) (back (w64 (z + (1 : Int)))) (k z))))) (k z)) (i : Int) := by
  refine loopP_of (fun z : Int => ∃ i' : Nat, z = i' ∧ i ≤ i' ∧ (i' = i ∨ (i' : Int) ≤ j + 1) ∧ ∀ t, i ≤ t → t < i' → ¬ ky D a < ky D t) (fun z => (j + 1 - z).toNat) ?_ ⟨i, rfl, Nat.le_refl _, .inl rfl, fun t h1 h2 => by omega⟩
  rintro _ A ⟨i', rfl, h1, h2, h3⟩ back
  refine cond_dec (fun q => ?_) fun q => h i' h1 h2 h3 (.inl (by have q : ¬ (i' : Int) ≤ j := q; omega))
  have q : (i' : Int) ≤ j := q
  refine ⟨⟨by omega, by omega⟩, ⟨by omega, by omega⟩, gcall_eq rfl (cond_ncmp (fun hc => ?_) fun hc => h i' h1 h2 h3 (.inr hc))⟩
  have hc : ¬ ky D a < ky D i' := hc
  rw [w_succ (by omega)]
  refine back _ ⟨i' + 1, rfl, by omega, by omega, fun t t1 t2 => ?_⟩ (by omega)
  by_cases e : t = i'
  · subst e; exact hc
  · exact h3 t t1 (by omega)

theorem scan_dn2 {D : List PR} {a i : Nat} {j : Int} {k : Int → Prop} (ha : a < D.length) (hj : j < D.length) (hj0 : -1 ≤ j) (hl : D.length < 100000000000) (hi : 1 ≤ i)
    (h : ∀ j' : Int, j' ≤ j → (j' = j ∨ (i : Int) ≤ j' + 1) → (∀ t : Nat, j' < t → (t : Int) ≤ j → ky D a < ky D t) → (j' < i ∨ ¬ ky D a < ky D j'.toNat) → k j') :
    loopP (S := Int) (fun z back => cond (decide ((i : Int) ≤ z)) (chk ((0 : Int) ≤ (a : Int) ∧ (a : Int) < (D.length : Int)) (chk ((0 : Int) ≤ z ∧ z < (D.length : Int)) (gcall G (((rd sRun D (a : Int).toNat).1, (rd sRun D (a : Int).toNat).2), (rd sRun D z.toNat).1, (rd sRun D z.toNat).2) (fun r => cond (decide (r < (0 : Int))) (back (w64 (z - (1 : Int)))) (k z))))) (k z)) j := by
  refine loopP_of (fun z : Int => z ≤ j ∧ (z = j ∨ (i : Int) ≤ z + 1) ∧ ∀ t : Nat, z < t → (t : Int) ≤ j → ky D a < ky D t) (fun z => (z + 1).toNat) ?_ ⟨Int.le_refl _, .inl rfl, fun t h1 h2 => by omega⟩
  rintro z A ⟨h1, h2, h3⟩ back
  refine cond_dec (fun q => ?_) fun q => h z h1 h2 h3 (.inl (by have q : ¬ (i : Int) ≤ z := q; omega))
  have q : (i : Int) ≤ z := q
  refine ⟨⟨by omega, by omega⟩, ⟨by omega, by omega⟩, gcall_eq rfl (cond_cmp (fun hc => ?_) fun hc => h z h1 h2 h3 (.inr hc))⟩
  have hc : ky D a < ky D z.toNat := hc
  rw [w64_of (n := z - 1) (by omega)]
  refine back _ ⟨by omega, by omega, fun t t1 t2 => ?_⟩ (by omega)
  by_cases e : (t : Int) = z
  · rw [show t = z.toNat by omega]; exact hc
  · exact h3 t (by omega) t2

theorem ok_partitionEqual {xs : List PR} {a b p : Nat} (hap : a ≤ p) (hpb : p < b) (hb : b ≤ xs.length) (hl : xs.length < 100000000000) :
    FnM bs n_slices_partitionEqualCmpFunc (insAt 0 (.row 0 0) ((Shape.pair (.int .i64) (.pair (.int .i64) (.pair (.int .i64) (.func (.pair sRun sRun) (.int .i64))))).compsE ((a : Int), (b : Int), (p : Int), G))) (b_slices_partitionEqualCmpFunc xs) (.int .i64)
      (fun r ys => ∃ m : Nat, r = m ∧ a < m ∧ m ≤ b ∧ Sw a b xs ys ∧ (∀ t, a ≤ t → t < m → ky ys t ≤ ky xs p) ∧ ∀ t, m ≤ t → t < b → ky xs p < ky ys t) := by
  refine okM_of (e_slices_partitionEqualCmpFunc xs ((a : Int), (b : Int), (p : Int), G) _) rfl (HanOK.none rfl rfl) ?_
  unfold c_slices_partitionEqualCmpFunc
  dsimp only
  rw [w_succ (by omega), w64_of (n := (b : Int) - 1) (by omega)]
  refine ⟨⟨by omega, by omega⟩, ⟨by omega, by omega⟩, ⟨by omega, by omega⟩, ⟨by omega, by rw [List.length_set]; omega⟩, ?_⟩
  refine loopP_of (fun z : Int × Int × List PR => ∃ i : Nat, z.1 = i ∧ a + 1 ≤ i ∧ (i : Int) ≤ z.2.1 + 1 ∧ z.2.1 < b ∧ Sw a b xs z.2.2 ∧ ky z.2.2 a = ky xs p ∧ (∀ t, a ≤ t → t < i → ky z.2.2 t ≤ ky xs p) ∧ ∀ t : Nat, z.2.1 < t → t < b → ky xs p < ky z.2.2 t) (fun z => b - z.1.toNat) ?_ ⟨a + 1, rfl, Nat.le_refl _, by dsimp only; omega, by dsimp only; omega, ?_, ?_, ?_, fun t t1 t2 => by dsimp only at t1; omega⟩
  · rintro ⟨_, j, ys⟩ A ⟨i, e1, g1, g2, g3, g4, g5, g6, g7⟩ back
    dsimp only at e1 g2 g3 g4 g5 g6 g7 ⊢
    subst e1
    have hlen := g4.length
    refine join_of (fun z : Int => ∃ i' : Nat, z = i' ∧ i ≤ i' ∧ (i' : Int) ≤ j + 1 ∧ (∀ t, a ≤ t → t < i' → ky ys t ≤ ky xs p) ∧ (j < i' ∨ ky ys a < ky ys i')) (fun J hJ => scan_up2 (by omega) (by omega) (by omega) (by omega) fun i' h1 h2 h3 h4 => hJ _ ⟨i', rfl, h1, by omega, fun t t1 t2 => ?_, h4⟩) fun z => ?_
    · by_cases e : t < i
      · exact g6 t t1 e
      · have := h3 t (by omega) t2; omega
    · rintro ⟨i', rfl, h1, h2, h3, h4⟩
      refine join_of (fun z : Int => z ≤ j ∧ (i' : Int) ≤ z + 1 ∧ (∀ t : Nat, z < t → t < b → ky xs p < ky ys t) ∧ (z < i' ∨ ¬ ky ys a < ky ys z.toNat)) (fun J hJ => scan_dn2 (by omega) (by omega) (by omega) (by omega) (by omega) fun j' q1 q2 q3 q4 => hJ _ ⟨q1, by omega, fun t t1 t2 => ?_, q4⟩) fun z => ?_
      · by_cases e : j < t
        · exact g7 t e t2
        · have := q3 t t1 (by omega); omega
      · rintro ⟨q1, q2, q3, q4⟩
        refine cond_dec (fun hz => ?_) fun hz => ?_
        · have hz : z < (i' : Int) := hz
          exact ⟨i', rfl, by omega, by omega, g4, h3, fun t t1 t2 => q3 t (by omega) t2⟩
        · have hz : ¬ z < (i' : Int) := hz
          obtain ⟨j', rfl⟩ := Int.eq_ofNat_of_zero_le (show 0 ≤ z by omega)
          have hne : i' ≠ j' := fun e => by
            subst e
            rcases h4 with h4 | h4
            · omega
            · rcases q4 with q4 | q4
              · omega
              · exact q4 h4
          rw [w_succ (by omega), w64_of (n := (j' : Int) - 1) (by omega)]
          refine ⟨⟨by omega, by omega⟩, ⟨by omega, by omega⟩, ⟨by omega, by omega⟩, ⟨by omega, by rw [List.length_set]; omega⟩, ?_⟩
          have hk : ∀ k, ky (sw ys i' j') k = if k = j' then ky ys i' else if k = i' then ky ys j' else ky ys k := fun k => ky_sw (by omega) (by omega)
          refine back (((i' + 1 : Nat) : Int), (j' : Int) - 1, sw ys i' j') ⟨i' + 1, rfl, by omega, by dsimp only; omega, by dsimp only; omega, .step _ _ g4 (by omega) (by omega) (by omega) (by omega) hb, ?_, fun t t1 t2 => ?_, fun t t1 t2 => ?_⟩ (by dsimp only; omega) <;> dsimp only at * <;> rw [hk]
          · rw [if_neg (by omega), if_neg (by omega)]; exact g5
          · rw [if_neg (by omega)]
            by_cases e : t = i'
            · rw [if_pos e]
              rcases q4 with q4 | q4
              · omega
              · rw [Int.toNat_natCast] at q4; omega
            · rw [if_neg e]; exact h3 t t1 (by omega)
          · by_cases e : t = j'
            · rw [if_pos e]
              rcases h4 with h4 | h4
              · omega
              · omega
            · rw [if_neg e, if_neg (by omega)]
              exact q3 t (by omega) t2
  · exact .step a p .refl (by omega) (by omega) (by omega) (by omega) hb
  · show ky (sw xs a p) a = ky xs p
    rw [ky_sw (by omega) (by omega)]
    by_cases e : a = p
    · rw [if_pos e, e]
    · rw [if_neg e, if_pos rfl]
  · intro t t1 t2
    have : t = a := by omega
    subst this
    show ky (sw xs t p) t ≤ ky xs p
    rw [ky_sw (by omega) (by omega)]
    by_cases e : t = p
    · rw [if_pos e, e]; exact Int.le_refl _
    · rw [if_neg e, if_pos rfl]; exact Int.le_refl _

theorem ok_partition {xs : List PR} {a b p : Nat} (hap : a ≤ p) (hpb : p < b) (hb : b ≤ xs.length) (hl : xs.length < 100000000000) :
    FnM bs n_slices_partitionCmpFunc (insAt 0 (.row 0 0) ((Shape.pair (.int .i64) (.pair (.int .i64) (.pair (.int .i64) (.func (.pair sRun sRun) (.int .i64))))).compsE ((a : Int), (b : Int), (p : Int), G))) (b_slices_partitionCmpFunc xs) (.tup (.pair (.int .i64) .bool))
      (fun r ys => ∃ m : Nat, r.1 = m ∧ a ≤ m ∧ m < b ∧ Sw a b xs ys ∧ (∀ t, a ≤ t → t < m → ky ys t ≤ ky ys m) ∧ ∀ t, m < t → t < b → ky ys m ≤ ky ys t) := by
  refine okM_of (e_slices_partitionCmpFunc xs ((a : Int), (b : Int), (p : Int), G) _) rfl (HanOK.none rfl rfl) ?_
  unfold c_slices_partitionCmpFunc
  dsimp only
  rw [w_succ (by omega), w64_of (n := (b : Int) - 1) (by omega)]
  refine ⟨⟨by omega, by omega⟩, ⟨by omega, by omega⟩, ⟨by omega, by omega⟩, ⟨by omega, by rw [List.length_set]; omega⟩, ?_⟩
  have hD : Sw a b xs (sw xs a p) := .step a p .refl (by omega) (by omega) (by omega) (by omega) hb
  have hDl := hD.length
  -- the end: the pivot is laid where the lesser ones end
  have fin : ∀ (ys : List PR) (j : Nat) (al : Bool), Sw a b xs ys → a ≤ j → j < b → (∀ t, a + 1 ≤ t → t ≤ j → ky ys t < ky ys a) → (∀ t, j < t → t < b → ¬ ky ys t < ky ys a) →
      ∃ m : Nat, (((j : Int), al) : Int × Bool).1 = m ∧ a ≤ m ∧ m < b ∧ Sw a b xs (sw ys j a) ∧ (∀ t, a ≤ t → t < m → ky (sw ys j a) t ≤ ky (sw ys j a) m) ∧ ∀ t, m < t → t < b → ky (sw ys j a) m ≤ ky (sw ys j a) t := by
    intro ys j al h1 h2 h3 h4 h5
    have hlen := h1.length
    have hk : ∀ k, ky (sw ys j a) k = if k = a then ky ys j else if k = j then ky ys a else ky ys k := fun k => ky_sw (by omega) (by omega)
    have hm : ky (sw ys j a) j = ky ys a := by
      rw [hk]
      by_cases e : j = a
      · rw [if_pos e, e]
      · rw [if_neg e, if_pos rfl]
    refine ⟨j, rfl, h2, h3, .step _ _ h1 (by omega) (by omega) (by omega) (by omega) hb, fun t t1 t2 => ?_, fun t t1 t2 => ?_⟩ <;> rw [hm, hk]
    · by_cases e : t = a
      · rw [if_pos e]; have := h4 j (by omega) (Nat.le_refl _); omega
      · rw [if_neg e, if_neg (by omega)]; have := h4 t (by omega) (by omega); omega
    · rw [if_neg (by omega), if_neg (by omega)]; have := h5 t t1 t2; omega
  refine join_of (fun z : Int => ∃ i : Nat, z = i ∧ a + 1 ≤ i ∧ (i : Int) ≤ (b : Int) - 1 + 1 ∧ (∀ t, a + 1 ≤ t → t < i → ky (sw xs a p) t < ky (sw xs a p) a) ∧ ((b : Int) - 1 < i ∨ ¬ ky (sw xs a p) i < ky (sw xs a p) a)) (fun J hJ => scan_up (D := sw xs a p) (by omega) (by omega) (by omega) (by omega) fun i' h1 h2 h3 h4 => hJ _ ⟨i', rfl, h1, by omega, h3, h4⟩) fun z => ?_
  rintro ⟨i, rfl, h1, h2, h3, h4⟩
  refine join_of (fun z : Int => z ≤ (b : Int) - 1 ∧ (i : Int) ≤ z + 1 ∧ (∀ t : Nat, z < t → t < b → ¬ ky (sw xs a p) t < ky (sw xs a p) a) ∧ (z < i ∨ ky (sw xs a p) z.toNat < ky (sw xs a p) a)) (fun J hJ => scan_dn (D := sw xs a p) (by omega) (by omega) (by omega) (by omega) (by omega) fun j' q1 q2 q3 q4 => hJ _ ⟨q1, by omega, fun t t1 t2 => q3 t t1 (by omega), q4⟩) fun z => ?_
  rintro ⟨q1, q2, q3, q4⟩
  obtain ⟨j, rfl⟩ := Int.eq_ofNat_of_zero_le (show 0 ≤ z by omega)
  have hDl2 : ((xs.set (a : Int).toNat ((rd sRun xs (p : Int).toNat).1, (rd sRun xs (p : Int).toNat).2)).set (p : Int).toNat ((rd sRun xs (a : Int).toNat).1, (rd sRun xs (a : Int).toNat).2)).length = xs.length := by simp
  refine cond_dec (fun hz => ?_) fun hz => ?_
  · have hz : (j : Int) < (i : Int) := hz
    refine ⟨⟨by omega, by omega⟩, ⟨by omega, by omega⟩, ⟨by omega, by omega⟩, ⟨by omega, by rw [List.length_set]; omega⟩, ?_⟩
    exact fin (sw xs a p) j true hD (by omega) (by omega) (fun t t1 t2 => h3 t t1 (by omega)) (fun t t1 t2 => q3 t (by omega) t2)
  · have hz : ¬ (j : Int) < (i : Int) := hz
    have hne : i ≠ j := fun e => by
      subst e
      rcases h4 with h4 | h4
      · omega
      · rcases q4 with q4 | q4
        · omega
        · exact h4 q4
    rw [w_succ (by omega), w64_of (n := (j : Int) - 1) (by omega)]
    refine ⟨⟨by omega, by omega⟩, ⟨by omega, by omega⟩, ⟨by omega, by omega⟩, ⟨by omega, by rw [List.length_set]; omega⟩, ?_⟩
    have step : ∀ (ys : List PR) (i j : Nat), Sw a b xs ys → a + 1 ≤ i → i < j → j < b → (∀ t, a + 1 ≤ t → t < i → ky ys t < ky ys a) → ¬ ky ys i < ky ys a → (∀ t : Nat, j < t → t < b → ¬ ky ys t < ky ys a) → ky ys j < ky ys a →
        Sw a b xs (sw ys i j) ∧ (∀ t, a + 1 ≤ t → t < i + 1 → ky (sw ys i j) t < ky (sw ys i j) a) ∧ ∀ t : Nat, (j : Int) - 1 < t → t < b → ¬ ky (sw ys i j) t < ky (sw ys i j) a := by
      intro ys i j g1 g2 g3 g4 g5 g6 g7 g8
      have hlen := g1.length
      have hk : ∀ k, ky (sw ys i j) k = if k = j then ky ys i else if k = i then ky ys j else ky ys k := fun k => ky_sw (by omega) (by omega)
      have ha : ky (sw ys i j) a = ky ys a := by rw [hk, if_neg (by omega), if_neg (by omega)]
      refine ⟨.step _ _ g1 (by omega) (by omega) (by omega) (by omega) hb, fun t t1 t2 => ?_, fun t t1 t2 => ?_⟩ <;> rw [ha, hk]
      · rw [if_neg (by omega)]
        by_cases e : t = i
        · rw [if_pos e]; exact g8
        · rw [if_neg e]; exact g5 t t1 (by omega)
      · by_cases e : t = j
        · rw [if_pos e]; exact g6
        · rw [if_neg e, if_neg (by omega)]; exact g7 t (by omega) t2
    have hi4 : ¬ ky (sw xs a p) i < ky (sw xs a p) a := by
      rcases h4 with h4 | h4
      · omega
      · exact h4
    have hj4 : ky (sw xs a p) j < ky (sw xs a p) a := by
      rcases q4 with q4 | q4
      · omega
      · exact q4
    have st0 := step (sw xs a p) i j hD h1 (by omega) (by omega) h3 hi4 (fun t t1 t2 => q3 t (by omega) t2) hj4
    refine join_of (fun z : Int × List PR => ∃ j : Nat, z.1 = j ∧ a ≤ j ∧ j < b ∧ Sw a b xs z.2 ∧ (∀ t, a + 1 ≤ t → t ≤ j → ky z.2 t < ky z.2 a) ∧ ∀ t, j < t → t < b → ¬ ky z.2 t < ky z.2 a) (fun J hJ => ?_) fun z => ?_
    · refine loopP_of (fun z : Int × Int × List PR => ∃ i : Nat, z.1 = i ∧ a + 1 ≤ i ∧ (i : Int) ≤ z.2.1 + 1 ∧ z.2.1 < b ∧ Sw a b xs z.2.2 ∧ (∀ t, a + 1 ≤ t → t < i → ky z.2.2 t < ky z.2.2 a) ∧ ∀ t : Nat, z.2.1 < t → t < b → ¬ ky z.2.2 t < ky z.2.2 a) (fun z => b - z.1.toNat) ?_ ⟨i + 1, rfl, by omega, by dsimp only; omega, by dsimp only; omega, st0.1, st0.2.1, st0.2.2⟩
      rintro ⟨_, j, ys⟩ A ⟨i, e1, g1, g2, g3, g4, g5, g6⟩ back
      dsimp only at e1 g2 g3 g4 g5 g6 ⊢
      subst e1
      have hlen := g4.length
      refine join_of (fun z : Int => ∃ i' : Nat, z = i' ∧ i ≤ i' ∧ (i' : Int) ≤ j + 1 ∧ (∀ t, a + 1 ≤ t → t < i' → ky ys t < ky ys a) ∧ (j < i' ∨ ¬ ky ys i' < ky ys a)) (fun J hJ => scan_up (D := ys) (by omega) (by omega) (by omega) (by omega) fun i' h1 h2 h3 h4 => hJ _ ⟨i', rfl, h1, by omega, fun t t1 t2 => ?_, h4⟩) fun z => ?_
      · by_cases e : t < i
        · exact g5 t t1 e
        · exact h3 t (by omega) t2
      · rintro ⟨i', rfl, h1, h2, h3, h4⟩
        refine join_of (fun z : Int => z ≤ j ∧ (i' : Int) ≤ z + 1 ∧ (∀ t : Nat, z < t → t < b → ¬ ky ys t < ky ys a) ∧ (z < i' ∨ ky ys z.toNat < ky ys a)) (fun J hJ => scan_dn (D := ys) (by omega) (by omega) (by omega) (by omega) (by omega) fun j' q1 q2 q3 q4 => hJ _ ⟨q1, by omega, fun t t1 t2 => ?_, q4⟩) fun z => ?_
        · by_cases e : j < t
          · exact g6 t e t2
          · exact q3 t t1 (by omega)
        · rintro ⟨q1, q2, q3, q4⟩
          obtain ⟨j', rfl⟩ := Int.eq_ofNat_of_zero_le (show 0 ≤ z by omega)
          refine cond_dec (fun hz => ?_) fun hz => ?_
          · have hz : (j' : Int) < (i' : Int) := hz
            exact hJ _ ⟨j', rfl, by omega, by omega, g4, fun t t1 t2 => h3 t t1 (by omega), fun t t1 t2 => q3 t (by omega) t2⟩
          · have hz : ¬ (j' : Int) < (i' : Int) := hz
            have hi4 : ¬ ky ys i' < ky ys a := by
              rcases h4 with h4 | h4
              · omega
              · exact h4
            have hj4 : ky ys j' < ky ys a := by
              rcases q4 with q4 | q4
              · omega
              · exact q4
            have hne : i' ≠ j' := fun e => by subst e; exact hi4 hj4
            rw [w_succ (by omega), w64_of (n := (j' : Int) - 1) (by omega)]
            refine ⟨⟨by omega, by omega⟩, ⟨by omega, by omega⟩, ⟨by omega, by omega⟩, ⟨by omega, by rw [List.length_set]; omega⟩, ?_⟩
            have st := step ys i' j' g4 (by omega) (by omega) (by omega) h3 hi4 (fun t t1 t2 => q3 t (by omega) t2) hj4
            exact back (((i' + 1 : Nat) : Int), (j' : Int) - 1, sw ys i' j') ⟨i' + 1, rfl, by omega, by dsimp only; omega, by dsimp only; omega, st.1, st.2.1, st.2.2⟩ (by dsimp only; omega)
    · obtain ⟨_, ys⟩ := z
      rintro ⟨j, e1, g1, g2, g3, g4, g5⟩
      dsimp only at e1 g3 g4 g5 ⊢
      subst e1
      have hlen := g3.length
      refine ⟨⟨by omega, by omega⟩, ⟨by omega, by omega⟩, ⟨by omega, by omega⟩, ⟨by omega, by rw [List.length_set]; omega⟩, ?_⟩
      exact fin ys j false g3 g1 g2 g4 g5
end Go.Proofs.YtgeefhjlfdidmaaGreatDoor.V


/- Sorting runs, the whole: what the program's functions answer. No condition of its own. -/
namespace Go.Proofs.YtgeefhjlfdidmaaGreatDoor.V
open Go
set_option linter.unusedVariables false
set_option linter.unusedSimpArgs false

theorem ok_partialInsertionSort {xs : List PR} {a b : Nat} (hab : a < b) (hb : b ≤ xs.length) (hl : xs.length < 100000000000) (hP : Pre xs a b) :
    FnM bs n_slices_partialInsertionSortCmpFunc (insAt 0 (.row 0 0) ((Shape.pair (.int .i64) (.pair (.int .i64) (.func (.pair sRun sRun) (.int .i64)))).compsE ((a : Int), (b : Int), G))) (b_slices_partialInsertionSortCmpFunc xs) .bool (fun r ys => Sw a b xs ys ∧ (r = true → Srt ys a b)) := by
  refine okM_of (e_slices_partialInsertionSortCmpFunc xs ((a : Int), (b : Int), G) _) rfl (HanOK.none rfl rfl) ?_
  unfold c_slices_partialInsertionSortCmpFunc
  dsimp only
  rw [w_succ (by omega), w64_of (n := (b : Int) - (a : Int)) (by omega)]
  refine loopP_of (fun z : Int × Int × List PR => ∃ i : Nat, z.1 = i ∧ a + 1 ≤ i ∧ i ≤ b ∧ 0 ≤ z.2.1 ∧ z.2.1 ≤ 5 ∧ Sw a b xs z.2.2 ∧ Srt z.2.2 a i) (fun z => (5 - z.2.1).toNat) ?_ ⟨a + 1, rfl, Nat.le_refl _, hab, by dsimp only; omega, by dsimp only; omega, .refl, Srt.small (Nat.le_refl _)⟩
  rintro ⟨_, st, ys⟩ A ⟨i, e1, g1, g2, g3, g4, g5, g6⟩ back
  dsimp only at e1 g3 g4 g5 g6 ⊢
  subst e1
  have hlen := g5.length
  refine cond_dec (fun hst => ?_) fun _ => ⟨g5, fun e => by cases e⟩
  have hst : st < 5 := hst
  refine join_of (fun z : Int => ∃ i : Nat, z = i ∧ a + 1 ≤ i ∧ i ≤ b ∧ Srt ys a i ∧ (i = b ∨ ky ys i < ky ys (i - 1))) (fun J hJ => ?_) fun z => ?_
  · refine loopP_of (fun z : Int => ∃ i : Nat, z = i ∧ a + 1 ≤ i ∧ i ≤ b ∧ Srt ys a i) (fun z => b - z.toNat) ?_ ⟨i, rfl, g1, g2, g6⟩
    rintro _ A ⟨i, rfl, h1, h2, h3⟩ back
    refine cond_dec (fun hi => ?_) fun hi => hJ _ ⟨i, rfl, h1, h2, h3, .inl (by have hi : ¬ (i : Int) < b := hi; omega)⟩
    have hi : (i : Int) < b := hi
    rw [w_pred (by omega) (by omega), w_succ (by omega)]
    refine ⟨⟨by omega, by omega⟩, ⟨by omega, by omega⟩, gcall_eq rfl (cond_ncmp (fun hc => ?_) fun hc => hJ _ ⟨i, rfl, h1, h2, h3, .inr hc⟩)⟩
    have hc : ¬ ky ys i < ky ys (i - 1) := hc
    refine back _ ⟨i + 1, rfl, by omega, by omega, Srt.of_step fun k k1 k2 => ?_⟩ (by omega)
    by_cases e : k + 1 = i
    · rw [show k = i - 1 by omega, show i - 1 + 1 = i by omega]; omega
    · exact h3 k (k + 1) k1 (by omega) (by omega)
  · rintro ⟨i, rfl, h1, h2, h3, h4⟩
    refine cond_dec (fun hi => ?_) fun hi => ?_
    · have hi : (i : Int) = b := hi
      have : i = b := by omega
      subst this
      exact ⟨g5, fun _ => h3⟩
    · have hi : ¬ (i : Int) = b := hi
      have hlt : ky ys i < ky ys (i - 1) := by
        rcases h4 with h4 | h4
        · omega
        · exact h4
      refine cond_dec (fun _ => ⟨g5, fun e => by cases e⟩) fun _ => ?_
      rw [w_pred (by omega) (by omega), w64_of (n := (i : Int) - (a : Int)) (by omega), w64_of (n := (b : Int) - (i : Int)) (by omega), w_succ (by omega), w64_of (n := st + 1) (by omega)]
      refine ⟨⟨by omega, by omega⟩, ⟨by omega, by omega⟩, ⟨by omega, by omega⟩, ⟨by omega, by rw [List.length_set]; omega⟩, ?_⟩
      have hs1 : Sw a b ys (sw ys i (i - 1)) := .step _ _ .refl (by omega) (by omega) (by omega) (by omega) (by omega)
      have hk : ∀ k, ky (sw ys i (i - 1)) k = if k = i - 1 then ky ys i else if k = i then ky ys (i - 1) else ky ys k := fun k => ky_sw (by omega) (by omega)
      refine join_of (fun zs : List PR => Sw a b ys zs ∧ Srt zs a i) (fun J hJ => cond_dec (fun h2i => ?_) fun h2i => ?_) fun zs => ?_
      · refine loopP_of (fun z : Int × List PR => ∃ j : Nat, z.1 = j ∧ a ≤ j ∧ j + 1 ≤ i ∧ Sw a b ys z.2 ∧ ∀ p q, a ≤ p → p < q → q < i → q ≠ j → ky z.2 p ≤ ky z.2 q) (fun z => z.1.toNat) ?_ ⟨i - 1, rfl, by omega, by omega, hs1, fun p q q1 q2 q3 q4 => ?_⟩
        · rintro ⟨_, zs⟩ A ⟨j, e1, f1, f2, f3, f4⟩ back2
          dsimp only at e1 f3 f4 ⊢
          subst e1
          have hzl := f3.length
          have done : (j = a ∨ ky zs (j - 1) ≤ ky zs j) → J zs := fun hj => by
            refine hJ _ ⟨f3, fun p q q1 q2 q3 => ?_⟩
            by_cases hq : q = j
            · subst hq
              rcases hj with hj | hj
              · omega
              · rcases Nat.lt_or_eq_of_le (show p ≤ q - 1 by omega) with e | e
                · exact Int.le_trans (f4 p (q - 1) q1 e (by omega) (by omega)) hj
                · rw [e]; exact hj
            · exact f4 p q q1 q2 q3 hq
          refine cond_dec (fun hj => ?_) fun hj => done (.inl (by have hj : ¬ (1 : Int) ≤ j := hj; omega))
          have hj : (1 : Int) ≤ j := hj
          rw [w_pred (by omega) (by omega)]
          refine ⟨⟨by omega, by omega⟩, ⟨by omega, by omega⟩, gcall_eq rfl (cond_ncmp (fun hc => ?_) fun hc => ?_)⟩
          · have hc : ¬ ky zs j < ky zs (j - 1) := hc
            exact done (.inr (by omega))
          · have hc : ky zs j < ky zs (j - 1) := hc
            have hja : j ≠ a := fun e => by
              subst e
              rcases (hP.sw g5).sw f3 with h | h
              · omega
              · have := h j (Nat.le_refl _) (by omega); omega
            refine ⟨⟨by omega, by omega⟩, ⟨by omega, by omega⟩, ⟨by omega, by omega⟩, ⟨by omega, by rw [List.length_set]; omega⟩, ?_⟩
            refine back2 (((j - 1 : Nat) : Int), sw zs j (j - 1)) ⟨j - 1, rfl, by omega, by omega, .step _ _ f3 (by omega) (by omega) (by omega) (by omega) (by omega), fun p q q1 q2 q3 q4 => ?_⟩ (by dsimp only; omega)
            dsimp only
            rw [ky_sw (by omega) (by omega), ky_sw (by omega) (by omega)]
            by_cases hqj : q = j
            · subst hqj
              rw [if_neg q4, if_pos rfl]
              by_cases hp : p = q - 1
              · subst hp; rw [if_pos rfl]; omega
              · rw [if_neg hp, if_neg (by omega)]
                exact f4 p (q - 1) q1 (by omega) (by omega) (by omega)
            · rw [if_neg q4, if_neg hqj]
              by_cases hp : p = j - 1
              · subst hp
                rw [if_pos rfl]
                exact f4 j q (by omega) (by omega) q3 hqj
              · rw [if_neg hp]
                by_cases hp2 : p = j
                · subst hp2; rw [if_pos rfl]; exact f4 (p - 1) q (by omega) (by omega) q3 hqj
                · rw [if_neg hp2]; exact f4 p q q1 q2 q3 hqj
        · dsimp only
          show ky (sw ys i (i - 1)) p ≤ ky (sw ys i (i - 1)) q
          rw [hk, hk, if_neg (by omega), if_neg (by omega), if_neg (by omega), if_neg (by omega)]
          exact h3 p q q1 q2 (by omega)
      · have h2i : ¬ (2 : Int) ≤ (i : Int) - a := h2i
        exact hJ _ ⟨hs1, Srt.small (by omega)⟩
      · rintro ⟨f1, f2⟩
        have hzl := f1.length
        have next : ∀ ws : List PR, Sw i b zs ws → A ((i : Int), st + 1, ws) := fun ws hw => by
          refine back ((i : Int), st + 1, ws) ⟨i, rfl, h1, h2, by dsimp only; omega, by dsimp only; omega, (g5.trans f1).trans (hw.wider (by omega) (Nat.le_refl _) (by omega)), fun p q q1 q2 q3 => ?_⟩ (by dsimp only; omega)
          dsimp only
          rw [hw.kyout (.inl (by omega)), hw.kyout (.inl (by omega))]
          exact f2 p q q1 q2 q3
        refine cond_dec (fun h2b => ?_) fun _ => next _ .refl
        refine loopP_of (fun z : Int × List PR => ∃ j : Nat, z.1 = j ∧ i + 1 ≤ j ∧ Sw i b zs z.2) (fun z => b - z.1.toNat) ?_ ⟨i + 1, rfl, Nat.le_refl _, .refl⟩
        rintro ⟨_, ws⟩ A2 ⟨j, e1, k1, k2⟩ back2
        dsimp only at e1 k2 ⊢
        subst e1
        have hwl := k2.length
        refine cond_dec (fun hj => ?_) fun _ => next _ k2
        have hj : (j : Int) < b := hj
        rw [w_pred (by omega) (by omega), w_succ (by omega)]
        refine ⟨⟨by omega, by omega⟩, ⟨by omega, by omega⟩, gcall_eq rfl (cond_ncmp (fun _ => next _ k2) fun _ => ?_)⟩
        refine ⟨⟨by omega, by omega⟩, ⟨by omega, by omega⟩, ⟨by omega, by omega⟩, ⟨by omega, by rw [List.length_set]; omega⟩, ?_⟩
        exact back2 (((j + 1 : Nat) : Int), sw ws j (j - 1)) ⟨j + 1, rfl, by omega, .step _ _ k2 (by omega) (by omega) (by omega) (by omega) (by omega)⟩ (by dsimp only; omega)

theorem ok_pdqsort : ∀ (n : Nat) {xs : List PR} {a b : Nat} {lim : Int}, b - a = n → a ≤ b → b ≤ xs.length → xs.length < 100000000000 → Pre xs a b →
    FnM bs n_slices_pdqsortCmpFunc (insAt 0 (.row 0 0) ((Shape.pair (.int .i64) (.pair (.int .i64) (.pair (.int .i64) (.func (.pair sRun sRun) (.int .i64))))).compsE ((a : Int), (b : Int), lim, G))) (b_slices_pdqsortCmpFunc xs) (.tup .unit) (fun _ ys => Sw a b xs ys ∧ Srt ys a b) := by
  intro n
  induction n using Nat.strongRecOn with
  | _ n ih =>
  intro xs a b lim hn hab hb hl hP
  refine okM_of (e_slices_pdqsortCmpFunc xs ((a : Int), (b : Int), lim, G) _) rfl (HanOK.ofList [(149, .mut 0), (194, .mut 0), (195, .mut 0), (196, .mut 0), (198, .mut 0), (199, .mut 0), (200, .mut 0), (201, .mut 0)] rfl rfl trivial) ?_
  unfold c_slices_pdqsortCmpFunc
  dsimp only
  refine loopP_of (fun z : Int × Int × Int × Bool × Bool × List PR => ∃ lo hi : Nat, z.1 = lo ∧ z.2.1 = hi ∧ a ≤ lo ∧ lo ≤ hi ∧ hi ≤ b ∧ Sw a b xs z.2.2.2.2.2 ∧ Pre z.2.2.2.2.2 lo hi ∧ Win a b lo hi z.2.2.2.2.2) (fun z => (z.2.1 - z.1).toNat) ?_ ⟨a, b, rfl, rfl, Nat.le_refl _, hab, Nat.le_refl _, .refl, hP, Win.start⟩
  rintro ⟨_, _, lim1, wb, wp, ys⟩ A ⟨lo, hi, e1, e2, g1, g2, g3, g4, g5, g6⟩ back
  dsimp only at e1 e2 g4 g5 g6 ⊢
  subst e1
  subst e2
  have hlen := g4.length
  rw [w64_of (n := (hi : Int) - (lo : Int)) (by omega)]
  -- how it ends
  have fin : ∀ ws zs : List PR, Sw lo hi ys ws → Sw lo hi ws zs → Srt zs lo hi → Sw a b xs zs ∧ Srt zs a b := fun ws zs h1 h2 h3 => by
    have h := h1.trans h2
    exact ⟨g4.trans (h.wider g1 g3 (by omega)), (g6.sw h g1 g3).done h3⟩
  refine cond_dec (fun h12 => ?_) fun h12 => ?_
  · refine callMP_of (ok_insertionSort (xs := ys) (a := lo) (b := hi) (by omega) (by omega) (by omega)) fun r zs hz => ?_
    have hz : Sw lo hi ys zs ∧ Srt zs lo hi := hz
    exact ⟨hz.1.length, fin ys zs .refl hz.1 hz.2⟩
  have h12 : ¬ (hi : Int) - lo ≤ 12 := h12
  refine cond_dec (fun _ => ?_) fun _ => ?_
  · refine callMP_of (ok_heapSort (xs := ys) (a := lo) (b := hi) (by omega) (by omega) (by omega)) fun r zs hz => ?_
    have hz : Sw lo hi ys zs ∧ Srt zs lo hi := hz
    exact ⟨hz.1.length, fin ys zs .refl hz.1 hz.2⟩
  refine join_of (fun z : Int × List PR => Sw lo hi ys z.2) (fun J hJ => cond_not (fun _ => ?_) fun _ => hJ _ .refl) fun z => ?_
  · refine callMP_of (ok_breakPatterns (xs := ys) (a := lo) (b := hi) (by omega) (by omega) (by omega)) fun r zs hz => ?_
    have hz : Sw lo hi ys zs := hz
    exact ⟨hz.length, hJ _ hz⟩
  obtain ⟨lim2, y1⟩ := z
  intro s1
  dsimp only at s1 ⊢
  have hl1 := s1.length
  refine callP_of (ok_choosePivot (xs := y1) (a := lo) (b := hi) (by omega) (by omega) (by omega)) fun r ⟨p, hp, p1, p2⟩ => ?_
  have hp : r.1 = (p : Int) := hp
  rw [hp]
  refine join_of (fun z : Int × Int × List PR => ∃ p : Nat, z.1 = p ∧ lo ≤ p ∧ p < hi ∧ Sw lo hi ys z.2.2) (fun J hJ => cond_dec (fun _ => ?_) fun _ => hJ _ ⟨p, rfl, p1, p2, s1⟩) fun z => ?_
  · refine callMP_of (ok_reverseRange (xs := y1) (a := lo) (b := hi) (by omega) (by omega) (by omega)) fun r zs hz => ?_
    have hz : Sw lo hi y1 zs := hz
    refine ⟨hz.length, hJ _ ⟨hi - 1 - (p - lo), ?_, by omega, by omega, s1.trans hz⟩⟩
    dsimp only
    rw [w64_of (n := (hi : Int) - 1) (by omega), w64_of (n := (p : Int) - (lo : Int)) (by omega), w64_of (by omega)]
    omega
  obtain ⟨_, hint, y2⟩ := z
  rintro ⟨p, e1, p1, p2, s2⟩
  dsimp only at e1 s2 ⊢
  subst e1
  have hl2 := s2.length
  refine join_of (fun z : List PR => Sw lo hi ys z) (fun J hJ => cond_bool (fun _ => cond_bool (fun _ => cond_dec (fun _ => ?_) fun _ => hJ _ s2) fun _ => hJ _ s2) fun _ => hJ _ s2) fun y3 s3 => ?_
  · refine callMP_of (ok_partialInsertionSort (xs := y2) (a := lo) (b := hi) (by omega) (by omega) (by omega) (g5.sw s2)) fun r zs hz => ?_
    have hz : Sw lo hi y2 zs ∧ (r = true → Srt zs lo hi) := hz
    refine ⟨hz.1.length, cond_bool (fun h => ?_) fun _ => hJ _ (s2.trans hz.1)⟩
    exact fin y2 zs s2 hz.1 (hz.2 h)
  have hl3 := s3.length
  have sA : Sw a b xs y3 := g4.trans (s3.wider g1 g3 (by omega))
  have P3 : Pre y3 lo hi := g5.sw s3
  have W3 : Win a b lo hi y3 := g6.sw s3 g1 g3
  refine join_of (fun _ : Unit => True) (fun J hJ => cond_dec (fun h0 => ?_) fun _ => hJ _ trivial) fun _ _ => ?_
  · have h0 : (0 : Int) < lo := h0
    rw [w_pred (by omega) (by omega)]
    refine ⟨⟨by omega, by omega⟩, ⟨by omega, by omega⟩, gcall_eq rfl (cond_ncmp (fun hc => ?_) fun _ => hJ _ trivial)⟩
    have hc : ¬ ky y3 (lo - 1) < ky y3 p := hc
    have hge : ∀ k, lo ≤ k → k < hi → ky y3 p ≤ ky y3 k := fun k k1 k2 => by
      rcases P3 with h | h
      · omega
      · have := h k k1 k2; omega
    refine callMP_of (ok_partitionEqual (xs := y3) (a := lo) (b := hi) (p := p) p1 p2 (by omega) (by omega)) fun r zs ⟨m, hm, m1, m2, m3, m4, m5⟩ => ?_
    have hm : r = (m : Int) := hm
    subst hm
    have hge2 := m3.each (P := fun x => ky y3 p ≤ x.1) hge
    refine ⟨m3.length, back _ ⟨m, hi, rfl, rfl, by omega, by omega, g3, sA.trans (m3.wider g1 g3 (by omega)), .inr fun k k1 k2 => ?_, (W3.sw m3 g1 g3).cutL g1 (by omega) (by omega) (fun i j i1 i2 i3 => ?_) (fun i j i1 i2 i3 i4 => ?_) g3⟩ (by dsimp only; omega)⟩
    · have := m4 (m - 1) (by omega) (by omega); have := m5 k k1 k2; dsimp only at *; omega
    · have := m4 i (by omega) (by omega); have := hge2 j (by omega) (by omega); unfold ky at *; dsimp only at *; omega
    · have := m4 i (by omega) (by omega); have := m5 j (by omega) (by omega); dsimp only at *; omega
  · refine callMP_of (ok_partition (xs := y3) (a := lo) (b := hi) (p := p) p1 p2 (by omega) (by omega)) fun r y4 ⟨m, hm, m1, m2, m3, m4, m5⟩ => ?_
    have hm : r.1 = (m : Int) := hm
    rw [hm]
    have hl4 := m3.length
    have sB : Sw a b xs y4 := sA.trans (m3.wider g1 g3 (by omega))
    have P4 : Pre y4 lo hi := P3.sw m3
    have W4 : Win a b lo hi y4 := W3.sw m3 g1 g3
    rw [w64_of (n := (m : Int) - (lo : Int)) (by omega), w64_of (n := (hi : Int) - (m : Int)) (by omega), w_succ (by omega)]
    refine ⟨hl4, by decide, cond_dec (fun _ => ?_) fun _ => ?_⟩
    · refine callMP_of (ih (m - lo) (by omega) (xs := y4) (a := lo) (b := m) rfl (by omega) (by omega) (by omega) (P4.imp id fun h k k1 k2 => h k k1 (by omega))) fun r zs hz => ?_
      have hz : Sw lo m y4 zs ∧ Srt zs lo m := hz
      have hw := hz.1.wider (a' := lo) (b' := hi) (Nat.le_refl _) (by omega) (by omega)
      have hle := hz.1.each (P := fun x => x.1 ≤ ky y4 m) (fun k k1 k2 => m4 k k1 k2)
      have hm0 : ky zs m = ky y4 m := hz.1.kyout (.inr (Nat.le_refl _))
      refine ⟨hz.1.length, back _ ⟨m + 1, hi, rfl, rfl, by omega, by omega, g3, sB.trans (hw.wider g1 g3 (by omega)), .inr fun k k1 k2 => ?_, (W4.sw hw g1 g3).cutL g1 (by omega) (by omega) (fun i j i1 i2 i3 => ?_) (fun i j i1 i2 i3 i4 => ?_) g3⟩ (by dsimp only; omega)⟩
      · rw [show m + 1 - 1 = m by omega]
        show ky zs m ≤ ky zs k
        rw [hm0, hz.1.kyout (.inr (by omega))]
        exact m5 k (by omega) k2
      · by_cases e : j = m
        · subst e; rw [hm0]; exact hle i i1 (by omega)
        · exact hz.2 i j i1 i2 (by omega)
      · rw [hz.1.kyout (k := j) (.inr (by omega))]
        have h5 := m5 j (by omega) i4
        by_cases e : i = m
        · subst e; rw [hm0]; exact h5
        · exact Int.le_trans (hle i i1 (by omega)) h5
    · refine callMP_of (ih (hi - (m + 1)) (by omega) (xs := y4) (a := m + 1) (b := hi) rfl (by omega) (by omega) (by omega) (.inr fun k k1 k2 => m5 k (by omega) k2)) fun r zs hz => ?_
      have hz : Sw (m + 1) hi y4 zs ∧ Srt zs (m + 1) hi := hz
      have hw := hz.1.wider (a' := lo) (b' := hi) (by omega) (Nat.le_refl _) (by omega)
      have hge := hz.1.each (P := fun x => ky y4 m ≤ x.1) (fun k k1 k2 => m5 k (by omega) k2)
      have hm0 : ∀ k, k ≤ m → ky zs k = ky y4 k := fun k hk => hz.1.kyout (.inl (by omega))
      refine ⟨hz.1.length, back _ ⟨lo, m, rfl, rfl, g1, m1, by omega, sB.trans (hw.wider g1 g3 (by omega)), (P4.sw hw).imp id fun h k k1 k2 => h k k1 (by omega), (W4.sw hw g1 g3).cutR g1 (by omega) (by omega) (fun i j i1 i2 i3 => ?_) (fun i j i1 i2 i3 i4 => ?_) g3⟩ (by dsimp only; omega)⟩
      · by_cases e : i = m
        · subst e; rw [hm0 i (Nat.le_refl _)]; exact hge j (by omega) i3
        · exact hz.2 i j (by omega) i2 i3
      · rw [hm0 i (by omega)]
        have h4 := m4 i i1 i2
        by_cases e : j = m
        · subst e; rw [hm0 j (Nat.le_refl _)]; exact h4
        · exact Int.le_trans h4 (hge j (by omega) i4)

theorem ok_SortFunc {xs : List PR} (hl : xs.length < 100000000000) :
    FnM bs n_slices_SortFunc (insAt 0 (.row 0 0) ((Shape.func (.pair sRun sRun) (.int .i64)).compsE G)) (b_slices_SortFunc xs) (.tup .unit) (fun _ ys => ys.Perm xs ∧ Srt ys 0 xs.length) := by
  refine okM_of (e_slices_SortFunc xs G _) rfl (HanOK.ofList [(149, .mut 0)] rfl rfl trivial) ?_
  unfold c_slices_SortFunc
  rw [wrapU (by omega)]
  refine callP_of (ok_bits_Len hl) fun r _ => ?_
  refine callMP_of (ok_pdqsort xs.length (xs := xs) (a := 0) (b := xs.length) (by omega) (by omega) (Nat.le_refl _) hl (.inl rfl)) fun r ys hy => ?_
  have hy : Sw 0 xs.length xs ys ∧ Srt ys 0 xs.length := hy
  exact ⟨hy.1.length, hy.1.perm, hy.2⟩
end Go.Proofs.YtgeefhjlfdidmaaGreatDoor.V


/- Leaves' pairs: what the program's functions answer. No condition of its own. -/
namespace Go.Proofs.YtgeefhjlfdidmaaGreatDoor.V
open Go
set_option linter.unusedVariables false
set_option linter.unusedSimpArgs false

open Classical in
theorem ok_leaf_Covers {f : Leaf} {d : Int} (hla : f.2.2.1.length ≤ 100000000000) (hlb : f.2.2.2.length ≤ 100000000000) : FnE bs n_leaf_Covers ((Shape.pair sApiLeaf (.int .i64)).compsE (f, d)) .bool (· = decide (CoversF f d)) := by
  refine ok_of (e_leaf_Covers (f, d) _) rfl ?_
  unfold c_leaf_Covers CoversF
  refine callP_eq (ok_leaf_of (f := f) hla hlb) ?_
  dsimp only
  cases ho : ofF f with
  | none => exact be (by simp)
  | some x =>
    cases x with
    | inl y =>
      obtain ⟨u, s⟩ := y
      obtain ⟨h1, h2, h3, h4, h5, h6, h7⟩ := of_units ho
      refine callP_eq ok_unit_Of ?_
      dsimp only
      rcases Option.eq_none_or_eq_some (VCal.uof u d) with hu | ⟨i, hu⟩
      · have e : ofS u d = (0, false) := by unfold ofS; rw [hu]
        rw [e]
        exact be (@decide_eq_false _ (propDecidable _) fun ⟨i, hi, _⟩ => by rw [hu] at hi; cases hi).symm
      · have e : ofS u d = (i, true) := by unfold ofS; rw [hu]
        rw [e]
        refine cond_yes rfl (callP_eq (ok_runs_Has (by rw [h4]; exact hla) h6.1) (be (decide_eq_decide.2 ?_)))
        exact ⟨fun h => ⟨i, hu, h⟩, fun ⟨j, hj, h⟩ => by rw [hu] at hj; cases hj; exact h⟩
    | inr y =>
      obtain ⟨a, b⟩ := y
      obtain ⟨h1, h2, h3, h4, h5, h6, h7, e1, e2⟩ := of_span ho
      obtain ⟨sa, sb, na, nb, _⟩ := span_ends ho
      have la : a.length ≤ 100000000000 := by rw [e1]; exact Nat.le_trans (clip_length _ _ _) hla
      have lb : b.length ≤ 100000000000 := by rw [e2]; exact Nat.le_trans (clip_length _ _ _) hlb
      refine ⟨first_in na, ?_⟩
      rw [rd_lo na, rd_hi nb lb]
      refine cond_dec (fun h => ⟨last_in nb lb, be (decide_eq_decide.2 ?_)⟩) fun h => be (@decide_eq_false _ (propDecidable _) ?_).symm
      · exact ⟨fun q => ⟨h, q⟩, fun q => q.2⟩
      · exact fun q => h q.1

theorem ok_leaf_units_pairs {u n : Int} {s : Runs} (hl : s.length ≤ 100000000000) (h : Within s (VCal.ucount u - 1)) (hn : n ≤ 1000) : FnE bs n_leaf_units_pairs ((Shape.pair sLeafUnits (.int .i64)).compsE ((u, s), n)) (.slice sRun) (· = (unitPairs u s).take n.toNat) := by
  refine ok_of (e_leaf_units_pairs ((u, s), n) _) rfl ?_
  unfold c_leaf_units_pairs
  have hcnt := VCal.ucount_pos u
  refine loopP_of (fun z : Unit × Int × List (Int × Int) => ∃ k : Nat, z.2.1 = k ∧ k ≤ s.length ∧ Fill (unitPairs u s) n z.2.2 (unitPairs u (s.drop k))) (fun z => s.length - z.2.1.toNat) ?_ ⟨0, rfl, Nat.zero_le _, Fill.start⟩
  intro z A ⟨k, e1, hk, hf⟩ back
  obtain ⟨_, zk, out⟩ := z
  dsimp only [Shape.Val] at *
  subst e1
  refine cond_dec (fun h1 => ⟨⟨by omega, h1⟩, ?_⟩) fun h1 => ?_
  · have hk' : k < s.length := by omega
    have hg := List.getElem?_eq_getElem hk'
    generalize s[k] = r at hg
    have hr := Sane.bounds h.1 r (List.mem_of_getElem? hg)
    have hb : ∀ i, r.1 ≤ i → i ≤ r.2 → 0 ≤ i ∧ i ≤ VCal.ucount u - 1 := fun i h1 h2 => Within.bounds h ⟨r, List.mem_of_getElem? hg, h1, h2⟩
    rw [toNat_ofNat, rd_of (s := sRun) hg, w64_of (n := (k : Int) + 1) (by omega)]
    rw [drop_cons hg] at hf
    refine loopP_of (fun z : Unit × Int × List (Int × Int) => r.1 ≤ z.2.1 ∧ z.2.1 ≤ r.2 + 1 ∧ Fill (unitPairs u s) n z.2.2 ((upTo z.2.1 r.2).map (fun i => (VCal.ufirst u i, VCal.ulast u i)) ++ unitPairs u (s.drop (k + 1)))) (fun z => (r.2 + 1 - z.2.1).toNat) ?_ ⟨by dsimp only; omega, by dsimp only; omega, ?_⟩
    · intro z A' ⟨g1, g2, g3⟩ back'
      obtain ⟨_, i, out'⟩ := z
      dsimp only [Shape.Val] at *
      refine cond_dec (fun h2 => cond_dec (fun h3 => callP_eq ok_leaf_units_pair ⟨?_, ?_⟩) fun h3 => ?_) fun h2 => ?_
      · have := g3.1
        simp only [List.length_cons, List.length_nil]
        omega
      · have hi := hb i g1 h2
        unfold firstS lastS
        rw [if_pos (by omega), if_pos (by omega), w64_of (n := i + 1) (by omega)]
        refine back' ((), i + 1, out' ++ [(VCal.ufirst u i, VCal.ulast u i)]) ⟨by dsimp only; omega, by dsimp only; omega, ?_⟩ (by dsimp only; omega)
        rw [upTo_cons h2] at g3
        exact Fill.step g3 h3
      · exact back ((), (k : Int) + 1, out') ⟨k + 1, by simp, hk', Fill.full g3 h3⟩ (by dsimp only; omega)
      · rw [upTo_nil (by omega)] at g3
        exact back ((), (k : Int) + 1, out') ⟨k + 1, by simp, hk', g3⟩ (by dsimp only; omega)
    · have e : unitPairs u (r :: s.drop (k + 1)) = (upTo r.1 r.2).map (fun i => (VCal.ufirst u i, VCal.ulast u i)) ++ unitPairs u (s.drop (k + 1)) := by
        unfold unitPairs nums
        rw [List.flatMap_cons, List.map_append]
      rw [e] at hf
      exact hf
  · rw [List.drop_eq_nil_of_le (by omega)] at hf
    exact Fill.done hf

theorem ok_leaf_span_pairs {n : Int} {a b : Runs} (hla : a.length ≤ 100000000000) (hlb : b.length ≤ 100000000000) (ha : Sane a) (hb : Sane b) (hn : n ≤ 1000) : FnE bs n_leaf_span_pairs ((Shape.pair sLeafSpan (.int .i64)).compsE ((a, b), n)) (.slice sRun) (· = (spanPairs a b).take n.toNat) := by
  refine ok_of (e_leaf_span_pairs ((a, b), n) _) rfl ?_
  unfold c_leaf_span_pairs
  let one : Int → Runs → List (Int × Int) := fun s bs => bs.flatMap fun r => (upTo (max r.1 s) r.2).map fun t => (s, t)
  refine loopP_of (fun z : Unit × Int × List (Int × Int) => ∃ k : Nat, z.2.1 = k ∧ k ≤ a.length ∧ Fill (spanPairs a b) n z.2.2 (spanPairs (a.drop k) b)) (fun z => a.length - z.2.1.toNat) ?_ ⟨0, rfl, Nat.zero_le _, Fill.start⟩
  intro z A ⟨k, e1, hk, hf⟩ back
  obtain ⟨_, zk, out⟩ := z
  dsimp only [Shape.Val] at *
  subst e1
  refine cond_dec (fun h1 => ⟨⟨by omega, h1⟩, ?_⟩) fun h1 => ?_
  · have hk' : k < a.length := by omega
    have hg := List.getElem?_eq_getElem hk'
    generalize a[k] = r at hg
    have hr := Sane.bounds ha r (List.mem_of_getElem? hg)
    unfold Lim at hr
    rw [toNat_ofNat, rd_of (s := sRun) hg, w64_of (n := (k : Int) + 1) (by omega)]
    rw [drop_cons hg] at hf
    refine loopP_of (fun z : Unit × Int × List (Int × Int) => r.1 ≤ z.2.1 ∧ z.2.1 ≤ r.2 + 1 ∧ Fill (spanPairs a b) n z.2.2 ((upTo z.2.1 r.2).flatMap (fun s => one s b) ++ spanPairs (a.drop (k + 1)) b)) (fun z => (r.2 + 1 - z.2.1).toNat) ?_ ⟨by dsimp only; omega, by dsimp only; omega, ?_⟩
    · intro z A' ⟨g1, g2, g3⟩ back'
      obtain ⟨_, i, out'⟩ := z
      dsimp only [Shape.Val] at *
      refine cond_dec (fun h2 => cond_dec (fun h3 => ?_) fun h3 => ?_) fun h2 => ?_
      · rw [upTo_cons h2, List.flatMap_cons, List.append_assoc] at g3
        rw [w64_of (n := i + 1) (by omega)]
        refine loopP_of (fun z : Unit × Int × List (Int × Int) => ∃ j : Nat, z.2.1 = j ∧ j ≤ b.length ∧ Fill (spanPairs a b) n z.2.2 (one i (b.drop j) ++ ((upTo (i + 1) r.2).flatMap (fun s => one s b) ++ spanPairs (a.drop (k + 1)) b))) (fun z => b.length - z.2.1.toNat) ?_ ⟨0, rfl, Nat.zero_le _, g3⟩
        intro z A2 ⟨j, e2, hj, f3⟩ back2
        obtain ⟨_, zj, out2⟩ := z
        dsimp only [Shape.Val] at *
        subst e2
        refine cond_dec (fun h4 => ⟨⟨by omega, h4⟩, ?_⟩) fun h4 => ?_
        · have hj' : j < b.length := by omega
          have hq := List.getElem?_eq_getElem hj'
          generalize b[j] = q at hq
          have hqb := Sane.bounds hb q (List.mem_of_getElem? hq)
          unfold Lim at hqb
          rw [toNat_ofNat, rd_of (s := sRun) hq, w64_of (n := (j : Int) + 1) (by omega)]
          have hmax : maxI q.1 i = max q.1 i := by unfold maxI; split <;> omega
          rw [hmax]
          rw [drop_cons hq] at f3
          have e5 : one i (q :: b.drop (j + 1)) = (upTo (max q.1 i) q.2).map (fun t => (i, t)) ++ one i (b.drop (j + 1)) := List.flatMap_cons ..
          rw [e5, List.append_assoc] at f3
          refine loopP_of (fun z : Unit × Int × List (Int × Int) => -1099511627776 ≤ z.2.1 ∧ z.2.1 ≤ 1099511627777 ∧ Fill (spanPairs a b) n z.2.2 ((upTo z.2.1 q.2).map (fun t => (i, t)) ++ (one i (b.drop (j + 1)) ++ ((upTo (i + 1) r.2).flatMap (fun s => one s b) ++ spanPairs (a.drop (k + 1)) b)))) (fun z => (q.2 + 1 - z.2.1).toNat) ?_ ⟨by dsimp only; omega, by dsimp only; omega, f3⟩
          intro z A3 ⟨c1, c2, c3⟩ back3
          obtain ⟨_, t, out3⟩ := z
          dsimp only [Shape.Val] at *
          refine cond_dec (fun h5 => cond_dec (fun h6 => ⟨?_, ?_⟩) fun h6 => ?_) fun h5 => ?_
          · have := c3.1
            simp only [List.length_cons, List.length_nil]
            omega
          · rw [w64_of (n := t + 1) (by omega)]
            refine back3 ((), t + 1, out3 ++ [(i, t)]) ⟨by dsimp only; omega, by dsimp only; omega, ?_⟩ (by dsimp only; omega)
            rw [upTo_cons h5] at c3
            exact Fill.step c3 h6
          · exact back2 ((), (j : Int) + 1, out3) ⟨j + 1, by simp, hj', Fill.full c3 h6⟩ (by dsimp only; omega)
          · rw [upTo_nil (by omega)] at c3
            exact back2 ((), (j : Int) + 1, out3) ⟨j + 1, by simp, hj', c3⟩ (by dsimp only; omega)
        · rw [List.drop_eq_nil_of_le (by omega)] at f3
          exact back' ((), i + 1, out2) ⟨by dsimp only; omega, by dsimp only; omega, f3⟩ (by dsimp only; omega)
      · exact back ((), (k : Int) + 1, out') ⟨k + 1, by simp, hk', Fill.full g3 h3⟩ (by dsimp only; omega)
      · rw [upTo_nil (by omega)] at g3
        exact back ((), (k : Int) + 1, out') ⟨k + 1, by simp, hk', g3⟩ (by dsimp only; omega)
    · have e : spanPairs (r :: a.drop (k + 1)) b = (upTo r.1 r.2).flatMap (fun s => one s b) ++ spanPairs (a.drop (k + 1)) b := by
        unfold spanPairs nums
        rw [List.flatMap_cons, List.flatMap_append]
      rw [e] at hf
      exact hf
  · rw [List.drop_eq_nil_of_le (by omega)] at hf
    exact Fill.done hf

theorem ok_leaf_Pairs {f : Leaf} {n : Int} (hla : f.2.2.1.length ≤ 100000000000) (hlb : f.2.2.2.length ≤ 100000000000) : FnE bs n_leaf_Pairs ((Shape.pair sApiLeaf (.int .i64)).compsE (f, n)) (.slice sRun) (· = pairsF f n) := by
  refine ok_of (e_leaf_Pairs (f, n) _) rfl ?_
  unfold c_leaf_Pairs pairsF
  refine callP_eq (ok_leaf_of (f := f) hla hlb) ?_
  have hmin : minI n 1000 = min n 1000 := by unfold minI; split <;> omega
  dsimp only
  rw [hmin]
  cases ho : ofF f with
  | none => exact cond_yes rfl (by rw [show famPairs none = [] from rfl, List.take_nil])
  | some x =>
    cases x with
    | inl y =>
      obtain ⟨u, s⟩ := y
      obtain ⟨h1, h2, h3, h4, h5, h6, h7⟩ := of_units ho
      exact callP_eq (ok_leaf_units_pairs (by rw [h4]; exact hla) h6 (by omega)) rfl
    | inr y =>
      obtain ⟨a, b⟩ := y
      obtain ⟨h1, h2, h3, h4, h5, h6, h7, e1, e2⟩ := of_span ho
      obtain ⟨sa, sb, na, nb, _⟩ := span_ends ho
      have la : a.length ≤ 100000000000 := by rw [e1]; exact Nat.le_trans (clip_length _ _ _) hla
      have lb : b.length ≤ 100000000000 := by rw [e2]; exact Nat.le_trans (clip_length _ _ _) hlb
      exact callP_eq (ok_leaf_span_pairs la lb sa sb (by omega)) rfl
end Go.Proofs.YtgeefhjlfdidmaaGreatDoor.V


/- Sets as runs, of whatever runs: what the program's functions answer. No condition of its own. -/
namespace Go.Proofs.YtgeefhjlfdidmaaGreatDoor.V
open Go
set_option linter.unusedVariables false
set_option linter.unusedSimpArgs false

theorem ok_runs_order_compare {x : PR × PR} : FnE bs n_runs_order_compare ((Shape.pair sRunsOrder (.pair sRun sRun)).compsE (false, x)) (.int .i64) (· = cmpS x.1.1 x.2.1) := by
  refine ok_of (e_runs_order_compare (false, x) _) rfl ?_
  unfold c_runs_order_compare
  exact cond_no rfl (callP_eq ok_cmp_Compare rfl)

theorem ky_get {xs : List PR} {k : Nat} {r : PR} (h : xs[k]? = some r) : ky xs k = r.1 := by
  unfold ky el
  rw [List.getD_eq_getElem?_getD, h]
  rfl

theorem max_max (a b : Int) : maxI a b = max a b := by unfold maxI; split <;> omega
theorem min_min (a b : Int) : minI a b = min a b := by unfold minI; split <;> omega

/-- Runs that are clamped, the empty ones left out. -/
def clampO (r : PR) : Option PR := if (clampR r).1 ≤ (clampR r).2 then some (clampR r) else none

theorem clampO_mem {l : Runs} {n : Int} : mem (l.filterMap clampO) n ↔ memL l n := by
  unfold memL mem
  constructor
  · rintro ⟨q, hq, h1, h2⟩
    obtain ⟨r, hr, e⟩ := List.mem_filterMap.1 hq
    unfold clampO at e
    split at e
    · cases e
      have := clamp_in.1 ⟨h1, h2⟩
      exact ⟨this.1, this.2.1, r, hr, this.2.2⟩
    · cases e
  · rintro ⟨h1, h2, r, hr, h3, h4⟩
    have := clamp_in.2 ⟨h1, h2, h3, h4⟩
    exact ⟨clampR r, List.mem_filterMap.2 ⟨r, hr, by unfold clampO; rw [if_pos (by omega)]⟩, this.1, this.2⟩

theorem mem_take_succ {s : Runs} {k : Nat} {r : PR} (h : s[k]? = some r) (n : Int) : mem (s.take (k + 1)) n ↔ mem (s.take k) n ∨ (r.1 ≤ n ∧ n ≤ r.2) := by
  rw [List.take_add_one, h, Option.toList_some, mem_append, mem_cons]
  exact ⟨fun q => q.imp id fun q => q.elim id fun q => (mem_nil q).elim, fun q => q.imp id .inl⟩

theorem ok_runs_Make {l : Runs} (hl : l.length < 100000000000) : FnE bs n_runs_Make ((Shape.slice sRun).compsE l) (.slice sRun) (· = makeF l) := by
  refine ok_han (e_runs_Make l _) rfl (HanOK.ofList [(103, .mut 0)] rfl rfl trivial) ?_
  unfold c_runs_Make
  refine loopP_of (fun z : Unit × Int × Runs => ∃ k : Nat, z.2.1 = k ∧ k ≤ l.length ∧ z.2.2 = (l.take k).filterMap clampO) (fun z => l.length - z.2.1.toNat) ?_ ⟨0, rfl, Nat.zero_le _, rfl⟩
  rintro ⟨u, _, acc⟩ A ⟨k, e1, hk, e2⟩ back
  dsimp only at e1 e2 ⊢
  subst e1
  subst e2
  have hacc : ((l.take k).filterMap clampO).length ≤ k := Nat.le_trans (List.length_filterMap_le _ _) (by rw [List.length_take]; omega)
  refine cond_dec (fun h1 => ⟨⟨by omega, h1⟩, ?_⟩) fun h1 => ?_
  · have h1 : (k : Int) < l.length := h1
    have hk' : k < l.length := by omega
    have hg := List.getElem?_eq_getElem hk'
    generalize l[k] = r at hg
    rw [toNat_ofNat, rd_of (s := sRun) hg, max_max, min_min, w_succ (by omega)]
    have ht : l.take (k + 1) = l.take k ++ [r] := by rw [List.take_add_one, hg]; rfl
    refine cond_dec (fun h2 => ⟨?_, ?_⟩) fun h2 => ?_
    · simp only [List.length_cons, List.length_nil]; omega
    · refine back ((), ((k + 1 : Nat) : Int), _) ⟨k + 1, rfl, hk', ?_⟩ (by dsimp only; omega)
      rw [ht, List.filterMap_append]
      have : clampO r = some (max r.1 (-1099511627776), min r.2 1099511627776) := by unfold clampO; rw [if_pos (show (clampR r).1 ≤ (clampR r).2 from h2)]; rfl
      simp [this]
    · refine back ((), ((k + 1 : Nat) : Int), _) ⟨k + 1, rfl, hk', ?_⟩ (by dsimp only; omega)
      rw [ht, List.filterMap_append]
      have : clampO r = none := by unfold clampO; rw [if_neg (show ¬ (clampR r).1 ≤ (clampR r).2 from h2)]
      simp [this]
  · have hkl : k = l.length := by have h1 : ¬ (k : Int) < l.length := h1; omega
    subst hkl
    rw [List.take_length] at hacc ⊢
    have hmem := fun n => clampO_mem (l := l) (n := n)
    have hbd : ∀ r ∈ l.filterMap clampO, -Lim ≤ r.1 ∧ r.1 ≤ r.2 ∧ r.2 ≤ Lim := fun r hr => by
      obtain ⟨q, hq, e⟩ := List.mem_filterMap.1 hr
      unfold clampO at e
      split at e
      · cases e
        rename_i h
        unfold clampR Lim at *
        dsimp only at *
        omega
      · cases e
    refine ⟨G, ⟨(ok_runs_order_compare (x := ((0, 0), (0, 0)))).1, fun x r hx => by cases hx; exact ok_runs_order_compare⟩, ?_⟩
    generalize l.filterMap clampO = xs at hacc hmem hbd
    refine callMP_of (ok_SortFunc (xs := xs) (by omega)) fun r (ys : Runs) hy => ?_
    have hy : ys.Perm xs ∧ Srt ys 0 xs.length := hy
    have hyl : ys.length = xs.length := hy.1.length_eq
    refine ⟨hyl, ?_⟩
    have hyb : ∀ (j : Nat) r, ys[j]? = some r → -Lim ≤ r.1 ∧ r.1 ≤ r.2 ∧ r.2 ≤ Lim := fun j r hr => hbd r (hy.1.subset (List.mem_of_getElem? hr))
    refine loopP_of (fun z : Unit × Int × Runs => ∃ k : Nat, z.2.1 = k ∧ k ≤ ys.length ∧ z.2.2.length ≤ k ∧ Sane z.2.2 ∧ (∀ n, mem z.2.2 n ↔ mem (ys.take k) n) ∧ ∀ q ∈ z.2.2, ∀ j r, k ≤ j → ys[j]? = some r → q.1 ≤ r.1) (fun z => ys.length - z.2.1.toNat) ?_ ⟨0, rfl, Nat.zero_le _, Nat.zero_le _, sane_nil', fun n => Iff.rfl, fun q hq => by cases hq⟩
    rintro ⟨u, _, out⟩ A2 ⟨k, e1, hk, g1, g2, g3, g4⟩ back2
    dsimp only at e1 g1 g2 g3 g4 ⊢
    subst e1
    refine cond_dec (fun h1 => ⟨⟨by omega, h1⟩, ?_⟩) fun h1 => ?_
    · have h1 : (k : Int) < ys.length := h1
      have hk' : k < ys.length := by omega
      have hg := List.getElem?_eq_getElem hk'
      generalize ys[k] = r at hg
      have hb := hyb k r hg
      rw [toNat_ofNat, rd_of (s := sRun) hg, w_succ (by omega)]
      have hlater : ∀ j q, k + 1 ≤ j → ys[j]? = some q → r.1 ≤ q.1 := fun j q hj hq => by
        have := hy.2 k j (Nat.zero_le _) (by omega) (by have := (List.getElem?_eq_some_iff.1 hq).1; omega)
        rw [ky_get hg, ky_get hq] at this
        exact this
      -- a run of its own
      have own : (∀ q ∈ out, q.2 + 2 ≤ r.1) → chk ((out.length + [(r.1, r.2)].length) * 16 ≤ 140737488355328) (A2 ((), ((k + 1 : Nat) : Int), out ++ [(r.1, r.2)])) := fun h => by
        refine ⟨by simp only [List.length_cons, List.length_nil]; omega, ?_⟩
        refine back2 ((), ((k + 1 : Nat) : Int), out ++ [(r.1, r.2)]) ⟨k + 1, rfl, hk', by simp; omega, SaneFrom.append g2 hb.2.1 hb.2.2 (by unfold Lim at hb; dsimp only; omega) h, fun n => ?_, fun q hq j p hj hp => ?_⟩ (by dsimp only; omega)
        · rw [mem_take_succ hg, mem_append, g3 n, mem_cons]
          exact ⟨fun q => q.imp id fun q => q.elim id fun q => (mem_nil q).elim, fun q => q.imp id .inl⟩
        · rcases List.mem_append.1 hq with hq | hq
          · exact g4 q hq j p (by omega) hp
          · rw [List.mem_singleton] at hq; subst hq; exact hlater j p hj hp
      rcases List.eq_nil_or_concat out with e | ⟨f, q, e⟩
      · subst e
        refine cond_dec (fun h2 => ?_) fun _ => own fun q hq => by cases hq
        exact absurd h2 (by decide)
      · rw [List.concat_eq_append] at e
        subst e
        have hfl : ((f ++ [q]).length : Int) - 1 = (f.length : Int) := by simp
        rw [hfl, w64_of (n := (f.length : Int)) (by simp at g1; omega)]
        have hgl : (f ++ [q])[f.length]? = some q := by simp
        rw [toNat_ofNat, rd_of (s := sRun) hgl, set_last]
        have hq := Sane.bounds g2 q (by simp)
        have hql := g4 q (by simp) k r (Nat.le_refl _) hg
        refine cond_dec (fun h2 => ⟨⟨by omega, by simp; omega⟩, ?_⟩) fun h2 => absurd (show (0 : Int) ≤ f.length by omega) h2
        rw [w64_of (n := q.2 + 1) (by unfold Lim at hq; omega), max_max]
        refine cond_dec (fun h3 => ⟨⟨by omega, by simp; omega⟩, ⟨by omega, by simp; omega⟩, ?_⟩) fun h3 => own fun p hp => ?_
        · have h3 : r.1 ≤ q.2 + 1 := h3
          refine back2 ((), ((k + 1 : Nat) : Int), f ++ [(q.1, max q.2 r.2)]) ⟨k + 1, rfl, hk', by simp at g1 ⊢; omega, sane_last g2 rfl (by dsimp only; omega) (by dsimp only; omega), fun n => ?_, fun p hp j t hj ht => ?_⟩ (by dsimp only; omega)
          · rw [mem_take_succ hg, ← g3 n, mem_append, mem_append, mem_cons, mem_cons]
            dsimp only
            constructor
            · rintro (x | x | x)
              · exact .inl (.inl x)
              · by_cases e : n ≤ q.2
                · exact .inl (.inr (.inl ⟨x.1, e⟩))
                · exact .inr (by omega)
              · exact (mem_nil x).elim
            · rintro ((x | x | x) | x)
              · exact .inl x
              · exact .inr (.inl (by omega))
              · exact (mem_nil x).elim
              · exact .inr (.inl (by omega))
          · rcases List.mem_append.1 hp with hp | hp
            · exact g4 p (by simp [hp]) j t (by omega) ht
            · rw [List.mem_singleton] at hp; subst hp; exact g4 q (by simp) j t (by omega) ht
        · have h3 : ¬ r.1 ≤ q.2 + 1 := h3
          obtain ⟨i, hi⟩ := List.getElem?_of_mem hp
          have hil := (List.getElem?_eq_some_iff.1 hi).1
          by_cases e : i = f.length
          · subst e
            rw [hgl] at hi; cases hi; omega
          · have := SaneFrom.get g2 i f.length p q hi hgl (by simp at hil; omega)
            omega
    · have hkl : k = ys.length := by have h1 : ¬ (k : Int) < ys.length := h1; omega
      subst hkl
      refine make_of g2 fun n => ?_
      rw [g3 n, List.take_length, ← hmem n]
      unfold mem
      exact ⟨fun ⟨q, hq, h⟩ => ⟨q, hy.1.subset hq, h⟩, fun ⟨q, hq, h⟩ => ⟨q, hy.1.symm.subset hq, h⟩⟩

theorem ok_runs_knownA {s : Runs} (hl : s.length < 100000000000) : FnE bs n_runs_known ((Shape.slice sRun).compsE s) (.slice sRun) (· = makeF s) := by
  refine ok_of (e_runs_known s _) rfl ?_
  unfold c_runs_known
  refine callP_eq (ok_runs_Sane (by omega)) (cond_dec (fun h => (make_self h).symm) fun h => callP_eq (ok_runs_Make hl) rfl)

theorem ok_sets_knownA {s : Runs} (hl : s.length < 100000000000) : FnE bs n_sets_known ((Shape.slice sRun).compsE s) (.slice sRun) (· = makeF s) := by
  refine ok_of (e_sets_known s _) rfl ?_
  unfold c_sets_known
  refine callP_eq (ok_runs_Sane (by omega)) (cond_dec (fun h => (make_self h).symm) fun h => callP_eq (ok_runs_Make hl) rfl)

section
variable {s a b : Runs} {n lo hi : Int}

theorem ok_sets_MeetA (hla : a.length < 100000000000) (hlb : b.length < 100000000000) : FnE bs n_sets_Meet ((Shape.pair (.slice sRun) (.slice sRun)).compsE (a, b)) (.slice sRun) (MeetR (makeF a) (makeF b)) :=
  ok_sets_Meet_gen (ok_sets_knownA hla) (ok_sets_knownA hlb) (by have := make_length a; omega) (by have := make_length b; omega) (make_sane a) (make_sane b)

theorem ok_sets_WideA (hl : s.length < 100000000000) : FnE bs n_sets_Wide ((Shape.slice sRun).compsE s) .bool (· = decide (400 < (makeF s).length)) := by
  refine ok_of (e_sets_Wide s _) rfl ?_
  unfold c_sets_Wide
  refine callP_eq (ok_sets_knownA hl) (be (decide_eq_decide.2 ?_))
  omega

/-- How many numbers a set has. -/
def countF : Runs → Int
  | [] => 0
  | r :: s => (r.2 - r.1 + 1) + countF s

theorem count_append (s t : Runs) : countF (s ++ t) = countF s + countF t := by
  induction s with
  | nil => simp [countF]
  | cons r s ih => simp only [List.cons_append, countF, ih]; omega

theorem count_take : ∀ (s : Runs) {a : Int}, SaneFrom a s → ∀ k : Nat, 0 ≤ countF (s.take k) ∧ countF (s.take k) ≤ max 0 (Lim - a)
  | [], a, _, k => by rw [List.take_nil]; exact ⟨Int.le_refl _, by unfold countF; omega⟩
  | r :: s, a, h, 0 => ⟨Int.le_refl _, by show (0 : Int) ≤ _; omega⟩
  | r :: s, a, h, k + 1 => by
    have ih := count_take s h.2.2.2 k
    have h1 := h.1
    have h2 := h.2.1
    have h3 := h.2.2.1
    rw [List.take_succ_cons]
    unfold countF
    omega

theorem ok_runs_CountA (hl : s.length < 100000000000) : FnE bs n_runs_Count ((Shape.slice sRun).compsE s) (.int .i64) (· = countF (makeF s)) := by
  refine ok_of (e_runs_Count s _) rfl ?_
  unfold c_runs_Count
  have hml := make_length s
  have h := make_sane s
  refine callP_eq (ok_runs_knownA hl) ?_
  generalize makeF s = t at hml h
  refine loopP_of (fun z : Int × Int => ∃ k : Nat, z.2 = k ∧ k ≤ t.length ∧ z.1 = countF (t.take k)) (fun z => t.length - z.2.toNat) ?_ ⟨0, rfl, Nat.zero_le _, rfl⟩
  rintro ⟨_, _⟩ A ⟨k, e1, hk, e2⟩ back
  dsimp only at e1 e2 ⊢
  subst e1
  subst e2
  refine cond_dec (fun h1 => ⟨⟨by omega, h1⟩, ?_⟩) fun h1 => ?_
  · have h1 : (k : Int) < t.length := h1
    have hk' : k < t.length := by omega
    have hg := List.getElem?_eq_getElem hk'
    generalize t[k] = r at hg
    have hb := Sane.bounds h r (List.mem_of_getElem? hg)
    have hct := count_take t h k
    unfold Lim at hb hct
    rw [toNat_ofNat, rd_of (s := sRun) hg, w_succ (by omega), w64_of (n := r.2 - r.1) (by omega), w64_of (n := r.2 - r.1 + 1) (by omega), w64_of (n := countF (t.take k) + (r.2 - r.1 + 1)) (by omega)]
    refine back (_, ((k + 1 : Nat) : Int)) ⟨k + 1, rfl, hk', ?_⟩ (by dsimp only; omega)
    dsimp only
    rw [List.take_add_one, hg, Option.toList_some, count_append]
    simp [countF]
  · rw [List.take_of_length_le (by have h1 : ¬ (k : Int) < t.length := h1; omega)]

theorem ok_runs_Of {l : List Int} (hl : l.length < 100000000000) : FnE bs n_runs_Of ((Shape.slice (.int .i64)).compsE l) (.slice sRun) (· = makeF (l.map fun n => (n, n))) := by
  refine ok_of (e_runs_Of l _) rfl ?_
  unfold c_runs_Of
  refine loopP_of (fun z : Unit × Int × Runs => ∃ k : Nat, z.2.1 = k ∧ k ≤ l.length ∧ z.2.2 = (l.take k).map fun n => (n, n)) (fun z => l.length - z.2.1.toNat) ?_ ⟨0, rfl, Nat.zero_le _, rfl⟩
  rintro ⟨u, _, acc⟩ A ⟨k, e1, hk, e2⟩ back
  dsimp only at e1 e2 ⊢
  subst e1
  subst e2
  refine cond_dec (fun h1 => ⟨⟨by omega, h1⟩, ?_⟩) fun h1 => ?_
  · have h1 : (k : Int) < l.length := h1
    have hk' : k < l.length := by omega
    have hg := List.getElem?_eq_getElem hk'
    generalize l[k] = r at hg
    rw [toNat_ofNat, rd_of (s := .int .i64) hg, w_succ (by omega)]
    refine ⟨by simp only [List.length_cons, List.length_nil, List.length_map, List.length_take]; omega, ?_⟩
    refine back ((), ((k + 1 : Nat) : Int), _) ⟨k + 1, rfl, hk', ?_⟩ (by dsimp only; omega)
    rw [List.take_add_one, hg, Option.toList_some, List.map_append]
    rfl
  · rw [List.take_of_length_le (by have h1 : ¬ (k : Int) < l.length := h1; omega)]
    exact callP_eq (ok_runs_Make (by rw [List.length_map]; exact hl)) rfl
end
end Go.Proofs.YtgeefhjlfdidmaaGreatDoor.V


/- The document's answer for days and units: what its functions answer. No condition of its own. -/
namespace Go.Proofs.YtgeefhjlfdidmaaGreatDoor.V
open Go
set_option linter.unusedVariables false
set_option linter.unusedSimpArgs false

/-! ### Units -/

end Go.Proofs.YtgeefhjlfdidmaaGreatDoor.V


/- The document's answer for sets: what its functions answer. No condition of its own. -/
namespace Go.Proofs.YtgeefhjlfdidmaaGreatDoor.V
open Go
set_option linter.unusedVariables false
set_option linter.unusedSimpArgs false

/-! ### What two sets have in common -/

def meetF (a b : Runs) : Runs := a.flatMap fun x => clipF b x.1 x.2

theorem mem_meet {a b : Runs} {n : Int} : mem (meetF a b) n ↔ mem a n ∧ mem b n := by
  unfold meetF
  constructor
  · rintro ⟨q, hq, h1, h2⟩
    obtain ⟨x, hx, hqx⟩ := List.mem_flatMap.1 hq
    have := (mem_clip (s := b) (lo := x.1) (hi := x.2) (n := n)).1 ⟨q, hqx, h1, h2⟩
    exact ⟨⟨x, hx, this.2⟩, this.1⟩
  · rintro ⟨⟨x, hx, h1, h2⟩, hb⟩
    obtain ⟨q, hq, h3⟩ := (mem_clip (s := b) (lo := x.1) (hi := x.2) (n := n)).2 ⟨hb, h1, h2⟩
    exact ⟨q, List.mem_flatMap.2 ⟨x, hx, hq⟩, h3⟩

theorem saneFrom_append : ∀ {s t : Runs} {a b : Int}, SaneFrom a s → SaneFrom b t → a ≤ b → (∀ q ∈ s, q.2 ≤ b) → SaneFrom a (s ++ t)
  | [], t, a, b, _, h, hab, _ => h.mono hab
  | x :: s, t, a, b, hs, h, hab, hq => ⟨hs.1, hs.2.1, hs.2.2.1, saneFrom_append hs.2.2.2 h (hq x (List.mem_cons_self ..)) fun q hqs => hq q (List.mem_cons_of_mem _ hqs)⟩

theorem clip_in {s : Runs} {lo hi : Int} : ∀ q ∈ clipF s lo hi, lo ≤ q.1 ∧ q.2 ≤ hi := by
  intro q hq
  obtain ⟨r, _, e⟩ := List.mem_filterMap.1 hq
  split at e
  · cases e; dsimp only; omega
  · cases e

theorem clip_from2 {s : Runs} {b a lo hi : Int} (h : SaneFrom b s) (hlo : a + 2 ≤ lo) : SaneFrom a (clipF s lo hi) := by
  rcases Int.lt_or_le b a with hba | hba
  · have h1 := clip_from (b := b) (lo := lo) (hi := hi) h (Int.le_refl _)
    have h2 := fun q (hq : q ∈ clipF s lo hi) => (clip_in q hq).1
    cases he : clipF s lo hi with
    | nil => trivial
    | cons x t =>
      rw [he] at h1 h2
      exact ⟨h1.1, by have := h2 x (List.mem_cons_self ..); omega, h1.2.2.1, h1.2.2.2⟩
  · exact clip_from h hba

theorem meet_from {b : Runs} (hb : Sane b) : ∀ {s : Runs} {a : Int}, SaneFrom a s → SaneFrom a (meetF s b)
  | [], _, _ => trivial
  | x :: s, a, h => by
    unfold meetF
    rw [List.flatMap_cons]
    refine saneFrom_append (clip_from2 hb h.2.1) (meet_from hb h.2.2.2) (by have := h.1; have := h.2.1; omega) fun q hq => (clip_in q hq).2

theorem meet_sane {a b : Runs} (ha : Sane a) (hb : Sane b) : Sane (meetF a b) := meet_from hb ha

theorem meet_of {a b out : Runs} (ha : Sane a) (hb : Sane b) (h : MeetR a b out) : out = meetF a b := sane_ext h.1 (meet_sane ha hb) fun n => by rw [h.2.2 n, mem_meet]

theorem ok_sets_MeetF {a b : Runs} (hla : a.length < 100000000000) (hlb : b.length < 100000000000) : FnE bs n_sets_Meet ((Shape.pair (.slice sRun) (.slice sRun)).compsE (a, b)) (.slice sRun) (fun r => r = meetF (makeF a) (makeF b) ∧ r.length ≤ a.length + b.length) :=
  (ok_sets_MeetA hla hlb).mono fun r hr => ⟨meet_of (make_sane _) (make_sane _) hr, by have := hr.2.1; have := make_length a; have := make_length b; omega⟩

/-- Within bounds is what it has in common with one run. -/
theorem meet_clip {s : Runs} {lo hi : Int} (hs : Sane s) : meetF s (makeF [(lo, hi)]) = clipF s lo hi := by
  refine sane_ext (meet_sane hs (make_sane _)) (sane_clip hs) fun n => ?_
  rw [mem_meet, mem_make, mem_clip]
  unfold memL
  rw [mem_cons]
  constructor
  · rintro ⟨h1, h2, h3, h4 | h4⟩
    · exact ⟨h1, h4⟩
    · exact (mem_nil h4).elim
  · rintro ⟨h1, h2⟩
    have := mem_lim hs h1
    exact ⟨h1, this.1, this.2, .inl h2⟩

theorem ok_sets_ClipA {s : Runs} {lo hi : Int} (hl : s.length < 100000000000) : FnE bs n_sets_Clip ((Shape.pair (.slice sRun) (.pair (.int .i64) (.int .i64))).compsE (s, lo, hi)) (.slice sRun) (· = clipF (makeF s) lo hi) := by
  refine ok_of (e_sets_Clip (s, lo, hi) _) rfl ?_
  unfold c_sets_Clip
  refine callP_of (ok_sets_MeetF (a := s) (b := [(lo, hi)]) hl (by simp)) fun r hr => ?_
  exact hr.1.trans (meet_clip (make_sane s))

end Go.Proofs.YtgeefhjlfdidmaaGreatDoor.V


/- lustrumlaw14: the laws of leaves, as conditions on the program's functions alone. No condition of its own. -/
namespace Go.Proofs.YtgeefhjlfdidmaaGreatDoor.V
open Go
set_option linter.unusedVariables false
set_option linter.unusedSimpArgs false

end Go.Proofs.YtgeefhjlfdidmaaGreatDoor.V


/- lustrumlaw14.LeafCovers, as a condition on the program's functions alone. No condition of its own. -/
namespace Go.Proofs.YtgeefhjlfdidmaaGreatDoor.V
open Go
set_option linter.unusedVariables false

end Go.Proofs.YtgeefhjlfdidmaaGreatDoor.V


/- lustrumlaw14.LeafPairs, as a condition on the program's functions alone. No condition of its own. -/
namespace Go.Proofs.YtgeefhjlfdidmaaGreatDoor.V
open Go
set_option linter.unusedVariables false
set_option linter.unusedSimpArgs false

end Go.Proofs.YtgeefhjlfdidmaaGreatDoor.V


/- lustrumlaw14.LeafTidy, as a condition on the program's functions alone. No condition of its own. -/
namespace Go.Proofs.YtgeefhjlfdidmaaGreatDoor.V
open Go
set_option linter.unusedVariables false
set_option linter.unusedSimpArgs false

/-! ### Tidied -/

theorem tidy_lens (f : Leaf) : (tidyF f).2.2.1.length ≤ f.2.2.1.length ∧ (tidyF f).2.2.2.length ≤ f.2.2.2.length := by
  rcases ho : ofF f with _ | ⟨u, s⟩ | ⟨a, b⟩
  · have e : tidyF f = (false, 0, [], []) := by unfold tidyF; rw [ho]
    rw [e]; simp
  · obtain ⟨h1, h2, h3, h4, h5, h6, h7⟩ := of_units ho
    have e : tidyF f = (false, u, s, []) := by unfold tidyF; rw [ho]
    rw [e]; simp [h4]
  · obtain ⟨h1, h2, h3, h4, h5, h6, h7, e1, e2⟩ := of_span ho
    have e : tidyF f = (true, 0, a, b) := by unfold tidyF; rw [ho]
    rw [e, e1, e2]
    exact ⟨clip_length _ _ _, clip_length _ _ _⟩

end Go.Proofs.YtgeefhjlfdidmaaGreatDoor.V


/- The least and greatest days of families: plain facts. No program in sight. -/
namespace Go.Proofs.YtgeefhjlfdidmaaGreatDoor.V
set_option linter.unusedVariables false
set_option linter.unusedSimpArgs false

/-- The least and the greatest start, the least and the greatest end. -/
abbrev Q4 := Int × Int × Int × Int

def extF (f : Leaf) : Option Q4 := match ofF f with
  | none => none
  | some (.inl (u, s)) => some (VCal.ufirst u (loF s), VCal.ufirst u (hiF s), VCal.ulast u (loF s), VCal.ulast u (hiF s))
  | some (.inr (a, b)) => some (loF a, hiF a, loF b, hiF b)

def comb : Option Q4 → Option Q4 → Option Q4
  | none, q => q
  | some p, none => some p
  | some p, some q => some (min p.1 q.1, max p.2.1 q.2.1, min p.2.2.1 q.2.2.1, max p.2.2.2 q.2.2.2)

def allF (l : List Leaf) : Option Q4 := l.foldl (fun x f => comb x (extF f)) none

theorem comb_none (p : Option Q4) : comb p none = p := by cases p <;> rfl

theorem comb_assoc (p q r : Option Q4) : comb (comb p q) r = comb p (comb q r) := by
  cases p with
  | none => rfl
  | some p =>
    cases q with
    | none => rfl
    | some q =>
      cases r with
      | none => rfl
      | some r =>
        simp only [comb, Option.some.injEq, Prod.mk.injEq]
        omega

theorem foldl_comb : ∀ (l : List Leaf) (x : Option Q4), l.foldl (fun x f => comb x (extF f)) x = comb x (allF l)
  | [], x => (comb_none x).symm
  | f :: l, x => by
    unfold allF
    rw [List.foldl_cons, List.foldl_cons, foldl_comb l (comb x (extF f)), foldl_comb l (comb none (extF f)), comb_assoc]
    rfl

theorem all_append (l m : List Leaf) : allF (l ++ m) = comb (allF l) (allF m) := by
  unfold allF
  rw [List.foldl_append, foldl_comb m]
  rfl

theorem all_cons (f : Leaf) (l : List Leaf) : allF (f :: l) = comb (extF f) (allF l) := by
  rw [show f :: l = [f] ++ l from rfl, all_append]
  rfl

theorem ext_none {f : Leaf} : extF f = none ↔ ofF f = none := by
  unfold extF
  rcases ho : ofF f with _ | ⟨u, s⟩ | ⟨a, b⟩ <;> simp

/-- What a quadruple says of pairs: it bounds them, and each of its days is met. -/
def Bounds (q : Q4) (P : Int × Int → Prop) : Prop := (∀ p, P p → q.1 ≤ p.1 ∧ p.1 ≤ q.2.1 ∧ q.2.2.1 ≤ p.2 ∧ p.2 ≤ q.2.2.2 ∧ p.1 ≤ p.2) ∧ (∃ p, P p ∧ p.1 = q.1) ∧ (∃ p, P p ∧ p.1 = q.2.1) ∧ (∃ p, P p ∧ p.2 = q.2.2.1) ∧ ∃ p, P p ∧ p.2 = q.2.2.2

theorem Bounds.comb {p q : Q4} {P R : Int × Int → Prop} (h : Bounds p P) (k : Bounds q R) : Bounds (min p.1 q.1, max p.2.1 q.2.1, min p.2.2.1 q.2.2.1, max p.2.2.2 q.2.2.2) fun x => P x ∨ R x := by
  obtain ⟨h0, ⟨a1, h1, h1'⟩, ⟨a2, h2, h2'⟩, ⟨a3, h3, h3'⟩, ⟨a4, h4, h4'⟩⟩ := h
  obtain ⟨k0, ⟨b1, k1, k1'⟩, ⟨b2, k2, k2'⟩, ⟨b3, k3, k3'⟩, ⟨b4, k4, k4'⟩⟩ := k
  refine ⟨fun x hx => ?_, ?_, ?_, ?_, ?_⟩
  · rcases hx with hx | hx
    · have := h0 x hx; dsimp only; omega
    · have := k0 x hx; dsimp only; omega
  · rcases Int.le_total p.1 q.1 with e | e
    · exact ⟨a1, .inl h1, by dsimp only; omega⟩
    · exact ⟨b1, .inr k1, by dsimp only; omega⟩
  · rcases Int.le_total p.2.1 q.2.1 with e | e
    · exact ⟨b2, .inr k2, by dsimp only; omega⟩
    · exact ⟨a2, .inl h2, by dsimp only; omega⟩
  · rcases Int.le_total p.2.2.1 q.2.2.1 with e | e
    · exact ⟨a3, .inl h3, by dsimp only; omega⟩
    · exact ⟨b3, .inr k3, by dsimp only; omega⟩
  · rcases Int.le_total p.2.2.2 q.2.2.2 with e | e
    · exact ⟨b4, .inr k4, by dsimp only; omega⟩
    · exact ⟨a4, .inl h4, by dsimp only; omega⟩

theorem Bounds.congr {q : Q4} {P R : Int × Int → Prop} (h : Bounds q P) (k : ∀ p, P p ↔ R p) : Bounds q R := by
  have : P = R := funext fun p => propext (k p)
  subst this
  exact h

end Go.Proofs.YtgeefhjlfdidmaaGreatDoor.V


/- The document's answer for leaves and their least and greatest days, and the program's: what the functions answer. No condition of its own. -/
namespace Go.Proofs.YtgeefhjlfdidmaaGreatDoor.V
open Go
set_option linter.unusedVariables false
set_option linter.unusedSimpArgs false

/-! ### The least and greatest days -/

/-- A list of leaves of few runs. -/
def FewL (n : Nat) (l : List Leaf) : Prop := l.length ≤ 1000000 ∧ ∀ f ∈ l, f.2.2.1.length ≤ n ∧ f.2.2.2.length ≤ n

def Q4.out : Option Q4 → Q4 × Bool
  | none => ((0, 0, 0, 0), false)
  | some q => (q, true)

theorem tidy_nil {f : Leaf} : (tidyF f).2.2.1 = [] ↔ extF f = none := by
  rw [ext_none]
  rcases ho : ofF f with _ | ⟨u, s⟩ | ⟨a, b⟩
  · have e : tidyF f = (false, 0, [], []) := by unfold tidyF; rw [ho]
    rw [e]; simp
  · obtain ⟨h1, h2, h3, h4, h5, h6, h7⟩ := of_units ho
    have e : tidyF f = (false, u, s, []) := by unfold tidyF; rw [ho]
    rw [e]; simp [h5]
  · obtain ⟨sa, sb, na, nb, l1, l2⟩ := span_ends ho
    have e : tidyF f = (true, 0, a, b) := by unfold tidyF; rw [ho]
    rw [e]; simp [na]

theorem all_take_succ {l : List Leaf} {k : Nat} {f : Leaf} (h : l[k]? = some f) : allF (l.take (k + 1)) = comb (allF (l.take k)) (extF f) := by
  rw [List.take_add_one, h, Option.toList_some, all_append]
  rfl

/-- One of the four days, or that there is none. -/
def dayF (sel : Q4 → Int) (l : List Leaf) : Int × Int := match allF l with
  | none => (0, 9)
  | some q => (sel q, 0)

/-! ### The program's -/

theorem ok_env_pick {gr : Bool} {g1 : Int × Int → Option (Int × Bool)} {g2 : Leaf → Option Runs} {s : Runs} (hn : s ≠ []) (hl : s.length ≤ 100000000000) : FnE bs n_env_way_pick ((Shape.pair sEnvWay (.slice sRun)).compsE ((gr, g1, g2), s)) (.int .i64) (· = if gr = true then hiF s else loF s) := by
  refine ok_of (e_env_way_pick ((gr, g1, g2), s) _) rfl ?_
  unfold c_env_way_pick
  dsimp only
  rw [rd_hi hn hl, rd_lo hn]
  exact cond_bool (fun h => ⟨last_in hn hl, by rw [if_pos h]⟩) fun h => ⟨first_in hn, by rw [if_neg (by rw [h]; decide)]⟩

/-- How a way tells a tidied leaf's day. -/
def WayV (gr : Bool) (g1 : Int × Int → Option (Int × Bool)) (g2 : Leaf → Option Runs) (f : Leaf) (v : Int) : Prop :=
  if f.1 = true then ∃ s, g2 f = some s ∧ s ≠ [] ∧ s.length ≤ 100000000000 ∧ (if gr = true then hiF s else loF s) = v
  else ∃ r, g1 (f.2.1, if gr = true then hiF f.2.2.1 else loF f.2.2.1) = some r ∧ r.1 = v

theorem ok_env_all {gr : Bool} {g1 : Int × Int → Option (Int × Bool)} {g2 : Leaf → Option Runs} {sel : Q4 → Int} {l : List Leaf} (hl : FewL 1000 l) (hv : ∀ f q, f ∈ l → extF f = some q → WayV gr g1 g2 (tidyF f) (sel q))
    (hs : ∀ p q : Q4, sel (min p.1 q.1, max p.2.1 q.2.1, min p.2.2.1 q.2.2.1, max p.2.2.2 q.2.2.2) = if gr = true then max (sel p) (sel q) else min (sel p) (sel q)) :
    FnE bs n_env_way_all ((Shape.pair sEnvWay (.slice sApiLeaf)).compsE ((gr, g1, g2), l)) (.tup (.pair (.int .i64) (.int .i64))) (· = dayF sel l) := by
  refine ok_of (e_env_way_all ((gr, g1, g2), l) _) rfl ?_
  unfold c_env_way_all
  have hll := hl.1
  refine loopP_of (fun z : Int × Int × Int => ∃ k : Nat, z.2.2 = k ∧ k ≤ l.length ∧ (z.1, z.2.1) = dayF sel (l.take k)) (fun z => l.length - z.2.2.toNat) ?_ ⟨0, rfl, Nat.zero_le _, rfl⟩
  rintro ⟨best, e, _⟩ A ⟨k, e1, hk, e2⟩ back
  dsimp only at e1 e2 ⊢
  subst e1
  refine cond_dec (fun h1 => ⟨⟨by omega, h1⟩, ?_⟩) fun h1 => ?_
  · have h1 : (k : Int) < l.length := h1
    have hk' : k < l.length := by omega
    have hg := List.getElem?_eq_getElem hk'
    generalize l[k] = f at hg
    have hfm := List.mem_of_getElem? hg
    have hf := hl.2 f hfm
    have ht := tidy_lens f
    rw [toNat_ofNat, rd_of (s := sApiLeaf) hg, w_succ (by omega)]
    refine callP_eq (ok_leaf_Tidy (f := f) (by omega) (by omega)) (cond_dec (fun h2 => ?_) fun h2 => ?_)
    · have h2 : extF f = none := tidy_nil.1 (len_zero.1 h2)
      refine back _ ⟨k + 1, rfl, hk', ?_⟩ (by dsimp only; omega)
      dsimp only
      unfold dayF at e2 ⊢
      rw [all_take_succ hg, h2, comb_none, ← e2]
    · have hne : (tidyF f).2.2.1 ≠ [] := fun e => h2 (len_zero.2 e)
      have h2 : ¬ extF f = none := fun e => hne (tidy_nil.2 e)
      obtain ⟨x, hx⟩ := Option.ne_none_iff_exists'.1 h2
      have hw := hv f x hfm hx
      -- the day is told: is it better?
      have step : ∀ v : Int, v = sel x → cond (!decide (e = (0 : Int))) (A (v, (0 : Int), ((k + 1 : Nat) : Int))) (cond (decide ((decide (best < v)) = gr)) (A (v, (0 : Int), ((k + 1 : Nat) : Int))) (A (best, e, ((k + 1 : Nat) : Int)))) := by
        intro v ev
        have next : ∀ b : Int, (∀ y, allF (l.take k) = some y → b = if gr = true then max (sel y) v else min (sel y) v) → (allF (l.take k) = none → b = v) → A (b, (0 : Int), ((k + 1 : Nat) : Int)) := by
          intro b q1 q2
          refine back _ ⟨k + 1, rfl, hk', ?_⟩ (by dsimp only; omega)
          dsimp only
          unfold dayF
          rw [all_take_succ hg, hx]
          cases hq : allF (l.take k) with
          | none =>
            rw [q2 hq, ev]
            rfl
          | some y =>
            rw [q1 y hq, ev]
            simp only [comb]
            rw [hs]
        unfold dayF at e2
        cases hq : allF (l.take k) with
        | none =>
          rw [hq] at e2
          have e3 : e = 9 := congrArg Prod.snd e2
          subst e3
          exact cond_yes (by decide) (next v (fun y hy => by rw [hq] at hy; cases hy) fun _ => rfl)
        | some y =>
          rw [hq] at e2
          have e3 : e = 0 := congrArg Prod.snd e2
          have e4 : best = sel y := congrArg Prod.fst e2
          subst e3
          refine cond_no (by decide) (cond_dec (fun h3 => next v (fun z hz => ?_) fun hz => absurd (hq.symm.trans hz) (by simp)) fun h3 => next best (fun z hz => ?_) fun hz => absurd (hq.symm.trans hz) (by simp)) <;> rw [hq] at hz <;> cases hz
          · rw [← e4, ← h3]
            by_cases hb : best < v
            · rw [if_pos (by simpa using hb)]; omega
            · rw [if_neg (by simpa using hb)]; omega
          · rw [← e4]
            cases gr with
            | true =>
              have : ¬ best < v := fun q => h3 (by simpa using q)
              rw [if_pos rfl]; omega
            | false =>
              have : best < v := by simpa using h3
              rw [if_neg (by decide)]; omega
      unfold WayV at hw
      refine cond_bool (fun h3 => ?_) fun h3 => ?_
      · have h3 : (tidyF f).1 = true := h3
        rw [if_pos h3] at hw
        obtain ⟨s, w1, w2, w3, w4⟩ := hw
        exact gcall_eq w1 (callP_eq (ok_env_pick w2 w3) (step _ w4))
      · have h3 : (tidyF f).1 = false := h3
        rw [if_neg (by rw [h3]; decide)] at hw
        obtain ⟨r, w1, w2⟩ := hw
        exact callP_eq (ok_env_pick hne (by omega)) (gcall_eq w1 (step _ w2))
  · rw [List.take_of_length_le (by have h1 : ¬ (k : Int) < l.length := h1; omega)] at e2
    exact e2

theorem cl_First : CloSpec bs 35 [] [] (.pair (.int .i64) (.int .i64)) (.tup (.pair (.int .i64) .bool)) (fun x => some (firstS x.1 x.2)) := ⟨(ok_unit_First (kind := 0) (i := 0)).1, fun x r hx => by cases hx; exact ok_unit_First⟩
theorem cl_Last : CloSpec bs 98 [] [] (.pair (.int .i64) (.int .i64)) (.tup (.pair (.int .i64) .bool)) (fun x => some (lastS x.1 x.2)) := ⟨(ok_unit_Last (kind := 0) (i := 0)).1, fun x r hx => by cases hx; exact ok_unit_Last⟩
theorem ok_env_starts {f : Leaf} : FnE bs n_env_starts (sApiLeaf.compsE f) (.slice sRun) (· = f.2.2.1) := ok_of (e_env_starts f _) rfl rfl
theorem cl_starts : CloSpec bs 36 [] [] sApiLeaf (.slice sRun) (fun x : Leaf => some x.2.2.1) := ⟨(ok_env_starts (f := (false, 0, [], []))).1, fun x r hx => by cases hx; rw [List.append_nil]; exact ok_env_starts⟩
theorem way_of {gr : Bool} {g1 : Int × Int → Option (Int × Bool)} {g2 : Leaf → Option Runs} {f : Leaf} {q : Q4} (h : extF f = some q) (hla : (tidyF f).2.2.1.length ≤ 100000000000) (hlb : (tidyF f).2.2.2.length ≤ 100000000000) {v : Int}
    (hu : ∀ u s, ofF f = some (.inl (u, s)) → (0 ≤ loF s ∧ loF s < VCal.ucount u) → (0 ≤ hiF s ∧ hiF s < VCal.ucount u) → ∃ r, g1 (u, if gr = true then hiF s else loF s) = some r ∧ r.1 = v)
    (hb : ∀ a b, ofF f = some (.inr (a, b)) → ∃ s, g2 (true, 0, a, b) = some s ∧ (s = a ∨ s = b) ∧ (if gr = true then hiF s else loF s) = v) : WayV gr g1 g2 (tidyF f) v := by
  unfold WayV
  rcases ho : ofF f with _ | ⟨u, s⟩ | ⟨a, b⟩
  · rw [ext_none.2 ho] at h; cases h
  · have e : tidyF f = (false, u, s, []) := by unfold tidyF; rw [ho]
    obtain ⟨h1, h2, h3, h4, h5, h6, h7⟩ := of_units ho
    have b1 := Within.bounds h6 (mem_lo h6.1 h5)
    have b2 := Within.bounds h6 (mem_hi h6.1 h5)
    rw [e, if_neg (by simp)]
    exact hu u s ho (by omega) (by omega)
  · have e : tidyF f = (true, 0, a, b) := by unfold tidyF; rw [ho]
    obtain ⟨sa, sb, na, nb, l1, l2⟩ := span_ends ho
    rw [e] at hla hlb
    rw [e, if_pos rfl]
    obtain ⟨s, w1, w2, w3⟩ := hb a b ho
    rcases w2 with rfl | rfl
    · exact ⟨_, w1, na, hla, w3⟩
    · exact ⟨_, w1, nb, hlb, w3⟩

section
variable {l : List Leaf} (hl : FewL 1000 l)

theorem FewL.tidy {f : Leaf} (hl : FewL 1000 l) (hf : f ∈ l) : (tidyF f).2.2.1.length ≤ 100000000000 ∧ (tidyF f).2.2.2.length ≤ 100000000000 := by
  have := hl.2 f hf
  have := tidy_lens f
  omega

theorem ok_env_Earliest (hl : FewL 1000 l) : FnE bs n_env_Earliest ((Shape.slice sApiLeaf).compsE l) (.tup (.pair (.int .i64) (.int .i64))) (· = dayF (·.1) l) := by
  refine ok_of (e_env_Earliest l _) rfl ?_
  unfold c_env_Earliest
  refine ⟨_, cl_First, _, cl_starts, callP_eq (ok_env_all (sel := (·.1)) hl (fun f q hf hq => ?_) fun p q => rfl) rfl⟩
  have ht := hl.tidy hf
  refine way_of hq ht.1 ht.2 (fun u s ho b1 b2 => ⟨_, rfl, ?_⟩) fun a b ho => ⟨_, rfl, .inl rfl, ?_⟩ <;> unfold extF at hq <;> rw [ho] at hq <;> cases hq
  · show (firstS u (loF s)).1 = _
    unfold firstS
    rw [if_pos (by omega)]
  · rfl

end
end Go.Proofs.YtgeefhjlfdidmaaGreatDoor.V


/- What sets of units cover: plain facts. No program in sight. -/
namespace Go.Proofs.YtgeefhjlfdidmaaGreatDoor.V
set_option linter.unusedVariables false
set_option linter.unusedSimpArgs false

def unitsF (u : Int) (s : Runs) : Runs := clipF (makeF s) 0 (VCal.ucount u - 1)
theorem units_sane (u : Int) (s : Runs) : Sane (unitsF u s) := sane_clip (make_sane s)
theorem units_length (u : Int) (s : Runs) : (unitsF u s).length ≤ s.length := Nat.le_trans (clip_length _ _ _) (make_length s)
theorem mem_units {u : Int} {s : Runs} {n : Int} : mem (unitsF u s) n ↔ mem (makeF s) n ∧ 0 ≤ n ∧ n < VCal.ucount u := by
  unfold unitsF
  rw [mem_clip]
  constructor
  · rintro ⟨a, b, c⟩; exact ⟨a, b, by omega⟩
  · rintro ⟨a, b, c⟩; exact ⟨a, b, by omega⟩

theorem units_in {u : Int} {s : Runs} {r : Int × Int} (h : r ∈ unitsF u s) : 0 ≤ r.1 ∧ r.1 ≤ r.2 ∧ r.2 < VCal.ucount u := by
  have h1 := (Sane.bounds (units_sane u s) r h).2.1
  have a := (mem_units (u := u) (s := s) (n := r.1)).1 ⟨r, h, Int.le_refl _, h1⟩
  have b := (mem_units (u := u) (s := s) (n := r.2)).1 ⟨r, h, h1, Int.le_refl _⟩
  omega

end Go.Proofs.YtgeefhjlfdidmaaGreatDoor.V


/- image.units, image.Cover, cover: their contracts. No condition of its own. -/
namespace Go.Proofs.YtgeefhjlfdidmaaGreatDoor.V
open Go
set_option linter.unusedVariables false
set_option linter.unusedSimpArgs false

theorem ok_image_units {u : Int} {s : Runs} (hl : s.length < 100000000000) : FnE bs n_image_units ((Shape.pair (.int .i64) (.slice sRun)).compsE (u, s)) (.slice sRun) (· = unitsF u s) := by
  refine ok_of (e_image_units (u, s) _) rfl ?_
  unfold c_image_units
  have hc := VCal.ucount_pos u
  refine callP_eq ok_unit_Count ?_
  rw [w64_of (n := VCal.ucount u - 1) (by omega)]
  exact callP_eq (ok_sets_ClipA hl) rfl

/-! ### Possible -/

noncomputable def covG (d : Int) (f : Leaf) : Option Bool := if f.2.2.1.length ≤ 100000000000 ∧ f.2.2.2.length ≤ 100000000000 then some (@decide (CoversF f d) (Classical.propDecidable _)) else none

theorem ok_cover_Possible_1 {d : Int} {f : Leaf} (hla : f.2.2.1.length ≤ 100000000000) (hlb : f.2.2.2.length ≤ 100000000000) : FnE bs n_cover_Possible_1 ([] ++ Shape.compsE sApiLeaf f ++ [(.ip [(.p (.int .i64) d)] 0)]) .bool (· = @decide (CoversF f d) (Classical.propDecidable _)) := by
  refine ok_of (e_cover_Possible_1 d f _) rfl ?_
  unfold c_cover_Possible_1
  exact callP_of (ok_leaf_Covers hla hlb) fun r hr => by rw [hr]

theorem cl_Possible {d : Int} : CloSpec bs 39 [] [(.ip [(.p (.int .i64) d)] 0)] sApiLeaf .bool (covG d) := ⟨(ok_cover_Possible_1 (d := 0) (f := (false, 0, [], [])) (by decide) (by decide)).1, fun x r hx => by
  unfold covG at hx
  split at hx
  · rename_i h
    cases hx
    exact ok_cover_Possible_1 h.1 h.2
  · cases hx⟩

open Classical in
theorem ok_slices_IndexFunc {l : List Leaf} {d : Int} (hl : FewL 1000 l) : FnE bs n_slices_IndexFunc ((Shape.pair (.slice sApiLeaf) (.func sApiLeaf .bool)).compsE (l, covG d)) (.int .i64) (fun r => 0 ≤ r ↔ ∃ f ∈ l, CoversF f d) := by
  refine ok_of (e_slices_IndexFunc (l, covG d) _) rfl ?_
  unfold c_slices_IndexFunc
  have hll := hl.1
  refine loopP_of (fun z : Int => ∃ k : Nat, z = k ∧ k ≤ l.length ∧ ∀ (i : Nat) f, i < k → l[i]? = some f → ¬ CoversF f d) (fun z => l.length - z.toNat) ?_ ⟨0, rfl, Nat.zero_le _, fun i f h => by omega⟩
  rintro _ A ⟨k, rfl, hk, hi⟩ back
  refine cond_dec (fun h1 => ⟨⟨by omega, h1⟩, ?_⟩) fun h1 => ?_
  · have h1 : (k : Int) < l.length := h1
    have hk' : k < l.length := by omega
    have hg := List.getElem?_eq_getElem hk'
    generalize l[k] = f at hg
    have hfm := List.mem_of_getElem? hg
    have hf := hl.2 f hfm
    dsimp only
    rw [toNat_ofNat, rd_of (s := sApiLeaf) hg, w_succ (by omega)]
    refine gcall_eq (show covG d f = _ from if_pos (by omega)) (cond_dec (fun h => ?_) fun h => ?_)
    · exact ⟨fun _ => ⟨f, hfm, h⟩, fun _ => Int.natCast_nonneg k⟩
    · refine back _ ⟨k + 1, rfl, hk', fun i g hik hg2 => ?_⟩ (by omega)
      by_cases e : i = k
      · subst e; rw [hg] at hg2; cases hg2; exact h
      · exact hi i g (by omega) hg2
  · refine ⟨fun h => absurd h (by decide), ?_⟩
    rintro ⟨f, hf, hh⟩
    obtain ⟨i, hi2⟩ := List.getElem?_of_mem hf
    have := (List.getElem?_eq_some_iff.1 hi2).1
    exact absurd hh (hi i f (by have h1 : ¬ (k : Int) < l.length := h1; omega) hi2)

open Classical in
theorem ok_slices_ContainsFunc {l : List Leaf} {d : Int} (hl : FewL 1000 l) : FnE bs n_slices_ContainsFunc ((Shape.pair (.slice sApiLeaf) (.func sApiLeaf .bool)).compsE (l, covG d)) .bool (· = decide (∃ f ∈ l, CoversF f d)) := by
  refine ok_of (e_slices_ContainsFunc (l, covG d) _) rfl ?_
  unfold c_slices_ContainsFunc
  exact callP_of (ok_slices_IndexFunc hl) fun r hr => be (decide_eq_decide.2 hr)

open Classical in
theorem ok_cover_Possible {l : List Leaf} {d : Int} (hl : FewL 1000 l) : FnE bs n_cover_Possible ((Shape.pair (.slice sApiLeaf) (.int .i64)).compsE (l, d)) .bool (· = decide (∃ f ∈ l, CoversF f d)) := by
  refine ok_of (e_cover_Possible (l, d) _) rfl ?_
  unfold c_cover_Possible
  exact ⟨_, cl_Possible, callP_eq (ok_slices_ContainsFunc hl) rfl⟩

/-! ### Days, Sure, Certain -/

end Go.Proofs.YtgeefhjlfdidmaaGreatDoor.V


/- The first and the last days of units, and units within days: plain facts. No program in sight. -/
namespace Go.Proofs.YtgeefhjlfdidmaaGreatDoor.V
set_option linter.unusedVariables false
set_option linter.unusedSimpArgs false

theorem upTo_length (lo hi : Int) : (upTo lo hi).length = (hi + 1 - lo).toNat := by unfold upTo; simp

def singles (l : List Int) : Runs := l.map fun n => (n, n)

/-- The first or last days of units: told as a set, if they are not too many. -/
def marksF (g : Int → Int → Int) (u : Int) (s : Runs) : Runs × Bool :=
  if u = 0 then (if 400 < (unitsF u s).length then ([], false) else (unitsF u s, true))
  else if 400 < (nums (unitsF u s)).length then ([], false)
  else (makeF (singles ((nums (unitsF u s)).map (g u))), true)

/-- Days of units, one of each: within the unit. -/
structure DayIn (g : Int → Int → Int) : Prop where
  is : ∀ {u i : Int}, 0 ≤ i → i < VCal.ucount u → VCal.ufirst u i ≤ g u i ∧ g u i ≤ VCal.ulast u i
  apart : ∀ {u i j : Int}, u ≠ 0 → 0 ≤ i → i < j → j < VCal.ucount u → g u i + 2 ≤ g u j

theorem nums_units {u : Int} {s : Runs} {i : Int} (h : i ∈ nums (unitsF u s)) : 0 ≤ i ∧ i < VCal.ucount u := (mem_units.1 (mem_nums.1 h)).2

/-! ### Units within days -/

/-- A place from which on something holds. -/
def FromR (cnt : Int) (P : Int → Prop) (r : Int) : Prop := 0 ≤ r ∧ r ≤ cnt ∧ (∀ i, 0 ≤ i → i < r → ¬ P i) ∧ ∀ i, r ≤ i → i < cnt → P i

theorem FromR.eq {cnt r r' : Int} {P : Int → Prop} (h : FromR cnt P r) (k : FromR cnt P r') : r = r' := by
  obtain ⟨h0, h1, h2, h3⟩ := h
  obtain ⟨k0, k1, k2, k3⟩ := k
  rcases Int.lt_or_le r r' with e | e
  · exact absurd (h3 r (Int.le_refl _) (by omega)) (k2 r h0 e)
  · rcases Int.lt_or_le r' r with e2 | e2
    · exact absurd (k3 r' (Int.le_refl _) (by omega)) (h2 r' k0 e2)
    · omega

end Go.Proofs.YtgeefhjlfdidmaaGreatDoor.V


/- image.each's closure: what it hands on. No condition of its own. -/
namespace Go.Proofs.YtgeefhjlfdidmaaGreatDoor.V
open Go Go.RowKit Go.Shelf
attribute [local go_sem] Oper.semAt_some
set_option linter.unusedVariables false
set_option linter.unusedSimpArgs false

/-- What is handed on, one by one. -/
def handL (P : Program) (m : Mem) (xs : List Int) : List (Handed P m (.int .i64) xs) := xs.attach.map fun x => ⟨(x.1, .int .i64 x.1), by show Value.int .i64 x.1 = Value.int .i64 x.1; rfl, x.2⟩

theorem hand_map (P : Program) (m : Mem) (xs : List Int) : (handL P m xs).map (·.1.1) = xs := by
  unfold handL
  rw [List.map_map]
  exact List.attach_map_subtype_val xs

theorem hand_length (P : Program) (m : Mem) (xs : List Int) : (handL P m xs).length = xs.length := by unfold handL; simp

theorem hand_get (P : Program) (m : Mem) (xs : List Int) {j : Nat} {x : Int} (h : xs[j]? = some x) : ∃ e : Handed P m (.int .i64) xs, (handL P m xs)[j]? = some e ∧ e.1.2 = .int .i64 x := by
  unfold handL
  have hl := (List.getElem?_eq_some_iff.1 h)
  refine ⟨⟨(x, .int .i64 x), (by show Value.int .i64 x = Value.int .i64 x; rfl), List.mem_of_getElem? h⟩, ?_, rfl⟩
  rw [List.getElem?_map]
  obtain ⟨h1, h2⟩ := hl
  rw [List.getElem?_eq_getElem (by simpa using h1)]
  simp [h2]

theorem drop_cons' {α : Type} {s : List α} {k : Nat} {r : α} (h : s[k]? = some r) : s.drop k = r :: s.drop (k + 1) := by
  obtain ⟨h1, h2⟩ := List.getElem?_eq_some_iff.1 h
  rw [List.drop_eq_getElem_cons h1, h2]

theorem it_wrap {k a : Nat} (h : k + 1 ≤ a) (hl : a ≤ 100000000000) : wrap64 ((k : Int) + 1) = ((k + 1 : Nat) : Int) := by unfold wrap64; omega
theorem it_measure {k a : Nat} (h : k + 1 ≤ a) (hl : a ≤ 100000000000) : a - (intOf (.int .i64 (wrap64 ((k : Int) + 1)))).toNat < a - (intOf (.int .i64 (k : Int))).toNat := by
  rw [it_wrap h hl]
  simp only [intOf, Int.toNat_natCast]
  omega

set_option maxRecDepth 100000 in
set_option maxHeartbeats 2000000 in
theorem iter_each {z : List (Int × Int)} (hz : ∀ r ∈ z, -1152921504606846976 ≤ r.1 ∧ r.2 ≤ 1152921504606846976) (hl : z.length ≤ 100000000000) (T : TypeId → Bool) (hT : T 63 = false) : IterE bs 192 [.ip [.p (.slice sRun) z] 0] (.int .i64) T (nums z) := by
  refine ⟨⟨_, _, Tryz.func192, rfl, by decide⟩, ?_⟩
  intro m w us ht hh hu l J Jx W hW hJ hJx hY h0
  obtain ⟨u, us', e1, ⟨b, o, cs, e2, e3, e4⟩, e5⟩ := RepL_cons.1 hu
  rw [RepL_nil.1 e5] at e1
  subst e1 e2
  obtain ⟨sv, cs', e6, ⟨base, cap, e7, ecap, e8⟩, e9⟩ := RepL_cons.1 e3
  rw [RepL_nil.1 e9] at e6
  subst e6 e7
  have hs : m b o = some (.slice base z.length cap) := e4 0 _ rfl
  have hHW : Holds W m := fun bb oo v hv => by
    have h1 := hh bb oo v hv
    obtain ⟨ob, h2, _⟩ := cell_obj h1
    exact (World.cell?_of_block (a := ⟨bb, oo, none⟩) (hW.block bb (Array.getElem?_eq_some_iff.1 h2).1)).trans h1
  have c1 : W.cell? ⟨b, o, none⟩ = some (.slice base z.length cap) := hHW _ _ _ hs
  show CallsIn Fence.wide 3 Tryz.prog 192 #[.func (.yield l) #[] #[], .pointer (some ⟨b, o, none⟩)] W _
  refine callsIn_of_wp Tryz.func192 rfl trivial ?_ rfl
  simp only [Tryz.ntmps192, List.size_toArray, List.length_cons, List.length_nil, Nat.reduceAdd, Nat.reduceSub, Array.replicate_succ, Array.replicate_zero, List.push_toArray, List.append_toArray, List.nil_append, List.cons_append]
  have hz0 : J ((handL bs.P m (nums z)).take (nums (z.take 0)).length) W := h0
  clear e4 e9 e5 hu e3 h0
  gi_wp2
  gi_loopw [8] (fun i wr => ∃ k : Nat, k ≤ z.length ∧ i = .int .i64 k ∧ J ((handL bs.P m (nums z)).take (nums (z.take k)).length) wr ∧ Holds wr m ∧ W.heap.size ≤ wr.heap.size)
    (fun i _ => z.length - (intOf i).toNat)
  case atStart => exact ⟨0, Nat.zero_le _, rfl, hz0, hHW, Nat.le_refl _⟩
  case round =>
    rename World => wo
    obtain ⟨k, hk, rfl, hJs, hH, hsz⟩ := hrel
    by_cases hlt : k < z.length
    · have hg := List.getElem?_eq_getElem hlt
      generalize z[k] = r at hg
      have hr := hz r (List.mem_of_getElem? hg)
      rcases e8 with e | ⟨b2, o2, e, e8⟩
      · rw [e] at hlt; cases hlt
      · subst e
        obtain ⟨us, q1, q2⟩ := e8 k r hg
        obtain ⟨_, _, rfl, ⟨_, rfl, q3⟩, ⟨_, rfl, q4⟩⟩ := q1
        have q3 : _ = Value.int .i64 r.1 := q3
        have q4 : _ = Value.int .i64 r.2 := q4
        subst q3 q4
        have c2 : wo.cell? ⟨b2, o2 + k * 2, none⟩ = some (.int .i64 r.1) := hH _ _ _ (q2 0 _ rfl)
        have c3 : wo.cell? ⟨b2, o2 + k * 2 + 1, none⟩ = some (.int .i64 r.2) := hH _ _ _ (q2 1 _ rfl)
        gi_wp2
        have hparts : z = z.take k ++ r :: z.drop (k + 1) := by rw [← drop_cons' hg, List.take_append_drop]
        have hnum : nums z = nums (z.take k) ++ (upTo r.1 r.2 ++ nums (z.drop (k + 1))) := by
          conv => lhs; rw [hparts]
          unfold nums
          rw [List.flatMap_append, List.flatMap_cons]
        have hnxt : (nums (z.take (k + 1))).length = (nums (z.take k)).length + (r.2 + 1 - r.1).toNat := by
          unfold nums
          rw [List.take_add_one, hg, List.flatMap_append, List.length_append]
          simp [upTo]
        obtain ⟨q0, hq0⟩ : ∃ q0, (nums (z.take k)).length = q0 := ⟨_, rfl⟩
        have hnth : ∀ i : Nat, (i : Int) ≤ r.2 - r.1 → (nums z)[q0 + i]? = some (r.1 + i) := fun i hi => by
          rw [hnum, ← hq0, List.getElem?_append_right (by omega), Nat.add_sub_cancel_left, List.getElem?_append_left (by simp [upTo]; omega)]
          unfold upTo
          rw [List.getElem?_map, List.getElem?_range (by omega)]
          rfl
        rw [hq0] at hJs hnxt
        have hB0 : w.heap.size ≤ wo.heap.size := Nat.le_trans hW.size hsz
        have hJ1 := hJ _ _ _ none hJs (World.grownBy_alloc wo (.cells #[.int .i64 r.1, .int .i64 r.2] 63) none) (fun _ e => by cases e)
        have hH1 : Holds (wo.alloc (.cells #[.int .i64 r.1, .int .i64 r.2] 63)) m := fun bb oo v hv => by
          have h1 := hH bb oo v hv
          obtain ⟨ob, h2, _⟩ := cell_obj h1
          exact (World.cell?_of_block (a := ⟨bb, oo, none⟩) (Below.heap_alloc wo _ bb (Array.getElem?_eq_some_iff.1 h2).1)).trans h1
        have hB1 := World.alloc_heap_new wo (.cells #[.int .i64 r.1, .int .i64 r.2] 63)
        clear hJs hH c2 c3 q2 e8 c1 hparts hnum
        gi_loopw [5] (fun v w2 => ∃ n : Int, v = .int .i64 n ∧ r.1 ≤ n ∧ (n = r.1 ∨ n ≤ r.2 + 1) ∧ J ((handL bs.P m (nums z)).take (q0 + (n - r.1).toNat)) w2 ∧ Holds w2 m ∧ wo.heap.size < w2.heap.size ∧ w2.heap[wo.heap.size]? = some (.cells #[.int .i64 r.1, .int .i64 r.2] 63 (0, 0)))
          (fun v _ => (r.2 + 1 - intOf v).toNat)
        case atStart =>
          refine ⟨r.1, rfl, Int.le_refl _, .inl rfl, ?_, hH1, by simp, hB1⟩
          rw [Int.sub_self]
          exact hJ1
        case round =>
          rename World => w2
          obtain ⟨n, rfl, n1, n2, hJ2, hH2, hs2, hb2⟩ := hrel
          have c4 : w2.cell? ⟨wo.heap.size, 1, none⟩ = some (.int .i64 r.2) := by unfold World.cell?; rw [hb2]; rfl
          by_cases hn : n ≤ r.2
          · obtain ⟨e, he1, he2⟩ := hand_get bs.P m (nums z) (hnth (n - r.1).toNat (by omega))
            rw [show r.1 + ((n - r.1).toNat : Int) = n by omega] at he2
            have hl2 : q0 + (n - r.1).toNat < (handL bs.P m (nums z)).length := (List.getElem?_eq_some_iff.1 he1).1
            obtain ⟨fn, tmps, assign, body, hy, hR⟩ := hY _ e w2 hJ2 (by rw [List.length_take]; rw [hand_length] at hl2 ⊢; omega)
            rw [he2] at hy
            have hy : (Instr.yield l #[.int .i64 n]).run Tryz.prog w2 = .ok (.round l fn tmps assign body) w2 := hy
            have hR : RoundIn Fence.wide 2 Tryz.prog l fn tmps assign body w2 _ := hR
            have hw1 : wrap64 (n + 1) = n + 1 := by unfold wrap64; omega
            have htk : (handL bs.P m (nums z)).take (q0 + (n + 1 - r.1).toNat) = (handL bs.P m (nums z)).take (q0 + (n - r.1).toNat) ++ [e] := by
              rw [show q0 + (n + 1 - r.1).toNat = q0 + (n - r.1).toNat + 1 by omega, List.take_add_one, he1]
              rfl
            gi_wp2
            refine hR.mono ?_
            rintro e4 W3 (⟨rfl, hJ3, hk3⟩ | ⟨rfl, hJx3⟩)
            · have hb3 := hk3.2.2 _ _ _ _ hB0 hT hb2
              have hs3 := Nat.lt_of_lt_of_le hs2 hk3.2.1
              have hH3 := hk3.1 hH2
              rw [← htk] at hJ3
              clear htk hy hk3 hR he1 he2
              gi_wp2
              go_roundw
              case rel => exact ⟨n + 1, rfl, by omega, .inr (by omega), hJ3, hH3, hs3, hb3⟩
              case measure => simp [intOf]; omega
            · clear htk hy hR he1 he2
              gi_wp2
              refine bodyPost_ret (results_none rfl _ _ _) rfl ?_
              exact ⟨⟨_, rfl⟩, .inr ⟨_, trivial, hJx3⟩⟩
          · have hq1 : q0 + (n - r.1).toNat = q0 + (r.2 + 1 - r.1).toNat := by omega
            rw [hq1, ← hnxt] at hJ2
            have hs4 : W.heap.size ≤ w2.heap.size := Nat.le_trans hsz (Nat.le_of_lt hs2)
            have hk1 : k + 1 ≤ z.length := hlt
            have hw2 := it_wrap hk1 hl
            have hme := it_measure hk1 hl
            clear hq1 hnxt hz hr hnth n1 n2 hJ1 hH1 hB1 hB0 hz0 hHW hl hs2 hsz hlt
            gi_wp2
            go_roundw
            case rel => exact ⟨k + 1, hk1, congrArg _ hw2, hJ2, hH2, hs4⟩
            case measure => exact hme
    · obtain rfl : k = z.length := by omega
      gi_wp2
      go_end0
      exact ⟨⟨_, rfl⟩, .inl ⟨_, (by
        rw [List.take_length]
        rw [List.take_of_length_le (by rw [hand_length]; exact Nat.le_refl _)]
        exact hand_map _ _ _), hJs⟩⟩
end Go.Proofs.YtgeefhjlfdidmaaGreatDoor.V


/- image.marks: its condition, tied to the function's own code by the kernel. No condition of its own. -/
namespace Go.Proofs.YtgeefhjlfdidmaaGreatDoor.V
open Go
set_option linter.unusedVariables false
abbrev n_image_marks : Nat := 97
noncomputable def g_image_each_in : Cfg := { toBase := bs, lv := fun _ => ([], [], []), rows := [] }
noncomputable def g_image_marks : Cfg := { toBase := bs, lv := fun | 2009 => ([9], [2, 3], [4]) | _ => ([], [], []), rows := [9], rs := .int .i64, han := hanL bs [(142, .inl g_image_each_in)] }
def c_image_marks (a : Int × List (Int × Int) × (Int × Int → Option (Int × Bool))) (R : List (Int × Int) × Bool → Prop) : Prop :=
  callP bs 99 (.pair (.int .i64) (.slice sRun)) (.slice sRun) (a.1, a.2.1) (fun r1 => cond (decide (a.1 = (0 : Int)))
    (callP bs 63 (.slice sRun) .bool r1 (fun r2 => R (r1, !r2)))
    (callP bs 12 (.slice sRun) (.int .i64) r1 (fun r3 => cond (decide ((400 : Int) < r3)) (R ([], false))
      (itP bs 192 [.ip [.p (.slice sRun) r1] 0] (.int .i64) (fun t => (Nat.beq 3 t || (false || false))) (fun xs => rangeP (S := List Int × Unit) (fun x y back => gcall a.2.2 (a.1, x) (fun r4 => chk ((y.1.length + [r4.1].length) * 8 ≤ 140737488355328) (back (y.1 ++ [r4.1], ()))))
        (fun y => callP bs 143 (.slice (.int .i64)) (.slice sRun) y.1 (fun r5 => R (r5, true))) xs ([], ()))))))
theorem e_image_marks (a : Int × List (Int × Int) × (Int × Int → Option (Int × Bool))) (R : List (Int × Int) × Bool → Prop) : g_image_marks.fnRK 97 (Shape.compsE (.pair (.int .i64) (.pair (.slice sRun) (.func (.pair (.int .i64) (.int .i64)) (.tup (.pair (.int .i64) .bool))))) a) (.tup (.pair (.slice sRun) .bool)) R = c_image_marks a R := by kernel_rfl
end Go.Proofs.YtgeefhjlfdidmaaGreatDoor.V


/- image: marks, Starts, Ends, search, Inside, Touch: their contracts. No condition of its own. -/
namespace Go.Proofs.YtgeefhjlfdidmaaGreatDoor.V
open Go
set_option linter.unusedVariables false
set_option linter.unusedSimpArgs false

theorem ok_rf {B : Base} {g : Cfg} {f : FuncId} {args : List EV} {out : Shape} {R : out.Val → Prop} {C : Prop} (e : g.fnRK f args out R = C) (hb : g.toBase = B) (H : HanOK g) (h : C) : FnE B f args out R := by rw [← hb]; exact fnR_sound H (e.mpr h)

theorem nums_count : ∀ {s : Runs} {a : Int}, SaneFrom a s → ((nums s).length : Int) = countF s
  | [], _, _ => rfl
  | r :: s, a, h => by
    have h1 := nums_count h.2.2.2
    have h2 := h.1
    unfold nums at *
    rw [List.flatMap_cons, List.length_append, upTo_length]
    unfold countF
    omega

theorem ok_image_marks {u : Int} {s : Runs} {g : Int → Int → Int} {f : Int × Int → Int × Bool} (hl : s.length < 100000000000) (hf : ∀ i, 0 ≤ i → i < VCal.ucount u → (f (u, i)).1 = g u i) :
    FnE bs n_image_marks ((Shape.pair (.int .i64) (.pair (.slice sRun) (.func (.pair (.int .i64) (.int .i64)) (.tup (.pair (.int .i64) .bool))))).compsE (u, s, fun x => some (f x))) (.tup (.pair (.slice sRun) .bool)) (fun r => r.2 = (marksF g u s).2 ∧ (r.2 = true → r.1 = (marksF g u s).1)) := by
  refine ok_rf (e_image_marks (u, s, fun x => some (f x)) _) rfl (HanOK.ofList [(142, .inl g_image_each_in)] rfl rfl ⟨rfl, HanOK.none rfl rfl, trivial⟩) ?_
  unfold c_image_marks
  refine callP_eq (ok_image_units hl) ?_
  have hs := units_sane u s
  have hlen := units_length u s
  have hc := VCal.ucount_pos u
  have hus := make_self hs
  refine cond_dec (fun e => ?_) fun e => ?_
  · have e : u = 0 := e
    refine callP_eq (ok_sets_WideA (s := unitsF u s) (by omega)) ?_
    rw [hus]
    unfold marksF
    rw [if_pos e]
    by_cases hw : 400 < (unitsF u s).length
    · rw [if_pos hw, decide_eq_true hw]
      exact ⟨rfl, fun h => by cases h⟩
    · rw [if_neg hw, decide_eq_false hw]
      exact ⟨rfl, fun _ => rfl⟩
  · have e : ¬ u = 0 := e
    refine callP_eq (ok_runs_CountA (s := unitsF u s) (by omega)) ?_
    rw [hus, ← nums_count hs]
    unfold marksF
    rw [if_neg e]
    refine cond_dec (fun hw => ?_) fun hw => ?_
    · have hw : (400 : Int) < ((nums (unitsF u s)).length : Int) := hw
      rw [if_pos (by omega)]
      exact ⟨rfl, fun h => by cases h⟩
    · have hw : ¬ (400 : Int) < ((nums (unitsF u s)).length : Int) := hw
      rw [if_neg (by omega)]
      refine ⟨nums (unitsF u s), iter_each (z := unitsF u s) (fun r hr => by have := units_in hr; omega) (by omega) _ rfl, ?_⟩
      refine ⟨fun pre y => y.1 = pre.map (g u), rfl, fun pre x y hx hpl hy => ?_, fun y hy => ?_⟩
      · refine gcall_eq rfl ⟨?_, ?_⟩
        · have : y.1.length = pre.length := by rw [hy, List.length_map]
          show (y.1.length + 1) * 8 ≤ _
          omega
        · show y.1 ++ [(f (u, x)).1] = (pre ++ [x]).map (g u)
          have b := nums_units hx
          rw [hy, List.map_append, hf x b.1 b.2]
          rfl
      · have hyl : y.1.length ≤ 400 := by rw [hy, List.length_map]; omega
        refine callP_eq (ok_runs_Of (l := y.1) (by omega)) ⟨rfl, fun _ => ?_⟩
        show makeF (y.1.map fun n => (n, n)) = _
        rw [hy]
        rfl

theorem ok_image_Starts {u : Int} {s : Runs} (hl : s.length < 100000000000) : FnE bs n_image_Starts ((Shape.pair (.int .i64) (.slice sRun)).compsE (u, s)) (.tup (.pair (.slice sRun) .bool)) (· = marksF VCal.ufirst u s) := by
  refine ok_of (e_image_Starts (u, s) _) rfl ?_
  unfold c_image_Starts
  refine ⟨_, cl_First, callP_of (ok_image_marks (g := VCal.ufirst) hl fun i h0 h1 => by show (firstS u i).1 = _; unfold firstS; rw [if_pos ⟨h0, h1⟩]) fun r hr => ?_⟩
  obtain ⟨h1, h2⟩ := hr
  refine cond_not (fun h => ?_) fun h => ?_
  · rw [h] at h1
    generalize hm : marksF VCal.ufirst u s = q at h1
    obtain ⟨l, b⟩ := q
    have h1 : false = b := h1
    subst h1
    have : l = [] := by
      unfold marksF at hm
      split at hm <;> split at hm <;> first | (cases hm; rfl) | cases hm
    rw [this]
  · rw [h2 h]
    rw [h] at h1
    exact Prod.ext rfl h1

theorem ok_image_Ends {u : Int} {s : Runs} (hl : s.length < 100000000000) : FnE bs n_image_Ends ((Shape.pair (.int .i64) (.slice sRun)).compsE (u, s)) (.tup (.pair (.slice sRun) .bool)) (· = marksF VCal.ulast u s) := by
  refine ok_of (e_image_Ends (u, s) _) rfl ?_
  unfold c_image_Ends
  refine ⟨_, cl_Last, callP_of (ok_image_marks (g := VCal.ulast) hl fun i h0 h1 => by show (lastS u i).1 = _; unfold lastS; rw [if_pos ⟨h0, h1⟩]) fun r hr => ?_⟩
  obtain ⟨h1, h2⟩ := hr
  refine cond_not (fun h => ?_) fun h => ?_
  · rw [h] at h1
    generalize hm : marksF VCal.ulast u s = q at h1
    obtain ⟨l, b⟩ := q
    have h1 : false = b := h1
    subst h1
    have : l = [] := by
      unfold marksF at hm
      split at hm <;> split at hm <;> first | (cases hm; rfl) | cases hm
    rw [this]
  · rw [h2 h]
    rw [h] at h1
    exact Prod.ext rfl h1

/-! ### Units within days -/

end Go.Proofs.YtgeefhjlfdidmaaGreatDoor.V


/- The program's points: numbers of a mask, what a point is. No condition of its own. -/
namespace Go.Proofs.YtgeefhjlfdidmaaGreatDoor.V
open Go Go.RowKit
set_option linter.unusedVariables false
set_option linter.unusedSimpArgs false

/-- What matches a mask. -/
def setF (s : ByteArray) : Runs := if saneM (bl s) = true then setL (bl s) else []

theorem setF_spec (s : ByteArray) : Sane (setF s) ∧ Upto 9999 (setF s) ∧ (∀ n, mem (setF s) n ↔ saneM (bl s) = true ∧ matchL (bl s) n) ∧ (setF s).length ≤ 1000002 := by
  unfold setF
  split
  · rename_i h
    obtain ⟨h1, h2, h3⟩ := setL_sane h
    refine ⟨h1, h2, fun n => by rw [h3 n]; exact ⟨fun k => ⟨h, k⟩, fun k => k.2⟩, ?_⟩
    have h' := h
    unfold saneM at h'
    simp only [Bool.and_eq_true, decide_eq_true_eq] at h'
    exact setL_length (k := (bl s).length) rfl (by omega) h'.1.2
  · rename_i h
    exact ⟨trivial, (fun r hr => by cases hr), fun n => ⟨fun k => (mem_nil k).elim, fun k => (h k.1).elim⟩, by simp⟩

/-- The numbers from 1 to a bound that match. -/
def insM (s : ByteArray) (b : Int) : List Int := nums (clipF (setF s) 1 b)

theorem mem_insM {s : ByteArray} {b n : Int} : n ∈ insM s b ↔ saneM (bl s) = true ∧ matchL (bl s) n ∧ 1 ≤ n ∧ n ≤ b := by
  unfold insM
  rw [mem_nums, mem_clip, (setF_spec s).2.2.1 n]
  exact ⟨fun h => ⟨h.1.1, h.1.2, h.2⟩, fun h => ⟨⟨h.1, h.2.1⟩, h.2.2⟩⟩

theorem pt_snoc {lo n : Int} (h : lo ≤ n) : upTo lo n = upTo lo (n - 1) ++ [n] := by
  unfold upTo
  rw [show (n + 1 - lo).toNat = (n - 1 + 1 - lo).toNat + 1 by omega, List.range_succ, List.map_append, List.map_cons, List.map_nil]
  congr 2
  omega

/-- Runs among some numbers have no more of these; as many, only if all. -/
theorem count_span : ∀ {s : Runs} {a B : Int}, SaneFrom a s → (∀ r ∈ s, r.2 ≤ B) → 0 ≤ countF s ∧ countF s ≤ max 0 (B - a - 1) ∧ (countF s = B - a - 1 → ∀ n, a + 2 ≤ n → n ≤ B → mem s n)
  | [], a, B, _, _ => by
    refine ⟨Int.le_refl _, by unfold countF; omega, fun h n h1 h2 => ?_⟩
    unfold countF at h
    omega
  | r :: s, a, B, h, k => by
    have h1 := h.1
    have h2 := h.2.1
    have h3 := k r (List.mem_cons_self ..)
    obtain ⟨i0, i1, i2⟩ := count_span (B := B) h.2.2.2 fun q hq => k q (List.mem_cons_of_mem _ hq)
    unfold countF
    refine ⟨by omega, by omega, fun e n n1 n2 => ?_⟩
    exact mem_cons.2 (.inl ⟨by omega, by omega⟩)

theorem sane_low {s : Runs} {a b : Int} (h : SaneFrom a s) (k : ∀ r ∈ s, b + 2 ≤ r.1) : SaneFrom b s := by
  cases s with
  | nil => trivial
  | cons r s => exact ⟨h.1, k r (List.mem_cons_self ..), h.2.2.1, h.2.2.2⟩

theorem mk_clip {s : Runs} {lo hi : Int} : ∀ r ∈ clipF s lo hi, lo ≤ r.1 ∧ r.1 ≤ r.2 ∧ r.2 ≤ hi := by
  intro r hr
  unfold clipF at hr
  obtain ⟨q, _, h⟩ := List.mem_filterMap.1 hr
  split at h
  · cases h; dsimp only; omega
  · cases h

theorem insM_clip (s : ByteArray) (b : Int) : SaneFrom (-1) (clipF (setF s) 1 b) ∧ ∀ r ∈ clipF (setF s) 1 b, r.2 ≤ b :=
  ⟨sane_low (sane_clip (setF_spec s).1) fun r hr => by have := mk_clip r hr; omega, fun r hr => (mk_clip r hr).2.2⟩

theorem insM_length {s : ByteArray} {b : Int} (hb : 1 ≤ b) : ((insM s b).length : Int) ≤ b ∧ (((insM s b).length : Int) = b → ∀ n, 1 ≤ n → n ≤ b → n ∈ insM s b) := by
  obtain ⟨h1, h2⟩ := insM_clip s b
  obtain ⟨c0, c1, c2⟩ := count_span h1 h2
  have e : ((insM s b).length : Int) = countF (clipF (setF s) 1 b) := nums_count h1
  refine ⟨by omega, fun h n h3 h4 => mem_nums.2 (c2 (by omega) n (by omega) h4)⟩

theorem ok_point_numbers {s : ByteArray} {b : Int} (hb : 1 ≤ b ∧ b ≤ 1000) : FnE bs n_point_numbers [.raw (.string s), .p (.int .i64) b] (.slice (.int .i64)) (· = insM s b) := by
  refine ok_han (e_point_numbers s b _) rfl (HanOK.ofList [(n_mask_Set, .raw (.slice sRun))] rfl rfl trivial) ?_
  unfold c_point_numbers
  obtain ⟨f1, f2, f3, f4⟩ := setF_spec s
  refine callAP_eq (ok_mask_Set s) (callP_eq (ok_sets_Clip (s := setF s) (lo := 1) (hi := b) (by omega) f1 (by unfold Lim; omega)) ?_)
  have hcl := clip_length (setF s) 1 b
  have hin := insM_clip s b
  have hle := (insM_length (s := s) hb.1).1
  unfold insM at hle ⊢
  generalize hc : clipF (setF s) 1 b = r2 at *
  have hci : ∀ r ∈ r2, 1 ≤ r.1 ∧ r.1 ≤ r.2 ∧ r.2 ≤ b := by rw [← hc]; exact mk_clip
  refine loopP_of (fun z : Unit × Int × List Int => ∃ j : Nat, z.2.1 = j ∧ j ≤ r2.length ∧ z.2.2 = nums (r2.take j)) (fun z => r2.length - z.2.1.toNat) ?_ ⟨0, rfl, Nat.zero_le _, rfl⟩
  rintro ⟨u, _, acc⟩ A ⟨j, rfl, hj, rfl⟩ back
  dsimp only at hj ⊢
  refine cond_dec (fun hlt => ⟨⟨by omega, hlt⟩, ?_⟩) fun hn => ?_
  · obtain ⟨r, hr⟩ : ∃ r, r2[j]? = some r := ⟨_, List.getElem?_eq_getElem (by omega)⟩
    rw [Int.toNat_natCast, rd_run hr]
    have hrb := hci r (List.mem_of_getElem? hr)
    have hnt : nums (r2.take (j + 1)) = nums (r2.take j) ++ upTo r.1 r.2 := by
      unfold nums
      rw [List.take_add_one, hr, List.flatMap_append]
      simp
    have hl1 : (nums (r2.take j)).length + (upTo r.1 r.2).length ≤ (nums r2).length := by
      rw [← List.length_append, ← hnt]
      unfold nums
      conv => rhs; rw [← List.take_append_drop (j + 1) r2, List.flatMap_append, List.length_append]
      omega
    rw [upTo_length] at hl1
    refine loopP_of (fun z : Unit × Int × List Int => r.1 ≤ z.2.1 ∧ z.2.1 ≤ r.2 + 1 ∧ z.2.2 = nums (r2.take j) ++ upTo r.1 (z.2.1 - 1)) (fun z => (r.2 + 1 - z.2.1).toNat) ?_ ⟨Int.le_refl _, by dsimp only; omega, by dsimp only; rw [upTo_nil (by omega), List.append_nil]⟩
    rintro ⟨u3, n, acc3⟩ A3 ⟨h1, h2, e3⟩ back3
    dsimp only at h1 h2 e3 ⊢
    subst e3
    refine cond_dec (fun hle2 => ⟨?_, back3 _ ⟨?_, ?_, ?_⟩ ?_⟩) fun hnle => back _ ⟨j + 1, ?_, by omega, ?_⟩ ?_
    · simp only [List.length_append, upTo_length, List.length_cons, List.length_nil]; omega
    · dsimp only; rw [w64_of (by omega)]; omega
    · dsimp only; rw [w64_of (by omega)]; omega
    · dsimp only
      rw [w64_of (by omega), show n + 1 - 1 = n by omega, pt_snoc h1, List.append_assoc]
    · dsimp only; rw [w64_of (by omega)]; omega
    · dsimp only; rw [w64_of (by omega)]; simp
    · dsimp only; rw [hnt, show n - 1 = r.2 by omega]
    · dsimp only; rw [w64_of (by omega)]; omega
  · show nums (r2.take j) = nums r2
    rw [show j = r2.length by omega, List.take_length]

/-- Has a mask so many signs, and some number that matches? -/
def someB (s : ByteArray) (n b : Int) : Bool := decide ((s.size : Int) = n) && decide (0 < ((insM s b).length : Int))

theorem ok_point_some {s : ByteArray} {n b : Int} (hb : 1 ≤ b ∧ b ≤ 1000) : FnE bs n_point_some [.raw (.string s), .p (.int .i64) n, .p (.int .i64) b] .bool (· = someB s n b) := by
  refine ok_han (e_point_some s n b _) rfl (HanOK.ofList [(n_point_numbers, .raw (.slice (.int .i64)))] rfl rfl trivial) ?_
  unfold c_point_some
  refine cond_dec (fun h => callAP_eq (ok_point_numbers hb) ?_) fun h => ?_
  · show decide _ = someB s n b
    unfold someB
    rw [decide_eq_true h]
    rfl
  · show false = someB s n b
    unfold someB
    rw [decide_eq_false h]
    rfl

/-- A point, as an abstract value. -/
abbrev ptE (k : Int) (y m d : ByteArray) : EV := .agg [.p (.int .i64) k, .raw (.string y), .raw (.string m), .raw (.string d)]

/-- Is it a point? -/
def saneP (k : Int) (y m d : ByteArray) : Bool := saneM (bl y) &&
  (if k = 0 then decide ((y.size : Int) = 4) && someB m 2 12 && someB d 2 31
   else if k = 1 then decide ((y.size : Int) = 4) && someB m 2 12 && strE d (bytesOf [])
   else if k = 2 then decide ((y.size : Int) = 4) && someB m 1 4 && strE d (bytesOf [])
   else if k = 3 then decide ((y.size : Int) = 4) && strE m (bytesOf []) && strE d (bytesOf [])
   else if k = 4 then decide ((y.size : Int) = 3) && strE m (bytesOf []) && strE d (bytesOf [])
   else if k = 5 then decide ((y.size : Int) = 2) && strE m (bytesOf []) && strE d (bytesOf [])
   else false)

theorem ok_point_Sane (k : Int) (y m d : ByteArray) : FnE bs n_point_Sane [ptE k y m d] .bool (· = saneP k y m d) := by
  refine ok_han (e_point_Sane k y m d _) rfl (HanOK.ofList [(n_mask_Sane, .raw .bool), (n_point_some, .raw .bool)] rfl rfl trivial) ?_
  unfold c_point_Sane
  refine callAP_eq (ok_mask_Sane y) (cond_not (fun h0 => by show false = saneP k y m d; unfold saneP; rw [h0]; rfl) fun h0 => ?_)
  have hR : ∀ x : Bool, x = saneP k y m d → (fun r : Bool => r = saneP k y m d) x := fun _ h => h
  have hS : ∀ {s n b}, 1 ≤ b ∧ b ≤ 1000 → FnE bs n_point_some [.raw (.string s), .p (.int .i64) n, .p (.int .i64) b] .bool (· = someB s n b) := fun h => ok_point_some h
  repeat' first
    | with_reducible refine cond_dec (fun _ => ?_) (fun _ => ?_)
    | refine callAP_eq (hS (by decide)) ?_
    | refine cond_bool (fun _ => ?_) (fun _ => ?_)
  all_goals
    refine hR _ ?_
    unfold saneP
    simp_all
end Go.Proofs.YtgeefhjlfdidmaaGreatDoor.V


/- The program's points: months and seasons, what is not too wide. No condition of its own. -/
namespace Go.Proofs.YtgeefhjlfdidmaaGreatDoor.V
open Go Go.RowKit
set_option linter.unusedVariables false
set_option linter.unusedSimpArgs false

theorem pt_take {s : Runs} {j : Nat} {r : Int × Int} (h : s[j]? = some r) : nums (s.take (j + 1)) = nums (s.take j) ++ upTo r.1 r.2 := by
  unfold nums
  rw [List.take_add_one, h, List.flatMap_append]
  simp

theorem pt_part {s : Runs} {j : Nat} {r : Int × Int} (h : s[j]? = some r) : (nums (s.take j)).length + (upTo r.1 r.2).length ≤ (nums s).length := by
  rw [← List.length_append, ← pt_take h]
  unfold nums
  conv => rhs; rw [← List.take_append_drop (j + 1) s, List.flatMap_append, List.length_append]
  omega

theorem years_count {s : Runs} (h : Sane s) (hu : Upto 9999 s) : (nums s).length ≤ 10000 := by
  have h1 := sane_low (b := -2) h fun r hr => by have := hu r hr; omega
  have h2 := (count_span (B := 9999) h1 fun r hr => (hu r hr).2.2).2.1
  have h3 := nums_count h1
  omega

/-- A year's units. -/
def partY (n : Int) (ins : List Int) (y : Int) : Runs := ins.map fun v => (y * n + v - 1, y * n + v - 1)

/-- Those of a run of years. -/
def partR (n : Int) (ins : List Int) (r : Int × Int) : Runs := if (ins.length : Int) = n then [(r.1 * n, r.2 * n + n - 1)] else (upTo r.1 r.2).flatMap (partY n ins)

theorem partY_length (n : Int) (ins l : List Int) : (l.flatMap (partY n ins)).length = l.length * ins.length := by
  induction l with
  | nil => simp
  | cons y l ih =>
    rw [List.flatMap_cons, List.length_append, ih, List.length_cons, Nat.succ_mul, Nat.add_comm]
    simp [partY]

theorem partR_length {n : Int} {ins : List Int} (hi : ins.length ≤ 12) : ∀ {l : Runs}, (∀ r ∈ l, r.1 ≤ r.2) → (l.flatMap (partR n ins)).length ≤ 12 * (nums l).length
  | [], _ => by simp
  | r :: l, h => by
    have ih := partR_length (n := n) hi (l := l) fun q hq => h q (List.mem_cons_of_mem _ hq)
    have hr := h r (List.mem_cons_self ..)
    unfold nums at *
    rw [List.flatMap_cons, List.flatMap_cons, List.length_append, List.length_append, upTo_length]
    have : (partR n ins r).length ≤ 12 * (r.2 + 1 - r.1).toNat := by
      unfold partR
      split
      · simp only [List.length_cons, List.length_nil]; omega
      · rw [partY_length, upTo_length, Nat.mul_comm]
        exact Nat.mul_le_mul_right _ hi
    omega

theorem partR_mem {n : Int} {ins : List Int} (hn : n = 12 ∨ n = 4) (h1 : ∀ v ∈ ins, 1 ≤ v ∧ v ≤ n) (h2 : (ins.length : Int) = n → ∀ v, 1 ≤ v → v ≤ n → v ∈ ins) {r : Int × Int} (h0 : 0 ≤ r.1) (u : Int) :
    mem (partR n ins r) u ↔ (r.1 ≤ u / n ∧ u / n ≤ r.2) ∧ (u % n + 1) ∈ ins := by
  unfold partR
  split
  · rename_i h
    rw [mem_cons]
    dsimp only
    constructor
    · rintro (k | k)
      · refine ⟨?_, h2 h _ ?_ ?_⟩ <;> rcases hn with rfl | rfl <;> omega
      · exact (mem_nil k).elim
    · rintro ⟨k, _⟩
      refine .inl ?_
      rcases hn with rfl | rfl <;> omega
  · unfold mem partY
    constructor
    · rintro ⟨q, hq, k1, k2⟩
      obtain ⟨y, hy, hq⟩ := List.mem_flatMap.1 hq
      obtain ⟨v, hv, rfl⟩ := List.mem_map.1 hq
      have := mem_upTo.1 hy
      have hv1 := h1 v hv
      dsimp only at k1 k2
      have e : u % n + 1 = v := by rcases hn with rfl | rfl <;> omega
      rw [e]
      refine ⟨?_, hv⟩
      rcases hn with rfl | rfl <;> omega
    · rintro ⟨k, hv⟩
      refine ⟨_, List.mem_flatMap.2 ⟨u / n, mem_upTo.2 k, List.mem_map.2 ⟨_, hv, rfl⟩⟩, ?_, ?_⟩ <;> dsimp only <;> rcases hn with rfl | rfl <;> omega

/-- The months or seasons that match. -/
def inParts (n : Int) (y m : ByteArray) (u : Int) : Prop := (0 ≤ u ∧ matchL (bl y) (u / n)) ∧ (u % n + 1) ∈ insM m n

theorem parts_spec {n : Int} (hn : n = 12 ∨ n = 4) {y m : ByteArray} (hy : saneM (bl y) = true) (u : Int) : memL ((setF y).flatMap (partR n (insM m n))) u ↔ inParts n y m u := by
  obtain ⟨f1, f2, f3, f4⟩ := setF_spec y
  have hb : 1 ≤ n := by rcases hn with rfl | rfl <;> omega
  have h1 : ∀ v ∈ insM m n, 1 ≤ v ∧ v ≤ n := fun v hv => (mem_insM.1 hv).2.2
  have key : mem ((setF y).flatMap (partR n (insM m n))) u ↔ mem (setF y) (u / n) ∧ (u % n + 1) ∈ insM m n := by
    constructor
    · rintro ⟨q, hq, k⟩
      obtain ⟨r, hr, hq⟩ := List.mem_flatMap.1 hq
      have := (partR_mem hn h1 (insM_length hb).2 (f2 r hr).1 u).1 ⟨q, hq, k⟩
      exact ⟨⟨r, hr, this.1⟩, this.2⟩
    · rintro ⟨⟨r, hr, k⟩, hv⟩
      obtain ⟨q, hq, k'⟩ := (partR_mem hn h1 (insM_length hb).2 (f2 r hr).1 u).2 ⟨k, hv⟩
      exact ⟨q, List.mem_flatMap.2 ⟨r, hr, hq⟩, k'⟩
  have hx : mem (setF y) (u / n) → 0 ≤ u ∧ u ≤ Lim := fun ⟨r, hr, k⟩ => by
    have := f2 r hr
    unfold Lim
    rcases hn with rfl | rfl <;> omega
  unfold memL inParts
  rw [key, f3]
  constructor
  · rintro ⟨_, _, ⟨_, k⟩, hv⟩
    exact ⟨⟨(hx ((f3 _).2 ⟨hy, k⟩)).1, k⟩, hv⟩
  · rintro ⟨⟨k0, k⟩, hv⟩
    have := hx ((f3 _).2 ⟨hy, k⟩)
    exact ⟨by unfold Lim at *; omega, this.2, ⟨hy, k⟩, hv⟩

theorem ok_point_parts {k n : Int} {y m d : ByteArray} (hn : n = 12 ∨ n = 4) (hy : saneM (bl y) = true) : FnE bs n_point_parts [ptE k y m d, .p (.int .i64) n] (.slice sRun) (fun r => Sane r ∧ ∀ u, mem r u ↔ inParts n y m u) := by
  refine ok_han (e_point_parts k y m d n _) rfl (HanOK.ofList [(n_mask_Set, .raw (.slice sRun)), (n_point_numbers, .raw (.slice (.int .i64)))] rfl rfl trivial) ?_
  unfold c_point_parts
  obtain ⟨f1, f2, f3, f4⟩ := setF_spec y
  have hb : 1 ≤ n ∧ n ≤ 12 := by rcases hn with rfl | rfl <;> omega
  refine callAP_eq (ok_point_numbers (s := m) (b := n) (by omega)) (callAP_eq (ok_mask_Set y) ?_)
  show loopP _ _
  have hspec := fun u => parts_spec hn (m := m) hy u
  have hlen : (insM m n).length ≤ 12 := by have := (insM_length (s := m) hb.1).1; omega
  have hv1 : ∀ v ∈ insM m n, 1 ≤ v ∧ v ≤ n := fun v hv => (mem_insM.1 hv).2.2
  have hcnt := years_count f1 f2
  generalize insM m n = ins at *
  change loopP _ _
  have hset : (if saneM (bl y) = true then setL (bl y) else []) = setF y := rfl
  rw [hset]
  generalize setF y = yrs at *
  have hle : ∀ r ∈ yrs, r.1 ≤ r.2 := fun r hr => (f2 r hr).2.1
  refine loopP_of (fun z : Unit × Int × Runs => ∃ j : Nat, z.2.1 = j ∧ j ≤ yrs.length ∧ z.2.2 = (yrs.take j).flatMap (partR n ins)) (fun z => yrs.length - z.2.1.toNat) ?_ ⟨0, rfl, Nat.zero_le _, rfl⟩
  rintro ⟨u, _, acc⟩ A ⟨j, rfl, hj, rfl⟩ back
  dsimp only at hj ⊢
  have hjl : ((yrs.take j).flatMap (partR n ins)).length ≤ 12 * (nums (yrs.take j)).length := partR_length hlen fun r hr => hle r (List.mem_of_mem_take hr)
  refine cond_dec (fun hlt => ⟨⟨by omega, hlt⟩, ?_⟩) fun hn' => ?_
  · obtain ⟨r, hr⟩ : ∃ r, yrs[j]? = some r := ⟨_, List.getElem?_eq_getElem (by omega)⟩
    rw [Int.toNat_natCast, rd_run hr]
    have hrb := f2 r (List.mem_of_getElem? hr)
    have hpart := pt_part hr
    rw [upTo_length] at hpart
    have hstep : (yrs.take (j + 1)).flatMap (partR n ins) = (yrs.take j).flatMap (partR n ins) ++ partR n ins r := by
      rw [List.take_add_one, hr, List.flatMap_append]
      simp
    have ej : w64 ((j : Int) + 1) = ((j + 1 : Nat) : Int) := by rw [w64_of (by omega)]; simp
    refine cond_dec (fun hfull => ⟨?_, back _ ⟨j + 1, ej, by omega, ?_⟩ ?_⟩) fun hfull => ?_
    · simp only [List.length_cons, List.length_nil]; omega
    · dsimp only
      rw [hstep]
      unfold partR
      rw [if_pos hfull]
      have e1 : w64 (r.1 * n) = r.1 * n := w64_of (by rcases hn with rfl | rfl <;> omega)
      have e2 : w64 (r.2 * n) = r.2 * n := w64_of (by rcases hn with rfl | rfl <;> omega)
      have e3 : w64 (r.2 * n + n) = r.2 * n + n := w64_of (by rcases hn with rfl | rfl <;> omega)
      have e4 : w64 (r.2 * n + n - 1) = r.2 * n + n - 1 := w64_of (by rcases hn with rfl | rfl <;> omega)
      rw [e1, e2, e3, e4]
    · dsimp only; rw [ej]; omega
    · have hR : partR n ins r = (upTo r.1 r.2).flatMap (partY n ins) := by unfold partR; rw [if_neg hfull]
      refine loopP_of (fun z : Unit × Int × Runs => r.1 ≤ z.2.1 ∧ z.2.1 ≤ r.2 + 1 ∧ z.2.2 = (yrs.take j).flatMap (partR n ins) ++ (upTo r.1 (z.2.1 - 1)).flatMap (partY n ins)) (fun z => (r.2 + 1 - z.2.1).toNat) ?_ ⟨Int.le_refl _, by dsimp only; omega, by dsimp only; rw [upTo_nil (by omega)]; simp⟩
      rintro ⟨u3, yy, acc3⟩ A3 ⟨h1, h2, e3⟩ back3
      dsimp only at h1 h2 e3 ⊢
      subst e3
      have hl3 : ((upTo r.1 (yy - 1)).flatMap (partY n ins)).length ≤ 12 * (yy - r.1).toNat := by
        rw [partY_length, upTo_length, Nat.mul_comm, show (yy - 1 + 1 - r.1).toNat = (yy - r.1).toNat by omega]
        exact Nat.mul_le_mul_right _ hlen
      refine cond_dec (fun hle2 => ?_) fun hnle => back _ ⟨j + 1, ej, by omega, ?_⟩ ?_
      · refine loopP_of (fun z : Unit × Int × Runs => ∃ i : Nat, z.2.1 = i ∧ i ≤ ins.length ∧ z.2.2 = (yrs.take j).flatMap (partR n ins) ++ (upTo r.1 (yy - 1)).flatMap (partY n ins) ++ partY n (ins.take i) yy) (fun z => ins.length - z.2.1.toNat) ?_ ⟨0, rfl, Nat.zero_le _, by simp [partY]⟩
        rintro ⟨u5, _, acc5⟩ A5 ⟨i, rfl, hi, e5⟩ back5
        dsimp only at hi e5 ⊢
        subst e5
        have hl5 : (partY n (ins.take i) yy).length = i := by simp [partY]; omega
        refine cond_dec (fun hlt5 => ⟨⟨by omega, hlt5⟩, ?_, ?_⟩) fun hn5 => back3 _ ⟨?_, ?_, ?_⟩ ?_
        · simp only [List.length_append, hl5, List.length_cons, List.length_nil]; omega
        · obtain ⟨v, hv⟩ : ∃ v, ins[i]? = some v := ⟨_, List.getElem?_eq_getElem (by omega)⟩
          have hvb := hv1 v (List.mem_of_getElem? hv)
          have hrd : rd (.int .i64) ins ((i : Int).toNat) = v := by
            unfold rd
            rw [Int.toNat_natCast, List.getD_eq_getElem?_getD, hv]
            rfl
          rw [hrd]
          have e1 : w64 (yy * n) = yy * n := w64_of (by rcases hn with rfl | rfl <;> omega)
          have e2 : w64 (yy * n + v) = yy * n + v := w64_of (by rcases hn with rfl | rfl <;> omega)
          have e3 : w64 (yy * n + v - 1) = yy * n + v - 1 := w64_of (by rcases hn with rfl | rfl <;> omega)
          have ei : w64 ((i : Int) + 1) = ((i + 1 : Nat) : Int) := by rw [w64_of (by omega)]; simp
          refine back5 _ ⟨i + 1, ei, by omega, ?_⟩ ?_
          · dsimp only
            rw [e1, e2, e3, List.append_assoc]
            congr 1
            unfold partY
            rw [List.take_add_one, hv, List.map_append]
            rfl
          · dsimp only; rw [ei]; omega
        · dsimp only; rw [w64_of (by omega)]; omega
        · dsimp only; rw [w64_of (by omega)]; omega
        · dsimp only
          rw [w64_of (by omega), show yy + 1 - 1 = yy by omega, pt_snoc h1, List.flatMap_append, show i = ins.length by omega, List.take_length, List.append_assoc]
          simp
        · dsimp only; rw [w64_of (by omega)]; omega
      · dsimp only; rw [hstep, hR, show yy - 1 = r.2 by omega]
      · dsimp only; rw [ej]; omega
  · have hjj : j = yrs.length := by omega
    have hpl := partR_length (n := n) hlen hle
    rw [hjj, List.take_length]
    refine callP_eq (ok_runs_Make (by omega)) ⟨make_sane _, fun u => ?_⟩
    rw [mem_make]
    exact hspec u

/-- What known answers. -/
def knownF (k : Int) (s : Runs) : Runs × Int := if (marksF VCal.ufirst k s).2 = true then (s, 0) else ([], 8)

theorem ok_point_known {k : Int} {s : Runs} (hl : s.length < 100000000000) : FnE bs n_point_known ((Shape.pair (.int .i64) (.slice sRun)).compsE (k, s)) (.tup (.pair (.slice sRun) (.int .i64))) (· = knownF k s) := by
  refine ok_of (e_point_known (k, s) _) rfl ?_
  unfold c_point_known
  refine callP_eq (ok_image_Starts hl) (cond_not (fun h => ?_) fun h => ?_)
  · show ([], (8 : Int)) = knownF k s
    unfold knownF
    rw [if_neg (by rw [h]; decide)]
  · show (s, (0 : Int)) = knownF k s
    unfold knownF
    rw [if_pos h]
end Go.Proofs.YtgeefhjlfdidmaaGreatDoor.V


/- The program's points: their units; which units have a point's digits. No condition of its own. -/
namespace Go.Proofs.YtgeefhjlfdidmaaGreatDoor.V
open Go Go.RowKit
set_option linter.unusedVariables false
set_option linter.unusedSimpArgs false

/-- Has a number these digits, the last one first? -/
def mdig : List Nat → Int → Bool
  | [], _ => true
  | c :: r, n => (decide (c = 88) || decide (n % 10 + 48 = (c : Int))) && mdig r (n / 10)

theorem mdig_cons (c : Nat) (r : List Nat) (n : Int) : mdig (c :: r) n = ((decide (c = 88) || decide (n % 10 + 48 = (c : Int))) && mdig r (n / 10)) := rfl

theorem Mr_dig : ∀ (l : List Nat) (n : Int), Mr l n ↔ 0 ≤ n ∧ n < (10 : Int) ^ l.length ∧ mdig l n = true
  | [], n => by
    show n = 0 ↔ _
    simp only [List.length_nil, Int.pow_zero, mdig, and_true]
    omega
  | c :: r, n => by
    have ih := Mr_dig r (n / 10)
    show (0 ≤ n ∧ (c = 88 ∨ n % 10 + 48 = (c : Int)) ∧ Mr r (n / 10)) ↔ _
    rw [ih, List.length_cons, Int.pow_succ]
    simp only [mdig, Bool.and_eq_true, Bool.or_eq_true, decide_eq_true_eq]
    constructor
    · rintro ⟨h1, h2, h3, h4, h5⟩; exact ⟨h1, by omega, h2, h5⟩
    · rintro ⟨h1, h2, h3, h4⟩; exact ⟨h1, h3, by omega, by omega, h4⟩

theorem byteAt_get {s : ByteArray} {k : Nat} {c : Nat} (h : (bl s)[k]? = some c) : byteAt s (k : Int) = (c : Int) := by
  unfold byteAt
  rw [Int.toNat_natCast]
  show (((bl s).getD k 0 : Nat) : Int) = c
  rw [List.getD_eq_getElem?_getD, h]
  rfl

theorem bl_byte {s : ByteArray} {c : Nat} (h : c ∈ bl s) : c < 256 := by
  unfold bl at h
  obtain ⟨b, _, rfl⟩ := List.mem_map.1 h
  exact b.toNat_lt

/-- A loop over a mask's digits, from the last one on. -/
theorem digLoop {s : ByteArray} {Rf K : Prop} {n : Int} (hs : s.size ≤ 1000) (h0 : 0 ≤ n) (h1 : n ≤ 1000000000) (hf : mdig (bl s).reverse n = false → Rf) (ht : mdig (bl s).reverse n = true → K) :
    loopP (S := (Int × Int)) (fun z1 back2 => (cond (decide ((0 : Int) ≤ z1.2)) (chk ((0 : Int) ≤ z1.2 ∧ z1.2 < ((s.size : Nat) : Int)) (cond (!decide ((byteAt s z1.2) = (88 : Int))) (chk ((0 : Int) ≤ z1.2 ∧ z1.2 < ((s.size : Nat) : Int)) (chk ((10 : Int) ≠ (0 : Int)) (cond (!decide ((w64 ((byteAt s z1.2))) = (w64 ((48 : Int) + (Int.tmod z1.1 (10 : Int)))))) Rf (chk ((10 : Int) ≠ (0 : Int)) (back2 ((w64 (Int.tdiv z1.1 (10 : Int))), (w64 (z1.2 - (1 : Int))))))))) (chk ((10 : Int) ≠ (0 : Int)) (back2 ((w64 (Int.tdiv z1.1 (10 : Int))), (w64 (z1.2 - (1 : Int)))))))) K)) (n, (w64 (((s.size : Nat) : Int) - (1 : Int)))) := by
  refine loopP_of (fun z : Int × Int => ∃ k : Nat, z.2 = (k : Int) - 1 ∧ k ≤ s.size ∧ 0 ≤ z.1 ∧ z.1 ≤ 1000000000 ∧ mdig ((bl s).take k).reverse z.1 = mdig (bl s).reverse n) (fun z => (z.2 + 1).toNat) ?_ ⟨s.size, by dsimp only; rw [w64_of (by omega)], Nat.le_refl _, h0, h1, by rw [← bl_length, List.take_length]⟩
  rintro ⟨v, _⟩ A ⟨k, rfl, hk, v0, v1, hv⟩ back
  dsimp only at v0 v1 hv ⊢
  refine cond_dec (fun hle => ⟨⟨hle, by omega⟩, ?_⟩) fun hn => ht ?_
  · obtain ⟨j, rfl⟩ : ∃ j, k = j + 1 := ⟨k - 1, by omega⟩
    obtain ⟨c, hc⟩ : ∃ c, (bl s)[j]? = some c := ⟨_, List.getElem?_eq_getElem (by rw [bl_length]; omega)⟩
    have ej : ((j + 1 : Nat) : Int) - 1 = (j : Int) := by omega
    have hb := bl_byte (List.mem_of_getElem? hc)
    rw [ej, byteAt_get hc]
    have et : ((bl s).take (j + 1)).reverse = c :: ((bl s).take j).reverse := by
      rw [List.take_add_one, hc]
      simp
    rw [et, mdig_cons] at hv
    have hd : w64 (Int.tdiv v 10) = v / 10 := by rw [tdiv_of v0, w64_of (by omega)]
    have hi : w64 ((j : Int) - 1) = (j : Int) - 1 := w64_of (by omega)
    have go : (decide (c = 88) || decide (v % 10 + 48 = (c : Int))) = true → A (w64 (Int.tdiv v 10), w64 ((j : Int) - 1)) := fun h => by
      rw [h, Bool.true_and] at hv
      refine back _ ⟨j, hi, by omega, ?_, ?_, ?_⟩ ?_
      · dsimp only; rw [hd]; omega
      · dsimp only; rw [hd]; omega
      · dsimp only; rw [hd]; exact hv
      · dsimp only; rw [hi]; omega
    refine cond_not (fun h88 => ⟨⟨by omega, by omega⟩, by decide, ?_⟩) fun h88 => ⟨by decide, go ?_⟩
    · have h88 := of_decide_eq_false h88
      rw [tmod_of v0, w64_of (n := (c : Int)) (by omega), w64_of (n := 48 + v % 10) (by omega)]
      refine cond_not (fun hne => hf ?_) fun heq => ⟨by decide, go ?_⟩
      · have hne := of_decide_eq_false hne
        rw [← hv]
        rw [show (decide (c = 88) || decide (v % 10 + 48 = (c : Int))) = false by simp; omega]
        rfl
      · have heq := of_decide_eq_true heq
        simp; omega
    · have h88 := of_decide_eq_true h88
      simp; omega
  · obtain rfl : k = 0 := by omega
    rw [← hv]
    rfl

/-- Has a unit's number the digits of a point? -/
def matchB (k : Int) (y m : ByteArray) (i : Int) : Bool :=
  if k = 1 then mdig (bl y).reverse (i / 12) && mdig (bl m).reverse (i % 12 + 1)
  else if k = 2 then mdig (bl y).reverse (i / 4) && mdig (bl m).reverse (i % 4 + 1)
  else mdig (bl y).reverse i && mdig (bl m).reverse 0

theorem ok_matches {k i : Int} {y m d : ByteArray} (hy : y.size ≤ 1000) (hm : m.size ≤ 1000) (h0 : 0 ≤ i) (h1 : i ≤ 10000000) : FnE bs n_lustrumtop_matches [ptE k y m d, .p (.int .i64) i] .bool (· = matchB k y m i) := by
  refine ok_of (e_lustrumtop_matches k y m d i _) rfl ?_
  unfold c_lustrumtop_matches
  have two : ∀ {a b : Int}, 0 ≤ a → a ≤ 1000000000 → 0 ≤ b → b ≤ 1000000000 → matchB k y m i = (mdig (bl y).reverse a && mdig (bl m).reverse b) →
      (mdig (bl y).reverse a = false → false = matchB k y m i) ∧ (mdig (bl y).reverse a = true → mdig (bl m).reverse b = false → false = matchB k y m i) ∧ (mdig (bl y).reverse a = true → mdig (bl m).reverse b = true → true = matchB k y m i) := fun _ _ _ _ e =>
    ⟨fun h => by rw [e, h]; rfl, fun h h' => by rw [e, h, h']; rfl, fun h h' => by rw [e, h, h']; rfl⟩
  refine cond_dec (fun hk => ⟨by decide, by decide, ?_⟩) fun hk => cond_dec (fun hk2 => ⟨by decide, by decide, ?_⟩) fun hk2 => ?_
  · obtain ⟨t1, t2, t3⟩ := two (a := i / 12) (b := i % 12 + 1) (by omega) (by omega) (by omega) (by omega) (by unfold matchB; rw [if_pos hk])
    rw [tdiv_of h0, tmod_of h0, w64_of (n := i / 12) (by omega), w64_of (n := i % 12 + 1) (by omega)]
    exact digLoop hy (by omega) (by omega) t1 fun h => digLoop hm (by omega) (by omega) (t2 h) (t3 h)
  · obtain ⟨t1, t2, t3⟩ := two (a := i / 4) (b := i % 4 + 1) (by omega) (by omega) (by omega) (by omega) (by unfold matchB; rw [if_neg hk, if_pos hk2])
    rw [tdiv_of h0, tmod_of h0, w64_of (n := i / 4) (by omega), w64_of (n := i % 4 + 1) (by omega)]
    exact digLoop hy (by omega) (by omega) t1 fun h => digLoop hm (by omega) (by omega) (t2 h) (t3 h)
  · obtain ⟨t1, t2, t3⟩ := two (a := i) (b := 0) (by omega) (by omega) (by omega) (by omega) (by unfold matchB; rw [if_neg hk, if_neg hk2])
    exact digLoop hy (by omega) (by omega) t1 fun h => digLoop hm (by omega) (by omega) (t2 h) (t3 h)

/-- A point's units. -/
def inPt (k : Int) (y m : ByteArray) (u : Int) : Prop := if k = 1 then inParts 12 y m u else if k = 2 then inParts 4 y m u else matchL (bl y) u

theorem matchL_dig (s : ByteArray) (n : Int) : matchL (bl s) n ↔ 0 ≤ n ∧ n < (10 : Int) ^ s.size ∧ mdig (bl s).reverse n = true := by
  unfold matchL
  rw [Mr_dig, List.length_reverse, bl_length]

theorem someB_spec {s : ByteArray} {n b : Int} (h : someB s n b = true) : (s.size : Int) = n ∧ saneM (bl s) = true := by
  unfold someB at h
  simp only [Bool.and_eq_true, decide_eq_true_eq] at h
  refine ⟨h.1, ?_⟩
  cases hl : insM s b with
  | nil => rw [hl] at h; simp at h
  | cons v l => exact (mem_insM.1 (by rw [hl]; exact List.mem_cons_self ..)).1

theorem strE_size {s : ByteArray} (h : strE s (bytesOf []) = true) : bl s = [] := by
  rw [strE_nil] at h
  exact List.isEmpty_iff.1 h

/-- What is so of a point of months or greater units. -/
theorem saneP_spec {k : Int} {y m d : ByteArray} (h : saneP k y m d = true) (hk : 1 ≤ k) :
    saneM (bl y) = true ∧ ((k = 1 ∧ y.size = 4 ∧ m.size = 2 ∧ saneM (bl m) = true) ∨ (k = 2 ∧ y.size = 4 ∧ m.size = 1 ∧ saneM (bl m) = true) ∨ (k = 3 ∧ y.size = 4 ∧ bl m = []) ∨ (k = 4 ∧ y.size = 3 ∧ bl m = []) ∨ (k = 5 ∧ y.size = 2 ∧ bl m = [])) := by
  unfold saneP at h
  rw [Bool.and_eq_true, if_neg (by omega)] at h
  obtain ⟨h1, h2⟩ := h
  refine ⟨h1, ?_⟩
  split at h2
  · rename_i e
    simp only [Bool.and_eq_true, decide_eq_true_eq] at h2
    have := someB_spec h2.1.2
    exact .inl ⟨e, by omega, by omega, this.2⟩
  · split at h2
    · rename_i e
      simp only [Bool.and_eq_true, decide_eq_true_eq] at h2
      have := someB_spec h2.1.2
      exact .inr (.inl ⟨e, by omega, by omega, this.2⟩)
    · split at h2
      · rename_i e
        simp only [Bool.and_eq_true, decide_eq_true_eq] at h2
        exact .inr (.inr (.inl ⟨e, by omega, strE_size h2.1.2⟩))
      · split at h2
        · rename_i e
          simp only [Bool.and_eq_true, decide_eq_true_eq] at h2
          exact .inr (.inr (.inr (.inl ⟨e, by omega, strE_size h2.1.2⟩)))
        · split at h2
          · rename_i e
            simp only [Bool.and_eq_true, decide_eq_true_eq] at h2
            exact .inr (.inr (.inr (.inr ⟨e, by omega, strE_size h2.1.2⟩)))
          · cases h2

theorem inPt_match {k : Int} {y m d : ByteArray} (h : saneP k y m d = true) (hk : 1 ≤ k) (u : Int) : inPt k y m u ↔ 0 ≤ u ∧ u < VCal.ucount k ∧ matchB k y m u = true := by
  obtain ⟨hy, hc⟩ := saneP_spec h hk
  have parts : ∀ {n : Int}, n = 12 ∨ n = 4 → y.size = 4 → saneM (bl m) = true → n < (10 : Int) ^ m.size → (inParts n y m u ↔ 0 ≤ u ∧ u < 10000 * n ∧ (mdig (bl y).reverse (u / n) && mdig (bl m).reverse (u % n + 1)) = true) := by
    intro n hn h4 hm hlt
    unfold inParts
    rw [mem_insM, matchL_dig, matchL_dig, h4, Bool.and_eq_true]
    have e4 : (10 : Int) ^ 4 = 10000 := rfl
    rw [e4]
    have b0 : 0 ≤ u → 0 ≤ u % n ∧ u % n < n := fun _ => by rcases hn with rfl | rfl <;> omega
    constructor
    · rintro ⟨⟨h1, h2, h3, h5⟩, _, ⟨_, _, h6⟩, _⟩
      exact ⟨h1, by rcases hn with rfl | rfl <;> omega, h5, h6⟩
    · rintro ⟨h1, h2, h3, h5⟩
      have := b0 h1
      exact ⟨⟨h1, by rcases hn with rfl | rfl <;> omega, by rcases hn with rfl | rfl <;> omega, h3⟩, hm, ⟨by omega, by omega, h5⟩, by omega, by omega⟩
  have years : ∀ {c : Nat}, y.size = c → bl m = [] → k ≠ 1 → k ≠ 2 → VCal.ucount k = (10 : Int) ^ c → (inPt k y m u ↔ 0 ≤ u ∧ u < VCal.ucount k ∧ matchB k y m u = true) := by
    intro c hc hm h1 h2 hu
    unfold inPt matchB
    rw [if_neg h1, if_neg h2, if_neg h1, if_neg h2, matchL_dig, hm, hc, hu]
    simp [mdig]
  rcases hc with ⟨rfl, h4, h2, hm⟩ | ⟨rfl, h4, h1, hm⟩ | ⟨rfl, hs, hm⟩ | ⟨rfl, hs, hm⟩ | ⟨rfl, hs, hm⟩
  · have := parts (n := 12) (.inl rfl) h4 hm (by rw [h2]; decide)
    unfold inPt matchB
    rw [if_pos rfl, if_pos rfl, this]
    exact Iff.rfl
  · have := parts (n := 4) (.inr rfl) h4 hm (by rw [h1]; decide)
    unfold inPt matchB
    rw [if_neg (by decide), if_pos rfl, if_neg (by decide), if_pos rfl, this]
    exact Iff.rfl
  · exact years hs hm (by decide) (by decide) rfl
  · exact years hs hm (by decide) (by decide) rfl
  · exact years hs hm (by decide) (by decide) rfl

/-- What point.Set answers of a point of months or greater units. -/
def SetR (k : Int) (y m d : ByteArray) (r : Runs × Int) : Prop :=
  (saneP k y m d = false → r = ([], 2)) ∧ (saneP k y m d = true → ∃ s, Sane s ∧ s.length ≤ 1000002 ∧ (∀ u, mem s u ↔ inPt k y m u) ∧ r = knownF k s)

theorem sane_few {s : Runs} {B : Int} (h : Sane s) (hB : 0 ≤ B) (k : ∀ u, mem s u → 0 ≤ u ∧ u ≤ B) : (s.length : Int) ≤ B + 2 := by
  have h1 : ∀ r ∈ s, 0 ≤ r.1 ∧ r.2 ≤ B := fun r hr => by
    have hb := Sane.bounds h r hr
    have a1 := k r.1 ⟨r, hr, by omega, by omega⟩
    have a2 := k r.2 ⟨r, hr, by omega, by omega⟩
    omega
  have := sane_spread (B := B) (sane_low (b := -2) h fun r hr => by have := h1 r hr; omega) (fun r hr => (h1 r hr).2) (by omega)
  omega

theorem ok_point_Set {k : Int} {y m d : ByteArray} (hk : 1 ≤ k) : FnE bs n_point_Set [ptE k y m d] (.tup (.pair (.slice sRun) (.int .i64))) (SetR k y m d) := by
  refine ok_han (e_point_Set k y m d _) rfl (HanOK.ofList [(n_point_Sane, .raw .bool), (n_mask_Set, .raw (.slice sRun)), (28, .raw (.slice sRun)), (n_point_parts, .raw (.slice sRun))] rfl rfl trivial) ?_
  unfold c_point_Set
  refine callAP_eq (ok_point_Sane k y m d) (cond_not (fun h => ⟨fun _ => rfl, fun h' => by rw [h] at h'; cases h'⟩) fun h => callAP_eq (ok_mask_Set y) ?_)
  obtain ⟨hy, hc⟩ := saneP_spec h hk
  have hin := inPt_match h hk
  have hcnt := VCal.ucount_pos k
  have fin : ∀ {s : Runs}, Sane s → (∀ u, mem s u ↔ inPt k y m u) → callP bs n_point_known (.pair (.int .i64) (.slice sRun)) (.tup (.pair (.slice sRun) (.int .i64))) (k, s) (fun r => SetR k y m d (r.1, r.2)) := fun {s} hs hm => by
    have hl := sane_few (B := 3652425) hs (by decide) fun u hu => by have := (hin u).1 ((hm u).1 hu); omega
    refine callP_eq (ok_point_known (by omega)) ⟨fun h' => (by rw [h] at h'; cases h'), fun _ => ?_⟩
    have hl2 := sane_few (B := 120000) hs (by decide) fun u hu => by
      have h1 := (hin u).1 ((hm u).1 hu)
      have : VCal.ucount k ≤ 120000 := by rcases hc with ⟨rfl, _⟩ | ⟨rfl, _⟩ | ⟨rfl, _⟩ | ⟨rfl, _⟩ | ⟨rfl, _⟩ <;> decide
      omega
    exact ⟨s, hs, by omega, hm, rfl⟩
  refine cond_dec (fun h0 => by omega) fun _ => cond_dec (fun h1 => ?_) fun h1 => cond_dec (fun h2 => ?_) fun h2 => ?_
  · exact callAP_of (ok_point_parts (.inl rfl) hy) fun r hr => fin hr.1 fun u => by rw [hr.2 u]; unfold inPt; rw [if_pos h1]
  · exact callAP_of (ok_point_parts (.inr rfl) hy) fun r hr => fin hr.1 fun u => by rw [hr.2 u]; unfold inPt; rw [if_neg h1, if_pos h2]
  · obtain ⟨f1, _, f3, _⟩ := setF_spec y
    exact fin (s := setF y) f1 fun u => by rw [f3 u]; unfold inPt; rw [if_neg h1, if_neg h2]; exact ⟨fun q => q.2, fun q => ⟨hy, q⟩⟩
end Go.Proofs.YtgeefhjlfdidmaaGreatDoor.V


/- The conditions of functions of the program, printed by a program of this session (wip/vc/vc.py), each tied to the function's own code by the kernel. -/
namespace Go.Proofs.YtgeefhjlfdidmaaGreatDoor.V
open Go
set_option linter.unusedVariables false
/- lustrum/denote.leaves -/
abbrev n_denote_leaves : Nat := 25
noncomputable def g_denote_leaves : Cfg := { toBase := bs, lv := fun | 9 => ([4, 36], [], []) | _ => ([], [], []), rows := [4], han := hanL bs [(53, .raw (.slice sRun))] }
def c_denote_leaves (k : Int) (y : ByteArray) (m : ByteArray) (d : ByteArray) (R : (List (Bool × (Int × ((List (Int × Int)) × (List (Int × Int)))))) → Prop) : Prop := (cond (decide ((0 : Int) = (0 : Int))) ((callAP bs 53 [(.agg [(.p (.int .i64) (0 : Int)), (.p (.int .i64) k), (.raw (.string y)), (.raw (.string m)), (.raw (.string d)), (.p .bool false), (.p .bool false), (.raw (.slice none 0 0))])] (.slice sRun) (fun r1 => (R ([(false, k, r1, [])] : List (Bool × (Int × ((List (Int × Int)) × (List (Int × Int))))))))) ∧ ((callAP bs 53 [(.agg [(.p (.int .i64) (0 : Int)), (.p (.int .i64) k), (.raw (.string y)), (.raw (.string m)), (.raw (.string d)), (.p .bool false), (.p .bool false), (.raw (.slice none 0 0))])] (.slice sRun) (fun r2 => (R ([(false, k, r2, [])] : List (Bool × (Int × ((List (Int × Int)) × (List (Int × Int))))))))) ∧ (callAP bs 53 [(.agg [(.p (.int .i64) (0 : Int)), (.p (.int .i64) k), (.raw (.string y)), (.raw (.string m)), (.raw (.string d)), (.p .bool false), (.p .bool false), (.raw (.slice none 0 0))])] (.slice sRun) (fun r3 => (R ([(false, k, r3, [])] : List (Bool × (Int × ((List (Int × Int)) × (List (Int × Int))))))))))) (cond (decide ((0 : Int) = (1 : Int))) False (loopP (S := (Unit × Int)) (fun z4 back5 => False) ((), (0 : Int)))))
theorem e_denote_leaves (k : Int) (y : ByteArray) (m : ByteArray) (d : ByteArray) (R : (List (Bool × (Int × ((List (Int × Int)) × (List (Int × Int)))))) → Prop) : g_denote_leaves.fnK 25 [(.agg [(.p (.int .i64) (0 : Int)), (.p (.int .i64) k), (.raw (.string y)), (.raw (.string m)), (.raw (.string d)), (.p .bool false), (.p .bool false), (.raw (.slice none 0 0))])] (.slice (.st (.pair .bool (.pair (.int .i64) (.pair (.slice sRun) (.slice sRun)))))) R = c_denote_leaves k y m d R := by kernel_rfl
/- lustrum/lustrumtop.TopUnits -/
abbrev n_lustrumtop_TopUnits : Nat := 3
noncomputable def g_lustrumtop_TopUnits__tree_Of : Cfg := { toBase := bs, lv := fun  | _ => ([], [], []), rows := [] }
noncomputable def g_lustrumtop_TopUnits : Cfg := { toBase := bs, lv := fun | 11 => ([9, 10], [], []) | _ => ([], [], []), rows := [], han := hanL bs [(6, .raw .bool), (7, .raw .bool), (8, .raw (.tup (.pair (.slice (.st (.pair .bool (.pair (.int .i64) (.pair (.slice sRun) (.slice sRun)))))) (.int .i64)))), (9, .raw (.tup (.pair (.slice sRun) (.int .i64)))), (11, .raw .bool), (5, .inl g_lustrumtop_TopUnits__tree_Of)] }
def c_lustrumtop_TopUnits (k : Int) (y : ByteArray) (m : ByteArray) (d : ByteArray) (R : Bool → Prop) : Prop := (callP bs 4 .unit .bool () (fun r1 => (cond (decide (k < (1 : Int))) (R r1) (callAP bs 6 [(.agg [(.p (.int .i64) (0 : Int)), (.p (.int .i64) k), (.raw (.string y)), (.raw (.string m)), (.raw (.string d)), (.p .bool false), (.p .bool false), (.raw (.slice none 0 0))])] .bool (fun r2 => (cond (!r2) (R r1) (callAP bs 7 [(.agg [(.p (.int .i64) (0 : Int)), (.p (.int .i64) k), (.raw (.string y)), (.raw (.string m)), (.raw (.string d)), (.p .bool false), (.p .bool false), (.raw (.slice none 0 0))])] .bool (fun r3 => (cond (!r3) (R r1) (callAP bs 8 [(.agg [(.p (.int .i64) (0 : Int)), (.p (.int .i64) k), (.raw (.string y)), (.raw (.string m)), (.raw (.string d)), (.p .bool false), (.p .bool false), (.raw (.slice none 0 0))])] (.tup (.pair (.slice (.st (.pair .bool (.pair (.int .i64) (.pair (.slice sRun) (.slice sRun)))))) (.int .i64))) (fun r4 => (callAP bs 9 [(.agg [(.p (.int .i64) k), (.raw (.string y)), (.raw (.string m)), (.raw (.string d))])] (.tup (.pair (.slice sRun) (.int .i64))) (fun r5 => (cond (!decide (r4.2 = r5.2)) (R false) (loopP (S := (Int × Int)) (fun z6 back7 => (callP bs 10 (.int .i64) (.int .i64) k (fun r8 => (cond (decide (z6.2 < r8)) (cond (decide (z6.1 ≤ (400 : Int))) (callAP bs 11 [(.agg [(.p (.int .i64) k), (.raw (.string y)), (.raw (.string m)), (.raw (.string d))]), (.p (.int .i64) z6.2)] .bool (fun r9 => (cond r9 (back7 ((w64 (z6.1 + (1 : Int))), (w64 (z6.2 + (1 : Int))))) (back7 (z6.1, (w64 (z6.2 + (1 : Int)))))))) (cond (decide ((400 : Int) < z6.1)) (cond r1 (R (decide (r4.2 = (8 : Int)))) (R false)) (cond r1 (cond (decide (r4.2 = (0 : Int))) (callP bs 12 (.slice sRun) (.int .i64) r5.1 (fun r10 => (cond (decide (r10 = z6.1)) (chk ((0 : Int) ≤ (0 : Int) ∧ (0 : Int) < (r4.1.length : Int)) (callP bs 13 (.pair (.st (.pair .bool (.pair (.int .i64) (.pair (.slice sRun) (.slice sRun))))) (.int .i64)) (.slice sRun) (((rd (.st (.pair .bool (.pair (.int .i64) (.pair (.slice sRun) (.slice sRun))))) r4.1 (0 : Int).toNat).1, ((rd (.st (.pair .bool (.pair (.int .i64) (.pair (.slice sRun) (.slice sRun))))) r4.1 (0 : Int).toNat).2).1, (((rd (.st (.pair .bool (.pair (.int .i64) (.pair (.slice sRun) (.slice sRun))))) r4.1 (0 : Int).toNat).2).2).1, (((rd (.st (.pair .bool (.pair (.int .i64) (.pair (.slice sRun) (.slice sRun))))) r4.1 (0 : Int).toNat).2).2).2), (1000 : Int)) (fun r11 => (R (decide ((r11.length : Int) = z6.1)))))) (R false)))) (R false)) (R false)))) (cond (decide ((400 : Int) < z6.1)) (cond r1 (R (decide (r4.2 = (8 : Int)))) (R false)) (cond r1 (cond (decide (r4.2 = (0 : Int))) (callP bs 12 (.slice sRun) (.int .i64) r5.1 (fun r12 => (cond (decide (r12 = z6.1)) (chk ((0 : Int) ≤ (0 : Int) ∧ (0 : Int) < (r4.1.length : Int)) (callP bs 13 (.pair (.st (.pair .bool (.pair (.int .i64) (.pair (.slice sRun) (.slice sRun))))) (.int .i64)) (.slice sRun) (((rd (.st (.pair .bool (.pair (.int .i64) (.pair (.slice sRun) (.slice sRun))))) r4.1 (0 : Int).toNat).1, ((rd (.st (.pair .bool (.pair (.int .i64) (.pair (.slice sRun) (.slice sRun))))) r4.1 (0 : Int).toNat).2).1, (((rd (.st (.pair .bool (.pair (.int .i64) (.pair (.slice sRun) (.slice sRun))))) r4.1 (0 : Int).toNat).2).2).1, (((rd (.st (.pair .bool (.pair (.int .i64) (.pair (.slice sRun) (.slice sRun))))) r4.1 (0 : Int).toNat).2).2).2), (1000 : Int)) (fun r13 => (R (decide ((r13.length : Int) = z6.1)))))) (R false)))) (R false)) (R false))))))) ((0 : Int), (0 : Int)))))))))))))))))
theorem e_lustrumtop_TopUnits (k : Int) (y : ByteArray) (m : ByteArray) (d : ByteArray) (R : Bool → Prop) : g_lustrumtop_TopUnits.fnK 3 [(.agg [(.p (.int .i64) k), (.raw (.string y)), (.raw (.string m)), (.raw (.string d))])] .bool R = c_lustrumtop_TopUnits k y m d R := by kernel_rfl
end Go.Proofs.YtgeefhjlfdidmaaGreatDoor.V

