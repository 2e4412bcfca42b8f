/- The calculus of the program's functions and their contracts, part 8. No condition of its own. -/
import Derived.Test.YtjeoelajkncpcaaDoorM7
import Derived.Shelf.Spec.SlicesGrow

/- Sorting runs, the whole: what the program's functions answer. No condition of its own. -/
namespace Go.Proofs.YtjeoelajkncpcaaDoor.V
open Go
set_option linter.unusedVariables false
set_option linter.unusedSimpArgs false

theorem ok_partialInsertionSort {xs : List PR} {a b : Nat} (hab : a < b) (hb : b ≤ xs.length) (hl : xs.length < 65536) (hP : Pre xs a b) :
    FnM bs n_slices_partialInsertionSortCmpFunc (insAt 0 (.row 0 0) ((Shape.pair (.int .i64) (.pair (.int .i64) (.func (.pair sRun sRun) (.int .i64)))).compsE ((a : Int), (b : Int), G))) (b_slices_partialInsertionSortCmpFunc xs) .bool (fun r ys => Sw a b xs ys ∧ (r = true → Srt ys a b)) := by
  refine okM_of (e_slices_partialInsertionSortCmpFunc xs ((a : Int), (b : Int), G) _) rfl (HanOK.none rfl rfl) ?_
  unfold c_slices_partialInsertionSortCmpFunc
  dsimp only
  rw [w_succ (by omega), w64_of (n := (b : Int) - (a : Int)) (by omega)]
  refine loopP_of (fun z : Int × Int × List PR => ∃ i : Nat, z.1 = i ∧ a + 1 ≤ i ∧ i ≤ b ∧ 0 ≤ z.2.1 ∧ z.2.1 ≤ 5 ∧ Sw a b xs z.2.2 ∧ Srt z.2.2 a i) (fun z => (5 - z.2.1).toNat) ?_ ⟨a + 1, rfl, Nat.le_refl _, hab, by dsimp only; omega, by dsimp only; omega, .refl, Srt.small (Nat.le_refl _)⟩
  rintro ⟨_, st, ys⟩ A ⟨i, e1, g1, g2, g3, g4, g5, g6⟩ back
  dsimp only at e1 g3 g4 g5 g6 ⊢
  subst e1
  have hlen := g5.length
  refine cond_dec (fun hst => ?_) fun _ => ⟨g5, fun e => by cases e⟩
  have hst : st < 5 := hst
  refine join_of (fun z : Int => ∃ i : Nat, z = i ∧ a + 1 ≤ i ∧ i ≤ b ∧ Srt ys a i ∧ (i = b ∨ ky ys i < ky ys (i - 1))) (fun J hJ => ?_) fun z => ?_
  · refine loopP_of (fun z : Int => ∃ i : Nat, z = i ∧ a + 1 ≤ i ∧ i ≤ b ∧ Srt ys a i) (fun z => b - z.toNat) ?_ ⟨i, rfl, g1, g2, g6⟩
    rintro _ A ⟨i, rfl, h1, h2, h3⟩ back
    refine cond_dec (fun hi => ?_) fun hi => hJ _ ⟨i, rfl, h1, h2, h3, .inl (by have hi : ¬ (i : Int) < b := hi; omega)⟩
    have hi : (i : Int) < b := hi
    rw [w_pred (by omega) (by omega), w_succ (by omega)]
    refine ⟨⟨by omega, by omega⟩, ⟨by omega, by omega⟩, gcall_eq rfl (cond_ncmp (fun hc => ?_) fun hc => hJ _ ⟨i, rfl, h1, h2, h3, .inr hc⟩)⟩
    have hc : ¬ ky ys i < ky ys (i - 1) := hc
    refine back _ ⟨i + 1, rfl, by omega, by omega, Srt.of_step fun k k1 k2 => ?_⟩ (by omega)
    by_cases e : k + 1 = i
    · rw [show k = i - 1 by omega, show i - 1 + 1 = i by omega]; omega
    · exact h3 k (k + 1) k1 (by omega) (by omega)
  · rintro ⟨i, rfl, h1, h2, h3, h4⟩
    refine cond_dec (fun hi => ?_) fun hi => ?_
    · have hi : (i : Int) = b := hi
      have : i = b := by omega
      subst this
      exact ⟨g5, fun _ => h3⟩
    · have hi : ¬ (i : Int) = b := hi
      have hlt : ky ys i < ky ys (i - 1) := by
        rcases h4 with h4 | h4
        · omega
        · exact h4
      refine cond_dec (fun _ => ⟨g5, fun e => by cases e⟩) fun _ => ?_
      rw [w_pred (by omega) (by omega), w64_of (n := (i : Int) - (a : Int)) (by omega), w64_of (n := (b : Int) - (i : Int)) (by omega), w_succ (by omega), w64_of (n := st + 1) (by omega)]
      refine ⟨⟨by omega, by omega⟩, ⟨by omega, by omega⟩, ⟨by omega, by omega⟩, ⟨by omega, by rw [List.length_set]; omega⟩, ?_⟩
      have hs1 : Sw a b ys (sw ys i (i - 1)) := .step _ _ .refl (by omega) (by omega) (by omega) (by omega) (by omega)
      have hk : ∀ k, ky (sw ys i (i - 1)) k = if k = i - 1 then ky ys i else if k = i then ky ys (i - 1) else ky ys k := fun k => ky_sw (by omega) (by omega)
      refine join_of (fun zs : List PR => Sw a b ys zs ∧ Srt zs a i) (fun J hJ => cond_dec (fun h2i => ?_) fun h2i => ?_) fun zs => ?_
      · refine loopP_of (fun z : Int × List PR => ∃ j : Nat, z.1 = j ∧ a ≤ j ∧ j + 1 ≤ i ∧ Sw a b ys z.2 ∧ ∀ p q, a ≤ p → p < q → q < i → q ≠ j → ky z.2 p ≤ ky z.2 q) (fun z => z.1.toNat) ?_ ⟨i - 1, rfl, by omega, by omega, hs1, fun p q q1 q2 q3 q4 => ?_⟩
        · rintro ⟨_, zs⟩ A ⟨j, e1, f1, f2, f3, f4⟩ back2
          dsimp only at e1 f3 f4 ⊢
          subst e1
          have hzl := f3.length
          have done : (j = a ∨ ky zs (j - 1) ≤ ky zs j) → J zs := fun hj => by
            refine hJ _ ⟨f3, fun p q q1 q2 q3 => ?_⟩
            by_cases hq : q = j
            · subst hq
              rcases hj with hj | hj
              · omega
              · rcases Nat.lt_or_eq_of_le (show p ≤ q - 1 by omega) with e | e
                · exact Int.le_trans (f4 p (q - 1) q1 e (by omega) (by omega)) hj
                · rw [e]; exact hj
            · exact f4 p q q1 q2 q3 hq
          refine cond_dec (fun hj => ?_) fun hj => done (.inl (by have hj : ¬ (1 : Int) ≤ j := hj; omega))
          have hj : (1 : Int) ≤ j := hj
          rw [w_pred (by omega) (by omega)]
          refine ⟨⟨by omega, by omega⟩, ⟨by omega, by omega⟩, gcall_eq rfl (cond_ncmp (fun hc => ?_) fun hc => ?_)⟩
          · have hc : ¬ ky zs j < ky zs (j - 1) := hc
            exact done (.inr (by omega))
          · have hc : ky zs j < ky zs (j - 1) := hc
            have hja : j ≠ a := fun e => by
              subst e
              rcases (hP.sw g5).sw f3 with h | h
              · omega
              · have := h j (Nat.le_refl _) (by omega); omega
            refine ⟨⟨by omega, by omega⟩, ⟨by omega, by omega⟩, ⟨by omega, by omega⟩, ⟨by omega, by rw [List.length_set]; omega⟩, ?_⟩
            refine back2 (((j - 1 : Nat) : Int), sw zs j (j - 1)) ⟨j - 1, rfl, by omega, by omega, .step _ _ f3 (by omega) (by omega) (by omega) (by omega) (by omega), fun p q q1 q2 q3 q4 => ?_⟩ (by dsimp only; omega)
            dsimp only
            rw [ky_sw (by omega) (by omega), ky_sw (by omega) (by omega)]
            by_cases hqj : q = j
            · subst hqj
              rw [if_neg q4, if_pos rfl]
              by_cases hp : p = q - 1
              · subst hp; rw [if_pos rfl]; omega
              · rw [if_neg hp, if_neg (by omega)]
                exact f4 p (q - 1) q1 (by omega) (by omega) (by omega)
            · rw [if_neg q4, if_neg hqj]
              by_cases hp : p = j - 1
              · subst hp
                rw [if_pos rfl]
                exact f4 j q (by omega) (by omega) q3 hqj
              · rw [if_neg hp]
                by_cases hp2 : p = j
                · subst hp2; rw [if_pos rfl]; exact f4 (p - 1) q (by omega) (by omega) q3 hqj
                · rw [if_neg hp2]; exact f4 p q q1 q2 q3 hqj
        · dsimp only
          show ky (sw ys i (i - 1)) p ≤ ky (sw ys i (i - 1)) q
          rw [hk, hk, if_neg (by omega), if_neg (by omega), if_neg (by omega), if_neg (by omega)]
          exact h3 p q q1 q2 (by omega)
      · have h2i : ¬ (2 : Int) ≤ (i : Int) - a := h2i
        exact hJ _ ⟨hs1, Srt.small (by omega)⟩
      · rintro ⟨f1, f2⟩
        have hzl := f1.length
        have next : ∀ ws : List PR, Sw i b zs ws → A ((i : Int), st + 1, ws) := fun ws hw => by
          refine back ((i : Int), st + 1, ws) ⟨i, rfl, h1, h2, by dsimp only; omega, by dsimp only; omega, (g5.trans f1).trans (hw.wider (by omega) (Nat.le_refl _) (by omega)), fun p q q1 q2 q3 => ?_⟩ (by dsimp only; omega)
          dsimp only
          rw [hw.kyout (.inl (by omega)), hw.kyout (.inl (by omega))]
          exact f2 p q q1 q2 q3
        refine cond_dec (fun h2b => ?_) fun _ => next _ .refl
        refine loopP_of (fun z : Int × List PR => ∃ j : Nat, z.1 = j ∧ i + 1 ≤ j ∧ Sw i b zs z.2) (fun z => b - z.1.toNat) ?_ ⟨i + 1, rfl, Nat.le_refl _, .refl⟩
        rintro ⟨_, ws⟩ A2 ⟨j, e1, k1, k2⟩ back2
        dsimp only at e1 k2 ⊢
        subst e1
        have hwl := k2.length
        refine cond_dec (fun hj => ?_) fun _ => next _ k2
        have hj : (j : Int) < b := hj
        rw [w_pred (by omega) (by omega), w_succ (by omega)]
        refine ⟨⟨by omega, by omega⟩, ⟨by omega, by omega⟩, gcall_eq rfl (cond_ncmp (fun _ => next _ k2) fun _ => ?_)⟩
        refine ⟨⟨by omega, by omega⟩, ⟨by omega, by omega⟩, ⟨by omega, by omega⟩, ⟨by omega, by rw [List.length_set]; omega⟩, ?_⟩
        exact back2 (((j + 1 : Nat) : Int), sw ws j (j - 1)) ⟨j + 1, rfl, by omega, .step _ _ k2 (by omega) (by omega) (by omega) (by omega) (by omega)⟩ (by dsimp only; omega)

theorem ok_pdqsort : ∀ (n : Nat) {xs : List PR} {a b : Nat} {lim : Int}, b - a = n → a ≤ b → b ≤ xs.length → xs.length < 65536 → Pre xs a b →
    FnM bs n_slices_pdqsortCmpFunc (insAt 0 (.row 0 0) ((Shape.pair (.int .i64) (.pair (.int .i64) (.pair (.int .i64) (.func (.pair sRun sRun) (.int .i64))))).compsE ((a : Int), (b : Int), lim, G))) (b_slices_pdqsortCmpFunc xs) (.tup .unit) (fun _ ys => Sw a b xs ys ∧ Srt ys a b) := by
  intro n
  induction n using Nat.strongRecOn with
  | _ n ih =>
  intro xs a b lim hn hab hb hl hP
  refine okM_of (e_slices_pdqsortCmpFunc xs ((a : Int), (b : Int), lim, G) _) rfl (HanOK.ofList [(122, .mut 0), (139, .mut 0), (140, .mut 0), (141, .mut 0), (143, .mut 0), (144, .mut 0), (145, .mut 0), (146, .mut 0)] rfl rfl trivial) ?_
  unfold c_slices_pdqsortCmpFunc
  dsimp only
  refine loopP_of (fun z : Int × Int × Int × Bool × Bool × List PR => ∃ lo hi : Nat, z.1 = lo ∧ z.2.1 = hi ∧ a ≤ lo ∧ lo ≤ hi ∧ hi ≤ b ∧ Sw a b xs z.2.2.2.2.2 ∧ Pre z.2.2.2.2.2 lo hi ∧ Win a b lo hi z.2.2.2.2.2) (fun z => (z.2.1 - z.1).toNat) ?_ ⟨a, b, rfl, rfl, Nat.le_refl _, hab, Nat.le_refl _, .refl, hP, Win.start⟩
  rintro ⟨_, _, lim1, wb, wp, ys⟩ A ⟨lo, hi, e1, e2, g1, g2, g3, g4, g5, g6⟩ back
  dsimp only at e1 e2 g4 g5 g6 ⊢
  subst e1
  subst e2
  have hlen := g4.length
  rw [w64_of (n := (hi : Int) - (lo : Int)) (by omega)]
  -- how it ends
  have fin : ∀ ws zs : List PR, Sw lo hi ys ws → Sw lo hi ws zs → Srt zs lo hi → Sw a b xs zs ∧ Srt zs a b := fun ws zs h1 h2 h3 => by
    have h := h1.trans h2
    exact ⟨g4.trans (h.wider g1 g3 (by omega)), (g6.sw h g1 g3).done h3⟩
  refine cond_dec (fun h12 => ?_) fun h12 => ?_
  · refine callMP_of (ok_insertionSort (xs := ys) (a := lo) (b := hi) (by omega) (by omega) (by omega)) fun r zs hz => ?_
    have hz : Sw lo hi ys zs ∧ Srt zs lo hi := hz
    exact ⟨hz.1.length, fin ys zs .refl hz.1 hz.2⟩
  have h12 : ¬ (hi : Int) - lo ≤ 12 := h12
  refine cond_dec (fun _ => ?_) fun _ => ?_
  · refine callMP_of (ok_heapSort (xs := ys) (a := lo) (b := hi) (by omega) (by omega) (by omega)) fun r zs hz => ?_
    have hz : Sw lo hi ys zs ∧ Srt zs lo hi := hz
    exact ⟨hz.1.length, fin ys zs .refl hz.1 hz.2⟩
  refine join_of (fun z : Int × List PR => Sw lo hi ys z.2) (fun J hJ => cond_not (fun _ => ?_) fun _ => hJ _ .refl) fun z => ?_
  · refine callMP_of (ok_breakPatterns (xs := ys) (a := lo) (b := hi) (by omega) (by omega) (by omega)) fun r zs hz => ?_
    have hz : Sw lo hi ys zs := hz
    exact ⟨hz.length, hJ _ hz⟩
  obtain ⟨lim2, y1⟩ := z
  intro s1
  dsimp only at s1 ⊢
  have hl1 := s1.length
  refine callP_of (ok_choosePivot (xs := y1) (a := lo) (b := hi) (by omega) (by omega) (by omega)) fun r ⟨p, hp, p1, p2⟩ => ?_
  have hp : r.1 = (p : Int) := hp
  rw [hp]
  refine join_of (fun z : Int × Int × List PR => ∃ p : Nat, z.1 = p ∧ lo ≤ p ∧ p < hi ∧ Sw lo hi ys z.2.2) (fun J hJ => cond_dec (fun _ => ?_) fun _ => hJ _ ⟨p, rfl, p1, p2, s1⟩) fun z => ?_
  · refine callMP_of (ok_reverseRange (xs := y1) (a := lo) (b := hi) (by omega) (by omega) (by omega)) fun r zs hz => ?_
    have hz : Sw lo hi y1 zs := hz
    refine ⟨hz.length, hJ _ ⟨hi - 1 - (p - lo), ?_, by omega, by omega, s1.trans hz⟩⟩
    dsimp only
    rw [w64_of (n := (hi : Int) - 1) (by omega), w64_of (n := (p : Int) - (lo : Int)) (by omega), w64_of (by omega)]
    omega
  obtain ⟨_, hint, y2⟩ := z
  rintro ⟨p, e1, p1, p2, s2⟩
  dsimp only at e1 s2 ⊢
  subst e1
  have hl2 := s2.length
  refine join_of (fun z : List PR => Sw lo hi ys z) (fun J hJ => cond_bool (fun _ => cond_bool (fun _ => cond_dec (fun _ => ?_) fun _ => hJ _ s2) fun _ => hJ _ s2) fun _ => hJ _ s2) fun y3 s3 => ?_
  · refine callMP_of (ok_partialInsertionSort (xs := y2) (a := lo) (b := hi) (by omega) (by omega) (by omega) (g5.sw s2)) fun r zs hz => ?_
    have hz : Sw lo hi y2 zs ∧ (r = true → Srt zs lo hi) := hz
    refine ⟨hz.1.length, cond_bool (fun h => ?_) fun _ => hJ _ (s2.trans hz.1)⟩
    exact fin y2 zs s2 hz.1 (hz.2 h)
  have hl3 := s3.length
  have sA : Sw a b xs y3 := g4.trans (s3.wider g1 g3 (by omega))
  have P3 : Pre y3 lo hi := g5.sw s3
  have W3 : Win a b lo hi y3 := g6.sw s3 g1 g3
  refine join_of (fun _ : Unit => True) (fun J hJ => cond_dec (fun h0 => ?_) fun _ => hJ _ trivial) fun _ _ => ?_
  · have h0 : (0 : Int) < lo := h0
    rw [w_pred (by omega) (by omega)]
    refine ⟨⟨by omega, by omega⟩, ⟨by omega, by omega⟩, gcall_eq rfl (cond_ncmp (fun hc => ?_) fun _ => hJ _ trivial)⟩
    have hc : ¬ ky y3 (lo - 1) < ky y3 p := hc
    have hge : ∀ k, lo ≤ k → k < hi → ky y3 p ≤ ky y3 k := fun k k1 k2 => by
      rcases P3 with h | h
      · omega
      · have := h k k1 k2; omega
    refine callMP_of (ok_partitionEqual (xs := y3) (a := lo) (b := hi) (p := p) p1 p2 (by omega) (by omega)) fun r zs ⟨m, hm, m1, m2, m3, m4, m5⟩ => ?_
    have hm : r = (m : Int) := hm
    subst hm
    have hge2 := m3.each (P := fun x => ky y3 p ≤ x.1) hge
    refine ⟨m3.length, back _ ⟨m, hi, rfl, rfl, by omega, by omega, g3, sA.trans (m3.wider g1 g3 (by omega)), .inr fun k k1 k2 => ?_, (W3.sw m3 g1 g3).cutL g1 (by omega) (by omega) (fun i j i1 i2 i3 => ?_) (fun i j i1 i2 i3 i4 => ?_) g3⟩ (by dsimp only; omega)⟩
    · have := m4 (m - 1) (by omega) (by omega); have := m5 k k1 k2; dsimp only at *; omega
    · have := m4 i (by omega) (by omega); have := hge2 j (by omega) (by omega); unfold ky at *; dsimp only at *; omega
    · have := m4 i (by omega) (by omega); have := m5 j (by omega) (by omega); dsimp only at *; omega
  · refine callMP_of (ok_partition (xs := y3) (a := lo) (b := hi) (p := p) p1 p2 (by omega) (by omega)) fun r y4 ⟨m, hm, m1, m2, m3, m4, m5⟩ => ?_
    have hm : r.1 = (m : Int) := hm
    rw [hm]
    have hl4 := m3.length
    have sB : Sw a b xs y4 := sA.trans (m3.wider g1 g3 (by omega))
    have P4 : Pre y4 lo hi := P3.sw m3
    have W4 : Win a b lo hi y4 := W3.sw m3 g1 g3
    rw [w64_of (n := (m : Int) - (lo : Int)) (by omega), w64_of (n := (hi : Int) - (m : Int)) (by omega), w_succ (by omega)]
    refine ⟨hl4, by decide, cond_dec (fun _ => ?_) fun _ => ?_⟩
    · refine callMP_of (ih (m - lo) (by omega) (xs := y4) (a := lo) (b := m) rfl (by omega) (by omega) (by omega) (P4.imp id fun h k k1 k2 => h k k1 (by omega))) fun r zs hz => ?_
      have hz : Sw lo m y4 zs ∧ Srt zs lo m := hz
      have hw := hz.1.wider (a' := lo) (b' := hi) (Nat.le_refl _) (by omega) (by omega)
      have hle := hz.1.each (P := fun x => x.1 ≤ ky y4 m) (fun k k1 k2 => m4 k k1 k2)
      have hm0 : ky zs m = ky y4 m := hz.1.kyout (.inr (Nat.le_refl _))
      refine ⟨hz.1.length, back _ ⟨m + 1, hi, rfl, rfl, by omega, by omega, g3, sB.trans (hw.wider g1 g3 (by omega)), .inr fun k k1 k2 => ?_, (W4.sw hw g1 g3).cutL g1 (by omega) (by omega) (fun i j i1 i2 i3 => ?_) (fun i j i1 i2 i3 i4 => ?_) g3⟩ (by dsimp only; omega)⟩
      · rw [show m + 1 - 1 = m by omega]
        show ky zs m ≤ ky zs k
        rw [hm0, hz.1.kyout (.inr (by omega))]
        exact m5 k (by omega) k2
      · by_cases e : j = m
        · subst e; rw [hm0]; exact hle i i1 (by omega)
        · exact hz.2 i j i1 i2 (by omega)
      · rw [hz.1.kyout (k := j) (.inr (by omega))]
        have h5 := m5 j (by omega) i4
        by_cases e : i = m
        · subst e; rw [hm0]; exact h5
        · exact Int.le_trans (hle i i1 (by omega)) h5
    · refine callMP_of (ih (hi - (m + 1)) (by omega) (xs := y4) (a := m + 1) (b := hi) rfl (by omega) (by omega) (by omega) (.inr fun k k1 k2 => m5 k (by omega) k2)) fun r zs hz => ?_
      have hz : Sw (m + 1) hi y4 zs ∧ Srt zs (m + 1) hi := hz
      have hw := hz.1.wider (a' := lo) (b' := hi) (by omega) (Nat.le_refl _) (by omega)
      have hge := hz.1.each (P := fun x => ky y4 m ≤ x.1) (fun k k1 k2 => m5 k (by omega) k2)
      have hm0 : ∀ k, k ≤ m → ky zs k = ky y4 k := fun k hk => hz.1.kyout (.inl (by omega))
      refine ⟨hz.1.length, back _ ⟨lo, m, rfl, rfl, g1, m1, by omega, sB.trans (hw.wider g1 g3 (by omega)), (P4.sw hw).imp id fun h k k1 k2 => h k k1 (by omega), (W4.sw hw g1 g3).cutR g1 (by omega) (by omega) (fun i j i1 i2 i3 => ?_) (fun i j i1 i2 i3 i4 => ?_) g3⟩ (by dsimp only; omega)⟩
      · by_cases e : i = m
        · subst e; rw [hm0 i (Nat.le_refl _)]; exact hge j (by omega) i3
        · exact hz.2 i j (by omega) i2 i3
      · rw [hm0 i (by omega)]
        have h4 := m4 i i1 i2
        by_cases e : j = m
        · subst e; rw [hm0 j (Nat.le_refl _)]; exact h4
        · exact Int.le_trans h4 (hge j (by omega) i4)

theorem ok_SortFunc {xs : List PR} (hl : xs.length < 65536) :
    FnM bs n_slices_SortFunc (insAt 0 (.row 0 0) ((Shape.func (.pair sRun sRun) (.int .i64)).compsE G)) (b_slices_SortFunc xs) (.tup .unit) (fun _ ys => ys.Perm xs ∧ Srt ys 0 xs.length) := by
  refine okM_of (e_slices_SortFunc xs G _) rfl (HanOK.ofList [(122, .mut 0)] rfl rfl trivial) ?_
  unfold c_slices_SortFunc
  rw [wrapU (by omega)]
  refine callP_of (ok_bits_Len hl) fun r _ => ?_
  refine callMP_of (ok_pdqsort xs.length (xs := xs) (a := 0) (b := xs.length) (by omega) (by omega) (Nat.le_refl _) hl (.inl rfl)) fun r ys hy => ?_
  have hy : Sw 0 xs.length xs ys ∧ Srt ys 0 xs.length := hy
  exact ⟨hy.1.length, hy.1.perm, hy.2⟩
end Go.Proofs.YtjeoelajkncpcaaDoor.V

/- Sets as runs, of whatever runs: what the program's functions answer. No condition of its own. -/
namespace Go.Proofs.YtjeoelajkncpcaaDoor.V
open Go
set_option linter.unusedVariables false
set_option linter.unusedSimpArgs false

theorem ok_runs_order_compare {x : PR × PR} : FnE bs n_runs_order_compare ((Shape.pair sRunsOrder (.pair sRun sRun)).compsE (false, x)) (.int .i64) (· = cmpS x.1.1 x.2.1) := by
  refine ok_of (e_runs_order_compare (false, x) _) rfl ?_
  unfold c_runs_order_compare
  exact cond_no rfl (callP_eq ok_cmp_Compare rfl)

theorem ky_get {xs : List PR} {k : Nat} {r : PR} (h : xs[k]? = some r) : ky xs k = r.1 := by
  unfold ky el
  rw [List.getD_eq_getElem?_getD, h]
  rfl

theorem max_max (a b : Int) : maxI a b = max a b := by unfold maxI; split <;> omega
theorem min_min (a b : Int) : minI a b = min a b := by unfold minI; split <;> omega

/-- Runs that are clamped, the empty ones left out. -/
def clampO (r : PR) : Option PR := if (clampR r).1 ≤ (clampR r).2 then some (clampR r) else none

theorem clampO_mem {l : Runs} {n : Int} : mem (l.filterMap clampO) n ↔ memL l n := by
  unfold memL mem
  constructor
  · rintro ⟨q, hq, h1, h2⟩
    obtain ⟨r, hr, e⟩ := List.mem_filterMap.1 hq
    unfold clampO at e
    split at e
    · cases e
      have := clamp_in.1 ⟨h1, h2⟩
      exact ⟨this.1, this.2.1, r, hr, this.2.2⟩
    · cases e
  · rintro ⟨h1, h2, r, hr, h3, h4⟩
    have := clamp_in.2 ⟨h1, h2, h3, h4⟩
    exact ⟨clampR r, List.mem_filterMap.2 ⟨r, hr, by unfold clampO; rw [if_pos (by omega)]⟩, this.1, this.2⟩

theorem mem_take_succ {s : Runs} {k : Nat} {r : PR} (h : s[k]? = some r) (n : Int) : mem (s.take (k + 1)) n ↔ mem (s.take k) n ∨ (r.1 ≤ n ∧ n ≤ r.2) := by
  rw [List.take_add_one, h, Option.toList_some, mem_append, mem_cons]
  exact ⟨fun q => q.imp id fun q => q.elim id fun q => (mem_nil q).elim, fun q => q.imp id .inl⟩

theorem ok_runs_Make {l : Runs} (hl : l.length < 65536) : FnE bs n_runs_Make ((Shape.slice sRun).compsE l) (.slice sRun) (· = makeF l) := by
  refine ok_han (e_runs_Make l _) rfl (HanOK.ofList [(92, .mut 0)] rfl rfl trivial) ?_
  unfold c_runs_Make
  refine loopP_of (fun z : Unit × Int × Runs => ∃ k : Nat, z.2.1 = k ∧ k ≤ l.length ∧ z.2.2 = (l.take k).filterMap clampO) (fun z => l.length - z.2.1.toNat) ?_ ⟨0, rfl, Nat.zero_le _, rfl⟩
  rintro ⟨u, _, acc⟩ A ⟨k, e1, hk, e2⟩ back
  dsimp only at e1 e2 ⊢
  subst e1
  subst e2
  have hacc : ((l.take k).filterMap clampO).length ≤ k := Nat.le_trans (List.length_filterMap_le _ _) (by rw [List.length_take]; omega)
  refine cond_dec (fun h1 => ⟨⟨by omega, h1⟩, ?_⟩) fun h1 => ?_
  · have h1 : (k : Int) < l.length := h1
    have hk' : k < l.length := by omega
    have hg := List.getElem?_eq_getElem hk'
    generalize l[k] = r at hg
    rw [toNat_ofNat, rd_of (s := sRun) hg, max_max, min_min, w_succ (by omega)]
    have ht : l.take (k + 1) = l.take k ++ [r] := by rw [List.take_add_one, hg]; rfl
    refine cond_dec (fun h2 => ⟨?_, ?_⟩) fun h2 => ?_
    · simp only [List.length_cons, List.length_nil]; omega
    · refine back ((), ((k + 1 : Nat) : Int), _) ⟨k + 1, rfl, hk', ?_⟩ (by dsimp only; omega)
      rw [ht, List.filterMap_append]
      have : clampO r = some (max r.1 (-1099511627776), min r.2 1099511627776) := by unfold clampO; rw [if_pos (show (clampR r).1 ≤ (clampR r).2 from h2)]; rfl
      simp [this]
    · refine back ((), ((k + 1 : Nat) : Int), _) ⟨k + 1, rfl, hk', ?_⟩ (by dsimp only; omega)
      rw [ht, List.filterMap_append]
      have : clampO r = none := by unfold clampO; rw [if_neg (show ¬ (clampR r).1 ≤ (clampR r).2 from h2)]
      simp [this]
  · have hkl : k = l.length := by have h1 : ¬ (k : Int) < l.length := h1; omega
    subst hkl
    rw [List.take_length] at hacc ⊢
    have hmem := fun n => clampO_mem (l := l) (n := n)
    have hbd : ∀ r ∈ l.filterMap clampO, -Lim ≤ r.1 ∧ r.1 ≤ r.2 ∧ r.2 ≤ Lim := fun r hr => by
      obtain ⟨q, hq, e⟩ := List.mem_filterMap.1 hr
      unfold clampO at e
      split at e
      · cases e
        rename_i h
        unfold clampR Lim at *
        dsimp only at *
        omega
      · cases e
    refine ⟨G, ⟨(ok_runs_order_compare (x := ((0, 0), (0, 0)))).1, fun x r hx => by cases hx; exact ok_runs_order_compare⟩, ?_⟩
    generalize l.filterMap clampO = xs at hacc hmem hbd
    refine callMP_of (ok_SortFunc (xs := xs) (by omega)) fun r (ys : Runs) hy => ?_
    have hy : ys.Perm xs ∧ Srt ys 0 xs.length := hy
    have hyl : ys.length = xs.length := hy.1.length_eq
    refine ⟨hyl, ?_⟩
    have hyb : ∀ (j : Nat) r, ys[j]? = some r → -Lim ≤ r.1 ∧ r.1 ≤ r.2 ∧ r.2 ≤ Lim := fun j r hr => hbd r (hy.1.subset (List.mem_of_getElem? hr))
    refine loopP_of (fun z : Unit × Int × Runs => ∃ k : Nat, z.2.1 = k ∧ k ≤ ys.length ∧ z.2.2.length ≤ k ∧ Sane z.2.2 ∧ (∀ n, mem z.2.2 n ↔ mem (ys.take k) n) ∧ ∀ q ∈ z.2.2, ∀ j r, k ≤ j → ys[j]? = some r → q.1 ≤ r.1) (fun z => ys.length - z.2.1.toNat) ?_ ⟨0, rfl, Nat.zero_le _, Nat.zero_le _, sane_nil', fun n => Iff.rfl, fun q hq => by cases hq⟩
    rintro ⟨u, _, out⟩ A2 ⟨k, e1, hk, g1, g2, g3, g4⟩ back2
    dsimp only at e1 g1 g2 g3 g4 ⊢
    subst e1
    refine cond_dec (fun h1 => ⟨⟨by omega, h1⟩, ?_⟩) fun h1 => ?_
    · have h1 : (k : Int) < ys.length := h1
      have hk' : k < ys.length := by omega
      have hg := List.getElem?_eq_getElem hk'
      generalize ys[k] = r at hg
      have hb := hyb k r hg
      rw [toNat_ofNat, rd_of (s := sRun) hg, w_succ (by omega)]
      have hlater : ∀ j q, k + 1 ≤ j → ys[j]? = some q → r.1 ≤ q.1 := fun j q hj hq => by
        have := hy.2 k j (Nat.zero_le _) (by omega) (by have := (List.getElem?_eq_some_iff.1 hq).1; omega)
        rw [ky_get hg, ky_get hq] at this
        exact this
      -- a run of its own
      have own : (∀ q ∈ out, q.2 + 2 ≤ r.1) → chk ((out.length + [(r.1, r.2)].length) * 16 ≤ 140737488355328) (A2 ((), ((k + 1 : Nat) : Int), out ++ [(r.1, r.2)])) := fun h => by
        refine ⟨by simp only [List.length_cons, List.length_nil]; omega, ?_⟩
        refine back2 ((), ((k + 1 : Nat) : Int), out ++ [(r.1, r.2)]) ⟨k + 1, rfl, hk', by simp; omega, SaneFrom.append g2 hb.2.1 hb.2.2 (by unfold Lim at hb; dsimp only; omega) h, fun n => ?_, fun q hq j p hj hp => ?_⟩ (by dsimp only; omega)
        · rw [mem_take_succ hg, mem_append, g3 n, mem_cons]
          exact ⟨fun q => q.imp id fun q => q.elim id fun q => (mem_nil q).elim, fun q => q.imp id .inl⟩
        · rcases List.mem_append.1 hq with hq | hq
          · exact g4 q hq j p (by omega) hp
          · rw [List.mem_singleton] at hq; subst hq; exact hlater j p hj hp
      rcases List.eq_nil_or_concat out with e | ⟨f, q, e⟩
      · subst e
        refine cond_dec (fun h2 => ?_) fun _ => own fun q hq => by cases hq
        exact absurd h2 (by decide)
      · rw [List.concat_eq_append] at e
        subst e
        have hfl : ((f ++ [q]).length : Int) - 1 = (f.length : Int) := by simp
        rw [hfl, w64_of (n := (f.length : Int)) (by simp at g1; omega)]
        have hgl : (f ++ [q])[f.length]? = some q := by simp
        rw [toNat_ofNat, rd_of (s := sRun) hgl, set_last]
        have hq := Sane.bounds g2 q (by simp)
        have hql := g4 q (by simp) k r (Nat.le_refl _) hg
        refine cond_dec (fun h2 => ⟨⟨by omega, by simp; omega⟩, ?_⟩) fun h2 => absurd (show (0 : Int) ≤ f.length by omega) h2
        rw [w64_of (n := q.2 + 1) (by unfold Lim at hq; omega), max_max]
        refine cond_dec (fun h3 => ⟨⟨by omega, by simp; omega⟩, ⟨by omega, by simp; omega⟩, ?_⟩) fun h3 => own fun p hp => ?_
        · have h3 : r.1 ≤ q.2 + 1 := h3
          refine back2 ((), ((k + 1 : Nat) : Int), f ++ [(q.1, max q.2 r.2)]) ⟨k + 1, rfl, hk', by simp at g1 ⊢; omega, sane_last g2 rfl (by dsimp only; omega) (by dsimp only; omega), fun n => ?_, fun p hp j t hj ht => ?_⟩ (by dsimp only; omega)
          · rw [mem_take_succ hg, ← g3 n, mem_append, mem_append, mem_cons, mem_cons]
            dsimp only
            constructor
            · rintro (x | x | x)
              · exact .inl (.inl x)
              · by_cases e : n ≤ q.2
                · exact .inl (.inr (.inl ⟨x.1, e⟩))
                · exact .inr (by omega)
              · exact (mem_nil x).elim
            · rintro ((x | x | x) | x)
              · exact .inl x
              · exact .inr (.inl (by omega))
              · exact (mem_nil x).elim
              · exact .inr (.inl (by omega))
          · rcases List.mem_append.1 hp with hp | hp
            · exact g4 p (by simp [hp]) j t (by omega) ht
            · rw [List.mem_singleton] at hp; subst hp; exact g4 q (by simp) j t (by omega) ht
        · have h3 : ¬ r.1 ≤ q.2 + 1 := h3
          obtain ⟨i, hi⟩ := List.getElem?_of_mem hp
          have hil := (List.getElem?_eq_some_iff.1 hi).1
          by_cases e : i = f.length
          · subst e
            rw [hgl] at hi; cases hi; omega
          · have := SaneFrom.get g2 i f.length p q hi hgl (by simp at hil; omega)
            omega
    · have hkl : k = ys.length := by have h1 : ¬ (k : Int) < ys.length := h1; omega
      subst hkl
      refine make_of g2 fun n => ?_
      rw [g3 n, List.take_length, ← hmem n]
      unfold mem
      exact ⟨fun ⟨q, hq, h⟩ => ⟨q, hy.1.subset hq, h⟩, fun ⟨q, hq, h⟩ => ⟨q, hy.1.symm.subset hq, h⟩⟩

theorem ok_runs_knownA {s : Runs} (hl : s.length < 65536) : FnE bs n_runs_known ((Shape.slice sRun).compsE s) (.slice sRun) (· = makeF s) := by
  refine ok_of (e_runs_known s _) rfl ?_
  unfold c_runs_known
  refine callP_eq (ok_runs_Sane (by omega)) (cond_dec (fun h => (make_self h).symm) fun h => callP_eq (ok_runs_Make hl) rfl)

theorem ok_sets_knownA {s : Runs} (hl : s.length < 65536) : FnE bs n_sets_known ((Shape.slice sRun).compsE s) (.slice sRun) (· = makeF s) := by
  refine ok_of (e_sets_known s _) rfl ?_
  unfold c_sets_known
  refine callP_eq (ok_runs_Sane (by omega)) (cond_dec (fun h => (make_self h).symm) fun h => callP_eq (ok_runs_Make hl) rfl)

section
variable {s a b : Runs} {n lo hi : Int}

theorem ok_runs_NextA (hl : s.length < 65536) : FnE bs n_runs_Next ((Shape.pair (.slice sRun) (.int .i64)).compsE (s, n)) (.tup (.pair (.int .i64) .bool)) (NextR (makeF s) n) :=
  ok_runs_Next_gen (ok_runs_knownA hl) (by have := make_length s; omega) (make_sane s)

theorem ok_runs_HasA (hl : s.length < 65536) : FnE bs n_runs_Has ((Shape.pair (.slice sRun) (.int .i64)).compsE (s, n)) .bool (· = decide (mem (makeF s) n)) :=
  ok_runs_Has_gen (ok_runs_knownA hl) (by have := make_length s; omega) (make_sane s)

theorem ok_sets_MeetA (hla : a.length < 65536) (hlb : b.length < 65536) : FnE bs n_sets_Meet ((Shape.pair (.slice sRun) (.slice sRun)).compsE (a, b)) (.slice sRun) (MeetR (makeF a) (makeF b)) :=
  ok_sets_Meet_gen (ok_sets_knownA hla) (ok_sets_knownA hlb) (by have := make_length a; omega) (by have := make_length b; omega) (make_sane a) (make_sane b)

theorem ok_sets_WideA (hl : s.length < 65536) : FnE bs n_sets_Wide ((Shape.slice sRun).compsE s) .bool (· = decide (400 < (makeF s).length)) := by
  refine ok_of (e_sets_Wide s _) rfl ?_
  unfold c_sets_Wide
  refine callP_eq (ok_sets_knownA hl) (be (decide_eq_decide.2 ?_))
  omega

/-- The greatest number up to one. -/
def PrevR (s : Runs) (n : Int) (r : Int × Bool) : Prop := (r = (0, false) ∧ ∀ m, mem s m → n < m) ∨ (r.2 = true ∧ mem s r.1 ∧ r.1 ≤ n ∧ ∀ m, mem s m → m ≤ n → m ≤ r.1)

theorem ok_runs_PrevA (hl : s.length < 65536) : FnE bs n_runs_Prev ((Shape.pair (.slice sRun) (.int .i64)).compsE (s, n)) (.tup (.pair (.int .i64) .bool)) (PrevR (makeF s) n) := by
  refine ok_of (e_runs_Prev (s, n) _) rfl ?_
  unfold c_runs_Prev
  have hml := make_length s
  have h := make_sane s
  refine callP_eq (ok_runs_knownA hl) (callP_of (ok_runs_at (s := makeF s) (by omega) h) fun k hk => ?_)
  obtain ⟨k0, k1, k2⟩ := hk
  generalize makeF s = t at hml h k1 k2
  obtain ⟨k, rfl⟩ := Int.eq_ofNat_of_zero_le (show 0 ≤ (k : Int) from k0)
  dsimp only [Shape.Val] at *
  -- what ends ahead of it
  have before : ∀ (_ : k = t.length ∨ ∃ q, t[k]? = some q ∧ n < q.1), cond (decide ((k : Int) = 0)) (PrevR t n (0, false)) (chk ((0 : Int) ≤ w64 ((k : Int) - 1) ∧ w64 ((k : Int) - 1) < (t.length : Int)) (PrevR t n ((rd sRun t (w64 ((k : Int) - 1)).toNat).2, true))) := by
    intro hq
    have far : ∀ (i : Nat) r m, t[i]? = some r → k ≤ i → r.1 ≤ m → n < m := fun i r m hi hki hm => by
      rcases hq with hq | ⟨q, hq, hqn⟩
      · have := (List.getElem?_eq_some_iff.1 hi).1; omega
      · rcases Nat.lt_or_eq_of_le hki with e | e
        · have := SaneFrom.get h _ _ _ _ hq hi e
          have := Sane.bounds h q (List.mem_of_getElem? hq)
          omega
        · subst e; rw [hq] at hi; cases hi; omega
    refine cond_dec (fun e => ?_) fun e => ?_
    · have e : (k : Int) = 0 := e
      refine .inl ⟨rfl, fun m ⟨r, hr, hm⟩ => ?_⟩
      obtain ⟨i, hi⟩ := List.getElem?_of_mem hr
      exact far i r m hi (by omega) hm.1
    · have e : ¬ (k : Int) = 0 := e
      rw [w_pred (by omega) (by omega), toNat_ofNat]
      have hk' : k - 1 < t.length := by omega
      have hg := List.getElem?_eq_getElem hk'
      generalize t[k - 1] = r at hg
      rw [rd_of (s := sRun) hg]
      have hb := Sane.bounds h r (List.mem_of_getElem? hg)
      have hr := (k2 _ r hg).1 (by omega)
      refine ⟨⟨by omega, by omega⟩, .inr ⟨rfl, ⟨r, List.mem_of_getElem? hg, hb.2.1, Int.le_refl _⟩, by dsimp only; omega, fun m ⟨q, hq, hm⟩ hmn => ?_⟩⟩
      obtain ⟨i, hi⟩ := List.getElem?_of_mem hq
      by_cases hik : k ≤ i
      · have := far i q m hi hik hm.1; omega
      · have := sorted_hi h hi hg (by omega)
        dsimp only
        omega
  refine cond_dec (fun e => ⟨⟨by omega, e⟩, ?_⟩) fun e => ?_
  · have e : (k : Int) < t.length := e
    have hk' : k < t.length := by omega
    have hg := List.getElem?_eq_getElem hk'
    generalize t[k] = r at hg
    have hr := (k2 _ r hg).2 (Int.le_refl _)
    rw [toNat_ofNat, rd_of (s := sRun) hg]
    refine cond_dec (fun e2 => ?_) fun e2 => before (.inr ⟨r, hg, by have e2 : ¬ r.1 ≤ n := e2; omega⟩)
    exact .inr ⟨rfl, ⟨r, List.mem_of_getElem? hg, e2, hr⟩, Int.le_refl _, fun m _ hm => hm⟩
  · exact before (.inl (by have e : ¬ (k : Int) < t.length := e; omega))

/-- How many numbers a set has. -/
def countF : Runs → Int
  | [] => 0
  | r :: s => (r.2 - r.1 + 1) + countF s

theorem count_append (s t : Runs) : countF (s ++ t) = countF s + countF t := by
  induction s with
  | nil => simp [countF]
  | cons r s ih => simp only [List.cons_append, countF, ih]; omega

theorem ok_runs_CountA (hl : s.length < 65536) : FnE bs n_runs_Count ((Shape.slice sRun).compsE s) (.int .i64) (· = countF (makeF s)) := by
  refine ok_of (e_runs_Count s _) rfl ?_
  unfold c_runs_Count
  have hml := make_length s
  have h := make_sane s
  refine callP_eq (ok_runs_knownA hl) ?_
  generalize makeF s = t at hml h
  refine loopP_of (fun z : Int × Int => ∃ k : Nat, z.2 = k ∧ k ≤ t.length ∧ z.1 = countF (t.take k) ∧ 0 ≤ z.1 ∧ z.1 ≤ k * 2199023255553) (fun z => t.length - z.2.toNat) ?_ ⟨0, rfl, Nat.zero_le _, rfl, by decide, by decide⟩
  rintro ⟨_, _⟩ A ⟨k, e1, hk, e2, e3, e4⟩ back
  dsimp only at e1 e2 e3 e4 ⊢
  subst e1
  subst e2
  refine cond_dec (fun h1 => ⟨⟨by omega, h1⟩, ?_⟩) fun h1 => ?_
  · have h1 : (k : Int) < t.length := h1
    have hk' : k < t.length := by omega
    have hg := List.getElem?_eq_getElem hk'
    generalize t[k] = r at hg
    have hb := Sane.bounds h r (List.mem_of_getElem? hg)
    unfold Lim at hb
    rw [toNat_ofNat, rd_of (s := sRun) hg, w_succ (by omega), w64_of (n := r.2 - r.1) (by omega), w64_of (n := r.2 - r.1 + 1) (by omega), w64_of (n := countF (t.take k) + (r.2 - r.1 + 1)) (by omega)]
    refine back (_, ((k + 1 : Nat) : Int)) ⟨k + 1, rfl, hk', ?_, ?_, ?_⟩ (by dsimp only; omega) <;> dsimp only
    · rw [List.take_add_one, hg, Option.toList_some, count_append]
      simp [countF]
    · omega
    · omega
  · rw [List.take_of_length_le (by have h1 : ¬ (k : Int) < t.length := h1; omega)]

theorem ok_runs_Of {l : List Int} (hl : l.length < 65536) : FnE bs n_runs_Of ((Shape.slice (.int .i64)).compsE l) (.slice sRun) (· = makeF (l.map fun n => (n, n))) := by
  refine ok_of (e_runs_Of l _) rfl ?_
  unfold c_runs_Of
  refine loopP_of (fun z : Unit × Int × Runs => ∃ k : Nat, z.2.1 = k ∧ k ≤ l.length ∧ z.2.2 = (l.take k).map fun n => (n, n)) (fun z => l.length - z.2.1.toNat) ?_ ⟨0, rfl, Nat.zero_le _, rfl⟩
  rintro ⟨u, _, acc⟩ A ⟨k, e1, hk, e2⟩ back
  dsimp only at e1 e2 ⊢
  subst e1
  subst e2
  refine cond_dec (fun h1 => ⟨⟨by omega, h1⟩, ?_⟩) fun h1 => ?_
  · have h1 : (k : Int) < l.length := h1
    have hk' : k < l.length := by omega
    have hg := List.getElem?_eq_getElem hk'
    generalize l[k] = r at hg
    rw [toNat_ofNat, rd_of (s := .int .i64) hg, w_succ (by omega)]
    refine ⟨by simp only [List.length_cons, List.length_nil, List.length_map, List.length_take]; omega, ?_⟩
    refine back ((), ((k + 1 : Nat) : Int), _) ⟨k + 1, rfl, hk', ?_⟩ (by dsimp only; omega)
    rw [List.take_add_one, hg, Option.toList_some, List.map_append]
    rfl
  · rw [List.take_of_length_le (by have h1 : ¬ (k : Int) < l.length := h1; omega)]
    exact callP_eq (ok_runs_Make (by rw [List.length_map]; exact hl)) rfl
end
end Go.Proofs.YtjeoelajkncpcaaDoor.V

/- lustrumlaw14.LeafTidy, as a condition on the program's functions alone. No condition of its own. -/
namespace Go.Proofs.YtjeoelajkncpcaaDoor.V
open Go
set_option linter.unusedVariables false
set_option linter.unusedSimpArgs false

theorem ok_lustrumref04_Same {a b : Runs} (hl : a.length ≤ 1000000000) (hlb : b.length ≤ 1000000000) : FnE bs n_lustrumref04_Same ((Shape.pair (.slice sRun) (.slice sRun)).compsE (a, b)) .bool (· = decide (a = b)) := by
  refine ok_of (e_lustrumref04_Same (a, b) _) rfl ?_
  unfold c_lustrumref04_Same
  refine cond_not (fun h => be (decide_eq_false fun e => ?_).symm) fun h => ?_
  · subst e; simp at h
  · have hab : a.length = b.length := by have h : (a.length : Int) = b.length := of_decide_eq_true h; omega
    refine loopP_of (fun z : Int => ∃ k : Nat, z = k ∧ k ≤ a.length ∧ a.take k = b.take k) (fun z => a.length - z.toNat) ?_ ⟨0, rfl, Nat.zero_le _, rfl⟩
    rintro _ A ⟨k, rfl, hk, ht⟩ back
    refine cond_dec (fun h1 => ?_) fun h1 => ?_
    · have h1 : (k : Int) < a.length := h1
      have hka : k < a.length := by omega
      have hkb : k < b.length := by omega
      have ga := List.getElem?_eq_getElem hka
      have gb := List.getElem?_eq_getElem hkb
      generalize a[k] = x at ga
      generalize b[k] = y at gb
      dsimp only
      rw [toNat_ofNat, rd_of (s := sRun) ga, rd_of (s := sRun) gb, w64_of (n := (k : Int) + 1) (by omega)]
      refine ⟨⟨by omega, h1⟩, ⟨by omega, by omega⟩, cond_not (fun h2 => be (decide_eq_false fun e => ?_).symm) fun h2 => ?_⟩
      · subst e
        rw [ga] at gb
        cases gb
        simp at h2
      · rw [Bool.and_eq_true, decide_eq_true_iff, decide_eq_true_iff] at h2
        have : x = y := Prod.ext h2.1 h2.2
        subst this
        refine back ((k : Int) + 1) ⟨k + 1, by simp, hka, ?_⟩ (by omega)
        rw [List.take_add_one, List.take_add_one, ht, ga, gb]
    · have h1 : ¬ (k : Int) < a.length := h1
      rw [List.take_of_length_le (by omega), List.take_of_length_le (by omega)] at ht
      exact be (decide_eq_true ht).symm

theorem ok_lustrumref14_SamePairs {a b : Runs} (hl : a.length ≤ 1000000000) (hlb : b.length ≤ 1000000000) : FnE bs n_lustrumref14_SamePairs ((Shape.pair (.slice sRun) (.slice sRun)).compsE (a, b)) .bool (· = decide (a = b)) := by
  refine ok_of (e_lustrumref14_SamePairs (a, b) _) rfl ?_
  unfold c_lustrumref14_SamePairs
  refine cond_not (fun h => be (decide_eq_false fun e => ?_).symm) fun h => ?_
  · subst e; simp at h
  · have hab : a.length = b.length := by have h : (a.length : Int) = b.length := of_decide_eq_true h; omega
    refine loopP_of (fun z : Int => ∃ k : Nat, z = k ∧ k ≤ a.length ∧ a.take k = b.take k) (fun z => a.length - z.toNat) ?_ ⟨0, rfl, Nat.zero_le _, rfl⟩
    rintro _ A ⟨k, rfl, hk, ht⟩ back
    refine cond_dec (fun h1 => ?_) fun h1 => ?_
    · have h1 : (k : Int) < a.length := h1
      have hka : k < a.length := by omega
      have hkb : k < b.length := by omega
      have ga := List.getElem?_eq_getElem hka
      have gb := List.getElem?_eq_getElem hkb
      generalize a[k] = x at ga
      generalize b[k] = y at gb
      dsimp only
      rw [toNat_ofNat, rd_of (s := sRun) ga, rd_of (s := sRun) gb, w64_of (n := (k : Int) + 1) (by omega)]
      refine ⟨⟨by omega, h1⟩, ⟨by omega, by omega⟩, cond_not (fun h2 => be (decide_eq_false fun e => ?_).symm) fun h2 => ?_⟩
      · subst e
        rw [ga] at gb
        cases gb
        simp at h2
      · rw [Bool.and_eq_true, decide_eq_true_iff, decide_eq_true_iff] at h2
        have : x = y := Prod.ext h2.1 h2.2
        subst this
        refine back ((k : Int) + 1) ⟨k + 1, by simp, hka, ?_⟩ (by omega)
        rw [List.take_add_one, List.take_add_one, ht, ga, gb]
    · have h1 : ¬ (k : Int) < a.length := h1
      rw [List.take_of_length_le (by omega), List.take_of_length_le (by omega)] at ht
      exact be (decide_eq_true ht).symm

theorem ok_lustrumref14_Same {f g : Leaf} (h1 : f.2.2.1.length ≤ 1000000000) (h2 : f.2.2.2.length ≤ 1000000000) (h3 : g.2.2.1.length ≤ 1000000000) (h4 : g.2.2.2.length ≤ 1000000000) : FnE bs n_lustrumref14_Same ((Shape.pair sApiLeaf sApiLeaf).compsE (f, g)) .bool (· = decide (f = g)) := by
  obtain ⟨s, u, a, b⟩ := f
  obtain ⟨s', u', a', b'⟩ := g
  refine ok_of (e_lustrumref14_Same ((s, u, a, b), (s', u', a', b')) _) rfl ?_
  unfold c_lustrumref14_Same
  refine cond_dec (fun e1 => cond_dec (fun e2 => callP_eq (ok_lustrumref04_Same h1 h3) (cond_dec (fun e3 => callP_eq (ok_lustrumref04_Same h2 h4) (be ?_)) fun e3 => be ?_)) fun e2 => be ?_) fun e1 => be ?_ <;> dsimp only at *
  · have e2 : u = u' := e2
    rw [e1, e2, e3, decide_eq_decide]
    exact ⟨fun e => by rw [e], fun e => congrArg (fun x : Leaf => x.2.2.2) e⟩
  · exact (decide_eq_false fun e => e3 (congrArg (fun x : Leaf => x.2.2.1) e)).symm
  · exact (decide_eq_false fun e => e2 (congrArg (fun x : Leaf => x.2.1) e)).symm
  · exact (decide_eq_false fun e => e1 (congrArg (fun x : Leaf => x.1) e)).symm

/-! ### Tidied -/

theorem clip_self {s : Runs} {lo hi : Int} (h : Sane s) (k : ∀ n, mem s n → lo ≤ n ∧ n ≤ hi) : clipF s lo hi = s :=
  sane_ext (sane_clip h) h fun n => by rw [mem_clip]; exact ⟨fun q => q.1, fun q => ⟨q, k n q⟩⟩

theorem within_clip {s : Runs} {lo hi m : Int} (h : Within s m) : Within (clipF s lo hi) m := by
  refine ⟨sane_clip h.1, ?_⟩
  by_cases e : clipF s lo hi = []
  · exact .inl e
  · have h1 := mem_clip.1 (mem_lo (sane_clip (lo := lo) (hi := hi) h.1) e)
    have h2 := mem_clip.1 (mem_hi (sane_clip (lo := lo) (hi := hi) h.1) e)
    have b1 := Within.bounds h h1.1
    have b2 := Within.bounds h h2.1
    exact .inr ⟨b1.1, b2.2⟩

theorem within_nil (m : Int) : Within [] m := ⟨trivial, .inl rfl⟩

/-- What is tidied may be, and is the same family. -/
theorem tidy_of (f : Leaf) : LeafSane (tidyF f) ∧ ofF (tidyF f) = ofF f := by
  rcases ho : ofF f with _ | ⟨u, s⟩ | ⟨a, b⟩
  · have e : tidyF f = (false, 0, [], []) := by unfold tidyF; rw [ho]
    rw [e]
    exact ⟨by decide, by decide⟩
  · obtain ⟨h1, h2, h3, h4, h5, h6, h7⟩ := of_units ho
    have e : tidyF f = (false, u, s, []) := by unfold tidyF; rw [ho]
    have hs : LeafSane (false, u, s, []) := by
      unfold LeafSane
      rw [if_neg (by simp)]
      exact ⟨h7, h6, rfl⟩
    rw [e]
    refine ⟨hs, ?_⟩
    unfold ofF
    rw [if_neg (by simp [hs, h5]), if_pos rfl]
  · obtain ⟨h1, h2, h3, h4, h5, h6, h7, e1, e2⟩ := of_span ho
    obtain ⟨sa, sb, na, nb, l1, l2⟩ := span_ends ho
    have e : tidyF f = (true, 0, a, b) := by unfold tidyF; rw [ho]
    have hs : LeafSane (true, 0, a, b) := by
      unfold LeafSane
      rw [if_pos rfl]
      refine ⟨rfl, ?_, ?_⟩
      · show Within a 3652424
        rw [e1]; exact within_clip h6
      · show Within b 3652424
        rw [e2]; exact within_clip h7
    rw [e]
    refine ⟨hs, ?_⟩
    unfold ofF
    rw [if_neg (by simp [hs, na]), if_neg (by simp), if_neg (by dsimp only; rw [l1, l2]; simp [nb]; omega)]
    have ha : clipF a 0 (hiF b) = a := clip_self sa fun n hn => by
      have h := hn
      rw [e1, mem_clip] at h
      rw [l2]
      exact h.2
    have hb : clipF b (loF a) 3652424 = b := clip_self sb fun n hn => by
      have h := hn
      rw [e2, mem_clip] at h
      rw [l1]
      exact h.2
    dsimp only
    rw [ha, hb]

theorem tidy_lens (f : Leaf) : (tidyF f).2.2.1.length ≤ f.2.2.1.length ∧ (tidyF f).2.2.2.length ≤ f.2.2.2.length := by
  rcases ho : ofF f with _ | ⟨u, s⟩ | ⟨a, b⟩
  · have e : tidyF f = (false, 0, [], []) := by unfold tidyF; rw [ho]
    rw [e]; simp
  · obtain ⟨h1, h2, h3, h4, h5, h6, h7⟩ := of_units ho
    have e : tidyF f = (false, u, s, []) := by unfold tidyF; rw [ho]
    rw [e]; simp [h4]
  · obtain ⟨h1, h2, h3, h4, h5, h6, h7, e1, e2⟩ := of_span ho
    have e : tidyF f = (true, 0, a, b) := by unfold tidyF; rw [ho]
    rw [e, e1, e2]
    exact ⟨clip_length _ _ _, clip_length _ _ _⟩

open Classical in
theorem ok_LeafTidy (a : Leaf × (Int × Int)) : FnE bs n_lustrumlaw14_LeafTidy ((Shape.pair sApiLeaf sRun).compsE a) .bool (· = true) := by
  obtain ⟨f, p⟩ := a
  refine ok_of (e_lustrumlaw14_LeafTidy (f, p) _) rfl ?_
  unfold c_lustrumlaw14_LeafTidy
  refine callP_eq ok_lustrumlaw14_awake (callP_eq (ok_lustrumref14_Few (f := f)) (cond_not (fun h => rfl) fun h => ?_))
  have hf : f.2.2.1.length ≤ 40 ∧ f.2.2.2.length ≤ 40 := by simpa using h
  have hla : f.2.2.1.length ≤ 1000000000 := by omega
  have hlb : f.2.2.2.length ≤ 1000000000 := by omega
  obtain ⟨t1, t2⟩ := tidy_of f
  have hl := tidy_lens f
  have hta : (tidyF f).2.2.1.length ≤ 1000000000 := by omega
  have htb : (tidyF f).2.2.2.length ≤ 1000000000 := by omega
  have htt : tidyF (tidyF f) = tidyF f := by
    unfold tidyF
    have := t2
    unfold tidyF at this
    rw [this]
  have hhas : HasF (tidyF f) p ↔ HasF f p := by unfold HasF; rw [t2]
  have hpairs : ∀ n, pairsF (tidyF f) n = pairsF f n := fun n => by unfold pairsF; rw [t2]
  have hemp : (ofF f).isNone = decide ((((tidyF f).2.2.1.length : Nat) : Int) = 0) := by
    rw [Bool.eq_iff_iff, decide_eq_true_iff, Option.isNone_iff_eq_none]
    rcases ho : ofF f with _ | ⟨u, s⟩ | ⟨a, b⟩
    · have e : tidyF f = (false, 0, [], []) := by unfold tidyF; rw [ho]
      rw [e]; simp
    · obtain ⟨h1, h2, h3, h4, h5, h6, h7⟩ := of_units ho
      have e : tidyF f = (false, u, s, []) := by unfold tidyF; rw [ho]
      rw [e]; simp [h5]
    · obtain ⟨sa, sb, na, nb, l1, l2⟩ := span_ends ho
      have e : tidyF f = (true, 0, a, b) := by unfold tidyF; rw [ho]
      rw [e]; simp [na]
  -- each start has an end, each end a start
  have hspan : (tidyF f).1 = true → Sane (tidyF f).2.2.1 ∧ Sane (tidyF f).2.2.2 ∧ (∀ m, mem (tidyF f).2.2.1 m → ∃ n, mem (tidyF f).2.2.2 n ∧ m ≤ n) ∧ ∀ n, mem (tidyF f).2.2.2 n → ∃ m, mem (tidyF f).2.2.1 m ∧ m ≤ n := by
    intro hsp
    rcases ho : ofF f with _ | ⟨u, s⟩ | ⟨a, b⟩
    · have e : tidyF f = (false, 0, [], []) := by unfold tidyF; rw [ho]
      rw [e] at hsp; cases hsp
    · have e : tidyF f = (false, u, s, []) := by unfold tidyF; rw [ho]
      rw [e] at hsp; cases hsp
    · obtain ⟨h1, h2, h3, h4, h5, h6, h7, e1, e2⟩ := of_span ho
      obtain ⟨sa, sb, na, nb, l1, l2⟩ := span_ends ho
      have e : tidyF f = (true, 0, a, b) := by unfold tidyF; rw [ho]
      rw [e]
      refine ⟨sa, sb, fun m hm => ⟨hiF b, mem_hi sb nb, ?_⟩, fun n hn => ⟨loF a, mem_lo sa na, ?_⟩⟩
      · have h : mem a m := hm
        rw [e1, mem_clip] at h
        rw [l2]; omega
      · have h : mem b n := hn
        rw [e2, mem_clip] at h
        rw [l1]; omega
  refine callP_eq (ok_leaf_Tidy (f := f) hla hlb) ?_
  generalize tidyF f = g at *
  have hlc : (pairsF f 50).length ≤ 1000000000 := by unfold pairsF; rw [List.length_take]; omega
  have last : cond true (callP bs n_leaf_Pairs (.pair sApiLeaf (.int .i64)) (.slice sRun) ((g.1, g.2.1, g.2.2.1, g.2.2.2), (50 : Int)) (fun r16 => (callP bs n_leaf_Pairs (.pair sApiLeaf (.int .i64)) (.slice sRun) ((f.1, f.2.1, f.2.2.1, f.2.2.2), (50 : Int)) (fun r17 => (callP bs n_lustrumref14_SamePairs (.pair (.slice sRun) (.slice sRun)) .bool (r16, r17) (fun r18 => r18 = true)))))) (false = true) := by
    refine cond_yes rfl (callP_eq (ok_leaf_Pairs (f := g) hta htb) (callP_eq (ok_leaf_Pairs (f := f) hla hlb) (callP_eq (ok_lustrumref14_SamePairs (by rw [hpairs]; exact hlc) hlc) ?_)))
    exact decide_eq_true (hpairs 50)
  refine callP_eq (ok_leaf_Sane (f := g) hta htb) (cond_no (by rw [decide_eq_true t1]; rfl) ?_)
  refine callP_eq (ok_leaf_Has (f := g) hta htb) (callP_eq (ok_leaf_Has (f := f) hla hlb) (cond_no (by simp [hhas]) ?_))
  refine callP_eq (ok_leaf_Tidy (f := g) hta htb) ?_
  dsimp only
  rw [htt]
  refine callP_eq (ok_lustrumref14_Same (f := g) (g := g) hta htb hta htb) (cond_no (by simp) (callP_eq (ok_leaf_Empty (f := f) hla hlb) (cond_no (by rw [hemp]; simp) ?_)))
  have second : loopP (S := Int) (fun z13 back14 => (cond g.1 (cond (decide (z13 < (g.2.2.2.length : Int))) (chk ((0 : Int) ≤ z13 ∧ z13 < (g.2.2.2.length : Int)) (callP bs n_runs_Prev (.pair (.slice sRun) (.int .i64)) (.tup (.pair (.int .i64) .bool)) (g.2.2.1, (rd sRun g.2.2.2 z13.toNat).1) (fun r15 => (cond (!r15.2) (false = true) (back14 (w64 (z13 + (1 : Int)))))))) (cond true (callP bs n_leaf_Pairs (.pair sApiLeaf (.int .i64)) (.slice sRun) ((g.1, g.2.1, g.2.2.1, g.2.2.2), (50 : Int)) (fun r16 => (callP bs n_leaf_Pairs (.pair sApiLeaf (.int .i64)) (.slice sRun) ((f.1, f.2.1, f.2.2.1, f.2.2.2), (50 : Int)) (fun r17 => (callP bs n_lustrumref14_SamePairs (.pair (.slice sRun) (.slice sRun)) .bool (r16, r17) (fun r18 => r18 = true)))))) (false = true))) (cond true (callP bs n_leaf_Pairs (.pair sApiLeaf (.int .i64)) (.slice sRun) ((g.1, g.2.1, g.2.2.1, g.2.2.2), (50 : Int)) (fun r16 => (callP bs n_leaf_Pairs (.pair sApiLeaf (.int .i64)) (.slice sRun) ((f.1, f.2.1, f.2.2.1, f.2.2.2), (50 : Int)) (fun r17 => (callP bs n_lustrumref14_SamePairs (.pair (.slice sRun) (.slice sRun)) .bool (r16, r17) (fun r18 => r18 = true)))))) (false = true)))) (0 : Int) := by
    refine loopP_of (fun z : Int => ∃ k : Nat, z = k ∧ k ≤ g.2.2.2.length) (fun z => g.2.2.2.length - z.toNat) ?_ ⟨0, rfl, Nat.zero_le _⟩
    rintro _ A ⟨k, rfl, hk⟩ back
    refine cond_bool (fun hsp => cond_dec (fun h1 => ?_) fun _ => last) fun _ => last
    obtain ⟨sa, sb, m1, m2⟩ := hspan hsp
    have h1 : (k : Int) < g.2.2.2.length := h1
    have hk' : k < g.2.2.2.length := by omega
    have hg := List.getElem?_eq_getElem hk'
    generalize g.2.2.2[k] = r at hg
    rw [toNat_ofNat, rd_of (s := sRun) hg, w64_of (n := (k : Int) + 1) (by omega)]
    refine ⟨⟨by omega, h1⟩, callP_of (ok_runs_PrevA (by omega)) fun x hx => ?_⟩
    rw [make_self sa] at hx
    have hb := Sane.bounds sb r (List.mem_of_getElem? hg)
    obtain ⟨m, hm, hmn⟩ := m2 r.1 ⟨r, List.mem_of_getElem? hg, Int.le_refl _, hb.2.1⟩
    rcases hx with ⟨hx, hx2⟩ | ⟨hx, _⟩
    · have := hx2 m hm; omega
    · exact cond_no (by rw [hx]; rfl) (back ((k : Int) + 1) ⟨k + 1, by simp, hk'⟩ (by omega))
  refine loopP_of (fun z : Int => ∃ k : Nat, z = k ∧ k ≤ g.2.2.1.length) (fun z => g.2.2.1.length - z.toNat) ?_ ⟨0, rfl, Nat.zero_le _⟩
  rintro _ A ⟨k, rfl, hk⟩ back
  refine cond_bool (fun hsp => cond_dec (fun h1 => ?_) fun _ => second) fun _ => second
  obtain ⟨sa, sb, m1, m2⟩ := hspan hsp
  have h1 : (k : Int) < g.2.2.1.length := h1
  have hk' : k < g.2.2.1.length := by omega
  have hg := List.getElem?_eq_getElem hk'
  generalize g.2.2.1[k] = r at hg
  rw [toNat_ofNat, rd_of (s := sRun) hg, w64_of (n := (k : Int) + 1) (by omega)]
  refine ⟨⟨by omega, h1⟩, callP_of (ok_runs_NextA (by omega)) fun x hx => ?_⟩
  rw [make_self sb] at hx
  have hb := Sane.bounds sa r (List.mem_of_getElem? hg)
  obtain ⟨m, hm, hmn⟩ := m1 r.2 ⟨r, List.mem_of_getElem? hg, hb.2.1, Int.le_refl _⟩
  rcases hx with ⟨hx, hx2⟩ | ⟨hx, _⟩
  · have := hx2 m hm; omega
  · exact cond_no (by rw [hx]; rfl) (back ((k : Int) + 1) ⟨k + 1, by simp, hk'⟩ (by omega))
end Go.Proofs.YtjeoelajkncpcaaDoor.V

/- The document's answer for days and units: what its functions answer. No condition of its own. -/
namespace Go.Proofs.YtjeoelajkncpcaaDoor.V
open Go
set_option linter.unusedVariables false
set_option linter.unusedSimpArgs false

theorem tmod_zero (a b : Int) (hb : 1 ≤ b) : Int.tmod a b = 0 ↔ a % b = 0 := by
  by_cases h : 0 ≤ a
  · rw [tmod_of h]
  · rw [tmod_neg (by omega) hb]
    have h3 := Int.emod_lt_of_pos a (show 0 < b by omega)
    split <;> omega

theorem ok_ref02_Leap {y : Int} : FnE bs n_lustrumref02_Leap ((Shape.int .i64).compsE y) .bool (· = decide (VCal.Leap y)) := by
  refine ok_of (e_lustrumref02_Leap y _) rfl ?_
  unfold c_lustrumref02_Leap
  have h4 := tmod_zero y 4 (by omega)
  have h100 := tmod_zero y 100 (by omega)
  have h400 := tmod_zero y 400 (by omega)
  have L : VCal.Leap y ↔ (y % 400 = 0 ∨ (y % 4 = 0 ∧ y % 100 ≠ 0)) := Iff.rfl
  refine ⟨by decide, cond_dec (fun h => ⟨by decide, cond_not (fun h2 => ?_) fun h2 => ⟨by decide, be ?_⟩⟩) fun h => ⟨by decide, be ?_⟩⟩
  · have h : y.tmod 4 = 0 := h
    have h2 : ¬ y.tmod 100 = 0 := by simpa using h2
    refine be (decide_eq_true (L.2 (.inr ⟨h4.1 h, fun q => h2 (h100.2 q)⟩))).symm
  · have h2 : y.tmod 100 = 0 := by simpa using h2
    rw [Bool.eq_iff_iff, decide_eq_true_iff, decide_eq_true_iff, L]
    have := h100.1 h2
    exact ⟨fun q => .inl (h400.1 q), fun q => h400.2 (by omega)⟩
  · have h : ¬ y.tmod 4 = 0 := h
    rw [Bool.eq_iff_iff, decide_eq_true_iff, decide_eq_true_iff, L]
    have : ¬ y % 4 = 0 := fun q => h (h4.2 q)
    exact ⟨fun q => .inl (h400.1 q), fun q => h400.2 (by omega)⟩

theorem ok_ref02_Days {y m : Int} : FnE bs n_lustrumref02_Days ((Shape.pair (.int .i64) (.int .i64)).compsE (y, m)) (.int .i64) (· = VCal.mlen y m) := by
  refine ok_of (e_lustrumref02_Days (y, m) _) rfl ?_
  unfold c_lustrumref02_Days
  by_cases h : 1 ≤ m ∧ m ≤ 12
  · rcases VCal.months h.1 h.2 with rfl | rfl | rfl | rfl | rfl | rfl | rfl | rfl | rfl | rfl | rfl | rfl
    · exact (show (31 : Int) = VCal.mlen y 1 from rfl)
    · show callP bs 152 (.int .i64) .bool y (fun r => cond r ((fun x : Int => x = VCal.mlen y 2) 29) ((fun x : Int => x = VCal.mlen y 2) 28))
      refine callP_eq ok_ref02_Leap ?_
      rw [VCal.mlen_2]
      exact cond_dec (fun hl => by rw [if_pos hl]) fun hl => by rw [if_neg hl]
    · exact (show (31 : Int) = VCal.mlen y 3 from rfl)
    · exact (show (30 : Int) = VCal.mlen y 4 from rfl)
    · exact (show (31 : Int) = VCal.mlen y 5 from rfl)
    · exact (show (30 : Int) = VCal.mlen y 6 from rfl)
    · exact (show (31 : Int) = VCal.mlen y 7 from rfl)
    · exact (show (31 : Int) = VCal.mlen y 8 from rfl)
    · exact (show (30 : Int) = VCal.mlen y 9 from rfl)
    · exact (show (31 : Int) = VCal.mlen y 10 from rfl)
    · exact (show (30 : Int) = VCal.mlen y 11 from rfl)
    · exact (show (31 : Int) = VCal.mlen y 12 from rfl)
  · rw [VCal.mlen_out h]
    dsimp only
    rw [decide_eq_false (show ¬ m = 1 by omega), decide_eq_false (show ¬ m = 2 by omega), decide_eq_false (show ¬ m = 3 by omega), decide_eq_false (show ¬ m = 4 by omega), decide_eq_false (show ¬ m = 5 by omega), decide_eq_false (show ¬ m = 6 by omega), decide_eq_false (show ¬ m = 7 by omega), decide_eq_false (show ¬ m = 8 by omega), decide_eq_false (show ¬ m = 9 by omega), decide_eq_false (show ¬ m = 10 by omega), decide_eq_false (show ¬ m = 11 by omega), decide_eq_false (show ¬ m = 12 by omega)]
    rfl

theorem ok_ref02_Valid {y m d : Int} : FnE bs n_lustrumref02_Valid ((Shape.pair (.int .i64) (.pair (.int .i64) (.int .i64))).compsE (y, m, d)) .bool (· = decide (VCal.Valid y m d)) := by
  refine ok_of (e_lustrumref02_Valid (y, m, d) _) rfl ?_
  unfold c_lustrumref02_Valid
  have V : VCal.Valid y m d ↔ 0 ≤ y ∧ y ≤ 9999 ∧ 1 ≤ d ∧ d ≤ VCal.mlen y m := Iff.rfl
  refine cond_dec (fun h1 => cond_dec (fun h2 => cond_dec (fun h3 => callP_eq ok_ref02_Days (be ?_)) fun h3 => be (decide_eq_false fun q => ?_).symm) fun h2 => be (decide_eq_false fun q => ?_).symm) fun h1 => be (decide_eq_false fun q => ?_).symm
  · have h1 : 0 ≤ y := h1
    have h2 : y ≤ 9999 := h2
    have h3 : 1 ≤ d := h3
    rw [Bool.eq_iff_iff, decide_eq_true_iff, decide_eq_true_iff, V]
    exact ⟨fun q => ⟨h1, h2, h3, q⟩, fun q => q.2.2.2⟩
  · exact h3 (V.1 q).2.2.1
  · exact h2 (V.1 q).2.1
  · exact h1 (V.1 q).1

theorem ok_ref02_start {y : Int} (h : 0 ≤ y ∧ y ≤ 20000) : FnE bs n_lustrumref02_start ((Shape.int .i64).compsE y) (.int .i64) (· = VCal.start y) := by
  refine ok_of (e_lustrumref02_start y _) rfl ?_
  unfold c_lustrumref02_start VCal.start
  refine ⟨by decide, by decide, by decide, ?_⟩
  simp (disch := omega) only [w64_of, tdiv_of]
  exact ie (by omega)

theorem ok_ref02_Number {y m d : Int} : FnE bs n_lustrumref02_Number ((Shape.pair (.int .i64) (.pair (.int .i64) (.int .i64))).compsE (y, m, d)) (.tup (.pair (.int .i64) .bool)) (· = if VCal.Valid y m d then (VCal.num y m d, true) else (0, false)) := by
  refine ok_of (e_lustrumref02_Number (y, m, d) _) rfl ?_
  unfold c_lustrumref02_Number
  refine callP_eq ok_ref02_Valid (cond_not (fun h => ?_) fun h => ?_)
  · rw [if_neg (by simpa using h)]
  · have hv : VCal.Valid y m d := by simpa using h
    rw [if_pos hv]
    have hm := VCal.valid_month hv
    have hl := VCal.mlen_pos (y := y) hm.1 hm.2
    have hnd := VCal.num_day y m d
    have hj := VCal.num_jan y
    have hb := VCal.num_bounds (y := y) (m := 1) (d := 1) ⟨hv.1, hv.2.1, by omega, by rw [VCal.mlen_1]; omega⟩
    obtain ⟨v0, v1, v2, v3⟩ := hv
    refine callP_eq (ok_ref02_start (y := y) (by omega)) ?_
    dsimp only
    rw [w64_of (n := VCal.start y + d) (by omega), w64_of (n := VCal.start y + d - 1) (by omega)]
    refine loopP_of (fun z : Int × Int => 1 ≤ z.2 ∧ z.2 ≤ m ∧ z.1 = VCal.num y z.2 1 + d - 1 ∧ 0 ≤ z.1 ∧ z.1 ≤ 4000000 + 31 * z.2) (fun z => (m - z.2).toNat) ?_ ⟨by dsimp only; omega, hm.1, by dsimp only; omega, by dsimp only; omega, by dsimp only; omega⟩
    rintro ⟨x, i⟩ A ⟨h1, h2, h3, h4, h5⟩ back
    dsimp only at h1 h2 h3 h4 h5 ⊢
    refine cond_dec (fun h => ?_) fun h => ?_
    · have h : i < m := h
      have hli := VCal.mlen_pos (y := y) (m := i) (by omega) (by omega)
      have hn := VCal.num_month (y := y) (m := i) (by omega) (by omega)
      refine callP_eq ok_ref02_Days ?_
      rw [w64_of (n := x + VCal.mlen y i) (by omega), w64_of (n := i + 1) (by omega)]
      exact back (x + VCal.mlen y i, i + 1) ⟨by dsimp only; omega, by dsimp only; omega, by dsimp only; omega, by dsimp only; omega, by dsimp only; omega⟩ (by dsimp only; omega)
    · have h : ¬ i < m := h
      have : i = m := by omega
      subst this
      show (x, true) = (VCal.num y i d, true)
      rw [show x = VCal.num y i d by omega]

theorem ok_ref02_Date {n : Int} : FnE bs n_lustrumref02_Date ((Shape.int .i64).compsE n) (.tup (.pair (.int .i64) (.pair (.int .i64) (.int .i64)))) (· = if 0 ≤ n ∧ n ≤ 3652424 then VCal.dateOf n else (0, 0, 0)) := by
  refine ok_of (e_lustrumref02_Date n _) rfl ?_
  unfold c_lustrumref02_Date
  refine cond_dec (fun h => by rw [if_neg (by omega)]) fun h => cond_dec (fun h2 => by rw [if_neg (by omega)]) fun h2 => ⟨by decide, ?_⟩
  have hn : 0 ≤ n ∧ n ≤ 3652424 := by omega
  rw [if_pos hn]
  obtain ⟨v, e⟩ := VCal.date_num hn
  have hm := VCal.valid_month v
  obtain ⟨v0, v1, v2, v3⟩ := v
  have hin := VCal.num_in_year (y := (VCal.dateOf n).1) hm.1 hm.2 v2 v3
  rw [e] at hin
  have hnd := VCal.num_day (VCal.dateOf n).1 (VCal.dateOf n).2.1 (VCal.dateOf n).2.2
  rw [e] at hnd
  have hj := VCal.num_jan (VCal.dateOf n).1
  have hd : VCal.dateOf n = ((VCal.dateOf n).1, (VCal.dateOf n).2.1, (VCal.dateOf n).2.2) := rfl
  rw [hd]
  generalize (VCal.dateOf n).1 = y0 at *
  generalize (VCal.dateOf n).2.1 = m0 at *
  generalize (VCal.dateOf n).2.2 = d0 at *
  have hg : n / 366 ≤ y0 := by
    have : n < VCal.start (y0 + 1) := hin.2
    unfold VCal.start at this
    omega
  rw [tdiv_of hn.1, w64_of (n := n / 366) (by omega)]
  refine loopP_of (fun z : Int => 0 ≤ z ∧ z ≤ y0) (fun z => (y0 - z).toNat) ?_ ⟨by omega, hg⟩
  rintro y A ⟨h1, h2⟩ back
  rw [w64_of (n := y + 1) (by omega)]
  refine callP_eq (ok_ref02_start (y := y + 1) (by omega)) (cond_dec (fun h3 => ?_) fun h3 => ?_)
  · have h3 : VCal.start (y + 1) ≤ n := h3
    have : y ≠ y0 := fun q => by subst q; omega
    exact back (y + 1) ⟨by omega, by omega⟩ (by omega)
  · have h3 : ¬ VCal.start (y + 1) ≤ n := h3
    have hy : y = y0 := by
      rcases Int.lt_or_eq_of_le h2 with q | q
      · have := VCal.start_mono q; omega
      · exact q
    subst hy
    refine callP_eq (ok_ref02_start (y := y) (by omega)) ?_
    have b0 : 0 ≤ VCal.start y := by unfold VCal.start; omega
    rw [w64_of (n := n - VCal.start y) (by omega)]
    have hs := VCal.start_succ y
    have hsz : VCal.start (y + 1) ≤ VCal.start y + 366 := by rw [hs]; split <;> omega
    refine loopP_of (fun z : Int × Int => 1 ≤ z.2 ∧ z.2 ≤ m0 ∧ z.1 = n - VCal.num y z.2 1) (fun z => (m0 - z.2).toNat) ?_ ⟨by dsimp only; omega, hm.1, by dsimp only; omega⟩
    rintro ⟨x, m⟩ A2 ⟨q1, q2, q3⟩ back2
    dsimp only at q1 q2 q3 ⊢
    have hl := VCal.mlen_pos (y := y) q1 (show m ≤ 12 by omega)
    have hl0 := VCal.mlen_pos (y := y) hm.1 hm.2
    have hlo := VCal.num_in_year (y := y) (d := 1) q1 (show m ≤ 12 by omega) (by omega) (by omega)
    refine callP_eq ok_ref02_Days (cond_dec (fun h4 => callP_eq ok_ref02_Days ?_) fun h4 => ?_)
    · have h4 : VCal.mlen y m ≤ x := h4
      rw [w64_of (n := x - VCal.mlen y m) (by omega), w64_of (n := m + 1) (by omega)]
      have hlt : m ≠ m0 := fun q => by subst q; omega
      have hnm := VCal.num_month (y := y) q1 (show m ≤ 11 by omega)
      exact back2 (x - VCal.mlen y m, m + 1) ⟨by dsimp only; omega, by dsimp only; omega, by dsimp only; omega⟩ (by dsimp only; omega)
    · have h4 : ¬ VCal.mlen y m ≤ x := h4
      have hmm : m = m0 := by
        rcases Int.lt_or_eq_of_le q2 with q | q
        · exfalso
          have hnm := VCal.num_month (y := y) q1 (show m ≤ 11 by omega)
          have hmono := VCal.num_mono_month (y := y) (m := m + 1) (by omega) (m0 - m - 1).toNat (by omega)
          rw [show m + 1 + ((m0 - m - 1).toNat : Int) = m0 by omega] at hmono
          omega
        · exact q
      subst hmm
      rw [w64_of (n := x + 1) (by omega), show x + 1 = d0 by omega]

/-! ### Units -/

theorem ok_ref03_Count {kind : Int} : FnE bs n_lustrumref03_Count ((Shape.int .i64).compsE kind) (.int .i64) (· = VCal.ucount kind) := by
  refine ok_of (e_lustrumref03_Count kind _) rfl ?_
  unfold c_lustrumref03_Count
  refine cond_dec (fun h => ?_) fun h0 => cond_dec (fun h => ?_) fun h1 => cond_dec (fun h => ?_) fun h2 => cond_dec (fun h => ?_) fun h3 => cond_dec (fun h => ?_) fun h4 => cond_dec (fun h => ?_) fun h5 => ?_
  · have h : kind = 0 := h; subst h; rfl
  · have h : kind = 1 := h; subst h; rfl
  · have h : kind = 2 := h; subst h; rfl
  · have h : kind = 3 := h; subst h; rfl
  · have h : kind = 4 := h; subst h; rfl
  · have h : kind = 5 := h; subst h; rfl
  · unfold VCal.ucount VCal.tab
    rw [if_neg h0, if_neg h1, if_neg h2, if_neg h3, if_neg h4, if_neg h5]

theorem num_first {q : Int} (h : 0 ≤ q ∧ q < 120000) : FnE bs n_lustrumref02_Number ((Shape.pair (.int .i64) (.pair (.int .i64) (.int .i64))).compsE (q / 12, q % 12 + 1, 1)) (.tup (.pair (.int .i64) .bool)) (· = (VCal.mfirst q, true)) :=
  ok_ref02_Number.mono fun r hr => by rw [hr, if_pos (VCal.valid_first h)]; rfl

theorem ok_ref03_First {kind i : Int} : FnE bs n_lustrumref03_First ((Shape.pair (.int .i64) (.int .i64)).compsE (kind, i)) (.tup (.pair (.int .i64) .bool)) (· = firstS kind i) := by
  refine ok_of (e_lustrumref03_First (kind, i) _) rfl ?_
  unfold c_lustrumref03_First firstS
  refine cond_dec (fun h => by rw [if_neg (by omega)]) fun h0 => callP_eq ok_ref03_Count (cond_dec (fun h => by dsimp only [Shape.Val] at *; rw [if_neg (by omega)]) fun h1 => ?_)
  have h0 : ¬ i < 0 := h0
  have h1 : ¬ VCal.ucount kind ≤ i := h1
  rw [if_pos (by omega)]
  unfold VCal.ufirst
  refine cond_dec (fun hk => ?_) fun hk0 => ?_
  · have hk : kind = 0 := hk
    rw [if_pos hk]
  · have hk0 : ¬ kind = 0 := hk0
    rw [if_neg hk0]
    cases ht : VCal.tab kind with
    | none =>
      have hc : VCal.ucount kind = 0 := by unfold VCal.ucount; rw [if_neg hk0, ht]
      omega
    | some t =>
      obtain ⟨m, f, c⟩ := t
      have hc : VCal.ucount kind = c := by unfold VCal.ucount; rw [if_neg hk0, ht]
      rw [hc] at h1
      have hf := VCal.tab_fit ht (show 0 ≤ i by omega) (show i < c by omega)
      have rn := num_first (q := f + m * i) ⟨hf.1, hf.2.1⟩
      dsimp only
      rcases VCal.tab_cases ht with ⟨rfl, rfl, rfl, rfl⟩ | ⟨rfl, rfl, rfl, rfl⟩ | ⟨rfl, rfl, rfl, rfl⟩ | ⟨rfl, rfl, rfl, rfl⟩ | ⟨rfl, rfl, rfl, rfl⟩
      · rw [tdiv_of (by omega), tmod_of (by omega), w64_of (n := i / 12) (by omega), w64_of (n := i % 12 + 1) (by omega)]
        rw [show (0 + 1 * i) / 12 = i / 12 by omega, show (0 + 1 * i) % 12 + 1 = i % 12 + 1 by omega] at rn
        exact cond_yes rfl ⟨by decide, by decide, callP_eq rn rfl⟩
      · rw [tdiv_of (by omega), tmod_of (by omega), tdiv_of (by omega), tmod_of (by omega), w64_of (n := i / 4) (by omega), w64_of (n := i % 4 * 3) (by omega), w64_of (n := i % 4 * 3 + 3) (by omega)]
        rw [show (2 + 3 * i) / 12 = i / 4 by omega, show (2 + 3 * i) % 12 + 1 = i % 4 * 3 + 3 by omega] at rn
        exact cond_no rfl (cond_yes rfl ⟨by decide, by decide, callP_eq rn rfl⟩)
      · rw [show (0 + 12 * i) / 12 = i by omega, show (0 + 12 * i) % 12 + 1 = 1 by omega] at rn
        exact cond_no rfl (cond_no rfl (cond_yes rfl (callP_eq rn rfl)))
      · rw [w64_of (n := i * 10) (by omega)]
        rw [show (0 + 120 * i) / 12 = i * 10 by omega, show (0 + 120 * i) % 12 + 1 = 1 by omega] at rn
        exact cond_no rfl (cond_no rfl (cond_no rfl (cond_yes rfl (callP_eq rn rfl))))
      · rw [w64_of (n := i * 100) (by omega)]
        rw [show (0 + 1200 * i) / 12 = i * 100 by omega, show (0 + 1200 * i) % 12 + 1 = 1 by omega] at rn
        exact cond_no rfl (cond_no rfl (cond_no rfl (cond_no rfl (callP_eq rn rfl))))

theorem ok_ref03_Last {kind i : Int} : FnE bs n_lustrumref03_Last ((Shape.pair (.int .i64) (.int .i64)).compsE (kind, i)) (.tup (.pair (.int .i64) .bool)) (· = lastS kind i) := by
  refine ok_of (e_lustrumref03_Last (kind, i) _) rfl ?_
  unfold c_lustrumref03_Last lastS
  have hc := VCal.ucount_pos kind
  refine cond_dec (fun h => by rw [if_neg (by omega)]) fun h0 => callP_eq ok_ref03_Count (cond_dec (fun h => by dsimp only [Shape.Val] at *; rw [if_neg (by omega)]) fun h1 => ?_)
  have h0 : ¬ i < 0 := h0
  have h1 : ¬ VCal.ucount kind ≤ i := h1
  rw [if_pos (by omega)]
  dsimp only
  rw [w64_of (n := i + 1) (by omega)]
  refine callP_eq ok_ref03_First ?_
  unfold firstS
  by_cases hl : i = VCal.ucount kind - 1
  · rw [if_neg (by omega)]
    refine cond_no rfl ?_
    unfold VCal.ulast
    rw [if_pos hl]
  · rw [if_pos (by omega)]
    have hn := VCal.ulast_next (kind := kind) (i := i) (by omega)
    have b := VCal.unit_in (kind := kind) (i := i + 1) (by omega) (by omega)
    refine cond_yes rfl ?_
    dsimp only
    rw [w64_of (n := VCal.ufirst kind (i + 1) - 1) (by omega), show VCal.ufirst kind (i + 1) - 1 = VCal.ulast kind i by omega]

theorem ok_ref03_Of {kind d : Int} : FnE bs n_lustrumref03_Of ((Shape.pair (.int .i64) (.int .i64)).compsE (kind, d)) (.tup (.pair (.int .i64) .bool)) (· = ofS kind d) := by
  refine ok_of (e_lustrumref03_Of (kind, d) _) rfl ?_
  unfold c_lustrumref03_Of ofS VCal.uof
  refine callP_eq ok_ref02_Date ?_
  dsimp only
  by_cases hd : 0 ≤ d ∧ d ≤ 3652424
  · rw [if_pos hd, if_pos hd]
    obtain ⟨v, e⟩ := VCal.date_num hd
    have hm := VCal.valid_month v
    have v0 := v.1
    have v1 := v.2.1
    refine cond_no (decide_eq_false (show ¬ ((VCal.dateOf d).2.1 = (0 : Int)) by omega)) ?_
    have hmon : VCal.mon d = 12 * (VCal.dateOf d).1 + (VCal.dateOf d).2.1 - 1 := rfl
    generalize (VCal.dateOf d).1 = y at *
    generalize (VCal.dateOf d).2.1 = mo at *
    refine cond_dec (fun hk => by have hk : kind = 0 := hk; rw [if_pos hk]) fun hk0 => ?_
    have hk0 : ¬ kind = 0 := hk0
    rw [if_neg hk0]
    cases ht : VCal.tab kind with
    | none =>
      have hn : kind ≠ 1 ∧ kind ≠ 2 ∧ kind ≠ 3 ∧ kind ≠ 4 ∧ kind ≠ 5 := by
        refine ⟨?_, ?_, ?_, ?_, ?_⟩ <;> (rintro rfl; cases ht)
      exact cond_no (decide_eq_false hn.1) (cond_no (decide_eq_false hn.2.1) (cond_no (decide_eq_false hn.2.2.1) (cond_no (decide_eq_false hn.2.2.2.1) (cond_no (decide_eq_false hn.2.2.2.2) rfl))))
    | some t =>
      obtain ⟨m, f, c⟩ := t
      dsimp only
      rcases VCal.tab_cases ht with ⟨rfl, rfl, rfl, rfl⟩ | ⟨rfl, rfl, rfl, rfl⟩ | ⟨rfl, rfl, rfl, rfl⟩ | ⟨rfl, rfl, rfl, rfl⟩ | ⟨rfl, rfl, rfl, rfl⟩
      · rw [w64_of (n := y * 12) (by omega), w64_of (n := y * 12 + mo) (by omega), w64_of (n := y * 12 + mo - 1) (by omega), if_neg (by omega)]
        refine cond_yes rfl ?_
        rw [show y * 12 + mo - 1 = (VCal.mon d - 0) / 1 by omega]
      · rw [tdiv_of (by omega), w64_of (n := y * 4) (by omega), w64_of (n := mo / 3) (by omega), w64_of (n := y * 4 + mo / 3) (by omega), w64_of (n := y * 4 + mo / 3 - 1) (by omega)]
        refine cond_no rfl (cond_yes rfl ⟨by decide, ?_⟩)
        have hmx : maxI (y * 4 + mo / 3 - 1) 0 = max (y * 4 + mo / 3 - 1) 0 := by unfold maxI; split <;> omega
        rw [hmx]
        by_cases hl : VCal.mon d - 2 < 0
        · rw [if_pos hl, decide_eq_false (by omega), show max (y * 4 + mo / 3 - 1) 0 = 0 by omega]
        · rw [if_neg hl, decide_eq_true (by omega), show max (y * 4 + mo / 3 - 1) 0 = (VCal.mon d - 2) / 3 by omega]
      · rw [if_neg (by omega)]
        refine cond_no rfl (cond_no rfl (cond_yes rfl ?_))
        rw [show y = (VCal.mon d - 0) / 12 by omega]
      · rw [tdiv_of (a := y) (b := 10) (by omega), w64_of (n := y / 10) (by omega), if_neg (by omega)]
        refine cond_no rfl (cond_no rfl (cond_no rfl (cond_yes rfl ⟨by decide, ?_⟩)))
        rw [show y / 10 = (VCal.mon d - 0) / 120 by omega]
      · rw [tdiv_of (a := y) (b := 100) (by omega), w64_of (n := y / 100) (by omega), if_neg (by omega)]
        refine cond_no rfl (cond_no rfl (cond_no rfl (cond_no rfl (cond_yes rfl ⟨by decide, ?_⟩))))
        rw [show y / 100 = (VCal.mon d - 0) / 1200 by omega]
  · rw [if_neg hd, if_neg hd]
    exact cond_yes rfl rfl
end Go.Proofs.YtjeoelajkncpcaaDoor.V

/- The document's answer for sets: what its functions answer. No condition of its own. -/
namespace Go.Proofs.YtjeoelajkncpcaaDoor.V
open Go
set_option linter.unusedVariables false
set_option linter.unusedSimpArgs false

theorem saneFrom_take : ∀ {s : Runs} {a : Int}, SaneFrom a s ↔ ∀ (k : Nat) r, s[k]? = some r → r.1 ≤ r.2 ∧ r.2 ≤ Lim ∧ (k = 0 → a + 2 ≤ r.1) ∧ ∀ q, 1 ≤ k → s[k - 1]? = some q → q.2 + 2 ≤ r.1
  | [], a => ⟨fun _ k r h => by simp at h, fun _ => trivial⟩
  | x :: s, a => by
    constructor
    · intro h k r hk
      cases k with
      | zero => simp at hk; subst hk; exact ⟨h.1, h.2.2.1, fun _ => h.2.1, fun q h1 => by omega⟩
      | succ k =>
        have hk' : s[k]? = some r := by simpa using hk
        have := (saneFrom_take.1 h.2.2.2) k r hk'
        refine ⟨this.1, this.2.1, fun e => by omega, fun q _ hq => ?_⟩
        cases k with
        | zero => simp at hq; subst hq; exact this.2.2.1 rfl
        | succ k => exact this.2.2.2 q (by omega) (by simpa using hq)
    · intro h
      have h0 := h 0 x rfl
      refine ⟨h0.1, h0.2.2.1 rfl, h0.2.1, saneFrom_take.2 fun k r hk => ?_⟩
      have := h (k + 1) r (by simpa using hk)
      refine ⟨this.1, this.2.1, fun e => ?_, fun q hk1 hq => ?_⟩
      · subst e; exact this.2.2.2 x (by omega) rfl
      · obtain ⟨j, rfl⟩ : ∃ j, k = j + 1 := ⟨k - 1, by omega⟩
        exact this.2.2.2 q (by omega) (by simpa using hq)

theorem ok_ref04_Sane {s : Runs} (hl : s.length ≤ 1000000000) : FnE bs n_lustrumref04_Sane ((Shape.slice sRun).compsE s) .bool (· = decide (Sane s)) := by
  refine ok_of (e_lustrumref04_Sane s _) rfl ?_
  unfold c_lustrumref04_Sane
  have hS : Sane s ↔ _ := saneFrom_take
  refine loopP_of (fun z : Int => ∃ k : Nat, z = k ∧ k ≤ s.length ∧ ∀ (i : Nat) r, i < k → s[i]? = some r → r.1 ≤ r.2 ∧ -Lim ≤ r.1 ∧ r.2 ≤ Lim ∧ ∀ q, 1 ≤ i → s[i - 1]? = some q → q.2 + 2 ≤ r.1) (fun z => s.length - z.toNat) ?_ ⟨0, rfl, Nat.zero_le _, fun i r h => by omega⟩
  rintro _ A ⟨k, rfl, hk, hi⟩ back
  refine cond_dec (fun h1 => ?_) fun h1 => ?_
  · have h1 : (k : Int) < s.length := h1
    have hk' : k < s.length := by omega
    have hg := List.getElem?_eq_getElem hk'
    generalize s[k] = r at hg
    rw [toNat_ofNat, rd_of (s := sRun) hg, w64_of (n := (k : Int) + 1) (by omega)]
    have no : ∀ {P : Prop}, (Sane s → P) → ¬ P → (false : Bool) = decide (Sane s) := fun h q => (decide_eq_false fun hs => q (h hs)).symm
    refine ⟨⟨by omega, h1⟩, ⟨by omega, h1⟩, cond_dec (fun h2 => be (no (P := r.1 ≤ r.2) (fun hs => (Sane.bounds hs r (List.mem_of_getElem? hg)).2.1) (by have h2 : r.2 < r.1 := h2; omega))) fun h2 => ⟨⟨by omega, h1⟩, cond_dec (fun h3 => be (no (P := -Lim ≤ r.1) (fun hs => (Sane.bounds hs r (List.mem_of_getElem? hg)).1) (by have h3 : r.1 < -1099511627776 := h3; unfold Lim; omega))) fun h3 => ⟨⟨by omega, h1⟩, cond_dec (fun h4 => be (no (P := r.2 ≤ Lim) (fun hs => (Sane.bounds hs r (List.mem_of_getElem? hg)).2.2) (by have h4 : 1099511627776 < r.2 := h4; unfold Lim; omega))) fun h4 => cond_dec (fun h5 => ?_) fun h5 => ?_⟩⟩⟩
    · have h2 : ¬ r.2 < r.1 := h2
      have h3 : ¬ r.1 < -1099511627776 := h3
      have h4 : ¬ 1099511627776 < r.2 := h4
      have h5 : (0 : Int) < k := h5
      rw [w_pred (by omega) (by omega), toNat_ofNat, w64_of (n := r.1 - 1) (by omega)]
      have hk2 : k - 1 < s.length := by omega
      have hg2 := List.getElem?_eq_getElem hk2
      generalize s[k - 1] = q at hg2
      rw [rd_of (s := sRun) hg2]
      refine ⟨⟨by omega, h1⟩, ⟨by omega, by omega⟩, cond_dec (fun h6 => be (no (P := q.2 + 2 ≤ r.1) (fun hs => SaneFrom.get hs (k - 1) k q r hg2 hg (by omega)) (by have h6 : r.1 - 1 ≤ q.2 := h6; omega))) fun h6 => ?_⟩
      have h6 : ¬ r.1 - 1 ≤ q.2 := h6
      refine back _ ⟨k + 1, by simp, hk', fun i p hik hp => ?_⟩ (by omega)
      by_cases e : i = k
      · subst e
        rw [hg] at hp; cases hp
        exact ⟨by omega, by unfold Lim; omega, by unfold Lim; omega, fun p hp1 hp2 => by rw [hg2] at hp2; cases hp2; omega⟩
      · exact hi i p (by omega) hp
    · have h2 : ¬ r.2 < r.1 := h2
      have h3 : ¬ r.1 < -1099511627776 := h3
      have h4 : ¬ 1099511627776 < r.2 := h4
      have h5 : ¬ (0 : Int) < k := h5
      have : k = 0 := by omega
      subst this
      refine back _ ⟨1, by simp, hk', fun i p hik hp => ?_⟩ (by omega)
      have : i = 0 := by omega
      subst this
      rw [hg] at hp; cases hp
      exact ⟨by omega, by unfold Lim; omega, by unfold Lim; omega, fun p hp1 => by omega⟩
  · refine be (decide_eq_true (hS.2 fun i r hr => ?_)).symm
    have hil := (List.getElem?_eq_some_iff.1 hr).1
    have := hi i r (by have h1 : ¬ (k : Int) < s.length := h1; omega) hr
    exact ⟨this.1, this.2.2.1, fun _ => by unfold Lim at this; omega, this.2.2.2⟩

theorem ok_ref04_put {s : Runs} {r : Int × Int} (hl : s.length ≤ 1000000) (h : Sane s) : FnE bs n_lustrumref04_put ((Shape.pair (.slice sRun) sRun).compsE (s, r)) (.slice sRun) (· = putF s r) := by
  refine ok_of (e_lustrumref04_put (s, r) _) rfl ?_
  unfold c_lustrumref04_put
  dsimp only
  rw [max_max, min_min]
  have hc : clampR r = (max r.1 (-1099511627776), min r.2 1099511627776) := rfl
  refine cond_dec (fun h1 => ?_) fun h1 => ?_
  · show s = putF s r
    have h1 : min r.2 1099511627776 < max r.1 (-1099511627776) := h1
    unfold putF
    rw [hc, if_neg (by dsimp only; omega)]
  · have h1 : ¬ min r.2 1099511627776 < max r.1 (-1099511627776) := h1
    have hput : putF s r = putS s (max r.1 (-1099511627776), min r.2 1099511627776) := by unfold putF; rw [hc, if_pos (by dsimp only; omega)]
    rw [hput]
    generalize hx : (max r.1 (-1099511627776), min r.2 1099511627776) = x0
    have hx1 : max r.1 (-1099511627776) = x0.1 := by rw [← hx]
    have hx2 : min r.2 1099511627776 = x0.2 := by rw [← hx]
    rw [hx1, hx2] at h1
    have hb0 : -Lim ≤ x0.1 ∧ x0.2 ≤ Lim := by rw [← hx1, ← hx2]; unfold Lim; omega
    -- those ahead; then what is still to be looked at, unless some are behind
    refine loopP_of (fun z : Unit × Unit × Int × (Int × Int) × Runs × Runs => ∃ k : Nat, z.2.2.1 = k ∧ k ≤ s.length ∧ z.2.2.2.2.1.length ≤ k ∧ z.2.2.2.2.2.length ≤ k ∧ -Lim ≤ z.2.2.2.1.1 ∧ z.2.2.2.1.1 ≤ z.2.2.2.1.2 ∧ z.2.2.2.1.2 ≤ Lim ∧
        ((z.2.2.2.2.2 = [] ∧ putS s x0 = z.2.2.2.2.1 ++ putS (s.drop k) z.2.2.2.1) ∨ (z.2.2.2.2.2 ≠ [] ∧ putS s x0 = z.2.2.2.2.1 ++ z.2.2.2.1 :: (z.2.2.2.2.2 ++ s.drop k) ∧ ∀ q ∈ s.drop k, z.2.2.2.1.2 + 1 < q.1))) (fun z => s.length - z.2.2.1.toNat) ?_ ⟨0, rfl, Nat.zero_le _, Nat.zero_le _, Nat.zero_le _, hb0.1, by dsimp only; omega, hb0.2, .inl ⟨rfl, rfl⟩⟩
    rintro ⟨_, _, _, x, be', af⟩ A ⟨k, e1, hk, hlb, hla, b1, b2, b3, hcase⟩ back
    dsimp only at e1 hlb hla b1 b2 b3 hcase ⊢
    subst e1
    unfold Lim at b1 b3
    refine cond_dec (fun h2 => ?_) fun h2 => ?_
    · have h2 : (k : Int) < s.length := h2
      have hk' : k < s.length := by omega
      have hg := List.getElem?_eq_getElem hk'
      generalize s[k] = q at hg
      have hq := Sane.bounds h q (List.mem_of_getElem? hg)
      unfold Lim at hq
      have ed := drop_cons hg
      rw [toNat_ofNat, rd_of (s := sRun) hg, w64_of (n := x.1 - 1) (by omega), w64_of (n := x.2 + 1) (by omega), w_succ (by omega)]
      have hafter : ∀ p ∈ s.drop (k + 1), q.2 + 2 ≤ p.1 := fun p hp => by
        obtain ⟨c, hcc⟩ := SaneFrom.drop k h
        rw [ed] at hcc
        exact (SaneFrom.lt hcc.2.2.2 p hp).1
      refine ⟨⟨by omega, h2⟩, cond_dec (fun h3 => ⟨⟨by omega, h2⟩, ?_, ?_⟩) fun h3 => ⟨⟨by omega, h2⟩, cond_dec (fun h4 => ⟨⟨by omega, h2⟩, ?_, ?_⟩) fun h4 => ⟨⟨by omega, h2⟩, ⟨by omega, h2⟩, ?_⟩⟩⟩
      · simp only [List.length_cons, List.length_nil]; omega
      · have h3 : q.2 < x.1 - 1 := h3
        refine back ((), (), ((k + 1 : Nat) : Int), x, be' ++ [q], af) ⟨k + 1, rfl, hk', by simp; omega, by dsimp only; omega, b1, b2, b3, ?_⟩ (by dsimp only; omega)
        dsimp only
        rcases hcase with ⟨c1, c2⟩ | ⟨c1, c2, c3⟩
        · refine .inl ⟨c1, ?_⟩
          rw [c2, ed]
          conv => lhs; unfold putS
          rw [if_pos (by omega)]
          simp
        · have := c3 q (by rw [ed]; exact List.mem_cons_self ..)
          omega
      · simp only [List.length_cons, List.length_nil]; omega
      · have h3 : ¬ q.2 < x.1 - 1 := h3
        have h4 : x.2 + 1 < q.1 := h4
        refine back ((), (), ((k + 1 : Nat) : Int), x, be', af ++ [q]) ⟨k + 1, rfl, hk', by dsimp only; omega, by simp; omega, b1, b2, b3, .inr ⟨by simp, ?_, fun p hp => ?_⟩⟩ (by dsimp only; omega) <;> dsimp only at *
        · rcases hcase with ⟨c1, c2⟩ | ⟨c1, c2, c3⟩
          · rw [c2, ed, c1]
            conv => lhs; unfold putS
            rw [if_neg (by omega), if_pos h4]
            simp
          · rw [c2, ed]
            simp
        · have := hafter p hp; omega
      · have h3 : ¬ q.2 < x.1 - 1 := h3
        have h4 : ¬ x.2 + 1 < q.1 := h4
        rw [max_max, min_min]
        refine back ((), (), ((k + 1 : Nat) : Int), (min x.1 q.1, max x.2 q.2), be', af) ⟨k + 1, rfl, hk', by dsimp only; omega, by dsimp only; omega, by unfold Lim; dsimp only; omega, by dsimp only; omega, by unfold Lim; dsimp only; omega, ?_⟩ (by dsimp only; omega)
        dsimp only
        rcases hcase with ⟨c1, c2⟩ | ⟨c1, c2, c3⟩
        · refine .inl ⟨c1, ?_⟩
          rw [c2, ed]
          conv => lhs; unfold putS
          rw [if_neg (by omega), if_neg h4]
        · have := c3 q (by rw [ed]; exact List.mem_cons_self ..)
          omega
    · have hkl : k = s.length := by have h2 : ¬ (k : Int) < s.length := h2; omega
      subst hkl
      rw [List.drop_length] at hcase
      refine ⟨?_, ?_, ?_⟩
      · simp only [List.length_cons, List.length_nil]; omega
      · simp only [List.length_append, List.length_cons, List.length_nil]; omega
      · show (be' ++ [(x.1, x.2)]) ++ af = putS s x0
        rcases hcase with ⟨c1, c2⟩ | ⟨c1, c2, c3⟩
        · rw [c2, c1]; simp [putS]
        · rw [c2]; simp

theorem ok_ref04_Make {l : Runs} (hl : l.length ≤ 100000) : FnE bs n_lustrumref04_Make ((Shape.slice sRun).compsE l) (.slice sRun) (· = makeF l) := by
  refine ok_of (e_lustrumref04_Make l _) rfl ?_
  unfold c_lustrumref04_Make
  refine loopP_of (fun z : Runs × Int => ∃ k : Nat, z.2 = k ∧ k ≤ l.length ∧ z.1 = makeF (l.take k)) (fun z => l.length - z.2.toNat) ?_ ⟨0, rfl, Nat.zero_le _, rfl⟩
  rintro ⟨_, _⟩ A ⟨k, e1, hk, e2⟩ back
  dsimp only at e1 e2 ⊢
  subst e1
  subst e2
  refine cond_dec (fun h1 => ⟨⟨by omega, h1⟩, ?_⟩) fun h1 => ?_
  · have h1 : (k : Int) < l.length := h1
    have hk' : k < l.length := by omega
    have hg := List.getElem?_eq_getElem hk'
    generalize l[k] = q at hg
    rw [toNat_ofNat, rd_of (s := sRun) hg, w_succ (by omega)]
    have hml := make_length (l.take k)
    rw [List.length_take] at hml
    refine callP_eq (ok_ref04_put (by omega) (make_sane _)) (back _ ⟨k + 1, rfl, hk', ?_⟩ (by dsimp only; omega))
    dsimp only
    rw [List.take_add_one, hg, Option.toList_some]
    unfold makeF
    rw [List.foldl_append]
    rfl
  · rw [List.take_of_length_le (by have h1 : ¬ (k : Int) < l.length := h1; omega)]

theorem ok_ref04_As {s : Runs} (hl : s.length ≤ 100000) : FnE bs n_lustrumref04_As ((Shape.slice sRun).compsE s) (.slice sRun) (· = makeF s) := by
  refine ok_of (e_lustrumref04_As s _) rfl ?_
  unfold c_lustrumref04_As
  exact callP_eq (ok_ref04_Sane (by omega)) (cond_dec (fun h => (make_self h).symm) fun h => callP_eq (ok_ref04_Make hl) rfl)

/-! ### What two sets have in common -/

def meetF (a b : Runs) : Runs := a.flatMap fun x => clipF b x.1 x.2

theorem mem_meet {a b : Runs} {n : Int} : mem (meetF a b) n ↔ mem a n ∧ mem b n := by
  unfold meetF
  constructor
  · rintro ⟨q, hq, h1, h2⟩
    obtain ⟨x, hx, hqx⟩ := List.mem_flatMap.1 hq
    have := (mem_clip (s := b) (lo := x.1) (hi := x.2) (n := n)).1 ⟨q, hqx, h1, h2⟩
    exact ⟨⟨x, hx, this.2⟩, this.1⟩
  · rintro ⟨⟨x, hx, h1, h2⟩, hb⟩
    obtain ⟨q, hq, h3⟩ := (mem_clip (s := b) (lo := x.1) (hi := x.2) (n := n)).2 ⟨hb, h1, h2⟩
    exact ⟨q, List.mem_flatMap.2 ⟨x, hx, hq⟩, h3⟩

theorem saneFrom_append : ∀ {s t : Runs} {a b : Int}, SaneFrom a s → SaneFrom b t → a ≤ b → (∀ q ∈ s, q.2 ≤ b) → SaneFrom a (s ++ t)
  | [], t, a, b, _, h, hab, _ => h.mono hab
  | x :: s, t, a, b, hs, h, hab, hq => ⟨hs.1, hs.2.1, hs.2.2.1, saneFrom_append hs.2.2.2 h (hq x (List.mem_cons_self ..)) fun q hqs => hq q (List.mem_cons_of_mem _ hqs)⟩

theorem clip_in {s : Runs} {lo hi : Int} : ∀ q ∈ clipF s lo hi, lo ≤ q.1 ∧ q.2 ≤ hi := by
  intro q hq
  obtain ⟨r, _, e⟩ := List.mem_filterMap.1 hq
  split at e
  · cases e; dsimp only; omega
  · cases e

theorem clip_from2 {s : Runs} {b a lo hi : Int} (h : SaneFrom b s) (hlo : a + 2 ≤ lo) : SaneFrom a (clipF s lo hi) := by
  rcases Int.lt_or_le b a with hba | hba
  · have h1 := clip_from (b := b) (lo := lo) (hi := hi) h (Int.le_refl _)
    have h2 := fun q (hq : q ∈ clipF s lo hi) => (clip_in q hq).1
    cases he : clipF s lo hi with
    | nil => trivial
    | cons x t =>
      rw [he] at h1 h2
      exact ⟨h1.1, by have := h2 x (List.mem_cons_self ..); omega, h1.2.2.1, h1.2.2.2⟩
  · exact clip_from h hba

theorem meet_from {b : Runs} (hb : Sane b) : ∀ {s : Runs} {a : Int}, SaneFrom a s → SaneFrom a (meetF s b)
  | [], _, _ => trivial
  | x :: s, a, h => by
    unfold meetF
    rw [List.flatMap_cons]
    refine saneFrom_append (clip_from2 hb h.2.1) (meet_from hb h.2.2.2) (by have := h.1; have := h.2.1; omega) fun q hq => (clip_in q hq).2

theorem meet_sane {a b : Runs} (ha : Sane a) (hb : Sane b) : Sane (meetF a b) := meet_from hb ha

theorem meet_of {a b out : Runs} (ha : Sane a) (hb : Sane b) (h : MeetR a b out) : out = meetF a b := sane_ext h.1 (meet_sane ha hb) fun n => by rw [h.2.2 n, mem_meet]

theorem ok_sets_MeetF {a b : Runs} (hla : a.length < 65536) (hlb : b.length < 65536) : FnE bs n_sets_Meet ((Shape.pair (.slice sRun) (.slice sRun)).compsE (a, b)) (.slice sRun) (fun r => r = meetF (makeF a) (makeF b) ∧ r.length ≤ a.length + b.length) :=
  (ok_sets_MeetA hla hlb).mono fun r hr => ⟨meet_of (make_sane _) (make_sane _) hr, by have := hr.2.1; have := make_length a; have := make_length b; omega⟩

/-- Within bounds is what it has in common with one run. -/
theorem meet_clip {s : Runs} {lo hi : Int} (hs : Sane s) : meetF s (makeF [(lo, hi)]) = clipF s lo hi := by
  refine sane_ext (meet_sane hs (make_sane _)) (sane_clip hs) fun n => ?_
  rw [mem_meet, mem_make, mem_clip]
  unfold memL
  rw [mem_cons]
  constructor
  · rintro ⟨h1, h2, h3, h4 | h4⟩
    · exact ⟨h1, h4⟩
    · exact (mem_nil h4).elim
  · rintro ⟨h1, h2⟩
    have := mem_lim hs h1
    exact ⟨h1, this.1, this.2, .inl h2⟩

theorem ok_sets_ClipA {s : Runs} {lo hi : Int} (hl : s.length < 65536) : FnE bs n_sets_Clip ((Shape.pair (.slice sRun) (.pair (.int .i64) (.int .i64))).compsE (s, lo, hi)) (.slice sRun) (· = clipF (makeF s) lo hi) := by
  refine ok_of (e_sets_Clip (s, lo, hi) _) rfl ?_
  unfold c_sets_Clip
  refine callP_of (ok_sets_MeetF (a := s) (b := [(lo, hi)]) hl (by simp)) fun r hr => ?_
  exact hr.1.trans (meet_clip (make_sane s))

theorem ok_ref05_Meet {a b : Runs} (hla : a.length ≤ 1000) (hlb : b.length ≤ 1000) : FnE bs n_lustrumref05_Meet ((Shape.pair (.slice sRun) (.slice sRun)).compsE (a, b)) (.slice sRun) (· = meetF (makeF a) (makeF b)) := by
  refine ok_of (e_lustrumref05_Meet (a, b) _) rfl ?_
  unfold c_lustrumref05_Meet
  have la := make_length a
  have lb := make_length b
  refine callP_eq (ok_ref04_As (by dsimp only; omega)) (callP_eq (ok_ref04_As (by dsimp only; omega)) ?_)
  generalize makeF a = p at la
  generalize makeF b = q at lb
  have hcl : ∀ lo hi, (clipF q lo hi).length ≤ 1000 := fun lo hi => Nat.le_trans (clip_length _ _ _) (by omega)
  have hml : ∀ k, (meetF (p.take k) q).length ≤ k * 1000 := by
    intro k
    induction k with
    | zero => simp [meetF]
    | succ k ih =>
      rcases Nat.lt_or_ge k p.length with e | e
      · rw [List.take_add_one, List.getElem?_eq_getElem e, Option.toList_some]
        unfold meetF at *
        rw [List.flatMap_append, List.length_append, List.flatMap_cons, List.flatMap_nil, List.append_nil]
        have := hcl p[k].1 p[k].2
        omega
      · rw [List.take_of_length_le (i := k + 1) (by omega)]
        rw [List.take_of_length_le (i := k) e] at ih
        exact Nat.le_trans ih (Nat.mul_le_mul_right _ (Nat.le_succ k))
  refine loopP_of (fun z : Unit × Int × Runs => ∃ k : Nat, z.2.1 = k ∧ k ≤ p.length ∧ z.2.2 = meetF (p.take k) q) (fun z => p.length - z.2.1.toNat) ?_ ⟨0, rfl, Nat.zero_le _, rfl⟩
  rintro ⟨u, _, _⟩ A ⟨k, e1, hk, e2⟩ back
  dsimp only at e1 e2 ⊢
  subst e1
  subst e2
  refine cond_dec (fun h1 => ?_) fun h1 => ?_
  · have h1 : (k : Int) < p.length := h1
    have hk' : k < p.length := by omega
    have hg := List.getElem?_eq_getElem hk'
    generalize p[k] = x at hg
    rw [toNat_ofNat, rd_of (s := sRun) hg, w_succ (by omega)]
    refine loopP_of (fun z : Unit × Int × Runs => ∃ j : Nat, z.2.1 = j ∧ j ≤ q.length ∧ z.2.2 = meetF (p.take k) q ++ clipF (q.take j) x.1 x.2) (fun z => q.length - z.2.1.toNat) ?_ ⟨0, rfl, Nat.zero_le _, by simp [clipF]⟩
    rintro ⟨u, _, _⟩ A2 ⟨j, e1, hj, e2⟩ back2
    dsimp only at e1 e2 ⊢
    subst e1
    subst e2
    refine cond_dec (fun h2 => ?_) fun h2 => ?_
    · have h2 : (j : Int) < q.length := h2
      have hj' : j < q.length := by omega
      have hg2 := List.getElem?_eq_getElem hj'
      generalize q[j] = y at hg2
      rw [toNat_ofNat, rd_of (s := sRun) hg2, w_succ (by omega), max_max, min_min]
      have step : ∀ t : Runs, t = clipF [y] x.1 x.2 → A2 ((), ((j + 1 : Nat) : Int), (meetF (p.take k) q ++ clipF (q.take j) x.1 x.2) ++ t) := fun t ht => by
        refine back2 ((), ((j + 1 : Nat) : Int), _) ⟨j + 1, rfl, hj', ?_⟩ (by dsimp only; omega)
        dsimp only
        rw [ht, List.append_assoc, List.take_add_one, hg2, Option.toList_some]
        unfold clipF
        rw [List.filterMap_append]
      have hs1 : (clipF (q.take j) x.1 x.2).length ≤ 1000 := Nat.le_trans (clip_length _ _ _) (by rw [List.length_take]; omega)
      have hs2 := hml k
      refine ⟨⟨by omega, h1⟩, ⟨by omega, h2⟩, ⟨by omega, h1⟩, ⟨by omega, h2⟩, cond_dec (fun h3 => ⟨⟨by omega, h1⟩, ⟨by omega, h2⟩, ⟨by omega, h1⟩, ⟨by omega, h2⟩, ?_, ?_⟩) fun h3 => ?_⟩
      · have : k * 1000 ≤ 1000 * 1000 := Nat.mul_le_mul_right _ (by omega)
        simp only [List.length_append, List.length_cons, List.length_nil]; omega
      · have h3 : max x.1 y.1 ≤ min x.2 y.2 := h3
        refine step _ ?_
        unfold clipF
        rw [List.filterMap_cons, if_pos (by omega), Int.max_comm y.1 x.1, Int.min_comm y.2 x.2]
        rfl
      · have h3 : ¬ max x.1 y.1 ≤ min x.2 y.2 := h3
        have := step [] (by unfold clipF; rw [List.filterMap_cons, if_neg (by omega)]; rfl)
        rwa [List.append_nil] at this
    · rw [List.take_of_length_le (l := q) (i := j) (by have h2 : ¬ (j : Int) < q.length := h2; omega)]
      refine back ((), ((k + 1 : Nat) : Int), _) ⟨k + 1, rfl, hk', ?_⟩ (by dsimp only; omega)
      dsimp only
      rw [List.take_add_one, hg, Option.toList_some]
      unfold meetF
      rw [List.flatMap_append, List.flatMap_cons, List.flatMap_nil, List.append_nil]
  · rw [List.take_of_length_le (by have h1 : ¬ (k : Int) < p.length := h1; omega)]

theorem ok_ref05_Clip {s : Runs} {lo hi : Int} (hl : s.length ≤ 1000) : FnE bs n_lustrumref05_Clip ((Shape.pair (.slice sRun) (.pair (.int .i64) (.int .i64))).compsE (s, lo, hi)) (.slice sRun) (· = clipF (makeF s) lo hi) := by
  refine ok_of (e_lustrumref05_Clip (s, lo, hi) _) rfl ?_
  unfold c_lustrumref05_Clip
  exact callP_eq (ok_ref05_Meet (a := s) (b := [(lo, hi)]) hl (by simp)) (meet_clip (make_sane s))
end Go.Proofs.YtjeoelajkncpcaaDoor.V

/- The least and greatest days of families: plain facts. No program in sight. -/
namespace Go.Proofs.YtjeoelajkncpcaaDoor.V
set_option linter.unusedVariables false
set_option linter.unusedSimpArgs false

/-- The least and the greatest start, the least and the greatest end. -/
abbrev Q4 := Int × Int × Int × Int

def extF (f : Leaf) : Option Q4 := match ofF f with
  | none => none
  | some (.inl (u, s)) => some (VCal.ufirst u (loF s), VCal.ufirst u (hiF s), VCal.ulast u (loF s), VCal.ulast u (hiF s))
  | some (.inr (a, b)) => some (loF a, hiF a, loF b, hiF b)

def comb : Option Q4 → Option Q4 → Option Q4
  | none, q => q
  | some p, none => some p
  | some p, some q => some (min p.1 q.1, max p.2.1 q.2.1, min p.2.2.1 q.2.2.1, max p.2.2.2 q.2.2.2)

def allF (l : List Leaf) : Option Q4 := l.foldl (fun x f => comb x (extF f)) none

theorem comb_none (p : Option Q4) : comb p none = p := by cases p <;> rfl

theorem comb_assoc (p q r : Option Q4) : comb (comb p q) r = comb p (comb q r) := by
  cases p with
  | none => rfl
  | some p =>
    cases q with
    | none => rfl
    | some q =>
      cases r with
      | none => rfl
      | some r =>
        simp only [comb, Option.some.injEq, Prod.mk.injEq]
        omega

theorem foldl_comb : ∀ (l : List Leaf) (x : Option Q4), l.foldl (fun x f => comb x (extF f)) x = comb x (allF l)
  | [], x => (comb_none x).symm
  | f :: l, x => by
    unfold allF
    rw [List.foldl_cons, List.foldl_cons, foldl_comb l (comb x (extF f)), foldl_comb l (comb none (extF f)), comb_assoc]
    rfl

theorem all_append (l m : List Leaf) : allF (l ++ m) = comb (allF l) (allF m) := by
  unfold allF
  rw [List.foldl_append, foldl_comb m]
  rfl

theorem all_cons (f : Leaf) (l : List Leaf) : allF (f :: l) = comb (extF f) (allF l) := by
  rw [show f :: l = [f] ++ l from rfl, all_append]
  rfl

theorem ext_none {f : Leaf} : extF f = none ↔ ofF f = none := by
  unfold extF
  rcases ho : ofF f with _ | ⟨u, s⟩ | ⟨a, b⟩ <;> simp

/-- What a quadruple says of pairs: it bounds them, and each of its days is met. -/
def Bounds (q : Q4) (P : Int × Int → Prop) : Prop := (∀ p, P p → q.1 ≤ p.1 ∧ p.1 ≤ q.2.1 ∧ q.2.2.1 ≤ p.2 ∧ p.2 ≤ q.2.2.2 ∧ p.1 ≤ p.2) ∧ (∃ p, P p ∧ p.1 = q.1) ∧ (∃ p, P p ∧ p.1 = q.2.1) ∧ (∃ p, P p ∧ p.2 = q.2.2.1) ∧ ∃ p, P p ∧ p.2 = q.2.2.2

theorem ufirst_le {u i j : Int} (h0 : 0 ≤ i) (hij : i ≤ j) (hj : j < VCal.ucount u) : VCal.ufirst u i ≤ VCal.ufirst u j ∧ VCal.ulast u i ≤ VCal.ulast u j := by
  rcases Int.lt_or_eq_of_le hij with e | e
  · have h1 := ufirst_lt h0 e hj
    have h2 := VCal.unit_in (kind := u) (i := i) h0 (by omega)
    have h3 := VCal.unit_in (kind := u) (i := j) (by omega) hj
    omega
  · subst e; omega

theorem span_pair {a b : Runs} (sa : Sane a) (sb : Sane b) {s t : Int} (hs : mem a s) (ht : mem b t) (h : s ≤ t) : (s, t) ∈ spanPairs a b := by
  obtain ⟨r, hr, h1, h2⟩ := ht
  exact List.mem_flatMap.2 ⟨s, mem_nums.2 hs, List.mem_flatMap.2 ⟨r, hr, List.mem_map.2 ⟨t, mem_upTo.2 ⟨by omega, h2⟩, rfl⟩⟩⟩

theorem pair_span {a b : Runs} {p : Int × Int} (h : p ∈ spanPairs a b) : mem a p.1 ∧ mem b p.2 ∧ p.1 ≤ p.2 := by
  obtain ⟨s, hs, h⟩ := List.mem_flatMap.1 h
  obtain ⟨r, hr, h⟩ := List.mem_flatMap.1 h
  obtain ⟨t, ht, rfl⟩ := List.mem_map.1 h
  have ht := mem_upTo.1 ht
  exact ⟨mem_nums.1 hs, ⟨r, hr, by dsimp only; omega, by dsimp only; omega⟩, by dsimp only; omega⟩

theorem ext_bounds {f : Leaf} {q : Q4} (h : extF f = some q) : Bounds q (· ∈ famPairs (ofF f)) := by
  unfold extF at h
  rcases ho : ofF f with _ | ⟨u, s⟩ | ⟨a, b⟩
  · rw [ho] at h; cases h
  · rw [ho] at h
    cases h
    obtain ⟨h1, h2, h3, h4, h5, h6, h7⟩ := of_units ho
    have hlo := mem_lo h6.1 h5
    have hhi := mem_hi h6.1 h5
    have pr : ∀ i, mem s i → (VCal.ufirst u i, VCal.ulast u i) ∈ famPairs (some (.inl (u, s))) := fun i hi => List.mem_map.2 ⟨i, mem_nums.2 hi, rfl⟩
    refine ⟨fun p hp => ?_, ⟨_, pr _ hlo, rfl⟩, ⟨_, pr _ hhi, rfl⟩, ⟨_, pr _ hlo, rfl⟩, ⟨_, pr _ hhi, rfl⟩⟩
    obtain ⟨i, hi, rfl⟩ := List.mem_map.1 hp
    have hm := mem_nums.1 hi
    have hb := mem_between h6.1 hm
    have b1 := Within.bounds h6 hlo
    have b2 := Within.bounds h6 hhi
    have m1 := ufirst_le (u := u) (i := loF s) (j := i) (by omega) hb.1 (by omega)
    have m2 := ufirst_le (u := u) (i := i) (j := hiF s) (by omega) hb.2 (by omega)
    have m3 := VCal.unit_in (kind := u) (i := i) (by omega) (by omega)
    dsimp only
    omega
  · rw [ho] at h
    cases h
    obtain ⟨h1, h2, h3, h4, h5, h6, h7, e1, e2⟩ := of_span ho
    obtain ⟨sa, sb, na, nb, l1, l2⟩ := span_ends ho
    have alo := mem_lo sa na
    have ahi := mem_hi sa na
    have blo := mem_lo sb nb
    have bhi := mem_hi sb nb
    have ma : ∀ n, mem a n → 0 ≤ n ∧ n ≤ hiF b := fun n hn => by
      have h := hn
      rw [e1, mem_clip] at h
      rw [l2]
      exact h.2
    have mb : ∀ n, mem b n → loF a ≤ n ∧ n ≤ 3652424 := fun n hn => by
      have h := hn
      rw [e2, mem_clip] at h
      rw [l1]
      exact h.2
    have x1 := ma _ alo
    have x2 := ma _ ahi
    have x3 := mb _ blo
    have hab := lo_le_hi sa na
    refine ⟨fun p hp => ?_, ⟨_, span_pair sa sb alo bhi (by omega), rfl⟩, ⟨_, span_pair sa sb ahi bhi (by omega), rfl⟩, ⟨_, span_pair sa sb alo blo (by omega), rfl⟩, ⟨_, span_pair sa sb alo bhi (by omega), rfl⟩⟩
    obtain ⟨p1, p2, p3⟩ := pair_span hp
    have := mem_between sa p1
    have := mem_between sb p2
    dsimp only
    omega

theorem Bounds.comb {p q : Q4} {P R : Int × Int → Prop} (h : Bounds p P) (k : Bounds q R) : Bounds (min p.1 q.1, max p.2.1 q.2.1, min p.2.2.1 q.2.2.1, max p.2.2.2 q.2.2.2) fun x => P x ∨ R x := by
  obtain ⟨h0, ⟨a1, h1, h1'⟩, ⟨a2, h2, h2'⟩, ⟨a3, h3, h3'⟩, ⟨a4, h4, h4'⟩⟩ := h
  obtain ⟨k0, ⟨b1, k1, k1'⟩, ⟨b2, k2, k2'⟩, ⟨b3, k3, k3'⟩, ⟨b4, k4, k4'⟩⟩ := k
  refine ⟨fun x hx => ?_, ?_, ?_, ?_, ?_⟩
  · rcases hx with hx | hx
    · have := h0 x hx; dsimp only; omega
    · have := k0 x hx; dsimp only; omega
  · rcases Int.le_total p.1 q.1 with e | e
    · exact ⟨a1, .inl h1, by dsimp only; omega⟩
    · exact ⟨b1, .inr k1, by dsimp only; omega⟩
  · rcases Int.le_total p.2.1 q.2.1 with e | e
    · exact ⟨b2, .inr k2, by dsimp only; omega⟩
    · exact ⟨a2, .inl h2, by dsimp only; omega⟩
  · rcases Int.le_total p.2.2.1 q.2.2.1 with e | e
    · exact ⟨a3, .inl h3, by dsimp only; omega⟩
    · exact ⟨b3, .inr k3, by dsimp only; omega⟩
  · rcases Int.le_total p.2.2.2 q.2.2.2 with e | e
    · exact ⟨b4, .inr k4, by dsimp only; omega⟩
    · exact ⟨a4, .inl h4, by dsimp only; omega⟩

theorem Bounds.congr {q : Q4} {P R : Int × Int → Prop} (h : Bounds q P) (k : ∀ p, P p ↔ R p) : Bounds q R := by
  have : P = R := funext fun p => propext (k p)
  subst this
  exact h

/-- A pair of some family. -/
def anyP (l : List Leaf) (p : Int × Int) : Prop := ∃ f ∈ l, p ∈ famPairs (ofF f)

theorem all_spec : ∀ (l : List Leaf), (allF l = none ∧ ∀ f ∈ l, ofF f = none) ∨ ∃ q, allF l = some q ∧ Bounds q (anyP l)
  | [] => .inl ⟨rfl, fun f h => by cases h⟩
  | f :: l => by
    rw [all_cons]
    have hc : ∀ p, anyP (f :: l) p ↔ p ∈ famPairs (ofF f) ∨ anyP l p := fun p => by
      unfold anyP
      constructor
      · rintro ⟨g, hg, h⟩
        rcases List.mem_cons.1 hg with e | e
        · subst e; exact .inl h
        · exact .inr ⟨g, e, h⟩
      · rintro (h | ⟨g, hg, h⟩)
        · exact ⟨f, List.mem_cons_self .., h⟩
        · exact ⟨g, List.mem_cons_of_mem _ hg, h⟩
    cases he : extF f with
    | none =>
      have hn := ext_none.1 he
      rcases all_spec l with ⟨h1, h2⟩ | ⟨q, h1, h2⟩
      · refine .inl ⟨h1, fun g hg => ?_⟩
        rcases List.mem_cons.1 hg with e | e
        · rw [e]; exact hn
        · exact h2 g e
      · refine .inr ⟨q, h1, h2.congr fun p => ?_⟩
        rw [hc, hn]
        exact ⟨.inr, fun h => h.elim (fun h => by cases h) id⟩
    | some p =>
      have hb := ext_bounds he
      rcases all_spec l with ⟨h1, h2⟩ | ⟨q, h1, h2⟩
      · refine .inr ⟨p, by rw [h1]; rfl, hb.congr fun x => ?_⟩
        rw [hc]
        refine ⟨.inl, fun h => h.elim id fun ⟨g, hg, hx⟩ => ?_⟩
        rw [h2 g hg] at hx
        cases hx
      · refine .inr ⟨_, by rw [h1]; rfl, (hb.comb h2).congr fun x => (hc x).symm⟩
end Go.Proofs.YtjeoelajkncpcaaDoor.V

/- The document's answer for leaves and their least and greatest days, and the program's: what the functions answer. No condition of its own. -/
namespace Go.Proofs.YtjeoelajkncpcaaDoor.V
open Go
set_option linter.unusedVariables false
set_option linter.unusedSimpArgs false

theorem ok_ref14_within {s : Runs} {m : Int} (hl : s.length ≤ 1000000000) : FnE bs n_lustrumref14_within ((Shape.pair (.slice sRun) (.int .i64)).compsE (s, m)) .bool (· = decide (Within s m)) := by
  refine ok_of (e_lustrumref14_within (s, m) _) rfl ?_
  unfold c_lustrumref14_within Within
  refine callP_eq (ok_ref04_Sane hl) (cond_dec (fun h => cond_dec (fun h2 => ?_) fun h2 => ?_) fun h => ?_)
  · have h2 : s = [] := len_zero.1 h2
    have h : Sane s := h
    exact be (decide_eq_true ⟨h, .inl h2⟩).symm
  · have h2 : ¬ s = [] := fun e => h2 (len_zero.2 e)
    refine ⟨first_in h2, ?_⟩
    dsimp only
    rw [rd_lo h2, rd_hi h2 hl]
    refine cond_dec (fun h3 => ⟨last_in h2 hl, be ?_⟩) fun h3 => be ?_
    · have h3 : 0 ≤ loF s := h3
      simp [h, h2, h3]
    · have h3 : ¬ 0 ≤ loF s := h3
      simp [h2, h3]
  · exact be (by simp [h])

theorem ok_ref14_Sane {f : Leaf} (hla : f.2.2.1.length ≤ 1000000000) (hlb : f.2.2.2.length ≤ 1000000000) : FnE bs n_lustrumref14_Sane (sApiLeaf.compsE f) .bool (· = decide (LeafSane f)) := by
  obtain ⟨sp, u, a, b⟩ := f
  dsimp only at hla hlb
  refine ok_of (e_lustrumref14_Sane (sp, u, a, b) _) rfl ?_
  unfold c_lustrumref14_Sane LeafSane
  dsimp only
  cases sp
  · refine cond_no rfl (cond_dec (fun h1 => cond_dec (fun h2 => callP_eq ok_ref03_Count ?_) fun h2 => be ?_) fun h1 => be ?_)
    · have := VCal.ucount_pos u
      rw [w64_of (by omega)]
      refine callP_eq (ok_ref14_within hla) (cond_dec (fun h3 => be ?_) fun h3 => be ?_)
      · have h1 : 0 ≤ u := h1
        have h2 : u ≤ 5 := h2
        refine decide_eq_decide.2 ⟨fun q => ?_, fun q => ?_⟩
        · rw [if_neg (by decide)]; exact ⟨⟨h1, h2⟩, h3, len_zero.1 q⟩
        · rw [if_neg (by decide)] at q; exact len_zero.2 q.2.2
      · simp [h3]
    · have h2 : ¬ u ≤ 5 := h2
      simp [h2]
    · have h1 : ¬ 0 ≤ u := h1
      simp [h1]
  · refine cond_yes rfl (cond_dec (fun h1 => callP_eq (ok_ref14_within hla) (cond_dec (fun h2 => callP_eq (ok_ref14_within hlb) (be ?_)) fun h2 => be ?_)) fun h1 => be ?_)
    · have h1 : u = 0 := h1
      simp [h1, h2]
    · simp [h2]
    · have h1 : ¬ u = 0 := h1
      simp [h1]

def asL (f : Leaf) : Leaf := if LeafSane f then f else (false, 0, [], [])

theorem ok_ref14_As {f : Leaf} (hla : f.2.2.1.length ≤ 1000000000) (hlb : f.2.2.2.length ≤ 1000000000) : FnE bs n_lustrumref14_As (sApiLeaf.compsE f) sApiLeaf (· = asL f) := by
  obtain ⟨sp, u, a, b⟩ := f
  refine ok_of (e_lustrumref14_As (sp, u, a, b) _) rfl ?_
  unfold c_lustrumref14_As asL
  refine callP_eq (ok_ref14_Sane hla hlb) (cond_not (fun h => ?_) fun h => ?_)
  · rw [if_neg (by simpa using h)]
  · rw [if_pos (by simpa using h)]

theorem ok_ref14_Tidy {f : Leaf} (hla : f.2.2.1.length ≤ 1000) (hlb : f.2.2.2.length ≤ 1000) : FnE bs n_lustrumref14_Tidy (sApiLeaf.compsE f) sApiLeaf (· = tidyF f) := by
  obtain ⟨sp, u, a, b⟩ := f
  dsimp only at hla hlb
  refine ok_of (e_lustrumref14_Tidy (sp, u, a, b) _) rfl ?_
  unfold c_lustrumref14_Tidy
  refine callP_eq (ok_ref14_As (by dsimp only; omega) (by dsimp only; omega)) ?_
  unfold tidyF ofF asL
  dsimp only
  by_cases hs : LeafSane (sp, u, a, b)
  · rw [if_pos hs]
    dsimp only
    refine cond_dec (fun h => ?_) fun h => ?_
    · have h : a = [] := len_zero.1 h
      rw [if_pos (.inr h)]
    · have h : ¬ a = [] := fun e => h (len_zero.2 e)
      rw [if_neg (by simp [hs, h])]
      have hs' := hs
      unfold LeafSane at hs'
      dsimp only at hs'
      cases sp with
      | false =>
        rw [if_neg (by decide)] at hs'
        refine cond_no rfl (cond_yes rfl ?_)
        rw [if_pos rfl]
        show (false, u, a, b) = (false, u, a, [])
        rw [hs'.2.2]
      | true =>
        rw [if_pos rfl] at hs'
        refine cond_yes rfl (cond_dec (fun h2 => ?_) fun h2 => ⟨first_in h, ?_⟩)
        · rw [if_neg (by simp), if_pos (.inl (len_zero.1 h2))]
        · have h2 : ¬ b = [] := fun e => h2 (len_zero.2 e)
          refine ⟨last_in h2 (by omega), ?_⟩
          rw [rd_lo h, rd_hi h2 (by omega)]
          refine cond_dec (fun h3 => ?_) fun h3 => cond_no rfl ⟨last_in h2 (by omega), ?_⟩
          · have h3 : hiF b < loF a := h3
            rw [if_neg (by simp), if_pos (.inr h3)]
          · have h3 : ¬ hiF b < loF a := h3
            refine callP_eq (ok_ref05_Clip hla) ⟨first_in h, callP_eq (ok_ref05_Clip hlb) ?_⟩
            rw [if_neg (by simp), if_neg (by simp [h2, h3]), make_self hs'.2.1.1, make_self hs'.2.2.1]
  · rw [if_neg hs]
    dsimp only
    rw [if_pos (.inl hs)]
    exact cond_yes (by decide) rfl

/-! ### The least and greatest days -/

theorem ok_ref16_ends {f : Leaf} {q : Q4} (h : extF f = some q) (hla : (tidyF f).2.2.1.length ≤ 1000000000) (hlb : (tidyF f).2.2.2.length ≤ 1000000000) :
    FnE bs n_lustrumref16_ends (sApiLeaf.compsE (tidyF f)) (.st (.pair (.int .i64) (.pair (.int .i64) (.pair (.int .i64) (.int .i64))))) (· = q) := by
  unfold extF at h
  rcases ho : ofF f with _ | ⟨u, s⟩ | ⟨a, b⟩
  · rw [ho] at h; cases h
  · rw [ho] at h
    cases h
    obtain ⟨h1, h2, h3, h4, h5, h6, h7⟩ := of_units ho
    have e : tidyF f = (false, u, s, []) := by unfold tidyF; rw [ho]
    rw [e] at hla hlb ⊢
    dsimp only at hla hlb
    refine ok_of (e_lustrumref16_ends (false, u, s, []) _) rfl ?_
    unfold c_lustrumref16_ends
    dsimp only
    have b1 := Within.bounds h6 (mem_lo h6.1 h5)
    have b2 := Within.bounds h6 (mem_hi h6.1 h5)
    rw [rd_lo h5, rd_hi h5 hla]
    have f1 : firstS u (loF s) = (VCal.ufirst u (loF s), true) := by unfold firstS; rw [if_pos (by omega)]
    have f2 : firstS u (hiF s) = (VCal.ufirst u (hiF s), true) := by unfold firstS; rw [if_pos (by omega)]
    have f3 : lastS u (loF s) = (VCal.ulast u (loF s), true) := by unfold lastS; rw [if_pos (by omega)]
    have f4 : lastS u (hiF s) = (VCal.ulast u (hiF s), true) := by unfold lastS; rw [if_pos (by omega)]
    refine ⟨first_in h5, last_in h5 hla, cond_no rfl (callP_eq ok_ref03_First (callP_eq ok_ref03_First (callP_eq ok_ref03_Last (callP_eq ok_ref03_Last ?_))))⟩
    rw [f1, f2, f3, f4]
  · rw [ho] at h
    cases h
    obtain ⟨sa, sb, na, nb, l1, l2⟩ := span_ends ho
    have e : tidyF f = (true, 0, a, b) := by unfold tidyF; rw [ho]
    rw [e] at hla hlb ⊢
    dsimp only at hla hlb
    refine ok_of (e_lustrumref16_ends (true, 0, a, b) _) rfl ?_
    unfold c_lustrumref16_ends
    dsimp only
    rw [rd_lo na, rd_hi na hla, rd_lo nb, rd_hi nb hlb]
    exact ⟨first_in na, last_in na hla, cond_yes rfl ⟨first_in nb, last_in nb hlb, rfl⟩⟩

/-- A list of leaves of few runs. -/
def FewL (n : Nat) (l : List Leaf) : Prop := l.length ≤ 1000000 ∧ ∀ f ∈ l, f.2.2.1.length ≤ n ∧ f.2.2.2.length ≤ n

def Q4.out : Option Q4 → Q4 × Bool
  | none => ((0, 0, 0, 0), false)
  | some q => (q, true)

theorem tidy_nil {f : Leaf} : (tidyF f).2.2.1 = [] ↔ extF f = none := by
  rw [ext_none]
  rcases ho : ofF f with _ | ⟨u, s⟩ | ⟨a, b⟩
  · have e : tidyF f = (false, 0, [], []) := by unfold tidyF; rw [ho]
    rw [e]; simp
  · obtain ⟨h1, h2, h3, h4, h5, h6, h7⟩ := of_units ho
    have e : tidyF f = (false, u, s, []) := by unfold tidyF; rw [ho]
    rw [e]; simp [h5]
  · obtain ⟨sa, sb, na, nb, l1, l2⟩ := span_ends ho
    have e : tidyF f = (true, 0, a, b) := by unfold tidyF; rw [ho]
    rw [e]; simp [na]

theorem all_take_succ {l : List Leaf} {k : Nat} {f : Leaf} (h : l[k]? = some f) : allF (l.take (k + 1)) = comb (allF (l.take k)) (extF f) := by
  rw [List.take_add_one, h, Option.toList_some, all_append]
  rfl

theorem ok_ref16_All {l : List Leaf} (hl : FewL 1000 l) : FnE bs n_lustrumref16_All ((Shape.slice sApiLeaf).compsE l) (.tup (.pair (.st (.pair (.int .i64) (.pair (.int .i64) (.pair (.int .i64) (.int .i64))))) .bool)) (· = Q4.out (allF l)) := by
  refine ok_of (e_lustrumref16_All l _) rfl ?_
  unfold c_lustrumref16_All
  have hll := hl.1
  refine loopP_of (fun z : Bool × Int × Int × Int × Int × Int => ∃ k : Nat, z.2.1 = k ∧ k ≤ l.length ∧ (z.2.2, z.1) = Q4.out (allF (l.take k))) (fun z => l.length - z.2.1.toNat) ?_ ⟨0, rfl, Nat.zero_le _, rfl⟩
  rintro ⟨any, _, q⟩ A ⟨k, e1, hk, e2⟩ back
  dsimp only at e1 e2 ⊢
  subst e1
  refine cond_dec (fun h1 => ⟨⟨by omega, h1⟩, ?_⟩) fun h1 => ?_
  · have h1 : (k : Int) < l.length := h1
    have hk' : k < l.length := by omega
    have hg := List.getElem?_eq_getElem hk'
    generalize l[k] = f at hg
    have hf := hl.2 f (List.mem_of_getElem? hg)
    have ht := tidy_lens f
    rw [toNat_ofNat, rd_of (s := sApiLeaf) hg, w_succ (by omega)]
    refine callP_eq (ok_ref14_Tidy (f := f) hf.1 hf.2) (cond_dec (fun h2 => ?_) fun h2 => ?_)
    · have h2 : extF f = none := tidy_nil.1 (len_zero.1 h2)
      refine back _ ⟨k + 1, rfl, hk', ?_⟩ (by dsimp only; omega)
      dsimp only
      rw [all_take_succ hg, h2, comb_none, ← e2]
    · have h2 : ¬ extF f = none := fun e => h2 (len_zero.2 (tidy_nil.2 e))
      obtain ⟨x, hx⟩ := Option.ne_none_iff_exists'.1 h2
      refine callP_eq (ok_ref16_ends hx (by omega) (by omega)) (cond_not (fun h3 => ?_) fun h3 => ?_)
      · refine ⟨by decide, by decide, by decide, by decide, by decide, by decide, by decide, by decide, back _ ⟨k + 1, rfl, hk', ?_⟩ (by dsimp only; omega)⟩
        dsimp only
        have ha : allF (l.take k) = none := by
          cases hq : allF (l.take k) with
          | none => rfl
          | some y => rw [hq] at e2; have := congrArg Prod.snd e2; rw [show any = true from this] at h3; cases h3
        rw [all_take_succ hg, ha, hx, max_max, max_max, min_min, min_min]
        show _ = (x, true)
        rw [Int.min_self, Int.min_self, Int.max_self, Int.max_self]
      · refine ⟨by decide, by decide, by decide, by decide, by decide, by decide, by decide, by decide, back _ ⟨k + 1, rfl, hk', ?_⟩ (by dsimp only; omega)⟩
        dsimp only
        cases hq : allF (l.take k) with
        | none => rw [hq] at e2; have := congrArg Prod.snd e2; rw [show any = false from this] at h3; cases h3
        | some y =>
          rw [hq] at e2
          have e3 : q = y := congrArg Prod.fst e2
          rw [all_take_succ hg, hq, hx, max_max, max_max, min_min, min_min, e3, h3]
          rfl
  · rw [List.take_of_length_le (by have h1 : ¬ (k : Int) < l.length := h1; omega)] at e2
    exact e2

/-- One of the four days, or that there is none. -/
def dayF (sel : Q4 → Int) (l : List Leaf) : Int × Int := match allF l with
  | none => (0, 9)
  | some q => (sel q, 0)

theorem ok_ref16_Earliest {l : List Leaf} (hl : FewL 1000 l) : FnE bs n_lustrumref16_Earliest ((Shape.slice sApiLeaf).compsE l) (.tup (.pair (.int .i64) (.int .i64))) (· = dayF (·.1) l) := by
  refine ok_han (e_lustrumref16_Earliest l _) rfl (HanOK.ofList [(100, .inl g_lustrumref16_Earliest__lustrumref16_told)] rfl rfl ⟨rfl, HanOK.none rfl rfl, trivial⟩) ?_
  unfold c_lustrumref16_Earliest dayF
  refine callP_eq (ok_ref16_All hl) ?_
  cases allF l with
  | none => exact cond_yes rfl rfl
  | some q => exact cond_no rfl ⟨by decide, rfl⟩

theorem ok_ref16_LastStart {l : List Leaf} (hl : FewL 1000 l) : FnE bs n_lustrumref16_LastStart ((Shape.slice sApiLeaf).compsE l) (.tup (.pair (.int .i64) (.int .i64))) (· = dayF (·.2.1) l) := by
  refine ok_han (e_lustrumref16_LastStart l _) rfl (HanOK.ofList [(100, .inl g_lustrumref16_LastStart__lustrumref16_told)] rfl rfl ⟨rfl, HanOK.none rfl rfl, trivial⟩) ?_
  unfold c_lustrumref16_LastStart dayF
  refine callP_eq (ok_ref16_All hl) ?_
  cases allF l with
  | none => exact cond_yes rfl rfl
  | some q => exact cond_no rfl ⟨by decide, rfl⟩

theorem ok_ref16_FirstEnd {l : List Leaf} (hl : FewL 1000 l) : FnE bs n_lustrumref16_FirstEnd ((Shape.slice sApiLeaf).compsE l) (.tup (.pair (.int .i64) (.int .i64))) (· = dayF (·.2.2.1) l) := by
  refine ok_han (e_lustrumref16_FirstEnd l _) rfl (HanOK.ofList [(100, .inl g_lustrumref16_FirstEnd__lustrumref16_told)] rfl rfl ⟨rfl, HanOK.none rfl rfl, trivial⟩) ?_
  unfold c_lustrumref16_FirstEnd dayF
  refine callP_eq (ok_ref16_All hl) ?_
  cases allF l with
  | none => exact cond_yes rfl rfl
  | some q => exact cond_no rfl ⟨by decide, rfl⟩

theorem ok_ref16_Latest {l : List Leaf} (hl : FewL 1000 l) : FnE bs n_lustrumref16_Latest ((Shape.slice sApiLeaf).compsE l) (.tup (.pair (.int .i64) (.int .i64))) (· = dayF (·.2.2.2) l) := by
  refine ok_han (e_lustrumref16_Latest l _) rfl (HanOK.ofList [(100, .inl g_lustrumref16_Latest__lustrumref16_told)] rfl rfl ⟨rfl, HanOK.none rfl rfl, trivial⟩) ?_
  unfold c_lustrumref16_Latest dayF
  refine callP_eq (ok_ref16_All hl) ?_
  cases allF l with
  | none => exact cond_yes rfl rfl
  | some q => exact cond_no rfl ⟨by decide, rfl⟩

/-! ### The program's -/

theorem ok_env_pick {gr : Bool} {g1 : Int × Int → Option (Int × Bool)} {g2 : Leaf → Option Runs} {s : Runs} (hn : s ≠ []) (hl : s.length ≤ 1000000000) : FnE bs n_env_way_pick ((Shape.pair sEnvWay (.slice sRun)).compsE ((gr, g1, g2), s)) (.int .i64) (· = if gr = true then hiF s else loF s) := by
  refine ok_of (e_env_way_pick ((gr, g1, g2), s) _) rfl ?_
  unfold c_env_way_pick
  dsimp only
  rw [rd_hi hn hl, rd_lo hn]
  exact cond_bool (fun h => ⟨last_in hn hl, by rw [if_pos h]⟩) fun h => ⟨first_in hn, by rw [if_neg (by rw [h]; decide)]⟩

/-- How a way tells a tidied leaf's day. -/
def WayV (gr : Bool) (g1 : Int × Int → Option (Int × Bool)) (g2 : Leaf → Option Runs) (f : Leaf) (v : Int) : Prop :=
  if f.1 = true then ∃ s, g2 f = some s ∧ s ≠ [] ∧ s.length ≤ 1000000000 ∧ (if gr = true then hiF s else loF s) = v
  else ∃ r, g1 (f.2.1, if gr = true then hiF f.2.2.1 else loF f.2.2.1) = some r ∧ r.1 = v

theorem ok_env_all {gr : Bool} {g1 : Int × Int → Option (Int × Bool)} {g2 : Leaf → Option Runs} {sel : Q4 → Int} {l : List Leaf} (hl : FewL 1000 l) (hv : ∀ f q, f ∈ l → extF f = some q → WayV gr g1 g2 (tidyF f) (sel q))
    (hs : ∀ p q : Q4, sel (min p.1 q.1, max p.2.1 q.2.1, min p.2.2.1 q.2.2.1, max p.2.2.2 q.2.2.2) = if gr = true then max (sel p) (sel q) else min (sel p) (sel q)) :
    FnE bs n_env_way_all ((Shape.pair sEnvWay (.slice sApiLeaf)).compsE ((gr, g1, g2), l)) (.tup (.pair (.int .i64) (.int .i64))) (· = dayF sel l) := by
  refine ok_of (e_env_way_all ((gr, g1, g2), l) _) rfl ?_
  unfold c_env_way_all
  have hll := hl.1
  refine loopP_of (fun z : Int × Int × Int => ∃ k : Nat, z.2.2 = k ∧ k ≤ l.length ∧ (z.1, z.2.1) = dayF sel (l.take k)) (fun z => l.length - z.2.2.toNat) ?_ ⟨0, rfl, Nat.zero_le _, rfl⟩
  rintro ⟨best, e, _⟩ A ⟨k, e1, hk, e2⟩ back
  dsimp only at e1 e2 ⊢
  subst e1
  refine cond_dec (fun h1 => ⟨⟨by omega, h1⟩, ?_⟩) fun h1 => ?_
  · have h1 : (k : Int) < l.length := h1
    have hk' : k < l.length := by omega
    have hg := List.getElem?_eq_getElem hk'
    generalize l[k] = f at hg
    have hfm := List.mem_of_getElem? hg
    have hf := hl.2 f hfm
    have ht := tidy_lens f
    rw [toNat_ofNat, rd_of (s := sApiLeaf) hg, w_succ (by omega)]
    refine callP_eq (ok_leaf_Tidy (f := f) (by omega) (by omega)) (cond_dec (fun h2 => ?_) fun h2 => ?_)
    · have h2 : extF f = none := tidy_nil.1 (len_zero.1 h2)
      refine back _ ⟨k + 1, rfl, hk', ?_⟩ (by dsimp only; omega)
      dsimp only
      unfold dayF at e2 ⊢
      rw [all_take_succ hg, h2, comb_none, ← e2]
    · have hne : (tidyF f).2.2.1 ≠ [] := fun e => h2 (len_zero.2 e)
      have h2 : ¬ extF f = none := fun e => hne (tidy_nil.2 e)
      obtain ⟨x, hx⟩ := Option.ne_none_iff_exists'.1 h2
      have hw := hv f x hfm hx
      -- the day is told: is it better?
      have step : ∀ v : Int, v = sel x → cond (!decide (e = (0 : Int))) (A (v, (0 : Int), ((k + 1 : Nat) : Int))) (cond (decide ((decide (best < v)) = gr)) (A (v, (0 : Int), ((k + 1 : Nat) : Int))) (A (best, e, ((k + 1 : Nat) : Int)))) := by
        intro v ev
        have next : ∀ b : Int, (∀ y, allF (l.take k) = some y → b = if gr = true then max (sel y) v else min (sel y) v) → (allF (l.take k) = none → b = v) → A (b, (0 : Int), ((k + 1 : Nat) : Int)) := by
          intro b q1 q2
          refine back _ ⟨k + 1, rfl, hk', ?_⟩ (by dsimp only; omega)
          dsimp only
          unfold dayF
          rw [all_take_succ hg, hx]
          cases hq : allF (l.take k) with
          | none =>
            rw [q2 hq, ev]
            rfl
          | some y =>
            rw [q1 y hq, ev]
            simp only [comb]
            rw [hs]
        unfold dayF at e2
        cases hq : allF (l.take k) with
        | none =>
          rw [hq] at e2
          have e3 : e = 9 := congrArg Prod.snd e2
          subst e3
          exact cond_yes (by decide) (next v (fun y hy => by rw [hq] at hy; cases hy) fun _ => rfl)
        | some y =>
          rw [hq] at e2
          have e3 : e = 0 := congrArg Prod.snd e2
          have e4 : best = sel y := congrArg Prod.fst e2
          subst e3
          refine cond_no (by decide) (cond_dec (fun h3 => next v (fun z hz => ?_) fun hz => absurd (hq.symm.trans hz) (by simp)) fun h3 => next best (fun z hz => ?_) fun hz => absurd (hq.symm.trans hz) (by simp)) <;> rw [hq] at hz <;> cases hz
          · rw [← e4, ← h3]
            by_cases hb : best < v
            · rw [if_pos (by simpa using hb)]; omega
            · rw [if_neg (by simpa using hb)]; omega
          · rw [← e4]
            cases gr with
            | true =>
              have : ¬ best < v := fun q => h3 (by simpa using q)
              rw [if_pos rfl]; omega
            | false =>
              have : best < v := by simpa using h3
              rw [if_neg (by decide)]; omega
      unfold WayV at hw
      refine cond_bool (fun h3 => ?_) fun h3 => ?_
      · have h3 : (tidyF f).1 = true := h3
        rw [if_pos h3] at hw
        obtain ⟨s, w1, w2, w3, w4⟩ := hw
        exact gcall_eq w1 (callP_eq (ok_env_pick w2 w3) (step _ w4))
      · have h3 : (tidyF f).1 = false := h3
        rw [if_neg (by rw [h3]; decide)] at hw
        obtain ⟨r, w1, w2⟩ := hw
        exact callP_eq (ok_env_pick hne (by omega)) (gcall_eq w1 (step _ w2))
  · rw [List.take_of_length_le (by have h1 : ¬ (k : Int) < l.length := h1; omega)] at e2
    exact e2

theorem cl_First : CloSpec bs 34 [] [] (.pair (.int .i64) (.int .i64)) (.tup (.pair (.int .i64) .bool)) (fun x => some (firstS x.1 x.2)) := ⟨(ok_unit_First (kind := 0) (i := 0)).1, fun x r hx => by cases hx; exact ok_unit_First⟩
theorem cl_Last : CloSpec bs 35 [] [] (.pair (.int .i64) (.int .i64)) (.tup (.pair (.int .i64) .bool)) (fun x => some (lastS x.1 x.2)) := ⟨(ok_unit_Last (kind := 0) (i := 0)).1, fun x r hx => by cases hx; exact ok_unit_Last⟩
theorem ok_env_starts {f : Leaf} : FnE bs n_env_starts (sApiLeaf.compsE f) (.slice sRun) (· = f.2.2.1) := ok_of (e_env_starts f _) rfl rfl
theorem ok_env_ends {f : Leaf} : FnE bs n_env_ends (sApiLeaf.compsE f) (.slice sRun) (· = f.2.2.2) := ok_of (e_env_ends f _) rfl rfl
theorem cl_starts : CloSpec bs 98 [] [] sApiLeaf (.slice sRun) (fun x : Leaf => some x.2.2.1) := ⟨(ok_env_starts (f := (false, 0, [], []))).1, fun x r hx => by cases hx; rw [List.append_nil]; exact ok_env_starts⟩
theorem cl_ends : CloSpec bs 101 [] [] sApiLeaf (.slice sRun) (fun x : Leaf => some x.2.2.2) := ⟨(ok_env_ends (f := (false, 0, [], []))).1, fun x r hx => by cases hx; rw [List.append_nil]; exact ok_env_ends⟩

theorem way_of {gr : Bool} {g1 : Int × Int → Option (Int × Bool)} {g2 : Leaf → Option Runs} {f : Leaf} {q : Q4} (h : extF f = some q) (hla : (tidyF f).2.2.1.length ≤ 1000000000) (hlb : (tidyF f).2.2.2.length ≤ 1000000000) {v : Int}
    (hu : ∀ u s, ofF f = some (.inl (u, s)) → (0 ≤ loF s ∧ loF s < VCal.ucount u) → (0 ≤ hiF s ∧ hiF s < VCal.ucount u) → ∃ r, g1 (u, if gr = true then hiF s else loF s) = some r ∧ r.1 = v)
    (hb : ∀ a b, ofF f = some (.inr (a, b)) → ∃ s, g2 (true, 0, a, b) = some s ∧ (s = a ∨ s = b) ∧ (if gr = true then hiF s else loF s) = v) : WayV gr g1 g2 (tidyF f) v := by
  unfold WayV
  rcases ho : ofF f with _ | ⟨u, s⟩ | ⟨a, b⟩
  · rw [ext_none.2 ho] at h; cases h
  · have e : tidyF f = (false, u, s, []) := by unfold tidyF; rw [ho]
    obtain ⟨h1, h2, h3, h4, h5, h6, h7⟩ := of_units ho
    have b1 := Within.bounds h6 (mem_lo h6.1 h5)
    have b2 := Within.bounds h6 (mem_hi h6.1 h5)
    rw [e, if_neg (by simp)]
    exact hu u s ho (by omega) (by omega)
  · have e : tidyF f = (true, 0, a, b) := by unfold tidyF; rw [ho]
    obtain ⟨sa, sb, na, nb, l1, l2⟩ := span_ends ho
    rw [e] at hla hlb
    rw [e, if_pos rfl]
    obtain ⟨s, w1, w2, w3⟩ := hb a b ho
    rcases w2 with rfl | rfl
    · exact ⟨_, w1, na, hla, w3⟩
    · exact ⟨_, w1, nb, hlb, w3⟩

section
variable {l : List Leaf} (hl : FewL 1000 l)

theorem FewL.tidy {f : Leaf} (hl : FewL 1000 l) (hf : f ∈ l) : (tidyF f).2.2.1.length ≤ 1000000000 ∧ (tidyF f).2.2.2.length ≤ 1000000000 := by
  have := hl.2 f hf
  have := tidy_lens f
  omega

theorem ok_env_Earliest (hl : FewL 1000 l) : FnE bs n_env_Earliest ((Shape.slice sApiLeaf).compsE l) (.tup (.pair (.int .i64) (.int .i64))) (· = dayF (·.1) l) := by
  refine ok_of (e_env_Earliest l _) rfl ?_
  unfold c_env_Earliest
  refine ⟨_, cl_First, _, cl_starts, callP_eq (ok_env_all (sel := (·.1)) hl (fun f q hf hq => ?_) fun p q => rfl) rfl⟩
  have ht := hl.tidy hf
  refine way_of hq ht.1 ht.2 (fun u s ho b1 b2 => ⟨_, rfl, ?_⟩) fun a b ho => ⟨_, rfl, .inl rfl, ?_⟩ <;> unfold extF at hq <;> rw [ho] at hq <;> cases hq
  · show (firstS u (loF s)).1 = _
    unfold firstS
    rw [if_pos (by omega)]
  · rfl

theorem ok_env_Latest (hl : FewL 1000 l) : FnE bs n_env_Latest ((Shape.slice sApiLeaf).compsE l) (.tup (.pair (.int .i64) (.int .i64))) (· = dayF (·.2.2.2) l) := by
  refine ok_of (e_env_Latest l _) rfl ?_
  unfold c_env_Latest
  refine ⟨_, cl_Last, _, cl_ends, callP_eq (ok_env_all (sel := (·.2.2.2)) hl (fun f q hf hq => ?_) fun p q => rfl) rfl⟩
  have ht := hl.tidy hf
  refine way_of hq ht.1 ht.2 (fun u s ho b1 b2 => ⟨_, rfl, ?_⟩) fun a b ho => ⟨_, rfl, .inr rfl, ?_⟩ <;> unfold extF at hq <;> rw [ho] at hq <;> cases hq
  · dsimp only; unfold lastS; rw [if_pos rfl, if_pos (by omega)]
  · rfl

theorem ok_env_FirstEnd (hl : FewL 1000 l) : FnE bs n_env_FirstEnd ((Shape.slice sApiLeaf).compsE l) (.tup (.pair (.int .i64) (.int .i64))) (· = dayF (·.2.2.1) l) := by
  refine ok_of (e_env_FirstEnd l _) rfl ?_
  unfold c_env_FirstEnd
  refine ⟨_, cl_Last, _, cl_ends, callP_eq (ok_env_all (sel := (·.2.2.1)) hl (fun f q hf hq => ?_) fun p q => rfl) rfl⟩
  have ht := hl.tidy hf
  refine way_of hq ht.1 ht.2 (fun u s ho b1 b2 => ⟨_, rfl, ?_⟩) fun a b ho => ⟨_, rfl, .inr rfl, ?_⟩ <;> unfold extF at hq <;> rw [ho] at hq <;> cases hq
  · show (lastS u (loF s)).1 = _
    unfold lastS
    rw [if_pos (by omega)]
  · rfl

theorem ok_env_LastStart (hl : FewL 1000 l) : FnE bs n_env_LastStart ((Shape.slice sApiLeaf).compsE l) (.tup (.pair (.int .i64) (.int .i64))) (· = dayF (·.2.1) l) := by
  refine ok_of (e_env_LastStart l _) rfl ?_
  unfold c_env_LastStart
  refine ⟨_, cl_First, _, cl_starts, callP_eq (ok_env_all (sel := (·.2.1)) hl (fun f q hf hq => ?_) fun p q => rfl) rfl⟩
  have ht := hl.tidy hf
  refine way_of hq ht.1 ht.2 (fun u s ho b1 b2 => ⟨_, rfl, ?_⟩) fun a b ho => ⟨_, rfl, .inl rfl, ?_⟩ <;> unfold extF at hq <;> rw [ho] at hq <;> cases hq
  · dsimp only; unfold firstS; rw [if_pos rfl, if_pos (by omega)]
  · rfl
end
end Go.Proofs.YtjeoelajkncpcaaDoor.V

/- lustrumlaw16: the laws of the least and greatest days, as conditions on the program's functions alone. No condition of its own. -/
namespace Go.Proofs.YtjeoelajkncpcaaDoor.V
open Go
set_option linter.unusedVariables false
set_option linter.unusedSimpArgs false

theorem w_succ63 {a : Nat} (h : a < 9223372036854775807) : w64 ((a : Int) + 1) = ((a + 1 : Nat) : Int) := by rw [w64_of (by omega)]; omega
theorem some_off {α : Type} {p : α} {s : α → Int} : (!decide ((match some p with | none => ((0 : Int), (9 : Int)) | some q => (s q, 0)).2 = 0)) = false := rfl

def exEnv : List Leaf := [(false, 3, [(1984, 1984)], []), (false, 1, [(23825, 23825)], [])]
theorem exEnv_all : allF exEnv = some (724641, 725158, 725006, 725187) := by decide +kernel

theorem exEnv_few : FewL 1000 exEnv := ⟨by decide, fun f hf => by
  rcases List.mem_cons.1 hf with e | hf
  · subst e; decide
  · rcases List.mem_cons.1 hf with e | hf
    · subst e; decide
    · cases hf⟩

theorem ok_lustrumlaw16_awake : FnE bs n_lustrumlaw16_awake ((Shape.unit).compsE ()) .bool (· = true) := by
  refine ok_of (e_lustrumlaw16_awake _) rfl ?_
  unfold c_lustrumlaw16_awake
  have h1 : dayF (·.1) exEnv = (724641, 0) := by unfold dayF; rw [exEnv_all]
  have h2 : dayF (·.2.2.2) exEnv = (725187, 0) := by unfold dayF; rw [exEnv_all]
  have h3 : dayF (·.2.2.1) exEnv = (725006, 0) := by unfold dayF; rw [exEnv_all]
  have h4 : dayF (·.2.1) exEnv = (725158, 0) := by unfold dayF; rw [exEnv_all]
  unfold exEnv at h1 h2 h3 h4
  refine callP_eq (ok_env_Earliest exEnv_few) (callP_eq (ok_env_Latest exEnv_few) (callP_eq (ok_env_FirstEnd exEnv_few) (callP_eq (ok_env_LastStart exEnv_few) ?_)))
  rw [h1, h2, h3, h4]
  exact cond_yes rfl (cond_yes rfl (cond_yes rfl (cond_yes rfl (cond_yes rfl (cond_yes rfl (cond_yes rfl (decide_eq_true rfl)))))))

theorem ok_lustrumref15_Few {l : List Leaf} (hl : l.length ≤ 9223372036854775807) : FnE bs n_lustrumref15_Few ((Shape.slice sApiLeaf).compsE l) .bool (fun r => r = true → l.length ≤ 12 ∧ FewL 40 l) := by
  refine ok_of (e_lustrumref15_Few l _) rfl ?_
  unfold c_lustrumref15_Few
  refine loopP_of (fun z : Int => ∃ k : Nat, z = k ∧ k ≤ l.length ∧ ∀ (i : Nat) f, i < k → l[i]? = some f → f.2.2.1.length ≤ 40 ∧ f.2.2.2.length ≤ 40) (fun z => l.length - z.toNat) ?_ ⟨0, rfl, Nat.zero_le _, fun i f h => by omega⟩
  rintro _ A ⟨k, rfl, hk, hi⟩ back
  refine cond_dec (fun h1 => ⟨⟨by omega, h1⟩, ?_⟩) fun h1 => ?_
  · have h1 : (k : Int) < l.length := h1
    have hk' : k < l.length := by omega
    have hg := List.getElem?_eq_getElem hk'
    generalize l[k] = f at hg
    rw [toNat_ofNat, rd_of (s := sApiLeaf) hg, w_succ63 (by omega)]
    refine callP_eq (ok_lustrumref14_Few (f := f)) (cond_not (fun h => fun q => by cases q) fun h => ?_)
    have hf : f.2.2.1.length ≤ 40 ∧ f.2.2.2.length ≤ 40 := by simpa using h
    refine back _ ⟨k + 1, rfl, hk', fun i g hik hg2 => ?_⟩ (by omega)
    by_cases e : i = k
    · subst e; rw [hg] at hg2; cases hg2; exact hf
    · exact hi i g (by omega) hg2
  · intro h
    have h : (l.length : Int) ≤ 12 := of_decide_eq_true h
    refine ⟨by omega, by omega, fun f hf => ?_⟩
    obtain ⟨i, hi2⟩ := List.getElem?_of_mem hf
    have := (List.getElem?_eq_some_iff.1 hi2).1
    exact hi i f (by have h1 : ¬ (k : Int) < l.length := h1; omega) hi2

theorem FewL.mono {n m : Nat} {l : List Leaf} (h : FewL n l) (hnm : n ≤ m) : FewL m l := ⟨h.1, fun f hf => by have := h.2 f hf; omega⟩

theorem few1000 {l : List Leaf} (h : FewL 40 l) : FewL 1000 l := h.mono (by decide)

theorem ok_EnvIs (l : List Leaf) (hl : l.length ≤ 9223372036854775807) : FnE bs n_lustrumlaw16_EnvIs ((Shape.slice sApiLeaf).compsE l) .bool (· = true) := by
  refine ok_of (e_lustrumlaw16_EnvIs l _) rfl ?_
  unfold c_lustrumlaw16_EnvIs
  refine callP_eq ok_lustrumlaw16_awake (callP_of (ok_lustrumref15_Few hl) fun r hr => cond_not (fun h => rfl) fun h => ?_)
  have hf := few1000 (hr h).2
  refine callP_eq (ok_env_Earliest hf) (callP_eq (ok_ref16_Earliest hf) (callP_eq (ok_env_Latest hf) (callP_eq (ok_ref16_Latest hf) (callP_eq (ok_env_FirstEnd hf) (callP_eq (ok_ref16_FirstEnd hf) (callP_eq (ok_env_LastStart hf) (callP_eq (ok_ref16_LastStart hf) ?_)))))))
  exact cond_yes rfl (cond_yes (decide_eq_true rfl) (cond_yes (decide_eq_true rfl) (cond_yes (decide_eq_true rfl) (cond_yes (decide_eq_true rfl) (cond_yes (decide_eq_true rfl) (cond_yes (decide_eq_true rfl) (cond_yes (decide_eq_true rfl) (decide_eq_true rfl))))))))

theorem few_append {l m : List Leaf} (h : l.length ≤ 12 ∧ FewL 40 l) (k : m.length ≤ 12 ∧ FewL 40 m) : FewL 1000 (l ++ m) := by
  refine ⟨by rw [List.length_append]; omega, fun f hf => ?_⟩
  rcases List.mem_append.1 hf with e | e
  · have := h.2.2 f e; omega
  · have := k.2.2 f e; omega

theorem ok_EnvMore (a : List Leaf × List Leaf) (hl : a.1.length ≤ 9223372036854775807) (hm : a.2.length ≤ 9223372036854775807) : FnE bs n_lustrumlaw16_EnvMore ((Shape.pair (.slice sApiLeaf) (.slice sApiLeaf)).compsE a) .bool (· = true) := by
  obtain ⟨l, m⟩ := a
  refine ok_of (e_lustrumlaw16_EnvMore (l, m) _) rfl ?_
  unfold c_lustrumlaw16_EnvMore
  refine callP_eq ok_lustrumlaw16_awake (callP_of (ok_lustrumref15_Few hl) fun r hr => cond_not (fun h => rfl) fun h => callP_of (ok_lustrumref15_Few hm) fun r2 hr2 => cond_not (fun h => rfl) fun h2 => ?_)
  have hf := hr h
  have hg := hr2 h2
  have fl := few1000 hf.2
  have fm := few1000 hg.2
  have fb := few_append hf hg
  dsimp only at hf hg ⊢
  refine ⟨by simp only [List.length_nil]; omega, by simp only [List.nil_append]; omega, ?_⟩
  rw [List.nil_append]
  refine callP_eq (ok_env_Earliest fl) (callP_eq (ok_env_Earliest fm) (callP_eq (ok_env_Earliest fb) (callP_eq (ok_env_Latest fl) (callP_eq (ok_env_Latest fm) (callP_eq (ok_env_Latest fb) ?_)))))
  have e : ∀ sel, dayF sel (l ++ m) = match comb (allF l) (allF m) with | none => (0, 9) | some q => (sel q, 0) := fun sel => by unfold dayF; rw [all_append]; all_goals (cases comb (allF l) (allF m) <;> rfl)
  rw [e, e]
  unfold dayF
  cases h1 : allF l with
  | none =>
    refine cond_yes (by decide) (cond_yes rfl ?_)
    cases h2 : allF m with
    | none => exact cond_yes (by decide) (cond_yes (by decide) (by decide))
    | some q => exact cond_yes (by simp [comb]) (cond_yes (by simp [comb]) (by simp [comb]))
  | some p =>
    refine cond_no rfl ?_
    cases h2 : allF m with
    | none => exact cond_yes (by decide) (cond_yes rfl (cond_yes (by simp [comb]) (cond_yes (by simp [comb]) (by simp [comb]))))
    | some q => exact cond_no rfl (cond_yes rfl (cond_yes (by simp [comb]) (cond_yes (by simp [comb, min_min]) (by simp [comb, max_max]))))

theorem all_none_iff {l : List Leaf} : allF l = none ↔ ∀ f ∈ l, ofF f = none := by
  rcases all_spec l with ⟨h1, h2⟩ | ⟨q, h1, _, ⟨p, ⟨f, hf, hp⟩, _⟩, _⟩
  · exact ⟨fun _ => h2, fun _ => h1⟩
  · refine ⟨fun e => (by rw [h1] at e; cases e), fun h => ?_⟩
    rw [h f hf] at hp
    cases hp

open Classical in
theorem ok_denote_Has {l : List Leaf} {p : Int × Int} (hl : FewL 1000 l) : FnE bs n_denote_Has ((Shape.pair (.slice sApiLeaf) sRun).compsE (l, p)) .bool (· = decide (∃ f ∈ l, HasF f p)) := by
  refine ok_of (e_denote_Has (l, p) _) rfl ?_
  unfold c_denote_Has
  have hll := hl.1
  refine loopP_of (fun z : Int => ∃ k : Nat, z = k ∧ k ≤ l.length ∧ ∀ (i : Nat) f, i < k → l[i]? = some f → ¬ HasF f p) (fun z => l.length - z.toNat) ?_ ⟨0, rfl, Nat.zero_le _, fun i f h => by omega⟩
  rintro _ A ⟨k, rfl, hk, hi⟩ back
  refine cond_dec (fun h1 => ⟨⟨by omega, h1⟩, ?_⟩) fun h1 => ?_
  · have h1 : (k : Int) < l.length := h1
    have hk' : k < l.length := by omega
    have hg := List.getElem?_eq_getElem hk'
    generalize l[k] = f at hg
    have hfm := List.mem_of_getElem? hg
    have hf := hl.2 f hfm
    dsimp only
    rw [toNat_ofNat, rd_of (s := sApiLeaf) hg, w_succ (by omega)]
    refine callP_eq (ok_leaf_Has (f := f) (by omega) (by omega)) (cond_dec (fun h => ?_) fun h => ?_)
    · exact be (decide_eq_true ⟨f, hfm, h⟩).symm
    · refine back _ ⟨k + 1, rfl, hk', fun i g hik hg2 => ?_⟩ (by omega)
      by_cases e : i = k
      · subst e; rw [hg] at hg2; cases hg2; exact h
      · exact hi i g (by omega) hg2
  · refine be (decide_eq_false ?_).symm
    rintro ⟨f, hf, hh⟩
    obtain ⟨i, hi2⟩ := List.getElem?_of_mem hf
    have := (List.getElem?_eq_some_iff.1 hi2).1
    exact hi i f (by have h1 : ¬ (k : Int) < l.length := h1; omega) hi2 hh

open Classical in
theorem ok_EnvPairs (a : List Leaf × (Int × Int)) (hl : a.1.length ≤ 9223372036854775807) : FnE bs n_lustrumlaw16_EnvPairs ((Shape.pair (.slice sApiLeaf) sRun).compsE a) .bool (· = true) := by
  obtain ⟨l, p⟩ := a
  refine ok_of (e_lustrumlaw16_EnvPairs (l, p) _) rfl ?_
  unfold c_lustrumlaw16_EnvPairs
  refine callP_eq ok_lustrumlaw16_awake (callP_of (ok_lustrumref15_Few hl) fun r hr => cond_not (fun h => rfl) fun h => ?_)
  have hf := few1000 (hr h).2
  have hll := (hr h).1
  dsimp only at hf hll ⊢
  refine callP_eq (ok_env_Earliest hf) (callP_eq (ok_env_Latest hf) (callP_eq (ok_env_FirstEnd hf) (callP_eq (ok_env_LastStart hf) ?_)))
  have e2 : ∀ s t : Q4 → Int, (dayF s l).2 = (dayF t l).2 := fun s t => by unfold dayF; cases allF l <;> rfl
  refine cond_no (by rw [e2 _ (·.2.2.2)]; simp) (cond_no (by rw [e2 _ (·.2.2.1)]; simp) (cond_no (by rw [e2 _ (·.2.1)]; simp) ?_))
  refine loopP_of (fun z : Bool × Int => ∃ k : Nat, z.2 = k ∧ k ≤ l.length ∧ (z.1 = true ↔ ∀ f ∈ l.take k, ofF f = none)) (fun z => l.length - z.2.toNat) ?_ ⟨0, rfl, Nat.zero_le _, by simp⟩
  rintro ⟨em, _⟩ A ⟨k, e1, hk, hem⟩ back
  dsimp only at e1 hem ⊢
  subst e1
  refine cond_dec (fun h1 => ?_) fun h1 => ?_
  · have h1 : (k : Int) < l.length := h1
    have hk' : k < l.length := by omega
    have hg := List.getElem?_eq_getElem hk'
    generalize l[k] = f at hg
    have hfm := List.mem_of_getElem? hg
    have hff := hf.2 f hfm
    have ht : l.take (k + 1) = l.take k ++ [f] := by rw [List.take_add_one, hg]; rfl
    rw [toNat_ofNat, rd_of (s := sApiLeaf) hg, w_succ (by omega)]
    refine cond_bool (fun h2 => ⟨⟨by omega, h1⟩, callP_eq (ok_leaf_Empty (f := f) (by omega) (by omega)) ?_⟩) fun h2 => ?_
    · refine back _ ⟨k + 1, rfl, hk', ?_⟩ (by dsimp only; omega)
      dsimp only
      rw [Option.isNone_iff_eq_none, ht]
      constructor
      · intro h3 g hg2
        rcases List.mem_append.1 hg2 with q | q
        · exact hem.1 h2 g q
        · rw [List.mem_singleton] at q; rw [q]; exact h3
      · intro h3
        exact h3 f (by simp)
    · refine back _ ⟨k + 1, rfl, hk', ?_⟩ (by dsimp only; omega)
      dsimp only
      rw [ht]
      refine ⟨fun q => (by cases q), fun h3 => ?_⟩
      have := hem.2 fun g hg2 => h3 g (List.mem_append_left _ hg2)
      rw [h2] at this
      cases this
  · rw [List.take_of_length_le (by have h1 : ¬ (k : Int) < l.length := h1; omega)] at hem
    rw [← all_none_iff] at hem
    unfold dayF
    rcases all_spec l with ⟨a1, a2⟩ | ⟨q, a1, a2⟩
    · rw [a1]
      exact cond_yes (by decide) (cond_yes rfl (cond_yes (by decide) (cond_yes (hem.2 a1) (cond_yes (by decide) (cond_yes (by decide) (cond_yes (by decide) (by decide)))))))
    · rw [a1]
      have hne : em = false := by
        cases em with
        | false => rfl
        | true => rw [hem.1 rfl] at a1; cases a1
      obtain ⟨b0, ⟨p1, c1, d1⟩, ⟨p2, c2, d2⟩, ⟨p3, c3, d3⟩, ⟨p4, c4, d4⟩⟩ := a2
      have x1 := b0 p1 c1
      have x3 := b0 p3 c3
      have x4 := b0 p2 c2
      have last : cond true (cond (!em) (cond (decide (q.1 ≤ q.2.1)) (cond (decide (q.2.2.1 ≤ q.2.2.2)) (cond (decide (q.1 ≤ q.2.2.1)) ((fun x : Bool => x = true) (decide (q.2.1 ≤ q.2.2.2))) ((fun x : Bool => x = true) false)) ((fun x : Bool => x = true) false)) ((fun x : Bool => x = true) false)) ((fun x : Bool => x = true) false)) ((fun x : Bool => x = true) false) := by
        rw [hne]
        exact cond_yes rfl (cond_yes rfl (cond_yes (decide_eq_true (by omega)) (cond_yes (decide_eq_true (by omega)) (cond_yes (decide_eq_true (by omega)) (decide_eq_true (by omega))))))
      refine cond_no rfl (callP_eq (ok_denote_Has hf) (cond_dec (fun hh => ?_) fun _ => last))
      obtain ⟨f, hfm, hh⟩ := hh
      have y := b0 p ⟨f, hfm, fam_has hh⟩
      dsimp only
      exact cond_no (decide_eq_false (Int.not_lt.2 y.1)) (cond_no (decide_eq_false (Int.not_lt.2 y.2.2.2.1)) (cond_no (decide_eq_false (Int.not_lt.2 y.2.2.1)) (cond_no (decide_eq_false (Int.not_lt.2 y.2.1)) last)))

theorem ok_EnvMet (l : List Leaf) (hl : l.length ≤ 9223372036854775807) : FnE bs n_lustrumlaw16_EnvMet ((Shape.slice sApiLeaf).compsE l) .bool (· = true) := by
  refine ok_of (e_lustrumlaw16_EnvMet l _) rfl ?_
  unfold c_lustrumlaw16_EnvMet
  refine callP_eq ok_lustrumlaw16_awake (callP_of (ok_lustrumref15_Few hl) fun r hr => cond_not (fun h => rfl) fun h => ?_)
  have hf := few1000 (hr h).2
  have hll := (hr h).1
  refine callP_eq (ok_env_Earliest hf) (callP_eq (ok_env_Latest hf) (callP_eq (ok_env_FirstEnd hf) (callP_eq (ok_env_LastStart hf) ?_)))
  have e2 : ∀ s t : Q4 → Int, (dayF s l).2 = (dayF t l).2 := fun s t => by unfold dayF; cases allF l <;> rfl
  generalize hB : (!decide ((dayF (fun x => x.1) l).2 = (0 : Int))) = B
  have hB' : B = true ↔ allF l = none := by
    rw [← hB]
    unfold dayF
    cases allF l <;> simp
  -- what has been met: 'met' of the pairs that have been seen
  let Met (P : Int × Int → Prop) (z1 z2 z3 z4 : Bool) : Prop := (z1 = true ↔ B = true ∨ ∃ p, P p ∧ p.1 = (dayF (fun x => x.1) l).1) ∧ (z2 = true ↔ B = true ∨ ∃ p, P p ∧ p.2 = (dayF (fun x => x.2.2.2) l).1) ∧
    (z3 = true ↔ B = true ∨ ∃ p, P p ∧ p.2 = (dayF (fun x => x.2.2.1) l).1) ∧ (z4 = true ↔ B = true ∨ ∃ p, P p ∧ p.1 = (dayF (fun x => x.2.1) l).1)
  have metP : ∀ {P R : Int × Int → Prop} {z1 z2 z3 z4 : Bool}, (∀ p, P p ↔ R p) → Met P z1 z2 z3 z4 → Met R z1 z2 z3 z4 := fun {P R} _ _ _ _ h k => by
    have : P = R := funext fun p => propext (h p)
    rw [← this]; exact k
  refine loopP_of (fun z : Bool × Bool × Bool × Bool × Int => ∃ k : Nat, z.2.2.2.2 = k ∧ k ≤ l.length ∧ Met (anyP (l.take k)) z.1 z.2.1 z.2.2.1 z.2.2.2.1) (fun z => l.length - z.2.2.2.2.toNat) ?_ ⟨0, rfl, Nat.zero_le _, ?_⟩
  · rintro ⟨z1, z2, z3, z4, _⟩ A ⟨k, e1, hk, hm⟩ back
    dsimp only at e1 hm ⊢
    subst e1
    refine cond_dec (fun h1 => ⟨⟨by omega, h1⟩, ?_⟩) fun h1 => ?_
    · have h1 : (k : Int) < l.length := h1
      have hk' : k < l.length := by omega
      have hg := List.getElem?_eq_getElem hk'
      generalize l[k] = f at hg
      have hfm := List.mem_of_getElem? hg
      have hff := hf.2 f hfm
      have ht : l.take (k + 1) = l.take k ++ [f] := by rw [List.take_add_one, hg]; rfl
      rw [toNat_ofNat, rd_of (s := sApiLeaf) hg, w_succ (a := k) (by omega)]
      refine callP_eq (ok_leaf_Pairs (f := f) (by omega) (by omega)) (cond_dec (fun _ => rfl) fun h2 => ?_)
      have hall : pairsF f 1000 = famPairs (ofF f) := by
        have h2 : ¬ ((pairsF f 1000).length : Int) = 1000 := h2
        unfold pairsF at *
        rw [List.length_take] at h2
        exact List.take_of_length_le (by omega)
      have hlen : (pairsF f 1000).length ≤ 1000 := by unfold pairsF; rw [List.length_take]; omega
      rw [hall] at hlen ⊢
      have hany : ∀ p, anyP (l.take (k + 1)) p ↔ anyP (l.take k) p ∨ p ∈ famPairs (ofF f) := fun p => by
        unfold anyP
        rw [ht]
        constructor
        · rintro ⟨g, hg2, hp⟩
          rcases List.mem_append.1 hg2 with q | q
          · exact .inl ⟨g, q, hp⟩
          · rw [List.mem_singleton] at q; subst q; exact .inr hp
        · rintro (⟨g, hg2, hp⟩ | hp)
          · exact ⟨g, List.mem_append_left _ hg2, hp⟩
          · exact ⟨f, by simp, hp⟩
      generalize famPairs (ofF f) = ps at hlen hany
      refine loopP_of (fun z : Bool × Bool × Bool × Bool × Int => ∃ j : Nat, z.2.2.2.2 = j ∧ j ≤ ps.length ∧ Met (fun p => anyP (l.take k) p ∨ p ∈ ps.take j) z.1 z.2.1 z.2.2.1 z.2.2.2.1) (fun z => ps.length - z.2.2.2.2.toNat) ?_ ⟨0, rfl, Nat.zero_le _, metP (fun p => by simp) hm⟩
      rintro ⟨y1, y2, y3, y4, _⟩ A2 ⟨j, e1, hj, hm2⟩ back2
      dsimp only at e1 hm2 ⊢
      subst e1
      refine cond_dec (fun h3 => ?_) fun h3 => ?_
      · have h3 : (j : Int) < ps.length := h3
        have hj' : j < ps.length := by omega
        have hgp := List.getElem?_eq_getElem hj'
        generalize ps[j] = p at hgp
        have htp : ps.take (j + 1) = ps.take j ++ [p] := by rw [List.take_add_one, hgp]; rfl
        rw [toNat_ofNat, rd_of (s := sRun) hgp, w_succ (a := j) (by omega)]
        obtain ⟨m1, m2, m3, m4⟩ := hm2
        have upd : ∀ {y x : Bool} {Q : Int × Int → Prop}, (y = true ↔ B = true ∨ ∃ p, (anyP (l.take k) p ∨ p ∈ ps.take j) ∧ Q p) → (x = true ↔ y = true ∨ Q p) → (x = true ↔ B = true ∨ ∃ q, (anyP (l.take k) q ∨ q ∈ ps.take (j + 1)) ∧ Q q) := by
          intro y x Q hy hx
          rw [hx, hy, htp]
          constructor
          · rintro ((h | ⟨q, h | h, hq⟩) | h)
            · exact .inl h
            · exact .inr ⟨q, .inl h, hq⟩
            · exact .inr ⟨q, .inr (List.mem_append_left _ h), hq⟩
            · exact .inr ⟨p, .inr (by simp), h⟩
          · rintro (h | ⟨q, h | h, hq⟩)
            · exact .inl (.inl h)
            · exact .inl (.inr ⟨q, .inl h, hq⟩)
            · rcases List.mem_append.1 h with h | h
              · exact .inl (.inr ⟨q, .inr h, hq⟩)
              · rw [List.mem_singleton] at h; subst h; exact .inr hq
        have go : ∀ x1 x2 x3 x4 : Bool, (x1 = true ↔ y1 = true ∨ p.1 = (dayF (fun x => x.1) l).1) → (x2 = true ↔ y2 = true ∨ p.2 = (dayF (fun x => x.2.2.2) l).1) → (x3 = true ↔ y3 = true ∨ p.2 = (dayF (fun x => x.2.2.1) l).1) → (x4 = true ↔ y4 = true ∨ p.1 = (dayF (fun x => x.2.1) l).1) → A2 (x1, x2, x3, x4, ((j + 1 : Nat) : Int)) := by
          intro x1 x2 x3 x4 q1 q2 q3 q4
          exact back2 _ ⟨j + 1, rfl, hj', upd m1 q1, upd m2 q2, upd m3 q3, upd m4 q4⟩ (by dsimp only; omega)
        have yes : ∀ {y : Bool} {Q : Prop}, y = true → (true = true ↔ y = true ∨ Q) := fun h => ⟨fun _ => .inl h, fun _ => rfl⟩
        have no : ∀ {y : Bool} {Q : Prop} [Decidable Q], y = false → (decide Q = true ↔ y = true ∨ Q) := fun h => by rw [h]; simp
        refine join_of (fun x : Bool => x = true ↔ y1 = true ∨ p.1 = (dayF (fun x => x.1) l).1) (fun J hJ => cond_bool (fun h => hJ _ (yes h)) fun h => ⟨⟨by omega, h3⟩, hJ _ (no h)⟩) fun x1 q1 => ?_
        refine join_of (fun x : Bool => x = true ↔ y2 = true ∨ p.2 = (dayF (fun x => x.2.2.2) l).1) (fun J hJ => cond_bool (fun h => hJ _ (yes h)) fun h => ⟨⟨by omega, h3⟩, hJ _ (no h)⟩) fun x2 q2 => ?_
        refine cond_bool (fun h5 => cond_bool (fun h6 => go _ _ _ _ q1 q2 (yes h5) (yes h6)) fun h6 => ⟨⟨by omega, h3⟩, go _ _ _ _ q1 q2 (yes h5) (no h6)⟩) fun h5 => ⟨⟨by omega, h3⟩, cond_bool (fun h6 => go _ _ _ _ q1 q2 (no h5) (yes h6)) fun h6 => ⟨⟨by omega, h3⟩, go _ _ _ _ q1 q2 (no h5) (no h6)⟩⟩
      · rw [show ps.take j = ps from List.take_of_length_le (by have h3 : ¬ (j : Int) < ps.length := h3; omega)] at hm2
        exact back _ ⟨k + 1, rfl, hk', metP (fun p => (hany p).symm) hm2⟩ (by dsimp only; omega)
    · rw [List.take_of_length_le (by have h1 : ¬ (k : Int) < l.length := h1; omega)] at hm
      obtain ⟨m1, m2, m3, m4⟩ := hm
      have all : z1 = true ∧ z2 = true ∧ z3 = true ∧ z4 = true := by
        rcases all_spec l with ⟨a1, _⟩ | ⟨q, a1, _, b1, b2, b3, b4⟩
        · have := hB'.2 a1
          exact ⟨m1.2 (.inl this), m2.2 (.inl this), m3.2 (.inl this), m4.2 (.inl this)⟩
        · have d : ∀ s : Q4 → Int, (dayF s l).1 = s q := fun s => by unfold dayF; rw [a1]
          exact ⟨m1.2 (.inr (by rw [d]; exact b1)), m2.2 (.inr (by rw [d]; exact b4)), m3.2 (.inr (by rw [d]; exact b3)), m4.2 (.inr (by rw [d]; exact b2))⟩
      exact cond_yes rfl (cond_yes all.1 (cond_yes all.2.1 (cond_yes all.2.2.1 all.2.2.2)))
  · have no : ∀ {Q : Int × Int → Prop}, B = true ↔ B = true ∨ ∃ p, anyP (l.take 0) p ∧ Q p := fun {Q} => ⟨.inl, fun h => h.elim id fun ⟨p, ⟨f, hf, _⟩, _⟩ => by simp at hf⟩
    exact ⟨no, no, no, no⟩
end Go.Proofs.YtjeoelajkncpcaaDoor.V

/- slices.Grow, slices.Concat, sets.Union: their contracts. No condition of its own. -/
namespace Go.Proofs.YtjeoelajkncpcaaDoor.V
open Go Go.RowKit Go.Shelf Go.Proofs
set_option linter.unusedVariables false
set_option linter.unusedSimpArgs false

def growRen : Go.Shelf.Ren := ⟨fun _ => 120, fun t => if Nat.beq t 25 then 57 else t, fun x => x⟩

theorem growBears : Bears Tryd.prog (growRen.f 4) (Body8.n4 growRen) := ⟨ "slices.Grow[[]lustrum/api.Run,lustrum/api.Run]", by decide, by kernel_rfl⟩
theorem growMixed : Tryd.prog.follows .mixedOrders = true := by kernel_rfl
theorem growLays : Lays8.n4 Tryd.prog growRen where
  mixed := growMixed
  f4 := growBears
  t0 := Tryd.underlying0
  a0 := Tryd.isAgg0
  z0 := Tryd.sizeOf0
  v0 := Tryd.zeroValue0
  t3 := Tryd.underlying3
  a3 := Tryd.isAgg3
  z3 := Tryd.sizeOf3
  v3 := Tryd.zeroValue3
  t4 := Tryd.underlying4
  a4 := Tryd.isAgg4
  z4 := Tryd.sizeOf4
  v4 := Tryd.zeroValue4
  t9 := Tryd.underlying9
  a9 := Tryd.isAgg9
  z9 := Tryd.sizeOf9
  v9 := Tryd.zeroValue9
  t20 := Tryd.underlying20
  a20 := Tryd.isAgg20
  z20 := Tryd.sizeOf20
  v20 := Tryd.zeroValue20
  t22 := Tryd.underlying22
  a22 := Tryd.isAgg22
  z22 := Tryd.sizeOf22
  v22 := Tryd.zeroValue22

theorem growInfoB : (match Tryd.prog.info? 57 with | some i => Nat.beq i.size 2 && Nat.beq i.bytes 16 && (match i.zero with | some z => Nat.beq z.cells.size 2 | none => false) | none => false) = true := by kernel_rfl
theorem growInfo : ∃ i z, Tryd.prog.info? 57 = some i ∧ i.zero = some z ∧ i.size = 2 ∧ i.bytes = 16 ∧ z.cells.size = 2 := by
  have h := growInfoB
  split at h
  · rename_i i hi
    split at h
    · rename_i z hz
      simp only [Bool.and_eq_true] at h
      exact ⟨i, z, hi, hz, beq_eq h.1.1, beq_eq h.1.2, beq_eq h.2⟩
    · simp at h
  · cases h

theorem growBytes : bs.P.bytesOf 57 = 16 := by kernel_rfl
theorem growBody : ∃ c, (Body8.n4 growRen).body = some c := ⟨_, rfl⟩

theorem fnGrow : FnGrow bs 120 57 sRun := by
  obtain ⟨i, z, hi, hz, h1, h2, h3⟩ := growInfo
  refine ⟨?_, fun n w h0 hb => ?_⟩
  · obtain ⟨nm, g1, g2⟩ := growBears
    obtain ⟨c, hc⟩ := growBody
    exact ⟨_, c, g2, hc, g1⟩
  · rw [growBytes] at hb
    obtain ⟨m, rfl⟩ : ∃ m : Nat, n = m := ⟨n.toNat, by omega⟩
    have hb : m * 16 ≤ 140737488355328 := hb
    rcases Nat.eq_zero_or_pos m with e | e
    · subst e
      refine (Any8.slices_Grow_room growLays none 0 0 0 w (by omega) (by omega) (by omega) (by omega)).mono fun x w' ⟨q1, q2⟩ => ?_
      subst q2
      exact ⟨_, q1, ⟨rfl, .inl ⟨rfl, rfl⟩⟩, Below.refl _ _, fun b hb => by cases hb⟩
    · refine (Any8.slices_Grow_grow growLays i z hi hz (by omega) none 0 0 m [] w (by omega) (by omega) (by rw [h2]; omega) (by omega) (by simp) (fun _ => rfl) (fun a ha => by cases ha)).mono fun x w' ⟨q1, q2⟩ => ?_
      subst q2
      refine ⟨_, q1, ⟨rfl, .inr ⟨_, _, _, rfl, Nat.le_refl _, Array.getElem?_push_size, Nat.zero_le _, ?_, ?_, rfl⟩⟩, ((Below.refl _ _).drew).alloc (Nat.le_refl _) _, fun b hb => ?_⟩
      · exact grownCap_le_maxLen w _ _ _ (by unfold maxLen; omega)
      · have hg := grownCap_ge w (0 + m) 0 (growRen.t 25)
        show (_ : Nat) = _ * 2
        simp only [Array.size_append, size_zeroCells, h3]
        simp only [List.size_toArray, List.length_nil]
        omega
      · cases hb; exact Nat.le_refl _

theorem cat1 : 2 - (w64 ((0 : Int) + 1)).toNat < 2 - (0 : Int).toNat := by decide
theorem cat2 : 2 - (w64 ((1 : Int) + 1)).toNat < 2 - (1 : Int).toNat := by decide
theorem ok_slices_Concat {x y : Runs} (h : x.length + y.length < 65536) : FnE bs n_slices_Concat ((Shape.slice (.slice sRun)).compsE [x, y]) (.slice sRun) (· = x ++ y) := by
  refine ok_han (e_slices_Concat [x, y] _) rfl (HanOK.ofList [(120, .grow 57 sRun)] rfl rfl ⟨fnGrow, trivial⟩) ?_
  unfold c_slices_Concat
  refine loopP_of (fun z : Int × Int => z = (0, 0) ∨ z = ((x.length : Int), 1) ∨ z = (((x.length + y.length : Nat) : Int), 2)) (fun z => 2 - z.2.toNat) ?_ (.inl rfl)
  rintro _ A hz back
  have w1 : ∀ n : Nat, n < 131072 → w64 (n : Int) = n := fun n h => w64_of (by omega)
  rcases hz with rfl | rfl | rfl
  · refine cond_yes rfl ⟨⟨by dsimp only; omega, by dsimp only [List.length_cons, List.length_nil]; omega⟩, ?_⟩
    have e : w64 ((0 : Int) + ((rd (.slice sRun) [x, y] (0 : Int).toNat).length : Int)) = x.length := by rw [Int.zero_add]; exact w1 _ (by show x.length < _; omega)
    refine cond_no (decide_eq_false ?_) ?_
    · rw [e]; omega
    · rw [e]; exact back _ (.inr (.inl rfl)) cat1
  · refine cond_yes rfl ⟨⟨by dsimp only; omega, by dsimp only [List.length_cons, List.length_nil]; omega⟩, ?_⟩
    have e : w64 ((x.length : Int) + ((rd (.slice sRun) [x, y] (1 : Int).toNat).length : Int)) = ((x.length + y.length : Nat) : Int) := by
      show w64 ((x.length : Int) + (y.length : Int)) = _
      rw [← Int.natCast_add]; exact w1 _ (by omega)
    refine cond_no (decide_eq_false ?_) ?_
    · rw [e]; omega
    · rw [e]; exact back _ (.inr (.inr rfl)) cat2
  · refine cond_no rfl ⟨⟨by dsimp only; omega, by dsimp only; rw [toNat_ofNat]; omega⟩, ?_⟩
    refine loopP_of (fun z : Unit × Int × Runs => z = ((), 0, []) ∨ z = ((), 1, x) ∨ z = ((), 2, x ++ y)) (fun z => 2 - z.2.1.toNat) ?_ (.inl rfl)
    rintro _ A hz back
    rcases hz with rfl | rfl | rfl
    · exact cond_yes rfl ⟨⟨by dsimp only; omega, by dsimp only [List.length_cons, List.length_nil]; omega⟩, by show (0 + x.length) * 16 ≤ _; omega, back _ (.inr (.inl rfl)) cat1⟩
    · exact cond_yes rfl ⟨⟨by dsimp only; omega, by dsimp only [List.length_cons, List.length_nil]; omega⟩, by show (x.length + y.length) * 16 ≤ _; omega, back _ (.inr (.inr rfl)) cat2⟩
    · exact cond_no rfl rfl

theorem ok_sets_Union {x y : Runs} (h : x.length + y.length < 65536) : FnE bs n_sets_Union ((Shape.pair (.slice sRun) (.slice sRun)).compsE (x, y)) (.slice sRun) (· = makeF (x ++ y)) := by
  refine ok_of (e_sets_Union (x, y) _) rfl ?_
  unfold c_sets_Union
  exact callP_eq (ok_slices_Concat h) (callP_eq (ok_runs_Make (by rw [List.length_append]; exact h)) rfl)
end Go.Proofs.YtjeoelajkncpcaaDoor.V

