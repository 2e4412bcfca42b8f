/- The calculus of the program's functions and their contracts, part 11. No condition of its own. -/
import Derived.Test.YtdlgenbfnahmeaaGreatDoorM10


/- Layer 22: what Narrow's answer is; the example. No condition of its own. -/
namespace Go.Proofs.YtdlgenbfnahmeaaGreatDoor.V
open Go
set_option linter.unusedVariables false
set_option linter.unusedSimpArgs false
set_option linter.unusedSectionVars false

theorem good_shape {n : Nat} {g : Leaf} (h : Good n g) : (∃ u s, ofF g = some (.inl (u, s)) ∧ g = (false, u, s, [])) ∨ ∃ a b, ofF g = some (.inr (a, b)) ∧ g = (true, 0, a, b) := by
  rcases tidy_shape g with ⟨ho, ht⟩ | ⟨u, s, ho, ht⟩ | ⟨a, b, ho, ht⟩
  · exact absurd ho h.2.1
  · exact .inl ⟨u, s, ho, h.2.2.1.symm.trans ht⟩
  · exact .inr ⟨a, b, ho, h.2.2.1.symm.trans ht⟩

theorem good_told {n : Nat} {g : Leaf} (h : Good n g) (hn : n ≤ 400) : startsL g = (st1 g, true) ∧ endsL g = (en1 g, true) := by
  unfold startsL endsL st1 en1
  rcases good_shape h with ⟨u, s, ho, e⟩ | ⟨a, b, ho, e⟩
  · obtain ⟨h1, h2, h3, h4, h5, h6, h7⟩ := of_units ho
    rw [ho]
    dsimp only
    rw [if_neg (by rw [h1]; decide), if_neg (by rw [h1]; decide), ← h3, ← h4]
    have hl := h.2.2.2.1
    rw [← h4] at hl
    have hk := h.2.2.2.2.2 h1
    rw [← h3, ← h4] at hk
    have key : ∀ g', marksF g' u s = ((marksF g' u s).1, true) := fun g' => by
      refine Prod.ext rfl ?_
      unfold marksF
      rw [units_self h6]
      by_cases e : u = 0
      · rw [if_pos e, if_neg (by omega)]
      · rw [if_neg e, if_neg (by have := hk e; omega)]
    exact ⟨key _, key _⟩
  · have hla := h.2.2.2.1
    have hlb := h.2.2.2.2.1
    rw [ho]
    rw [e] at hla hlb
    dsimp only at hla hlb ⊢
    have ka : knownF a = (a, true) := by unfold knownF; exact if_neg (by omega)
    have kb : knownF b = (b, true) := by unfold knownF; exact if_neg (by omega)
    rw [ka, kb, e]
    exact ⟨rfl, rfl⟩

theorem good_wide {l : List Leaf} (h : ∀ g ∈ l, Good 400 g) : wideB l = false := by
  unfold wideB
  rw [List.any_eq_false]
  intro g hg
  have := good_told (h g hg) (Nat.le_refl _)
  rw [this.1, this.2]
  simp

theorem good_pair {n : Nat} {g : Leaf} (h : Good n g) : ∃ p, HasF g p := by
  have : famPairs (ofF g) ≠ [] := fun e => h.2.1 (fam_some.1 e)
  obtain ⟨p, hp⟩ := List.exists_mem_of_ne_nil _ this
  exact ⟨p, has_fam.2 hp⟩

theorem mem_st {l : List Leaf} (h : ∀ g ∈ l, Good 400 g) {d : Int} : mem (stF l) d ↔ ∃ p, hasP l p ∧ p.1 = d := by
  unfold stF hasP
  rw [mem_make, memL_flat]
  have key : ∀ g ∈ l, (memL (st1 g) d ↔ ∃ p, HasF g p ∧ p.1 = d) := fun g hg => by
    obtain ⟨s1, _, _, s4⟩ := starts_spec (good_told (h g hg) (Nat.le_refl _)).1
    have : memL (st1 g) d ↔ mem (st1 g) d := ⟨fun q => q.2.2, fun q => ⟨(mem_lim s1 q).1, (mem_lim s1 q).2, q⟩⟩
    rw [this, s4 rfl]
    exact ⟨fun ⟨p, hp, e⟩ => ⟨p, has_fam.2 hp, e⟩, fun ⟨p, hp, e⟩ => ⟨p, has_fam.1 hp, e⟩⟩
  constructor
  · rintro ⟨g, hg, hm⟩
    obtain ⟨p, hp, e⟩ := (key g hg).1 hm
    exact ⟨p, ⟨g, hg, hp⟩, e⟩
  · rintro ⟨p, ⟨g, hg, hp⟩, e⟩
    exact ⟨g, hg, (key g hg).2 ⟨p, hp, e⟩⟩

theorem mem_en {l : List Leaf} (h : ∀ g ∈ l, Good 400 g) {d : Int} : mem (enF l) d ↔ ∃ p, hasP l p ∧ p.2 = d := by
  unfold enF hasP
  rw [mem_make, memL_flat]
  have key : ∀ g ∈ l, (memL (en1 g) d ↔ ∃ p, HasF g p ∧ p.2 = d) := fun g hg => by
    obtain ⟨s1, _, _, s4⟩ := ends_spec (good_told (h g hg) (Nat.le_refl _)).2
    have : memL (en1 g) d ↔ mem (en1 g) d := ⟨fun q => q.2.2, fun q => ⟨(mem_lim s1 q).1, (mem_lim s1 q).2, q⟩⟩
    rw [this, s4 rfl]
    exact ⟨fun ⟨p, hp, e⟩ => ⟨p, has_fam.2 hp, e⟩, fun ⟨p, hp, e⟩ => ⟨p, has_fam.1 hp, e⟩⟩
  constructor
  · rintro ⟨g, hg, hm⟩
    obtain ⟨p, hp, e⟩ := (key g hg).1 hm
    exact ⟨p, ⟨g, hg, hp⟩, e⟩
  · rintro ⟨p, ⟨g, hg, hp⟩, e⟩
    exact ⟨g, hg, (key g hg).2 ⟨p, hp, e⟩⟩

/-- Starts and ends are told by the pairs. -/
theorem st_congr {l m : List Leaf} (hl : ∀ g ∈ l, Good 400 g) (hm : ∀ g ∈ m, Good 400 g) (h : ∀ p, hasP l p ↔ hasP m p) : stF l = stF m ∧ enF l = enF m :=
  ⟨sane_ext (make_sane _) (make_sane _) fun n => (mem_st hl).trans ((exists_congr fun p => and_congr_left fun _ => h p).trans (mem_st hm).symm),
   sane_ext (make_sane _) (make_sane _) fun n => (mem_en hl).trans ((exists_congr fun p => and_congr_left fun _ => h p).trans (mem_en hm).symm)⟩

/-- The three answers. -/
theorem known_cases {out : List Leaf} (hg : ∀ g ∈ out, Good 400 g) :
    (knownR out = ([], 9) ∧ ∀ p, ¬ hasP out p) ∨ (knownR out = ([], 8) ∧ (∃ p, hasP out p) ∧ (400 < (stF out).length ∨ 400 < (enF out).length)) ∨ (knownR out = (out, 0) ∧ (∃ p, hasP out p) ∧ out ≠ [] ∧ (stF out).length ≤ 400 ∧ (enF out).length ≤ 400) := by
  unfold knownR
  by_cases e : out = []
  · rw [if_pos e, e]
    exact .inl ⟨rfl, fun p => hasP_nil⟩
  · rw [if_neg e]
    have hp : ∃ p, hasP out p := by
      obtain ⟨g, hgm⟩ := List.exists_mem_of_ne_nil _ e
      obtain ⟨p, hp⟩ := good_pair (hg g hgm)
      exact ⟨p, g, hgm, hp⟩
    by_cases q : 400 < (stF out).length ∨ 400 < (enF out).length
    · rw [if_pos q]; exact .inr (.inl ⟨rfl, hp, q⟩)
    · rw [if_neg q]; exact .inr (.inr ⟨rfl, hp, e, by omega, by omega⟩)

/-- What Narrow answers. -/
theorem nar_cases {l m : List Leaf} {r : List Leaf × Int} (h : NarR l m r) :
    ((wideB l || wideB m) = true ∧ r = ([], 8)) ∨ ((wideB l || wideB m) = false ∧ ∃ out : List Leaf, (∀ g ∈ out, Good 400 g) ∧ out.length ≤ l.length * (800 * m.length + 60) ∧ (∀ p, hasP out p ↔ hasP l p ∧ insideP m p) ∧
      ((r = ([], 9) ∧ ∀ p, ¬ hasP out p) ∨ (r = ([], 8) ∧ (∃ p, hasP out p) ∧ (400 < (stF out).length ∨ 400 < (enF out).length)) ∨ (r = (out, 0) ∧ (∃ p, hasP out p) ∧ out ≠ [] ∧ (stF out).length ≤ 400 ∧ (enF out).length ≤ 400))) := by
  unfold NarR at h
  cases hw : (wideB l || wideB m) with
  | true => rw [hw, if_pos rfl] at h; exact .inl ⟨rfl, h⟩
  | false =>
    rw [hw, if_neg (by decide)] at h
    obtain ⟨out, h1, h2, h3, rfl⟩ := h
    exact .inr ⟨rfl, out, h1, h2, h3, known_cases h1⟩

open Classical in
theorem ok_HasP {l : List Leaf} {p : Int × Int} (hl : FewL 1000 l) : FnE bs n_denote_Has ((Shape.pair (.slice sApiLeaf) sRun).compsE (l, p)) .bool (fun r => r = true ↔ hasP l p) :=
  (ok_denote_Has hl).mono fun r hr => by rw [hr]; exact decide_eq_true_iff

theorem ok_lustrumlaw22_few {l : List Leaf} (hl : l.length ≤ 9223372036854775807) : FnE bs n_lustrumlaw22_few ((Shape.slice sApiLeaf).compsE l) .bool (fun r => r = true → l.length ≤ 6 ∧ FewL 40 l) := by
  refine ok_of (e_lustrumlaw22_few l _) rfl ?_
  unfold c_lustrumlaw22_few
  refine callP_of (ok_lustrumref15_Few hl) fun r hr => cond_bool (fun h => ?_) fun h => fun q => by cases q
  refine callP_of (ok_ref20_UnitsT (few1000 (hr h).2)) fun _ _ => cond_dec (fun _ => fun q => ?_) fun _ => fun q => by cases q
  have q : (l.length : Int) ≤ 6 := of_decide_eq_true q
  exact ⟨by omega, (hr h).2⟩

theorem few_prod {l m : List Leaf} (hl : l.length ≤ 6) (hm : m.length ≤ 12) : l.length * (800 * m.length + 60) ≤ 200000000 := Nat.le_trans (Nat.mul_le_mul hl (show 800 * m.length + 60 ≤ 9660 by omega)) (by decide)

/-! ### The example -/

theorem ok_lustrumlaw22_years {lo hi : Int} : FnE bs n_lustrumlaw22_years ((Shape.pair (.int .i64) (.int .i64)).compsE (lo, hi)) (.slice sApiLeaf) (· = yrs lo hi) := ok_of (e_lustrumlaw22_years (lo, hi) _) rfl rfl

theorem yrs_has {lo hi : Int} (h0 : 0 ≤ lo) (h1 : lo ≤ hi) (h2 : hi ≤ 9999) {p : Int × Int} : hasP (yrs lo hi) p ↔ ∃ i, lo ≤ i ∧ i ≤ hi ∧ p = (VCal.ufirst 3 i, VCal.ulast 3 i) := by
  have hc : VCal.ucount 3 = 10000 := by decide
  have hw : Within [(lo, hi)] (VCal.ucount 3 - 1) := by
    refine ⟨⟨h1, by dsimp only; omega, by dsimp only; unfold Lim; omega, trivial⟩, .inr ⟨?_, ?_⟩⟩
    · show 0 ≤ lo; exact h0
    · show hi ≤ _; omega
  have hs : LeafSane (false, 3, [(lo, hi)], []) := by unfold LeafSane; rw [if_neg (by simp)]; exact ⟨⟨(by show (0 : Int) ≤ 3; decide), (by show (3 : Int) ≤ 5; decide)⟩, hw, rfl⟩
  unfold yrs
  rw [hasP_one, has_units hs rfl]
  dsimp only
  constructor
  · rintro ⟨i, q1, ⟨r, hr, q2⟩, q3⟩
    cases List.mem_singleton.1 hr
    exact ⟨i, q2.1, q2.2, q3⟩
  · rintro ⟨i, q1, q2, rfl⟩
    have hu := VCal.unit_in (kind := 3) (i := i) (by omega) (by omega)
    exact ⟨i, VCal.uof_some.2 ⟨by omega, by omega, Int.le_refl _, hu.2.1⟩, ⟨_, List.mem_singleton.2 rfl, q1, q2⟩, rfl⟩

def exS (a b : Int) : List Leaf := [(true, 0, [(a, a)], [(b, b)])]
theorem exS_has {a b : Int} (h0 : 0 ≤ a) (h1 : a ≤ b) (h2 : b ≤ 3652424) {p : Int × Int} : hasP (exS a b) p ↔ p = (a, b) := by
  have hw : ∀ x : Int, 0 ≤ x → x ≤ 3652424 → Within [(x, x)] 3652424 := fun x g0 g1 => ⟨⟨Int.le_refl _, by dsimp only; omega, by dsimp only; unfold Lim; omega, trivial⟩, .inr ⟨g0, g1⟩⟩
  have hs : LeafSane (true, 0, [(a, a)], [(b, b)]) := by unfold LeafSane; rw [if_pos rfl]; exact ⟨rfl, hw a h0 (by omega), hw b (by omega) h2⟩
  unfold exS
  rw [hasP_one, has_span hs rfl]
  dsimp only
  constructor
  · rintro ⟨q1, ⟨r, hr, q2⟩, ⟨r2, hr2, q3⟩⟩
    cases List.mem_singleton.1 hr
    cases List.mem_singleton.1 hr2
    exact Prod.ext (by dsimp only at q2 ⊢; omega) (by dsimp only at q3 ⊢; omega)
  · rintro rfl
    exact ⟨h1, ⟨_, List.mem_singleton.2 rfl, Int.le_refl _, Int.le_refl _⟩, ⟨_, List.mem_singleton.2 rfl, Int.le_refl _, Int.le_refl _⟩⟩

theorem exS_few {a b : Int} {n : Nat} (hn : 1 ≤ n) : FewL n (exS a b) := ⟨by simp [exS], fun f hf => by cases List.mem_singleton.1 hf; exact ⟨hn, hn⟩⟩
theorem yrs_fewN {lo hi : Int} {n : Nat} (hn : 1 ≤ n) : FewL n (yrs lo hi) := ⟨by simp [yrs], fun f hf => by cases List.mem_singleton.1 hf; exact ⟨hn, Nat.zero_le _⟩⟩

theorem len_of_mem {s : Runs} {L : List Int} (h : Sane s) (k : ∀ n, mem s n → n ∈ L) : s.length ≤ L.length :=
  Nat.le_trans (sane_len h) (sub_len (nums_sorted h) fun n hn => k n (mem_nums.1 hn))

theorem exw1 : wideB (yrs 1980 1989) = false := by decide +kernel
theorem exw2 : wideB (exS 724276 725736) = false := by decide +kernel
theorem exw3 : wideB (yrs 1 1) = false := by decide +kernel
theorem exw4 : wideB (yrs 2 2) = false := by decide +kernel
theorem exd1 : VCal.ufirst 3 1984 = 724641 ∧ VCal.ulast 3 1984 = 725006 := by decide +kernel
theorem exd2 : VCal.ufirst 3 1 = 366 ∧ VCal.ufirst 3 2 = 731 := by decide +kernel

theorem ok_lustrumlaw22_awake : FnE bs n_lustrumlaw22_awake ((Shape.unit).compsE ()) .bool (· = true) := by
  refine ok_of (e_lustrumlaw22_awake _) rfl ?_
  unfold c_lustrumlaw22_awake
  refine callP_eq ok_lustrumlaw22_years (callP_of (ok_narrow_Narrow (l := yrs 1980 1989) (m := exS 724276 725736) (yrs_fewN (by decide)) (exS_few (by decide)) (by decide) (by decide)) fun r2 h2 => callP_eq ok_lustrumlaw22_years (callP_eq ok_lustrumlaw22_years (callP_of (ok_narrow_Narrow (l := yrs 1 1) (m := yrs 2 2) (yrs_fewN (by decide)) (yrs_fewN (by decide)) (by decide) (by decide)) fun r5 h5 => ?_)))
  have hin : ∀ p : Int × Int, insideP (exS 724276 725736) p ↔ p.1 ≤ p.2 ∧ 724276 ≤ p.1 ∧ p.2 ≤ 725736 := fun p => by
    unfold insideP
    constructor
    · rintro ⟨h, q, hq, h3, h4⟩
      rw [exS_has (by decide) (by decide) (by decide)] at hq
      subst hq
      exact ⟨h, h3, h4⟩
    · rintro ⟨h, h3, h4⟩
      exact ⟨h, _, (exS_has (by decide) (by decide) (by decide)).2 rfl, h3, h4⟩
  obtain ⟨hw, _⟩ | ⟨_, out, og, ol, oh, hc⟩ := nar_cases h2
  · rw [exw1, exw2] at hw; cases hw
  have p1 : hasP out (724641, 725006) := (oh _).2 ⟨(yrs_has (by decide) (by decide) (by decide)).2 ⟨1984, by decide, by decide, by rw [exd1.1, exd1.2]⟩, (hin _).2 ⟨by decide, by decide, by decide⟩⟩
  have p2 : ¬ hasP out (723911, 724275) := fun h => by
    have := (hin _).1 ((oh _).1 h).2
    exact absurd this.2.1 (by decide)
  have hle : (stF out).length ≤ 400 ∧ (enF out).length ≤ 400 := by
    refine ⟨Nat.le_trans (len_of_mem (L := (upTo 1980 1989).map (VCal.ufirst 3)) (make_sane _) fun n hn => ?_) (by decide), Nat.le_trans (len_of_mem (L := (upTo 1980 1989).map (VCal.ulast 3)) (make_sane _) fun n hn => ?_) (by decide)⟩
    · obtain ⟨p, hp, rfl⟩ := (mem_st og).1 hn
      obtain ⟨i, q1, q2, rfl⟩ := (yrs_has (by decide) (by decide) (by decide)).1 ((oh p).1 hp).1
      exact List.mem_map.2 ⟨i, mem_upTo.2 ⟨q1, q2⟩, rfl⟩
    · obtain ⟨p, hp, rfl⟩ := (mem_en og).1 hn
      obtain ⟨i, q1, q2, rfl⟩ := (yrs_has (by decide) (by decide) (by decide)).1 ((oh p).1 hp).1
      exact List.mem_map.2 ⟨i, mem_upTo.2 ⟨q1, q2⟩, rfl⟩
  obtain ⟨_, hn⟩ | ⟨_, _, hn⟩ | ⟨er, _, _, _⟩ := hc
  · exact absurd p1 (hn _)
  · omega
  have er : r2 = (out, 0) := er
  subst er
  obtain ⟨hw, _⟩ | ⟨_, out2, og2, ol2, oh2, hc2⟩ := nar_cases h5
  · rw [exw3, exw4] at hw; cases hw
  have no2 : ∀ p, ¬ hasP out2 p := fun p h => by
    obtain ⟨h3, _, q, hq, h4, _⟩ := (oh2 p).1 h
    obtain ⟨i, q1, q2, rfl⟩ := (yrs_has (by decide) (by decide) (by decide)).1 h3
    obtain ⟨j, q3, q4, rfl⟩ := (yrs_has (by decide) (by decide) (by decide)).1 hq
    have : i = 1 := by omega
    subst this
    have : j = 2 := by omega
    subst this
    dsimp only at h4
    rw [exd2.1, exd2.2] at h4
    omega
  have er5 : r5 = ([], 9) := by
    rcases hc2 with ⟨e, _⟩ | ⟨_, ⟨p, hp⟩, _⟩ | ⟨_, ⟨p, hp⟩, _⟩
    · exact e
    · exact absurd hp (no2 p)
    · exact absurd hp (no2 p)
  subst er5
  have hfew : FewL 1000 out := by
    have e1 : (yrs 1980 1989).length = 1 := rfl
    have e2 : (exS 724276 725736).length = 1 := rfl
    rw [e1, e2] at ol
    exact ⟨by omega, fun g hg => ⟨Nat.le_trans (og g hg).2.2.2.1 (by decide), Nat.le_trans (og g hg).2.2.2.2.1 (by decide)⟩⟩
  refine cond_yes rfl (cond_yes rfl (callP_of (ok_HasP hfew) fun r6 h6 => cond_yes (h6.2 p1) (callP_of (ok_HasP hfew) fun r7 h7 => cond_yes ?_ (callP_eq ok_lustrumlaw22_years (callP_of (ok_narrow_Inside (m := yrs 1984 1984) (yrs_fewN (by decide))) fun r9 h9 => h9.2 ?_)))))
  · have : r7 = false := by
      cases r7 with
      | false => rfl
      | true => exact absurd (h7.1 rfl) p2
    rw [this]; rfl
  · exact ⟨by decide, _, (yrs_has (by decide) (by decide) (by decide)).2 ⟨1984, by decide, by decide, rfl⟩, by rw [exd1.1]; decide, by rw [exd1.2]; decide⟩
end Go.Proofs.YtdlgenbfnahmeaaGreatDoor.V


/- Layer 22's laws NarrowShrinks, NarrowHas, NarrowFree. No condition of its own. -/
namespace Go.Proofs.YtdlgenbfnahmeaaGreatDoor.V
open Go
set_option linter.unusedVariables false
set_option linter.unusedSimpArgs false
set_option linter.unusedSectionVars false

theorem beq_of {r s : Bool} {A B : Prop} (h : r = true ↔ A) (k : s = true ↔ B) (e : A ↔ B) : decide (r = s) = true := decide_eq_true (Bool.eq_iff_iff.2 (h.trans (e.trans k.symm)))
theorem false_of {r : Bool} {A : Prop} (h : r = true ↔ A) (k : ¬ A) : r = false := by cases r with | false => rfl | true => exact absurd (h.1 rfl) k

open Classical in
theorem ok_PossibleI {m : List Leaf} {d : Int} (hl : FewL 1000 m) : FnE bs n_cover_Possible ((Shape.pair (.slice sApiLeaf) (.int .i64)).compsE (m, d)) .bool (fun r => r = true ↔ insideP m (d, d)) :=
  (ok_cover_Possible hl).mono fun r hr => by
    rw [hr]
    refine (decide_eq_true_iff).trans (any_covers.trans ?_)
    unfold insideP
    constructor
    · rintro ⟨q, h1, h2⟩; exact ⟨Int.le_refl _, q, any_has.1 h1, h2⟩
    · rintro ⟨_, q, h1, h2⟩; exact ⟨q, any_has.2 h1, h2⟩

theorem ok_NarrowShrinks (a : List Leaf × (Int × Int) × (Int × Int)) (hl : a.1.length ≤ 9223372036854775807) : FnE bs n_lustrumlaw22_NarrowShrinks ((Shape.pair (.slice sApiLeaf) (.pair sRun (.pair (.int .i64) (.int .i64)))).compsE a) .bool (· = true) := by
  obtain ⟨m, p, s, t⟩ := a
  refine ok_of (e_lustrumlaw22_NarrowShrinks (m, p, s, t) _) rfl ?_
  unfold c_lustrumlaw22_NarrowShrinks
  refine callP_eq ok_lustrumlaw22_awake (callP_of (ok_lustrumlaw22_few hl) fun r hr => cond_not (fun _ => rfl) fun h => ?_)
  have fm : FewL 1000 m := few1000 (hr h).2
  refine callP_of (ok_narrow_Inside (m := m) (p := (p.1, p.2)) fm) fun r3 h3 => ?_
  have T2 : callP bs n_narrow_Inside (.pair (.slice sApiLeaf) sRun) .bool (m, s, s) (fun r6 => callP bs n_cover_Possible (.pair (.slice sApiLeaf) (.int .i64)) .bool (m, s) (fun r7 => (decide (r6 = r7)) = true)) :=
    callP_of (ok_narrow_Inside fm) fun r6 h6 => callP_of (ok_PossibleI fm) fun r7 h7 => beq_of h6 h7 Iff.rfl
  have le : r3 = true → p.1 ≤ p.2 := fun q => (h3.1 q).1
  have C : cond (!r3) (callP bs n_narrow_Inside (.pair (.slice sApiLeaf) sRun) .bool (m, s, s) (fun r6 => callP bs n_cover_Possible (.pair (.slice sApiLeaf) (.int .i64)) .bool (m, s) (fun r7 => (decide (r6 = r7)) = true))) (cond (decide (p.1 ≤ p.2)) (callP bs n_narrow_Inside (.pair (.slice sApiLeaf) sRun) .bool (m, s, s) (fun r6 => callP bs n_cover_Possible (.pair (.slice sApiLeaf) (.int .i64)) .bool (m, s) (fun r7 => (decide (r6 = r7)) = true))) (false = true)) :=
    cond_not (fun _ => T2) fun q => cond_yes (decide_eq_true (le q)) T2
  have tail : cond true (callP bs n_denote_Has (.pair (.slice sApiLeaf) sRun) .bool (m, p.1, p.2) (fun r5 => cond (!r5) (cond (!r3) (callP bs n_narrow_Inside (.pair (.slice sApiLeaf) sRun) .bool (m, s, s) (fun r6 => callP bs n_cover_Possible (.pair (.slice sApiLeaf) (.int .i64)) .bool (m, s) (fun r7 => (decide (r6 = r7)) = true))) (cond (decide (p.1 ≤ p.2)) (callP bs n_narrow_Inside (.pair (.slice sApiLeaf) sRun) .bool (m, s, s) (fun r6 => callP bs n_cover_Possible (.pair (.slice sApiLeaf) (.int .i64)) .bool (m, s) (fun r7 => (decide (r6 = r7)) = true))) (false = true)))
      (cond r3 (cond (!r3) (callP bs n_narrow_Inside (.pair (.slice sApiLeaf) sRun) .bool (m, s, s) (fun r6 => callP bs n_cover_Possible (.pair (.slice sApiLeaf) (.int .i64)) .bool (m, s) (fun r7 => (decide (r6 = r7)) = true))) (cond (decide (p.1 ≤ p.2)) (callP bs n_narrow_Inside (.pair (.slice sApiLeaf) sRun) .bool (m, s, s) (fun r6 => callP bs n_cover_Possible (.pair (.slice sApiLeaf) (.int .i64)) .bool (m, s) (fun r7 => (decide (r6 = r7)) = true))) (false = true))) (false = true)))) (false = true) := by
    refine cond_yes rfl (callP_of (ok_HasP fm) fun r5 h5 => cond_not (fun _ => C) fun q => cond_yes ?_ C)
    have hp := h5.1 q
    have hb := has_in hp
    exact h3.2 ⟨hb.2.1, _, hp, Int.le_refl _, Int.le_refl _⟩
  refine cond_bool (fun q3 => cond_dec (fun q4 => cond_dec (fun q5 => cond_dec (fun q6 => callP_of (ok_narrow_Inside fm) fun r4 h4 => cond_no ?_ tail) fun _ => tail) fun _ => tail) fun _ => tail) fun _ => tail
  have : r4 = true := h4.2 (by
    obtain ⟨_, q, hq, k1, k2⟩ := h3.1 q3
    have q4 : p.1 ≤ s := q4
    have q5 : s ≤ t := q5
    have q6 : t ≤ p.2 := q6
    exact ⟨q5, q, hq, by dsimp only at k1 ⊢; omega, by dsimp only at k2 ⊢; omega⟩)
  rw [this]; rfl

theorem out_few {l : List Leaf} {n : Nat} (hg : ∀ g ∈ l, Good 400 g) (hl : l.length ≤ 1000000) (hn : 400 ≤ n) : FewL n l := ⟨hl, fun g h => ⟨Nat.le_trans (hg g h).2.2.2.1 hn, Nat.le_trans (hg g h).2.2.2.2.1 hn⟩⟩
theorem nil_few (n : Nat) : FewL n [] := ⟨by decide, fun g h => by cases h⟩

theorem ok_NarrowHas (a : List Leaf × List Leaf × (Int × Int)) (hl : a.1.length ≤ 9223372036854775807) (hm : a.2.1.length ≤ 9223372036854775807) : FnE bs n_lustrumlaw22_NarrowHas ((Shape.pair (.slice sApiLeaf) (.pair (.slice sApiLeaf) sRun)).compsE a) .bool (· = true) := by
  obtain ⟨l, m, p⟩ := a
  refine ok_of (e_lustrumlaw22_NarrowHas (l, m, p) _) rfl ?_
  unfold c_lustrumlaw22_NarrowHas
  refine callP_eq ok_lustrumlaw22_awake (callP_of (ok_lustrumlaw22_few hl) fun r hr => cond_not (fun _ => rfl) fun h => callP_of (ok_lustrumlaw22_few hm) fun r' hr' => cond_not (fun _ => rfl) fun h' => ?_)
  obtain ⟨nl, fl⟩ := hr h
  replace nl : l.length ≤ 6 := nl
  replace fl : FewL 40 l := fl
  obtain ⟨nm, fm⟩ := hr' h'
  replace nm : m.length ≤ 6 := nm
  replace fm : FewL 40 m := fm
  refine callP_of (ok_narrow_Narrow (l := l) (m := m) (fl.mono (by decide)) (fm.mono (by decide)) (by omega) (few_prod (l := l) (m := m) nl (by omega))) fun r4 h4 => ?_
  obtain ⟨_, e⟩ | ⟨_, out, og, ol, oh, hc⟩ := nar_cases (l := l) (m := m) h4
  · have e : r4 = ([], 8) := e
    subst e
    exact cond_yes rfl (cond_yes rfl (cond_yes rfl (cond_yes rfl rfl)))
  · have hol : out.length ≤ 1000000 := by
      have := Nat.mul_le_mul nl (show 800 * m.length + 60 ≤ 4860 by omega)
      omega
    obtain ⟨e, hno⟩ | ⟨e, _, _⟩ | ⟨e, _, hne, _⟩ := hc
    · have e : r4 = ([], 9) := e
      subst e
      refine cond_yes rfl (cond_yes rfl (cond_yes rfl (cond_no rfl (cond_yes rfl (callP_of (ok_HasP (few1000 fl)) fun r5 h5 => cond_bool (fun q => callP_of (ok_narrow_Inside (few1000 fm)) fun r6 h6 => ?_) fun _ => rfl)))))
      have : r6 = false := false_of h6 fun hi => hno p ((oh p).2 ⟨h5.1 q, hi⟩)
      rw [this]; rfl
    · have e : r4 = ([], 8) := e
      subst e
      exact cond_yes rfl (cond_yes rfl (cond_yes rfl (cond_yes rfl rfl)))
    · have e : r4 = (out, 0) := e
      subst e
      have hpos := List.length_pos_iff.2 hne
      refine cond_no rfl ?_
      refine each_n (xs := out) (fun _ => True) (by omega) trivial (fun k g back hg hgm _ next => ?_) (fun _ => ?_)
      · have hgd := og g hgm
        have ht := good_told hgd (Nat.le_refl _)
        have hla := hgd.2.2.2.1
        have hlb := hgd.2.2.2.2.1
        have hk := (List.getElem?_eq_some_iff.1 hg).1
        have rk : (0 : Int) ≤ (k : Int) ∧ (k : Int) < (out.length : Int) := by omega
        dsimp only
        rw [Int.toNat_natCast, rd_of (s := sApiLeaf) hg]
        refine callP_eq (ok_leaf_Starts (f := g) (by omega) (by omega)) ⟨rk, callP_eq (ok_leaf_Ends (f := g) (by omega) (by omega)) ⟨rk, callP_eq (ok_leaf_Sane (f := g) (by omega) (by omega)) ?_⟩⟩
        refine cond_no (by rw [decide_eq_true hgd.1]; rfl) ⟨rk, callP_eq (ok_leaf_Empty (f := g) (by omega) (by omega)) ?_⟩
        have hne : (ofF g).isNone = false := by
          cases ho : ofF g with
          | none => exact absurd ho hgd.2.1
          | some x => rfl
        rw [hne, ht.1, ht.2]
        exact cond_no rfl (cond_no rfl (cond_no rfl (next trivial)))
      · refine cond_yes rfl (cond_yes (decide_eq_true (show (0 : Int) < (out.length : Int) by omega)) (callP_of (ok_HasP (out_few og hol (by decide))) fun r13 h13 => callP_of (ok_HasP (few1000 fl)) fun r14 h14 => cond_bool (fun q => callP_of (ok_narrow_Inside (few1000 fm)) fun r15 h15 => ?_) fun q => ?_))
        · exact beq_of h13 h15 ((oh p).trans ⟨fun x => x.2, fun x => ⟨h14.1 q, x⟩⟩)
        · have : r13 = false := false_of h13 fun hi => by
            have := h14.2 ((oh p).1 hi).1
            rw [q] at this; cases this
          rw [this]; rfl

theorem all_inside {l : List Leaf} {p : Int × Int} (h : hasP l p) : insideP (exS 0 3652424) p := by
  have hb := has_in h
  exact ⟨hb.2.1, (0, 3652424), (exS_has (by decide) (by decide) (by decide)).2 rfl, hb.1, hb.2.2⟩
theorem self_inside {l : List Leaf} {p : Int × Int} (h : hasP l p) : insideP l p := ⟨(has_in h).2.1, p, h, Int.le_refl _, Int.le_refl _⟩

theorem none_iff {l : List Leaf} : (∀ f ∈ l, ofF f = none) ↔ ∀ p, ¬ hasP l p := by
  constructor
  · rintro h p ⟨f, hf, hp⟩
    unfold HasF at hp
    rw [h f hf] at hp
    exact hp
  · intro h f hf
    cases ho : ofF f with
    | none => rfl
    | some x =>
      have : famPairs (ofF f) ≠ [] := fun e => by rw [fam_some.1 e] at ho; cases ho
      obtain ⟨p, hp⟩ := List.exists_mem_of_ne_nil _ this
      exact absurd ⟨f, hf, has_fam.2 hp⟩ (h p)

theorem ok_NarrowFree (a : List Leaf × (Int × Int)) (hl : a.1.length ≤ 9223372036854775807) : FnE bs n_lustrumlaw22_NarrowFree ((Shape.pair (.slice sApiLeaf) sRun).compsE a) .bool (· = true) := by
  obtain ⟨l, p⟩ := a
  refine ok_of (e_lustrumlaw22_NarrowFree (l, p) _) rfl ?_
  unfold c_lustrumlaw22_NarrowFree
  refine callP_eq ok_lustrumlaw22_awake (callP_of (ok_lustrumlaw22_few hl) fun r hr => cond_not (fun _ => rfl) fun h => ?_)
  obtain ⟨nl, fl⟩ := hr h
  replace nl : l.length ≤ 6 := nl
  replace fl : FewL 40 l := fl
  refine callP_of (ok_narrow_Narrow (m := exS 0 3652424) (fl.mono (by decide)) (exS_few (by decide)) (by decide) (few_prod nl (by decide))) fun r3 h3 => ?_
  obtain ⟨_, e⟩ | ⟨_, out, og, ol, oh, hc⟩ := nar_cases (l := l) (m := exS 0 3652424) h3
  · have e : r3 = ([], 8) := e
    subst e
    exact cond_yes rfl (cond_yes rfl rfl)
  · have hol : out.length ≤ 1000000 := by
      have e1 : (exS 0 3652424).length = 1 := rfl
      rw [e1] at ol
      omega
    have hiff : ∀ p, hasP out p ↔ hasP l p := fun p => (oh p).trans ⟨fun x => x.1, fun x => ⟨x, all_inside x⟩⟩
    have fin : r3.2 ≠ 8 → (r3.2 = 9 ↔ ∀ p, ¬ hasP out p) → FewL 1000 r3.1 → (∀ p, hasP r3.1 p ↔ hasP out p) → loopP (S := Bool × Int) (fun z4 back5 => (cond (decide (z4.2 < (l.length : Int))) (cond z4.1 (chk ((0 : Int) ≤ z4.2 ∧ z4.2 < (l.length : Int)) (callP bs n_leaf_Empty sApiLeaf .bool ((rd sApiLeaf l z4.2.toNat).1, ((rd sApiLeaf l z4.2.toNat).2).1, (((rd sApiLeaf l z4.2.toNat).2).2).1, (((rd sApiLeaf l z4.2.toNat).2).2).2) (fun r6 => (back5 (r6, (w64 (z4.2 + (1 : Int)))))))) (back5 (false, (w64 (z4.2 + (1 : Int))))))
        (cond true (cond (decide ((decide (r3.2 = (9 : Int))) = z4.1)) (callP bs n_denote_Has (.pair (.slice sApiLeaf) sRun) .bool (r3.1, p.1, p.2) (fun r7 => (callP bs n_denote_Has (.pair (.slice sApiLeaf) sRun) .bool (l, p.1, p.2) (fun r8 => ((decide (r7 = r8)) = true))))) (false = true)) (false = true)))) (true, (0 : Int)) := fun n8 h9 hf hh => by
      refine loopP_of (fun z : Bool × Int => ∃ k : Nat, z.2 = k ∧ k ≤ l.length ∧ (z.1 = true ↔ ∀ f ∈ l.take k, ofF f = none)) (fun z => l.length - z.2.toNat) ?_ ⟨0, rfl, Nat.zero_le _, by simp⟩
      rintro ⟨b, _⟩ A ⟨k, e1, hk, hb⟩ back
      dsimp only at e1 hb ⊢
      subst e1
      refine cond_dec (fun h1 => ?_) fun h1 => ?_
      · have h1 : (k : Int) < l.length := h1
        have hk' : k < l.length := by omega
        have hg := List.getElem?_eq_getElem hk'
        have hf := fl.2 l[k] (List.getElem_mem hk')
        generalize l[k] = f at hg hf
        have ht : l.take (k + 1) = l.take k ++ [f] := by rw [List.take_add_one, hg]; rfl
        rw [w_succ (by omega)]
        refine cond_bool (fun q => ⟨by omega, ?_⟩) fun q => ?_
        · rw [Int.toNat_natCast, rd_of (s := sApiLeaf) hg]
          refine callP_eq (ok_leaf_Empty (f := f) (by omega) (by omega)) (back (_, ((k + 1 : Nat) : Int)) ⟨k + 1, rfl, hk', ?_⟩ (by dsimp only; omega))
          dsimp only
          rw [ht, Option.isNone_iff_eq_none]
          constructor
          · intro e g hg
            rcases List.mem_append.1 hg with hg | hg
            · exact hb.1 q g hg
            · cases List.mem_singleton.1 hg; exact e
          · intro e; exact e f (List.mem_append_right _ (List.mem_singleton.2 rfl))
        · refine back (_, ((k + 1 : Nat) : Int)) ⟨k + 1, rfl, hk', ?_⟩ (by dsimp only; omega)
          dsimp only
          rw [ht]
          refine ⟨fun x => (by cases x), fun e => ?_⟩
          have := hb.2 fun g hg => e g (List.mem_append_left _ hg)
          rw [q] at this; cases this
      · have hkl : k = l.length := by have h1 : ¬ (k : Int) < l.length := h1; omega
        subst hkl
        rw [List.take_length, none_iff] at hb
        refine cond_yes rfl (cond_yes ?_ (callP_of (ok_HasP hf) fun r7 h7 => callP_of (ok_HasP (few1000 fl)) fun r8 h8 => beq_of h7 h8 ((hh _).trans (hiff _))))
        refine beq_of decide_eq_true_iff hb (h9.trans (forall_congr' fun p => not_congr (hiff p)))
    obtain ⟨e, hno⟩ | ⟨e, _, _⟩ | ⟨e, ⟨p0, hp0⟩, hne, _⟩ := hc
    · have e : r3 = ([], 9) := e
      subst e
      exact cond_no rfl (fin (by decide) ⟨fun _ => hno, fun _ => rfl⟩ (nil_few _) fun p => ⟨fun h => absurd h hasP_nil, fun h => absurd h (hno p)⟩)
    · have e : r3 = ([], 8) := e
      subst e
      exact cond_yes rfl (cond_yes rfl rfl)
    · have e : r3 = (out, 0) := e
      subst e
      exact cond_no rfl (fin (show ¬ (0 : Int) = 8 by decide) ⟨fun h => absurd (show (0 : Int) = 9 from h) (by decide), fun h => absurd hp0 (h p0)⟩ (out_few og hol (by decide)) fun p => Iff.rfl)
end Go.Proofs.YtdlgenbfnahmeaaGreatDoor.V


/- Layer 22's laws NarrowOnce, NarrowMore, NarrowAll. No condition of its own. -/
namespace Go.Proofs.YtdlgenbfnahmeaaGreatDoor.V
open Go
set_option linter.unusedVariables false
set_option linter.unusedSimpArgs false
set_option linter.unusedSectionVars false

open Classical in
theorem ok_HasP2 {l : List Leaf} {p : Int × Int} (hn : l.length ≤ 1000000000) (hl : ∀ f ∈ l, f.2.2.1.length ≤ 1000 ∧ f.2.2.2.length ≤ 1000) : FnE bs n_denote_Has ((Shape.pair (.slice sApiLeaf) sRun).compsE (l, p)) .bool (fun r => r = true ↔ hasP l p) := by
  refine ok_of (e_denote_Has (l, p) _) rfl ?_
  unfold c_denote_Has
  refine each_n (xs := l) (fun pre => ∀ f ∈ pre, ¬ HasF f p) (by omega) (fun f hf => by cases hf) (fun k f back hk hf hi next => ?_) (fun hi => ⟨fun h => (by cases h), fun ⟨f, hf, hp⟩ => absurd hp (hi f hf)⟩)
  have hff := hl f hf
  dsimp only
  rw [Int.toNat_natCast, rd_of (s := sApiLeaf) hk]
  refine callP_eq (ok_leaf_Has (f := f) (by omega) (by omega)) (cond_dec (fun h => ⟨fun _ => ⟨f, hf, h⟩, fun _ => rfl⟩) fun h => next fun g hg => ?_)
  rcases List.mem_append.1 hg with hg | hg
  · exact hi g hg
  · cases List.mem_singleton.1 hg; exact h

theorem ok_NarrowOnce (a : List Leaf × List Leaf × (Int × Int)) (hl : a.1.length ≤ 9223372036854775807) (hm : a.2.1.length ≤ 9223372036854775807) : FnE bs n_lustrumlaw22_NarrowOnce ((Shape.pair (.slice sApiLeaf) (.pair (.slice sApiLeaf) sRun)).compsE a) .bool (· = true) := by
  obtain ⟨l, m, p⟩ := a
  refine ok_of (e_lustrumlaw22_NarrowOnce (l, m, p) _) rfl ?_
  unfold c_lustrumlaw22_NarrowOnce
  refine callP_eq ok_lustrumlaw22_awake (callP_of (ok_lustrumlaw22_few hl) fun r hr => cond_not (fun _ => rfl) fun h => callP_of (ok_lustrumlaw22_few hm) fun r' hr' => cond_not (fun _ => rfl) fun h' => ?_)
  obtain ⟨nl, fl⟩ := hr h
  replace nl : l.length ≤ 6 := nl
  replace fl : FewL 40 l := fl
  obtain ⟨nm, fm⟩ := hr' h'
  replace nm : m.length ≤ 6 := nm
  replace fm : FewL 40 m := fm
  have hpr := few_prod (l := l) (m := m) nl (by omega)
  refine callP_of (ok_narrow_Narrow (l := l) (m := m) (fl.mono (by decide)) (fm.mono (by decide)) (by omega) hpr) fun r4 h4 => ?_
  have hk : l.length * (800 * m.length + 60) ≤ 29160 := Nat.le_trans (Nat.mul_le_mul nl (show 800 * m.length + 60 ≤ 4860 by omega)) (by decide)
  have c4 := nar_cases (l := l) (m := m) h4
  have hx : FewL 400 r4.1 ∧ r4.1.length ≤ 29160 := by
    obtain ⟨_, e⟩ | ⟨_, out, og, ol, oh, ⟨e, _⟩ | ⟨e, _⟩ | ⟨e, _⟩⟩ := c4
    · rw [e]; exact ⟨nil_few _, by decide⟩
    · rw [e]; exact ⟨nil_few _, by decide⟩
    · rw [e]; exact ⟨nil_few _, by decide⟩
    · rw [e]; exact ⟨show FewL 400 out from out_few og (by omega) (by decide), show out.length ≤ 29160 by omega⟩
  have hp3 : r4.1.length * (800 * m.length + 60) ≤ 29160 * 4860 := Nat.mul_le_mul hx.2 (show 800 * m.length + 60 ≤ 4860 by omega)
  refine callP_of (ok_narrow_Narrow (l := r4.1) (m := m) hx.1 (fm.mono (by decide)) (by omega) (by omega)) fun r5 h5 => callP_of (ok_narrow_Narrow (l := l) (m := l) (fl.mono (by decide)) (fl.mono (by decide)) (by omega) (few_prod (l := l) (m := l) nl (by omega))) fun r6 h6 => ?_
  have hkl : l.length * (800 * l.length + 60) ≤ 29160 := Nat.le_trans (Nat.mul_le_mul nl (show 800 * l.length + 60 ≤ 4860 by omega)) (by decide)
  have c6 := nar_cases (l := l) (m := l) h6
  have z6 : r6.2 = 0 → FewL 1000 r6.1 ∧ ∀ p, hasP r6.1 p ↔ hasP l p := fun e0 => by
    obtain ⟨_, e⟩ | ⟨_, out, og, ol, oh, ⟨e, _⟩ | ⟨e, _⟩ | ⟨e, _⟩⟩ := c6
    · rw [e] at e0; cases e0
    · rw [e] at e0; cases e0
    · rw [e] at e0; cases e0
    · rw [e]
      exact ⟨show FewL 1000 out from out_few og (by omega) (by decide), fun p => (oh p).trans ⟨fun x => x.1, fun x => ⟨x, self_inside x⟩⟩⟩
  have last : r6.2 = 0 → callP bs n_denote_Has (.pair (.slice sApiLeaf) sRun) .bool (r6.1, p.1, p.2) (fun r7 => callP bs n_denote_Has (.pair (.slice sApiLeaf) sRun) .bool (l, p.1, p.2) (fun r8 => (decide (r7 = r8)) = true)) := fun e0 =>
    callP_of (ok_HasP (z6 e0).1) fun r7 h7 => callP_of (ok_HasP (few1000 fl)) fun r8 h8 => beq_of h7 h8 ((z6 e0).2 _)
  refine cond_not (fun q => cond_yes rfl (cond_not (fun _ => rfl) fun q2 => last (of_decide_eq_true q2))) fun q => cond_yes rfl ?_
  have q : r4.2 = 0 := of_decide_eq_true q
  obtain ⟨_, e⟩ | ⟨hw, out, og, ol, oh, ⟨e, _⟩ | ⟨e, _⟩ | ⟨e, ⟨p0, hp0⟩, hne, hs, he⟩⟩ := c4
  · rw [e] at q; cases q
  · rw [e] at q; cases q
  · rw [e] at q; cases q
  have e : r4 = (out, 0) := e
  subst e
  simp only [Bool.or_eq_false_iff] at hw
  obtain ⟨hw5, _⟩ | ⟨_, o5, og5, ol5, oh5, c5⟩ := nar_cases (m := m) h5
  · rw [good_wide og, hw.2] at hw5; cases hw5
  have same : ∀ p, hasP o5 p ↔ hasP out p := fun p => (oh5 p).trans ⟨fun x => x.1, fun x => ⟨x, ((oh p).1 x).2⟩⟩
  have hcg := st_congr og5 og same
  obtain ⟨e5, hno⟩ | ⟨e5, _, hbig⟩ | ⟨e5, _⟩ := c5
  · exact absurd ((same p0).2 hp0) (hno p0)
  · rw [hcg.1, hcg.2] at hbig; omega
  have e5 : r5 = (o5, 0) := e5
  subst e5
  have hl5 : o5.length ≤ 1000000000 := by
    have hp3 : out.length * (800 * m.length + 60) ≤ 29160 * 4860 := hp3
    omega
  have g6 : r6.2 = 8 ∨ r6.2 = 0 := by
    obtain ⟨_, e⟩ | ⟨_, o6, og6, ol6, oh6, ⟨e, hno⟩ | ⟨e, _⟩ | ⟨e, _⟩⟩ := c6
    · rw [e]; exact .inl rfl
    · have := ((oh p0).1 hp0).1
      exact absurd ((oh6 p0).2 ⟨this, self_inside this⟩) (hno p0)
    · rw [e]; exact .inl rfl
    · rw [e]; exact .inr rfl
  refine cond_yes rfl (callP_of (ok_HasP2 hl5 fun f hf => ⟨Nat.le_trans (og5 f hf).2.2.2.1 (by decide), Nat.le_trans (og5 f hf).2.2.2.2.1 (by decide)⟩) fun r9 h9 => callP_of (ok_HasP (out_few og (by omega) (by decide))) fun r10 h10 => cond_yes (beq_of h9 h10 (same _)) (cond_dec (fun _ => rfl) fun q8 => ?_))
  have q0 : r6.2 = 0 := g6.resolve_left q8
  exact cond_yes (decide_eq_true q0) (last q0)

theorem inside_app {m k : List Leaf} {p : Int × Int} : insideP (m ++ k) p ↔ insideP m p ∨ insideP k p := by
  unfold insideP
  constructor
  · rintro ⟨h, q, hq, h2⟩
    rcases hasP_app.1 hq with hq | hq
    · exact .inl ⟨h, q, hq, h2⟩
    · exact .inr ⟨h, q, hq, h2⟩
  · rintro (⟨h, q, hq, h2⟩ | ⟨h, q, hq, h2⟩)
    · exact ⟨h, q, hasP_app.2 (.inl hq), h2⟩
    · exact ⟨h, q, hasP_app.2 (.inr hq), h2⟩

/-- What is so of an answer that is not 'too wide'. -/
theorem nar_plain {l m : List Leaf} {r : List Leaf × Int} {N : Nat} (h : NarR l m r) (hN : l.length * (800 * m.length + 60) ≤ N) (hN2 : N ≤ 1000000) (h8 : r.2 ≠ 8) : FewL 1000 r.1 ∧ (∀ p, hasP r.1 p ↔ hasP l p ∧ insideP m p) ∧ (r.2 = 9 ↔ ∀ p, ¬ (hasP l p ∧ insideP m p)) ∧ (r.2 = 0 ↔ ∃ p, hasP l p ∧ insideP m p) := by
  obtain ⟨_, e⟩ | ⟨_, out, og, ol, oh, hc⟩ := nar_cases h
  · rw [e] at h8; exact absurd rfl h8
  · obtain ⟨e, hno⟩ | ⟨e, _⟩ | ⟨e, ⟨p0, hp0⟩, _⟩ := hc
    · rw [e]
      have hn : ∀ p, ¬ (hasP l p ∧ insideP m p) := fun p x => hno p ((oh p).2 x)
      exact ⟨nil_few _, fun p => ⟨fun x => absurd x hasP_nil, fun x => absurd x (hn p)⟩, ⟨fun _ => hn, fun _ => rfl⟩, ⟨fun x => absurd x (by decide), fun ⟨p, x⟩ => absurd x (hn p)⟩⟩
    · rw [e] at h8; exact absurd rfl h8
    · rw [e]
      exact ⟨show FewL 1000 out from out_few og (by omega) (by decide), oh, ⟨fun x => absurd (show (0 : Int) = 9 from x) (by decide), fun x => absurd ((oh p0).1 hp0) (x p0)⟩, ⟨fun _ => ⟨p0, (oh p0).1 hp0⟩, fun _ => rfl⟩⟩

theorem ok_NarrowMore (a : List Leaf × List Leaf × List Leaf × (Int × Int)) (hl : a.1.length ≤ 9223372036854775807) (hm : a.2.1.length ≤ 9223372036854775807) (hk : a.2.2.1.length ≤ 9223372036854775807) : FnE bs n_lustrumlaw22_NarrowMore ((Shape.pair (.slice sApiLeaf) (.pair (.slice sApiLeaf) (.pair (.slice sApiLeaf) sRun))).compsE a) .bool (· = true) := by
  obtain ⟨l, m, k, p⟩ := a
  refine ok_of (e_lustrumlaw22_NarrowMore (l, m, k, p) _) rfl ?_
  unfold c_lustrumlaw22_NarrowMore
  refine callP_eq ok_lustrumlaw22_awake (callP_of (ok_lustrumlaw22_few hl) fun r hr => cond_not (fun _ => rfl) fun h => callP_of (ok_lustrumlaw22_few hm) fun r' hr' => cond_not (fun _ => rfl) fun h' => callP_of (ok_lustrumlaw22_few hk) fun r'' hr'' => cond_not (fun _ => rfl) fun h'' => ?_)
  obtain ⟨nl, fl⟩ := hr h
  replace nl : l.length ≤ 6 := nl
  replace fl : FewL 40 l := fl
  obtain ⟨nm, fm⟩ := hr' h'
  replace nm : m.length ≤ 6 := nm
  replace fm : FewL 40 m := fm
  obtain ⟨nk, fk⟩ := hr'' h''
  replace nk : k.length ≤ 6 := nk
  replace fk : FewL 40 k := fk
  have fb : FewL 1000 ([] ++ m ++ k) := ⟨by rw [List.nil_append, List.length_append]; omega, fun f hf => by
    rw [List.nil_append] at hf
    rcases List.mem_append.1 hf with hf | hf
    · have := fm.2 f hf; omega
    · have := fk.2 f hf; omega⟩
  have nb : ([] ++ m ++ k).length ≤ 12 := by rw [List.nil_append, List.length_append]; omega
  have hp : ∀ x : List Leaf, x.length ≤ 12 → l.length * (800 * x.length + 60) ≤ 57960 := fun x hx => Nat.le_trans (Nat.mul_le_mul nl (show 800 * x.length + 60 ≤ 9660 by omega)) (by decide)
  refine ⟨by simp only [List.length_nil]; omega, by simp only [List.nil_append]; omega, ?_⟩
  refine callP_of (ok_narrow_Narrow (l := l) (m := m) (fl.mono (by decide)) (fm.mono (by decide)) (by omega) (few_prod (l := l) (m := m) nl (by omega))) fun r5 h5 => callP_of (ok_narrow_Narrow (l := l) (m := k) (fl.mono (by decide)) (fk.mono (by decide)) (by omega) (few_prod (l := l) (m := k) nl (by omega))) fun r6 h6 => callP_of (ok_narrow_Narrow (l := l) (m := [] ++ m ++ k) (fl.mono (by decide)) fb nb (few_prod nl nb)) fun r7 h7 => ?_
  refine cond_dec (fun _ => rfl) fun n5 => cond_dec (fun _ => rfl) fun n6 => cond_dec (fun _ => rfl) fun n7 => cond_yes rfl ?_
  obtain ⟨f5, x5, y5, z5⟩ := nar_plain h5 (hp m (by omega)) (by decide) n5
  obtain ⟨f6, x6, y6, z6⟩ := nar_plain h6 (hp k (by omega)) (by decide) n6
  obtain ⟨f7, x7, y7, z7⟩ := nar_plain h7 (hp _ nb) (by decide) n7
  have key : ∀ p, hasP r7.1 p ↔ hasP r5.1 p ∨ hasP r6.1 p := fun p => by
    rw [x7, x5, x6, List.nil_append, inside_app]
    constructor
    · rintro ⟨h1, h2 | h2⟩
      · exact .inl ⟨h1, h2⟩
      · exact .inr ⟨h1, h2⟩
    · rintro (⟨h1, h2⟩ | ⟨h1, h2⟩)
      · exact ⟨h1, .inl h2⟩
      · exact ⟨h1, .inr h2⟩
  have nine : r7.2 = 9 ↔ r5.2 = 9 ∧ r6.2 = 9 := by
    rw [y7, y5, y6]
    constructor
    · intro h
      exact ⟨fun p x => h p ⟨x.1, by rw [List.nil_append]; exact inside_app.2 (.inl x.2)⟩, fun p x => h p ⟨x.1, by rw [List.nil_append]; exact inside_app.2 (.inr x.2)⟩⟩
    · rintro ⟨h1, h2⟩ p ⟨x, y⟩
      rw [List.nil_append] at y
      rcases inside_app.1 y with y | y
      · exact h1 p ⟨x, y⟩
      · exact h2 p ⟨x, y⟩
  have tail : cond (decide (r5.2 = (9 : Int))) ((decide ((decide (r7.2 = (9 : Int))) = (decide (r6.2 = (9 : Int))))) = true) ((decide ((decide (r7.2 = (9 : Int))) = false)) = true) := by
    refine cond_dec (fun q => ?_) fun q => ?_
    · exact beq_of decide_eq_true_iff decide_eq_true_iff (nine.trans ⟨fun x => x.2, fun x => ⟨q, x⟩⟩)
    · rw [decide_eq_false (fun x => q (nine.1 x).1)]
      rfl
  refine callP_of (ok_HasP f7) fun r8 h8 => callP_of (ok_HasP f5) fun r9 h9 => cond_bool (fun q => cond_yes ?_ tail) fun q => callP_of (ok_HasP f6) fun r10 h10 => cond_yes ?_ tail
  · exact decide_eq_true (h8.2 ((key _).2 (.inl (h9.1 q))))
  · refine beq_of h8 h10 ((key _).trans ⟨fun x => x.elim (fun x => ?_) id, .inr⟩)
    rw [h9.2 x] at q; cases q

theorem ok_lustrumlaw22_pairs {l : List Leaf} (hl : FewL 1000 l) (hn : l.length ≤ 6) : FnE bs n_lustrumlaw22_pairs ((Shape.slice sApiLeaf).compsE l) (.tup (.pair (.slice sRun) .bool)) (fun r => r.2 = true → (r.1 = pairsL l ∧ wideB l = false ∧ (pairsL l).length ≤ 1200)) := by
  refine ok_of (e_lustrumlaw22_pairs l _) rfl ?_
  unfold c_lustrumlaw22_pairs
  refine loopP_of (fun z : Unit × Int × List Pr => ∃ k : Nat, z.2.1 = k ∧ k ≤ l.length ∧ z.2.2 = pairsL (l.take k) ∧ wideB (l.take k) = false ∧ z.2.2.length ≤ k * 200) (fun z => l.length - z.2.1.toNat) ?_ ⟨0, rfl, Nat.zero_le _, rfl, rfl, Nat.zero_le _⟩
  rintro ⟨_, _, acc⟩ A ⟨k, e1, hk, e2, hw, hlen⟩ back
  dsimp only at e1 e2 hlen ⊢
  subst e1
  subst e2
  refine cond_dec (fun h1 => ⟨⟨by omega, h1⟩, ?_⟩) fun h1 => ?_
  · have h1 : (k : Int) < l.length := h1
    have hk' : k < l.length := by omega
    have hg := List.getElem?_eq_getElem hk'
    have hf := hl.2 l[k] (List.getElem_mem hk')
    generalize l[k] = f at hg hf
    have ht : l.take (k + 1) = l.take k ++ [f] := by rw [List.take_add_one, hg]; rfl
    rw [toNat_ofNat, rd_of (s := sApiLeaf) hg, w_succ (by omega)]
    refine callP_eq (ok_leaf_Pairs (f := f) (n := 201) (by omega) (by omega)) (cond_dec (fun h2 => fun q => by cases q) fun h2 => ?_)
    have h2 : ¬ (200 : Int) < ((pairsF f 201).length : Int) := h2
    have e : pairsF f 201 = (famPairs (ofF f)).take 201 := rfl
    have hfp : (famPairs (ofF f)).length ≤ 200 := by
      rw [e, List.length_take] at h2
      omega
    have e3 : pairsF f 201 = famPairs (ofF f) := by rw [e, List.take_of_length_le (by omega)]
    rw [e3]
    have hs := few_pairs hf.1 hf.2 hfp
    refine ⟨by omega, back ((), ((k + 1 : Nat) : Int), _) ⟨k + 1, rfl, hk', ?_, ?_, ?_⟩ (by dsimp only; omega)⟩
    · rw [ht]
      unfold pairsL
      rw [List.flatMap_append]
      simp
    · rw [ht, wide_app, hw]
      simp [wideB, hs.1, hs.2]
    · dsimp only
      rw [List.length_append]
      omega
  · have hkl : k = l.length := by have h1 : ¬ (k : Int) < l.length := h1; omega
    subst hkl
    rw [List.take_length] at hw hlen ⊢
    exact fun _ => ⟨rfl, hw, by omega⟩

theorem ok_NarrowAll (a : List Leaf × List Leaf) (hl : a.1.length ≤ 9223372036854775807) (hm : a.2.length ≤ 9223372036854775807) : FnE bs n_lustrumlaw22_NarrowAll ((Shape.pair (.slice sApiLeaf) (.slice sApiLeaf)).compsE a) .bool (· = true) := by
  obtain ⟨l, m⟩ := a
  refine ok_of (e_lustrumlaw22_NarrowAll (l, m) _) rfl ?_
  unfold c_lustrumlaw22_NarrowAll
  refine callP_eq ok_lustrumlaw22_awake (callP_of (ok_lustrumlaw22_few hl) fun r hr => cond_not (fun _ => rfl) fun h => callP_of (ok_lustrumlaw22_few hm) fun r' hr' => cond_not (fun _ => rfl) fun h' => ?_)
  obtain ⟨nl, fl⟩ := hr h
  replace nl : l.length ≤ 6 := nl
  replace fl : FewL 40 l := fl
  obtain ⟨nm, fm⟩ := hr' h'
  replace nm : m.length ≤ 6 := nm
  replace fm : FewL 40 m := fm
  refine callP_of (ok_lustrumlaw22_pairs (few1000 fl) nl) fun r4 h4 => callP_of (ok_lustrumlaw22_pairs (few1000 fm) nm) fun r5 h5 => cond_not (fun _ => rfl) fun q4 => cond_not (fun _ => rfl) fun q5 => ?_
  obtain ⟨e4, w4, n4⟩ := h4 q4
  obtain ⟨e5, w5, n5⟩ := h5 q5
  obtain ⟨ps, b4⟩ := r4
  obtain ⟨qs, b5⟩ := r5
  replace e4 : ps = pairsL l := e4
  replace e5 : qs = pairsL m := e5
  replace n4 : (pairsL l).length ≤ 1200 := n4
  replace n5 : (pairsL m).length ≤ 1200 := n5
  subst e4 e5
  have hpr := few_prod (l := l) (m := m) nl (by omega)
  refine callP_of (ok_narrow_Narrow (l := l) (m := m) (fl.mono (by decide)) (fm.mono (by decide)) (by omega) hpr) fun r6 h6 => ?_
  dsimp only
  have hp : l.length * (800 * m.length + 60) ≤ 29160 := Nat.le_trans (Nat.mul_le_mul nl (show 800 * m.length + 60 ≤ 4860 by omega)) (by decide)
  have plain := nar_plain h6 hp (by decide)
  have hin : ∀ p : Int × Int, p ∈ pairsL l → (insideP m p ↔ ∃ q ∈ pairsL m, q.1 ≤ p.1 ∧ p.2 ≤ q.2) := fun p hp => by
    have hb := has_in (any_has.1 (mem_pairsL.1 hp))
    unfold insideP
    constructor
    · rintro ⟨_, q, hq, h2⟩; exact ⟨q, mem_pairsL.2 (any_has.2 hq), h2⟩
    · rintro ⟨q, hq, h2⟩; exact ⟨hb.2.1, q, any_has.1 (mem_pairsL.1 hq), h2⟩
  generalize hps : pairsL l = ps at *
  generalize hqs : pairsL m = qs at *
  have hmp : ∀ p, p ∈ ps ↔ hasP l p := fun p => by rw [← hps]; exact mem_pairsL.trans any_has
  refine loopP_of (fun z : Bool × Int => ∃ k : Nat, z.2 = k ∧ k ≤ ps.length ∧ (z.1 = true ↔ ∃ p ∈ ps.take k, insideP m p)) (fun z => ps.length - z.2.toNat) ?_ ⟨0, rfl, Nat.zero_le _, by simp⟩
  rintro ⟨any, _⟩ A ⟨k, e1, hk, ha⟩ back
  dsimp only at e1 ha ⊢
  subst e1
  refine cond_dec (fun h1 => ?_) fun h1 => ?_
  · have h1 : (k : Int) < ps.length := h1
    have hk' : k < ps.length := by omega
    have hg := List.getElem?_eq_getElem hk'
    generalize ps[k] = p at hg
    have hpm := List.mem_of_getElem? hg
    have ht : ps.take (k + 1) = ps.take k ++ [p] := by rw [List.take_add_one, hg]; rfl
    have rk : (0 : Int) ≤ (k : Int) ∧ (k : Int) < (ps.length : Int) := by omega
    have hlp := (hmp p).1 hpm
    rw [Int.toNat_natCast, rd_of (s := sRun) hg, w_succ (by omega)]
    have nxt : ∀ b : Bool, (b = true ↔ any = true ∨ insideP m p) → A (b, ((k + 1 : Nat) : Int)) := fun b hb => by
      refine back (b, ((k + 1 : Nat) : Int)) ⟨k + 1, rfl, hk', ?_⟩ (by dsimp only; omega)
      dsimp only
      rw [ht, hb, ha]
      constructor
      · rintro (⟨q, hq, h⟩ | h)
        · exact ⟨q, List.mem_append_left _ hq, h⟩
        · exact ⟨p, List.mem_append_right _ (List.mem_singleton.2 rfl), h⟩
      · rintro ⟨q, hq, h⟩
        rcases List.mem_append.1 hq with hq | hq
        · exact .inl ⟨q, hq, h⟩
        · cases List.mem_singleton.1 hq; exact .inr h
    refine loopP_of (fun z : Bool × Int => ∃ j : Nat, z.2 = j ∧ j ≤ qs.length ∧ (z.1 = true ↔ ∃ q ∈ qs.take j, q.1 ≤ p.1 ∧ p.2 ≤ q.2)) (fun z => qs.length - z.2.toNat) ?_ ⟨0, rfl, Nat.zero_le _, by simp⟩
    rintro ⟨b, _⟩ A2 ⟨j, e2, hj, hb⟩ back2
    dsimp only at e2 hb ⊢
    subst e2
    refine cond_dec (fun h2 => ?_) fun h2 => ?_
    · have h2 : (j : Int) < qs.length := h2
      have hj' : j < qs.length := by omega
      have hg2 := List.getElem?_eq_getElem hj'
      generalize qs[j] = q at hg2
      have ht2 : qs.take (j + 1) = qs.take j ++ [q] := by rw [List.take_add_one, hg2]; rfl
      have rj : (0 : Int) ≤ (j : Int) ∧ (j : Int) < (qs.length : Int) := by omega
      rw [Int.toNat_natCast, rd_of (s := sRun) hg2, w_succ (by omega)]
      have nxt2 : ∀ c : Bool, (c = true ↔ b = true ∨ (q.1 ≤ p.1 ∧ p.2 ≤ q.2)) → A2 (c, ((j + 1 : Nat) : Int)) := fun c hc => by
        refine back2 (c, ((j + 1 : Nat) : Int)) ⟨j + 1, rfl, hj', ?_⟩ (by dsimp only; omega)
        dsimp only
        rw [ht2, hc, hb]
        constructor
        · rintro (⟨x, hx, h⟩ | h)
          · exact ⟨x, List.mem_append_left _ hx, h⟩
          · exact ⟨q, List.mem_append_right _ (List.mem_singleton.2 rfl), h⟩
        · rintro ⟨x, hx, h⟩
          rcases List.mem_append.1 hx with hx | hx
          · exact .inl ⟨x, hx, h⟩
          · cases List.mem_singleton.1 hx; exact .inr h
      refine cond_bool (fun hbt => nxt2 true ⟨fun _ => .inl hbt, fun _ => rfl⟩) fun hbf => ⟨rj, rk, cond_dec (fun h3 => ⟨rk, rj, nxt2 _ ?_⟩) fun h3 => nxt2 _ ?_⟩
      · have h3 : q.1 ≤ p.1 := h3
        rw [decide_eq_true_iff, hbf]
        exact ⟨fun h => .inr ⟨h3, h⟩, fun h => h.elim (fun h => by cases h) fun h => h.2⟩
      · have h3 : ¬ q.1 ≤ p.1 := h3
        rw [hbf]
        exact ⟨fun h => (by cases h), fun h => h.elim (fun h => h) fun h => absurd h.1 h3⟩
    · have hjl : j = qs.length := by have h2 : ¬ (j : Int) < qs.length := h2; omega
      subst hjl
      rw [List.take_length] at hb
      have hbi : b = true ↔ insideP m p := hb.trans (hin p hpm).symm
      have step : ∀ c : Bool, (c = true ↔ any = true ∨ insideP m p) → chk ((0 : Int) ≤ (k : Int) ∧ (k : Int) < (ps.length : Int)) (callP bs n_narrow_Inside (.pair (.slice sApiLeaf) sRun) .bool (m, p.1, p.2) (fun r11 => (cond (!(decide (r11 = b))) (false = true) (cond (decide (r6.2 = (0 : Int))) (chk ((0 : Int) ≤ (k : Int) ∧ (k : Int) < (ps.length : Int)) (callP bs n_denote_Has (.pair (.slice sApiLeaf) sRun) .bool (r6.1, p.1, p.2) (fun r12 => (cond (!(decide (r12 = b))) (false = true) (A (c, ((k + 1 : Nat) : Int))))))) (A (c, ((k + 1 : Nat) : Int))))))) := fun c hc => by
        refine ⟨rk, callP_of (ok_narrow_Inside (m := m) (p := p) (few1000 fm)) fun r11 h11 => cond_no ?_ (cond_dec (fun h0 => ⟨rk, ?_⟩) fun h0 => nxt c hc)⟩
        · rw [beq_of h11 hbi Iff.rfl]; rfl
        · have h0 : r6.2 = 0 := h0
          obtain ⟨f6, x6, _, _⟩ := plain (by rw [h0]; decide)
          refine callP_of (ok_HasP (p := p) f6) fun r12 h12 => cond_no ?_ (nxt c hc)
          rw [beq_of h12 hbi ((x6 p).trans ⟨fun x => x.2, fun x => ⟨hlp, x⟩⟩)]; rfl
      refine cond_bool (fun hat => step true ⟨fun _ => .inl hat, fun _ => rfl⟩) fun haf => step b ?_
      rw [hbi, haf]
      exact ⟨.inr, fun h => h.elim (fun h => by cases h) id⟩
  · have hkl : k = ps.length := by have h1 : ¬ (k : Int) < ps.length := h1; omega
    subst hkl
    rw [List.take_length] at ha
    have hE : any = true ↔ ∃ p, hasP l p ∧ insideP m p := ha.trans ⟨fun ⟨p, h1, h2⟩ => ⟨p, (hmp p).1 h1, h2⟩, fun ⟨p, h1, h2⟩ => ⟨p, (hmp p).2 h1, h2⟩⟩
    refine cond_dec (fun h8 => cond_yes rfl ?_) fun h8 => cond_yes rfl ?_
    · have h8 : r6.2 = 8 := h8
      obtain ⟨hw, _⟩ | ⟨_, out, og, ol, oh, ⟨e, _⟩ | ⟨e, ⟨p0, hp0⟩, _⟩ | ⟨e, _⟩⟩ := nar_cases (l := l) (m := m) h6
      · have w4 : wideB l = false := w4
        have w5 : wideB m = false := w5
        rw [w4, w5] at hw; cases hw
      · rw [e] at h8; cases h8
      · rw [e]
        exact cond_yes (hE.2 ⟨p0, (oh p0).1 hp0⟩) rfl
      · rw [e] at h8; cases h8
    · obtain ⟨f6, x6, y6, z6⟩ := plain h8
      have n9 : decide (r6.2 = 9) = !any := by
        rw [Bool.eq_iff_iff, decide_eq_true_iff, y6, Bool.not_eq_true', ← Bool.not_eq_true, hE, not_exists]
      exact cond_yes (decide_eq_true n9) (beq_of decide_eq_true_iff hE z6)
end Go.Proofs.YtdlgenbfnahmeaaGreatDoor.V


/- Layer 22: the document's answer. No condition of its own. -/
namespace Go.Proofs.YtdlgenbfnahmeaaGreatDoor.V
open Go
set_option linter.unusedVariables false
set_option linter.unusedSimpArgs false
set_option linter.unusedSectionVars false

/-- A loop from one number to another, its bound told anew in each round. -/
theorem upto_c {T : Type} {C : Prop} (hC : C) {lo hi : Int} {G : Unit × Int × T → (Unit × Int × T → Prop) → Prop} {E : Unit × Int × T → Prop} {t0 : T} (I : List Int → T → Prop) (hlo : -4611686018427387904 ≤ lo) (hhi : hi ≤ 4611686018427387904) (h0 : I [] t0)
    (hstep : ∀ (i : Int) (t : T) (back : Unit × Int × T → Prop), lo ≤ i → i ≤ hi → I (upTo lo (i - 1)) t → (∀ t', I (upTo lo (i - 1) ++ [i]) t' → back ((), w64 (i + 1), t')) → G ((), i, t) back)
    (hend : ∀ j t, I (upTo lo hi) t → E ((), j, t)) :
    loopP (fun z back => chk C (cond (decide (z.2.1 ≤ hi)) (G z back) (E z))) ((), lo, t0) := by
  refine loopP_of (fun z : Unit × Int × T => lo ≤ z.2.1 ∧ (z.2.1 = lo ∨ z.2.1 ≤ hi + 1) ∧ I (upTo lo (z.2.1 - 1)) z.2.2) (fun z => (hi + 1 - z.2.1).toNat) ?_ ⟨Int.le_refl _, .inl rfl, by dsimp only; rw [upTo_nil (by omega)]; exact h0⟩
  rintro ⟨_, i, t⟩ A ⟨h1, h2, h3⟩ back
  dsimp only at h1 h2 h3 ⊢
  refine ⟨hC, cond_dec (fun q => ?_) fun q => ?_⟩
  · have q : i ≤ hi := q
    refine hstep i t A h1 q h3 fun t' ht => ?_
    rw [w64_of (by omega)]
    refine back _ ⟨by dsimp only; omega, .inr (by dsimp only; omega), ?_⟩ (by dsimp only; omega)
    dsimp only
    rw [show i + 1 - 1 = i by omega, upTo_snoc h1]
    exact ht
  · have q : ¬ i ≤ hi := q
    refine hend i t ?_
    by_cases e : lo ≤ hi
    · rw [show hi = i - 1 by omega]; exact h3
    · rw [upTo_nil (by omega)]
      rw [upTo_nil (by omega)] at h3
      exact h3

/-- A loop over a list, its place behind. -/
theorem each_b {α T : Type} {xs : List α} {G : T × Int → (T × Int → Prop) → Prop} {E : T × Int → Prop} {t0 : T} (I : List α → T → Prop) (hl : xs.length ≤ 4611686018427387904) (h0 : I [] t0)
    (hstep : ∀ (k : Nat) (x : α) (t : T) (back : T × Int → Prop), xs[k]? = some x → x ∈ xs → I (xs.take k) t → (∀ t', I (xs.take k ++ [x]) t' → back (t', w64 ((k : Int) + 1))) → G (t, (k : Int)) back)
    (hend : ∀ t, I xs t → E (t, (xs.length : Int))) :
    loopP (fun z back => cond (decide (z.2 < (xs.length : Int))) (chk ((0 : Int) ≤ z.2 ∧ z.2 < (xs.length : Int)) (G z back)) (E z)) (t0, (0 : Int)) := by
  refine loopP_of (fun z : T × Int => ∃ k : Nat, z.2 = k ∧ k ≤ xs.length ∧ I (xs.take k) z.1) (fun z => xs.length - z.2.toNat) ?_ ⟨0, rfl, Nat.zero_le _, h0⟩
  rintro ⟨t, _⟩ A ⟨k, e1, hk, hi⟩ back
  dsimp only at e1 hi ⊢
  subst e1
  refine cond_dec (fun h1 => ⟨⟨by omega, h1⟩, ?_⟩) fun h1 => ?_
  · have h1 : (k : Int) < xs.length := h1
    have hk' : k < xs.length := by omega
    have hg := List.getElem?_eq_getElem hk'
    generalize xs[k] = x at hg
    refine hstep k x t A hg (List.mem_of_getElem? hg) hi fun t' ht => ?_
    rw [w_succ (by omega)]
    refine back _ ⟨k + 1, rfl, hk', ?_⟩ (by dsimp only; omega)
    dsimp only
    rw [List.take_add_one, hg]
    exact ht
  · have hkl : k = xs.length := by have h1 : ¬ (k : Int) < xs.length := h1; omega
    subst hkl
    rw [List.take_length] at hi
    exact hend t hi

/-- The same, for two that are carried. -/
theorem each_bb {α S T : Type} {xs : List α} {G : S × T × Int → (S × T × Int → Prop) → Prop} {E : S × T × Int → Prop} {s0 : S} {t0 : T} (I : List α → S → T → Prop) (hl : xs.length ≤ 4611686018427387904) (h0 : I [] s0 t0)
    (hstep : ∀ (k : Nat) (x : α) (s : S) (t : T) (back : S × T × Int → Prop), xs[k]? = some x → x ∈ xs → I (xs.take k) s t → (∀ s' t', I (xs.take k ++ [x]) s' t' → back (s', t', w64 ((k : Int) + 1))) → G (s, t, (k : Int)) back)
    (hend : ∀ s t, I xs s t → E (s, t, (xs.length : Int))) :
    loopP (fun z back => cond (decide (z.2.2 < (xs.length : Int))) (chk ((0 : Int) ≤ z.2.2 ∧ z.2.2 < (xs.length : Int)) (G z back)) (E z)) (s0, t0, (0 : Int)) := by
  refine loopP_of (fun z : S × T × Int => ∃ k : Nat, z.2.2 = k ∧ k ≤ xs.length ∧ I (xs.take k) z.1 z.2.1) (fun z => xs.length - z.2.2.toNat) ?_ ⟨0, rfl, Nat.zero_le _, h0⟩
  rintro ⟨s, t, _⟩ A ⟨k, e1, hk, hi⟩ back
  dsimp only at e1 hi ⊢
  subst e1
  refine cond_dec (fun h1 => ⟨⟨by omega, h1⟩, ?_⟩) fun h1 => ?_
  · have h1 : (k : Int) < xs.length := h1
    have hk' : k < xs.length := by omega
    have hg := List.getElem?_eq_getElem hk'
    generalize xs[k] = x at hg
    refine hstep k x s t A hg (List.mem_of_getElem? hg) hi fun s' t' ht => ?_
    rw [w_succ (by omega)]
    refine back _ ⟨k + 1, rfl, hk', ?_⟩ (by dsimp only; omega)
    dsimp only
    rw [List.take_add_one, hg]
    exact ht
  · have hkl : k = xs.length := by have h1 : ¬ (k : Int) < xs.length := h1; omega
    subst hkl
    rw [List.take_length] at hi
    exact hend s t hi

/-! ### Inside -/

theorem no_of {P : Prop} (h : ¬ P) : (false = true) ↔ P := ⟨fun q => (by cases q), fun q => absurd q h⟩

theorem last_len {b : Runs} (nb : b ≠ []) (hl : b.length ≤ 1000) : w64 ((b.length : Int) - 1) = ((b.length - 1 : Nat) : Int) := by
  have := List.length_pos_iff.2 nb
  rw [w64_of (by omega)]; omega

theorem ok_ref22_inside {f : Leaf} {p : Int × Int} (hla : f.2.2.1.length ≤ 1000) (hlb : f.2.2.2.length ≤ 1000) : FnE bs n_lustrumref22_inside ((Shape.pair sApiLeaf sRun).compsE (f, p)) .bool (fun r => r = true ↔ p.1 ≤ p.2 ∧ leafIn f p) := by
  refine ok_of (e_lustrumref22_inside (f, p) _) rfl ?_
  unfold c_lustrumref22_inside
  refine callP_eq (ok_ref14_Tidy (f := f) hla hlb) ?_
  rcases tidy_shape f with ⟨ho, ht⟩ | ⟨u, s, ho, ht⟩ | ⟨a, b, ho, ht⟩
  · rw [ht]
    exact cond_yes rfl (no_of fun h => leafIn_none ho h.2)
  · obtain ⟨h1, h2, rfl, rfl, h5, h6, h7⟩ := of_units ho
    rw [ht]
    refine cond_no (decide_eq_false (fun e => h5 (len_zero.1 e))) (cond_dec (fun h => no_of fun q => ?_) fun h => cond_no rfl (callP_eq ok_ref03_Of (callP_eq ok_ref03_Of ?_)))
    · have h : p.2 < p.1 := h
      have := q.1
      omega
    · have hp : p.1 ≤ p.2 := by have h : ¬ p.2 < p.1 := h; omega
      have hiff := leafIn_units (p := p) ho hp
      unfold ofS
      cases hu : VCal.uof f.2.1 p.1 with
      | none =>
        refine cond_no rfl (no_of fun q => ?_)
        obtain ⟨i, e, _⟩ := hiff.1 q.2
        rw [hu] at e; cases e
      | some i =>
        obtain ⟨k1, k2, k3, k4⟩ := VCal.uof_some.1 hu
        refine cond_yes rfl ?_
        cases hv : VCal.uof f.2.1 p.2 with
        | none =>
          refine cond_no rfl (no_of fun q => ?_)
          obtain ⟨j, e, _, q2⟩ := hiff.1 q.2
          rw [hu] at e; cases e
          have : VCal.uof f.2.1 p.2 = some i := VCal.uof_some.2 ⟨k1, k2, by omega, q2⟩
          rw [hv] at this; cases this
        | some j =>
          obtain ⟨m1, m2, m3, m4⟩ := VCal.uof_some.1 hv
          refine cond_yes rfl (cond_dec (fun e => ?_) fun e => no_of fun q => ?_)
          · have e : i = j := e
            subst e
            refine callP_of (ok_ref04_Has (s := f.2.2.1) (by omega)) fun r hr => ?_
            rw [hr]
            show (decide (mem (makeF f.2.2.1) i) = true) ↔ _
            rw [decide_eq_true_iff, make_self h6.1]
            refine ⟨fun q => ⟨hp, hiff.2 ⟨i, hu, q, m4⟩⟩, fun q => ?_⟩
            obtain ⟨j, e, q3, _⟩ := hiff.1 q.2
            rw [hu] at e; cases e
            exact q3
          · have e : ¬ i = j := e
            obtain ⟨x, e2, _, q2⟩ := hiff.1 q.2
            rw [hu] at e2; cases e2
            have : VCal.uof f.2.1 p.2 = some i := VCal.uof_some.2 ⟨k1, k2, by omega, q2⟩
            rw [hv] at this
            exact e (Option.some.inj this).symm
  · obtain ⟨sa, sb, na, nb, q1, q2⟩ := span_ends ho
    have hsl := span_lens ho
    have la := List.length_pos_iff.2 na
    have lb := List.length_pos_iff.2 nb
    rw [ht]
    refine cond_no (decide_eq_false (fun e => na (len_zero.1 e))) (cond_dec (fun h => no_of fun q => ?_) fun h => cond_yes rfl ⟨⟨Int.le_refl _, (by show (0 : Int) < (a.length : Int); omega)⟩, ?_⟩)
    · have h : p.2 < p.1 := h
      have := q.1
      omega
    · have hp : p.1 ≤ p.2 := by have h : ¬ p.2 < p.1 := h; omega
      have hiff := leafIn_span (p := p) ho hp
      dsimp only
      rw [last_len nb (by omega), Int.toNat_natCast]
      refine cond_dec (fun g1 => ⟨⟨by omega, by omega⟩, ?_⟩) fun g1 => no_of fun q => g1 (hiff.1 q.2).1
      rw [decide_eq_true_iff]
      exact ⟨fun g2 => ⟨hp, hiff.2 ⟨g1, g2⟩⟩, fun q => (hiff.1 q.2).2⟩

theorem ok_ref22_Inside {m : List Leaf} {p : Int × Int} (hl : FewL 1000 m) : FnE bs n_lustrumref22_Inside ((Shape.pair (.slice sApiLeaf) sRun).compsE (m, p)) .bool (fun r => r = true ↔ insideP m p) := by
  refine ok_of (e_lustrumref22_Inside (m, p) _) rfl ?_
  unfold c_lustrumref22_Inside
  have hll := hl.1
  refine each_n (xs := m) (fun pre => ∀ f ∈ pre, ¬ (p.1 ≤ p.2 ∧ leafIn f p)) (by omega) (fun f hf => by cases hf) (fun k f back hk hf hi next => ?_) (fun hi => no_of fun q => by obtain ⟨h1, f, hf, h⟩ := inside_iff.1 q; exact hi f hf ⟨h1, h⟩)
  have hff := hl.2 f hf
  dsimp only
  rw [Int.toNat_natCast, rd_of (s := sApiLeaf) hk]
  refine callP_of (ok_ref22_inside (f := f) (p := p) hff.1 hff.2) fun r hr => cond_bool (fun h => ⟨fun _ => ?_, fun _ => rfl⟩) fun h => next fun g hg => ?_
  · have := hr.1 h
    exact inside_iff.2 ⟨this.1, f, hf, this.2⟩
  · rcases List.mem_append.1 hg with hg | hg
    · exact hi g hg
    · cases List.mem_singleton.1 hg
      intro q
      rw [hr.2 q] at h; cases h

/-! ### One leaf -/

theorem ok_ref22_units {s b : Runs} {sp : Bool} {u : Int} {m : List Leaf} (hm : FewL 1000 m) (hs : s.length ≤ 1000) (h : Within s (VCal.ucount u - 1)) :
    FnE bs n_lustrumref22_units ((Shape.pair sApiLeaf (.slice sApiLeaf)).compsE ((sp, u, s, b), m)) (.slice sApiLeaf) (fun r => ∃ x, Sane x ∧ x.length ≤ (nums s).length ∧ (∀ n, mem x n ↔ mem s n ∧ insideP m (VCal.ufirst u n, VCal.ulast u n)) ∧ r = if x = [] then [] else [(false, u, x, [])]) := by
  refine ok_of (e_lustrumref22_units ((sp, u, s, b), m) _) rfl ?_
  unfold c_lustrumref22_units
  have hc := VCal.ucount_pos u
  have hlen : (nums s).length ≤ 3652425 := by have := unitPairs_len h; unfold unitPairs at this; rw [List.length_map] at this; exact this
  refine each_u (xs := s) (fun pre t => ∃ ns : List Int, t = singles ns ∧ (∀ n, n ∈ ns ↔ n ∈ nums pre ∧ insideP m (VCal.ufirst u n, VCal.ulast u n)) ∧ ns.length ≤ (nums pre).length) (by omega) ⟨[], rfl, fun n => by simp [nums], Nat.zero_le _⟩ (fun k r t back hg hr ht next => ?_) (fun t ht => ?_)
  · obtain ⟨ns, rfl, hn, hnl⟩ := ht
    dsimp only
    rw [Int.toNat_natCast, rd_of (s := sRun) hg]
    have hk := (List.getElem?_eq_some_iff.1 hg).1
    have hb1 := Within.bounds h (n := r.1) ⟨r, hr, Int.le_refl _, (Sane.bounds h.1 r hr).2.1⟩
    have hb2 := Within.bounds h (n := r.2) ⟨r, hr, (Sane.bounds h.1 r hr).2.1, Int.le_refl _⟩
    have hsplit : s = s.take k ++ [r] ++ s.drop (k + 1) := by
      conv => lhs; rw [← List.take_append_drop (k + 1) s, List.take_add_one, hg]
      rfl
    have hle : (nums (s.take k)).length + (upTo r.1 r.2).length ≤ 3652425 := by
      have e1 : (nums (s.take k ++ [r] ++ s.drop (k + 1))).length ≤ 3652425 := by rw [← hsplit]; exact hlen
      rw [nums_app, nums_app, List.length_append, List.length_append, nums_one] at e1
      omega
    have rk : (0 : Int) ≤ (k : Int) ∧ (k : Int) < (s.length : Int) := by omega
    refine upto_c rk (fun pre t => ∃ ns : List Int, t = singles ns ∧ (∀ n, n ∈ ns ↔ (n ∈ nums (s.take k) ∨ n ∈ pre) ∧ insideP m (VCal.ufirst u n, VCal.ulast u n)) ∧ ns.length ≤ (nums (s.take k)).length + pre.length) (by omega) (by omega) ⟨ns, rfl, fun n => by rw [hn n]; simp, by simpa using hnl⟩ (fun j t back2 h1 h2 ht2 next2 => ?_) (fun j t ht2 => next _ ?_)
    · obtain ⟨ns2, rfl, hn2, hnl2⟩ := ht2
      dsimp only
      refine callP_eq ok_ref03_First (callP_eq ok_ref03_Last ?_)
      unfold firstS lastS
      rw [if_pos (by omega), if_pos (by omega)]
      refine callP_of (ok_ref22_Inside (m := m) (p := (VCal.ufirst u j, VCal.ulast u j)) hm) fun r7 h7 => cond_bool (fun q => ⟨?_, next2 _ ⟨ns2 ++ [j], ?_, fun n => ?_, ?_⟩⟩) fun q => next2 _ ⟨ns2, rfl, fun n => ?_, ?_⟩
      · have : (upTo r.1 (j - 1)).length ≤ (upTo r.1 r.2).length := by simp only [upTo, List.length_map, List.length_range]; omega
        have e : (singles ns2).length = ns2.length := by simp [singles]
        rw [e]
        simp only [List.length_cons, List.length_nil]
        omega
      · unfold singles; rw [List.map_append]; rfl
      · have hbx := h7.1 q
        rw [List.mem_append, hn2 n, List.mem_append, List.mem_singleton]
        constructor
        · rintro (⟨q1 | q1, q2⟩ | rfl)
          · exact ⟨.inl q1, q2⟩
          · exact ⟨.inr (.inl q1), q2⟩
          · exact ⟨.inr (.inr rfl), hbx⟩
        · rintro ⟨q1 | q1 | rfl, q2⟩
          · exact .inl ⟨.inl q1, q2⟩
          · exact .inl ⟨.inr q1, q2⟩
          · exact .inr rfl
      · simp only [List.length_append, List.length_cons, List.length_nil]
        omega
      · have hbx : ¬ insideP m (VCal.ufirst u j, VCal.ulast u j) := fun q2 => by rw [h7.2 q2] at q; cases q
        rw [hn2 n, List.mem_append, List.mem_singleton]
        constructor
        · rintro ⟨q1 | q1, q2⟩
          · exact ⟨.inl q1, q2⟩
          · exact ⟨.inr (.inl q1), q2⟩
        · rintro ⟨q1 | q1 | rfl, q2⟩
          · exact ⟨.inl q1, q2⟩
          · exact ⟨.inr q1, q2⟩
          · exact absurd q2 hbx
      · simp only [List.length_append, List.length_cons, List.length_nil]
        omega
    · obtain ⟨ns2, rfl, hn2, hnl2⟩ := ht2
      refine ⟨ns2, rfl, fun n => ?_, ?_⟩
      · rw [hn2 n, nums_app, nums_one, List.mem_append]
      · rw [nums_app, nums_one, List.length_append]; exact hnl2
  · obtain ⟨ns, rfl, hn, hnl⟩ := ht
    dsimp only
    have hsl : (singles ns).length = ns.length := by simp [singles]
    have hmem : ∀ n, mem (makeF (singles ns)) n ↔ mem s n ∧ insideP m (VCal.ufirst u n, VCal.ulast u n) := fun n => by
      rw [mem_make]
      have e : memL (singles ns) n ↔ -Lim ≤ n ∧ n ≤ Lim ∧ n ∈ ns := by unfold memL; rw [mem_singles]
      rw [e, hn n, mem_nums]
      constructor
      · rintro ⟨_, _, q⟩; exact q
      · intro q
        have := Within.bounds h q.1
        exact ⟨by unfold Lim; omega, by unfold Lim; omega, q⟩
    have hml := make_length (singles ns)
    refine cond_dec (fun e => ?_) fun e => ?_
    · have e : singles ns = [] := len_zero.1 e
      rw [e] at hmem
      exact ⟨[], trivial, Nat.zero_le _, hmem, by rw [if_pos rfl]⟩
    · have e : ¬ singles ns = [] := fun q => e (len_zero.2 q)
      refine callP_eq (ok_ref04_Make (by omega)) ⟨makeF (singles ns), make_sane _, by omega, hmem, ?_⟩
      have hne : makeF (singles ns) ≠ [] := by
        obtain ⟨r, hr⟩ := List.exists_mem_of_ne_nil _ e
        obtain ⟨n, hnn, rfl⟩ := List.mem_map.1 hr
        intro q
        have := (hmem n).2 (by have := (hn n).1 hnn; exact ⟨mem_nums.1 this.1, this.2⟩)
        rw [q] at this
        exact mem_nil this
      rw [if_neg hne]

theorem make_app2 (x y : Runs) : makeF (makeF x ++ makeF y) = makeF (x ++ y) := by
  refine make_of (make_sane _) fun n => ?_
  rw [mem_make, memL_append, memL_append]
  have e : ∀ z, memL (makeF z) n ↔ memL z n := fun z => ⟨fun h => mem_make.1 h.2.2, fun h => ⟨h.1, h.2.1, mem_make.2 h⟩⟩
  rw [e, e]

theorem daysF_app (m : List Leaf) (f : Leaf) : daysF (m ++ [f]) = makeF (daysF m ++ daysF [f]) := by
  unfold daysF
  rw [make_app2]
  unfold daysL
  rw [List.flatMap_append]

theorem ok_ref22_days {s b : Runs} {sp : Bool} {u : Int} {m : List Leaf} (hm : FewL 40 m) (hn : m.length ≤ 12) (hs : s.length ≤ 40) (ss : Sane s) :
    FnE bs n_lustrumref22_days ((Shape.pair sApiLeaf (.slice sApiLeaf)).compsE ((sp, u, s, b), m)) (.slice sApiLeaf) (fun r => ∃ x, Sane x ∧ x.length ≤ 40 + 41 * m.length ∧ (∀ n, mem x n ↔ mem s n ∧ insideP m (n, n)) ∧ r = if x = [] then [] else [(false, 0, x, [])]) := by
  refine ok_of (e_lustrumref22_days ((sp, u, s, b), m) _) rfl ?_
  unfold c_lustrumref22_days
  have dl : ∀ k, (daysF (m.take k)).length ≤ 41 * m.length := fun k => by
    have h1 := days_length (m.take k) (n := 40) fun f hf => (hm.2 f (List.mem_of_mem_take hf)).1
    have h2 := make_length (daysL (m.take k))
    rw [List.length_take] at h1
    have h3 : min k m.length * (40 + 1) ≤ m.length * (40 + 1) := Nat.mul_le_mul_right _ (Nat.min_le_right _ _)
    unfold daysF
    omega
  refine each_b (xs := m) (fun pre t => t = daysF pre) (by omega) rfl (fun k f t back hg hf ht next => ?_) (fun t ht => ?_)
  · subst ht
    have hff := hm.2 f hf
    dsimp only
    rw [Int.toNat_natCast, rd_of (s := sApiLeaf) hg]
    have hone : FewL 40 [f] := ⟨by simp, fun g hg => by cases List.mem_singleton.1 hg; exact hff⟩
    have hl1 : (daysF [f]).length ≤ 41 := by
      have h1 := days_length [f] (n := 40) fun g hg => (hone.2 g hg).1
      have h2 := make_length (daysL [f])
      unfold daysF
      simp only [List.length_singleton] at h1
      omega
    refine callP_eq (ok_ref17_Days (l := [f]) (by simp) hone) ?_
    rw [if_neg (by omega)]
    have := dl k
    exact callP_eq (ok_ref05_Union (by dsimp only; omega)) (next _ (daysF_app _ _).symm)
  · subst ht
    dsimp only
    have hd := dl m.length
    rw [List.take_length] at hd
    refine callP_of (ok_ref05_MeetS (a := s) (b := daysF m) (by omega) (by omega) ss (make_sane _)) fun x hx => ?_
    have hmem : ∀ n, mem x n ↔ mem s n ∧ insideP m (n, n) := fun n => by
      rw [hx.2.2, mem_daysF, any_covers]
      refine and_congr_right fun _ => ?_
      unfold insideP
      constructor
      · rintro ⟨q, h1, h2⟩; exact ⟨Int.le_refl _, q, any_has.1 h1, h2⟩
      · rintro ⟨_, q, h1, h2⟩; exact ⟨q, any_has.2 h1, h2⟩
    refine cond_dec (fun e => ?_) fun e => ?_
    · have e : x = [] := len_zero.1 e
      exact ⟨x, hx.1, by have := hx.2.1; omega, hmem, by rw [if_pos e]⟩
    · have e : ¬ x = [] := fun q => e (len_zero.2 q)
      exact ⟨x, hx.1, by have := hx.2.1; omega, hmem, by rw [if_neg e]⟩

/-- A leaf, tidied; none if it has no pairs. -/
def boxL (k : Leaf) : List Leaf := match ofF k with
  | none => []
  | some _ => [tidyF k]

theorem boxL_of {k r : Leaf} (h : r = tidyF k) {R : List Leaf → Prop} (hR : R (boxL k)) : cond (decide ((r.2.2.1.length : Int) = (0 : Int))) (R []) (R [(r.1, r.2.1, r.2.2.1, r.2.2.2)]) := by
  subst h
  unfold boxL at hR
  rcases tidy_shape k with ⟨ho, ht⟩ | ⟨u, s, ho, ht⟩ | ⟨a, b, ho, ht⟩
  · rw [ho] at hR
    rw [ht]
    exact cond_yes rfl hR
  · obtain ⟨h1, h2, h3, h4, h5, h6, h7⟩ := of_units ho
    rw [ho] at hR
    refine cond_no (decide_eq_false fun e => h5 (len_zero.1 ?_)) hR
    rw [ht] at e; exact e
  · obtain ⟨_, _, na, _⟩ := span_ends ho
    rw [ho] at hR
    refine cond_no (decide_eq_false fun e => na (len_zero.1 ?_)) hR
    rw [ht] at e; exact e

theorem boxL_has {k : Leaf} {p : Int × Int} : hasP (boxL k) p ↔ HasF k p := by
  unfold boxL
  cases ho : ofF k with
  | none =>
    refine ⟨fun h => absurd h hasP_nil, fun h => ?_⟩
    unfold HasF at h; rw [ho] at h; exact h.elim
  | some x =>
    dsimp only
    rw [hasP_one]
    exact has_congr (tidy_of k).2 p

theorem ok_ref22_box {a b : Runs} {sp : Bool} {u lo hi : Int} (ha : a.length ≤ 1000) (hb : b.length ≤ 1000) (sa : Sane a) (sb : Sane b) : FnE bs n_lustrumref22_box ((Shape.pair sApiLeaf (.pair (.int .i64) (.int .i64))).compsE ((sp, u, a, b), lo, hi)) (.slice sApiLeaf) (· = boxL (true, 0, clipF a lo hi, clipF b lo hi)) := by
  refine ok_of (e_lustrumref22_box ((sp, u, a, b), lo, hi) _) rfl ?_
  unfold c_lustrumref22_box
  have ca : FnE bs n_lustrumref05_Clip ((Shape.pair (.slice sRun) (.pair (.int .i64) (.int .i64))).compsE (a, lo, hi)) (.slice sRun) (· = clipF a lo hi) := by
    have := ok_ref05_Clip (s := a) (lo := lo) (hi := hi) ha
    rwa [make_self sa] at this
  have cb : FnE bs n_lustrumref05_Clip ((Shape.pair (.slice sRun) (.pair (.int .i64) (.int .i64))).compsE (b, lo, hi)) (.slice sRun) (· = clipF b lo hi) := by
    have := ok_ref05_Clip (s := b) (lo := lo) (hi := hi) hb
    rwa [make_self sb] at this
  have la := clip_length a lo hi
  have lb := clip_length b lo hi
  have ct : FnE bs n_lustrumref14_Tidy (sApiLeaf.compsE (true, 0, clipF a lo hi, clipF b lo hi)) sApiLeaf (· = tidyF (true, 0, clipF a lo hi, clipF b lo hi)) := ok_ref14_Tidy (by dsimp only; omega) (by dsimp only; omega)
  have fin : ∀ r, r = tidyF (true, 0, clipF a lo hi, clipF b lo hi) → cond (decide ((r.2.2.1.length : Int) = (0 : Int))) ([] = boxL (true, 0, clipF a lo hi, clipF b lo hi)) ([(r.1, r.2.1, r.2.2.1, r.2.2.2)] = boxL (true, 0, clipF a lo hi, clipF b lo hi)) := fun r hr => boxL_of (R := (· = boxL (true, 0, clipF a lo hi, clipF b lo hi))) hr rfl
  exact ⟨callP_eq ca ⟨callP_eq cb ⟨callP_eq ct (fin _ rfl), callP_eq ct (fin _ rfl)⟩, callP_eq cb (callP_eq ct (fin _ rfl))⟩, callP_eq ca (callP_eq cb (callP_eq ct (fin _ rfl)))⟩
end Go.Proofs.YtdlgenbfnahmeaaGreatDoor.V

