/- The calculus of the program's functions and their contracts, part 8. No condition of its own. -/
import Derived.Test.YtocmlcpcnjaaeaaDoorM7


/- lustrumlaw14.LeafCovers, as a condition on the program's functions alone. No condition of its own. -/
namespace Go.Proofs.YtocmlcpcnjaaeaaDoor.V
open Go
set_option linter.unusedVariables false

/-- What a family's pair is. -/
theorem fam_pair {f : Leaf} {p : Int × Int} (h : p ∈ famPairs (ofF f)) : (0 ≤ p.1 ∧ p.1 ≤ p.2 ∧ p.2 ≤ 3652424) ∧ HasF f p ∧ ∀ d, p.1 ≤ d → d ≤ p.2 → CoversF f d := by
  unfold HasF CoversF
  rcases ho : ofF f with _ | ⟨u, s⟩ | ⟨a, b⟩
  · rw [ho] at h; cases h
  · rw [ho] at h
    obtain ⟨i, hi, rfl⟩ := List.mem_map.1 h
    have hm := mem_nums.1 hi
    obtain ⟨h1, h2, h3, h4, h5, h6, h7⟩ := of_units ho
    have hb := Within.bounds h6 hm
    have hu := VCal.unit_in (kind := u) (i := i) (by omega) (by omega)
    refine ⟨⟨hu.1, hu.2.1, hu.2.2⟩, ⟨i, uof_first (by omega) (by omega), hm, rfl⟩, fun d h1 h2 => ⟨i, VCal.uof_some.2 ⟨by omega, by omega, h1, h2⟩, hm⟩⟩
  · rw [ho] at h
    obtain ⟨s, hs, h⟩ := List.mem_flatMap.1 h
    obtain ⟨r, hr, h⟩ := List.mem_flatMap.1 h
    obtain ⟨t, ht, rfl⟩ := List.mem_map.1 h
    have ht := mem_upTo.1 ht
    have ms := mem_nums.1 hs
    have mt : mem b t := ⟨r, hr, by omega, by omega⟩
    obtain ⟨h1, h2, h3, h4, h5, h6, h7, e1, e2⟩ := of_span ho
    obtain ⟨sa, sb, na, nb, l1, l2⟩ := span_ends ho
    have := mem_between sa ms
    have := mem_between sb mt
    rw [e1, mem_clip] at ms
    have mt' := mt
    rw [e2, mem_clip] at mt'
    dsimp only
    refine ⟨⟨by omega, by omega, by omega⟩, ⟨by omega, ?_, mt⟩, fun d h1 h2 => ⟨by omega, by omega⟩⟩
    rw [e1, mem_clip]; exact ms

theorem fam_covers {f : Leaf} {d : Int} (h : CoversF f d) : ∃ p ∈ famPairs (ofF f), p.1 ≤ d ∧ d ≤ p.2 := by
  unfold CoversF at h
  rcases ho : ofF f with _ | ⟨u, s⟩ | ⟨a, b⟩
  · rw [ho] at h; exact h.elim
  · rw [ho] at h
    obtain ⟨i, hi, hm⟩ := h
    have hu := VCal.uof_some.1 hi
    exact ⟨_, List.mem_map.2 ⟨i, mem_nums.2 hm, rfl⟩, hu.2.2.1, hu.2.2.2⟩
  · rw [ho] at h
    obtain ⟨sa, sb, na, nb, l1, l2⟩ := span_ends ho
    obtain ⟨r, hr, e⟩ := hiF_get nb
    have hrm := List.mem_of_getElem? hr
    have hrb := (SaneFrom.lt sb r hrm).2.1
    refine ⟨(loF a, hiF b), List.mem_flatMap.2 ⟨loF a, mem_nums.2 (mem_lo sa na), List.mem_flatMap.2 ⟨r, hrm, List.mem_map.2 ⟨hiF b, mem_upTo.2 ⟨by omega, by omega⟩, rfl⟩⟩⟩, h.1, h.2⟩

end Go.Proofs.YtocmlcpcnjaaeaaDoor.V


/- lustrumlaw14.LeafPairs, as a condition on the program's functions alone. No condition of its own. -/
namespace Go.Proofs.YtocmlcpcnjaaeaaDoor.V
open Go
set_option linter.unusedVariables false
set_option linter.unusedSimpArgs false

end Go.Proofs.YtocmlcpcnjaaeaaDoor.V


/- lustrumlaw14.LeafTidy, as a condition on the program's functions alone. No condition of its own. -/
namespace Go.Proofs.YtocmlcpcnjaaeaaDoor.V
open Go
set_option linter.unusedVariables false
set_option linter.unusedSimpArgs false

/-! ### Tidied -/

theorem clip_self {s : Runs} {lo hi : Int} (h : Sane s) (k : ∀ n, mem s n → lo ≤ n ∧ n ≤ hi) : clipF s lo hi = s :=
  sane_ext (sane_clip h) h fun n => by rw [mem_clip]; exact ⟨fun q => q.1, fun q => ⟨q, k n q⟩⟩

theorem within_clip {s : Runs} {lo hi m : Int} (h : Within s m) : Within (clipF s lo hi) m := by
  refine ⟨sane_clip h.1, ?_⟩
  by_cases e : clipF s lo hi = []
  · exact .inl e
  · have h1 := mem_clip.1 (mem_lo (sane_clip (lo := lo) (hi := hi) h.1) e)
    have h2 := mem_clip.1 (mem_hi (sane_clip (lo := lo) (hi := hi) h.1) e)
    have b1 := Within.bounds h h1.1
    have b2 := Within.bounds h h2.1
    exact .inr ⟨b1.1, b2.2⟩

theorem within_nil (m : Int) : Within [] m := ⟨trivial, .inl rfl⟩

/-- What is tidied may be, and is the same family. -/
theorem tidy_of (f : Leaf) : LeafSane (tidyF f) ∧ ofF (tidyF f) = ofF f := by
  rcases ho : ofF f with _ | ⟨u, s⟩ | ⟨a, b⟩
  · have e : tidyF f = (false, 0, [], []) := by unfold tidyF; rw [ho]
    rw [e]
    exact ⟨by decide, by decide⟩
  · obtain ⟨h1, h2, h3, h4, h5, h6, h7⟩ := of_units ho
    have e : tidyF f = (false, u, s, []) := by unfold tidyF; rw [ho]
    have hs : LeafSane (false, u, s, []) := by
      unfold LeafSane
      rw [if_neg (by simp)]
      exact ⟨h7, h6, rfl⟩
    rw [e]
    refine ⟨hs, ?_⟩
    unfold ofF
    rw [if_neg (by simp [hs, h5]), if_pos rfl]
  · obtain ⟨h1, h2, h3, h4, h5, h6, h7, e1, e2⟩ := of_span ho
    obtain ⟨sa, sb, na, nb, l1, l2⟩ := span_ends ho
    have e : tidyF f = (true, 0, a, b) := by unfold tidyF; rw [ho]
    have hs : LeafSane (true, 0, a, b) := by
      unfold LeafSane
      rw [if_pos rfl]
      refine ⟨rfl, ?_, ?_⟩
      · show Within a 3652424
        rw [e1]; exact within_clip h6
      · show Within b 3652424
        rw [e2]; exact within_clip h7
    rw [e]
    refine ⟨hs, ?_⟩
    unfold ofF
    rw [if_neg (by simp [hs, na]), if_neg (by simp), if_neg (by dsimp only; rw [l1, l2]; simp [nb]; omega)]
    have ha : clipF a 0 (hiF b) = a := clip_self sa fun n hn => by
      have h := hn
      rw [e1, mem_clip] at h
      rw [l2]
      exact h.2
    have hb : clipF b (loF a) 3652424 = b := clip_self sb fun n hn => by
      have h := hn
      rw [e2, mem_clip] at h
      rw [l1]
      exact h.2
    dsimp only
    rw [ha, hb]

theorem tidy_lens (f : Leaf) : (tidyF f).2.2.1.length ≤ f.2.2.1.length ∧ (tidyF f).2.2.2.length ≤ f.2.2.2.length := by
  rcases ho : ofF f with _ | ⟨u, s⟩ | ⟨a, b⟩
  · have e : tidyF f = (false, 0, [], []) := by unfold tidyF; rw [ho]
    rw [e]; simp
  · obtain ⟨h1, h2, h3, h4, h5, h6, h7⟩ := of_units ho
    have e : tidyF f = (false, u, s, []) := by unfold tidyF; rw [ho]
    rw [e]; simp [h4]
  · obtain ⟨h1, h2, h3, h4, h5, h6, h7, e1, e2⟩ := of_span ho
    have e : tidyF f = (true, 0, a, b) := by unfold tidyF; rw [ho]
    rw [e, e1, e2]
    exact ⟨clip_length _ _ _, clip_length _ _ _⟩

end Go.Proofs.YtocmlcpcnjaaeaaDoor.V


/- The least and greatest days of families: plain facts. No program in sight. -/
namespace Go.Proofs.YtocmlcpcnjaaeaaDoor.V
set_option linter.unusedVariables false
set_option linter.unusedSimpArgs false

/-- The least and the greatest start, the least and the greatest end. -/
abbrev Q4 := Int × Int × Int × Int

def extF (f : Leaf) : Option Q4 := match ofF f with
  | none => none
  | some (.inl (u, s)) => some (VCal.ufirst u (loF s), VCal.ufirst u (hiF s), VCal.ulast u (loF s), VCal.ulast u (hiF s))
  | some (.inr (a, b)) => some (loF a, hiF a, loF b, hiF b)

def comb : Option Q4 → Option Q4 → Option Q4
  | none, q => q
  | some p, none => some p
  | some p, some q => some (min p.1 q.1, max p.2.1 q.2.1, min p.2.2.1 q.2.2.1, max p.2.2.2 q.2.2.2)

def allF (l : List Leaf) : Option Q4 := l.foldl (fun x f => comb x (extF f)) none

theorem comb_none (p : Option Q4) : comb p none = p := by cases p <;> rfl

theorem comb_assoc (p q r : Option Q4) : comb (comb p q) r = comb p (comb q r) := by
  cases p with
  | none => rfl
  | some p =>
    cases q with
    | none => rfl
    | some q =>
      cases r with
      | none => rfl
      | some r =>
        simp only [comb, Option.some.injEq, Prod.mk.injEq]
        omega

theorem foldl_comb : ∀ (l : List Leaf) (x : Option Q4), l.foldl (fun x f => comb x (extF f)) x = comb x (allF l)
  | [], x => (comb_none x).symm
  | f :: l, x => by
    unfold allF
    rw [List.foldl_cons, List.foldl_cons, foldl_comb l (comb x (extF f)), foldl_comb l (comb none (extF f)), comb_assoc]
    rfl

theorem all_append (l m : List Leaf) : allF (l ++ m) = comb (allF l) (allF m) := by
  unfold allF
  rw [List.foldl_append, foldl_comb m]
  rfl

theorem all_cons (f : Leaf) (l : List Leaf) : allF (f :: l) = comb (extF f) (allF l) := by
  rw [show f :: l = [f] ++ l from rfl, all_append]
  rfl

theorem ext_none {f : Leaf} : extF f = none ↔ ofF f = none := by
  unfold extF
  rcases ho : ofF f with _ | ⟨u, s⟩ | ⟨a, b⟩ <;> simp

/-- What a quadruple says of pairs: it bounds them, and each of its days is met. -/
def Bounds (q : Q4) (P : Int × Int → Prop) : Prop := (∀ p, P p → q.1 ≤ p.1 ∧ p.1 ≤ q.2.1 ∧ q.2.2.1 ≤ p.2 ∧ p.2 ≤ q.2.2.2 ∧ p.1 ≤ p.2) ∧ (∃ p, P p ∧ p.1 = q.1) ∧ (∃ p, P p ∧ p.1 = q.2.1) ∧ (∃ p, P p ∧ p.2 = q.2.2.1) ∧ ∃ p, P p ∧ p.2 = q.2.2.2

theorem ufirst_le {u i j : Int} (h0 : 0 ≤ i) (hij : i ≤ j) (hj : j < VCal.ucount u) : VCal.ufirst u i ≤ VCal.ufirst u j ∧ VCal.ulast u i ≤ VCal.ulast u j := by
  rcases Int.lt_or_eq_of_le hij with e | e
  · have h1 := ufirst_lt h0 e hj
    have h2 := VCal.unit_in (kind := u) (i := i) h0 (by omega)
    have h3 := VCal.unit_in (kind := u) (i := j) (by omega) hj
    omega
  · subst e; omega

theorem span_pair {a b : Runs} (sa : Sane a) (sb : Sane b) {s t : Int} (hs : mem a s) (ht : mem b t) (h : s ≤ t) : (s, t) ∈ spanPairs a b := by
  obtain ⟨r, hr, h1, h2⟩ := ht
  exact List.mem_flatMap.2 ⟨s, mem_nums.2 hs, List.mem_flatMap.2 ⟨r, hr, List.mem_map.2 ⟨t, mem_upTo.2 ⟨by omega, h2⟩, rfl⟩⟩⟩

theorem pair_span {a b : Runs} {p : Int × Int} (h : p ∈ spanPairs a b) : mem a p.1 ∧ mem b p.2 ∧ p.1 ≤ p.2 := by
  obtain ⟨s, hs, h⟩ := List.mem_flatMap.1 h
  obtain ⟨r, hr, h⟩ := List.mem_flatMap.1 h
  obtain ⟨t, ht, rfl⟩ := List.mem_map.1 h
  have ht := mem_upTo.1 ht
  exact ⟨mem_nums.1 hs, ⟨r, hr, by dsimp only; omega, by dsimp only; omega⟩, by dsimp only; omega⟩

theorem ext_bounds {f : Leaf} {q : Q4} (h : extF f = some q) : Bounds q (· ∈ famPairs (ofF f)) := by
  unfold extF at h
  rcases ho : ofF f with _ | ⟨u, s⟩ | ⟨a, b⟩
  · rw [ho] at h; cases h
  · rw [ho] at h
    cases h
    obtain ⟨h1, h2, h3, h4, h5, h6, h7⟩ := of_units ho
    have hlo := mem_lo h6.1 h5
    have hhi := mem_hi h6.1 h5
    have pr : ∀ i, mem s i → (VCal.ufirst u i, VCal.ulast u i) ∈ famPairs (some (.inl (u, s))) := fun i hi => List.mem_map.2 ⟨i, mem_nums.2 hi, rfl⟩
    refine ⟨fun p hp => ?_, ⟨_, pr _ hlo, rfl⟩, ⟨_, pr _ hhi, rfl⟩, ⟨_, pr _ hlo, rfl⟩, ⟨_, pr _ hhi, rfl⟩⟩
    obtain ⟨i, hi, rfl⟩ := List.mem_map.1 hp
    have hm := mem_nums.1 hi
    have hb := mem_between h6.1 hm
    have b1 := Within.bounds h6 hlo
    have b2 := Within.bounds h6 hhi
    have m1 := ufirst_le (u := u) (i := loF s) (j := i) (by omega) hb.1 (by omega)
    have m2 := ufirst_le (u := u) (i := i) (j := hiF s) (by omega) hb.2 (by omega)
    have m3 := VCal.unit_in (kind := u) (i := i) (by omega) (by omega)
    dsimp only
    omega
  · rw [ho] at h
    cases h
    obtain ⟨h1, h2, h3, h4, h5, h6, h7, e1, e2⟩ := of_span ho
    obtain ⟨sa, sb, na, nb, l1, l2⟩ := span_ends ho
    have alo := mem_lo sa na
    have ahi := mem_hi sa na
    have blo := mem_lo sb nb
    have bhi := mem_hi sb nb
    have ma : ∀ n, mem a n → 0 ≤ n ∧ n ≤ hiF b := fun n hn => by
      have h := hn
      rw [e1, mem_clip] at h
      rw [l2]
      exact h.2
    have mb : ∀ n, mem b n → loF a ≤ n ∧ n ≤ 3652424 := fun n hn => by
      have h := hn
      rw [e2, mem_clip] at h
      rw [l1]
      exact h.2
    have x1 := ma _ alo
    have x2 := ma _ ahi
    have x3 := mb _ blo
    have hab := lo_le_hi sa na
    refine ⟨fun p hp => ?_, ⟨_, span_pair sa sb alo bhi (by omega), rfl⟩, ⟨_, span_pair sa sb ahi bhi (by omega), rfl⟩, ⟨_, span_pair sa sb alo blo (by omega), rfl⟩, ⟨_, span_pair sa sb alo bhi (by omega), rfl⟩⟩
    obtain ⟨p1, p2, p3⟩ := pair_span hp
    have := mem_between sa p1
    have := mem_between sb p2
    dsimp only
    omega

theorem Bounds.comb {p q : Q4} {P R : Int × Int → Prop} (h : Bounds p P) (k : Bounds q R) : Bounds (min p.1 q.1, max p.2.1 q.2.1, min p.2.2.1 q.2.2.1, max p.2.2.2 q.2.2.2) fun x => P x ∨ R x := by
  obtain ⟨h0, ⟨a1, h1, h1'⟩, ⟨a2, h2, h2'⟩, ⟨a3, h3, h3'⟩, ⟨a4, h4, h4'⟩⟩ := h
  obtain ⟨k0, ⟨b1, k1, k1'⟩, ⟨b2, k2, k2'⟩, ⟨b3, k3, k3'⟩, ⟨b4, k4, k4'⟩⟩ := k
  refine ⟨fun x hx => ?_, ?_, ?_, ?_, ?_⟩
  · rcases hx with hx | hx
    · have := h0 x hx; dsimp only; omega
    · have := k0 x hx; dsimp only; omega
  · rcases Int.le_total p.1 q.1 with e | e
    · exact ⟨a1, .inl h1, by dsimp only; omega⟩
    · exact ⟨b1, .inr k1, by dsimp only; omega⟩
  · rcases Int.le_total p.2.1 q.2.1 with e | e
    · exact ⟨b2, .inr k2, by dsimp only; omega⟩
    · exact ⟨a2, .inl h2, by dsimp only; omega⟩
  · rcases Int.le_total p.2.2.1 q.2.2.1 with e | e
    · exact ⟨a3, .inl h3, by dsimp only; omega⟩
    · exact ⟨b3, .inr k3, by dsimp only; omega⟩
  · rcases Int.le_total p.2.2.2 q.2.2.2 with e | e
    · exact ⟨b4, .inr k4, by dsimp only; omega⟩
    · exact ⟨a4, .inl h4, by dsimp only; omega⟩

theorem Bounds.congr {q : Q4} {P R : Int × Int → Prop} (h : Bounds q P) (k : ∀ p, P p ↔ R p) : Bounds q R := by
  have : P = R := funext fun p => propext (k p)
  subst this
  exact h

/-- A pair of some family. -/
def anyP (l : List Leaf) (p : Int × Int) : Prop := ∃ f ∈ l, p ∈ famPairs (ofF f)

theorem all_spec : ∀ (l : List Leaf), (allF l = none ∧ ∀ f ∈ l, ofF f = none) ∨ ∃ q, allF l = some q ∧ Bounds q (anyP l)
  | [] => .inl ⟨rfl, fun f h => by cases h⟩
  | f :: l => by
    rw [all_cons]
    have hc : ∀ p, anyP (f :: l) p ↔ p ∈ famPairs (ofF f) ∨ anyP l p := fun p => by
      unfold anyP
      constructor
      · rintro ⟨g, hg, h⟩
        rcases List.mem_cons.1 hg with e | e
        · subst e; exact .inl h
        · exact .inr ⟨g, e, h⟩
      · rintro (h | ⟨g, hg, h⟩)
        · exact ⟨f, List.mem_cons_self .., h⟩
        · exact ⟨g, List.mem_cons_of_mem _ hg, h⟩
    cases he : extF f with
    | none =>
      have hn := ext_none.1 he
      rcases all_spec l with ⟨h1, h2⟩ | ⟨q, h1, h2⟩
      · refine .inl ⟨h1, fun g hg => ?_⟩
        rcases List.mem_cons.1 hg with e | e
        · rw [e]; exact hn
        · exact h2 g e
      · refine .inr ⟨q, h1, h2.congr fun p => ?_⟩
        rw [hc, hn]
        exact ⟨.inr, fun h => h.elim (fun h => by cases h) id⟩
    | some p =>
      have hb := ext_bounds he
      rcases all_spec l with ⟨h1, h2⟩ | ⟨q, h1, h2⟩
      · refine .inr ⟨p, by rw [h1]; rfl, hb.congr fun x => ?_⟩
        rw [hc]
        refine ⟨.inl, fun h => h.elim id fun ⟨g, hg, hx⟩ => ?_⟩
        rw [h2 g hg] at hx
        cases hx
      · refine .inr ⟨_, by rw [h1]; rfl, (hb.comb h2).congr fun x => (hc x).symm⟩
end Go.Proofs.YtocmlcpcnjaaeaaDoor.V


/- The document's answer for leaves and their least and greatest days, and the program's: what the functions answer. No condition of its own. -/
namespace Go.Proofs.YtocmlcpcnjaaeaaDoor.V
open Go
set_option linter.unusedVariables false
set_option linter.unusedSimpArgs false

def asL (f : Leaf) : Leaf := if LeafSane f then f else (false, 0, [], [])

/-! ### The least and greatest days -/

/-- A list of leaves of few runs. -/
def FewL (n : Nat) (l : List Leaf) : Prop := l.length ≤ 1000000 ∧ ∀ f ∈ l, f.2.2.1.length ≤ n ∧ f.2.2.2.length ≤ n

def Q4.out : Option Q4 → Q4 × Bool
  | none => ((0, 0, 0, 0), false)
  | some q => (q, true)

theorem tidy_nil {f : Leaf} : (tidyF f).2.2.1 = [] ↔ extF f = none := by
  rw [ext_none]
  rcases ho : ofF f with _ | ⟨u, s⟩ | ⟨a, b⟩
  · have e : tidyF f = (false, 0, [], []) := by unfold tidyF; rw [ho]
    rw [e]; simp
  · obtain ⟨h1, h2, h3, h4, h5, h6, h7⟩ := of_units ho
    have e : tidyF f = (false, u, s, []) := by unfold tidyF; rw [ho]
    rw [e]; simp [h5]
  · obtain ⟨sa, sb, na, nb, l1, l2⟩ := span_ends ho
    have e : tidyF f = (true, 0, a, b) := by unfold tidyF; rw [ho]
    rw [e]; simp [na]

theorem all_take_succ {l : List Leaf} {k : Nat} {f : Leaf} (h : l[k]? = some f) : allF (l.take (k + 1)) = comb (allF (l.take k)) (extF f) := by
  rw [List.take_add_one, h, Option.toList_some, all_append]
  rfl

/-- One of the four days, or that there is none. -/
def dayF (sel : Q4 → Int) (l : List Leaf) : Int × Int := match allF l with
  | none => (0, 9)
  | some q => (sel q, 0)

/-! ### The program's -/

theorem ok_env_pick {gr : Bool} {g1 : Int × Int → Option (Int × Bool)} {g2 : Leaf → Option Runs} {s : Runs} (hn : s ≠ []) (hl : s.length ≤ 1000000000) : FnE bs n_env_way_pick ((Shape.pair sEnvWay (.slice sRun)).compsE ((gr, g1, g2), s)) (.int .i64) (· = if gr = true then hiF s else loF s) := by
  refine ok_of (e_env_way_pick ((gr, g1, g2), s) _) rfl ?_
  unfold c_env_way_pick
  dsimp only
  rw [rd_hi hn hl, rd_lo hn]
  exact cond_bool (fun h => ⟨last_in hn hl, by rw [if_pos h]⟩) fun h => ⟨first_in hn, by rw [if_neg (by rw [h]; decide)]⟩

/-- How a way tells a tidied leaf's day. -/
def WayV (gr : Bool) (g1 : Int × Int → Option (Int × Bool)) (g2 : Leaf → Option Runs) (f : Leaf) (v : Int) : Prop :=
  if f.1 = true then ∃ s, g2 f = some s ∧ s ≠ [] ∧ s.length ≤ 1000000000 ∧ (if gr = true then hiF s else loF s) = v
  else ∃ r, g1 (f.2.1, if gr = true then hiF f.2.2.1 else loF f.2.2.1) = some r ∧ r.1 = v

theorem ok_env_all {gr : Bool} {g1 : Int × Int → Option (Int × Bool)} {g2 : Leaf → Option Runs} {sel : Q4 → Int} {l : List Leaf} (hl : FewL 1000 l) (hv : ∀ f q, f ∈ l → extF f = some q → WayV gr g1 g2 (tidyF f) (sel q))
    (hs : ∀ p q : Q4, sel (min p.1 q.1, max p.2.1 q.2.1, min p.2.2.1 q.2.2.1, max p.2.2.2 q.2.2.2) = if gr = true then max (sel p) (sel q) else min (sel p) (sel q)) :
    FnE bs n_env_way_all ((Shape.pair sEnvWay (.slice sApiLeaf)).compsE ((gr, g1, g2), l)) (.tup (.pair (.int .i64) (.int .i64))) (· = dayF sel l) := by
  refine ok_of (e_env_way_all ((gr, g1, g2), l) _) rfl ?_
  unfold c_env_way_all
  have hll := hl.1
  refine loopP_of (fun z : Int × Int × Int => ∃ k : Nat, z.2.2 = k ∧ k ≤ l.length ∧ (z.1, z.2.1) = dayF sel (l.take k)) (fun z => l.length - z.2.2.toNat) ?_ ⟨0, rfl, Nat.zero_le _, rfl⟩
  rintro ⟨best, e, _⟩ A ⟨k, e1, hk, e2⟩ back
  dsimp only at e1 e2 ⊢
  subst e1
  refine cond_dec (fun h1 => ⟨⟨by omega, h1⟩, ?_⟩) fun h1 => ?_
  · have h1 : (k : Int) < l.length := h1
    have hk' : k < l.length := by omega
    have hg := List.getElem?_eq_getElem hk'
    generalize l[k] = f at hg
    have hfm := List.mem_of_getElem? hg
    have hf := hl.2 f hfm
    have ht := tidy_lens f
    rw [toNat_ofNat, rd_of (s := sApiLeaf) hg, w_succ (by omega)]
    refine callP_eq (ok_leaf_Tidy (f := f) (by omega) (by omega)) (cond_dec (fun h2 => ?_) fun h2 => ?_)
    · have h2 : extF f = none := tidy_nil.1 (len_zero.1 h2)
      refine back _ ⟨k + 1, rfl, hk', ?_⟩ (by dsimp only; omega)
      dsimp only
      unfold dayF at e2 ⊢
      rw [all_take_succ hg, h2, comb_none, ← e2]
    · have hne : (tidyF f).2.2.1 ≠ [] := fun e => h2 (len_zero.2 e)
      have h2 : ¬ extF f = none := fun e => hne (tidy_nil.2 e)
      obtain ⟨x, hx⟩ := Option.ne_none_iff_exists'.1 h2
      have hw := hv f x hfm hx
      -- the day is told: is it better?
      have step : ∀ v : Int, v = sel x → cond (!decide (e = (0 : Int))) (A (v, (0 : Int), ((k + 1 : Nat) : Int))) (cond (decide ((decide (best < v)) = gr)) (A (v, (0 : Int), ((k + 1 : Nat) : Int))) (A (best, e, ((k + 1 : Nat) : Int)))) := by
        intro v ev
        have next : ∀ b : Int, (∀ y, allF (l.take k) = some y → b = if gr = true then max (sel y) v else min (sel y) v) → (allF (l.take k) = none → b = v) → A (b, (0 : Int), ((k + 1 : Nat) : Int)) := by
          intro b q1 q2
          refine back _ ⟨k + 1, rfl, hk', ?_⟩ (by dsimp only; omega)
          dsimp only
          unfold dayF
          rw [all_take_succ hg, hx]
          cases hq : allF (l.take k) with
          | none =>
            rw [q2 hq, ev]
            rfl
          | some y =>
            rw [q1 y hq, ev]
            simp only [comb]
            rw [hs]
        unfold dayF at e2
        cases hq : allF (l.take k) with
        | none =>
          rw [hq] at e2
          have e3 : e = 9 := congrArg Prod.snd e2
          subst e3
          exact cond_yes (by decide) (next v (fun y hy => by rw [hq] at hy; cases hy) fun _ => rfl)
        | some y =>
          rw [hq] at e2
          have e3 : e = 0 := congrArg Prod.snd e2
          have e4 : best = sel y := congrArg Prod.fst e2
          subst e3
          refine cond_no (by decide) (cond_dec (fun h3 => next v (fun z hz => ?_) fun hz => absurd (hq.symm.trans hz) (by simp)) fun h3 => next best (fun z hz => ?_) fun hz => absurd (hq.symm.trans hz) (by simp)) <;> rw [hq] at hz <;> cases hz
          · rw [← e4, ← h3]
            by_cases hb : best < v
            · rw [if_pos (by simpa using hb)]; omega
            · rw [if_neg (by simpa using hb)]; omega
          · rw [← e4]
            cases gr with
            | true =>
              have : ¬ best < v := fun q => h3 (by simpa using q)
              rw [if_pos rfl]; omega
            | false =>
              have : best < v := by simpa using h3
              rw [if_neg (by decide)]; omega
      unfold WayV at hw
      refine cond_bool (fun h3 => ?_) fun h3 => ?_
      · have h3 : (tidyF f).1 = true := h3
        rw [if_pos h3] at hw
        obtain ⟨s, w1, w2, w3, w4⟩ := hw
        exact gcall_eq w1 (callP_eq (ok_env_pick w2 w3) (step _ w4))
      · have h3 : (tidyF f).1 = false := h3
        rw [if_neg (by rw [h3]; decide)] at hw
        obtain ⟨r, w1, w2⟩ := hw
        exact callP_eq (ok_env_pick hne (by omega)) (gcall_eq w1 (step _ w2))
  · rw [List.take_of_length_le (by have h1 : ¬ (k : Int) < l.length := h1; omega)] at e2
    exact e2

theorem cl_First : CloSpec bs 24 [] [] (.pair (.int .i64) (.int .i64)) (.tup (.pair (.int .i64) .bool)) (fun x => some (firstS x.1 x.2)) := ⟨(ok_unit_First (kind := 0) (i := 0)).1, fun x r hx => by cases hx; exact ok_unit_First⟩
theorem cl_Last : CloSpec bs 27 [] [] (.pair (.int .i64) (.int .i64)) (.tup (.pair (.int .i64) .bool)) (fun x => some (lastS x.1 x.2)) := ⟨(ok_unit_Last (kind := 0) (i := 0)).1, fun x r hx => by cases hx; exact ok_unit_Last⟩
theorem ok_env_starts {f : Leaf} : FnE bs n_env_starts (sApiLeaf.compsE f) (.slice sRun) (· = f.2.2.1) := ok_of (e_env_starts f _) rfl rfl
theorem ok_env_ends {f : Leaf} : FnE bs n_env_ends (sApiLeaf.compsE f) (.slice sRun) (· = f.2.2.2) := ok_of (e_env_ends f _) rfl rfl
theorem cl_starts : CloSpec bs 25 [] [] sApiLeaf (.slice sRun) (fun x : Leaf => some x.2.2.1) := ⟨(ok_env_starts (f := (false, 0, [], []))).1, fun x r hx => by cases hx; rw [List.append_nil]; exact ok_env_starts⟩
theorem cl_ends : CloSpec bs 28 [] [] sApiLeaf (.slice sRun) (fun x : Leaf => some x.2.2.2) := ⟨(ok_env_ends (f := (false, 0, [], []))).1, fun x r hx => by cases hx; rw [List.append_nil]; exact ok_env_ends⟩

theorem way_of {gr : Bool} {g1 : Int × Int → Option (Int × Bool)} {g2 : Leaf → Option Runs} {f : Leaf} {q : Q4} (h : extF f = some q) (hla : (tidyF f).2.2.1.length ≤ 1000000000) (hlb : (tidyF f).2.2.2.length ≤ 1000000000) {v : Int}
    (hu : ∀ u s, ofF f = some (.inl (u, s)) → (0 ≤ loF s ∧ loF s < VCal.ucount u) → (0 ≤ hiF s ∧ hiF s < VCal.ucount u) → ∃ r, g1 (u, if gr = true then hiF s else loF s) = some r ∧ r.1 = v)
    (hb : ∀ a b, ofF f = some (.inr (a, b)) → ∃ s, g2 (true, 0, a, b) = some s ∧ (s = a ∨ s = b) ∧ (if gr = true then hiF s else loF s) = v) : WayV gr g1 g2 (tidyF f) v := by
  unfold WayV
  rcases ho : ofF f with _ | ⟨u, s⟩ | ⟨a, b⟩
  · rw [ext_none.2 ho] at h; cases h
  · have e : tidyF f = (false, u, s, []) := by unfold tidyF; rw [ho]
    obtain ⟨h1, h2, h3, h4, h5, h6, h7⟩ := of_units ho
    have b1 := Within.bounds h6 (mem_lo h6.1 h5)
    have b2 := Within.bounds h6 (mem_hi h6.1 h5)
    rw [e, if_neg (by simp)]
    exact hu u s ho (by omega) (by omega)
  · have e : tidyF f = (true, 0, a, b) := by unfold tidyF; rw [ho]
    obtain ⟨sa, sb, na, nb, l1, l2⟩ := span_ends ho
    rw [e] at hla hlb
    rw [e, if_pos rfl]
    obtain ⟨s, w1, w2, w3⟩ := hb a b ho
    rcases w2 with rfl | rfl
    · exact ⟨_, w1, na, hla, w3⟩
    · exact ⟨_, w1, nb, hlb, w3⟩

section
variable {l : List Leaf} (hl : FewL 1000 l)

theorem FewL.tidy {f : Leaf} (hl : FewL 1000 l) (hf : f ∈ l) : (tidyF f).2.2.1.length ≤ 1000000000 ∧ (tidyF f).2.2.2.length ≤ 1000000000 := by
  have := hl.2 f hf
  have := tidy_lens f
  omega

theorem ok_env_Earliest (hl : FewL 1000 l) : FnE bs n_env_Earliest ((Shape.slice sApiLeaf).compsE l) (.tup (.pair (.int .i64) (.int .i64))) (· = dayF (·.1) l) := by
  refine ok_of (e_env_Earliest l _) rfl ?_
  unfold c_env_Earliest
  refine ⟨_, cl_First, _, cl_starts, callP_eq (ok_env_all (sel := (·.1)) hl (fun f q hf hq => ?_) fun p q => rfl) rfl⟩
  have ht := hl.tidy hf
  refine way_of hq ht.1 ht.2 (fun u s ho b1 b2 => ⟨_, rfl, ?_⟩) fun a b ho => ⟨_, rfl, .inl rfl, ?_⟩ <;> unfold extF at hq <;> rw [ho] at hq <;> cases hq
  · show (firstS u (loF s)).1 = _
    unfold firstS
    rw [if_pos (by omega)]
  · rfl

theorem ok_env_Latest (hl : FewL 1000 l) : FnE bs n_env_Latest ((Shape.slice sApiLeaf).compsE l) (.tup (.pair (.int .i64) (.int .i64))) (· = dayF (·.2.2.2) l) := by
  refine ok_of (e_env_Latest l _) rfl ?_
  unfold c_env_Latest
  refine ⟨_, cl_Last, _, cl_ends, callP_eq (ok_env_all (sel := (·.2.2.2)) hl (fun f q hf hq => ?_) fun p q => rfl) rfl⟩
  have ht := hl.tidy hf
  refine way_of hq ht.1 ht.2 (fun u s ho b1 b2 => ⟨_, rfl, ?_⟩) fun a b ho => ⟨_, rfl, .inr rfl, ?_⟩ <;> unfold extF at hq <;> rw [ho] at hq <;> cases hq
  · dsimp only; unfold lastS; rw [if_pos rfl, if_pos (by omega)]
  · rfl

theorem ok_env_FirstEnd (hl : FewL 1000 l) : FnE bs n_env_FirstEnd ((Shape.slice sApiLeaf).compsE l) (.tup (.pair (.int .i64) (.int .i64))) (· = dayF (·.2.2.1) l) := by
  refine ok_of (e_env_FirstEnd l _) rfl ?_
  unfold c_env_FirstEnd
  refine ⟨_, cl_Last, _, cl_ends, callP_eq (ok_env_all (sel := (·.2.2.1)) hl (fun f q hf hq => ?_) fun p q => rfl) rfl⟩
  have ht := hl.tidy hf
  refine way_of hq ht.1 ht.2 (fun u s ho b1 b2 => ⟨_, rfl, ?_⟩) fun a b ho => ⟨_, rfl, .inr rfl, ?_⟩ <;> unfold extF at hq <;> rw [ho] at hq <;> cases hq
  · show (lastS u (loF s)).1 = _
    unfold lastS
    rw [if_pos (by omega)]
  · rfl

theorem ok_env_LastStart (hl : FewL 1000 l) : FnE bs n_env_LastStart ((Shape.slice sApiLeaf).compsE l) (.tup (.pair (.int .i64) (.int .i64))) (· = dayF (·.2.1) l) := by
  refine ok_of (e_env_LastStart l _) rfl ?_
  unfold c_env_LastStart
  refine ⟨_, cl_First, _, cl_starts, callP_eq (ok_env_all (sel := (·.2.1)) hl (fun f q hf hq => ?_) fun p q => rfl) rfl⟩
  have ht := hl.tidy hf
  refine way_of hq ht.1 ht.2 (fun u s ho b1 b2 => ⟨_, rfl, ?_⟩) fun a b ho => ⟨_, rfl, .inl rfl, ?_⟩ <;> unfold extF at hq <;> rw [ho] at hq <;> cases hq
  · dsimp only; unfold firstS; rw [if_pos rfl, if_pos (by omega)]
  · rfl
end
end Go.Proofs.YtocmlcpcnjaaeaaDoor.V


/- Places in order: plain facts. No program in sight. -/
namespace Go.Proofs.YtocmlcpcnjaaeaaDoor.V
set_option linter.unusedVariables false
set_option linter.unusedSimpArgs false

/-- A place, its key, and whether it is empty. -/
abbrev Pl := Int × (Int × Int) × Bool

/-- Is one taken ahead of another one, or alike? -/
def leP (a b : Pl) : Prop := (a.2.2 = false ∧ b.2.2 = true) ∨ (a.2.2 = b.2.2 ∧ (a.2.1.1 < b.2.1.1 ∨ (a.2.1.1 = b.2.1.1 ∧ (a.2.1.2 < b.2.1.2 ∨ (a.2.1.2 = b.2.1.2 ∧ a.1 ≤ b.1)))))
instance (a b : Pl) : Decidable (leP a b) := inferInstanceAs (Decidable (_ ∨ _))

theorem ordP : HP.Ord leP := by
  refine ⟨fun a b => ?_, fun a b c h k => ?_⟩
  · obtain ⟨a1, ⟨a2, a3⟩, a4⟩ := a
    obtain ⟨b1, ⟨b2, b3⟩, b4⟩ := b
    unfold leP
    dsimp only
    cases a4 <;> cases b4 <;> simp <;> omega
  · obtain ⟨a1, ⟨a2, a3⟩, a4⟩ := a
    obtain ⟨b1, ⟨b2, b3⟩, b4⟩ := b
    obtain ⟨c1, ⟨c2, c3⟩, c4⟩ := c
    unfold leP at *
    dsimp only at *
    cases a4 <;> cases b4 <;> cases c4 <;> simp at * <;> omega

/-- The key of families, and whether they are empty. -/
def keyF (x : List Leaf) : (Int × Int) × Bool := (((dayF (·.1) x).1, (dayF (·.2.2.2) x).1), !decide ((dayF (·.1) x).2 = 0))

def placesF (l : List (List Leaf)) : List Pl := (List.range l.length).map fun (k : Nat) => ((k : Int), keyF (l.getD k []))

theorem places_take {l : List (List Leaf)} {k : Nat} (h : k < l.length) : placesF (l.take (k + 1)) = placesF (l.take k) ++ [((k : Int), keyF (l.getD k []))] := by
  unfold placesF
  have e1 : (l.take (k + 1)).length = k + 1 := by rw [List.length_take]; omega
  have e2 : (l.take k).length = k := by rw [List.length_take]; omega
  rw [e1, e2, List.range_succ, List.map_append, List.map_singleton]
  congr 1
  · refine List.map_congr_left fun j hj => ?_
    have hj := List.mem_range.1 hj
    rw [List.getD_eq_getElem?_getD, List.getD_eq_getElem?_getD, List.getElem?_take, List.getElem?_take, if_pos (by omega), if_pos (by omega)]
  · rw [List.getD_eq_getElem?_getD, List.getElem?_take, if_pos (by omega), ← List.getD_eq_getElem?_getD]

/-- What sorting answers. -/
def SortR (l : List (List Leaf)) (out : List Int) : Prop := ∃ ps : List Pl, ps.Perm (placesF l) ∧ ps.Pairwise leP ∧ out = ps.map (·.1)

theorem placesF_length (l : List (List Leaf)) : (placesF l).length = l.length := by simp [placesF]

/-- What was taken, and the heap that is left. -/
def Took (all taken heap : List Pl) : Prop := (taken ++ heap).Perm all ∧ taken.Pairwise leP ∧ ∀ a ∈ taken, ∀ b ∈ heap, leP a b

theorem Took.start (all heap : List Pl) (h : heap.Perm all) : Took all [] heap := ⟨h, List.Pairwise.nil, fun a ha => by cases ha⟩

theorem Took.step {all taken heap heap' : List Pl} {x : Pl} (h : Took all taken heap) (hp : heap.Perm (x :: heap')) (hx : ∀ b ∈ heap, leP x b) : Took all (taken ++ [x]) heap' := by
  obtain ⟨h1, h2, h3⟩ := h
  have hxm : x ∈ heap := hp.symm.subset (List.mem_cons_self ..)
  refine ⟨?_, ?_, ?_⟩
  · rw [List.append_assoc]
    exact (List.Perm.append_left taken hp.symm).trans h1
  · rw [List.pairwise_append]
    refine ⟨h2, List.pairwise_singleton _ _, fun a ha b hb => ?_⟩
    cases List.mem_singleton.1 hb
    exact h3 a ha x hxm
  · intro a ha b hb
    have hbm : b ∈ heap := hp.symm.subset (List.mem_cons_of_mem _ hb)
    rcases List.mem_append.1 ha with ha | ha
    · exact h3 a ha b hbm
    · cases List.mem_singleton.1 ha
      exact hx b hbm

theorem Took.done {all taken : List Pl} (h : Took all taken []) : taken.Perm all ∧ taken.Pairwise leP := ⟨by simpa using h.1, h.2.1⟩
end Go.Proofs.YtocmlcpcnjaaeaaDoor.V


/- What sets of units cover: plain facts. No program in sight. -/
namespace Go.Proofs.YtocmlcpcnjaaeaaDoor.V
set_option linter.unusedVariables false
set_option linter.unusedSimpArgs false

def unitsF (u : Int) (s : Runs) : Runs := clipF (makeF s) 0 (VCal.ucount u - 1)
theorem units_sane (u : Int) (s : Runs) : Sane (unitsF u s) := sane_clip (make_sane s)
theorem units_length (u : Int) (s : Runs) : (unitsF u s).length ≤ s.length := Nat.le_trans (clip_length _ _ _) (make_length s)
theorem mem_units {u : Int} {s : Runs} {n : Int} : mem (unitsF u s) n ↔ mem (makeF s) n ∧ 0 ≤ n ∧ n < VCal.ucount u := by
  unfold unitsF
  rw [mem_clip]
  constructor
  · rintro ⟨a, b, c⟩; exact ⟨a, b, by omega⟩
  · rintro ⟨a, b, c⟩; exact ⟨a, b, by omega⟩

theorem units_in {u : Int} {s : Runs} {r : Int × Int} (h : r ∈ unitsF u s) : 0 ≤ r.1 ∧ r.1 ≤ r.2 ∧ r.2 < VCal.ucount u := by
  have h1 := (Sane.bounds (units_sane u s) r h).2.1
  have a := (mem_units (u := u) (s := s) (n := r.1)).1 ⟨r, h, Int.le_refl _, h1⟩
  have b := (mem_units (u := u) (s := s) (n := r.2)).1 ⟨r, h, h1, Int.le_refl _⟩
  omega

/-- A set of units that are within is what it is. -/
theorem units_self {u : Int} {s : Runs} (h : Within s (VCal.ucount u - 1)) : unitsF u s = s := by
  refine sane_ext (units_sane u s) h.1 fun n => ?_
  rw [mem_units, make_self h.1]
  exact ⟨fun q => q.1, fun q => ⟨q, by have := Within.bounds h q; omega⟩⟩

def spanOf (u : Int) (r : Int × Int) : Int × Int := (VCal.ufirst u r.1, VCal.ulast u r.2)
def coverF (u : Int) (s : Runs) : Runs := makeF ((unitsF u s).map (spanOf u))

theorem cover_length (u : Int) (s : Runs) : (coverF u s).length ≤ s.length := by
  have := make_length ((unitsF u s).map (spanOf u))
  rw [List.length_map] at this
  exact Nat.le_trans this (units_length u s)

theorem cover_sane (u : Int) (s : Runs) : Sane (coverF u s) := make_sane _

theorem unit_at {u : Int} : ∀ (n : Nat) (i j d : Int), j - i ≤ n → 0 ≤ i → j < VCal.ucount u → i ≤ j → VCal.ufirst u i ≤ d → d ≤ VCal.ulast u j → ∃ k, VCal.uof u d = some k ∧ i ≤ k ∧ k ≤ j
  | 0, i, j, d, hn, h0, hj, hij, h1, h2 => by
    obtain rfl : i = j := by omega
    exact ⟨i, VCal.uof_some.2 ⟨h0, hj, h1, h2⟩, by omega, by omega⟩
  | n + 1, i, j, d, hn, h0, hj, hij, h1, h2 => by
    by_cases e : d ≤ VCal.ulast u i
    · exact ⟨i, VCal.uof_some.2 ⟨h0, by omega, h1, e⟩, by omega, hij⟩
    · by_cases e2 : i = j
      · subst e2; omega
      · have := VCal.ulast_next (kind := u) (i := i) (by omega)
        obtain ⟨k, a, b, c⟩ := unit_at n (i + 1) j d (by omega) (by omega) hj (by omega) (by omega) h2
        exact ⟨k, a, by omega, c⟩

theorem mem_cover {u : Int} {s : Runs} {d : Int} : mem (coverF u s) d ↔ ∃ i, VCal.uof u d = some i ∧ mem (makeF s) i := by
  unfold coverF
  rw [mem_make]
  constructor
  · rintro ⟨_, _, q, hq, h1, h2⟩
    obtain ⟨r, hr, rfl⟩ := List.mem_map.1 hq
    have hi := units_in hr
    obtain ⟨k, a, b, c⟩ := unit_at (r.2 - r.1).toNat r.1 r.2 d (by omega) hi.1 hi.2.2 hi.2.1 h1 h2
    exact ⟨k, a, (mem_units.1 ⟨r, hr, b, c⟩).1⟩
  · rintro ⟨i, hi, hm⟩
    obtain ⟨a, b, c, d'⟩ := VCal.uof_some.1 hi
    have hd := VCal.unit_in a b
    obtain ⟨r, hr, h1, h2⟩ := (mem_units (u := u)).2 ⟨hm, a, b⟩
    have hr' := units_in hr
    have l1 := ufirst_le (u := u) (i := r.1) (j := i) hr'.1 h1 b
    have l2 := ufirst_le (u := u) (i := i) (j := r.2) a h2 hr'.2.2
    refine ⟨by unfold Lim; omega, by unfold Lim; omega, spanOf u r, List.mem_map.2 ⟨r, hr, rfl⟩, ?_, ?_⟩
    · show VCal.ufirst u r.1 ≤ d; omega
    · show d ≤ VCal.ulast u r.2; omega

/-- The days of a leaf. -/
def partF (f : Leaf) : Runs := match ofF f with
  | none => []
  | some (.inl (u, s)) => coverF u s
  | some (.inr (a, b)) => [(loF a, hiF b)]

theorem mem_lim2 {s : Runs} {m n : Int} (h : Within s m) (hn : mem s n) (hm : m ≤ 3652424) : 0 ≤ n ∧ n ≤ 3652424 := by
  have := Within.bounds h hn
  omega

theorem mem_part {f : Leaf} {d : Int} : memL (partF f) d ↔ CoversF f d := by
  unfold memL partF CoversF
  rcases ho : ofF f with _ | ⟨u, s⟩ | ⟨a, b⟩
  · exact ⟨fun h => mem_nil h.2.2, False.elim⟩
  · obtain ⟨h1, h2, h3, h4, h5, h6, h7⟩ := of_units ho
    dsimp only
    rw [mem_cover, make_self h6.1]
    constructor
    · exact fun h => h.2.2
    · rintro ⟨i, hi, hm⟩
      obtain ⟨q1, q2, q3, q4⟩ := VCal.uof_some.1 hi
      have := VCal.unit_in q1 q2
      exact ⟨by unfold Lim; omega, by unfold Lim; omega, i, hi, hm⟩
  · obtain ⟨h1, h2, h3, h4, h5, h6, h7, rfl, rfl⟩ := of_span ho
    obtain ⟨sa, sb, na, nb, l1, l2⟩ := span_ends ho
    have b1 := Within.bounds h6 (mem_lo h6.1 h3)
    have b2 := Within.bounds h7 (mem_hi h7.1 h4)
    dsimp only
    rw [mem_cons, l1, l2]
    constructor
    · rintro ⟨_, _, h | h⟩
      · exact h
      · exact (mem_nil h).elim
    · exact fun h => ⟨by unfold Lim; omega, by unfold Lim; omega, .inl h⟩

theorem part_length (f : Leaf) : (partF f).length ≤ f.2.2.1.length + 1 := by
  unfold partF
  rcases ho : ofF f with _ | ⟨u, s⟩ | ⟨a, b⟩
  · exact Nat.zero_le _
  · obtain ⟨h1, h2, rfl, rfl, h5, h6, h7⟩ := of_units ho
    exact Nat.le_trans (cover_length _ _) (Nat.le_succ _)
  · simp

theorem memL_append {a b : Runs} {n : Int} : memL (a ++ b) n ↔ memL a n ∨ memL b n := by
  unfold memL
  rw [mem_append]
  constructor
  · rintro ⟨a, b, h | h⟩
    · exact .inl ⟨a, b, h⟩
    · exact .inr ⟨a, b, h⟩
  · rintro (⟨a, b, h⟩ | ⟨a, b, h⟩)
    · exact ⟨a, b, .inl h⟩
    · exact ⟨a, b, .inr h⟩

def daysL (l : List Leaf) : Runs := l.flatMap partF
theorem days_length : ∀ (l : List Leaf) {n : Nat}, (∀ f ∈ l, f.2.2.1.length ≤ n) → (daysL l).length ≤ l.length * (n + 1)
  | [], _, _ => by simp [daysL]
  | f :: l, n, h => by
    have h1 := days_length l fun g hg => h g (List.mem_cons_of_mem _ hg)
    have h2 := part_length f
    have h3 := h f List.mem_cons_self
    unfold daysL at *
    rw [List.flatMap_cons, List.length_append, List.length_cons, Nat.add_mul]
    omega

theorem mem_days : ∀ {l : List Leaf} {d : Int}, memL (daysL l) d ↔ ∃ f ∈ l, CoversF f d
  | [], d => ⟨fun h => (mem_nil h.2.2).elim, fun ⟨f, hf, _⟩ => by cases hf⟩
  | f :: l, d => by
    unfold daysL
    rw [List.flatMap_cons, memL_append, mem_part]
    have := mem_days (l := l) (d := d)
    unfold daysL at this
    rw [this]
    simp

/-- All days that are possible. -/
def daysF (l : List Leaf) : Runs := makeF (daysL l)
theorem mem_daysF {l : List Leaf} {d : Int} : mem (daysF l) d ↔ ∃ f ∈ l, CoversF f d := mem_make.trans mem_days

/-- All that are certain. -/
def sureF (l : List Leaf) : Runs := match allF l with
  | none => []
  | some q => makeF [(q.2.1, q.2.2.1)]

theorem covers_iff {f : Leaf} {d : Int} : CoversF f d ↔ ∃ p ∈ famPairs (ofF f), p.1 ≤ d ∧ d ≤ p.2 :=
  ⟨fam_covers, fun ⟨p, hp, h1, h2⟩ => (fam_pair hp).2.2 d h1 h2⟩

theorem any_covers {l : List Leaf} {d : Int} : (∃ f ∈ l, CoversF f d) ↔ ∃ p, anyP l p ∧ p.1 ≤ d ∧ d ≤ p.2 := by
  constructor
  · rintro ⟨f, hf, h⟩
    obtain ⟨p, hp, h1, h2⟩ := covers_iff.1 h
    exact ⟨p, ⟨f, hf, hp⟩, h1, h2⟩
  · rintro ⟨p, ⟨f, hf, hp⟩, h1, h2⟩
    exact ⟨f, hf, covers_iff.2 ⟨p, hp, h1, h2⟩⟩

theorem any_in {l : List Leaf} {p : Int × Int} (h : anyP l p) : 0 ≤ p.1 ∧ p.1 ≤ p.2 ∧ p.2 ≤ 3652424 := by
  obtain ⟨f, hf, hp⟩ := h
  exact (fam_pair hp).1

/-- Certain: in each pair, of which there is one. -/
theorem mem_sure {l : List Leaf} {d : Int} : mem (sureF l) d ↔ (∃ p, anyP l p) ∧ ∀ p, anyP l p → p.1 ≤ d ∧ d ≤ p.2 := by
  unfold sureF
  rcases all_spec l with ⟨h1, h2⟩ | ⟨q, h1, h0, ⟨p1, c1, d1⟩, ⟨p2, c2, d2⟩, ⟨p3, c3, d3⟩, ⟨p4, c4, d4⟩⟩
  · rw [h1]
    refine ⟨fun h => (mem_nil h).elim, ?_⟩
    rintro ⟨⟨p, f, hf, hp⟩, _⟩
    rw [h2 f hf] at hp
    cases hp
  · rw [h1]
    dsimp only
    rw [mem_make]
    unfold memL
    rw [mem_cons]
    constructor
    · rintro ⟨_, _, h | h⟩
      · refine ⟨⟨p1, c1⟩, fun p hp => ?_⟩
        have := h0 p hp
        dsimp only at h
        omega
      · exact (mem_nil h).elim
    · rintro ⟨_, h⟩
      have a := h p2 c2
      have b := h p3 c3
      have := any_in c2
      have := any_in c3
      refine ⟨by unfold Lim; omega, by unfold Lim; omega, .inl ⟨by dsimp only; omega, by dsimp only; omega⟩⟩
end Go.Proofs.YtocmlcpcnjaaeaaDoor.V


/- image.units, image.Cover, cover: their contracts. No condition of its own. -/
namespace Go.Proofs.YtocmlcpcnjaaeaaDoor.V
open Go
set_option linter.unusedVariables false
set_option linter.unusedSimpArgs false

/-! ### Possible -/

noncomputable def covG (d : Int) (f : Leaf) : Option Bool := if f.2.2.1.length ≤ 1000000000 ∧ f.2.2.2.length ≤ 1000000000 then some (@decide (CoversF f d) (Classical.propDecidable _)) else none

/-! ### Days, Sure, Certain -/

theorem dayF_of {l : List Leaf} {sel : Q4 → Int} : dayF sel l = match allF l with | none => (0, 9) | some q => (sel q, 0) := rfl

end Go.Proofs.YtocmlcpcnjaaeaaDoor.V


/- lustrumlaw16: the laws of the least and greatest days, as conditions on the program's functions alone. No condition of its own. -/
namespace Go.Proofs.YtocmlcpcnjaaeaaDoor.V
open Go
set_option linter.unusedVariables false
set_option linter.unusedSimpArgs false

theorem w_succ63 {a : Nat} (h : a < 9223372036854775807) : w64 ((a : Int) + 1) = ((a + 1 : Nat) : Int) := by rw [w64_of (by omega)]; omega
theorem some_off {α : Type} {p : α} {s : α → Int} : (!decide ((match some p with | none => ((0 : Int), (9 : Int)) | some q => (s q, 0)).2 = 0)) = false := rfl

def exEnv : List Leaf := [(false, 3, [(1984, 1984)], []), (false, 1, [(23825, 23825)], [])]
theorem exEnv_all : allF exEnv = some (724641, 725158, 725006, 725187) := by decide +kernel

theorem exEnv_few : FewL 1000 exEnv := ⟨by decide, fun f hf => by
  rcases List.mem_cons.1 hf with e | hf
  · subst e; decide
  · rcases List.mem_cons.1 hf with e | hf
    · subst e; decide
    · cases hf⟩

theorem ok_lustrumref15_Few {l : List Leaf} (hl : l.length ≤ 9223372036854775807) : FnE bs n_lustrumref15_Few ((Shape.slice sApiLeaf).compsE l) .bool (fun r => r = true → l.length ≤ 12 ∧ FewL 40 l) := by
  refine ok_of (e_lustrumref15_Few l _) rfl ?_
  unfold c_lustrumref15_Few
  refine loopP_of (fun z : Int => ∃ k : Nat, z = k ∧ k ≤ l.length ∧ ∀ (i : Nat) f, i < k → l[i]? = some f → f.2.2.1.length ≤ 40 ∧ f.2.2.2.length ≤ 40) (fun z => l.length - z.toNat) ?_ ⟨0, rfl, Nat.zero_le _, fun i f h => by omega⟩
  rintro _ A ⟨k, rfl, hk, hi⟩ back
  refine cond_dec (fun h1 => ⟨⟨by omega, h1⟩, ?_⟩) fun h1 => ?_
  · have h1 : (k : Int) < l.length := h1
    have hk' : k < l.length := by omega
    have hg := List.getElem?_eq_getElem hk'
    generalize l[k] = f at hg
    rw [toNat_ofNat, rd_of (s := sApiLeaf) hg, w_succ63 (by omega)]
    refine callP_eq (ok_lustrumref14_Few (f := f)) (cond_not (fun h => fun q => by cases q) fun h => ?_)
    have hf : f.2.2.1.length ≤ 40 ∧ f.2.2.2.length ≤ 40 := by simpa using h
    refine back _ ⟨k + 1, rfl, hk', fun i g hik hg2 => ?_⟩ (by omega)
    by_cases e : i = k
    · subst e; rw [hg] at hg2; cases hg2; exact hf
    · exact hi i g (by omega) hg2
  · intro h
    have h : (l.length : Int) ≤ 12 := of_decide_eq_true h
    refine ⟨by omega, by omega, fun f hf => ?_⟩
    obtain ⟨i, hi2⟩ := List.getElem?_of_mem hf
    have := (List.getElem?_eq_some_iff.1 hi2).1
    exact hi i f (by have h1 : ¬ (k : Int) < l.length := h1; omega) hi2

theorem FewL.mono {n m : Nat} {l : List Leaf} (h : FewL n l) (hnm : n ≤ m) : FewL m l := ⟨h.1, fun f hf => by have := h.2 f hf; omega⟩

theorem few1000 {l : List Leaf} (h : FewL 40 l) : FewL 1000 l := h.mono (by decide)

theorem few_append {l m : List Leaf} (h : l.length ≤ 12 ∧ FewL 40 l) (k : m.length ≤ 12 ∧ FewL 40 m) : FewL 1000 (l ++ m) := by
  refine ⟨by rw [List.length_append]; omega, fun f hf => ?_⟩
  rcases List.mem_append.1 hf with e | e
  · have := h.2.2 f e; omega
  · have := k.2.2 f e; omega

theorem all_none_iff {l : List Leaf} : allF l = none ↔ ∀ f ∈ l, ofF f = none := by
  rcases all_spec l with ⟨h1, h2⟩ | ⟨q, h1, _, ⟨p, ⟨f, hf, hp⟩, _⟩, _⟩
  · exact ⟨fun _ => h2, fun _ => h1⟩
  · refine ⟨fun e => (by rw [h1] at e; cases e), fun h => ?_⟩
    rw [h f hf] at hp
    cases hp

open Classical in
theorem ok_denote_Has {l : List Leaf} {p : Int × Int} (hl : FewL 1000 l) : FnE bs n_denote_Has ((Shape.pair (.slice sApiLeaf) sRun).compsE (l, p)) .bool (· = decide (∃ f ∈ l, HasF f p)) := by
  refine ok_of (e_denote_Has (l, p) _) rfl ?_
  unfold c_denote_Has
  have hll := hl.1
  refine loopP_of (fun z : Int => ∃ k : Nat, z = k ∧ k ≤ l.length ∧ ∀ (i : Nat) f, i < k → l[i]? = some f → ¬ HasF f p) (fun z => l.length - z.toNat) ?_ ⟨0, rfl, Nat.zero_le _, fun i f h => by omega⟩
  rintro _ A ⟨k, rfl, hk, hi⟩ back
  refine cond_dec (fun h1 => ⟨⟨by omega, h1⟩, ?_⟩) fun h1 => ?_
  · have h1 : (k : Int) < l.length := h1
    have hk' : k < l.length := by omega
    have hg := List.getElem?_eq_getElem hk'
    generalize l[k] = f at hg
    have hfm := List.mem_of_getElem? hg
    have hf := hl.2 f hfm
    dsimp only
    rw [toNat_ofNat, rd_of (s := sApiLeaf) hg, w_succ (by omega)]
    refine callP_eq (ok_leaf_Has (f := f) (by omega) (by omega)) (cond_dec (fun h => ?_) fun h => ?_)
    · exact be (decide_eq_true ⟨f, hfm, h⟩).symm
    · refine back _ ⟨k + 1, rfl, hk', fun i g hik hg2 => ?_⟩ (by omega)
      by_cases e : i = k
      · subst e; rw [hg] at hg2; cases hg2; exact h
      · exact hi i g (by omega) hg2
  · refine be (decide_eq_false ?_).symm
    rintro ⟨f, hf, hh⟩
    obtain ⟨i, hi2⟩ := List.getElem?_of_mem hf
    have := (List.getElem?_eq_some_iff.1 hi2).1
    exact hi i f (by have h1 : ¬ (k : Int) < l.length := h1; omega) hi2 hh

end Go.Proofs.YtocmlcpcnjaaeaaDoor.V


/- lustrumlaw17: the laws of the days that are possible, and certain, as conditions on the program's functions alone. No condition of its own. -/
namespace Go.Proofs.YtocmlcpcnjaaeaaDoor.V
open Go
set_option linter.unusedVariables false
set_option linter.unusedSimpArgs false

def exCover : List Leaf := [(true, 0, [(724641, 724641)], [(724700, 724700), (724731, 724731), (724761, 724761)])]
theorem exCover_days : daysF exCover = [(724641, 724761)] := by decide +kernel
theorem exCover_sure : sureF exCover = [(724641, 724700)] := by decide +kernel
theorem exCover_all : (allF exCover).isSome = true := by decide +kernel
theorem exCover_few : FewL 1000 exCover := ⟨by decide, fun f hf => by
  rcases List.mem_cons.1 hf with e | hf
  · subst e; decide
  · cases hf⟩

theorem sure_length (l : List Leaf) : (sureF l).length ≤ 1 := by
  unfold sureF
  cases allF l with
  | none => exact Nat.zero_le _
  | some q => exact make_length [(q.2.1, q.2.2.1)]

theorem sure_sane (l : List Leaf) : Sane (sureF l) := by
  unfold sureF
  cases allF l with
  | none => trivial
  | some q => exact make_sane _

theorem days_sane (l : List Leaf) : Sane (daysF l) := make_sane _

theorem days_few {l : List Leaf} (h : l.length ≤ 24) (hl : FewL 1000 l) : (daysF l).length ≤ 24024 := by
  have h1 := days_length l fun f hf => (hl.2 f hf).1
  have h2 := make_length (daysL l)
  have : l.length * (1000 + 1) ≤ 24 * (1000 + 1) := Nat.mul_le_mul_right _ h
  unfold daysF
  omega

theorem sure_possible {l : List Leaf} {d : Int} (h : mem (sureF l) d) : ∃ f ∈ l, CoversF f d := by
  obtain ⟨⟨p, hp⟩, hall⟩ := mem_sure.1 h
  exact any_covers.2 ⟨p, hp, hall p hp⟩

theorem all_none_possible {l : List Leaf} {d : Int} (h : allF l = none) : ¬ ∃ f ∈ l, CoversF f d := by
  rintro ⟨f, hf, hc⟩
  obtain ⟨p, hp, _⟩ := covers_iff.1 hc
  rw [(all_none_iff.1 h) f hf] at hp
  cases hp

theorem days_ne {l : List Leaf} {q : Q4} (h : allF l = some q) : daysF l ≠ [] ∧ loF (daysF l) = q.1 ∧ hiF (daysF l) = q.2.2.2 := by
  rcases all_spec l with ⟨h1, _⟩ | ⟨q', h1, h0, ⟨p1, c1, d1⟩, _, _, ⟨p4, c4, d4⟩⟩
  · rw [h1] at h; cases h
  · rw [h1] at h
    cases h
    have m1 : mem (daysF l) q.1 := mem_daysF.2 (any_covers.2 ⟨p1, c1, by omega, by have := h0 p1 c1; omega⟩)
    have m4 : mem (daysF l) q.2.2.2 := mem_daysF.2 (any_covers.2 ⟨p4, c4, by have := h0 p4 c4; omega, by omega⟩)
    have hne : daysF l ≠ [] := fun e => by rw [e] at m1; exact mem_nil m1
    have b1 := mem_between (days_sane l) m1
    have b4 := mem_between (days_sane l) m4
    obtain ⟨x, hx, x1, x2⟩ := any_covers.1 (mem_daysF.1 (mem_lo (days_sane l) hne))
    obtain ⟨y, hy, y1, y2⟩ := any_covers.1 (mem_daysF.1 (mem_hi (days_sane l) hne))
    have := h0 x hx
    have := h0 y hy
    exact ⟨hne, by omega, by omega⟩

theorem days_nil {l : List Leaf} (h : allF l = none) : daysF l = [] :=
  sane_nil (days_sane l) fun n hn => all_none_possible h (mem_daysF.1 hn)

theorem any_append {l m : List Leaf} {p : Int × Int} : anyP (l ++ m) p ↔ anyP l p ∨ anyP m p := by
  unfold anyP
  constructor
  · rintro ⟨f, hf, h⟩
    rcases List.mem_append.1 hf with e | e
    · exact .inl ⟨f, e, h⟩
    · exact .inr ⟨f, e, h⟩
  · rintro (⟨f, hf, h⟩ | ⟨f, hf, h⟩)
    · exact ⟨f, List.mem_append_left _ hf, h⟩
    · exact ⟨f, List.mem_append_right _ hf, h⟩

open Classical in
/-- More families: what is certain, and possible. -/
theorem more_bools {l m : List Leaf} {d : Int} {nl nm : Bool} (hnl : nl = true ↔ ¬ ∃ p, anyP l p) (hnm : nm = true ↔ ¬ ∃ p, anyP m p) :
    decide (∃ f ∈ l ++ m, CoversF f d) = (decide (∃ f ∈ l, CoversF f d) || decide (∃ f ∈ m, CoversF f d)) ∧ decide (mem (sureF (l ++ m)) d) = (decide (mem (sureF l) d) && decide (mem (sureF m) d) || decide (mem (sureF l) d) && nm || decide (mem (sureF m) d) && nl) := by
  constructor
  · rw [← Bool.decide_or]
    refine decide_eq_decide.2 ?_
    constructor
    · rintro ⟨f, hf, h⟩
      rcases List.mem_append.1 hf with e | e
      · exact .inl ⟨f, e, h⟩
      · exact .inr ⟨f, e, h⟩
    · rintro (⟨f, hf, h⟩ | ⟨f, hf, h⟩)
      · exact ⟨f, List.mem_append_left _ hf, h⟩
      · exact ⟨f, List.mem_append_right _ hf, h⟩
  · rw [Bool.eq_iff_iff, Bool.or_eq_true, Bool.or_eq_true, Bool.and_eq_true, Bool.and_eq_true, Bool.and_eq_true, decide_eq_true_eq, decide_eq_true_eq, decide_eq_true_eq, hnl, hnm, mem_sure, mem_sure, mem_sure]
    simp only [any_append]
    constructor
    · rintro ⟨_, h⟩
      by_cases el : ∃ p, anyP l p
      · by_cases em : ∃ p, anyP m p
        · exact .inl (.inl ⟨⟨el, fun p hp => h p (.inl hp)⟩, em, fun p hp => h p (.inr hp)⟩)
        · exact .inl (.inr ⟨⟨el, fun p hp => h p (.inl hp)⟩, em⟩)
      · by_cases em : ∃ p, anyP m p
        · exact .inr ⟨⟨em, fun p hp => h p (.inr hp)⟩, el⟩
        · rename_i q
          obtain ⟨p, hp | hp⟩ := q
          · exact absurd ⟨p, hp⟩ el
          · exact absurd ⟨p, hp⟩ em
    · rintro ((⟨⟨⟨p, hp⟩, a⟩, _, b⟩ | ⟨⟨⟨p, hp⟩, a⟩, b⟩) | ⟨⟨⟨p, hp⟩, a⟩, b⟩)
      · exact ⟨⟨p, .inl hp⟩, fun p hp => hp.elim (a p) (b p)⟩
      · exact ⟨⟨p, .inl hp⟩, fun p hp => hp.elim (a p) fun q => absurd ⟨p, q⟩ b⟩
      · exact ⟨⟨p, .inr hp⟩, fun p hp => hp.elim (fun q => absurd ⟨p, q⟩ b) (a p)⟩

end Go.Proofs.YtocmlcpcnjaaeaaDoor.V


/- Package order: what its functions answer. No condition of its own. -/
namespace Go.Proofs.YtocmlcpcnjaaeaaDoor.V
open Go
set_option linter.unusedVariables false
set_option linter.unusedSimpArgs false
set_option linter.unusedSectionVars false

theorem ok_order_queue_Len {xs : List Pl} : FnE bs n_order_queue_Len ((Shape.slice sOrderPlace).compsE xs) (.int .i64) (· = (xs.length : Int)) := ok_of (e_order_queue_Len xs _) rfl rfl

theorem ok_cmp_Or {x y : Int} : FnE bs n_cmp_Or ((Shape.slice (.int .i64)).compsE [x, y]) (.int .i64) (· = if x = 0 then y else x) := by
  refine ok_of (e_cmp_Or [x, y] _) rfl ?_
  unfold c_cmp_Or
  refine loopP_of (fun z : Int => ∃ k : Nat, z = k ∧ k ≤ 2 ∧ (1 ≤ k → x = 0) ∧ (2 ≤ k → y = 0)) (fun z => 2 - z.toNat) ?_ ⟨0, rfl, by decide, fun h => by omega, fun h => by omega⟩
  rintro _ A ⟨k, rfl, hk, h1, h2⟩ back
  refine cond_dec (fun q => ?_) fun q => ?_
  · have q : (k : Int) < 2 := q
    refine ⟨⟨by omega, q⟩, ?_⟩
    rw [w_succ (by omega), Int.toNat_natCast]
    match k, h1, h2, q, back with
    | 0, h1, h2, q, back =>
      refine cond_bool (fun e => ?_) fun e => ?_
      · have e : ¬ x = 0 := by simpa [rd] using e
        show x = _
        rw [if_neg e]
      · have e : x = 0 := by simpa [rd] using e
        exact back _ ⟨1, rfl, by decide, fun _ => e, fun h => by omega⟩ (by decide)
    | 1, h1, h2, q, back =>
      have hx := h1 (by decide)
      refine cond_bool (fun e => ?_) fun e => ?_
      · show y = _
        rw [if_pos hx]
      · have e : y = 0 := by simpa [rd] using e
        exact back _ ⟨2, rfl, by decide, fun _ => hx, fun _ => e⟩ (by decide)
    | k + 2, _, _, q, _ => omega
  · have q : ¬ (k : Int) < 2 := q
    show (0 : Int) = _
    rw [if_pos (h1 (by omega)), h2 (by omega)]

/-- How keys compare. -/
def cmpK (a b : Int × Int) : Int := if cmpS a.1 b.1 = 0 then cmpS a.2 b.2 else cmpS a.1 b.1

theorem ok_order_Compare {a b : Int × Int} : FnE bs n_order_Compare ((Shape.pair sRun sRun).compsE (a, b)) (.int .i64) (· = cmpK a b) := by
  refine ok_of (e_order_Compare (a, b) _) rfl ?_
  unfold c_order_Compare
  exact callP_eq ok_cmp_Compare (callP_eq ok_cmp_Compare (callP_eq ok_cmp_Or rfl))

def dP : Pl := (0, (0, 0), false)

theorem cmpS3 (a b : Int) : (cmpS a b = -1 ∧ a < b) ∨ (cmpS a b = 0 ∧ a = b) ∨ (cmpS a b = 1 ∧ b < a) := by
  unfold cmpS
  split
  · exact .inl ⟨rfl, by assumption⟩
  · split
    · exact .inr (.inr ⟨rfl, by assumption⟩)
    · exact .inr (.inl ⟨rfl, by omega⟩)

/-- Is one taken ahead of another one? -/
theorem less_of {a b : Pl} : (if a.2.2 = b.2.2 then (if cmpK a.2.1 b.2.1 = 0 then decide (a.1 < b.1) else decide (cmpK a.2.1 b.2.1 < 0)) else b.2.2) = decide (¬ leP b a) := by
  obtain ⟨a1, ⟨a2, a3⟩, a4⟩ := a
  obtain ⟨b1, ⟨b2, b3⟩, b4⟩ := b
  unfold leP cmpK
  dsimp only
  cases a4 <;> cases b4
  · rw [if_pos rfl]
    rcases cmpS3 a2 b2 with ⟨e1, h1⟩ | ⟨e1, h1⟩ | ⟨e1, h1⟩ <;> rcases cmpS3 a3 b3 with ⟨e2, h2⟩ | ⟨e2, h2⟩ | ⟨e2, h2⟩ <;> rw [e1, e2] <;> apply Bool.eq_iff_iff.2 <;> simp <;> omega
  · simp
  · simp
  · rw [if_pos rfl]
    rcases cmpS3 a2 b2 with ⟨e1, h1⟩ | ⟨e1, h1⟩ | ⟨e1, h1⟩ <;> rcases cmpS3 a3 b3 with ⟨e2, h2⟩ | ⟨e2, h2⟩ | ⟨e2, h2⟩ <;> rw [e1, e2] <;> apply Bool.eq_iff_iff.2 <;> simp <;> omega

theorem ok_order_queue_Less {xs : List Pl} {i k : Nat} (hi : i < xs.length) (hk : k < xs.length) : FnE bs n_order_queue_Less ((Shape.pair (.slice sOrderPlace) (.pair (.int .i64) (.int .i64))).compsE (xs, (i : Int), (k : Int))) .bool (· = decide (¬ leP (HP.el dP xs k) (HP.el dP xs i))) := by
  refine ok_of (e_order_queue_Less (xs, (i : Int), (k : Int)) _) rfl ?_
  unfold c_order_queue_Less
  refine ⟨show (0 : Int) ≤ (i : Int) ∧ (i : Int) < (xs.length : Int) by omega, show (0 : Int) ≤ (k : Int) ∧ (k : Int) < (xs.length : Int) by omega, ?_⟩
  simp only [and_self]
  rw [Int.toNat_natCast, Int.toNat_natCast]
  have e1 : rd sOrderPlace xs i = HP.el dP xs i := rfl
  have e2 : rd sOrderPlace xs k = HP.el dP xs k := rfl
  rw [e1, e2]
  generalize HP.el dP xs i = a
  generalize HP.el dP xs k = b
  rw [← less_of]
  refine cond_bool (fun h => ?_) fun h => ?_
  · have h : ¬ a.2.2 = b.2.2 := by simpa using h
    rw [if_neg h]
  · have h : a.2.2 = b.2.2 := by simpa using h
    rw [if_pos h]
    refine callP_eq (ok_order_Compare (a := a.2.1) (b := b.2.1)) (cond_bool (fun h2 => ?_) fun h2 => ?_)
    · have h2 : ¬ cmpK a.2.1 b.2.1 = 0 := by simpa using h2
      rw [if_neg h2]
    · have h2 : cmpK a.2.1 b.2.1 = 0 := by simpa using h2
      rw [if_pos h2]

theorem ok_order_Of {l : List Leaf} (hl : FewL 1000 l) : FnE bs n_order_Of ((Shape.slice sApiLeaf).compsE l) (.tup (.pair sRun (.int .i64))) (· = (((dayF (·.1) l).1, (dayF (·.2.2.2) l).1), (dayF (·.1) l).2)) := by
  refine ok_of (e_order_Of l _) rfl ?_
  unfold c_order_Of
  exact callP_eq (ok_env_Earliest hl) (callP_eq (ok_env_Latest hl) rfl)

theorem half_eq (j : Nat) (hj : j < 4611686018427387904) : w64 (Int.tdiv (w64 ((j : Int) - 1)) 2) = (((j - 1) / 2 : Nat) : Int) := by
  cases j with
  | zero => rfl
  | succ j =>
    rw [w64_of (n := ((j + 1 : Nat) : Int) - 1) (by omega), tdiv_of (by omega), w64_of (by omega)]
    omega

set_option maxRecDepth 100000 in
theorem ok_order_Sort {l : List (List Leaf)} (hl : ∀ x ∈ l, FewL 1000 x) (hn : l.length ≤ 1000000) : FnE bs n_order_Sort ((Shape.slice (.slice sApiLeaf)).compsE l) (.slice (.int .i64)) (SortR l) := by
  have H1 : HanOK g_order_Sort__heap_Push__heap_up := HanOK.ofLists [] [("Less", .call 59 61 104), ("Swap", .val 59 61 107 g_order_Sort__heap_Push__heap_up__mSwap)] rfl rfl trivial ⟨rfl, HanOK.none rfl rfl, trivial⟩
  have H2 : HanOK g_order_Sort__heap_Push := HanOK.ofLists [(39, .inl g_order_Sort__heap_Push__heap_up)] [("Push", .ptr 59 106 g_order_Sort__heap_Push__mPush), ("Len", .call 59 61 32)] rfl rfl ⟨rfl, H1, trivial⟩ ⟨rfl, HanOK.none rfl rfl, trivial⟩
  have H3 : HanOK g_order_Sort__heap_Pop__heap_down := HanOK.ofLists [] [("Less", .call 59 61 104), ("Swap", .val 59 61 107 g_order_Sort__heap_Pop__heap_down__mSwap)] rfl rfl trivial ⟨rfl, HanOK.none rfl rfl, trivial⟩
  have H4 : HanOK g_order_Sort__heap_Pop := HanOK.ofLists [(40, .inl g_order_Sort__heap_Pop__heap_down)] [("Len", .call 59 61 32), ("Swap", .val 59 61 107 g_order_Sort__heap_Pop__mSwap), ("Pop", .ptr 59 105 g_order_Sort__heap_Pop__mPop)] rfl rfl ⟨rfl, H3, trivial⟩ ⟨rfl, HanOK.none rfl rfl, rfl, HanOK.none rfl rfl, trivial⟩
  refine ok_han (e_order_Sort l _) rfl (HanOK.ofList [(31, .inl g_order_Sort__heap_Push), (33, .inl g_order_Sort__heap_Pop)] rfl rfl ⟨rfl, H2, rfl, H4, trivial⟩) ?_
  unfold c_order_Sort
  refine loopP_of (fun z : Int × List Pl × Unit => ∃ k : Nat, z.1 = k ∧ k ≤ l.length ∧ z.2.1.Perm (placesF (l.take k)) ∧ HP.Heap dP leP z.2.1 z.2.1.length) (fun z => l.length - z.1.toNat) ?_ ⟨0, rfl, Nat.zero_le _, List.Perm.refl _, HP.Heap.nil dP⟩
  rintro ⟨_, xs, _⟩ A ⟨k, e1, hk, hp, hh⟩ back
  dsimp only at e1 hp hh ⊢
  subst e1
  have hxl : xs.length = k := by rw [hp.length_eq, placesF_length, List.length_take]; omega
  refine cond_dec (fun h1 => ⟨⟨by omega, h1⟩, ?_⟩) fun h1 => ?_
  · have h1 : (k : Int) < l.length := h1
    have hk' : k < l.length := by omega
    have hg := List.getElem?_eq_getElem hk'
    have hx := hl l[k] (List.getElem_mem hk')
    have hgd : l.getD k [] = l[k] := by rw [List.getD_eq_getElem?_getD, hg]; rfl
    have hpt := places_take hk'
    rw [hgd] at hpt
    generalize l[k] = x at hg hx hpt
    rw [Int.toNat_natCast, rd_of (s := .slice sApiLeaf) hg, w_succ (by omega)]
    refine callP_eq (ok_order_Of hx) ?_
    refine ⟨by simp only [List.length_cons, List.length_nil]; omega, callP_eq ok_order_queue_Len ?_⟩
    have hkey : (((k : Int), ((dayF (·.1) x).1, (dayF (·.2.2.2) x).1), !decide ((dayF (·.1) x).2 = 0)) : Pl) = ((k : Int), keyF x) := rfl
    dsimp only
    rw [hkey, w64_of (by rw [List.length_append]; simp only [List.length_cons, List.length_nil]; omega)]
    generalize hpp : ((k : Int), keyF x) = p at hpt
    refine loopP_of (fun z : Int × List Pl => ∃ j : Nat, z.1 = j ∧ j < k + 1 ∧ z.2.length = k + 1 ∧ z.2.Perm (xs ++ [p]) ∧ HP.Up dP leP z.2 (k + 1) j) (fun z => z.1.toNat) ?_
      ⟨k, by rw [List.length_append]; simp only [List.length_cons, List.length_nil]; omega, by omega, by rw [List.length_append]; simp only [List.length_cons, List.length_nil]; omega, List.Perm.refl _, by have := HP.Up.start dP (x := p) hh; rw [hxl] at this; exact this⟩
    rintro ⟨_, ys⟩ A2 ⟨j, e1, hj, hyl, hyp, hu⟩ back2
    dsimp only at e1 hyl hyp hu ⊢
    subst e1
    rw [half_eq j (by omega)]
    have hjp : (j - 1) / 2 < k + 1 := by omega
    have fin : HP.Heap dP leP ys (k + 1) → A (((k + 1 : Nat) : Int), ys, ()) := fun q => back (((k + 1 : Nat) : Int), ys, ()) ⟨k + 1, rfl, hk', by dsimp only; rw [hpt]; exact hyp.trans (List.Perm.append_right [p] hp), by dsimp only; rw [hyl]; exact q⟩ (by dsimp only; omega)
    refine ⟨by decide, cond_dec (fun q => ?_) fun q => ?_⟩
    · have q : (((j - 1) / 2 : Nat) : Int) = (j : Int) := q
      exact fin (hu.done dP (.inl (by omega)))
    · have q : ¬ (((j - 1) / 2 : Nat) : Int) = (j : Int) := q
      have hj0 : 0 < j := by omega
      refine callP_eq (ok_order_queue_Less (xs := ys) (i := j) (k := (j - 1) / 2) (by omega) (by omega)) (cond_not (fun q2 => ?_) fun q2 => ?_)
      · have q2 := of_decide_eq_false q2
        exact fin (hu.done dP (.inr (Classical.not_not.1 q2)))
      · have q2 : ¬ leP (HP.el dP ys ((j - 1) / 2)) (HP.el dP ys j) := of_decide_eq_true q2
        have le : leP (HP.el dP ys j) (HP.el dP ys ((j - 1) / 2)) := (ordP.tot _ _).resolve_right q2
        refine ⟨⟨by omega, by omega⟩, ⟨by omega, by omega⟩, ⟨by omega, by omega⟩, ⟨by omega, by rw [List.length_set]; omega⟩, ?_⟩
        rw [Int.toNat_natCast, Int.toNat_natCast]
        refine back2 ((((j - 1) / 2 : Nat) : Int), HP.sw dP ys ((j - 1) / 2) j) ⟨(j - 1) / 2, rfl, hjp, by rw [HP.sw_length]; exact hyl, (HP.sw_perm dP (by omega) (by omega)).trans hyp, hu.step dP ordP (by omega) hj hj0 le⟩ (by dsimp only; omega)
  · have hkl : k = l.length := by have h1 : ¬ (k : Int) < l.length := h1; omega
    subst hkl
    rw [List.take_length] at hp
    refine loopP_of (fun z : Unit × List Pl × Unit × List Int => ∃ taken : List Pl, z.2.2.2 = taken.map (·.1) ∧ Took (placesF l) taken z.2.1 ∧ HP.Heap dP leP z.2.1 z.2.1.length) (fun z => z.2.1.length) ?_ ⟨[], rfl, Took.start _ _ hp, hh⟩
    clear hp hh hxl xs back
    rintro ⟨_, xs, _, out⟩ A3 ⟨taken, e1, ht, hh⟩ back
    dsimp only at e1 ht hh ⊢
    subst e1
    have hlen : taken.length + xs.length = l.length := by
      have := ht.1.length_eq
      rw [List.length_append, placesF_length] at this
      exact this
    refine callP_eq ok_order_queue_Len (cond_dec (fun q => ?_) fun q => ?_)
    · have q : (0 : Int) < (xs.length : Int) := q
      obtain ⟨n, hnx⟩ : ∃ n, xs.length = n + 1 := ⟨xs.length - 1, by omega⟩
      refine callP_eq ok_order_queue_Len ?_
      have hw : w64 ((xs.length : Int) - 1) = (n : Int) := by rw [w64_of (by omega)]; omega
      rw [hw, Int.toNat_natCast]
      refine ⟨⟨by omega, by omega⟩, ⟨by decide, q⟩, ⟨by decide, q⟩, ⟨by omega, by rw [List.length_set]; omega⟩, ?_⟩
      have hx0 := HP.el_sw dP (xs := xs) (i := 0) (j := n) (k := n) (by omega) (by omega)
      rw [if_pos rfl] at hx0
      rw [hnx] at hh
      refine loopP_of (fun z : Int × List Pl => ∃ i : Nat, z.1 = i ∧ i ≤ n ∧ z.2.length = n + 1 ∧ z.2.Perm xs ∧ HP.el dP z.2 n = HP.el dP xs 0 ∧ HP.Down dP leP z.2 n i) (fun z => n + 1 - z.1.toNat) ?_
        ⟨0, rfl, Nat.zero_le _, by show (HP.sw dP xs 0 n).length = n + 1; rw [HP.sw_length]; exact hnx, HP.sw_perm dP (by omega) (by omega), hx0, HP.Down.start dP (by omega) hh⟩
      rintro ⟨_, ys⟩ A4 ⟨i, e1, hi, hyl, hyp, hyn, hd⟩ back4
      dsimp only at e1 hyl hyp hyn hd ⊢
      subst e1
      have hw2 : w64 ((ys.length : Int) - 1) = (n : Int) := by rw [w64_of (by omega)]; omega
      rw [hw2, w_mul2 (by omega), w_succ (a := 2 * i) (by omega), w_succ (a := 2 * i + 1) (by omega)]
      simp only [Int.toNat_natCast]
      have fin : HP.Heap dP leP ys n → chk ((0 : Int) ≤ (n : Int) ∧ (n : Int) < (ys.length : Int)) (chk ((0 : Int) ≤ (n : Int) ∧ (n : Int) ≤ (ys.length : Int)) (chk (((taken.map (·.1)).length + [(rd sOrderPlace ys n).1].length) * 8 ≤ 140737488355328) (A3 ((), List.take n ys, (), taken.map (·.1) ++ [(rd sOrderPlace ys n).1])))) := fun hq => by
        refine ⟨⟨by omega, by omega⟩, ⟨by omega, by omega⟩, by rw [List.length_map]; simp only [List.length_cons, List.length_nil]; omega, ?_⟩
        refine back ((), List.take n ys, (), taken.map (·.1) ++ [(rd sOrderPlace ys n).1]) ⟨taken ++ [HP.el dP ys n], by rw [List.map_append]; rfl, ?_, ?_⟩ (by dsimp only; rw [List.length_take]; omega)
        · refine ht.step (hyp.symm.trans (HP.take_perm dP hyl)) fun b hb => ?_
          rw [hyn]
          obtain ⟨c, hc, he⟩ := List.getElem_of_mem hb
          have := HP.Heap.top dP ordP hh c (by omega)
          have e : HP.el dP xs c = b := by rw [← he]; have := HP.el_get dP hc; rw [List.getElem?_eq_getElem hc] at this; exact (Option.some.inj this).symm
          rw [e] at this
          exact this
        · dsimp only
          rw [List.length_take, show min n ys.length = n by omega]
          exact HP.Heap.take dP (by omega) hq
      have stp : ∀ j : Nat, j < n → (j - 1) / 2 = i → 0 < j → ¬ leP (HP.el dP ys i) (HP.el dP ys j) → (∀ c, 0 < c → c < n → (c - 1) / 2 = i → leP (HP.el dP ys j) (HP.el dP ys c)) →
          chk ((0 : Int) ≤ (j : Int) ∧ (j : Int) < (ys.length : Int)) (chk ((0 : Int) ≤ (i : Int) ∧ (i : Int) < (ys.length : Int)) (chk ((0 : Int) ≤ (i : Int) ∧ (i : Int) < (ys.length : Int)) (chk ((0 : Int) ≤ (j : Int) ∧ (j : Int) < ((List.set ys i (rd sOrderPlace ys j)).length : Int)) (A4 ((j : Int), HP.sw dP ys i j))))) := fun j hj hpar hj0 hlt hks => by
        have le : leP (HP.el dP ys j) (HP.el dP ys i) := (ordP.tot _ _).resolve_right hlt
        refine ⟨⟨by omega, by omega⟩, ⟨by omega, by omega⟩, ⟨by omega, by omega⟩, ⟨by omega, by rw [List.length_set]; omega⟩, ?_⟩
        refine back4 ((j : Int), HP.sw dP ys i j) ⟨j, rfl, by omega, by rw [HP.sw_length]; exact hyl, (HP.sw_perm dP (by omega) (by omega)).trans hyp, ?_, hd.step dP ordP (by omega) hj hj0 hpar le hks⟩ (by dsimp only; omega)
        dsimp only
        rw [HP.el_sw dP (by omega) (by omega), if_neg (by omega), if_neg (by omega)]
        exact hyn
      have child : ∀ c, 0 < c → (c - 1) / 2 = i → c = 2 * i + 1 ∨ c = 2 * i + 2 := fun c h0 h => by omega
      refine cond_dec (fun q1 => ?_) fun q1 => cond_dec (fun q2 => ?_) fun q2 => cond_dec (fun q3 => ?_) fun q3 => ?_
      · have q1 : (n : Int) ≤ ((2 * i + 1 : Nat) : Int) := q1
        exact fin (hd.done dP fun c c0 c1 c2 => by have := child c c0 c2; omega)
      · have q2 : ((2 * i + 1 : Nat) : Int) < 0 := q2
        omega
      · have q1 : ¬ (n : Int) ≤ ((2 * i + 1 : Nat) : Int) := q1
        have q3 : ((2 * i + 1 + 1 : Nat) : Int) < (n : Int) := q3
        refine callP_eq (ok_order_queue_Less (xs := ys) (i := 2 * i + 1 + 1) (k := 2 * i + 1) (by omega) (by omega)) (cond_bool (fun h2 => ?_) fun h2 => ?_)
        · have h2 : ¬ leP (HP.el dP ys (2 * i + 1)) (HP.el dP ys (2 * i + 1 + 1)) := of_decide_eq_true h2
          have h2' : leP (HP.el dP ys (2 * i + 1 + 1)) (HP.el dP ys (2 * i + 1)) := (ordP.tot _ _).resolve_right h2
          have hks : ∀ c, 0 < c → c < n → (c - 1) / 2 = i → leP (HP.el dP ys (2 * i + 1 + 1)) (HP.el dP ys c) := fun c c0 c1 c2 => by
            rcases child c c0 c2 with e | e <;> rw [e]
            · exact h2'
            · rcases ordP.tot (HP.el dP ys (2 * i + 1 + 1)) (HP.el dP ys (2 * i + 2)) with q | q <;> exact q
          refine callP_eq (ok_order_queue_Less (xs := ys) (i := 2 * i + 1 + 1) (k := i) (by omega) (by omega)) (cond_not (fun h3 => ?_) fun h3 => ?_)
          · have h3 := Classical.not_not.1 (of_decide_eq_false h3)
            exact fin (hd.done dP fun c c0 c1 c2 => ordP.trans _ _ _ h3 (hks c c0 c1 c2))
          · exact stp (2 * i + 1 + 1) (by omega) (by omega) (by omega) (of_decide_eq_true h3) hks
        · have h2 : leP (HP.el dP ys (2 * i + 1)) (HP.el dP ys (2 * i + 1 + 1)) := Classical.not_not.1 (of_decide_eq_false h2)
          have hks : ∀ c, 0 < c → c < n → (c - 1) / 2 = i → leP (HP.el dP ys (2 * i + 1)) (HP.el dP ys c) := fun c c0 c1 c2 => by
            rcases child c c0 c2 with e | e <;> rw [e]
            · rcases ordP.tot (HP.el dP ys (2 * i + 1)) (HP.el dP ys (2 * i + 1)) with q | q <;> exact q
            · exact h2
          refine callP_eq (ok_order_queue_Less (xs := ys) (i := 2 * i + 1) (k := i) (by omega) (by omega)) (cond_not (fun h3 => ?_) fun h3 => ?_)
          · have h3 := Classical.not_not.1 (of_decide_eq_false h3)
            exact fin (hd.done dP fun c c0 c1 c2 => ordP.trans _ _ _ h3 (hks c c0 c1 c2))
          · exact stp (2 * i + 1) (by omega) (by omega) (by omega) (of_decide_eq_true h3) hks
      · have q1 : ¬ (n : Int) ≤ ((2 * i + 1 : Nat) : Int) := q1
        have q3 : ¬ ((2 * i + 1 + 1 : Nat) : Int) < (n : Int) := q3
        have hks : ∀ c, 0 < c → c < n → (c - 1) / 2 = i → leP (HP.el dP ys (2 * i + 1)) (HP.el dP ys c) := fun c c0 c1 c2 => by
          rcases child c c0 c2 with e | e
          · rw [e]
            rcases ordP.tot (HP.el dP ys (2 * i + 1)) (HP.el dP ys (2 * i + 1)) with q | q <;> exact q
          · omega
        refine callP_eq (ok_order_queue_Less (xs := ys) (i := 2 * i + 1) (k := i) (by omega) (by omega)) (cond_not (fun h3 => ?_) fun h3 => ?_)
        · have h3 := Classical.not_not.1 (of_decide_eq_false h3)
          exact fin (hd.done dP fun c c0 c1 c2 => ordP.trans _ _ _ h3 (hks c c0 c1 c2))
        · exact stp (2 * i + 1) (by omega) (by omega) (by omega) (of_decide_eq_true h3) hks
    · have q : ¬ (0 : Int) < (xs.length : Int) := q
      have hx : xs = [] := List.length_eq_zero_iff.1 (by omega)
      subst hx
      have := ht.done
      exact ⟨taken, this.1, this.2, rfl⟩
end Go.Proofs.YtocmlcpcnjaaeaaDoor.V


/- Layer 21: what comes ahead; the example; laws OrderIs, OrderRelates. No condition of its own. -/
namespace Go.Proofs.YtocmlcpcnjaaeaaDoor.V
open Go
set_option linter.unusedVariables false
set_option linter.unusedSimpArgs false
set_option linter.unusedSectionVars false

open Classical in
/-- A day of families, as a function value. -/
noncomputable def gDay (s : Q4 → Int) : List Leaf → Option (Int × Int) := fun l => if FewL 1000 l then some (dayF s l) else none

theorem gDay_spec {f : FuncId} {s : Q4 → Int} (h : ∀ {l : List Leaf}, FewL 1000 l → FnE bs f ((Shape.slice sApiLeaf).compsE l) (.tup (.pair (.int .i64) (.int .i64))) (· = dayF s l)) : CloSpec bs f [] [] (.slice sApiLeaf) (.tup (.pair (.int .i64) (.int .i64))) (gDay s) := by
  refine ⟨(h (l := []) ⟨by decide, fun f hf => by cases hf⟩).1, fun l r hr => ?_⟩
  rw [List.nil_append, List.append_nil]
  unfold gDay at hr
  split at hr
  · rename_i hv
    cases hr
    exact h hv
  · cases hr

/-- Does a day of some families come ahead of one of others? -/
def certF (s1 s2 : Q4 → Int) (l m : List Leaf) : Bool × Int := match allF l, allF m with
  | some p, some q => (decide (s1 p < s2 q), 0)
  | _, _ => (false, 9)

theorem ok_order_ahead {l m : List Leaf} {s1 s2 : Q4 → Int} (hl : FewL 1000 l) (hm : FewL 1000 m) : FnE bs n_order_ahead ((Shape.pair (.slice sApiLeaf) (.pair (.slice sApiLeaf) (.pair (.func (.slice sApiLeaf) (.tup (.pair (.int .i64) (.int .i64)))) (.func (.slice sApiLeaf) (.tup (.pair (.int .i64) (.int .i64))))))).compsE (l, m, gDay s1, gDay s2)) (.tup (.pair .bool (.int .i64))) (· = certF s1 s2 l m) := by
  refine ok_of (e_order_ahead (l, m, gDay s1, gDay s2) _) rfl ?_
  unfold c_order_ahead certF
  refine gcall_eq (r := dayF s1 l) (by unfold gDay; exact if_pos hl) ?_
  have h1 : dayF s1 l = match allF l with | none => (0, 9) | some q => (s1 q, 0) := rfl
  have h2 : dayF s2 m = match allF m with | none => (0, 9) | some q => (s2 q, 0) := rfl
  cases e1 : allF l with
  | none =>
    rw [e1] at h1
    rw [h1]
    exact cond_yes rfl rfl
  | some p =>
    rw [e1] at h1
    rw [h1]
    refine cond_no rfl (gcall_eq (r := dayF s2 m) (by unfold gDay; exact if_pos hm) ?_)
    cases e2 : allF m with
    | none =>
      rw [e2] at h2
      rw [h2]
      exact cond_no rfl rfl
    | some q =>
      rw [e2] at h2
      rw [h2]
      exact cond_yes rfl rfl

theorem ok_order_Certainly {l m : List Leaf} (hl : FewL 1000 l) (hm : FewL 1000 m) : FnE bs n_order_Certainly ((Shape.pair (.slice sApiLeaf) (.slice sApiLeaf)).compsE (l, m)) (.tup (.pair .bool (.int .i64))) (· = certF (·.2.2.2) (·.1) l m) := by
  refine ok_of (e_order_Certainly (l, m) _) rfl ?_
  unfold c_order_Certainly
  exact ⟨gDay (·.2.2.2), gDay_spec ok_env_Latest, gDay (·.1), gDay_spec ok_env_Earliest, callP_eq (ok_order_ahead hl hm) rfl⟩

theorem ok_order_Possibly {l m : List Leaf} (hl : FewL 1000 l) (hm : FewL 1000 m) : FnE bs n_order_Possibly ((Shape.pair (.slice sApiLeaf) (.slice sApiLeaf)).compsE (l, m)) (.tup (.pair .bool (.int .i64))) (· = certF (·.2.2.1) (·.2.1) l m) := by
  refine ok_of (e_order_Possibly (l, m) _) rfl ?_
  unfold c_order_Possibly
  exact ⟨gDay (·.2.2.1), gDay_spec ok_env_FirstEnd, gDay (·.2.1), gDay_spec ok_env_LastStart, callP_eq (ok_order_ahead hl hm) rfl⟩

theorem leP_anti {a b : Pl} (h : leP a b) (k : leP b a) : a = b := by
  obtain ⟨a1, ⟨a2, a3⟩, a4⟩ := a
  obtain ⟨b1, ⟨b2, b3⟩, b4⟩ := b
  unfold leP at h k
  dsimp only at h k
  cases a4 <;> cases b4 <;> simp at h k ⊢ <;> omega

/-- Things in order stand in one order alone. -/
theorem sort_unique : ∀ {a b : List Pl}, a.Perm b → a.Pairwise leP → b.Pairwise leP → a = b
  | [], b, h, _, _ => (h.nil_eq)
  | x :: t, [], h, _, _ => by have := h.length_eq; simp at this
  | x :: t, y :: u, h, ha, hb => by
    have ha' := List.pairwise_cons.1 ha
    have hb' := List.pairwise_cons.1 hb
    have hxy : x = y := by
      have h1 : x ∈ y :: u := h.subset (List.mem_cons_self ..)
      have h2 : y ∈ x :: t := h.symm.subset (List.mem_cons_self ..)
      rcases List.mem_cons.1 h1 with e | h1
      · exact e
      · rcases List.mem_cons.1 h2 with e | h2
        · exact e.symm
        · exact leP_anti (ha'.1 y h2) (hb'.1 x h1)
    subst hxy
    rw [sort_unique (List.Perm.cons_inv h) ha'.2 hb'.2]

def exO : List (List Leaf) := [[(false, 3, [(5, 5)], [])], [], [(false, 3, [(4, 4)], [])]]
def exP : List Pl := placesF exO
def yrs (lo hi : Int) : List Leaf := [(false, 3, [(lo, hi)], [])]
theorem yrs_few {lo hi : Int} : FewL 1000 (yrs lo hi) := ⟨by simp [yrs], fun f hf => by cases List.mem_singleton.1 hf; simp⟩

theorem ex_places : placesF exO = [HP.el dP (placesF exO) 0, HP.el dP (placesF exO) 1, HP.el dP (placesF exO) 2] := by decide +kernel
theorem ex_sorted : [HP.el dP (placesF exO) 2, HP.el dP (placesF exO) 0, HP.el dP (placesF exO) 1].Pairwise leP := by decide +kernel
theorem ex_at : [HP.el dP (placesF exO) 2, HP.el dP (placesF exO) 0, HP.el dP (placesF exO) 1].map (·.1) = [2, 0, 1] := by decide +kernel
theorem ex_sort {out : List Int} (h : SortR exO out) : out = [2, 0, 1] := by
  obtain ⟨ps, h1, h2, rfl⟩ := h
  have hp : [HP.el dP (placesF exO) 2, HP.el dP (placesF exO) 0, HP.el dP (placesF exO) 1].Perm (placesF exO) := by
    conv => rhs; rw [ex_places]
    exact List.perm_append_comm (l₁ := [HP.el dP (placesF exO) 2]) (l₂ := [HP.el dP (placesF exO) 0, HP.el dP (placesF exO) 1])
  rw [sort_unique (h1.trans hp.symm) h2 ex_sorted]
  exact ex_at

theorem ex_c1 : certF (·.2.2.2) (·.1) (yrs 1984 1984) (yrs 1985 1985) = (true, 0) := by decide +kernel
theorem ex_c2 : certF (·.2.2.1) (·.2.1) (yrs 1980 1989) (yrs 1984 1984) = (true, 0) := by decide +kernel
theorem ex_c3 : certF (·.2.2.2) (·.1) (yrs 1980 1989) (yrs 1984 1984) = (false, 0) := by decide +kernel
theorem ex_k : (((dayF (·.1) (yrs 1 1)).1, (dayF (·.2.2.2) (yrs 1 1)).1), (dayF (·.1) (yrs 1 1)).2) = ((366, 730), 0) := by decide +kernel

theorem ok_lustrumlaw21_years {lo hi : Int} : FnE bs n_lustrumlaw21_years ((Shape.pair (.int .i64) (.int .i64)).compsE (lo, hi)) (.slice sApiLeaf) (· = yrs lo hi) := ok_of (e_lustrumlaw21_years (lo, hi) _) rfl rfl

theorem ok_lustrumlaw21_awake : FnE bs n_lustrumlaw21_awake ((Shape.unit).compsE ()) .bool (· = true) := by
  refine ok_of (e_lustrumlaw21_awake _) rfl ?_
  unfold c_lustrumlaw21_awake
  refine callP_eq ok_lustrumlaw21_years (callP_eq ok_lustrumlaw21_years (callP_eq (ok_order_Certainly yrs_few yrs_few) ?_))
  rw [ex_c1]
  refine callP_eq ok_lustrumlaw21_years (callP_eq ok_lustrumlaw21_years (callP_eq (ok_order_Possibly yrs_few yrs_few) ?_))
  rw [ex_c2]
  refine callP_eq ok_lustrumlaw21_years (callP_eq ok_lustrumlaw21_years (callP_eq (ok_order_Certainly yrs_few yrs_few) ?_))
  rw [ex_c3]
  refine callP_eq ok_lustrumlaw21_years (callP_eq (ok_order_Of yrs_few) ?_)
  rw [ex_k]
  refine callP_eq ok_lustrumlaw21_years (callP_eq ok_lustrumlaw21_years (callP_of (ok_order_Sort (l := exO) (fun x hx => ?_) (by decide)) fun out hout => ?_))
  · have hx : x ∈ [yrs 5 5, [], yrs 4 4] := hx
    simp only [List.mem_cons, List.not_mem_nil, or_false] at hx
    rcases hx with rfl | rfl | rfl
    · exact yrs_few
    · exact ⟨by decide, fun f hf => by cases hf⟩
    · exact yrs_few
  · have := ex_sort hout
    subst this
    refine cond_yes rfl (cond_yes rfl (cond_yes rfl (cond_yes rfl (cond_yes rfl (cond_yes rfl (cond_yes rfl (cond_yes rfl (cond_yes rfl (cond_yes rfl ⟨by decide, cond_yes rfl ⟨by decide, cond_yes rfl ⟨by decide, cond_yes rfl (callP_eq ok_order_Compare ?_)⟩⟩⟩)))))))))
    decide

theorem all_bounds {l : List Leaf} {q : Q4} (h : allF l = some q) : Bounds q (anyP l) := by
  rcases all_spec l with ⟨e, _⟩ | ⟨q', e, hb⟩
  · rw [h] at e; cases e
  · rw [h] at e; cases e; exact hb

theorem all_some_iff {l : List Leaf} (h : allF l = none) : ¬ ∃ p, anyP l p := by
  rintro ⟨p, f, hf, hp⟩
  rcases all_spec l with ⟨_, e⟩ | ⟨q, e, _⟩
  · rw [e f hf] at hp; cases hp
  · rw [h] at e; cases e

theorem cert_iff {l m : List Leaf} {p q : Q4} (hl : allF l = some p) (hm : allF m = some q) : p.2.2.2 < q.1 ↔ ∀ a b, anyP l a → anyP m b → a.2 < b.1 := by
  obtain ⟨h1, _, _, _, a, ha, ea⟩ := all_bounds hl
  obtain ⟨k1, ⟨b, hb, eb⟩, _⟩ := all_bounds hm
  constructor
  · intro h x y hx hy
    have := h1 x hx
    have := k1 y hy
    omega
  · intro h
    have := h a b ha hb
    omega

theorem poss_iff {l m : List Leaf} {p q : Q4} (hl : allF l = some p) (hm : allF m = some q) : p.2.2.1 < q.2.1 ↔ ∃ a b, anyP l a ∧ anyP m b ∧ a.2 < b.1 := by
  obtain ⟨h1, _, _, ⟨a, ha, ea⟩, _⟩ := all_bounds hl
  obtain ⟨k1, _, ⟨b, hb, eb⟩, _⟩ := all_bounds hm
  constructor
  · intro h
    exact ⟨a, b, ha, hb, by omega⟩
  · rintro ⟨x, y, hx, hy, h⟩
    have := h1 x hx
    have := k1 y hy
    omega

end Go.Proofs.YtocmlcpcnjaaeaaDoor.V


/- Layer 21's laws OrderKeys, OrderCompare, OrderPairs, OrderThree. No condition of its own. -/
namespace Go.Proofs.YtocmlcpcnjaaeaaDoor.V
open Go
set_option linter.unusedVariables false
set_option linter.unusedSimpArgs false
set_option linter.unusedSectionVars false

theorem bounds_order {l : List Leaf} {q : Q4} (h : allF l = some q) : q.1 ≤ q.2.1 ∧ q.2.2.1 ≤ q.2.2.2 ∧ q.1 ≤ q.2.2.1 ∧ q.2.1 ≤ q.2.2.2 := by
  obtain ⟨h1, ⟨a, ha, ea⟩, ⟨b, hb, eb⟩, ⟨c, hc, ec⟩, d, hd, ed⟩ := all_bounds h
  have := h1 a ha
  have := h1 b hb
  have := h1 c hc
  have := h1 d hd
  omega

theorem cert_some {s1 s2 : Q4 → Int} {l m : List Leaf} {p q : Q4} (h1 : allF l = some p) (h2 : allF m = some q) : certF s1 s2 l m = (decide (s1 p < s2 q), 0) := by unfold certF; rw [h1, h2]
theorem cert_none1 {s1 s2 : Q4 → Int} {l m : List Leaf} (h1 : allF l = none) : certF s1 s2 l m = (false, 9) := by unfold certF; rw [h1]
theorem cert_none2 {s1 s2 : Q4 → Int} {l m : List Leaf} (h2 : allF m = none) : certF s1 s2 l m = (false, 9) := by unfold certF; rw [h2]; cases allF l <;> rfl
theorem cert_true {s1 s2 : Q4 → Int} {l m : List Leaf} : (certF s1 s2 l m).1 = true ↔ ∃ p q, allF l = some p ∧ allF m = some q ∧ s1 p < s2 q := by
  constructor
  · intro h
    cases h1 : allF l with
    | none => rw [cert_none1 h1] at h; cases h
    | some p =>
      cases h2 : allF m with
      | none => rw [cert_none2 h2] at h; cases h
      | some q => rw [cert_some h1 h2] at h; exact ⟨p, q, rfl, rfl, of_decide_eq_true h⟩
  · rintro ⟨p, q, h1, h2, h⟩
    rw [cert_some h1 h2]
    exact decide_eq_true h
theorem day_some {s : Q4 → Int} {l : List Leaf} {p : Q4} (h : allF l = some p) : dayF s l = (s p, 0) := by unfold dayF; rw [h]
theorem day_none {s : Q4 → Int} {l : List Leaf} (h : allF l = none) : dayF s l = (0, 9) := by unfold dayF; rw [h]

def ltK (a b : Int × Int) : Prop := a.1 < b.1 ∨ (a.1 = b.1 ∧ a.2 < b.2)
theorem cmpK3 (a b : Int × Int) : (cmpK a b = -1 ∧ ltK a b) ∨ (cmpK a b = 0 ∧ a.1 = b.1 ∧ a.2 = b.2) ∨ (cmpK a b = 1 ∧ ltK b a) := by
  unfold cmpK ltK
  rcases cmpS3 a.1 b.1 with ⟨e1, h1⟩ | ⟨e1, h1⟩ | ⟨e1, h1⟩ <;> rw [e1]
  · exact .inl ⟨rfl, .inl h1⟩
  · rcases cmpS3 a.2 b.2 with ⟨e2, h2⟩ | ⟨e2, h2⟩ | ⟨e2, h2⟩ <;> rw [e2]
    · exact .inl ⟨rfl, .inr ⟨h1, h2⟩⟩
    · exact .inr (.inl ⟨rfl, h1, h2⟩)
    · exact .inr (.inr ⟨rfl, .inr ⟨h1.symm, h2⟩⟩)
  · exact .inr (.inr ⟨rfl, .inl h1⟩)

theorem ok_OrderKeys (a : List Leaf × List Leaf) (hl : a.1.length ≤ 9223372036854775807) (hm : a.2.length ≤ 9223372036854775807) : FnE bs n_lustrumlaw21_OrderKeys ((Shape.pair (.slice sApiLeaf) (.slice sApiLeaf)).compsE a) .bool (· = true) := by
  obtain ⟨l, m⟩ := a
  refine ok_of (e_lustrumlaw21_OrderKeys (l, m) _) rfl ?_
  unfold c_lustrumlaw21_OrderKeys
  refine callP_eq ok_lustrumlaw21_awake (callP_of (ok_lustrumref15_Few hl) fun x hx => cond_not (fun h => rfl) fun h => callP_of (ok_lustrumref15_Few hm) fun y hy => cond_not (fun h => rfl) fun h2 => ?_)
  have fl : FewL 1000 l := few1000 (hx h).2
  have fm : FewL 1000 m := few1000 (hy h2).2
  refine callP_eq (ok_order_Of fl) (callP_eq (ok_order_Of fm) (callP_eq (ok_order_Certainly fl fm) (callP_eq (ok_order_Possibly fl fm) (callP_eq (ok_order_Possibly fm fl) ?_))))
  cases e1 : allF l with
  | none =>
    rw [cert_none1 e1, cert_none1 e1, day_none e1]
    exact cond_yes rfl (cond_no rfl (cond_no rfl (cond_yes rfl (cond_yes rfl (cond_yes rfl (cond_yes rfl rfl))))))
  | some p =>
    cases e2 : allF m with
    | none =>
      rw [cert_none2 e2, cert_none2 e2, day_some e1, day_none e2]
      exact cond_no rfl (cond_no rfl (cond_no rfl (cond_yes rfl (cond_yes rfl (cond_yes rfl (cond_yes rfl rfl))))))
    | some q =>
      rw [cert_some e1 e2, cert_some e1 e2, cert_some e2 e1, day_some e1, day_some e1, day_some e2, day_some e2]
      refine cond_no rfl (cond_no rfl (cond_no rfl (cond_no rfl (callP_eq (ok_env_Earliest fl) (callP_eq (ok_env_Latest fl) ?_)))))
      rw [day_some e1, day_some e1]
      refine cond_yes rfl (cond_yes (decide_eq_true rfl) (cond_yes (decide_eq_true rfl) (cond_not (fun _ => rfl) fun hc => ?_)))
      have hc : p.2.2.2 < q.1 := of_decide_eq_true hc
      have hp := bounds_order e1
      have hq := bounds_order e2
      refine cond_yes (decide_eq_true (show p.2.2.1 < q.2.1 by omega)) (cond_yes (by rw [decide_eq_false (show ¬ q.2.2.1 < p.2.1 by omega)]; rfl) (callP_eq ok_order_Compare ?_))
      have hk : cmpK (p.1, p.2.2.2) (q.1, q.2.2.2) = -1 := by
        rcases cmpK3 (p.1, p.2.2.2) (q.1, q.2.2.2) with ⟨e, _⟩ | ⟨_, e, _⟩ | ⟨_, e⟩
        · exact e
        · dsimp only at e; omega
        · unfold ltK at e; dsimp only at e; omega
      exact cond_yes (decide_eq_true hk) (decide_eq_true hc)

theorem ok_OrderCompare (a : (Int × Int) × (Int × Int) × (Int × Int)) : FnE bs n_lustrumlaw21_OrderCompare ((Shape.pair sRun (.pair sRun sRun)).compsE a) .bool (· = true) := by
  obtain ⟨p, q, z⟩ := a
  refine ok_of (e_lustrumlaw21_OrderCompare (p, q, z) _) rfl ?_
  unfold c_lustrumlaw21_OrderCompare
  refine callP_eq ok_lustrumlaw21_awake (callP_eq (ok_order_Compare (a := p) (b := q)) (callP_eq (ok_order_Compare (a := q) (b := z)) ?_))
  have hx := cmpK3 p q
  have hy := cmpK3 q z
  have hw := cmpK3 q p
  have hv := cmpK3 p z
  unfold ltK at hx hy hw hv
  have e1 : cmpK q p = - cmpK p q := by omega
  have e2 : cmpK p q ≤ 0 → cmpK q z ≤ 0 → cmpK p z ≤ 0 := by omega
  have e3 : cmpK p q < 0 → cmpK q z ≤ 0 → cmpK p z < 0 := by omega
  have e4 : cmpK p q = 0 ↔ (p.1 = q.1 ∧ p.2 = q.2) := by omega
  have b1 : ¬ cmpK p q < -1 := by omega
  have b2 : ¬ 1 < cmpK p q := by omega
  have bw : w64 (0 - cmpK p q) = - cmpK p q := by rw [w64_of (by omega)]; omega
  clear hx hy hw hv
  refine cond_no (decide_eq_false b1) (cond_no (decide_eq_false b2) (callP_eq (ok_order_Compare (a := q) (b := p)) ?_))
  refine cond_no (by rw [Bool.not_eq_false', decide_eq_true_iff]; exact e1.trans bw.symm) (cond_no ?_ (cond_yes rfl ?_))
  · rw [Bool.not_eq_false', decide_eq_true_iff, Bool.eq_iff_iff, decide_eq_true_iff, Bool.and_eq_true, decide_eq_true_iff, decide_eq_true_iff]
    exact e4
  · have fin : (cmpK p q ≤ 0 → True) → cond (decide ((0 : Int) ≤ cmpK p q)) (true = true) (cond (decide ((0 : Int) < cmpK q z)) (true = true) (callP bs n_order_Compare (.pair sRun sRun) (.int .i64) ((p.1, p.2), z.1, z.2) (fun r => decide (r < (0 : Int)) = true))) := fun _ => by
      refine cond_dec (fun _ => rfl) fun h1 => cond_dec (fun _ => rfl) fun h2 => callP_eq (ok_order_Compare (a := p) (b := z)) (decide_eq_true (e3 (by omega) (by omega)))
    refine cond_dec (fun h1 => fin fun _ => trivial) fun h1 => cond_dec (fun h2 => fin fun _ => trivial) fun h2 => callP_eq (ok_order_Compare (a := p) (b := z)) (cond_yes (decide_eq_true (e2 (by
      have h1 : ¬ 0 < cmpK p q := h1
      omega) (by
      have h2 : ¬ 0 < cmpK q z := h2
      omega))) (fin fun _ => trivial))

open Classical in
theorem ok_OrderPairs (a : List Leaf × List Leaf × (Int × Int) × (Int × Int)) (hl : a.1.length ≤ 9223372036854775807) (hm : a.2.1.length ≤ 9223372036854775807) : FnE bs n_lustrumlaw21_OrderPairs ((Shape.pair (.slice sApiLeaf) (.pair (.slice sApiLeaf) (.pair sRun sRun))).compsE a) .bool (· = true) := by
  obtain ⟨l, m, x0, y0⟩ := a
  refine ok_of (e_lustrumlaw21_OrderPairs (l, m, x0, y0) _) rfl ?_
  unfold c_lustrumlaw21_OrderPairs
  refine callP_eq ok_lustrumlaw21_awake (callP_of (ok_lustrumref15_Few hl) fun x hx => cond_not (fun h => rfl) fun h => callP_of (ok_lustrumref15_Few hm) fun y hy => cond_not (fun h => rfl) fun h2 => ?_)
  have fl : FewL 1000 l := few1000 (hx h).2
  have fm : FewL 1000 m := few1000 (hy h2).2
  refine callP_eq (ok_denote_Has (l := l) (p := x0) fl) (cond_not (fun _ => rfl) fun h3 => callP_eq (ok_denote_Has (l := m) (p := y0) fm) (cond_not (fun _ => rfl) fun h4 => ?_))
  have has : ∀ {l : List Leaf} {p : Int × Int}, (∃ f ∈ l, HasF f p) → anyP l p := fun ⟨f, hf, hh⟩ => ⟨f, hf, fam_has hh⟩
  have hp := has (of_decide_eq_true h3)
  have hq := has (of_decide_eq_true h4)
  refine callP_eq (ok_order_Certainly fl fm) (callP_eq (ok_order_Possibly fl fm) ?_)
  cases e1 : allF l with
  | none => exact absurd ⟨x0, hp⟩ (all_some_iff e1)
  | some p =>
    cases e2 : allF m with
    | none => exact absurd ⟨y0, hq⟩ (all_some_iff e2)
    | some q =>
      rw [cert_some e1 e2, cert_some e1 e2]
      have k1 := cert_iff e1 e2
      have k2 := poss_iff e1 e2
      have tail : cond (decide (y0.1 ≤ x0.2)) (true = true) ((decide (p.2.2.1 < q.2.1)) = true) := cond_dec (fun _ => rfl) fun h => decide_eq_true (k2.2 ⟨x0, y0, hp, hq, by have h : ¬ y0.1 ≤ x0.2 := h; omega⟩)
      refine cond_yes rfl (cond_yes rfl (cond_yes rfl (cond_not (fun _ => tail) fun hc => ?_)))
      exact cond_yes (decide_eq_true (k1.1 (of_decide_eq_true hc) x0 y0 hp hq)) tail

theorem three_bools (a b c p q s : Bool) (h1 : a = true → b = true → c = true) (h2 : a = true → p = true → q = true) (h3 : s = false) :
    cond (!a) (cond (!a) ((!s) = true) (cond (!p) ((!s) = true) (cond q ((!s) = true) (false = true)))) (cond (!b) (cond (!a) ((!s) = true) (cond (!p) ((!s) = true) (cond q ((!s) = true) (false = true)))) (cond c (cond (!a) ((!s) = true) (cond (!p) ((!s) = true) (cond q ((!s) = true) (false = true)))) (false = true))) := by
  cases a <;> cases b <;> cases c <;> cases p <;> cases q <;> cases s <;> first | exact absurd h3 (by decide) | exact absurd (h1 rfl rfl) (by decide) | exact absurd (h2 rfl rfl) (by decide) | exact (rfl : (true = true))

theorem ok_OrderThree (a : List Leaf × List Leaf × List Leaf) (hl : a.1.length ≤ 9223372036854775807) (hm : a.2.1.length ≤ 9223372036854775807) (hk : a.2.2.length ≤ 9223372036854775807) : FnE bs n_lustrumlaw21_OrderThree ((Shape.pair (.slice sApiLeaf) (.pair (.slice sApiLeaf) (.slice sApiLeaf))).compsE a) .bool (· = true) := by
  obtain ⟨l, m, k⟩ := a
  refine ok_of (e_lustrumlaw21_OrderThree (l, m, k) _) rfl ?_
  unfold c_lustrumlaw21_OrderThree
  refine callP_eq ok_lustrumlaw21_awake (callP_of (ok_lustrumref15_Few hl) fun x hx => cond_not (fun h => rfl) fun h => callP_of (ok_lustrumref15_Few hm) fun y hy => cond_not (fun h => rfl) fun h2 => callP_of (ok_lustrumref15_Few hk) fun z hz => cond_not (fun h => rfl) fun h3 => ?_)
  have fl : FewL 1000 l := few1000 (hx h).2
  have fm : FewL 1000 m := few1000 (hy h2).2
  have fk : FewL 1000 k := few1000 (hz h3).2
  refine callP_eq (ok_order_Certainly fl fm) (callP_eq (ok_order_Certainly fm fk) (callP_eq (ok_order_Certainly fl fk) (callP_eq (ok_order_Possibly fm fk) (callP_eq (ok_order_Possibly fl fk) (callP_eq (ok_order_Certainly fl fl) (cond_yes rfl ?_))))))
  refine three_bools _ _ _ _ _ _ (fun q1 q2 => ?_) (fun q1 q2 => ?_) ?_
  · obtain ⟨p, q, e1, e2, g1⟩ := cert_true.1 q1
    obtain ⟨q', r, e3, e4, g2⟩ := cert_true.1 q2
    rw [e2] at e3; cases e3
    have := bounds_order e2
    exact cert_true.2 ⟨p, r, e1, e4, by omega⟩
  · obtain ⟨p, q, e1, e2, g1⟩ := cert_true.1 q1
    obtain ⟨q', r, e3, e4, g2⟩ := cert_true.1 q2
    rw [e2] at e3; cases e3
    have := bounds_order e1
    have := bounds_order e2
    exact cert_true.2 ⟨p, r, e1, e4, by omega⟩
  · cases e : (certF (·.2.2.2) (·.1) l l).1
    · rfl
    · obtain ⟨p, q, e1, e2, g1⟩ := cert_true.1 e
      rw [e1] at e2; cases e2
      have := bounds_order e1
      omega
end Go.Proofs.YtocmlcpcnjaaeaaDoor.V


/- Layer 21's law OrderRises. No condition of its own. -/
namespace Go.Proofs.YtocmlcpcnjaaeaaDoor.V
open Go
set_option linter.unusedVariables false
set_option linter.unusedSimpArgs false
set_option linter.unusedSectionVars false

theorem ok_lustrumlaw21_few {l : List (List Leaf)} (hl : l.length ≤ 9223372036854775807) (hx : ∀ x ∈ l, x.length ≤ 9223372036854775807) : FnE bs n_lustrumlaw21_few ((Shape.slice (.slice sApiLeaf)).compsE l) .bool (fun r => r = true → l.length ≤ 20 ∧ ∀ x ∈ l, FewL 40 x) := by
  refine ok_of (e_lustrumlaw21_few l _) rfl ?_
  unfold c_lustrumlaw21_few
  refine loopP_of (fun z : Int => ∃ k : Nat, z = k ∧ k ≤ l.length ∧ ∀ (i : Nat) x, i < k → l[i]? = some x → FewL 40 x) (fun z => l.length - z.toNat) ?_ ⟨0, rfl, Nat.zero_le _, fun i f h => by omega⟩
  rintro _ A ⟨k, rfl, hk, hi⟩ back
  refine cond_dec (fun h1 => ⟨⟨by omega, h1⟩, ?_⟩) fun h1 => ?_
  · have h1 : (k : Int) < l.length := h1
    have hk' : k < l.length := by omega
    have hg := List.getElem?_eq_getElem hk'
    have hxl := hx l[k] (List.getElem_mem hk')
    generalize l[k] = x at hg hxl
    rw [Int.toNat_natCast, rd_of (s := .slice sApiLeaf) hg, w_succ63 (by omega)]
    refine callP_of (ok_lustrumref15_Few hxl) fun r hr => cond_not (fun h => fun q => by cases q) fun h => ?_
    refine back _ ⟨k + 1, rfl, hk', fun i g hik hg2 => ?_⟩ (by omega)
    by_cases e : i = k
    · subst e; rw [hg] at hg2; cases hg2; exact (hr h).2
    · exact hi i g (by omega) hg2
  · intro h
    have h : (l.length : Int) ≤ 20 := of_decide_eq_true h
    refine ⟨by omega, fun x hx => ?_⟩
    obtain ⟨i, hi2⟩ := List.getElem?_of_mem hx
    have := (List.getElem?_eq_some_iff.1 hi2).1
    exact hi i x (by have h1 : ¬ (k : Int) < l.length := h1; omega) hi2

theorem mem_places {l : List (List Leaf)} {p : Pl} (h : p ∈ placesF l) : ∃ k : Nat, k < l.length ∧ p = ((k : Int), keyF (l.getD k [])) := by
  unfold placesF at h
  obtain ⟨k, hk, rfl⟩ := List.mem_map.1 h
  exact ⟨k, List.mem_range.1 hk, rfl⟩

theorem places_nodup (l : List (List Leaf)) : ((placesF l).map (·.1)).Nodup := by
  unfold placesF
  rw [List.map_map]
  have : (((fun x : Pl => x.1) ∘ fun (k : Nat) => ((k : Int), keyF (l.getD k []))) : Nat → Int) = fun (k : Nat) => (k : Int) := rfl
  rw [this]
  unfold List.Nodup
  rw [List.pairwise_map]
  exact List.pairwise_lt_range.imp fun h => by omega

theorem ok_OrderRises (l : List (List Leaf)) (hl : l.length ≤ 9223372036854775807) (hxl : ∀ x ∈ l, x.length ≤ 9223372036854775807) : FnE bs n_lustrumlaw21_OrderRises ((Shape.slice (.slice sApiLeaf)).compsE l) .bool (· = true) := by
  refine ok_of (e_lustrumlaw21_OrderRises l _) rfl ?_
  unfold c_lustrumlaw21_OrderRises
  refine callP_eq ok_lustrumlaw21_awake (callP_of (ok_lustrumlaw21_few hl hxl) fun r hr => cond_not (fun _ => rfl) fun h => ?_)
  obtain ⟨hn, hf⟩ := hr h
  have hf1 : ∀ x ∈ l, FewL 1000 x := fun x hx => few1000 (hf x hx)
  refine callP_of (ok_order_Sort hf1 (by omega)) fun s hs => ?_
  obtain ⟨ps, hp, hsort, rfl⟩ := hs
  have hlen : ps.length = l.length := by rw [hp.length_eq, placesF_length]
  have hnd : (ps.map (·.1)).Nodup := (hp.map (·.1)).nodup_iff.2 (places_nodup l)
  refine cond_no (by rw [Bool.not_eq_false', decide_eq_true_iff, List.length_map, hlen]) ?_
  have hget : ∀ i, i < l.length → ∃ a : Nat, a < l.length ∧ ps[i]? = some ((a : Int), keyF (l.getD a [])) ∧ (ps.map (·.1))[i]? = some (a : Int) ∧ l[a]? = some (l.getD a []) ∧ l.getD a [] ∈ l := fun i hi => by
    have hi' : i < ps.length := by omega
    obtain ⟨a, ha, e⟩ := mem_places (hp.subset (List.getElem_mem hi'))
    have h1 : ps[i]? = some ((a : Int), keyF (l.getD a [])) := by rw [List.getElem?_eq_getElem hi', e]
    have h2 : l[a]? = some (l.getD a []) := by rw [List.getD_eq_getElem?_getD, List.getElem?_eq_getElem ha]; rfl
    exact ⟨a, ha, h1, by rw [List.getElem?_map, h1]; rfl, h2, List.mem_of_getElem? h2⟩
  have hml : (ps.map (·.1)).length = l.length := by rw [List.length_map, hlen]
  refine loopP_of (fun z : Int => ∃ i : Nat, z = i ∧ i ≤ l.length) (fun z => l.length - z.toNat) ?_ ⟨0, rfl, Nat.zero_le _⟩
  rintro _ A ⟨i, rfl, hi⟩ back
  rw [hml]
  refine cond_dec (fun h1 => ?_) fun h1 => rfl
  have h1 : (i : Int) < l.length := h1
  have hi' : i < l.length := by omega
  obtain ⟨b, hb, gb, sb, lb, mb⟩ := hget i hi'
  have r1 : (0 : Int) ≤ (i : Int) ∧ (i : Int) < (l.length : Int) := by omega
  rw [Int.toNat_natCast, rd_of (s := .int .i64) sb]
  refine ⟨r1, cond_no (decide_eq_false (show ¬ (b : Int) < 0 by omega)) ⟨r1, cond_no (decide_eq_false (show ¬ (l.length : Int) ≤ (b : Int) by omega)) ?_⟩⟩
  rw [w_succ (by omega), Int.toNat_natCast, rd_of (s := .slice sApiLeaf) lb]
  refine loopP_of (fun z : Int => ∃ k : Nat, z = k ∧ k ≤ i) (fun z => i - z.toNat) ?_ ⟨0, rfl, Nat.zero_le _⟩
  rintro _ A2 ⟨k, rfl, hk⟩ back2
  refine cond_dec (fun h2 => ?_) fun h2 => back _ ⟨i + 1, rfl, hi'⟩ (by omega)
  have h2 : (k : Int) < (i : Int) := h2
  obtain ⟨a, ha, ga, sa, la, ma⟩ := hget k (by omega)
  have r2 : (0 : Int) ≤ (k : Int) ∧ (k : Int) < (l.length : Int) := by omega
  have ra : (0 : Int) ≤ (a : Int) ∧ (a : Int) < (l.length : Int) := by omega
  have rb : (0 : Int) ≤ (b : Int) ∧ (b : Int) < (l.length : Int) := by omega
  have hne : ¬ (a : Int) = (b : Int) := fun e => by
    have hpw := List.pairwise_iff_getElem.1 hnd k i (by omega) (by omega) (by omega)
    have e1 := (List.getElem?_eq_some_iff.1 sa).2
    have e2 := (List.getElem?_eq_some_iff.1 sb).2
    rw [e1, e2] at hpw
    exact hpw e
  have hle : leP ((a : Int), keyF (l.getD a [])) ((b : Int), keyF (l.getD b [])) := by
    have hpw := List.pairwise_iff_getElem.1 hsort k i (by omega) (by omega) (by omega)
    have e1 := (List.getElem?_eq_some_iff.1 ga).2
    have e2 := (List.getElem?_eq_some_iff.1 gb).2
    rw [e1, e2] at hpw
    exact hpw
  have nxt : A2 ((k + 1 : Nat) : Int) := back2 _ ⟨k + 1, rfl, by omega⟩ (by omega)
  rw [Int.toNat_natCast, rd_of (s := .int .i64) sa, w_succ (by omega), Int.toNat_natCast, rd_of (s := .slice sApiLeaf) la]
  refine ⟨r2, r1, cond_no (decide_eq_false hne) ⟨r2, ra, callP_eq (ok_order_Of (hf1 _ ma)) ⟨r1, rb, callP_eq (ok_order_Of (hf1 _ mb)) ?_⟩⟩⟩
  unfold keyF leP at hle
  dsimp only at hle ⊢
  generalize l.getD a [] = x at hle
  generalize l.getD b [] = y at hle
  cases e1 : allF x with
  | none =>
    rw [day_none e1, day_none e1] at hle ⊢
    cases e2 : allF y with
    | none =>
      rw [day_none e2, day_none e2] at hle ⊢
      have hab : ¬ (b : Int) < (a : Int) := by simp at hle; omega
      exact cond_yes rfl (cond_no rfl (cond_yes rfl (cond_yes rfl ⟨r2, r1, cond_no (decide_eq_false hab) (cond_no rfl nxt)⟩)))
    | some q =>
      rw [day_some e2, day_some e2] at hle
      simp at hle
  | some p =>
    rw [day_some e1, day_some e1] at hle ⊢
    cases e2 : allF y with
    | none =>
      rw [day_none e2, day_none e2]
      exact cond_no rfl (cond_no rfl (cond_yes rfl (cond_no rfl (cond_yes rfl (cond_no rfl nxt)))))
    | some q =>
      rw [day_some e2, day_some e2] at hle ⊢
      simp only [decide_true, Bool.not_true, Bool.false_eq_true, false_and, true_and, false_or] at hle
      have hk := cmpK3 (p.1, p.2.2.2) (q.1, q.2.2.2)
      unfold ltK at hk
      dsimp only at hk
      have hc : ¬ 0 < cmpK (p.1, p.2.2.2) (q.1, q.2.2.2) := by omega
      refine cond_no rfl (cond_no rfl (cond_yes rfl (cond_yes rfl (cond_bool (fun q1 => ?_) fun q1 => ?_))))
      · simp only [Bool.and_eq_true, decide_eq_true_eq] at q1
        have q11 : p.1 = q.1 := q1.1
        have q12 : p.2.2.2 = q.2.2.2 := q1.2
        have hab : ¬ (b : Int) < (a : Int) := by omega
        exact ⟨r2, r1, cond_no (decide_eq_false hab) (cond_yes rfl (cond_yes rfl (callP_eq ok_order_Compare (cond_no (decide_eq_false hc) nxt))))⟩
      · exact cond_yes rfl (cond_yes rfl (callP_eq ok_order_Compare (cond_no (decide_eq_false hc) nxt)))
end Go.Proofs.YtocmlcpcnjaaeaaDoor.V

