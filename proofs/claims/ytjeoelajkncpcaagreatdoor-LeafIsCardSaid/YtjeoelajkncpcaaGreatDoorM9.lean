/- The calculus of the program's functions and their contracts, part 9. No condition of its own. -/
import Derived.Test.YtjeoelajkncpcaaGreatDoorM8


/- image: marks, Starts, Ends, search, Inside, Touch: their contracts. No condition of its own. -/
namespace Go.Proofs.YtjeoelajkncpcaaGreatDoor.V
open Go
set_option linter.unusedVariables false
set_option linter.unusedSimpArgs false

theorem ok_rf {B : Base} {g : Cfg} {f : FuncId} {args : List EV} {out : Shape} {R : out.Val → Prop} {C : Prop} (e : g.fnRK f args out R = C) (hb : g.toBase = B) (H : HanOK g) (h : C) : FnE B f args out R := by rw [← hb]; exact fnR_sound H (e.mpr h)

theorem nums_count : ∀ {s : Runs} {a : Int}, SaneFrom a s → ((nums s).length : Int) = countF s
  | [], _, _ => rfl
  | r :: s, a, h => by
    have h1 := nums_count h.2.2.2
    have h2 := h.1
    unfold nums at *
    rw [List.flatMap_cons, List.length_append, upTo_length]
    unfold countF
    omega

theorem ok_image_marks {u : Int} {s : Runs} {g : Int → Int → Int} {f : Int × Int → Int × Bool} (hl : s.length < 65536) (hf : ∀ i, 0 ≤ i → i < VCal.ucount u → (f (u, i)).1 = g u i) :
    FnE bs n_image_marks ((Shape.pair (.int .i64) (.pair (.slice sRun) (.func (.pair (.int .i64) (.int .i64)) (.tup (.pair (.int .i64) .bool))))).compsE (u, s, fun x => some (f x))) (.tup (.pair (.slice sRun) .bool)) (fun r => r.2 = (marksF g u s).2 ∧ (r.2 = true → r.1 = (marksF g u s).1)) := by
  refine ok_rf (e_image_marks (u, s, fun x => some (f x)) _) rfl (HanOK.ofList [(93, .inl g_image_each_in)] rfl rfl ⟨rfl, HanOK.none rfl rfl, trivial⟩) ?_
  unfold c_image_marks
  refine callP_eq (ok_image_units hl) ?_
  have hs := units_sane u s
  have hlen := units_length u s
  have hc := VCal.ucount_pos u
  have hus := make_self hs
  refine cond_dec (fun e => ?_) fun e => ?_
  · have e : u = 0 := e
    refine callP_eq (ok_sets_WideA (s := unitsF u s) (by omega)) ?_
    rw [hus]
    unfold marksF
    rw [if_pos e]
    by_cases hw : 400 < (unitsF u s).length
    · rw [if_pos hw, decide_eq_true hw]
      exact ⟨rfl, fun h => by cases h⟩
    · rw [if_neg hw, decide_eq_false hw]
      exact ⟨rfl, fun _ => rfl⟩
  · have e : ¬ u = 0 := e
    refine callP_eq (ok_runs_CountA (s := unitsF u s) (by omega)) ?_
    rw [hus, ← nums_count hs]
    unfold marksF
    rw [if_neg e]
    refine cond_dec (fun hw => ?_) fun hw => ?_
    · have hw : (400 : Int) < ((nums (unitsF u s)).length : Int) := hw
      rw [if_pos (by omega)]
      exact ⟨rfl, fun h => by cases h⟩
    · have hw : ¬ (400 : Int) < ((nums (unitsF u s)).length : Int) := hw
      rw [if_neg (by omega)]
      refine ⟨nums (unitsF u s), iter_each (z := unitsF u s) (fun r hr => by have := units_in hr; omega) (by omega) _ rfl, ?_⟩
      refine ⟨fun pre y => y.1 = pre.map (g u), rfl, fun pre x y hx hpl hy => ?_, fun y hy => ?_⟩
      · refine gcall_eq rfl ⟨?_, ?_⟩
        · have : y.1.length = pre.length := by rw [hy, List.length_map]
          show (y.1.length + 1) * 8 ≤ _
          omega
        · show y.1 ++ [(f (u, x)).1] = (pre ++ [x]).map (g u)
          have b := nums_units hx
          rw [hy, List.map_append, hf x b.1 b.2]
          rfl
      · have hyl : y.1.length ≤ 400 := by rw [hy, List.length_map]; omega
        refine callP_eq (ok_runs_Of (l := y.1) (by omega)) ⟨rfl, fun _ => ?_⟩
        show makeF (y.1.map fun n => (n, n)) = _
        rw [hy]
        rfl

theorem ok_image_Starts {u : Int} {s : Runs} (hl : s.length < 65536) : FnE bs n_image_Starts ((Shape.pair (.int .i64) (.slice sRun)).compsE (u, s)) (.tup (.pair (.slice sRun) .bool)) (· = marksF VCal.ufirst u s) := by
  refine ok_of (e_image_Starts (u, s) _) rfl ?_
  unfold c_image_Starts
  refine ⟨_, cl_First, callP_of (ok_image_marks (g := VCal.ufirst) hl fun i h0 h1 => by show (firstS u i).1 = _; unfold firstS; rw [if_pos ⟨h0, h1⟩]) fun r hr => ?_⟩
  obtain ⟨h1, h2⟩ := hr
  refine cond_not (fun h => ?_) fun h => ?_
  · rw [h] at h1
    generalize hm : marksF VCal.ufirst u s = q at h1
    obtain ⟨l, b⟩ := q
    have h1 : false = b := h1
    subst h1
    have : l = [] := by
      unfold marksF at hm
      split at hm <;> split at hm <;> first | (cases hm; rfl) | cases hm
    rw [this]
  · rw [h2 h]
    rw [h] at h1
    exact Prod.ext rfl h1

theorem ok_image_Ends {u : Int} {s : Runs} (hl : s.length < 65536) : FnE bs n_image_Ends ((Shape.pair (.int .i64) (.slice sRun)).compsE (u, s)) (.tup (.pair (.slice sRun) .bool)) (· = marksF VCal.ulast u s) := by
  refine ok_of (e_image_Ends (u, s) _) rfl ?_
  unfold c_image_Ends
  refine ⟨_, cl_Last, callP_of (ok_image_marks (g := VCal.ulast) hl fun i h0 h1 => by show (lastS u i).1 = _; unfold lastS; rw [if_pos ⟨h0, h1⟩]) fun r hr => ?_⟩
  obtain ⟨h1, h2⟩ := hr
  refine cond_not (fun h => ?_) fun h => ?_
  · rw [h] at h1
    generalize hm : marksF VCal.ulast u s = q at h1
    obtain ⟨l, b⟩ := q
    have h1 : false = b := h1
    subst h1
    have : l = [] := by
      unfold marksF at hm
      split at hm <;> split at hm <;> first | (cases hm; rfl) | cases hm
    rw [this]
  · rw [h2 h]
    rw [h] at h1
    exact Prod.ext rfl h1

/-! ### Units within days -/

/-- The units from one place to another. -/
def WithinR (cnt : Int) (P Q : Int → Prop) (r : Runs) : Prop := ∃ a b, FromR cnt P a ∧ FromR cnt Q b ∧ r = makeF [(a, b - 1)]

theorem first_of {u : Int} : ∀ i, 0 ≤ i → i < VCal.ucount u → (firstS (u, i).1 (u, i).2).1 = VCal.ufirst u i := fun i h0 h1 => by show (firstS u i).1 = _; unfold firstS; rw [if_pos ⟨h0, h1⟩]
theorem last_of {u : Int} : ∀ i, 0 ≤ i → i < VCal.ucount u → (lastS (u, i).1 (u, i).2).1 = VCal.ulast u i := fun i h0 h1 => by show (lastS u i).1 = _; unfold lastS; rw [if_pos ⟨h0, h1⟩]

theorem mem_within {u n : Int} {P Q : Int → Prop} {r : Runs} (h : WithinR (VCal.ucount u) P Q r) : mem r n ↔ 0 ≤ n ∧ n < VCal.ucount u ∧ P n ∧ ¬ Q n := by
  obtain ⟨a, b, ha, hb, rfl⟩ := h
  have hc := VCal.ucount_pos u
  rw [mem_between2 ha.1 hb.2.1 hc.2]
  constructor
  · rintro ⟨h1, h2⟩
    have h0 : 0 ≤ n := Int.le_trans ha.1 h1
    have h3 : n < VCal.ucount u := Int.lt_of_lt_of_le h2 hb.2.1
    exact ⟨h0, h3, (ha.iff h0 h3).1 h1, fun q => by have := (hb.iff h0 h3).2 q; omega⟩
  · rintro ⟨h0, h3, h1, h2⟩
    refine ⟨(ha.iff h0 h3).2 h1, ?_⟩
    rcases Int.lt_or_le n b with e | e
    · exact e
    · exact absurd ((hb.iff h0 h3).1 e) h2

theorem within_is_sane {cnt : Int} {P Q : Int → Prop} {r : Runs} (h : WithinR cnt P Q r) : Sane r := by obtain ⟨a, b, _, _, rfl⟩ := h; exact make_sane _
theorem within_len {cnt : Int} {P Q : Int → Prop} {r : Runs} (h : WithinR cnt P Q r) : r.length ≤ 1 := by obtain ⟨a, b, _, _, rfl⟩ := h; exact make_length [(a, b - 1)]
end Go.Proofs.YtjeoelajkncpcaaGreatDoor.V


/- lustrumlaw07: the laws of units' days, as conditions on the program's functions alone. No condition of its own. -/
namespace Go.Proofs.YtjeoelajkncpcaaGreatDoor.V
open Go
set_option linter.unusedVariables false
set_option linter.unusedSimpArgs false

theorem exMarks : marksF VCal.ufirst 1 [(24000, 24001)] = ([(730485, 730485), (730516, 730516)], true) := by decide +kernel

theorem from_is {cnt r k : Int} {P : Int → Prop} (h : FromR cnt P r) (h0 : 0 ≤ k) (h1 : k < cnt) (hp : P k) (hn : k = 0 ∨ ¬ P (k - 1)) : r = k := by
  have a := (h.iff h0 h1).2 hp
  rcases hn with e | e
  · have := h.1; omega
  · rcases Int.lt_or_le 0 k with q | q
    · have : ¬ r ≤ k - 1 := fun x => e ((h.iff (by omega) (by omega)).1 x)
      omega
    · have := h.1; omega

theorem exInside {r : Runs} (h : WithinR (VCal.ucount 3) (fun i => 730485 ≤ VCal.ufirst 3 i) (fun i => 731031 < VCal.ulast 3 i) r) : r = [(2000, 2000)] := by
  obtain ⟨a, b, ha, hb, rfl⟩ := h
  have e1 : a = 2000 := from_is ha (by decide) (by decide +kernel) (by decide +kernel) (.inr (by decide +kernel))
  have e2 : b = 2001 := from_is hb (by decide) (by decide +kernel) (by decide +kernel) (.inr (by decide +kernel))
  subst e1 e2
  decide +kernel

theorem exTouch {r : Runs} (h : WithinR (VCal.ucount 3) (fun i => 5 ≤ VCal.ulast 3 i) (fun i => 6 < VCal.ufirst 3 i) r) : r = [(0, 0)] := by
  obtain ⟨a, b, ha, hb, rfl⟩ := h
  have e1 : a = 0 := from_is ha (by decide) (by decide +kernel) (by decide +kernel) (.inl rfl)
  have e2 : b = 1 := from_is hb (by decide) (by decide +kernel) (by decide +kernel) (.inr (by decide +kernel))
  subst e1 e2
  decide +kernel

theorem saneB {s : Runs} (hl : s.length ≤ 1000000000) (h : Sane s) : FnE bs n_runs_Sane ((Shape.slice sRun).compsE s) .bool (· = true) := FnE.mono (ok_runs_Sane hl) fun r hr => by rw [hr]; exact decide_eq_true h

theorem hasB {s : Runs} {n : Int} (hl : s.length < 65536) (h : Sane s) : FnE bs n_runs_Has ((Shape.pair (.slice sRun) (.int .i64)).compsE (s, n)) .bool (· = decide (mem s n)) := by
  have := ok_runs_HasA (s := s) (n := n) hl
  rw [make_self h] at this
  exact this

theorem cover_of {u : Int} {s : Runs} {a b : Runs} (h : ∀ i, mem (makeF s) i ↔ mem (makeF a) i ∨ mem (makeF b) i) : coverF u s = makeF (coverF u a ++ coverF u b) := by
  refine sane_ext (cover_sane u s) (make_sane _) fun d => ?_
  rw [mem_union (cover_sane u a) (cover_sane u b), mem_cover, mem_cover, mem_cover]
  constructor
  · rintro ⟨i, h1, h2⟩
    exact ((h i).1 h2).elim (fun q => .inl ⟨i, h1, q⟩) fun q => .inr ⟨i, h1, q⟩
  · rintro (⟨i, h1, h2⟩ | ⟨i, h1, h2⟩)
    · exact ⟨i, h1, (h i).2 (.inl h2)⟩
    · exact ⟨i, h1, (h i).2 (.inr h2)⟩

end Go.Proofs.YtjeoelajkncpcaaGreatDoor.V


/- lustrumlaw07.ImageEnds as a condition on the program's functions. No condition of its own. -/
namespace Go.Proofs.YtjeoelajkncpcaaGreatDoor.V
open Go
set_option linter.unusedVariables false
set_option linter.unusedSimpArgs false

theorem countF_singles : ∀ l : List Int, countF (singles l) = l.length
  | [] => rfl
  | n :: l => by
    show (n - n + 1) + countF (singles l) = _
    rw [countF_singles l, List.length_cons]
    omega

/-- Is it told? -/
def toldF (u : Int) (s : Runs) : Bool := if u = 0 then !decide (400 < (unitsF u s).length) else !decide (400 < (nums (unitsF u s)).length)

theorem marks_told (g : Int → Int → Int) (u : Int) (s : Runs) : (marksF g u s).2 = toldF u s ∧ (toldF u s = false → (marksF g u s).1 = []) := by
  unfold marksF toldF
  split
  · by_cases h : 400 < (unitsF u s).length
    · rw [if_pos h, decide_eq_true h]; exact ⟨rfl, fun _ => rfl⟩
    · rw [if_neg h, decide_eq_false h]; exact ⟨rfl, fun q => by cases q⟩
  · by_cases h : 400 < (nums (unitsF u s)).length
    · rw [if_pos h, decide_eq_true h]; exact ⟨rfl, fun _ => rfl⟩
    · rw [if_neg h, decide_eq_false h]; exact ⟨rfl, fun q => by cases q⟩

theorem marks_count {g : Int → Int → Int} (hg : DayIn g) {u : Int} {s l : Runs} (h : marksF g u s = (l, true)) : countF l = countF (unitsF u s) := by
  unfold marksF at h
  split at h
  · split at h
    · cases h
    · cases h; rfl
  · rename_i e
    split at h
    · cases h
    · cases h
      rw [marks_eq hg e, countF_singles, List.length_map, nums_count (units_sane u s)]

/-- Is there a unit of a set that a day is in, and does it begin, or end, there? -/
def atB (g : Int → Int → Int) (u : Int) (s : Runs) (d : Int) : Bool := match VCal.uof u d with
  | some n => decide (mem (makeF s) n) && decide (g u n = d)
  | none => false

theorem marks_at {g : Int → Int → Int} (hg : DayIn g) {u : Int} {s l : Runs} (h : marksF g u s = (l, true)) {d : Int} : decide (mem l d) = atB g u s d := by
  rw [Bool.eq_iff_iff, decide_eq_true_iff, mem_marks hg h]
  unfold atB
  constructor
  · rintro ⟨i, h1, h2, h3, h4⟩
    have b := hg.is h2 h3
    have : VCal.uof u d = some i := VCal.uof_some.2 ⟨h2, h3, by omega, by omega⟩
    rw [this]
    simp [h1, h4]
  · cases hu : VCal.uof u d with
    | none => intro h; cases h
    | some n =>
      intro h
      simp only [Bool.and_eq_true, decide_eq_true_eq] at h
      have := VCal.uof_some.1 hu
      exact ⟨n, h.1, this.1, this.2.1, h.2⟩

end Go.Proofs.YtjeoelajkncpcaaGreatDoor.V


/- lustrumlaw14.LeafEnds as a condition on the program's functions. No condition of its own. -/
namespace Go.Proofs.YtjeoelajkncpcaaGreatDoor.V
open Go
set_option linter.unusedVariables false
set_option linter.unusedSimpArgs false

def knownF (s : Runs) : Runs × Bool := if 400 < s.length then ([], false) else (s, true)

theorem ok_leaf_known {s : Runs} (hl : s.length < 65536) (h : Sane s) : FnE bs n_leaf_known ((Shape.slice sRun).compsE s) (.tup (.pair (.slice sRun) .bool)) (· = knownF s) := by
  refine ok_of (e_leaf_known s _) rfl ?_
  unfold c_leaf_known knownF
  refine callP_eq (ok_sets_WideA hl) ?_
  rw [make_self h]
  exact cond_dec (fun q => (if_pos q).symm) fun q => (if_neg q).symm

/-- The days on which a leaf's pairs start, and end. -/
def startsL (f : Leaf) : Runs × Bool := match ofF f with
  | none => ([], true)
  | some (.inl (u, s)) => marksF VCal.ufirst u s
  | some (.inr (a, b)) => knownF a
def endsL (f : Leaf) : Runs × Bool := match ofF f with
  | none => ([], true)
  | some (.inl (u, s)) => marksF VCal.ulast u s
  | some (.inr (a, b)) => knownF b

theorem span_lens {f : Leaf} {a b : Runs} (h : ofF f = some (.inr (a, b))) : a.length ≤ f.2.2.1.length ∧ b.length ≤ f.2.2.2.length := by
  obtain ⟨_, _, _, _, _, _, _, rfl, rfl⟩ := of_span h
  exact ⟨clip_length _ _ _, clip_length _ _ _⟩

theorem ok_leaf_Starts {f : Leaf} (hla : f.2.2.1.length < 65536) (hlb : f.2.2.2.length < 65536) : FnE bs n_leaf_Starts (sApiLeaf.compsE f) (.tup (.pair (.slice sRun) .bool)) (· = startsL f) := by
  refine ok_of (e_leaf_Starts f _) rfl ?_
  unfold c_leaf_Starts startsL
  refine callP_eq (ok_leaf_of (by dsimp only; omega) (by dsimp only; omega)) ?_
  rw [show ((f.1, f.2.1, f.2.2.1, f.2.2.2) : Leaf) = f from rfl]
  rcases ho : ofF f with _ | ⟨u, s⟩ | ⟨a, b⟩
  · exact rfl
  · obtain ⟨h1, h2, rfl, rfl, h5, h6, h7⟩ := of_units ho
    exact callP_eq (ok_image_Starts hla) rfl
  · have hs := span_ends ho
    have hl := span_lens ho
    exact callP_eq (ok_leaf_known (by dsimp only; omega) hs.1) rfl

theorem ok_leaf_Ends {f : Leaf} (hla : f.2.2.1.length < 65536) (hlb : f.2.2.2.length < 65536) : FnE bs n_leaf_Ends (sApiLeaf.compsE f) (.tup (.pair (.slice sRun) .bool)) (· = endsL f) := by
  refine ok_of (e_leaf_Ends f _) rfl ?_
  unfold c_leaf_Ends endsL
  refine callP_eq (ok_leaf_of (by dsimp only; omega) (by dsimp only; omega)) ?_
  rw [show ((f.1, f.2.1, f.2.2.1, f.2.2.2) : Leaf) = f from rfl]
  rcases ho : ofF f with _ | ⟨u, s⟩ | ⟨a, b⟩
  · exact rfl
  · obtain ⟨h1, h2, rfl, rfl, h5, h6, h7⟩ := of_units ho
    exact callP_eq (ok_image_Ends hla) rfl
  · have hs := span_ends ho
    have hl := span_lens ho
    exact callP_eq (ok_leaf_known (by dsimp only; omega) hs.2.1) rfl

theorem known_spec {s l : Runs} {b : Bool} (hs : Sane s) (h : knownF s = (l, b)) : Sane l ∧ l.length ≤ 400 ∧ (b = true → l = s) ∧ (b = false → l = []) := by
  unfold knownF at h
  split at h
  · cases h; exact ⟨trivial, Nat.zero_le _, fun q => (by cases q), fun _ => rfl⟩
  · cases h; exact ⟨hs, by omega, fun _ => rfl, fun q => by cases q⟩

theorem marks_nil {g : Int → Int → Int} {u : Int} {s l : Runs} (h : marksF g u s = (l, false)) : l = [] := by
  have := marks_told g u s
  rw [h] at this
  exact this.2 this.1.symm

theorem starts_spec {f : Leaf} {l : Runs} {b : Bool} (h : startsL f = (l, b)) : Sane l ∧ l.length ≤ 400 ∧ (b = false → l = []) ∧ (b = true → ∀ d, mem l d ↔ ∃ p ∈ famPairs (ofF f), p.1 = d) := by
  unfold startsL at h
  rcases ho : ofF f with _ | ⟨u, s⟩ | ⟨x, y⟩
  · rw [ho] at h
    cases h
    exact ⟨trivial, Nat.zero_le _, fun _ => rfl, fun _ d => ⟨fun q => (mem_nil q).elim, fun ⟨p, hp, _⟩ => (by cases hp)⟩⟩
  · rw [ho] at h
    dsimp only at h
    obtain ⟨h1, h2, h3, h4, h5, h6, h7⟩ := of_units ho
    refine ⟨marks_is_sane h, marks_len h, fun q => (by subst q; exact marks_nil h), fun q d => ?_⟩
    subst q
    rw [mem_marks dayIn_first h, make_self h6.1]
    show _ ↔ ∃ p ∈ unitPairs u s, p.1 = d
    unfold unitPairs
    constructor
    · rintro ⟨i, q1, q2, q3, q4⟩
      exact ⟨_, List.mem_map.2 ⟨i, mem_nums.2 q1, rfl⟩, q4⟩
    · rintro ⟨p, hp, rfl⟩
      obtain ⟨i, hi, rfl⟩ := List.mem_map.1 hp
      have b := Within.bounds h6 (mem_nums.1 hi)
      exact ⟨i, mem_nums.1 hi, b.1, by omega, rfl⟩
  · rw [ho] at h
    dsimp only at h
    obtain ⟨sa, sb, na, nb, l1, l2⟩ := span_ends ho
    obtain ⟨k1, k2, k3, k4⟩ := known_spec sa h
    refine ⟨k1, k2, k4, fun q d => ?_⟩
    rw [k3 q]
    show _ ↔ ∃ p ∈ spanPairs x y, p.1 = d
    constructor
    · intro hd
      obtain ⟨_, _, _, _, _, _, _, e1, _⟩ := of_span ho
      have h1 := hd
      rw [e1] at h1
      have := (mem_clip.1 h1).2.2
      exact ⟨(d, hiF y), span_pair sa sb hd (mem_hi sb nb) (by omega), rfl⟩
    · rintro ⟨p, hp, rfl⟩
      exact (pair_span hp).1

theorem ends_spec {f : Leaf} {l : Runs} {b : Bool} (h : endsL f = (l, b)) : Sane l ∧ l.length ≤ 400 ∧ (b = false → l = []) ∧ (b = true → ∀ d, mem l d ↔ ∃ p ∈ famPairs (ofF f), p.2 = d) := by
  unfold endsL at h
  rcases ho : ofF f with _ | ⟨u, s⟩ | ⟨x, y⟩
  · rw [ho] at h
    cases h
    exact ⟨trivial, Nat.zero_le _, fun _ => rfl, fun _ d => ⟨fun q => (mem_nil q).elim, fun ⟨p, hp, _⟩ => (by cases hp)⟩⟩
  · rw [ho] at h
    dsimp only at h
    obtain ⟨h1, h2, h3, h4, h5, h6, h7⟩ := of_units ho
    refine ⟨marks_is_sane h, marks_len h, fun q => (by subst q; exact marks_nil h), fun q d => ?_⟩
    subst q
    rw [mem_marks dayIn_last h, make_self h6.1]
    show _ ↔ ∃ p ∈ unitPairs u s, p.2 = d
    unfold unitPairs
    constructor
    · rintro ⟨i, q1, q2, q3, q4⟩
      exact ⟨_, List.mem_map.2 ⟨i, mem_nums.2 q1, rfl⟩, q4⟩
    · rintro ⟨p, hp, rfl⟩
      obtain ⟨i, hi, rfl⟩ := List.mem_map.1 hp
      have b := Within.bounds h6 (mem_nums.1 hi)
      exact ⟨i, mem_nums.1 hi, b.1, by omega, rfl⟩
  · rw [ho] at h
    dsimp only at h
    obtain ⟨sa, sb, na, nb, l1, l2⟩ := span_ends ho
    obtain ⟨k1, k2, k3, k4⟩ := known_spec sb h
    refine ⟨k1, k2, k4, fun q d => ?_⟩
    rw [k3 q]
    show _ ↔ ∃ p ∈ spanPairs x y, p.2 = d
    constructor
    · intro hd
      obtain ⟨_, _, _, _, _, _, _, _, e1⟩ := of_span ho
      have h1 := hd
      rw [e1] at h1
      have := (mem_clip.1 h1).2.1
      exact ⟨(loF x, d), span_pair sa sb (mem_lo sa na) hd (by omega), rfl⟩
    · rintro ⟨p, hp, rfl⟩
      exact (pair_span hp).2.1

end Go.Proofs.YtjeoelajkncpcaaGreatDoor.V


/- Units within days, and that have one of some days, by the units of the first and the last day: plain facts. No program in sight. -/
namespace Go.Proofs.YtjeoelajkncpcaaGreatDoor.V
set_option linter.unusedVariables false
set_option linter.unusedSimpArgs false

/-- The first day of all units. -/
def day0 (u : Int) : Int := if u = 2 then 60 else 0

theorem first0 {u : Int} (h : 0 < VCal.ucount u) : VCal.ufirst u 0 = day0 u := by
  unfold VCal.ufirst day0
  by_cases h0 : u = 0
  · rw [if_pos h0, if_neg (by omega)]
  · rw [if_neg h0]
    unfold VCal.ucount at h
    rw [if_neg h0] at h
    cases ht : VCal.tab u with
    | none => rw [ht] at h; exact absurd h (by decide)
    | some q =>
      obtain ⟨m, f, c⟩ := q
      dsimp only
      rcases VCal.tab_cases ht with ⟨rfl, rfl, rfl, rfl⟩ | ⟨rfl, rfl, rfl, rfl⟩ | ⟨rfl, rfl, rfl, rfl⟩ | ⟨rfl, rfl, rfl, rfl⟩ | ⟨rfl, rfl, rfl, rfl⟩ <;> decide +kernel

theorem first_ge {u n : Int} (h0 : 0 ≤ n) (h1 : n < VCal.ucount u) : day0 u ≤ VCal.ufirst u n := by
  rw [← first0 (u := u) (by omega)]
  exact first_le (Int.le_refl _) h0 h1

/-- A unit that has a day between two days: both have their units. -/
theorem both_in {u a b n : Int} (ha : day0 u ≤ a) (hb : b ≤ 3652424) (h0 : 0 ≤ n) (h1 : n < VCal.ucount u) (h2 : a ≤ VCal.ulast u n) (h3 : VCal.ufirst u n ≤ b) : (∃ i, VCal.uof u a = some i) ∧ ∃ k, VCal.uof u b = some k := by
  constructor
  · obtain ⟨i, hi, _⟩ := unit_at (u := u) n.toNat 0 n a (by omega) (Int.le_refl _) h1 h0 (by rw [first0 (by omega)]; exact ha) h2
    exact ⟨i, hi⟩
  · obtain ⟨i, hi, _⟩ := unit_at (u := u) (VCal.ucount u - 1 - n).toNat n (VCal.ucount u - 1) b (by omega) h0 (by omega) (by omega) h3 (by rw [VCal.ulast_last]; exact hb)
    exact ⟨i, hi⟩

theorem touch_lo {u a i n : Int} (hi : VCal.uof u a = some i) (h0 : 0 ≤ n) (h1 : n < VCal.ucount u) : a ≤ VCal.ulast u n ↔ i ≤ n := by
  obtain ⟨q1, q2, q3, q4⟩ := VCal.uof_some.1 hi
  constructor
  · intro h
    rcases Int.lt_or_le n i with e | e
    · have := ufirst_lt h0 e q2; omega
    · exact e
  · intro h
    have := last_le q1 h h1
    omega

theorem touch_hi {u b k n : Int} (hk : VCal.uof u b = some k) (h0 : 0 ≤ n) (h1 : n < VCal.ucount u) : VCal.ufirst u n ≤ b ↔ n ≤ k := by
  obtain ⟨q1, q2, q3, q4⟩ := VCal.uof_some.1 hk
  constructor
  · intro h
    rcases Int.lt_or_le k n with e | e
    · have := ufirst_lt q1 e h1; omega
    · exact e
  · intro h
    have := first_le h0 h q2
    omega

theorem inside_lo {u a i n : Int} (hi : VCal.uof u a = some i) (h0 : 0 ≤ n) (h1 : n < VCal.ucount u) : a ≤ VCal.ufirst u n ↔ (if VCal.ufirst u i < a then i + 1 else i) ≤ n := by
  obtain ⟨q1, q2, q3, q4⟩ := VCal.uof_some.1 hi
  constructor
  · intro h
    rcases Int.lt_or_le n i with e | e
    · have := ufirst_lt h0 e q2
      have := (VCal.unit_in h0 h1).2.1
      omega
    · split
      · by_cases e2 : n = i
        · subst e2; omega
        · omega
      · exact e
  · intro h
    split at h
    · have := ufirst_lt q1 (show i < n by omega) h1
      omega
    · have := first_le q1 h h1
      omega

theorem inside_hi {u b k n : Int} (hk : VCal.uof u b = some k) (h0 : 0 ≤ n) (h1 : n < VCal.ucount u) : VCal.ulast u n ≤ b ↔ n ≤ (if b < VCal.ulast u k then k - 1 else k) := by
  obtain ⟨q1, q2, q3, q4⟩ := VCal.uof_some.1 hk
  constructor
  · intro h
    rcases Int.lt_or_le k n with e | e
    · have := ufirst_lt q1 e h1
      have := (VCal.unit_in h0 h1).2.1
      omega
    · split
      · by_cases e2 : n = k
        · subst e2; omega
        · omega
      · exact e
  · intro h
    split at h
    · have := ufirst_lt h0 (show n < k by omega) q2
      omega
    · have := last_le h0 h q2
      omega

theorem mem_run {i k n cnt : Int} (h0 : 0 ≤ i) (h1 : k < cnt) (hc : cnt ≤ 3652425) : mem (makeF [(i, k)]) n ↔ i ≤ n ∧ n ≤ k := by
  rw [mem_make]
  unfold memL Lim
  rw [mem_cons]
  constructor
  · rintro ⟨_, _, h | h⟩
    · exact h
    · exact (mem_nil h).elim
  · intro h
    exact ⟨by omega, by omega, .inl h⟩
end Go.Proofs.YtjeoelajkncpcaaGreatDoor.V


/- lustrumref07, and lustrumlaw07.ImageIs, as conditions on the program's functions. No condition of its own. -/
namespace Go.Proofs.YtjeoelajkncpcaaGreatDoor.V
open Go
set_option linter.unusedVariables false
set_option linter.unusedSimpArgs false

theorem ok_ref07_Units {u : Int} {s : Runs} (hl : s.length ≤ 1000) : FnE bs n_lustrumref07_Units ((Shape.pair (.int .i64) (.slice sRun)).compsE (u, s)) (.slice sRun) (· = unitsF u s) := by
  refine ok_of (e_lustrumref07_Units (u, s) _) rfl ?_
  unfold c_lustrumref07_Units
  have hc := VCal.ucount_pos u
  refine callP_eq ok_ref03_Count ?_
  rw [w64_of (n := VCal.ucount u - 1) (by omega)]
  exact callP_eq (ok_ref05_Clip hl) rfl

theorem ok_ref07_Cover {u : Int} {s : Runs} (hl : s.length ≤ 1000) : FnE bs n_lustrumref07_Cover ((Shape.pair (.int .i64) (.slice sRun)).compsE (u, s)) (.slice sRun) (· = coverF u s) := by
  refine ok_of (e_lustrumref07_Cover (u, s) _) rfl ?_
  unfold c_lustrumref07_Cover
  refine callP_eq (ok_ref07_Units hl) ?_
  have hlen := units_length u s
  unfold coverF
  have hin : ∀ r ∈ unitsF u s, 0 ≤ r.1 ∧ r.1 ≤ r.2 ∧ r.2 < VCal.ucount u := fun r => units_in
  generalize unitsF u s = us at hlen hin
  refine loopP_of (fun z : Unit × Int × Runs => ∃ k : Nat, z.2.1 = k ∧ k ≤ us.length ∧ z.2.2 = (us.take k).map (spanOf u)) (fun z => us.length - z.2.1.toNat) ?_ ⟨0, rfl, Nat.zero_le _, rfl⟩
  rintro ⟨_, _, _⟩ A ⟨k, e1, hk, e2⟩ back
  dsimp only at e1 e2 ⊢
  subst e1 e2
  refine cond_dec (fun h1 => ⟨⟨by omega, h1⟩, ?_⟩) fun h1 => ?_
  · have h1' : (k : Int) < us.length := h1
    have hk' : k < us.length := by omega
    have hg := List.getElem?_eq_getElem hk'
    generalize us[k] = r at hg
    have hr := hin r (List.mem_of_getElem? hg)
    rw [toNat_ofNat, rd_of (s := sRun) hg, w_succ (a := k) (by omega)]
    refine callP_eq ok_ref03_First ⟨⟨by omega, h1⟩, callP_eq ok_ref03_Last ⟨?_, ?_⟩⟩
    · rw [List.length_map, List.length_take]
      show (_ + 1) * 16 ≤ _
      omega
    · refine back _ ⟨k + 1, rfl, hk', ?_⟩ (by dsimp only; omega)
      dsimp only
      have e : ((firstS u r.1).1, (lastS u r.2).1) = spanOf u r := by
        unfold firstS lastS spanOf
        rw [if_pos (by omega), if_pos (by omega)]
      rw [List.take_add_one, hg, List.map_append, e]
      rfl
  · rw [List.take_of_length_le (by have h1 : ¬ (k : Int) < us.length := h1; omega)]
    exact callP_eq (ok_ref04_Make (by rw [List.length_map]; omega)) rfl

def endG (last : Bool) : Int → Int → Int := if last = true then VCal.ulast else VCal.ufirst

theorem ok_ref07_ends {u : Int} {s : Runs} {last : Bool} (hl : s.length ≤ 1000) : FnE bs n_lustrumref07_ends ((Shape.pair (.int .i64) (.pair (.slice sRun) .bool)).compsE (u, s, last)) (.tup (.pair (.slice sRun) .bool)) (fun r => r.2 = toldF u s ∧ (r.2 = true → r.1 = (marksF (endG last) u s).1)) := by
  refine ok_of (e_lustrumref07_ends (u, s, last) _) rfl ?_
  unfold c_lustrumref07_ends
  refine callP_eq (ok_ref07_Units hl) ?_
  have hlen := units_length u s
  have hin : ∀ r ∈ unitsF u s, 0 ≤ r.1 ∧ r.1 ≤ r.2 ∧ r.2 < VCal.ucount u := fun r => units_in
  have hc := VCal.ucount_pos u
  refine cond_dec (fun e => ?_) fun e => ?_
  · have e : u = 0 := e
    unfold toldF marksF
    rw [if_pos e, if_pos e]
    by_cases hw : 400 < (unitsF u s).length
    · rw [if_pos hw, decide_eq_true hw]
      have : decide (((unitsF u s).length : Int) ≤ 400) = false := decide_eq_false (by omega)
      refine ⟨this, fun h => ?_⟩
      rw [this] at h; cases h
    · rw [if_neg hw, decide_eq_false hw]
      exact ⟨decide_eq_true (by show ((unitsF u s).length : Int) ≤ 400; omega), fun _ => rfl⟩
  · have e : ¬ u = 0 := e
    have hgd : DayIn (endG last) := by unfold endG; split; exact dayIn_last; exact dayIn_first
    have hbad : 400 < (nums (unitsF u s)).length → ((([], false) : Runs × Bool).2 = toldF u s ∧ ((([], false) : Runs × Bool).2 = true → (([], false) : Runs × Bool).1 = (marksF (endG last) u s).1)) := fun h => by
      unfold toldF
      rw [if_neg e, decide_eq_true h]
      exact ⟨rfl, fun q => by cases q⟩
    have hgood : (nums (unitsF u s)).length ≤ 400 → ∀ out, out = singles ((nums (unitsF u s)).map (endG last u)) → (((out, true) : Runs × Bool).2 = toldF u s ∧ (((out, true) : Runs × Bool).2 = true → ((out, true) : Runs × Bool).1 = (marksF (endG last) u s).1)) := fun h out ho => by
      unfold toldF marksF
      rw [if_neg e, if_neg e, decide_eq_false (by omega), if_neg (by omega), marks_eq hgd e]
      exact ⟨rfl, fun _ => ho⟩
    generalize unitsF u s = us at hlen hin hbad hgood
    generalize hM : (nums us) = M at hbad hgood
    have npos : ∀ k, (nums (us.take k)).length ≤ M.length := fun k => by
      rw [← hM]
      unfold nums
      conv => rhs; rw [← List.take_append_drop k us]
      rw [List.flatMap_append, List.length_append]
      exact Nat.le_add_right _ _
    refine loopP_of (fun z : Unit × Int × Runs => ∃ k : Nat, z.2.1 = k ∧ k ≤ us.length ∧ (nums (us.take k)).length ≤ 400 ∧ z.2.2 = singles ((M.take (nums (us.take k)).length).map (endG last u))) (fun z => us.length - z.2.1.toNat) ?_ ⟨0, rfl, Nat.zero_le _, Nat.zero_le _, rfl⟩
    rintro ⟨_, _, _⟩ A ⟨k, e1, hk, h400, e2⟩ back
    dsimp only at e1 e2 ⊢
    subst e1 e2
    refine cond_dec (fun h1 => ⟨⟨by omega, h1⟩, ?_⟩) fun h1 => ?_
    · have h1' : (k : Int) < us.length := h1
      have hk' : k < us.length := by omega
      have hg := List.getElem?_eq_getElem hk'
      generalize us[k] = r at hg
      have hr := hin r (List.mem_of_getElem? hg)
      rw [toNat_ofNat, rd_of (s := sRun) hg, w_succ (a := k) (by omega)]
      obtain ⟨q0, hq0⟩ : ∃ q0, (nums (us.take k)).length = q0 := ⟨_, rfl⟩
      have hnum : M = nums (us.take k) ++ (upTo r.1 r.2 ++ nums (us.drop (k + 1))) := by
        rw [← hM]
        conv => lhs; rw [← List.take_append_drop k us, drop_cons hg]
        unfold nums
        rw [List.flatMap_append, List.flatMap_cons]
      have hnxt : (nums (us.take (k + 1))).length = q0 + (r.2 + 1 - r.1).toNat := by
        rw [← hq0]
        unfold nums
        rw [List.take_add_one, hg, List.flatMap_append, List.length_append]
        simp [upTo]
      have hnth : ∀ i : Nat, (i : Int) ≤ r.2 - r.1 → M[q0 + i]? = some (r.1 + i) := fun i hi => by
        rw [hnum, ← hq0, List.getElem?_append_right (by omega), Nat.add_sub_cancel_left, List.getElem?_append_left (by simp [upTo]; omega)]
        unfold upTo
        rw [List.getElem?_map, List.getElem?_range (by omega)]
        rfl
      have np := npos (k + 1)
      rw [hq0] at h400 ⊢
      refine loopP_of (fun z : Unit × Int × Runs => r.1 ≤ z.2.1 ∧ z.2.1 ≤ r.2 + 1 ∧ q0 + (z.2.1 - r.1).toNat ≤ 400 ∧ z.2.2 = singles ((M.take (q0 + (z.2.1 - r.1).toNat)).map (endG last u))) (fun z => (r.2 + 1 - z.2.1).toNat) ?_ ⟨Int.le_refl _, by dsimp only; omega, by dsimp only; omega, by dsimp only; rw [Int.sub_self]; rfl⟩
      rintro ⟨_, n, _⟩ A2 ⟨n1, n2, n3, e3⟩ back2
      dsimp only at n1 n2 n3 e3 ⊢
      subst e3
      refine ⟨⟨by omega, h1⟩, cond_dec (fun hn => ?_) fun hn => ?_⟩
      · have hn : n ≤ r.2 := hn
        have hget := hnth (n - r.1).toNat (by omega)
        rw [show r.1 + ((n - r.1).toNat : Int) = n by omega] at hget
        have hlt := (List.getElem?_eq_some_iff.1 hget).1
        have htk : M.take (q0 + (n + 1 - r.1).toNat) = M.take (q0 + (n - r.1).toNat) ++ [n] := by
          rw [show q0 + (n + 1 - r.1).toNat = q0 + (n - r.1).toNat + 1 by omega, List.take_add_one, hget]
          rfl
        have hol : (singles ((M.take (q0 + (n - r.1).toNat)).map (endG last u))).length = q0 + (n - r.1).toNat := by
          unfold singles
          rw [List.length_map, List.length_map, List.length_take]
          omega
        have step : ∀ v : Int, v = endG last u n → chk (((singles ((M.take (q0 + (n - r.1).toNat)).map (endG last u))).length + [(v, v)].length) * 16 ≤ 140737488355328) (cond (decide ((400 : Int) < ((singles ((M.take (q0 + (n - r.1).toNat)).map (endG last u)) ++ [(v, v)]).length : Int))) ((fun r : Runs × Bool => r.2 = toldF u s ∧ (r.2 = true → r.1 = (marksF (endG last) u s).1)) ([], false)) (A2 ((), (w64 (n + (1 : Int))), (singles ((M.take (q0 + (n - r.1).toNat)).map (endG last u)) ++ [(v, v)])))) := by
          rintro _ rfl
          refine ⟨?_, cond_dec (fun hb => hbad ?_) fun hb => ?_⟩
          · rw [hol]; show (_ + 1) * 16 ≤ _; omega
          · rw [List.length_append, hol] at hb
            simp only [List.length_cons, List.length_nil] at hb
            omega
          · rw [List.length_append, hol] at hb
            simp only [List.length_cons, List.length_nil] at hb
            rw [w64_of (n := n + 1) (by omega)]
            refine back2 _ ⟨by dsimp only; omega, by dsimp only; omega, by dsimp only; omega, ?_⟩ (by dsimp only; omega)
            dsimp only
            rw [htk]
            unfold singles
            rw [List.map_append, List.map_append]
            rfl
        have hf1 : (firstS u n).1 = VCal.ufirst u n := by unfold firstS; rw [if_pos (by omega)]
        have hf2 : (lastS u n).1 = VCal.ulast u n := by unfold lastS; rw [if_pos (by omega)]
        refine callP_eq ok_ref03_First (cond_bool (fun hb => callP_eq ok_ref03_Last (step _ ?_)) fun hb => step _ ?_)
        · show (lastS u n).1 = _; unfold endG; rw [if_pos hb, hf2]
        · show (firstS u n).1 = _; unfold endG; rw [if_neg (by rw [hb]; exact Bool.false_ne_true), hf1]
      · have hn : ¬ n ≤ r.2 := hn
        obtain rfl : n = r.2 + 1 := by omega
        refine back _ ⟨k + 1, rfl, hk', by rw [hnxt]; exact n3, ?_⟩ (by dsimp only; omega)
        dsimp only
        rw [hnxt]
    · have hke : us.take k = us := List.take_of_length_le (by have h1 : ¬ (k : Int) < us.length := h1; omega)
      rw [hke, hM] at h400 ⊢
      rw [List.take_of_length_le (Nat.le_refl _)]
      exact hgood h400 _ rfl
end Go.Proofs.YtjeoelajkncpcaaGreatDoor.V


/- lustrumlaw07.ImageIs as a condition on the program's functions. No condition of its own. -/
namespace Go.Proofs.YtjeoelajkncpcaaGreatDoor.V
open Go
set_option linter.unusedVariables false
set_option linter.unusedSimpArgs false

theorem ref07_marks {g : Int → Int → Int} {u : Int} {s : Runs} {r : Runs × Bool} (h : r.2 = toldF u s ∧ (r.2 = true → r.1 = (marksF g u s).1)) : cond (!r.2) ((fun x : Runs × Bool => x = marksF g u s) ([], false)) ((fun x : Runs × Bool => x = marksF g u s) (r.1, true)) := by
  obtain ⟨h1, h2⟩ := h
  obtain ⟨t1, t2⟩ := marks_told g u s
  refine cond_not (fun q => ?_) fun q => ?_
  · rw [q] at h1
    exact Prod.ext (t2 h1.symm).symm (by rw [t1, ← h1])
  · rw [q] at h1
    exact Prod.ext (h2 q) (by rw [t1, ← h1])

theorem ok_ref07_Starts {u : Int} {s : Runs} (hl : s.length ≤ 1000) : FnE bs n_lustrumref07_Starts ((Shape.pair (.int .i64) (.slice sRun)).compsE (u, s)) (.tup (.pair (.slice sRun) .bool)) (· = marksF VCal.ufirst u s) := by
  refine ok_of (e_lustrumref07_Starts (u, s) _) rfl ?_
  unfold c_lustrumref07_Starts
  exact callP_of (ok_ref07_ends (last := false) hl) fun r hr => ref07_marks (g := VCal.ufirst) hr

theorem ok_ref07_Ends {u : Int} {s : Runs} (hl : s.length ≤ 1000) : FnE bs n_lustrumref07_Ends ((Shape.pair (.int .i64) (.slice sRun)).compsE (u, s)) (.tup (.pair (.slice sRun) .bool)) (· = marksF VCal.ulast u s) := by
  refine ok_of (e_lustrumref07_Ends (u, s) _) rfl ?_
  unfold c_lustrumref07_Ends
  exact callP_of (ok_ref07_ends (last := true) hl) fun r hr => ref07_marks (g := VCal.ulast) hr

/-- Units that lie within days; that have one of some days. -/
def InR (u lo hi : Int) (r : Runs) : Prop := Sane r ∧ r.length ≤ 1 ∧ ∀ n, mem r n ↔ 0 ≤ n ∧ n < VCal.ucount u ∧ lo ≤ VCal.ufirst u n ∧ VCal.ulast u n ≤ hi
def ToR (u lo hi : Int) (r : Runs) : Prop := Sane r ∧ r.length ≤ 1 ∧ ∀ n, mem r n ↔ 0 ≤ n ∧ n < VCal.ucount u ∧ lo ≤ hi ∧ VCal.ufirst u n ≤ hi ∧ lo ≤ VCal.ulast u n

def refInP (u A B : Int) (R : Runs → Prop) : Prop := cond (decide (B < A)) (R []) (callP bs 49 (.pair (.int .i64) (.int .i64)) (.tup (.pair (.int .i64) .bool)) (u, A) (fun r9 =>
  (callP bs 49 (.pair (.int .i64) (.int .i64)) (.tup (.pair (.int .i64) .bool)) (u, B) (fun r10 => (cond (!r9.2) (R []) (cond (!r10.2) (R []) (callP bs 50 (.pair (.int .i64) (.int .i64)) (.tup (.pair (.int .i64) .bool)) (u, r9.1) (fun r11 => (callP bs 51 (.pair (.int .i64) (.int .i64)) (.tup (.pair (.int .i64) .bool)) (u, r10.1) (fun r12 => (cond (decide (r11.1 < A)) (cond (decide (B < r12.1)) (callP bs 85 (.slice sRun) (.slice sRun) [((w64 (r9.1 + (1 : Int))), (w64 (r10.1 - (1 : Int))))] (fun r13 => (R r13))) (callP bs 85 (.slice sRun) (.slice sRun) [((w64 (r9.1 + (1 : Int))), r10.1)] (fun r14 => (R r14)))) (cond (decide (B < r12.1)) (callP bs 85 (.slice sRun) (.slice sRun) [(r9.1, (w64 (r10.1 - (1 : Int))))] (fun r15 => (R r15))) (callP bs 85 (.slice sRun) (.slice sRun) [(r9.1, r10.1)] (fun r16 => (R r16)))))))))))))))

theorem maxI_eq (a b : Int) : maxI a b = max a b := max_max a b
theorem minI_eq (a b : Int) : minI a b = min a b := min_min a b

theorem ref_in {u lo hi A B : Int} (hA : A = max lo (day0 u)) (hB : B = min hi 3652424) : refInP u A B (InR u lo hi) := by
  have hc := VCal.ucount_pos u
  have d0 : 0 ≤ day0 u := by unfold day0; split <;> omega
  have none : (∀ n, 0 ≤ n → n < VCal.ucount u → ¬ (lo ≤ VCal.ufirst u n ∧ VCal.ulast u n ≤ hi)) → InR u lo hi [] := fun h => ⟨trivial, Nat.zero_le _, fun n => ⟨fun q => (mem_nil q).elim, fun ⟨a, b, c, d⟩ => absurd ⟨c, d⟩ (h n a b)⟩⟩
  have eqA : ∀ n, 0 ≤ n → n < VCal.ucount u → (lo ≤ VCal.ufirst u n ↔ A ≤ VCal.ufirst u n) := fun n h0 h1 => by have := first_ge h0 h1; omega
  have eqB : ∀ n, 0 ≤ n → n < VCal.ucount u → (VCal.ulast u n ≤ hi ↔ VCal.ulast u n ≤ B) := fun n h0 h1 => by have := VCal.unit_in h0 h1; omega
  unfold refInP
  refine cond_dec (fun h => none fun n h0 h1 ⟨q1, q2⟩ => ?_) fun h => ?_
  · have h : B < A := h
    have := (eqA n h0 h1).1 q1
    have := (eqB n h0 h1).1 q2
    have := (VCal.unit_in h0 h1).2.1
    omega
  · have h : ¬ B < A := h
    refine callP_eq ok_ref03_Of (callP_eq ok_ref03_Of ?_)
    have hno : (VCal.uof u A = Option.none ∨ VCal.uof u B = Option.none) → InR u lo hi [] := fun hn => none fun n h0 h1 ⟨q1, q2⟩ => by
      have p1 := (eqA n h0 h1).1 q1
      have p2 := (eqB n h0 h1).1 q2
      have p3 := (VCal.unit_in h0 h1).2.1
      obtain ⟨⟨i, hi⟩, k, hk⟩ := both_in (u := u) (a := A) (b := B) (by omega) (by omega) h0 h1 (by omega) (by omega)
      rcases hn with e | e
      · rw [hi] at e; cases e
      · rw [hk] at e; cases e
    unfold ofS
    cases hi' : VCal.uof u A with
    | none => exact cond_yes rfl (hno (.inl hi'))
    | some i =>
      cases hk' : VCal.uof u B with
      | none => exact cond_no rfl (cond_yes rfl (hno (.inr hk')))
      | some k =>
        obtain ⟨i1, i2, i3, i4⟩ := VCal.uof_some.1 hi'
        obtain ⟨k1, k2, k3, k4⟩ := VCal.uof_some.1 hk'
        refine cond_no rfl (cond_no rfl (callP_eq ok_ref03_First (callP_eq ok_ref03_Last ?_)))
        have f1 : (firstS u i).1 = VCal.ufirst u i := by unfold firstS; rw [if_pos ⟨i1, i2⟩]
        have f2 : (lastS u k).1 = VCal.ulast u k := by unfold lastS; rw [if_pos ⟨k1, k2⟩]
        dsimp only
        rw [f1, f2, w64_of (n := i + 1) (by omega), w64_of (n := k - 1) (by omega)]
        have fin : ∀ x y, x = (if VCal.ufirst u i < A then i + 1 else i) → y = (if B < VCal.ulast u k then k - 1 else k) → callP bs 85 (.slice sRun) (.slice sRun) [(x, y)] (fun r => InR u lo hi r) := by
          intro x y hx hy
          refine callP_eq (ok_ref04_Make (by simp)) ⟨make_sane _, make_length [(x, y)], fun n => ?_⟩
          have x0 : 0 ≤ x := by rw [hx]; split <;> omega
          have y0 : y < VCal.ucount u := by rw [hy]; split <;> omega
          rw [mem_run x0 y0 hc.2]
          constructor
          · rintro ⟨p1, p2⟩
            have h0 : 0 ≤ n := Int.le_trans x0 p1
            have h1 : n < VCal.ucount u := Int.lt_of_le_of_lt p2 y0
            exact ⟨h0, h1, (eqA n h0 h1).2 ((inside_lo hi' h0 h1).2 (hx ▸ p1)), (eqB n h0 h1).2 ((inside_hi hk' h0 h1).2 (hy ▸ p2))⟩
          · rintro ⟨h0, h1, p1, p2⟩
            exact ⟨by rw [hx]; exact (inside_lo hi' h0 h1).1 ((eqA n h0 h1).1 p1), by rw [hy]; exact (inside_hi hk' h0 h1).1 ((eqB n h0 h1).1 p2)⟩
        exact cond_dec (fun c1 => cond_dec (fun c2 => fin _ _ (if_pos c1).symm (if_pos c2).symm) fun c2 => fin _ _ (if_pos c1).symm (if_neg c2).symm) fun c1 => cond_dec (fun c2 => fin _ _ (if_neg c1).symm (if_pos c2).symm) fun c2 => fin _ _ (if_neg c1).symm (if_neg c2).symm

def refToP (u A B : Int) (R : Runs → Prop) : Prop := cond (decide (B < A)) (R []) (callP bs 49 (.pair (.int .i64) (.int .i64)) (.tup (.pair (.int .i64) .bool)) (u, A) (fun r3
 => (callP bs 49 (.pair (.int .i64) (.int .i64)) (.tup (.pair (.int .i64) .bool)) (u, B) (fun r4 => (cond (!r3.2) (R []) (cond (!r4.2) (R []) (R [(r3.1, r4.1)])))))))

theorem ref_to {u lo hi A B : Int} (hA : A = max lo (day0 u)) (hB : B = min hi 3652424) : refToP u A B (ToR u lo hi) := by
  have hc := VCal.ucount_pos u
  have d0 : 0 ≤ day0 u ∧ day0 u ≤ 60 := by unfold day0; split <;> omega
  have none : (∀ n, 0 ≤ n → n < VCal.ucount u → ¬ (lo ≤ hi ∧ VCal.ufirst u n ≤ hi ∧ lo ≤ VCal.ulast u n)) → ToR u lo hi [] := fun h => ⟨trivial, Nat.zero_le _, fun n => ⟨fun q => (mem_nil q).elim, fun ⟨a, b, c⟩ => absurd c (h n a b)⟩⟩
  have eqA : ∀ n, 0 ≤ n → n < VCal.ucount u → (lo ≤ VCal.ulast u n ↔ A ≤ VCal.ulast u n) := fun n h0 h1 => by have := first_ge h0 h1; have := VCal.unit_in h0 h1; omega
  have eqB : ∀ n, 0 ≤ n → n < VCal.ucount u → (VCal.ufirst u n ≤ hi ↔ VCal.ufirst u n ≤ B) := fun n h0 h1 => by have := VCal.unit_in h0 h1; omega
  unfold refToP
  refine cond_dec (fun h => none fun n h0 h1 ⟨q0, q1, q2⟩ => ?_) fun h => ?_
  · have h : B < A := h
    have := first_ge h0 h1
    have := VCal.unit_in h0 h1
    omega
  · have h : ¬ B < A := h
    refine callP_eq ok_ref03_Of (callP_eq ok_ref03_Of ?_)
    have hno : (VCal.uof u A = Option.none ∨ VCal.uof u B = Option.none) → ToR u lo hi [] := fun hn => none fun n h0 h1 ⟨q0, q1, q2⟩ => by
      have p1 := (eqA n h0 h1).1 q2
      have p2 := (eqB n h0 h1).1 q1
      obtain ⟨⟨i, hi⟩, k, hk⟩ := both_in (u := u) (a := A) (b := B) (by omega) (by omega) h0 h1 p1 p2
      rcases hn with e | e
      · rw [hi] at e; cases e
      · rw [hk] at e; cases e
    unfold ofS
    cases hi' : VCal.uof u A with
    | none => exact cond_yes rfl (hno (.inl hi'))
    | some i =>
      cases hk' : VCal.uof u B with
      | none => exact cond_no rfl (cond_yes rfl (hno (.inr hk')))
      | some k =>
        obtain ⟨i1, i2, i3, i4⟩ := VCal.uof_some.1 hi'
        obtain ⟨k1, k2, k3, k4⟩ := VCal.uof_some.1 hk'
        have hik : i ≤ k := (touch_hi hk' i1 i2).1 (by omega)
        refine cond_no rfl (cond_no rfl ⟨⟨hik, by dsimp only; omega, by dsimp only; unfold Lim; omega, trivial⟩, Nat.le_refl _, fun n => ?_⟩)
        rw [mem_cons]
        constructor
        · rintro (⟨p1, p2⟩ | p)
          · have h0 : 0 ≤ n := by dsimp only at p1; omega
            have h1 : n < VCal.ucount u := by dsimp only at p2; omega
            exact ⟨h0, h1, by omega, (eqB n h0 h1).2 ((touch_hi hk' h0 h1).2 p2), (eqA n h0 h1).2 ((touch_lo hi' h0 h1).2 p1)⟩
          · exact (mem_nil p).elim
        · rintro ⟨h0, h1, _, p1, p2⟩
          exact .inl ⟨(touch_lo hi' h0 h1).1 ((eqA n h0 h1).1 p2), (touch_hi hk' h0 h1).1 ((eqB n h0 h1).1 p1)⟩

end Go.Proofs.YtjeoelajkncpcaaGreatDoor.V


/- The next numbers of a set, one by one; sets of sets' parts: plain facts. No program in sight. -/
namespace Go.Proofs.YtjeoelajkncpcaaGreatDoor.V
set_option linter.unusedVariables false
set_option linter.unusedSimpArgs false

theorem memL_make {x : Runs} {n : Int} : memL (makeF x) n ↔ memL x n := by
  constructor
  · exact fun h => mem_make.1 h.2.2
  · exact fun h => ⟨h.1, h.2.1, mem_make.2 h⟩

theorem make_append (x y : Runs) : makeF (makeF x ++ y) = makeF (x ++ y) := by
  refine sane_ext (make_sane _) (make_sane _) fun n => ?_
  rw [mem_make, mem_make, memL_append, memL_append, memL_make]

theorem make_one {a b : Int} (h : 0 ≤ a ∧ a ≤ 3652424 ∧ 0 ≤ b ∧ b ≤ 3652424) : makeF [(a, b)] = if b < a then [] else [(a, b)] := by
  split
  · rename_i q
    refine sane_nil (make_sane _) fun n hn => ?_
    have := (mem_make.1 hn).2.2
    rw [mem_cons] at this
    rcases this with h1 | h1
    · dsimp only at h1; omega
    · exact mem_nil h1
  · rename_i q
    refine make_self ⟨?_, ?_, ?_, trivial⟩
    · dsimp only; omega
    · dsimp only; omega
    · dsimp only; unfold Lim; omega

/-- The least number of a set from one on: the head of what is still to come. -/
theorem next_head {s : Runs} {n : Int} {v : Int} {b : Bool} {pre rest : List Int} (hs : nums s = pre ++ rest) (hp : ∀ m ∈ pre, m < n) (hr : ∀ m ∈ rest, n ≤ m) (hsort : rest.Pairwise (· < ·))
    (h : (b = false ∧ ∀ m, mem s m → m < n) ∨ (b = true ∧ mem s v ∧ n ≤ v ∧ ∀ m, mem s m → n ≤ m → v ≤ m)) : (rest = [] ∧ b = false) ∨ ∃ t, rest = v :: t ∧ b = true := by
  rcases h with ⟨h1, h2⟩ | ⟨h1, h2, h3, h4⟩
  · refine .inl ⟨?_, h1⟩
    cases rest with
    | nil => rfl
    | cons m t =>
      have := h2 m (mem_nums.1 (by rw [hs]; simp))
      have := hr m List.mem_cons_self
      omega
  · have hv := mem_nums.2 h2
    rw [hs] at hv
    rcases List.mem_append.1 hv with h | h
    · have := hp v h; omega
    · cases rest with
      | nil => cases h
      | cons m t =>
        have hm := h4 m (mem_nums.1 (by rw [hs]; simp)) (hr m List.mem_cons_self)
        rcases List.mem_cons.1 h with e | e
        · subst e; exact .inr ⟨t, rfl, h1⟩
        · have := (List.pairwise_cons.1 hsort).1 v e
          omega

theorem upTo_filter (lo hi s : Int) : (upTo lo hi).filter (fun n => decide (s ≤ n)) = upTo (max lo s) hi := by
  generalize hn : (hi + 1 - lo).toNat = n
  induction n generalizing lo with
  | zero =>
    rw [upTo_nil (by omega), upTo_nil (by omega)]; rfl
  | succ n ih =>
    rw [upTo_cons (by omega), List.filter_cons]
    by_cases h : s ≤ lo
    · rw [if_pos (by simpa using h), ih (lo + 1) (by omega), show max (lo + 1) s = lo + 1 by omega, show max lo s = lo by omega, ← upTo_cons (by omega)]
    · rw [if_neg (by simpa using h), ih (lo + 1) (by omega), show max (lo + 1) s = max lo s by omega]

/-- A set's numbers from one on. -/
theorem from_filter (b : Runs) (s : Int) : (b.flatMap fun r => upTo (max r.1 s) r.2) = (nums b).filter fun n => decide (s ≤ n) := by
  unfold nums
  induction b with
  | nil => rfl
  | cons r b ih => rw [List.flatMap_cons, List.flatMap_cons, List.filter_append, ih, upTo_filter]

theorem spanPairs_eq (a b : Runs) : spanPairs a b = (nums a).flatMap fun s => ((nums b).filter fun n => decide (s ≤ n)).map fun t => (s, t) := by
  unfold spanPairs
  congr 1
  funext s
  rw [← from_filter]
  rw [List.map_flatMap]
end Go.Proofs.YtjeoelajkncpcaaGreatDoor.V


/- lustrumref04.Has, ref05.Union, ref14.Covers, ref17: their contracts. No condition of its own. -/
namespace Go.Proofs.YtjeoelajkncpcaaGreatDoor.V
open Go
set_option linter.unusedVariables false
set_option linter.unusedSimpArgs false

theorem ok_ref04_Has {s : Runs} {n : Int} (hl : s.length ≤ 100000) : FnE bs n_lustrumref04_Has ((Shape.pair (.slice sRun) (.int .i64)).compsE (s, n)) .bool (· = decide (mem (makeF s) n)) := by
  refine ok_of (e_lustrumref04_Has (s, n) _) rfl ?_
  unfold c_lustrumref04_Has
  refine callP_eq (ok_ref04_As hl) ?_
  have hml := make_length s
  generalize makeF s = t at hml
  refine loopP_of (fun z : Int => ∃ k : Nat, z = k ∧ k ≤ t.length ∧ ∀ (i : Nat) r, i < k → t[i]? = some r → ¬ (r.1 ≤ n ∧ n ≤ r.2)) (fun z => t.length - z.toNat) ?_ ⟨0, rfl, Nat.zero_le _, fun i f h => by omega⟩
  rintro _ A ⟨k, rfl, hk, hi⟩ back
  refine cond_dec (fun h1 => ⟨⟨by omega, h1⟩, ?_⟩) fun h1 => ?_
  · have h1' : (k : Int) < t.length := h1
    have hk' : k < t.length := by omega
    have hg := List.getElem?_eq_getElem hk'
    generalize t[k] = r at hg
    have hrm := List.mem_of_getElem? hg
    dsimp only
    rw [toNat_ofNat, rd_of (s := sRun) hg, w_succ (by omega)]
    have go : ¬ (r.1 ≤ n ∧ n ≤ r.2) → A ((k + 1 : Nat) : Int) := fun hno => back _ ⟨k + 1, rfl, hk', fun i q hik hg2 => by
      by_cases e : i = k
      · subst e; rw [hg] at hg2; cases hg2; exact hno
      · exact hi i q (by omega) hg2⟩ (by omega)
    refine cond_dec (fun h2 => ⟨⟨by omega, h1⟩, cond_dec (fun h3 => ?_) fun h3 => go fun q => h3 q.2⟩) fun h2 => go fun q => h2 q.1
    exact be (decide_eq_true ⟨r, hrm, h2, h3⟩).symm
  · refine be (decide_eq_false ?_).symm
    rintro ⟨r, hr, h2, h3⟩
    obtain ⟨i, hi2⟩ := List.getElem?_of_mem hr
    have := (List.getElem?_eq_some_iff.1 hi2).1
    exact hi i r (by have h1 : ¬ (k : Int) < t.length := h1; omega) hi2 ⟨h2, h3⟩

theorem ok_ref05_Union {a b : Runs} (hl : a.length + b.length ≤ 100000) : FnE bs n_lustrumref05_Union ((Shape.pair (.slice sRun) (.slice sRun)).compsE (a, b)) (.slice sRun) (· = makeF (a ++ b)) := by
  refine ok_of (e_lustrumref05_Union (a, b) _) rfl ?_
  unfold c_lustrumref05_Union
  refine ⟨by simp only [List.length_nil]; omega, by simp only [List.nil_append]; omega, ?_⟩
  rw [List.nil_append]
  exact callP_eq (ok_ref04_Make (by rw [List.length_append]; exact hl)) rfl

theorem ref14_Covers {f : Leaf} {d : Int} (hla : f.2.2.1.length ≤ 1000) (hlb : f.2.2.2.length ≤ 1000) : FnE bs n_lustrumref14_Covers ((Shape.pair sApiLeaf (.int .i64)).compsE (f, d)) .bool (fun r => r = true ↔ CoversF f d) := by
  refine ok_of (e_lustrumref14_Covers (f, d) _) rfl ?_
  unfold c_lustrumref14_Covers
  refine callP_eq (ok_ref14_Tidy (f := f) hla hlb) ?_
  unfold tidyF CoversF
  have no : ∀ {P : Prop}, ¬ P → ((false = true) ↔ P) := fun h => ⟨fun q => (by cases q), fun q => absurd q h⟩
  rcases ho : ofF f with _ | ⟨u, s⟩ | ⟨a, b⟩
  · exact cond_yes rfl (no id)
  · obtain ⟨q1, q2, rfl, rfl, q5, q6, q7⟩ := of_units ho
    dsimp only
    refine cond_no (decide_eq_false fun q => q5 (len_zero.1 q)) (cond_no rfl (callP_eq ok_ref03_Of ?_))
    have hof : ofS f.2.1 d = match VCal.uof f.2.1 d with | some n => (n, true) | none => (0, false) := rfl
    rcases hu : VCal.uof f.2.1 d with _ | i
    · rw [hu] at hof
      rw [hof]
      exact cond_no rfl (no fun ⟨i, h, _⟩ => by cases h)
    · rw [hu] at hof
      rw [hof]
      refine cond_yes rfl (callP_of (ok_ref04_Has (by omega)) fun r hr => ?_)
      rw [hr]
      rw [decide_eq_true_iff, make_self q6.1]
      exact ⟨fun h => ⟨i, rfl, h⟩, fun ⟨j, h1, h2⟩ => by cases h1; exact h2⟩
  · obtain ⟨sa, sb, na, nb, l1, l2⟩ := span_ends ho
    have hl := span_lens ho
    dsimp only
    refine cond_no (decide_eq_false fun q => na (len_zero.1 q)) (cond_yes rfl ⟨first_in na, ?_⟩)
    rw [rd_lo na]
    refine cond_dec (fun h1 => ⟨last_in nb (by omega), ?_⟩) fun h1 => no fun h => h1 h.1
    rw [rd_hi nb (by omega), decide_eq_true_iff]
    exact ⟨fun h => ⟨h1, h⟩, fun h => h.2⟩

open Classical in
theorem ok_ref14_Covers {f : Leaf} {d : Int} (hla : f.2.2.1.length ≤ 1000) (hlb : f.2.2.2.length ≤ 1000) : FnE bs n_lustrumref14_Covers ((Shape.pair sApiLeaf (.int .i64)).compsE (f, d)) .bool (· = decide (CoversF f d)) :=
  FnE.mono (ref14_Covers hla hlb) fun r hr => Bool.eq_iff_iff.2 (hr.trans decide_eq_true_iff.symm)

theorem ok_ref17_Days {l : List Leaf} (hn : l.length ≤ 12) (hl : FewL 40 l) : FnE bs n_lustrumref17_Days ((Shape.slice sApiLeaf).compsE l) (.tup (.pair (.slice sRun) (.int .i64))) (· = if 400 < (daysF l).length then ([], 8) else (daysF l, 0)) := by
  refine ok_of (e_lustrumref17_Days l _) rfl ?_
  unfold c_lustrumref17_Days
  refine loopP_of (fun z : Runs × Int => ∃ k : Nat, z.2 = k ∧ k ≤ l.length ∧ z.1 = daysF (l.take k)) (fun z => l.length - z.2.toNat) ?_ ⟨0, rfl, Nat.zero_le _, rfl⟩
  rintro ⟨_, _⟩ A ⟨k, e1, hk, e2⟩ back
  dsimp only at e1 e2 ⊢
  subst e1 e2
  refine cond_dec (fun h1 => ⟨⟨by omega, h1⟩, ?_⟩) fun h1 => ?_
  · have h1 : (k : Int) < l.length := h1
    have hk' : k < l.length := by omega
    have hg := List.getElem?_eq_getElem hk'
    generalize l[k] = f at hg
    have hfm := List.mem_of_getElem? hg
    have hf := hl.2 f hfm
    have e : daysF (l.take (k + 1)) = makeF (daysF (l.take k) ++ partF f) := by
      unfold daysF
      rw [make_append]
      congr 1
      unfold daysL
      rw [List.take_add_one, hg, List.flatMap_append]
      simp
    have hle : (daysF (l.take k)).length ≤ 492 := by
      have h2 := days_length (l.take k) (n := 40) fun f hf => (hl.2 f (List.mem_of_mem_take hf)).1
      have h3 := make_length (daysL (l.take k))
      rw [List.length_take] at h2
      have : min k l.length * (40 + 1) ≤ 12 * (40 + 1) := Nat.mul_le_mul_right _ (by omega)
      unfold daysF
      omega
    rw [toNat_ofNat, rd_of (s := sApiLeaf) hg, w_succ (a := k) (by omega)]
    refine callP_eq (ok_ref14_Tidy (f := f) (by omega) (by omega)) ?_
    have go : A (makeF (daysF (l.take k) ++ partF f), ((k + 1 : Nat) : Int)) := back _ ⟨k + 1, rfl, hk', e.symm⟩ (by dsimp only; omega)
    have pl := part_length f
    unfold partF at go pl
    unfold tidyF
    rcases ho : ofF f with _ | ⟨u, s⟩ | ⟨a, b⟩
    · rw [ho] at go
      rw [List.append_nil, make_self (days_sane _)] at go
      exact cond_yes rfl go
    · rw [ho] at go pl
      obtain ⟨q1, q2, rfl, rfl, q5, q6, q7⟩ := of_units ho
      dsimp only at go pl ⊢
      refine cond_no (decide_eq_false fun q => q5 (len_zero.1 q)) (callP_eq (ok_ref07_Cover (by omega)) (cond_no rfl (callP_eq (ok_ref05_Union (by omega)) go)))
    · rw [ho] at go pl
      obtain ⟨sa, sb, na, nb, l1, l2⟩ := span_ends ho
      have hsl := span_lens ho
      dsimp only at go pl ⊢
      refine cond_no (decide_eq_false fun q => na (len_zero.1 q)) (callP_eq (ok_ref07_Cover (by omega)) (cond_yes rfl ⟨first_in na, last_in nb (by omega), ?_⟩))
      rw [rd_lo na, rd_hi nb (by omega)]
      exact callP_eq (ok_ref05_Union (by simp only [List.length_cons, List.length_nil]; omega)) go
  · rw [List.take_of_length_le (by have h1 : ¬ (k : Int) < l.length := h1; omega)]
    refine cond_dec (fun h => ?_) fun h => ?_
    · have h : (400 : Int) < ((daysF l).length : Int) := h
      exact (if_pos (by omega)).symm
    · have h : ¬ (400 : Int) < ((daysF l).length : Int) := h
      exact (if_neg (by omega)).symm

theorem sure_bounds {l : List Leaf} {q : Q4} (h : allF l = some q) : 0 ≤ q.2.1 ∧ q.2.1 ≤ 3652424 ∧ 0 ≤ q.2.2.1 ∧ q.2.2.1 ≤ 3652424 := by
  rcases all_spec l with ⟨h1, _⟩ | ⟨q', h1, h0, _, ⟨p2, c2, d2⟩, ⟨p3, c3, d3⟩, _⟩
  · rw [h1] at h; cases h
  · rw [h1] at h
    cases h
    have := any_in c2
    have := any_in c3
    omega

theorem ok_ref17_Sure {l : List Leaf} (hl : FewL 1000 l) : FnE bs n_lustrumref17_Sure ((Shape.slice sApiLeaf).compsE l) (.tup (.pair (.slice sRun) (.int .i64))) (· = (sureF l, if (allF l).isSome then 0 else 9)) := by
  refine ok_of (e_lustrumref17_Sure l _) rfl ?_
  unfold c_lustrumref17_Sure
  refine callP_eq (ok_ref16_All hl) ?_
  unfold sureF
  cases ha : allF l with
  | none => exact cond_yes rfl rfl
  | some q =>
    have hb := sure_bounds ha
    dsimp only [Q4.out]
    rw [make_one hb]
    refine cond_no rfl ⟨by decide, by decide, cond_dec (fun h => ?_) fun h => ⟨by decide, by decide, ?_⟩⟩
    · rw [if_pos h]; rfl
    · rw [if_neg h]; rfl

open Classical in
theorem ok_ref17_Possible {l : List Leaf} {d : Int} (hl : FewL 1000 l) : FnE bs n_lustrumref17_Possible ((Shape.pair (.slice sApiLeaf) (.int .i64)).compsE (l, d)) .bool (· = decide (∃ f ∈ l, CoversF f d)) := by
  refine ok_of (e_lustrumref17_Possible (l, d) _) rfl ?_
  unfold c_lustrumref17_Possible
  have hll := hl.1
  refine loopP_of (fun z : Int => ∃ k : Nat, z = k ∧ k ≤ l.length ∧ ∀ (i : Nat) f, i < k → l[i]? = some f → ¬ CoversF f d) (fun z => l.length - z.toNat) ?_ ⟨0, rfl, Nat.zero_le _, fun i f h => by omega⟩
  rintro _ A ⟨k, rfl, hk, hi⟩ back
  refine cond_dec (fun h1 => ⟨⟨by omega, h1⟩, ?_⟩) fun h1 => ?_
  · have h1 : (k : Int) < l.length := h1
    have hk' : k < l.length := by omega
    have hg := List.getElem?_eq_getElem hk'
    generalize l[k] = f at hg
    have hfm := List.mem_of_getElem? hg
    have hf := hl.2 f hfm
    dsimp only
    rw [toNat_ofNat, rd_of (s := sApiLeaf) hg, w_succ (by omega)]
    refine callP_eq (ok_ref14_Covers (f := f) (by omega) (by omega)) (cond_dec (fun h => ?_) fun h => ?_)
    · exact be (decide_eq_true ⟨f, hfm, h⟩).symm
    · refine back _ ⟨k + 1, rfl, hk', fun i g hik hg2 => ?_⟩ (by omega)
      by_cases e : i = k
      · subst e; rw [hg] at hg2; cases hg2; exact h
      · exact hi i g (by omega) hg2
  · refine be (decide_eq_false ?_).symm
    rintro ⟨f, hf, hh⟩
    obtain ⟨i, hi2⟩ := List.getElem?_of_mem hf
    have := (List.getElem?_eq_some_iff.1 hi2).1
    exact hi i f (by have h1 : ¬ (k : Int) < l.length := h1; omega) hi2 hh

theorem sure_one {l : List Leaf} {q : Q4} (h : allF l = some q) {d : Int} : mem (sureF l) d ↔ q.2.1 ≤ d ∧ d ≤ q.2.2.1 := by
  have hb := sure_bounds h
  unfold sureF
  rw [h]
  dsimp only
  rw [make_one hb]
  split
  · exact ⟨fun h => (mem_nil h).elim, fun h => by omega⟩
  · rw [mem_cons]
    exact ⟨fun h => h.elim id fun h => (mem_nil h).elim, .inl⟩

theorem ref17_Certain {l : List Leaf} {d : Int} (hl : FewL 1000 l) : FnE bs n_lustrumref17_Certain ((Shape.pair (.slice sApiLeaf) (.int .i64)).compsE (l, d)) .bool (fun r => r = true ↔ mem (sureF l) d) := by
  refine ok_of (e_lustrumref17_Certain (l, d) _) rfl ?_
  unfold c_lustrumref17_Certain
  refine callP_eq (ok_ref16_All hl) ?_
  have no : ∀ {P : Prop}, ¬ P → ((false = true) ↔ P) := fun h => ⟨fun q => (by cases q), fun q => absurd q h⟩
  cases ha : allF l with
  | none =>
    have e : sureF l = [] := by unfold sureF; rw [ha]
    exact cond_no rfl (no (by rw [e]; exact mem_nil))
  | some q =>
    have hm := sure_one ha (d := d)
    refine cond_yes rfl ⟨by decide, cond_dec (fun h1 => ⟨by decide, ?_⟩) fun h1 => no fun h => h1 (hm.1 h).1⟩
    show (decide (d ≤ q.2.2.1) = true) ↔ mem (sureF l) d
    rw [decide_eq_true_iff, hm]
    exact ⟨fun h => ⟨h1, h⟩, fun h => h.2⟩

open Classical in
theorem ok_ref17_Certain {l : List Leaf} {d : Int} (hl : FewL 1000 l) : FnE bs n_lustrumref17_Certain ((Shape.pair (.slice sApiLeaf) (.int .i64)).compsE (l, d)) .bool (· = decide (mem (sureF l) d)) :=
  FnE.mono (ref17_Certain hl) fun r hr => Bool.eq_iff_iff.2 (hr.trans decide_eq_true_iff.symm)

open Classical in
theorem ok_CoverIs (a : List Leaf × Int) (hl : a.1.length ≤ 9223372036854775807) : FnE bs n_lustrumlaw17_CoverIs ((Shape.pair (.slice sApiLeaf) (.int .i64)).compsE a) .bool (· = true) := by
  obtain ⟨l, d⟩ := a
  refine ok_of (e_lustrumlaw17_CoverIs (l, d) _) rfl ?_
  unfold c_lustrumlaw17_CoverIs
  refine callP_eq ok_lustrumlaw17_awake (callP_of (ok_lustrumref15_Few hl) fun r hr => cond_not (fun h => rfl) fun h => ?_)
  have h12 := (hr h).1
  have h40 := (hr h).2
  have hf := few1000 h40
  dsimp only at h12 h40 hf ⊢
  refine callP_eq (ok_cover_Days (by omega) hf) (callP_eq (ok_ref17_Days h12 h40) (callP_eq (ok_cover_Sure hf) (callP_eq (ok_ref17_Sure hf) ?_)))
  have hn := days_few (by omega) hf
  have sl := sure_length l
  have hd : ((if 400 < (daysF l).length then ([], 8) else (daysF l, 0)) : Runs × Int).1.length ≤ 100000 := by split <;> dsimp only [List.length_nil] <;> omega
  refine cond_yes rfl (cond_yes (decide_eq_true rfl) (cond_yes (decide_eq_true rfl) (callP_eq (ok_lustrumref04_Same (by omega) (by omega)) (cond_yes (decide_eq_true rfl) (callP_eq (ok_lustrumref04_Same (by dsimp only; omega) (by dsimp only; omega)) (cond_yes (decide_eq_true rfl) ?_))))))
  exact callP_eq (ok_cover_Possible hf) (callP_eq (ok_ref17_Possible hf) (cond_yes (decide_eq_true rfl) (callP_eq (ok_cover_Certain hf) (callP_of (ok_ref17_Certain hf) fun r hr => by rw [hr]; exact decide_eq_true rfl))))
end Go.Proofs.YtjeoelajkncpcaaGreatDoor.V


/- lustrumref14, and lustrumlaw14.LeafIs: their conditions. No condition of its own. -/
namespace Go.Proofs.YtjeoelajkncpcaaGreatDoor.V
open Go
set_option linter.unusedVariables false
set_option linter.unusedSimpArgs false

theorem ok_ref04_Next {s : Runs} {n : Int} (hl : s.length ≤ 100000) : FnE bs n_lustrumref04_Next ((Shape.pair (.slice sRun) (.int .i64)).compsE (s, n)) (.tup (.pair (.int .i64) .bool)) (NextR (makeF s) n) := by
  refine ok_of (e_lustrumref04_Next (s, n) _) rfl ?_
  unfold c_lustrumref04_Next
  refine callP_eq (ok_ref04_As hl) ?_
  have hml := make_length s
  have hs := make_sane s
  generalize makeF s = t at hml hs
  refine loopP_of (fun z : Int => ∃ k : Nat, z = k ∧ k ≤ t.length ∧ ∀ (i : Nat) r, i < k → t[i]? = some r → r.2 < n) (fun z => t.length - z.toNat) ?_ ⟨0, rfl, Nat.zero_le _, fun i f h => by omega⟩
  rintro _ A ⟨k, rfl, hk, hi⟩ back
  refine cond_dec (fun h1 => ⟨⟨by omega, h1⟩, ?_⟩) fun h1 => ?_
  · have h1' : (k : Int) < t.length := h1
    have hk' : k < t.length := by omega
    have hg := List.getElem?_eq_getElem hk'
    generalize t[k] = r at hg
    have hrm := List.mem_of_getElem? hg
    dsimp only
    rw [toNat_ofNat, rd_of (s := sRun) hg, w_succ (by omega)]
    refine cond_dec (fun h2 => ⟨⟨by omega, h1⟩, ?_⟩) fun h2 => ?_
    · have h2 : n ≤ r.2 := h2
      have hr := Sane.bounds hs r hrm
      refine .inr ⟨rfl, ⟨r, hrm, ?_, ?_⟩, ?_, fun m hm hnm => ?_⟩ <;> dsimp only <;> rw [max_max]
      · omega
      · omega
      · omega
      · obtain ⟨q, hq, q1, q2⟩ := hm
        obtain ⟨i, hi2⟩ := List.getElem?_of_mem hq
        rcases Nat.lt_trichotomy i k with e | e | e
        · have := hi i q e hi2; omega
        · subst e; rw [hg] at hi2; cases hi2; omega
        · have := SaneFrom.get hs k i r q hg hi2 e
          omega
    · have h2 : ¬ n ≤ r.2 := h2
      refine back _ ⟨k + 1, rfl, hk', fun i q hik hg2 => ?_⟩ (by omega)
      by_cases e : i = k
      · subst e; rw [hg] at hg2; cases hg2; omega
      · exact hi i q (by omega) hg2
  · refine .inl ⟨rfl, fun m hm => ?_⟩
    obtain ⟨q, hq, q1, q2⟩ := hm
    obtain ⟨i, hi2⟩ := List.getElem?_of_mem hq
    have := (List.getElem?_eq_some_iff.1 hi2).1
    have := hi i q (by have h1 : ¬ (k : Int) < t.length := h1; omega) hi2
    omega

theorem ok_ref14_Empty {f : Leaf} (hla : f.2.2.1.length ≤ 1000) (hlb : f.2.2.2.length ≤ 1000) : FnE bs n_lustrumref14_Empty (sApiLeaf.compsE f) .bool (· = (ofF f).isNone) := by
  refine ok_of (e_lustrumref14_Empty f _) rfl ?_
  unfold c_lustrumref14_Empty
  refine callP_eq (ok_ref14_Tidy (f := f) hla hlb) ?_
  unfold tidyF
  rcases ho : ofF f with _ | ⟨u, s⟩ | ⟨a, b⟩
  · exact rfl
  · obtain ⟨q1, q2, rfl, rfl, q5, q6, q7⟩ := of_units ho
    exact decide_eq_false fun q => q5 (len_zero.1 q)
  · obtain ⟨sa, sb, na, nb, l1, l2⟩ := span_ends ho
    exact decide_eq_false fun q => na (len_zero.1 q)

theorem ok_ref14_some {s : Runs} : FnE bs n_lustrumref14_some ((Shape.slice sRun).compsE s) (.tup (.pair (.slice sRun) .bool)) (· = knownF s) := by
  refine ok_of (e_lustrumref14_some s _) rfl ?_
  unfold c_lustrumref14_some knownF
  refine cond_dec (fun h => ?_) fun h => ?_
  · have h : (400 : Int) < (s.length : Int) := h
    exact (if_pos (by omega)).symm
  · have h : ¬ (400 : Int) < (s.length : Int) := h
    exact (if_neg (by omega)).symm

theorem marks_empty (g : Int → Int → Int) : marksF g 0 [] = ([], true) := by
  unfold marksF
  rw [if_pos rfl]
  rfl

theorem ok_ref14_Starts {f : Leaf} (hla : f.2.2.1.length ≤ 1000) (hlb : f.2.2.2.length ≤ 1000) : FnE bs n_lustrumref14_Starts (sApiLeaf.compsE f) (.tup (.pair (.slice sRun) .bool)) (· = startsL f) := by
  refine ok_of (e_lustrumref14_Starts f _) rfl ?_
  unfold c_lustrumref14_Starts
  refine callP_eq (ok_ref14_Tidy (f := f) hla hlb) ?_
  unfold tidyF startsL
  rcases ho : ofF f with _ | ⟨u, s⟩ | ⟨a, b⟩
  · exact cond_no rfl (callP_eq (ok_ref07_Starts (by decide)) (marks_empty VCal.ufirst))
  · obtain ⟨q1, q2, rfl, rfl, q5, q6, q7⟩ := of_units ho
    exact cond_no rfl (callP_eq (ok_ref07_Starts hla) rfl)
  · exact cond_yes rfl (callP_eq ok_ref14_some rfl)

theorem ok_ref14_Ends {f : Leaf} (hla : f.2.2.1.length ≤ 1000) (hlb : f.2.2.2.length ≤ 1000) : FnE bs n_lustrumref14_Ends (sApiLeaf.compsE f) (.tup (.pair (.slice sRun) .bool)) (· = endsL f) := by
  refine ok_of (e_lustrumref14_Ends f _) rfl ?_
  unfold c_lustrumref14_Ends
  refine callP_eq (ok_ref14_Tidy (f := f) hla hlb) ?_
  unfold tidyF endsL
  rcases ho : ofF f with _ | ⟨u, s⟩ | ⟨a, b⟩
  · exact cond_no rfl (callP_eq (ok_ref07_Ends (by decide)) (marks_empty VCal.ulast))
  · obtain ⟨q1, q2, rfl, rfl, q5, q6, q7⟩ := of_units ho
    exact cond_no rfl (callP_eq (ok_ref07_Ends hla) rfl)
  · exact cond_yes rfl (callP_eq ok_ref14_some rfl)

theorem ref14_Has {f : Leaf} {p : Int × Int} (hla : f.2.2.1.length ≤ 1000) (hlb : f.2.2.2.length ≤ 1000) : FnE bs n_lustrumref14_Has ((Shape.pair sApiLeaf sRun).compsE (f, p)) .bool (fun r => r = true ↔ HasF f p) := by
  refine ok_of (e_lustrumref14_Has (f, p) _) rfl ?_
  unfold c_lustrumref14_Has
  refine callP_eq (ok_ref14_As (f := f) (by omega) (by omega)) ?_
  have no : ∀ {P : Prop}, ¬ P → ((false = true) ↔ P) := fun h => ⟨fun q => (by cases q), fun q => absurd q h⟩
  unfold asL
  by_cases hs : LeafSane f
  · rw [if_pos hs]
    have hs' := hs
    unfold LeafSane at hs'
    cases h1 : f.1 with
    | true =>
      rw [if_pos h1] at hs'
      rw [has_span hs h1]
      refine cond_yes rfl (cond_dec (fun h2 => callP_eq (ok_ref04_Has (by omega)) ?_) fun h2 => no fun h => h2 h.1)
      rw [make_self hs'.2.1.1]
      refine cond_dec (fun h3 => callP_of (ok_ref04_Has (by omega)) fun r hr => ?_) fun h3 => no fun h => h3 h.2.1
      rw [hr]
      show (decide (mem (makeF f.2.2.2) p.2) = true) ↔ _
      rw [decide_eq_true_iff, make_self hs'.2.2.1]
      exact ⟨fun h => ⟨h2, h3, h⟩, fun h => h.2.2⟩
    | false =>
      rw [if_neg (by rw [h1]; exact Bool.false_ne_true)] at hs'
      rw [has_units hs h1]
      refine cond_no rfl (callP_eq ok_ref03_Of ?_)
      have hof : ofS f.2.1 p.1 = match VCal.uof f.2.1 p.1 with | some n => (n, true) | none => (0, false) := rfl
      dsimp only
      rcases hu : VCal.uof f.2.1 p.1 with _ | i
      · rw [hu] at hof
        rw [hof]
        exact cond_yes rfl (no fun ⟨i, h, _⟩ => by cases h)
      · rw [hu] at hof
        rw [hof]
        have hi := VCal.uof_some.1 hu
        refine cond_no rfl (callP_eq (ok_ref04_Has (by omega)) ?_)
        rw [make_self hs'.2.1.1]
        refine cond_not (fun h => no ?_) fun h => callP_eq ok_ref03_First (callP_eq ok_ref03_Last ?_)
        · have h := of_decide_eq_false h
          rintro ⟨j, q1, q2, _⟩
          cases q1
          exact h q2
        · have h := of_decide_eq_true h
          have f1 : (firstS f.2.1 i).1 = VCal.ufirst f.2.1 i := by unfold firstS; rw [if_pos ⟨hi.1, hi.2.1⟩]
          have f2 : (lastS f.2.1 i).1 = VCal.ulast f.2.1 i := by unfold lastS; rw [if_pos ⟨hi.1, hi.2.1⟩]
          dsimp only
          rw [f1, f2]
          refine cond_dec (fun h2 => ?_) fun h2 => no fun ⟨j, q1, q2, q3⟩ => h2 (by cases q1; rw [q3])
          show (decide (p.2 = VCal.ulast f.2.1 i) = true) ↔ _
          rw [decide_eq_true_iff]
          exact ⟨fun h3 => ⟨i, rfl, h, Prod.ext h2 h3⟩, fun ⟨j, q1, q2, q3⟩ => by cases q1; rw [q3]⟩
  · rw [if_neg hs]
    have hn : ¬ HasF f p := by
      unfold HasF ofF
      rw [if_pos (.inl hs)]
      exact id
    refine cond_no rfl (callP_eq ok_ref03_Of (cond_not (fun _ => no hn) fun _ => callP_eq (ok_ref04_Has (by decide)) (cond_yes ?_ (no hn))))
    rw [decide_eq_false]
    · rfl
    · exact mem_nil

theorem sorted_split (s : Int) : ∀ {l : List Int}, l.Pairwise (· < ·) → l = (l.filter fun n => decide (n < s)) ++ l.filter fun n => decide (s ≤ n)
  | [], _ => rfl
  | x :: l, h => by
    obtain ⟨h1, h2⟩ := List.pairwise_cons.1 h
    have ih := sorted_split s h2
    rw [List.filter_cons, List.filter_cons]
    by_cases hx : x < s
    · rw [if_pos (by simpa using hx), if_neg (by simp; omega), List.cons_append, ← ih]
    · rw [if_neg (by simpa using hx), if_pos (by simp; omega)]
      have e : l.filter (fun n => decide (n < s)) = [] := List.filter_eq_nil_iff.2 fun m hm => by have := h1 m hm; simp; omega
      have e2 : l.filter (fun n => decide (s ≤ n)) = l := List.filter_eq_self.2 fun m hm => by have := h1 m hm; simp; omega
      rw [e, e2, List.nil_append]

theorem nextB {s : Runs} (hs : Sane s) {n : Int} {r : Int × Bool} {pre rest : List Int} (he : nums s = pre ++ rest) (hp : ∀ m ∈ pre, m < n) (hr : ∀ m ∈ rest, n ≤ m) (h : NextR s n r) : (rest = [] ∧ r.2 = false) ∨ ∃ t, rest = r.1 :: t ∧ r.2 = true := by
  have hsort := nums_sorted hs
  rw [he] at hsort
  refine next_head he hp hr (List.pairwise_append.1 hsort).2.1 ?_
  rcases h with ⟨h1, h2⟩ | h
  · exact .inl ⟨by rw [h1], h2⟩
  · exact .inr h

theorem split_step {l pre t : List Int} {x : Int} (h : l.Pairwise (· < ·)) (he : l = pre ++ x :: t) : (∀ m ∈ pre ++ [x], m < x + 1) ∧ ∀ m ∈ t, x + 1 ≤ m := by
  rw [he] at h
  obtain ⟨h1, h2, h3⟩ := List.pairwise_append.1 h
  have h4 := (List.pairwise_cons.1 h2).1
  refine ⟨fun m hm => ?_, fun m hm => by have := h4 m hm; omega⟩
  rcases List.mem_append.1 hm with q | q
  · have := h3 m q x List.mem_cons_self; omega
  · rw [List.mem_singleton] at q; omega

theorem ok_ref14_span {a b : Runs} {n : Int} {sp : Bool} {u : Int} (ha : Within a 3652424) (hb : Within b 3652424) (hla : a.length ≤ 1000) (hlb : b.length ≤ 1000) (hn : n ≤ 1000) : FnE bs n_lustrumref14_span ((Shape.pair sApiLeaf (.int .i64)).compsE ((sp, u, a, b), n)) (.slice sRun) (· = (spanPairs a b).take n.toNat) := by
  refine ok_of (e_lustrumref14_span ((sp, u, a, b), n) _) rfl ?_
  unfold c_lustrumref14_span
  have ba : ∀ m ∈ nums a, 0 ≤ m ∧ m ≤ 3652424 := fun m hm => Within.bounds ha (mem_nums.1 hm)
  have bb : ∀ m ∈ nums b, 0 ≤ m ∧ m ≤ 3652424 := fun m hm => Within.bounds hb (mem_nums.1 hm)
  have sa := nums_sorted ha.1
  have sb := nums_sorted hb.1
  have NA : ∀ {k : Int}, FnE bs n_lustrumref04_Next ((Shape.pair (.slice sRun) (.int .i64)).compsE (a, k)) (.tup (.pair (.int .i64) .bool)) (NextR a k) := fun {k} => by
    have := ok_ref04_Next (s := a) (n := k) (by omega); rwa [make_self ha.1] at this
  have NB : ∀ {k : Int}, FnE bs n_lustrumref04_Next ((Shape.pair (.slice sRun) (.int .i64)).compsE (b, k)) (.tup (.pair (.int .i64) .bool)) (NextR b k) := fun {k} => by
    have := ok_ref04_Next (s := b) (n := k) (by omega); rwa [make_self hb.1] at this
  rw [spanPairs_eq]
  generalize hF : (fun s => ((nums b).filter fun n => decide (s ≤ n)).map fun t => (s, t)) = F
  refine callP_of NA fun r1 h1 => ?_
  have h0 := nextB ha.1 (pre := []) (rest := nums a) rfl (fun m hm => by cases hm) (fun m hm => (ba m hm).1) h1
  refine loopP_of (fun z : Unit × Int × Bool × Runs => ∃ pre rest, nums a = pre ++ rest ∧ ((rest = [] ∧ z.2.2.1 = false) ∨ ∃ t, rest = z.2.1 :: t ∧ z.2.2.1 = true) ∧ Fill ((nums a).flatMap F) n z.2.2.2 (rest.flatMap F)) (fun z => 3652425 - (if z.2.2.1 = true then z.2.1.toNat else 3652425)) ?_ ⟨[], nums a, rfl, h0, Fill.start⟩
  rintro ⟨_, i, ok, out⟩ A ⟨pre, rest, e1, e2, e3⟩ back
  dsimp only at e2 e3 ⊢
  refine cond_bool (fun hok => ?_) fun hok => ?_
  · rcases e2 with ⟨_, q⟩ | ⟨t, rfl, _⟩
    · rw [hok] at q; cases q
    · have hi := ba i (by rw [e1]; simp)
      refine cond_dec (fun hlt => callP_of NB fun r4 h4 => ?_) fun hlt => ?_
      · have hlt : (out.length : Int) < n := hlt
        have hsp := sorted_split i sb
        have hb4 := nextB hb.1 hsp (fun m hm => by simpa using (List.mem_filter.1 hm).2) (fun m hm => by simpa using (List.mem_filter.1 hm).2) h4
        obtain ⟨st1, st2⟩ := split_step sa e1
        have out2 : ∀ z out', Fill ((nums a).flatMap F) n out' (t.flatMap F) → NextR a (i + 1) z → A ((), z.1, z.2, out') := by
          intro z out' hf hz
          have hz2 := nextB ha.1 (pre := pre ++ [i]) (rest := t) (by rw [e1]; simp) st1 st2 hz
          refine back _ ⟨pre ++ [i], t, by rw [e1]; simp, hz2, hf⟩ ?_
          dsimp only
          rw [if_pos hok]
          rcases hz2 with ⟨_, q⟩ | ⟨t', q, q2⟩
          · rw [q, if_neg (by decide)]; omega
          · have hz3 := st2 z.1 (by rw [q]; simp)
            have hz4 := ba z.1 (by rw [e1, q]; simp)
            rw [q2, if_pos rfl]; omega
        have hFi : (i :: t).flatMap F = (((nums b).filter fun n => decide (i ≤ n)).map fun t => (i, t)) ++ t.flatMap F := by rw [List.flatMap_cons, ← hF]
        rw [hFi] at e3
        generalize hbp : (nums b).filter (fun n => decide (n < i)) = bpre at hsp hb4
        generalize hbr : (nums b).filter (fun n => decide (i ≤ n)) = brest at hsp hb4 e3
        refine loopP_of (fun z : Unit × Int × Bool × Runs => ∃ bp br, nums b = bp ++ br ∧ ((br = [] ∧ z.2.2.1 = false) ∨ ∃ t', br = z.2.1 :: t' ∧ z.2.2.1 = true) ∧ Fill ((nums a).flatMap F) n z.2.2.2 ((br.map fun t => (i, t)) ++ t.flatMap F)) (fun z => 3652425 - (if z.2.2.1 = true then z.2.1.toNat else 3652425)) ?_ ⟨bpre, brest, hsp, hb4, e3⟩
        rintro ⟨_, j, ok2, out3⟩ A2 ⟨bp, br, g1, g2, g3⟩ back2
        dsimp only at g2 g3 ⊢
        rw [w64_of (n := i + 1) (by omega)]
        refine cond_bool (fun hok2 => ?_) fun hok2 => ?_
        · rcases g2 with ⟨_, q⟩ | ⟨t', rfl, _⟩
          · rw [hok2] at q; cases q
          · have hj := bb j (by rw [g1]; simp)
            refine cond_dec (fun hlt2 => ?_) fun hlt2 => ?_
            · have hlt2 : (out3.length : Int) < n := hlt2
              obtain ⟨su1, su2⟩ := split_step sb g1
              rw [w64_of (n := j + 1) (by omega)]
              refine ⟨by show (_ + 1) * 16 ≤ _; omega, callP_of NB fun r7 h7 => ?_⟩
              have hz2 := nextB hb.1 (pre := bp ++ [j]) (rest := t') (by rw [g1]; simp) su1 su2 h7
              rw [List.map_cons, List.cons_append] at g3
              refine back2 _ ⟨bp ++ [j], t', by rw [g1]; simp, hz2, g3.step hlt2⟩ ?_
              dsimp only
              rw [if_pos hok2]
              rcases hz2 with ⟨_, q⟩ | ⟨t2, q, q2⟩
              · rw [q, if_neg (by decide)]; omega
              · have hz3 := su2 r7.1 (by rw [q]; simp)
                have hz4 := bb r7.1 (by rw [g1, q]; simp)
                rw [q2, if_pos rfl]; omega
            · exact callP_of NA fun r8 h8 => out2 r8 out3 (g3.full hlt2) h8
        · rcases g2 with ⟨rfl, _⟩ | ⟨t', _, q⟩
          · exact callP_of NA fun r9 h9 => out2 r9 out3 g3 h9
          · rw [hok2] at q; cases q
      · exact (e3.full (rest' := []) hlt).done
  · rcases e2 with ⟨rfl, _⟩ | ⟨t, _, q⟩
    · exact e3.done
    · rw [hok] at q; cases q

theorem ok_ref14_Pairs {f : Leaf} {n : Int} (hla : f.2.2.1.length ≤ 1000) (hlb : f.2.2.2.length ≤ 1000) : FnE bs n_lustrumref14_Pairs ((Shape.pair sApiLeaf (.int .i64)).compsE (f, n)) (.slice sRun) (· = pairsF f n) := by
  refine ok_of (e_lustrumref14_Pairs (f, n) _) rfl ?_
  unfold c_lustrumref14_Pairs
  refine callP_eq (ok_ref14_Tidy (f := f) hla hlb) ?_
  dsimp only
  rw [minI_eq]
  unfold tidyF pairsF
  generalize hk : min n 1000 = k
  have units : ∀ {u : Int} {s : Runs}, Within s (VCal.ucount u - 1) → s.length ≤ 1000 → callP bs 55 (.pair (.slice sRun) (.int .i64)) (.tup (.pair (.int .i64) .bool)) (s, (0 : Int)) (fun r3 => (loopP (S := (Unit × (Int × (Bool × (List (Int × Int)))))) (fun z4 back5 => (cond z4.2.2.1 (cond (decide ((z4.2.2.2.length : Int) < k)) (callP bs 50 (.pair (.int .i64) (.int .i64)) (.tup (.pair (.int .i64) .bool)) (u, z4.2.1) (fun r6 => (callP bs 51 (.pair (.int .i64) (.int .i64)) (.tup (.pair (.int .i64) .bool)) (u, z4.2.1) (fun r7 => (chk ((z4.2.2.2.length + [(r6.1, r7.1)].length) * 16 ≤ 140737488355328) (callP bs 55 (.pair (.slice sRun) (.int .i64)) (.tup (.pair (.int .i64) .bool)) (s, (w64 (z4.2.1 + (1 : Int)))) (fun r8 => (back5 ((), r8.1, r8.2, (z4.2.2.2 ++ [(r6.1, r7.1)])))))))))) ((fun x : Runs => x = (unitPairs u s).take k.toNat) z4.2.2.2)) ((fun x : Runs => x = (unitPairs u s).take k.toNat) z4.2.2.2))) ((), r3.1, r3.2, ([] : List (Int × Int))))) := by
    intro u s hw hls
    have hc := VCal.ucount_pos u
    have bs' : ∀ m ∈ nums s, 0 ≤ m ∧ m < VCal.ucount u := fun m hm => by have := Within.bounds hw (mem_nums.1 hm); omega
    have ss := nums_sorted hw.1
    have NS : ∀ {k : Int}, FnE bs n_lustrumref04_Next ((Shape.pair (.slice sRun) (.int .i64)).compsE (s, k)) (.tup (.pair (.int .i64) .bool)) (NextR s k) := fun {k} => by
      have := ok_ref04_Next (s := s) (n := k) (by omega); rwa [make_self hw.1] at this
    unfold unitPairs
    generalize hP : (fun i => (VCal.ufirst u i, VCal.ulast u i)) = P
    refine callP_of NS fun r1 h1 => ?_
    have h0 := nextB hw.1 (pre := []) (rest := nums s) rfl (fun m hm => by cases hm) (fun m hm => (bs' m hm).1) h1
    refine loopP_of (fun z : Unit × Int × Bool × Runs => ∃ pre rest, nums s = pre ++ rest ∧ ((rest = [] ∧ z.2.2.1 = false) ∨ ∃ t, rest = z.2.1 :: t ∧ z.2.2.1 = true) ∧ Fill ((nums s).map P) k z.2.2.2 (rest.map P)) (fun z => 3652426 - (if z.2.2.1 = true then z.2.1.toNat else 3652426)) ?_ ⟨[], nums s, rfl, h0, Fill.start⟩
    rintro ⟨_, i, ok, out⟩ A ⟨pre, rest, e1, e2, e3⟩ back
    dsimp only at e2 e3 ⊢
    refine cond_bool (fun hok => ?_) fun hok => ?_
    · rcases e2 with ⟨_, q⟩ | ⟨t, rfl, _⟩
      · rw [hok] at q; cases q
      · have hi := bs' i (by rw [e1]; simp)
        refine cond_dec (fun hlt => ?_) fun hlt => ?_
        · have hlt : (out.length : Int) < k := hlt
          obtain ⟨st1, st2⟩ := split_step ss e1
          refine callP_eq ok_ref03_First (callP_eq ok_ref03_Last ?_)
          have f1 : (firstS u i).1 = VCal.ufirst u i := by unfold firstS; rw [if_pos hi]
          have f2 : (lastS u i).1 = VCal.ulast u i := by unfold lastS; rw [if_pos hi]
          rw [f1, f2, w64_of (n := i + 1) (by omega)]
          refine ⟨by show (_ + 1) * 16 ≤ _; omega, callP_of NS fun r8 h8 => ?_⟩
          have hz2 := nextB hw.1 (pre := pre ++ [i]) (rest := t) (by rw [e1]; simp) st1 st2 h8
          rw [List.map_cons] at e3
          have hPi : (VCal.ufirst u i, VCal.ulast u i) = P i := by rw [← hP]
          rw [hPi]
          refine back _ ⟨pre ++ [i], t, by rw [e1]; simp, hz2, e3.step hlt⟩ ?_
          dsimp only
          rw [if_pos hok]
          rcases hz2 with ⟨_, q⟩ | ⟨t', q, q2⟩
          · rw [q, if_neg (by decide)]; omega
          · have hz3 := st2 r8.1 (by rw [q]; simp)
            have hz4 := bs' r8.1 (by rw [e1, q]; simp)
            rw [q2, if_pos rfl]; omega
        · exact (e3.full (rest' := []) hlt).done
    · rcases e2 with ⟨rfl, _⟩ | ⟨t, _, q⟩
      · exact e3.done
      · rw [hok] at q; cases q
  rcases ho : ofF f with _ | ⟨u, s⟩ | ⟨a, b⟩
  · refine cond_no rfl ?_
    have := units (u := 0) (s := []) ⟨trivial, .inl rfl⟩ (by decide)
    exact this
  · obtain ⟨q1, q2, rfl, rfl, q5, q6, q7⟩ := of_units ho
    exact cond_no rfl (units q6 hla)
  · obtain ⟨sa, sb, na, nb, l1, l2⟩ := span_ends ho
    have hl := span_lens ho
    obtain ⟨_, _, _, _, _, w1, w2, ea, eb⟩ := of_span ho
    have wa : Within a 3652424 := within_of sa fun n hn => by rw [ea] at hn; exact Within.bounds w1 (mem_clip.1 hn).1
    have wb : Within b 3652424 := within_of sb fun n hn => by rw [eb] at hn; exact Within.bounds w2 (mem_clip.1 hn).1
    have la : a.length ≤ 1000 := by omega
    have lb : b.length ≤ 1000 := by omega
    exact cond_yes rfl (callP_eq (ok_ref14_span (sp := true) (u := 0) (a := a) (b := b) wa wb la lb (by omega)) rfl)

theorem tidy_small {f : Leaf} : (tidyF f).2.2.1.length ≤ f.2.2.1.length ∧ (tidyF f).2.2.2.length ≤ f.2.2.2.length := by
  unfold tidyF
  rcases ho : ofF f with _ | ⟨u, s⟩ | ⟨a, b⟩
  · exact ⟨Nat.zero_le _, Nat.zero_le _⟩
  · obtain ⟨q1, q2, rfl, rfl, q5, q6, q7⟩ := of_units ho
    exact ⟨Nat.le_refl _, Nat.zero_le _⟩
  · exact span_lens ho

open Classical in
theorem ok_LeafIs (a : Leaf × (Int × Int) × Int × Int) : FnE bs n_lustrumlaw14_LeafIs ((Shape.pair sApiLeaf (.pair sRun (.pair (.int .i64) (.int .i64)))).compsE a) .bool (· = true) := by
  obtain ⟨f, p, d, n⟩ := a
  refine ok_of (e_lustrumlaw14_LeafIs (f, p, d, n) _) rfl ?_
  unfold c_lustrumlaw14_LeafIs
  refine callP_eq ok_lustrumlaw14_awake (callP_eq ok_lustrumref14_Few (cond_not (fun _ => rfl) fun h => ?_))
  have h := of_decide_eq_true h
  dsimp only at h ⊢
  refine callP_eq (ok_leaf_Starts (f := f) (by omega) (by omega)) (callP_eq (ok_ref14_Starts (f := f) (by omega) (by omega)) (callP_eq (ok_leaf_Ends (f := f) (by omega) (by omega)) (callP_eq (ok_ref14_Ends (f := f) (by omega) (by omega)) ?_)))
  have k1 := (starts_spec (f := f) (l := (startsL f).1) (b := (startsL f).2) rfl).2.1
  have k2 := (ends_spec (f := f) (l := (endsL f).1) (b := (endsL f).2) rfl).2.1
  have hts := tidy_small (f := f)
  have hpl : (pairsF f n).length ≤ 1000 := by unfold pairsF; rw [List.length_take]; omega
  refine cond_no (by simp) (cond_no (by simp) (callP_eq (ok_lustrumref04_Same (by omega) (by omega)) (cond_no (by simp) (callP_eq (ok_lustrumref04_Same (by omega) (by omega)) (cond_no (by simp) ?_)))))
  refine callP_eq (ok_leaf_Sane (f := f) (by omega) (by omega)) (callP_eq (ok_ref14_Sane (f := f) (by omega) (by omega)) (cond_no (by simp) ?_))
  refine callP_eq (ok_leaf_Empty (f := f) (by omega) (by omega)) (callP_eq (ok_ref14_Empty (f := f) (by omega) (by omega)) (cond_no (by simp) (cond_yes rfl ?_)))
  refine callP_of (ok_leaf_Has (f := f) (p := p) (by omega) (by omega)) fun r1 h1 => callP_of (ref14_Has (f := f) (p := p) (by omega) (by omega)) fun r2 h2 => cond_yes (decide_eq_true ?_) ?_
  · rw [h1, Bool.eq_iff_iff, decide_eq_true_iff, h2]
  refine callP_of (ok_leaf_Covers (f := f) (d := d) (by omega) (by omega)) fun r3 h3 => callP_of (ref14_Covers (f := f) (d := d) (by omega) (by omega)) fun r4 h4 => cond_yes (decide_eq_true ?_) ?_
  · rw [h3, Bool.eq_iff_iff, decide_eq_true_iff, h4]
  refine callP_eq (ok_leaf_Pairs (f := f) (n := n) (by omega) (by omega)) (callP_eq (ok_ref14_Pairs (f := f) (n := n) (by omega) (by omega)) (callP_eq (ok_lustrumref14_SamePairs (by omega) (by omega)) (cond_yes (decide_eq_true rfl) ?_)))
  refine callP_eq (ok_leaf_Tidy (f := f) (by omega) (by omega)) (callP_eq (ok_ref14_Tidy (f := f) (by omega) (by omega)) (callP_of (ok_lustrumref14_Same (f := tidyF f) (g := tidyF f) (by omega) (by omega) (by omega) (by omega)) fun r hr => ?_))
  rw [hr]
  exact decide_eq_true rfl
end Go.Proofs.YtjeoelajkncpcaaGreatDoor.V

