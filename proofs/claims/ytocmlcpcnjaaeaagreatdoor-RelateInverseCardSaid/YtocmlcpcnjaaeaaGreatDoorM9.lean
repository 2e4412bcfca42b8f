/- The calculus of the program's functions and their contracts, part 9. No condition of its own. -/
import Derived.Test.YtocmlcpcnjaaeaaGreatDoorM8
import Derived.Shelf.Spec.SlicesGrow


/- image: marks, Starts, Ends, search, Inside, Touch: their contracts. No condition of its own. -/
namespace Go.Proofs.YtocmlcpcnjaaeaaGreatDoor.V
open Go
set_option linter.unusedVariables false
set_option linter.unusedSimpArgs false

theorem ok_rf {B : Base} {g : Cfg} {f : FuncId} {args : List EV} {out : Shape} {R : out.Val → Prop} {C : Prop} (e : g.fnRK f args out R = C) (hb : g.toBase = B) (H : HanOK g) (h : C) : FnE B f args out R := by rw [← hb]; exact fnR_sound H (e.mpr h)

theorem nums_count : ∀ {s : Runs} {a : Int}, SaneFrom a s → ((nums s).length : Int) = countF s
  | [], _, _ => rfl
  | r :: s, a, h => by
    have h1 := nums_count h.2.2.2
    have h2 := h.1
    unfold nums at *
    rw [List.flatMap_cons, List.length_append, upTo_length]
    unfold countF
    omega

theorem ok_image_marks {u : Int} {s : Runs} {g : Int → Int → Int} {f : Int × Int → Int × Bool} (hl : s.length < 65536) (hf : ∀ i, 0 ≤ i → i < VCal.ucount u → (f (u, i)).1 = g u i) :
    FnE bs n_image_marks ((Shape.pair (.int .i64) (.pair (.slice sRun) (.func (.pair (.int .i64) (.int .i64)) (.tup (.pair (.int .i64) .bool))))).compsE (u, s, fun x => some (f x))) (.tup (.pair (.slice sRun) .bool)) (fun r => r.2 = (marksF g u s).2 ∧ (r.2 = true → r.1 = (marksF g u s).1)) := by
  refine ok_rf (e_image_marks (u, s, fun x => some (f x)) _) rfl (HanOK.ofList [(190, .inl g_image_each_in)] rfl rfl ⟨rfl, HanOK.none rfl rfl, trivial⟩) ?_
  unfold c_image_marks
  refine callP_eq (ok_image_units hl) ?_
  have hs := units_sane u s
  have hlen := units_length u s
  have hc := VCal.ucount_pos u
  have hus := make_self hs
  refine cond_dec (fun e => ?_) fun e => ?_
  · have e : u = 0 := e
    refine callP_eq (ok_sets_WideA (s := unitsF u s) (by omega)) ?_
    rw [hus]
    unfold marksF
    rw [if_pos e]
    by_cases hw : 400 < (unitsF u s).length
    · rw [if_pos hw, decide_eq_true hw]
      exact ⟨rfl, fun h => by cases h⟩
    · rw [if_neg hw, decide_eq_false hw]
      exact ⟨rfl, fun _ => rfl⟩
  · have e : ¬ u = 0 := e
    refine callP_eq (ok_runs_CountA (s := unitsF u s) (by omega)) ?_
    rw [hus, ← nums_count hs]
    unfold marksF
    rw [if_neg e]
    refine cond_dec (fun hw => ?_) fun hw => ?_
    · have hw : (400 : Int) < ((nums (unitsF u s)).length : Int) := hw
      rw [if_pos (by omega)]
      exact ⟨rfl, fun h => by cases h⟩
    · have hw : ¬ (400 : Int) < ((nums (unitsF u s)).length : Int) := hw
      rw [if_neg (by omega)]
      refine ⟨nums (unitsF u s), iter_each (z := unitsF u s) (fun r hr => by have := units_in hr; omega) (by omega) _ rfl, ?_⟩
      refine ⟨fun pre y => y.1 = pre.map (g u), rfl, fun pre x y hx hpl hy => ?_, fun y hy => ?_⟩
      · refine gcall_eq rfl ⟨?_, ?_⟩
        · have : y.1.length = pre.length := by rw [hy, List.length_map]
          show (y.1.length + 1) * 8 ≤ _
          omega
        · show y.1 ++ [(f (u, x)).1] = (pre ++ [x]).map (g u)
          have b := nums_units hx
          rw [hy, List.map_append, hf x b.1 b.2]
          rfl
      · have hyl : y.1.length ≤ 400 := by rw [hy, List.length_map]; omega
        refine callP_eq (ok_runs_Of (l := y.1) (by omega)) ⟨rfl, fun _ => ?_⟩
        show makeF (y.1.map fun n => (n, n)) = _
        rw [hy]
        rfl

theorem ok_image_Starts {u : Int} {s : Runs} (hl : s.length < 65536) : FnE bs n_image_Starts ((Shape.pair (.int .i64) (.slice sRun)).compsE (u, s)) (.tup (.pair (.slice sRun) .bool)) (· = marksF VCal.ufirst u s) := by
  refine ok_of (e_image_Starts (u, s) _) rfl ?_
  unfold c_image_Starts
  refine ⟨_, cl_First, callP_of (ok_image_marks (g := VCal.ufirst) hl fun i h0 h1 => by show (firstS u i).1 = _; unfold firstS; rw [if_pos ⟨h0, h1⟩]) fun r hr => ?_⟩
  obtain ⟨h1, h2⟩ := hr
  refine cond_not (fun h => ?_) fun h => ?_
  · rw [h] at h1
    generalize hm : marksF VCal.ufirst u s = q at h1
    obtain ⟨l, b⟩ := q
    have h1 : false = b := h1
    subst h1
    have : l = [] := by
      unfold marksF at hm
      split at hm <;> split at hm <;> first | (cases hm; rfl) | cases hm
    rw [this]
  · rw [h2 h]
    rw [h] at h1
    exact Prod.ext rfl h1

theorem ok_image_Ends {u : Int} {s : Runs} (hl : s.length < 65536) : FnE bs n_image_Ends ((Shape.pair (.int .i64) (.slice sRun)).compsE (u, s)) (.tup (.pair (.slice sRun) .bool)) (· = marksF VCal.ulast u s) := by
  refine ok_of (e_image_Ends (u, s) _) rfl ?_
  unfold c_image_Ends
  refine ⟨_, cl_Last, callP_of (ok_image_marks (g := VCal.ulast) hl fun i h0 h1 => by show (lastS u i).1 = _; unfold lastS; rw [if_pos ⟨h0, h1⟩]) fun r hr => ?_⟩
  obtain ⟨h1, h2⟩ := hr
  refine cond_not (fun h => ?_) fun h => ?_
  · rw [h] at h1
    generalize hm : marksF VCal.ulast u s = q at h1
    obtain ⟨l, b⟩ := q
    have h1 : false = b := h1
    subst h1
    have : l = [] := by
      unfold marksF at hm
      split at hm <;> split at hm <;> first | (cases hm; rfl) | cases hm
    rw [this]
  · rw [h2 h]
    rw [h] at h1
    exact Prod.ext rfl h1

/-! ### Units within days -/

/-- The units from one place to another. -/
def WithinR (cnt : Int) (P Q : Int → Prop) (r : Runs) : Prop := ∃ a b, FromR cnt P a ∧ FromR cnt Q b ∧ r = makeF [(a, b - 1)]

theorem first_of {u : Int} : ∀ i, 0 ≤ i → i < VCal.ucount u → (firstS (u, i).1 (u, i).2).1 = VCal.ufirst u i := fun i h0 h1 => by show (firstS u i).1 = _; unfold firstS; rw [if_pos ⟨h0, h1⟩]
theorem last_of {u : Int} : ∀ i, 0 ≤ i → i < VCal.ucount u → (lastS (u, i).1 (u, i).2).1 = VCal.ulast u i := fun i h0 h1 => by show (lastS u i).1 = _; unfold lastS; rw [if_pos ⟨h0, h1⟩]

theorem mem_within {u n : Int} {P Q : Int → Prop} {r : Runs} (h : WithinR (VCal.ucount u) P Q r) : mem r n ↔ 0 ≤ n ∧ n < VCal.ucount u ∧ P n ∧ ¬ Q n := by
  obtain ⟨a, b, ha, hb, rfl⟩ := h
  have hc := VCal.ucount_pos u
  rw [mem_between2 ha.1 hb.2.1 hc.2]
  constructor
  · rintro ⟨h1, h2⟩
    have h0 : 0 ≤ n := Int.le_trans ha.1 h1
    have h3 : n < VCal.ucount u := Int.lt_of_lt_of_le h2 hb.2.1
    exact ⟨h0, h3, (ha.iff h0 h3).1 h1, fun q => by have := (hb.iff h0 h3).2 q; omega⟩
  · rintro ⟨h0, h3, h1, h2⟩
    refine ⟨(ha.iff h0 h3).2 h1, ?_⟩
    rcases Int.lt_or_le n b with e | e
    · exact e
    · exact absurd ((hb.iff h0 h3).1 e) h2

theorem within_is_sane {cnt : Int} {P Q : Int → Prop} {r : Runs} (h : WithinR cnt P Q r) : Sane r := by obtain ⟨a, b, _, _, rfl⟩ := h; exact make_sane _
theorem within_len {cnt : Int} {P Q : Int → Prop} {r : Runs} (h : WithinR cnt P Q r) : r.length ≤ 1 := by obtain ⟨a, b, _, _, rfl⟩ := h; exact make_length [(a, b - 1)]
end Go.Proofs.YtocmlcpcnjaaeaaGreatDoor.V


/- lustrumlaw16: the laws of the least and greatest days, as conditions on the program's functions alone. No condition of its own. -/
namespace Go.Proofs.YtocmlcpcnjaaeaaGreatDoor.V
open Go
set_option linter.unusedVariables false
set_option linter.unusedSimpArgs false

theorem w_succ63 {a : Nat} (h : a < 9223372036854775807) : w64 ((a : Int) + 1) = ((a + 1 : Nat) : Int) := by rw [w64_of (by omega)]; omega
theorem some_off {α : Type} {p : α} {s : α → Int} : (!decide ((match some p with | none => ((0 : Int), (9 : Int)) | some q => (s q, 0)).2 = 0)) = false := rfl

def exEnv : List Leaf := [(false, 3, [(1984, 1984)], []), (false, 1, [(23825, 23825)], [])]
theorem exEnv_all : allF exEnv = some (724641, 725158, 725006, 725187) := by decide +kernel

theorem exEnv_few : FewL 1000 exEnv := ⟨by decide, fun f hf => by
  rcases List.mem_cons.1 hf with e | hf
  · subst e; decide
  · rcases List.mem_cons.1 hf with e | hf
    · subst e; decide
    · cases hf⟩

theorem ok_lustrumref15_Few {l : List Leaf} (hl : l.length ≤ 9223372036854775807) : FnE bs n_lustrumref15_Few ((Shape.slice sApiLeaf).compsE l) .bool (fun r => r = true → l.length ≤ 12 ∧ FewL 40 l) := by
  refine ok_of (e_lustrumref15_Few l _) rfl ?_
  unfold c_lustrumref15_Few
  refine loopP_of (fun z : Int => ∃ k : Nat, z = k ∧ k ≤ l.length ∧ ∀ (i : Nat) f, i < k → l[i]? = some f → f.2.2.1.length ≤ 40 ∧ f.2.2.2.length ≤ 40) (fun z => l.length - z.toNat) ?_ ⟨0, rfl, Nat.zero_le _, fun i f h => by omega⟩
  rintro _ A ⟨k, rfl, hk, hi⟩ back
  refine cond_dec (fun h1 => ⟨⟨by omega, h1⟩, ?_⟩) fun h1 => ?_
  · have h1 : (k : Int) < l.length := h1
    have hk' : k < l.length := by omega
    have hg := List.getElem?_eq_getElem hk'
    generalize l[k] = f at hg
    rw [toNat_ofNat, rd_of (s := sApiLeaf) hg, w_succ63 (by omega)]
    refine callP_eq (ok_lustrumref14_Few (f := f)) (cond_not (fun h => fun q => by cases q) fun h => ?_)
    have hf : f.2.2.1.length ≤ 40 ∧ f.2.2.2.length ≤ 40 := by simpa using h
    refine back _ ⟨k + 1, rfl, hk', fun i g hik hg2 => ?_⟩ (by omega)
    by_cases e : i = k
    · subst e; rw [hg] at hg2; cases hg2; exact hf
    · exact hi i g (by omega) hg2
  · intro h
    have h : (l.length : Int) ≤ 12 := of_decide_eq_true h
    refine ⟨by omega, by omega, fun f hf => ?_⟩
    obtain ⟨i, hi2⟩ := List.getElem?_of_mem hf
    have := (List.getElem?_eq_some_iff.1 hi2).1
    exact hi i f (by have h1 : ¬ (k : Int) < l.length := h1; omega) hi2

theorem FewL.mono {n m : Nat} {l : List Leaf} (h : FewL n l) (hnm : n ≤ m) : FewL m l := ⟨h.1, fun f hf => by have := h.2 f hf; omega⟩

theorem few1000 {l : List Leaf} (h : FewL 40 l) : FewL 1000 l := h.mono (by decide)

theorem few_append {l m : List Leaf} (h : l.length ≤ 12 ∧ FewL 40 l) (k : m.length ≤ 12 ∧ FewL 40 m) : FewL 1000 (l ++ m) := by
  refine ⟨by rw [List.length_append]; omega, fun f hf => ?_⟩
  rcases List.mem_append.1 hf with e | e
  · have := h.2.2 f e; omega
  · have := k.2.2 f e; omega

theorem all_none_iff {l : List Leaf} : allF l = none ↔ ∀ f ∈ l, ofF f = none := by
  rcases all_spec l with ⟨h1, h2⟩ | ⟨q, h1, _, ⟨p, ⟨f, hf, hp⟩, _⟩, _⟩
  · exact ⟨fun _ => h2, fun _ => h1⟩
  · refine ⟨fun e => (by rw [h1] at e; cases e), fun h => ?_⟩
    rw [h f hf] at hp
    cases hp

open Classical in
theorem ok_denote_Has {l : List Leaf} {p : Int × Int} (hl : FewL 1000 l) : FnE bs n_denote_Has ((Shape.pair (.slice sApiLeaf) sRun).compsE (l, p)) .bool (· = decide (∃ f ∈ l, HasF f p)) := by
  refine ok_of (e_denote_Has (l, p) _) rfl ?_
  unfold c_denote_Has
  have hll := hl.1
  refine loopP_of (fun z : Int => ∃ k : Nat, z = k ∧ k ≤ l.length ∧ ∀ (i : Nat) f, i < k → l[i]? = some f → ¬ HasF f p) (fun z => l.length - z.toNat) ?_ ⟨0, rfl, Nat.zero_le _, fun i f h => by omega⟩
  rintro _ A ⟨k, rfl, hk, hi⟩ back
  refine cond_dec (fun h1 => ⟨⟨by omega, h1⟩, ?_⟩) fun h1 => ?_
  · have h1 : (k : Int) < l.length := h1
    have hk' : k < l.length := by omega
    have hg := List.getElem?_eq_getElem hk'
    generalize l[k] = f at hg
    have hfm := List.mem_of_getElem? hg
    have hf := hl.2 f hfm
    dsimp only
    rw [toNat_ofNat, rd_of (s := sApiLeaf) hg, w_succ (by omega)]
    refine callP_eq (ok_leaf_Has (f := f) (by omega) (by omega)) (cond_dec (fun h => ?_) fun h => ?_)
    · exact be (decide_eq_true ⟨f, hfm, h⟩).symm
    · refine back _ ⟨k + 1, rfl, hk', fun i g hik hg2 => ?_⟩ (by omega)
      by_cases e : i = k
      · subst e; rw [hg] at hg2; cases hg2; exact h
      · exact hi i g (by omega) hg2
  · refine be (decide_eq_false ?_).symm
    rintro ⟨f, hf, hh⟩
    obtain ⟨i, hi2⟩ := List.getElem?_of_mem hf
    have := (List.getElem?_eq_some_iff.1 hi2).1
    exact hi i f (by have h1 : ¬ (k : Int) < l.length := h1; omega) hi2 hh

end Go.Proofs.YtocmlcpcnjaaeaaGreatDoor.V


/- lustrumlaw17: the laws of the days that are possible, and certain, as conditions on the program's functions alone. No condition of its own. -/
namespace Go.Proofs.YtocmlcpcnjaaeaaGreatDoor.V
open Go
set_option linter.unusedVariables false
set_option linter.unusedSimpArgs false

def exCover : List Leaf := [(true, 0, [(724641, 724641)], [(724700, 724700), (724731, 724731), (724761, 724761)])]
theorem exCover_days : daysF exCover = [(724641, 724761)] := by decide +kernel
theorem exCover_sure : sureF exCover = [(724641, 724700)] := by decide +kernel
theorem exCover_all : (allF exCover).isSome = true := by decide +kernel
theorem exCover_few : FewL 1000 exCover := ⟨by decide, fun f hf => by
  rcases List.mem_cons.1 hf with e | hf
  · subst e; decide
  · cases hf⟩

theorem sure_length (l : List Leaf) : (sureF l).length ≤ 1 := by
  unfold sureF
  cases allF l with
  | none => exact Nat.zero_le _
  | some q => exact make_length [(q.2.1, q.2.2.1)]

theorem sure_sane (l : List Leaf) : Sane (sureF l) := by
  unfold sureF
  cases allF l with
  | none => trivial
  | some q => exact make_sane _

theorem days_sane (l : List Leaf) : Sane (daysF l) := make_sane _

theorem days_few {l : List Leaf} (h : l.length ≤ 24) (hl : FewL 1000 l) : (daysF l).length ≤ 24024 := by
  have h1 := days_length l fun f hf => (hl.2 f hf).1
  have h2 := make_length (daysL l)
  have : l.length * (1000 + 1) ≤ 24 * (1000 + 1) := Nat.mul_le_mul_right _ h
  unfold daysF
  omega

theorem sure_possible {l : List Leaf} {d : Int} (h : mem (sureF l) d) : ∃ f ∈ l, CoversF f d := by
  obtain ⟨⟨p, hp⟩, hall⟩ := mem_sure.1 h
  exact any_covers.2 ⟨p, hp, hall p hp⟩

theorem all_none_possible {l : List Leaf} {d : Int} (h : allF l = none) : ¬ ∃ f ∈ l, CoversF f d := by
  rintro ⟨f, hf, hc⟩
  obtain ⟨p, hp, _⟩ := covers_iff.1 hc
  rw [(all_none_iff.1 h) f hf] at hp
  cases hp

theorem days_ne {l : List Leaf} {q : Q4} (h : allF l = some q) : daysF l ≠ [] ∧ loF (daysF l) = q.1 ∧ hiF (daysF l) = q.2.2.2 := by
  rcases all_spec l with ⟨h1, _⟩ | ⟨q', h1, h0, ⟨p1, c1, d1⟩, _, _, ⟨p4, c4, d4⟩⟩
  · rw [h1] at h; cases h
  · rw [h1] at h
    cases h
    have m1 : mem (daysF l) q.1 := mem_daysF.2 (any_covers.2 ⟨p1, c1, by omega, by have := h0 p1 c1; omega⟩)
    have m4 : mem (daysF l) q.2.2.2 := mem_daysF.2 (any_covers.2 ⟨p4, c4, by have := h0 p4 c4; omega, by omega⟩)
    have hne : daysF l ≠ [] := fun e => by rw [e] at m1; exact mem_nil m1
    have b1 := mem_between (days_sane l) m1
    have b4 := mem_between (days_sane l) m4
    obtain ⟨x, hx, x1, x2⟩ := any_covers.1 (mem_daysF.1 (mem_lo (days_sane l) hne))
    obtain ⟨y, hy, y1, y2⟩ := any_covers.1 (mem_daysF.1 (mem_hi (days_sane l) hne))
    have := h0 x hx
    have := h0 y hy
    exact ⟨hne, by omega, by omega⟩

theorem days_nil {l : List Leaf} (h : allF l = none) : daysF l = [] :=
  sane_nil (days_sane l) fun n hn => all_none_possible h (mem_daysF.1 hn)

theorem any_append {l m : List Leaf} {p : Int × Int} : anyP (l ++ m) p ↔ anyP l p ∨ anyP m p := by
  unfold anyP
  constructor
  · rintro ⟨f, hf, h⟩
    rcases List.mem_append.1 hf with e | e
    · exact .inl ⟨f, e, h⟩
    · exact .inr ⟨f, e, h⟩
  · rintro (⟨f, hf, h⟩ | ⟨f, hf, h⟩)
    · exact ⟨f, List.mem_append_left _ hf, h⟩
    · exact ⟨f, List.mem_append_right _ hf, h⟩

open Classical in
/-- More families: what is certain, and possible. -/
theorem more_bools {l m : List Leaf} {d : Int} {nl nm : Bool} (hnl : nl = true ↔ ¬ ∃ p, anyP l p) (hnm : nm = true ↔ ¬ ∃ p, anyP m p) :
    decide (∃ f ∈ l ++ m, CoversF f d) = (decide (∃ f ∈ l, CoversF f d) || decide (∃ f ∈ m, CoversF f d)) ∧ decide (mem (sureF (l ++ m)) d) = (decide (mem (sureF l) d) && decide (mem (sureF m) d) || decide (mem (sureF l) d) && nm || decide (mem (sureF m) d) && nl) := by
  constructor
  · rw [← Bool.decide_or]
    refine decide_eq_decide.2 ?_
    constructor
    · rintro ⟨f, hf, h⟩
      rcases List.mem_append.1 hf with e | e
      · exact .inl ⟨f, e, h⟩
      · exact .inr ⟨f, e, h⟩
    · rintro (⟨f, hf, h⟩ | ⟨f, hf, h⟩)
      · exact ⟨f, List.mem_append_left _ hf, h⟩
      · exact ⟨f, List.mem_append_right _ hf, h⟩
  · rw [Bool.eq_iff_iff, Bool.or_eq_true, Bool.or_eq_true, Bool.and_eq_true, Bool.and_eq_true, Bool.and_eq_true, decide_eq_true_eq, decide_eq_true_eq, decide_eq_true_eq, hnl, hnm, mem_sure, mem_sure, mem_sure]
    simp only [any_append]
    constructor
    · rintro ⟨_, h⟩
      by_cases el : ∃ p, anyP l p
      · by_cases em : ∃ p, anyP m p
        · exact .inl (.inl ⟨⟨el, fun p hp => h p (.inl hp)⟩, em, fun p hp => h p (.inr hp)⟩)
        · exact .inl (.inr ⟨⟨el, fun p hp => h p (.inl hp)⟩, em⟩)
      · by_cases em : ∃ p, anyP m p
        · exact .inr ⟨⟨em, fun p hp => h p (.inr hp)⟩, el⟩
        · rename_i q
          obtain ⟨p, hp | hp⟩ := q
          · exact absurd ⟨p, hp⟩ el
          · exact absurd ⟨p, hp⟩ em
    · rintro ((⟨⟨⟨p, hp⟩, a⟩, _, b⟩ | ⟨⟨⟨p, hp⟩, a⟩, b⟩) | ⟨⟨⟨p, hp⟩, a⟩, b⟩)
      · exact ⟨⟨p, .inl hp⟩, fun p hp => hp.elim (a p) (b p)⟩
      · exact ⟨⟨p, .inl hp⟩, fun p hp => hp.elim (a p) fun q => absurd ⟨p, q⟩ b⟩
      · exact ⟨⟨p, .inr hp⟩, fun p hp => hp.elim (fun q => absurd ⟨p, q⟩ b) (a p)⟩

end Go.Proofs.YtocmlcpcnjaaeaaGreatDoor.V


/- slices.Grow, slices.Concat, sets.Union: their contracts. No condition of its own. -/
namespace Go.Proofs.YtocmlcpcnjaaeaaGreatDoor.V
open Go Go.RowKit Go.Shelf Go.Proofs
set_option linter.unusedVariables false
set_option linter.unusedSimpArgs false

def growRen : Go.Shelf.Ren := ⟨fun _ => 205, fun t => if Nat.beq t 25 then 75 else if Nat.beq t 22 then 32 else if Nat.beq t 20 then 20 else if Nat.beq t 9 then 9 else if Nat.beq t 4 then 4 else if Nat.beq t 3 then 3 else 0, fun x => x⟩

theorem growBears : Bears Tryz.prog (growRen.f 4) (Body8.n4 growRen) := ⟨ "slices.Grow[[]lustrum/api.Run,lustrum/api.Run]", by decide, by kernel_rfl⟩
theorem growMixed : Tryz.prog.follows .mixedOrders = true := by kernel_rfl
theorem growLays : Lays8.n4 Tryz.prog growRen where
  mixed := growMixed
  f4 := growBears
  t0 := Tryz.underlying0
  a0 := Tryz.isAgg0
  z0 := Tryz.sizeOf0
  v0 := Tryz.zeroValue0
  t3 := Tryz.underlying3
  a3 := Tryz.isAgg3
  z3 := Tryz.sizeOf3
  v3 := Tryz.zeroValue3
  t4 := Tryz.underlying4
  a4 := Tryz.isAgg4
  z4 := Tryz.sizeOf4
  v4 := Tryz.zeroValue4
  t9 := Tryz.underlying9
  a9 := Tryz.isAgg9
  z9 := Tryz.sizeOf9
  v9 := Tryz.zeroValue9
  t20 := Tryz.underlying20
  a20 := Tryz.isAgg20
  z20 := Tryz.sizeOf20
  v20 := Tryz.zeroValue20
  t22 := Tryz.underlying32
  a22 := Tryz.isAgg32
  z22 := Tryz.sizeOf32
  v22 := Tryz.zeroValue32

theorem growInfoB : (match Tryz.prog.info? 75 with | some i => Nat.beq i.size 2 && Nat.beq i.bytes 16 && (match i.zero with | some z => Nat.beq z.cells.size 2 | none => false) | none => false) = true := by kernel_rfl
theorem growInfo : ∃ i z, Tryz.prog.info? 75 = some i ∧ i.zero = some z ∧ i.size = 2 ∧ i.bytes = 16 ∧ z.cells.size = 2 := by
  have h := growInfoB
  split at h
  · rename_i i hi
    split at h
    · rename_i z hz
      simp only [Bool.and_eq_true] at h
      exact ⟨i, z, hi, hz, beq_eq h.1.1, beq_eq h.1.2, beq_eq h.2⟩
    · simp at h
  · cases h

theorem growBytes : bs.P.bytesOf 75 = 16 := by kernel_rfl
theorem growBody : ∃ c, (Body8.n4 growRen).body = some c := ⟨_, rfl⟩

theorem fnGrow : FnGrow bs 205 75 sRun := by
  obtain ⟨i, z, hi, hz, h1, h2, h3⟩ := growInfo
  refine ⟨?_, fun n w h0 hb => ?_⟩
  · obtain ⟨nm, g1, g2⟩ := growBears
    obtain ⟨c, hc⟩ := growBody
    exact ⟨_, c, g2, hc, g1⟩
  · rw [growBytes] at hb
    obtain ⟨m, rfl⟩ : ∃ m : Nat, n = m := ⟨n.toNat, by omega⟩
    have hb : m * 16 ≤ 140737488355328 := hb
    rcases Nat.eq_zero_or_pos m with e | e
    · subst e
      refine (Any8.slices_Grow_room growLays none 0 0 0 w (by omega) (by omega) (by omega) (by omega)).mono fun x w' ⟨q1, q2⟩ => ?_
      subst q2
      exact ⟨_, q1, ⟨rfl, .inl ⟨rfl, rfl⟩⟩, Below.refl _ _, fun b hb => by cases hb⟩
    · refine (Any8.slices_Grow_grow growLays i z hi hz (by omega) none 0 0 m [] w (by omega) (by omega) (by rw [h2]; omega) (by omega) (by simp) (fun _ => rfl) (fun a ha => by cases ha)).mono fun x w' ⟨q1, q2⟩ => ?_
      subst q2
      refine ⟨_, q1, ⟨rfl, .inr ⟨_, _, _, rfl, Nat.le_refl _, Array.getElem?_push_size, Nat.zero_le _, ?_, ?_, rfl⟩⟩, ((Below.refl _ _).drew).alloc (Nat.le_refl _) _, fun b hb => ?_⟩
      · exact grownCap_le_maxLen w _ _ _ (by unfold maxLen; omega)
      · have hg := grownCap_ge w (0 + m) 0 (growRen.t 25)
        show (_ : Nat) = _ * 2
        simp only [Array.size_append, size_zeroCells, h3]
        simp only [List.size_toArray, List.length_nil]
        omega
      · cases hb; exact Nat.le_refl _

theorem cat1 : 2 - (w64 ((0 : Int) + 1)).toNat < 2 - (0 : Int).toNat := by decide
theorem cat2 : 2 - (w64 ((1 : Int) + 1)).toNat < 2 - (1 : Int).toNat := by decide
theorem ok_slices_Concat {x y : Runs} (h : x.length + y.length < 65536) : FnE bs n_slices_Concat ((Shape.slice (.slice sRun)).compsE [x, y]) (.slice sRun) (· = x ++ y) := by
  refine ok_han (e_slices_Concat [x, y] _) rfl (HanOK.ofList [(205, .grow 75 sRun)] rfl rfl ⟨fnGrow, trivial⟩) ?_
  unfold c_slices_Concat
  refine loopP_of (fun z : Int × Int => z = (0, 0) ∨ z = ((x.length : Int), 1) ∨ z = (((x.length + y.length : Nat) : Int), 2)) (fun z => 2 - z.2.toNat) ?_ (.inl rfl)
  rintro _ A hz back
  have w1 : ∀ n : Nat, n < 131072 → w64 (n : Int) = n := fun n h => w64_of (by omega)
  rcases hz with rfl | rfl | rfl
  · refine cond_yes rfl ⟨⟨by dsimp only; omega, by dsimp only [List.length_cons, List.length_nil]; omega⟩, ?_⟩
    have e : w64 ((0 : Int) + ((rd (.slice sRun) [x, y] (0 : Int).toNat).length : Int)) = x.length := by rw [Int.zero_add]; exact w1 _ (by show x.length < _; omega)
    refine cond_no (decide_eq_false ?_) ?_
    · rw [e]; omega
    · rw [e]; exact back _ (.inr (.inl rfl)) cat1
  · refine cond_yes rfl ⟨⟨by dsimp only; omega, by dsimp only [List.length_cons, List.length_nil]; omega⟩, ?_⟩
    have e : w64 ((x.length : Int) + ((rd (.slice sRun) [x, y] (1 : Int).toNat).length : Int)) = ((x.length + y.length : Nat) : Int) := by
      show w64 ((x.length : Int) + (y.length : Int)) = _
      rw [← Int.natCast_add]; exact w1 _ (by omega)
    refine cond_no (decide_eq_false ?_) ?_
    · rw [e]; omega
    · rw [e]; exact back _ (.inr (.inr rfl)) cat2
  · refine cond_no rfl ⟨⟨by dsimp only; omega, by dsimp only; rw [toNat_ofNat]; omega⟩, ?_⟩
    refine loopP_of (fun z : Unit × Int × Runs => z = ((), 0, []) ∨ z = ((), 1, x) ∨ z = ((), 2, x ++ y)) (fun z => 2 - z.2.1.toNat) ?_ (.inl rfl)
    rintro _ A hz back
    rcases hz with rfl | rfl | rfl
    · exact cond_yes rfl ⟨⟨by dsimp only; omega, by dsimp only [List.length_cons, List.length_nil]; omega⟩, by show (0 + x.length) * 16 ≤ _; omega, back _ (.inr (.inl rfl)) cat1⟩
    · exact cond_yes rfl ⟨⟨by dsimp only; omega, by dsimp only [List.length_cons, List.length_nil]; omega⟩, by show (x.length + y.length) * 16 ≤ _; omega, back _ (.inr (.inr rfl)) cat2⟩
    · exact cond_no rfl rfl

theorem ok_sets_Union {x y : Runs} (h : x.length + y.length < 65536) : FnE bs n_sets_Union ((Shape.pair (.slice sRun) (.slice sRun)).compsE (x, y)) (.slice sRun) (· = makeF (x ++ y)) := by
  refine ok_of (e_sets_Union (x, y) _) rfl ?_
  unfold c_sets_Union
  exact callP_eq (ok_slices_Concat h) (callP_eq (ok_runs_Make (by rw [List.length_append]; exact h)) rfl)
end Go.Proofs.YtocmlcpcnjaaeaaGreatDoor.V


/- lustrumlaw14.LeafMore as a condition on the program's functions. No condition of its own. -/
namespace Go.Proofs.YtocmlcpcnjaaeaaGreatDoor.V
open Go
set_option linter.unusedVariables false
set_option linter.unusedSimpArgs false

theorem within_of {s : Runs} {m : Int} (h : Sane s) (k : ∀ n, mem s n → 0 ≤ n ∧ n ≤ m) : Within s m := by
  refine ⟨h, ?_⟩
  by_cases e : s = []
  · exact .inl e
  · exact .inr ⟨(k _ (mem_lo h e)).1, (k _ (mem_hi h e)).2⟩

theorem mem_union {a b : Runs} (ha : Sane a) (hb : Sane b) {n : Int} : mem (makeF (a ++ b)) n ↔ mem a n ∨ mem b n := by
  rw [mem_make]
  unfold memL
  rw [mem_append]
  constructor
  · exact fun h => h.2.2
  · rintro (h | h)
    · have := mem_lim ha h; exact ⟨this.1, this.2, .inl h⟩
    · have := mem_lim hb h; exact ⟨this.1, this.2, .inr h⟩

theorem within_union {a b : Runs} {m : Int} (ha : Within a m) (hb : Within b m) : Within (makeF (a ++ b)) m :=
  within_of (make_sane _) fun n hn => ((mem_union ha.1 hb.1).1 hn).elim (fun h => Within.bounds ha h) fun h => Within.bounds hb h

theorem of_none {f : Leaf} : ofF f = none ↔ ∀ p, ¬ HasF f p := by
  rw [← fam_some]
  constructor
  · intro h p hp
    have := fam_has hp
    rw [h] at this
    cases this
  · intro h
    cases e : famPairs (ofF f) with
    | nil => rfl
    | cons p l => exact absurd (fam_pair (p := p) (by rw [e]; exact List.mem_cons_self)).2.1 (h p)

theorem covers_of {f g : Leaf} (h : ∀ p, HasF f p → HasF g p) {d : Int} (k : CoversF f d) : CoversF g d := by
  obtain ⟨p, hp, h1, h2⟩ := fam_covers k
  have hg := fam_has (h p (fam_pair hp).2.1)
  exact (fam_pair hg).2.2 d h1 h2

theorem more_span {A A' B B' : Runs} (hf : LeafSane (true, 0, A, B)) (hg : LeafSane (true, 0, A', B')) :
    LeafSane (true, 0, makeF (A ++ A'), B) ∧ LeafSane (true, 0, A', B) ∧ ∀ p, HasF (true, 0, makeF (A ++ A'), B) p ↔ HasF (true, 0, A, B) p ∨ HasF (true, 0, A', B) p := by
  have hf' := hf
  have hg' := hg
  unfold LeafSane at hf' hg'
  rw [if_pos rfl] at hf' hg'
  have h1 : LeafSane (true, 0, makeF (A ++ A'), B) := by unfold LeafSane; rw [if_pos rfl]; exact ⟨rfl, within_union hf'.2.1 hg'.2.1, hf'.2.2⟩
  have h2 : LeafSane (true, 0, A', B) := by unfold LeafSane; rw [if_pos rfl]; exact ⟨rfl, hg'.2.1, hf'.2.2⟩
  refine ⟨h1, h2, fun p => ?_⟩
  rw [has_span h1 rfl, has_span hf rfl, has_span h2 rfl]
  dsimp only
  rw [mem_union hf'.2.1.1 hg'.2.1.1]
  constructor
  · rintro ⟨a, b | b, c⟩
    · exact .inl ⟨a, b, c⟩
    · exact .inr ⟨a, b, c⟩
  · rintro (⟨a, b, c⟩ | ⟨a, b, c⟩)
    · exact ⟨a, .inl b, c⟩
    · exact ⟨a, .inr b, c⟩

theorem more_units {u : Int} {A A' B B' : Runs} (hf : LeafSane (false, u, A, B)) (hg : LeafSane (false, u, A', B')) :
    LeafSane (false, u, makeF (A ++ A'), B) ∧ LeafSane (false, u, A', B) ∧ ∀ p, HasF (false, u, makeF (A ++ A'), B) p ↔ HasF (false, u, A, B) p ∨ HasF (false, u, A', B) p := by
  have hf' := hf
  have hg' := hg
  unfold LeafSane at hf' hg'
  rw [if_neg Bool.false_ne_true] at hf' hg'
  have h1 : LeafSane (false, u, makeF (A ++ A'), B) := by unfold LeafSane; rw [if_neg Bool.false_ne_true]; exact ⟨hf'.1, within_union hf'.2.1 hg'.2.1, hf'.2.2⟩
  have h2 : LeafSane (false, u, A', B) := by unfold LeafSane; rw [if_neg Bool.false_ne_true]; exact ⟨hf'.1, hg'.2.1, hf'.2.2⟩
  refine ⟨h1, h2, fun p => ?_⟩
  rw [has_units h1 rfl, has_units hf rfl, has_units h2 rfl]
  dsimp only
  simp only [mem_union hf'.2.1.1 hg'.2.1.1]
  constructor
  · rintro ⟨i, a, b | b, c⟩
    · exact .inl ⟨i, a, b, c⟩
    · exact .inr ⟨i, a, b, c⟩
  · rintro (⟨i, a, b, c⟩ | ⟨i, a, b, c⟩)
    · exact ⟨i, a, .inl b, c⟩
    · exact ⟨i, a, .inr b, c⟩

/-- The last part of the law, whatever the leaves are: three of them, h having what f or x has. -/
theorem more_rest {f h x : Leaf} {p : Int × Int} (hl : ∀ l ∈ [f, h, x], l.2.2.1.length ≤ 1000 ∧ l.2.2.2.length ≤ 1000) (hs : LeafSane h) (hh : ∀ p, HasF h p ↔ HasF f p ∨ HasF x p) :
    ∃ a b e1 e2 c1 c2 : Bool, (c1 = true → c2 = true) ∧ FnE bs n_leaf_Sane (sApiLeaf.compsE h) .bool (· = true) ∧ FnE bs n_leaf_Has ((Shape.pair sApiLeaf sRun).compsE (h, p)) .bool (· = (a || b)) ∧ FnE bs n_leaf_Has ((Shape.pair sApiLeaf sRun).compsE (f, p)) .bool (· = a) ∧ FnE bs n_leaf_Has ((Shape.pair sApiLeaf sRun).compsE (x, p)) .bool (· = b)
      ∧ FnE bs n_leaf_Empty (sApiLeaf.compsE h) .bool (· = (e1 && e2)) ∧ FnE bs n_leaf_Empty (sApiLeaf.compsE f) .bool (· = e1) ∧ FnE bs n_leaf_Empty (sApiLeaf.compsE x) .bool (· = e2) ∧ FnE bs n_leaf_Covers ((Shape.pair sApiLeaf (.int .i64)).compsE (f, p.1)) .bool (· = c1) ∧ FnE bs n_leaf_Covers ((Shape.pair sApiLeaf (.int .i64)).compsE (h, p.1)) .bool (· = c2) := by
  classical
  have l1 := hl f (by simp)
  have l2 := hl h (by simp)
  have l3 := hl x (by simp)
  refine ⟨decide (HasF f p), decide (HasF x p), (ofF f).isNone, (ofF x).isNone, decide (CoversF f p.1), decide (CoversF h p.1), ?_, ?_, ?_, ?_, ?_, ?_, ok_leaf_Empty (by omega) (by omega), ok_leaf_Empty (by omega) (by omega), ?_, ?_⟩
  · exact fun q => decide_eq_true (covers_of (fun p hp => (hh p).2 (.inl hp)) (of_decide_eq_true q))
  · exact FnE.mono (ok_leaf_Sane (by omega) (by omega)) fun r hr => by rw [hr]; exact decide_eq_true hs
  · exact FnE.mono (ok_leaf_Has (by omega) (by omega)) fun r hr => by
      rw [hr]
      have : @decide (HasF h p) (Classical.propDecidable _) = (decide (HasF f p) || decide (HasF x p)) := by simp only [hh, Bool.decide_or]
      exact this
  · exact FnE.mono (ok_leaf_Has (by omega) (by omega)) fun r hr => by rw [hr]
  · exact FnE.mono (ok_leaf_Has (by omega) (by omega)) fun r hr => by rw [hr]
  · refine FnE.mono (ok_leaf_Empty (by omega) (by omega)) fun r hr => ?_
    rw [hr]
    have : (ofF h).isNone = ((ofF f).isNone && (ofF x).isNone) := by
      rw [Bool.eq_iff_iff, Bool.and_eq_true, Option.isNone_iff_eq_none, Option.isNone_iff_eq_none, Option.isNone_iff_eq_none, of_none, of_none, of_none]
      exact ⟨fun q => ⟨fun p hp => q p ((hh p).2 (.inl hp)), fun p hp => q p ((hh p).2 (.inr hp))⟩, fun q p hp => ((hh p).1 hp).elim (q.1 p) (q.2 p)⟩
    exact this
  · exact FnE.mono (ok_leaf_Covers (by omega) (by omega)) fun r hr => by rw [hr]
  · exact FnE.mono (ok_leaf_Covers (by omega) (by omega)) fun r hr => by rw [hr]

end Go.Proofs.YtocmlcpcnjaaeaaGreatDoor.V


/- lustrumlaw07: the laws of units' days, as conditions on the program's functions alone. No condition of its own. -/
namespace Go.Proofs.YtocmlcpcnjaaeaaGreatDoor.V
open Go
set_option linter.unusedVariables false
set_option linter.unusedSimpArgs false

theorem exMarks : marksF VCal.ufirst 1 [(24000, 24001)] = ([(730485, 730485), (730516, 730516)], true) := by decide +kernel

theorem from_is {cnt r k : Int} {P : Int → Prop} (h : FromR cnt P r) (h0 : 0 ≤ k) (h1 : k < cnt) (hp : P k) (hn : k = 0 ∨ ¬ P (k - 1)) : r = k := by
  have a := (h.iff h0 h1).2 hp
  rcases hn with e | e
  · have := h.1; omega
  · rcases Int.lt_or_le 0 k with q | q
    · have : ¬ r ≤ k - 1 := fun x => e ((h.iff (by omega) (by omega)).1 x)
      omega
    · have := h.1; omega

theorem exInside {r : Runs} (h : WithinR (VCal.ucount 3) (fun i => 730485 ≤ VCal.ufirst 3 i) (fun i => 731031 < VCal.ulast 3 i) r) : r = [(2000, 2000)] := by
  obtain ⟨a, b, ha, hb, rfl⟩ := h
  have e1 : a = 2000 := from_is ha (by decide) (by decide +kernel) (by decide +kernel) (.inr (by decide +kernel))
  have e2 : b = 2001 := from_is hb (by decide) (by decide +kernel) (by decide +kernel) (.inr (by decide +kernel))
  subst e1 e2
  decide +kernel

theorem exTouch {r : Runs} (h : WithinR (VCal.ucount 3) (fun i => 5 ≤ VCal.ulast 3 i) (fun i => 6 < VCal.ufirst 3 i) r) : r = [(0, 0)] := by
  obtain ⟨a, b, ha, hb, rfl⟩ := h
  have e1 : a = 0 := from_is ha (by decide) (by decide +kernel) (by decide +kernel) (.inl rfl)
  have e2 : b = 1 := from_is hb (by decide) (by decide +kernel) (by decide +kernel) (.inr (by decide +kernel))
  subst e1 e2
  decide +kernel

theorem saneB {s : Runs} (hl : s.length ≤ 1000000000) (h : Sane s) : FnE bs n_runs_Sane ((Shape.slice sRun).compsE s) .bool (· = true) := FnE.mono (ok_runs_Sane hl) fun r hr => by rw [hr]; exact decide_eq_true h

theorem hasB {s : Runs} {n : Int} (hl : s.length < 65536) (h : Sane s) : FnE bs n_runs_Has ((Shape.pair (.slice sRun) (.int .i64)).compsE (s, n)) .bool (· = decide (mem s n)) := by
  have := ok_runs_HasA (s := s) (n := n) hl
  rw [make_self h] at this
  exact this

theorem cover_of {u : Int} {s : Runs} {a b : Runs} (h : ∀ i, mem (makeF s) i ↔ mem (makeF a) i ∨ mem (makeF b) i) : coverF u s = makeF (coverF u a ++ coverF u b) := by
  refine sane_ext (cover_sane u s) (make_sane _) fun d => ?_
  rw [mem_union (cover_sane u a) (cover_sane u b), mem_cover, mem_cover, mem_cover]
  constructor
  · rintro ⟨i, h1, h2⟩
    exact ((h i).1 h2).elim (fun q => .inl ⟨i, h1, q⟩) fun q => .inr ⟨i, h1, q⟩
  · rintro (⟨i, h1, h2⟩ | ⟨i, h1, h2⟩)
    · exact ⟨i, h1, (h i).2 (.inl h2)⟩
    · exact ⟨i, h1, (h i).2 (.inr h2)⟩

end Go.Proofs.YtocmlcpcnjaaeaaGreatDoor.V


/- lustrumlaw07.ImageEnds as a condition on the program's functions. No condition of its own. -/
namespace Go.Proofs.YtocmlcpcnjaaeaaGreatDoor.V
open Go
set_option linter.unusedVariables false
set_option linter.unusedSimpArgs false

theorem countF_singles : ∀ l : List Int, countF (singles l) = l.length
  | [] => rfl
  | n :: l => by
    show (n - n + 1) + countF (singles l) = _
    rw [countF_singles l, List.length_cons]
    omega

/-- Is it told? -/
def toldF (u : Int) (s : Runs) : Bool := if u = 0 then !decide (400 < (unitsF u s).length) else !decide (400 < (nums (unitsF u s)).length)

theorem marks_told (g : Int → Int → Int) (u : Int) (s : Runs) : (marksF g u s).2 = toldF u s ∧ (toldF u s = false → (marksF g u s).1 = []) := by
  unfold marksF toldF
  split
  · by_cases h : 400 < (unitsF u s).length
    · rw [if_pos h, decide_eq_true h]; exact ⟨rfl, fun _ => rfl⟩
    · rw [if_neg h, decide_eq_false h]; exact ⟨rfl, fun q => by cases q⟩
  · by_cases h : 400 < (nums (unitsF u s)).length
    · rw [if_pos h, decide_eq_true h]; exact ⟨rfl, fun _ => rfl⟩
    · rw [if_neg h, decide_eq_false h]; exact ⟨rfl, fun q => by cases q⟩

theorem marks_count {g : Int → Int → Int} (hg : DayIn g) {u : Int} {s l : Runs} (h : marksF g u s = (l, true)) : countF l = countF (unitsF u s) := by
  unfold marksF at h
  split at h
  · split at h
    · cases h
    · cases h; rfl
  · rename_i e
    split at h
    · cases h
    · cases h
      rw [marks_eq hg e, countF_singles, List.length_map, nums_count (units_sane u s)]

/-- Is there a unit of a set that a day is in, and does it begin, or end, there? -/
def atB (g : Int → Int → Int) (u : Int) (s : Runs) (d : Int) : Bool := match VCal.uof u d with
  | some n => decide (mem (makeF s) n) && decide (g u n = d)
  | none => false

theorem marks_at {g : Int → Int → Int} (hg : DayIn g) {u : Int} {s l : Runs} (h : marksF g u s = (l, true)) {d : Int} : decide (mem l d) = atB g u s d := by
  rw [Bool.eq_iff_iff, decide_eq_true_iff, mem_marks hg h]
  unfold atB
  constructor
  · rintro ⟨i, h1, h2, h3, h4⟩
    have b := hg.is h2 h3
    have : VCal.uof u d = some i := VCal.uof_some.2 ⟨h2, h3, by omega, by omega⟩
    rw [this]
    simp [h1, h4]
  · cases hu : VCal.uof u d with
    | none => intro h; cases h
    | some n =>
      intro h
      simp only [Bool.and_eq_true, decide_eq_true_eq] at h
      have := VCal.uof_some.1 hu
      exact ⟨n, h.1, this.1, this.2.1, h.2⟩

end Go.Proofs.YtocmlcpcnjaaeaaGreatDoor.V


/- lustrumlaw14.LeafEnds as a condition on the program's functions. No condition of its own. -/
namespace Go.Proofs.YtocmlcpcnjaaeaaGreatDoor.V
open Go
set_option linter.unusedVariables false
set_option linter.unusedSimpArgs false

def knownF (s : Runs) : Runs × Bool := if 400 < s.length then ([], false) else (s, true)

theorem ok_leaf_known {s : Runs} (hl : s.length < 65536) (h : Sane s) : FnE bs n_leaf_known ((Shape.slice sRun).compsE s) (.tup (.pair (.slice sRun) .bool)) (· = knownF s) := by
  refine ok_of (e_leaf_known s _) rfl ?_
  unfold c_leaf_known knownF
  refine callP_eq (ok_sets_WideA hl) ?_
  rw [make_self h]
  exact cond_dec (fun q => (if_pos q).symm) fun q => (if_neg q).symm

/-- The days on which a leaf's pairs start, and end. -/
def startsL (f : Leaf) : Runs × Bool := match ofF f with
  | none => ([], true)
  | some (.inl (u, s)) => marksF VCal.ufirst u s
  | some (.inr (a, b)) => knownF a
def endsL (f : Leaf) : Runs × Bool := match ofF f with
  | none => ([], true)
  | some (.inl (u, s)) => marksF VCal.ulast u s
  | some (.inr (a, b)) => knownF b

theorem span_lens {f : Leaf} {a b : Runs} (h : ofF f = some (.inr (a, b))) : a.length ≤ f.2.2.1.length ∧ b.length ≤ f.2.2.2.length := by
  obtain ⟨_, _, _, _, _, _, _, rfl, rfl⟩ := of_span h
  exact ⟨clip_length _ _ _, clip_length _ _ _⟩

theorem ok_leaf_Starts {f : Leaf} (hla : f.2.2.1.length < 65536) (hlb : f.2.2.2.length < 65536) : FnE bs n_leaf_Starts (sApiLeaf.compsE f) (.tup (.pair (.slice sRun) .bool)) (· = startsL f) := by
  refine ok_of (e_leaf_Starts f _) rfl ?_
  unfold c_leaf_Starts startsL
  refine callP_eq (ok_leaf_of (by dsimp only; omega) (by dsimp only; omega)) ?_
  rw [show ((f.1, f.2.1, f.2.2.1, f.2.2.2) : Leaf) = f from rfl]
  rcases ho : ofF f with _ | ⟨u, s⟩ | ⟨a, b⟩
  · exact rfl
  · obtain ⟨h1, h2, rfl, rfl, h5, h6, h7⟩ := of_units ho
    exact callP_eq (ok_image_Starts hla) rfl
  · have hs := span_ends ho
    have hl := span_lens ho
    exact callP_eq (ok_leaf_known (by dsimp only; omega) hs.1) rfl

theorem ok_leaf_Ends {f : Leaf} (hla : f.2.2.1.length < 65536) (hlb : f.2.2.2.length < 65536) : FnE bs n_leaf_Ends (sApiLeaf.compsE f) (.tup (.pair (.slice sRun) .bool)) (· = endsL f) := by
  refine ok_of (e_leaf_Ends f _) rfl ?_
  unfold c_leaf_Ends endsL
  refine callP_eq (ok_leaf_of (by dsimp only; omega) (by dsimp only; omega)) ?_
  rw [show ((f.1, f.2.1, f.2.2.1, f.2.2.2) : Leaf) = f from rfl]
  rcases ho : ofF f with _ | ⟨u, s⟩ | ⟨a, b⟩
  · exact rfl
  · obtain ⟨h1, h2, rfl, rfl, h5, h6, h7⟩ := of_units ho
    exact callP_eq (ok_image_Ends hla) rfl
  · have hs := span_ends ho
    have hl := span_lens ho
    exact callP_eq (ok_leaf_known (by dsimp only; omega) hs.2.1) rfl

theorem known_spec {s l : Runs} {b : Bool} (hs : Sane s) (h : knownF s = (l, b)) : Sane l ∧ l.length ≤ 400 ∧ (b = true → l = s) ∧ (b = false → l = []) := by
  unfold knownF at h
  split at h
  · cases h; exact ⟨trivial, Nat.zero_le _, fun q => (by cases q), fun _ => rfl⟩
  · cases h; exact ⟨hs, by omega, fun _ => rfl, fun q => by cases q⟩

theorem marks_nil {g : Int → Int → Int} {u : Int} {s l : Runs} (h : marksF g u s = (l, false)) : l = [] := by
  have := marks_told g u s
  rw [h] at this
  exact this.2 this.1.symm

theorem starts_spec {f : Leaf} {l : Runs} {b : Bool} (h : startsL f = (l, b)) : Sane l ∧ l.length ≤ 400 ∧ (b = false → l = []) ∧ (b = true → ∀ d, mem l d ↔ ∃ p ∈ famPairs (ofF f), p.1 = d) := by
  unfold startsL at h
  rcases ho : ofF f with _ | ⟨u, s⟩ | ⟨x, y⟩
  · rw [ho] at h
    cases h
    exact ⟨trivial, Nat.zero_le _, fun _ => rfl, fun _ d => ⟨fun q => (mem_nil q).elim, fun ⟨p, hp, _⟩ => (by cases hp)⟩⟩
  · rw [ho] at h
    dsimp only at h
    obtain ⟨h1, h2, h3, h4, h5, h6, h7⟩ := of_units ho
    refine ⟨marks_is_sane h, marks_len h, fun q => (by subst q; exact marks_nil h), fun q d => ?_⟩
    subst q
    rw [mem_marks dayIn_first h, make_self h6.1]
    show _ ↔ ∃ p ∈ unitPairs u s, p.1 = d
    unfold unitPairs
    constructor
    · rintro ⟨i, q1, q2, q3, q4⟩
      exact ⟨_, List.mem_map.2 ⟨i, mem_nums.2 q1, rfl⟩, q4⟩
    · rintro ⟨p, hp, rfl⟩
      obtain ⟨i, hi, rfl⟩ := List.mem_map.1 hp
      have b := Within.bounds h6 (mem_nums.1 hi)
      exact ⟨i, mem_nums.1 hi, b.1, by omega, rfl⟩
  · rw [ho] at h
    dsimp only at h
    obtain ⟨sa, sb, na, nb, l1, l2⟩ := span_ends ho
    obtain ⟨k1, k2, k3, k4⟩ := known_spec sa h
    refine ⟨k1, k2, k4, fun q d => ?_⟩
    rw [k3 q]
    show _ ↔ ∃ p ∈ spanPairs x y, p.1 = d
    constructor
    · intro hd
      obtain ⟨_, _, _, _, _, _, _, e1, _⟩ := of_span ho
      have h1 := hd
      rw [e1] at h1
      have := (mem_clip.1 h1).2.2
      exact ⟨(d, hiF y), span_pair sa sb hd (mem_hi sb nb) (by omega), rfl⟩
    · rintro ⟨p, hp, rfl⟩
      exact (pair_span hp).1

theorem ends_spec {f : Leaf} {l : Runs} {b : Bool} (h : endsL f = (l, b)) : Sane l ∧ l.length ≤ 400 ∧ (b = false → l = []) ∧ (b = true → ∀ d, mem l d ↔ ∃ p ∈ famPairs (ofF f), p.2 = d) := by
  unfold endsL at h
  rcases ho : ofF f with _ | ⟨u, s⟩ | ⟨x, y⟩
  · rw [ho] at h
    cases h
    exact ⟨trivial, Nat.zero_le _, fun _ => rfl, fun _ d => ⟨fun q => (mem_nil q).elim, fun ⟨p, hp, _⟩ => (by cases hp)⟩⟩
  · rw [ho] at h
    dsimp only at h
    obtain ⟨h1, h2, h3, h4, h5, h6, h7⟩ := of_units ho
    refine ⟨marks_is_sane h, marks_len h, fun q => (by subst q; exact marks_nil h), fun q d => ?_⟩
    subst q
    rw [mem_marks dayIn_last h, make_self h6.1]
    show _ ↔ ∃ p ∈ unitPairs u s, p.2 = d
    unfold unitPairs
    constructor
    · rintro ⟨i, q1, q2, q3, q4⟩
      exact ⟨_, List.mem_map.2 ⟨i, mem_nums.2 q1, rfl⟩, q4⟩
    · rintro ⟨p, hp, rfl⟩
      obtain ⟨i, hi, rfl⟩ := List.mem_map.1 hp
      have b := Within.bounds h6 (mem_nums.1 hi)
      exact ⟨i, mem_nums.1 hi, b.1, by omega, rfl⟩
  · rw [ho] at h
    dsimp only at h
    obtain ⟨sa, sb, na, nb, l1, l2⟩ := span_ends ho
    obtain ⟨k1, k2, k3, k4⟩ := known_spec sb h
    refine ⟨k1, k2, k4, fun q d => ?_⟩
    rw [k3 q]
    show _ ↔ ∃ p ∈ spanPairs x y, p.2 = d
    constructor
    · intro hd
      obtain ⟨_, _, _, _, _, _, _, _, e1⟩ := of_span ho
      have h1 := hd
      rw [e1] at h1
      have := (mem_clip.1 h1).2.1
      exact ⟨(loF x, d), span_pair sa sb (mem_lo sa na) hd (by omega), rfl⟩
    · rintro ⟨p, hp, rfl⟩
      exact (pair_span hp).2.1

end Go.Proofs.YtocmlcpcnjaaeaaGreatDoor.V


/- The views of a family: plain facts. No program in sight. -/
namespace Go.Proofs.YtocmlcpcnjaaeaaGreatDoor.V
set_option linter.unusedVariables false
set_option linter.unusedSimpArgs false

def oneV1 (d : Int) : Runs := [(d, d)]

/-- A family's views. -/
def viewsF (f : Leaf) : List View := match ofF f with
  | none => []
  | some (.inl (u, s)) => if u = 0 then [(true, s, s)] else (nums s).map fun i => (false, [(VCal.ufirst u i, VCal.ufirst u i)], [(VCal.ulast u i, VCal.ulast u i)])
  | some (.inr (a, b)) => [(false, a, b)]

theorem one_within {d : Int} (h : 0 ≤ d ∧ d ≤ 3652424) : Within [(d, d)] 3652424 := by
  refine ⟨⟨by dsimp only; omega, by dsimp only; omega, by unfold Lim; dsimp only; omega, trivial⟩, .inr ⟨by show 0 ≤ d; omega, by show d ≤ 3652424; omega⟩⟩

theorem views_ok {f : Leaf} (hla : f.2.2.1.length ≤ 1000) (hlb : f.2.2.2.length ≤ 1000) : ∀ x ∈ viewsF f, VOK x := by
  intro x hx
  unfold viewsF at hx
  rcases ho : ofF f with _ | ⟨u, s⟩ | ⟨a, b⟩
  · rw [ho] at hx; cases hx
  · rw [ho] at hx
    obtain ⟨h1, h2, rfl, rfl, h5, h6, h7⟩ := of_units ho
    dsimp only at hx
    split at hx
    · rename_i h0
      cases List.mem_singleton.1 hx
      rw [h0, VCal.ucount_0] at h6
      exact ⟨h6, h6, h5, h5, fun _ => rfl, Int.le_refl _, Int.le_refl _, hla, hla⟩
    · obtain ⟨i, hi, rfl⟩ := List.mem_map.1 hx
      have hb := Within.bounds h6 (mem_nums.1 hi)
      have hu := VCal.unit_in (kind := f.2.1) (i := i) (by omega) (by omega)
      exact ⟨one_within (by omega), one_within (by omega), by simp, by simp, fun e => (by cases e), hu.2.1, hu.2.1, (by simp), (by simp)⟩
  · rw [ho] at hx
    cases List.mem_singleton.1 hx
    obtain ⟨h1, h2, h3, h4, h5, h6, h7, e1, e2⟩ := of_span ho
    obtain ⟨sa, sb, na, nb, la, lb⟩ := span_ends ho
    have hl := span_lens ho
    have ba := Within.bounds h6 (mem_lo h6.1 h3)
    have bb := Within.bounds h7 (mem_hi h7.1 h4)
    have ia : ∀ n, mem a n → mem f.2.2.1 n ∧ 0 ≤ n ∧ n ≤ hiF f.2.2.2 := fun n hn => by rw [e1] at hn; exact mem_clip.1 hn
    have ib : ∀ n, mem b n → mem f.2.2.2 n ∧ loF f.2.2.1 ≤ n ∧ n ≤ 3652424 := fun n hn => by rw [e2] at hn; exact mem_clip.1 hn
    have lo := mem_lo sb nb
    have hi := mem_hi sa na
    have x1 := Within.bounds h6 (ia _ hi).1
    have x2 := Within.bounds h7 (ib _ lo).1
    have x3 := ia _ hi
    have x4 := ib _ lo
    have wa : Within a 3652424 := ⟨sa, .inr ⟨by omega, by omega⟩⟩
    have wb : Within b 3652424 := ⟨sb, .inr ⟨by omega, by omega⟩⟩
    exact ⟨wa, wb, na, nb, fun e => (by cases e), (by show loF a ≤ loF b; omega), (by show hiF a ≤ hiF b; omega), (by show a.length ≤ 1000; omega), (by show b.length ≤ 1000; omega)⟩

theorem mem_spanPairs {a b : Runs} {p : Int × Int} : p ∈ spanPairs a b ↔ p.1 ≤ p.2 ∧ mem a p.1 ∧ mem b p.2 := by
  unfold spanPairs
  simp only [List.mem_flatMap, List.mem_map, mem_nums, mem_upTo]
  constructor
  · rintro ⟨s, hs, r, hr, t, ⟨h1, h2⟩, rfl⟩
    exact ⟨by show s ≤ t; omega, hs, r, hr, by show r.1 ≤ t; omega, h2⟩
  · rintro ⟨h, hs, r, hr, h1, h2⟩
    exact ⟨p.1, hs, r, hr, p.2, ⟨by omega, h2⟩, rfl⟩

theorem mem_one {d n : Int} : mem [(d, d)] n ↔ n = d := by
  rw [mem_cons]
  constructor
  · rintro (h | h)
    · dsimp only at h; omega
    · exact (mem_nil h).elim
  · rintro rfl; exact .inl ⟨Int.le_refl _, Int.le_refl _⟩

theorem views_pairs {f : Leaf} {p : Int × Int} : p ∈ famPairs (ofF f) ↔ ∃ x ∈ viewsF f, PV x p := by
  unfold viewsF
  rcases ho : ofF f with _ | ⟨u, s⟩ | ⟨a, b⟩
  · simp [famPairs]
  · obtain ⟨h1, h2, rfl, rfl, h5, h6, h7⟩ := of_units ho
    dsimp only
    show p ∈ unitPairs f.2.1 f.2.2.1 ↔ _
    unfold unitPairs
    rw [List.mem_map]
    split
    · rename_i h0
      rw [h0] at h6 ⊢
      constructor
      · rintro ⟨i, hi, rfl⟩
        have hb := Within.bounds h6 (mem_nums.1 hi)
        have := day_unit (i := i) (by omega)
        refine ⟨_, List.mem_singleton.2 rfl, (PV.single rfl).2 ⟨?_, ?_⟩⟩
        · show VCal.ufirst 0 i = VCal.ulast 0 i
          rw [this.1, this.2]
        · show mem f.2.2.1 (VCal.ufirst 0 i)
          rw [this.1]; exact mem_nums.1 hi
      · rintro ⟨x, hx, hp⟩
        cases List.mem_singleton.1 hx
        have hp := (PV.single rfl).1 hp
        have hm : mem f.2.2.1 p.1 := hp.2
        have hb := Within.bounds h6 hm
        have := day_unit (i := p.1) (by omega)
        refine ⟨p.1, mem_nums.2 hm, Prod.ext this.1 ?_⟩
        show VCal.ulast 0 p.1 = p.2
        rw [this.2]; exact hp.1
    · constructor
      · rintro ⟨i, hi, rfl⟩
        have hb := Within.bounds h6 (mem_nums.1 hi)
        have hu := VCal.unit_in (kind := f.2.1) (i := i) (by omega) (by omega)
        exact ⟨_, List.mem_map.2 ⟨i, hi, rfl⟩, (PV.span rfl).2 ⟨by show VCal.ufirst _ _ ≤ VCal.ulast _ _; omega, mem_one.2 rfl, mem_one.2 rfl⟩⟩
      · rintro ⟨x, hx, hp⟩
        obtain ⟨i, hi, rfl⟩ := List.mem_map.1 hx
        have hp := (PV.span rfl).1 hp
        exact ⟨i, hi, Prod.ext (mem_one.1 hp.2.1).symm (mem_one.1 hp.2.2).symm⟩
  · show p ∈ spanPairs a b ↔ _
    rw [mem_spanPairs]
    constructor
    · intro h
      exact ⟨_, List.mem_singleton.2 rfl, (PV.span rfl).2 h⟩
    · rintro ⟨x, hx, hp⟩
      cases List.mem_singleton.1 hx
      exact (PV.span rfl).1 hp

theorem any_views {l : List Leaf} {p : Int × Int} : anyP l p ↔ ∃ x ∈ l.flatMap viewsF, PV x p := by
  unfold anyP
  simp only [List.mem_flatMap]
  constructor
  · rintro ⟨f, hf, hp⟩
    obtain ⟨x, hx, hv⟩ := views_pairs.1 hp
    exact ⟨x, ⟨f, hf, hx⟩, hv⟩
  · rintro ⟨x, ⟨f, hf, hx⟩, hv⟩
    exact ⟨f, hf, views_pairs.2 ⟨x, hx, hv⟩⟩

/-- The relations in which some pairs of two lists of families stand. -/
def relM (l m : List Leaf) (k : Nat) : Prop := ∃ p q, anyP l p ∧ anyP m q ∧ relK k p q

theorem relM_flip {l m : List Leaf} {k : Nat} (hk : k ≤ 12) : relM l m (12 - k) ↔ relM m l k := by
  constructor
  · rintro ⟨p, q, h1, h2, h3⟩
    exact ⟨q, p, h2, h1, (relK_flip hk).1 h3⟩
  · rintro ⟨p, q, h1, h2, h3⟩
    exact ⟨q, p, h2, h1, (relK_flip hk).2 h3⟩

theorem any_le {l : List Leaf} (hl : FewL 1000 l) {p : Int × Int} (h : anyP l p) : p.1 ≤ p.2 := by
  obtain ⟨x, hx, hp⟩ := any_views.1 h
  obtain ⟨f, hf, hxf⟩ := List.mem_flatMap.1 hx
  exact ((views_ok (hl.2 f hf).1 (hl.2 f hf).2 x hxf).pv hp).1

/-- The relation in which two pairs stand. -/
def relC (p q : Pr) : Nat :=
  if p.2 + 1 < q.1 then 0 else if p.2 + 1 = q.1 then 1 else if q.2 + 1 < p.1 then 12 else if q.2 + 1 = p.1 then 11
  else if p.1 < q.1 then (if p.2 < q.2 then 2 else if p.2 = q.2 then 7 else 8)
  else if p.1 = q.1 then (if p.2 < q.2 then 3 else if p.2 = q.2 then 6 else 9)
  else (if p.2 < q.2 then 4 else if p.2 = q.2 then 5 else 10)

theorem relC_rel {p q : Pr} (hp : p.1 ≤ p.2) (hq : q.1 ≤ q.2) : relK (relC p q) p q := by
  unfold relC
  by_cases a0 : p.2 + 1 < q.1
  · rw [if_pos a0]; exact a0
  rw [if_neg a0]
  by_cases a1 : p.2 + 1 = q.1
  · rw [if_pos a1]; exact a1
  rw [if_neg a1]
  by_cases a2 : q.2 + 1 < p.1
  · rw [if_pos a2]; exact ⟨by decide, a2⟩
  rw [if_neg a2]
  by_cases a3 : q.2 + 1 = p.1
  · rw [if_pos a3]; exact ⟨by decide, a3⟩
  rw [if_neg a3]
  by_cases b : p.1 < q.1
  · rw [if_pos b]
    by_cases c : p.2 < q.2
    · rw [if_pos c]; exact ⟨b, by omega, c⟩
    rw [if_neg c]
    by_cases c' : p.2 = q.2
    · rw [if_pos c']; exact ⟨by decide, b, c'.symm⟩
    rw [if_neg c']; exact ⟨by decide, b, by omega⟩
  rw [if_neg b]
  by_cases b' : p.1 = q.1
  · rw [if_pos b']
    by_cases c : p.2 < q.2
    · rw [if_pos c]; exact ⟨b', c⟩
    rw [if_neg c]
    by_cases c' : p.2 = q.2
    · rw [if_pos c']; exact ⟨b', c'⟩
    rw [if_neg c']; exact ⟨by decide, b'.symm, by omega⟩
  rw [if_neg b']
  by_cases c : p.2 < q.2
  · rw [if_pos c]; exact ⟨by omega, c⟩
  rw [if_neg c]
  by_cases c' : p.2 = q.2
  · rw [if_pos c']; exact ⟨by omega, c'⟩
  rw [if_neg c']; exact ⟨by decide, by omega, by omega, by omega⟩

theorem relC_iff {p q : Pr} (hp : p.1 ≤ p.2) (hq : q.1 ≤ q.2) {k : Nat} : relK k p q ↔ k = relC p q :=
  ⟨fun h => relK_one hp hq h (relC_rel hp hq), fun h => h ▸ relC_rel hp hq⟩

theorem relC_le {p q : Pr} (hp : p.1 ≤ p.2) (hq : q.1 ≤ q.2) : relC p q ≤ 12 := relK_le (relC_rel hp hq)

def maskC (l : List Nat) : Nat := l.foldl (fun a k => a ||| 2 ^ k) 0

theorem foldl_or (l : List Nat) : ∀ a : Nat, ∀ k, (l.foldl (fun a k => a ||| 2 ^ k) a).testBit k = true ↔ a.testBit k = true ∨ k ∈ l := by
  induction l with
  | nil => intro a k; simp
  | cons x l ih =>
    intro a k
    rw [List.foldl_cons, ih, Nat.testBit_or, Bool.or_eq_true, Nat.testBit_two_pow, decide_eq_true_iff, List.mem_cons]
    constructor
    · rintro ((h | h) | h)
      · exact .inl h
      · exact .inr (.inl h.symm)
      · exact .inr (.inr h)
    · rintro (h | h | h)
      · exact .inl (.inl h)
      · exact .inl (.inr h.symm)
      · exact .inr h

theorem maskC_is {l : List Nat} (h : ∀ k ∈ l, k ≤ 12) : IsMask (maskC l : Nat) (· ∈ l) := ⟨_, rfl, fun k => by
  unfold maskC
  rw [foldl_or]
  simp only [Nat.zero_testBit, Bool.false_eq_true, false_or]
  exact ⟨fun q => ⟨h k q, q⟩, fun q => q.2⟩⟩

def pairsL (l : List Leaf) : List Pr := l.flatMap fun f => famPairs (ofF f)

theorem mem_pairsL {l : List Leaf} {p : Pr} : p ∈ pairsL l ↔ anyP l p := by
  unfold pairsL anyP
  rw [List.mem_flatMap]

def relMask (l m : List Leaf) : Nat := maskC ((pairsL l).flatMap fun p => (pairsL m).map fun q => relC p q)

theorem relMask_is {l m : List Leaf} (hl : FewL 1000 l) (hm : FewL 1000 m) : IsMask (relMask l m : Nat) (relM l m) := by
  have key : ∀ k, k ∈ ((pairsL l).flatMap fun p => (pairsL m).map fun q => relC p q) ↔ relM l m k := fun k => by
    rw [List.mem_flatMap]
    constructor
    · rintro ⟨p, hp, hk⟩
      obtain ⟨q, hq, e⟩ := List.mem_map.1 hk
      have hp := mem_pairsL.1 hp
      have hq := mem_pairsL.1 hq
      exact ⟨p, q, hp, hq, (relC_iff (any_le hl hp) (any_le hm hq)).2 e.symm⟩
    · rintro ⟨p, q, hp, hq, h⟩
      exact ⟨p, mem_pairsL.2 hp, List.mem_map.2 ⟨q, mem_pairsL.2 hq, ((relC_iff (any_le hl hp) (any_le hm hq)).1 h).symm⟩⟩
  refine IsMask.iff (maskC_is fun k hk => ?_) fun k _ => key k
  obtain ⟨p, q, _, _, h⟩ := (key k).1 hk
  exact relK_le h

/-- A family has too many starts or ends. -/
def wideB (l : List Leaf) : Bool := l.any fun f => !(startsL f).2 || !(endsL f).2

/-- What is told of two lists. -/
def relF (l m : List Leaf) : Int × Int := if (wideB l || wideB m) = true then (0, 8) else ((relMask l m : Nat), 0)

/-- The mask that is told. -/
def relFM (l m : List Leaf) (k : Nat) : Prop := (wideB l || wideB m) = false ∧ relM l m k

theorem relF_mask {l m : List Leaf} (hl : FewL 1000 l) (hm : FewL 1000 m) : IsMask (relF l m).1 (relFM l m) := by
  unfold relF relFM
  cases h : (wideB l || wideB m)
  · rw [if_neg (by simp)]
    exact (relMask_is hl hm).iff fun k _ => ⟨fun q => ⟨rfl, q⟩, fun q => q.2⟩
  · rw [if_pos rfl]
    exact IsMask.zero.iff fun k _ => ⟨False.elim, fun q => by cases q.1⟩
end Go.Proofs.YtocmlcpcnjaaeaaGreatDoor.V


/- Bits of any number: plain facts. No program in sight. -/
namespace Go.Proofs.YtocmlcpcnjaaeaaGreatDoor.V
set_option linter.unusedVariables false
set_option linter.unusedSimpArgs false

/-- A number's bit. -/
def mbit (mask : Int) (k : Nat) : Prop := (mask % 18446744073709551616) / 2 ^ k % 2 = 1
instance (mask : Int) (k : Nat) : Decidable (mbit mask k) := inferInstanceAs (Decidable (_ = _))

theorem lsb_mbit {mask : Int} {k : Nat} : (BitVec.ofInt 64 mask).getLsbD k = true ↔ mbit mask k := by
  unfold BitVec.getLsbD mbit
  rw [BitVec.toNat_ofInt, Nat.testBit_eq_decide_div_mod_eq, decide_eq_true_iff]
  have h0 : 0 ≤ mask % 18446744073709551616 := Int.emod_nonneg _ (by decide)
  obtain ⟨u, hu⟩ := Int.eq_ofNat_of_zero_le h0
  have e : (mask % ((2 ^ 64 : Nat) : Int)).toNat = u := by
    have : ((2 ^ 64 : Nat) : Int) = 18446744073709551616 := by decide
    rw [this, hu]; rfl
  rw [e, hu]
  have : ((u / 2 ^ k % 2 : Nat) : Int) = (u : Int) / 2 ^ k % 2 := by simp
  rw [← this]
  omega

theorem bit_shift {mask : Int} {k : Nat} (hk : k ≤ 12) : w64 ((BitVec.ofInt 64 (Int.fdiv mask (2 ^ k)) &&& BitVec.ofInt 64 1).toNat : Int) = 0 ↔ ¬ mbit mask k := by
  have e : (BitVec.ofInt 64 (Int.fdiv mask (2 ^ k)) &&& BitVec.ofInt 64 1).toNat = ((mask / 2 ^ k) % 18446744073709551616).toNat % 2 := by
    rw [show (BitVec.ofInt 64 1) = BitVec.ofNat 64 1 from rfl, BitVec.toNat_and, BitVec.toNat_ofNat, BitVec.toNat_ofInt, Int.fdiv_eq_ediv_of_nonneg _ (Int.le_of_lt (Int.pow_pos (by decide)))]
    exact Nat.and_one_is_mod _
  rw [e]
  unfold mbit
  have hlt : ((mask / 2 ^ k) % 18446744073709551616).toNat % 2 < 2 := Nat.mod_lt _ (by decide)
  rw [w64_of (by omega)]
  rcases le12 hk with rfl | rfl | rfl | rfl | rfl | rfl | rfl | rfl | rfl | rfl | rfl | rfl | rfl <;> simp only [Int.reducePow] <;> omega

/-- A mask without the bits of a number. -/
theorem IsMask.andNot {a mask : Int} {P : Nat → Prop} (ha : IsMask a P) : w64 ((BitVec.ofInt 64 a &&& ~~~ BitVec.ofInt 64 mask).toNat : Int) = 0 ↔ ∀ k, k ≤ 12 → P k → mbit mask k := by
  obtain ⟨m, rfl, hm⟩ := ha
  have h1 := IsMask.lt hm
  rw [ofInt_nat]
  have hle : (BitVec.ofNat 64 m &&& ~~~ BitVec.ofInt 64 mask).toNat ≤ m := by
    rw [BitVec.toNat_and, BitVec.toNat_ofNat, Nat.mod_eq_of_lt (by omega)]
    exact Nat.and_le_left
  rw [w64_of (by omega)]
  have e : ((BitVec.ofNat 64 m &&& ~~~ BitVec.ofInt 64 mask).toNat : Int) = 0 ↔ (BitVec.ofNat 64 m &&& ~~~ BitVec.ofInt 64 mask) = 0#64 := by
    constructor
    · intro h
      apply BitVec.eq_of_toNat_eq
      simp only [BitVec.toNat_ofNat]
      omega
    · intro h; rw [h]; rfl
  rw [e]
  constructor
  · intro h k hk hp
    have hb := (hm k).2 ⟨hk, hp⟩
    have := congrArg (fun x => x.getLsbD k) h
    simp only [BitVec.getLsbD_and, BitVec.getLsbD_not, BitVec.getLsbD_ofNat, BitVec.getLsbD_zero] at this
    rw [hb] at this
    refine lsb_mbit.1 ?_
    have h64 : k < 64 := by omega
    simpa [h64] using this
  · intro h
    apply BitVec.eq_of_getLsbD_eq
    intro i hi
    simp only [BitVec.getLsbD_and, BitVec.getLsbD_not, BitVec.getLsbD_ofNat, BitVec.getLsbD_zero]
    cases hb : m.testBit i
    · simp
    · have hq := (hm i).1 hb
      have := lsb_mbit.2 (h i hq.1 hq.2)
      simp [this]

theorem IsMask.and {a mask : Int} {P : Nat → Prop} (ha : IsMask a P) : w64 ((BitVec.ofInt 64 a &&& BitVec.ofInt 64 mask).toNat : Int) = a ↔ ∀ k, k ≤ 12 → P k → mbit mask k := by
  obtain ⟨m, rfl, hm⟩ := ha
  have h1 := IsMask.lt hm
  rw [ofInt_nat]
  have hle : (BitVec.ofNat 64 m &&& BitVec.ofInt 64 mask).toNat ≤ m := by
    rw [BitVec.toNat_and, BitVec.toNat_ofNat, Nat.mod_eq_of_lt (by omega)]
    exact Nat.and_le_left
  rw [w64_of (by omega)]
  have e : ((BitVec.ofNat 64 m &&& BitVec.ofInt 64 mask).toNat : Int) = (m : Int) ↔ (BitVec.ofNat 64 m &&& BitVec.ofInt 64 mask) = BitVec.ofNat 64 m := by
    constructor
    · intro h
      apply BitVec.eq_of_toNat_eq
      rw [BitVec.toNat_ofNat, Nat.mod_eq_of_lt (by omega)]
      omega
    · intro h; rw [h, BitVec.toNat_ofNat, Nat.mod_eq_of_lt (by omega)]
  rw [e]
  constructor
  · intro h k hk hp
    have hb := (hm k).2 ⟨hk, hp⟩
    have := congrArg (fun x => x.getLsbD k) h
    simp only [BitVec.getLsbD_and, BitVec.getLsbD_ofNat] at this
    rw [hb] at this
    refine lsb_mbit.1 ?_
    have h64 : k < 64 := by omega
    simpa [h64] using this
  · intro h
    apply BitVec.eq_of_getLsbD_eq
    intro i hi
    simp only [BitVec.getLsbD_and, BitVec.getLsbD_ofNat]
    cases hb : m.testBit i
    · simp
    · have hq := (hm i).1 hb
      have := lsb_mbit.2 (h i hq.1 hq.2)
      simp [this]
end Go.Proofs.YtocmlcpcnjaaeaaGreatDoor.V


/- Units within days, and that have one of some days, by the units of the first and the last day: plain facts. No program in sight. -/
namespace Go.Proofs.YtocmlcpcnjaaeaaGreatDoor.V
set_option linter.unusedVariables false
set_option linter.unusedSimpArgs false

/-- The first day of all units. -/
def day0 (u : Int) : Int := if u = 2 then 60 else 0

theorem first0 {u : Int} (h : 0 < VCal.ucount u) : VCal.ufirst u 0 = day0 u := by
  unfold VCal.ufirst day0
  by_cases h0 : u = 0
  · rw [if_pos h0, if_neg (by omega)]
  · rw [if_neg h0]
    unfold VCal.ucount at h
    rw [if_neg h0] at h
    cases ht : VCal.tab u with
    | none => rw [ht] at h; exact absurd h (by decide)
    | some q =>
      obtain ⟨m, f, c⟩ := q
      dsimp only
      rcases VCal.tab_cases ht with ⟨rfl, rfl, rfl, rfl⟩ | ⟨rfl, rfl, rfl, rfl⟩ | ⟨rfl, rfl, rfl, rfl⟩ | ⟨rfl, rfl, rfl, rfl⟩ | ⟨rfl, rfl, rfl, rfl⟩ <;> decide +kernel

theorem first_ge {u n : Int} (h0 : 0 ≤ n) (h1 : n < VCal.ucount u) : day0 u ≤ VCal.ufirst u n := by
  rw [← first0 (u := u) (by omega)]
  exact first_le (Int.le_refl _) h0 h1

/-- A unit that has a day between two days: both have their units. -/
theorem both_in {u a b n : Int} (ha : day0 u ≤ a) (hb : b ≤ 3652424) (h0 : 0 ≤ n) (h1 : n < VCal.ucount u) (h2 : a ≤ VCal.ulast u n) (h3 : VCal.ufirst u n ≤ b) : (∃ i, VCal.uof u a = some i) ∧ ∃ k, VCal.uof u b = some k := by
  constructor
  · obtain ⟨i, hi, _⟩ := unit_at (u := u) n.toNat 0 n a (by omega) (Int.le_refl _) h1 h0 (by rw [first0 (by omega)]; exact ha) h2
    exact ⟨i, hi⟩
  · obtain ⟨i, hi, _⟩ := unit_at (u := u) (VCal.ucount u - 1 - n).toNat n (VCal.ucount u - 1) b (by omega) h0 (by omega) (by omega) h3 (by rw [VCal.ulast_last]; exact hb)
    exact ⟨i, hi⟩

theorem touch_lo {u a i n : Int} (hi : VCal.uof u a = some i) (h0 : 0 ≤ n) (h1 : n < VCal.ucount u) : a ≤ VCal.ulast u n ↔ i ≤ n := by
  obtain ⟨q1, q2, q3, q4⟩ := VCal.uof_some.1 hi
  constructor
  · intro h
    rcases Int.lt_or_le n i with e | e
    · have := ufirst_lt h0 e q2; omega
    · exact e
  · intro h
    have := last_le q1 h h1
    omega

theorem touch_hi {u b k n : Int} (hk : VCal.uof u b = some k) (h0 : 0 ≤ n) (h1 : n < VCal.ucount u) : VCal.ufirst u n ≤ b ↔ n ≤ k := by
  obtain ⟨q1, q2, q3, q4⟩ := VCal.uof_some.1 hk
  constructor
  · intro h
    rcases Int.lt_or_le k n with e | e
    · have := ufirst_lt q1 e h1; omega
    · exact e
  · intro h
    have := first_le h0 h q2
    omega

theorem inside_lo {u a i n : Int} (hi : VCal.uof u a = some i) (h0 : 0 ≤ n) (h1 : n < VCal.ucount u) : a ≤ VCal.ufirst u n ↔ (if VCal.ufirst u i < a then i + 1 else i) ≤ n := by
  obtain ⟨q1, q2, q3, q4⟩ := VCal.uof_some.1 hi
  constructor
  · intro h
    rcases Int.lt_or_le n i with e | e
    · have := ufirst_lt h0 e q2
      have := (VCal.unit_in h0 h1).2.1
      omega
    · split
      · by_cases e2 : n = i
        · subst e2; omega
        · omega
      · exact e
  · intro h
    split at h
    · have := ufirst_lt q1 (show i < n by omega) h1
      omega
    · have := first_le q1 h h1
      omega

theorem inside_hi {u b k n : Int} (hk : VCal.uof u b = some k) (h0 : 0 ≤ n) (h1 : n < VCal.ucount u) : VCal.ulast u n ≤ b ↔ n ≤ (if b < VCal.ulast u k then k - 1 else k) := by
  obtain ⟨q1, q2, q3, q4⟩ := VCal.uof_some.1 hk
  constructor
  · intro h
    rcases Int.lt_or_le k n with e | e
    · have := ufirst_lt q1 e h1
      have := (VCal.unit_in h0 h1).2.1
      omega
    · split
      · by_cases e2 : n = k
        · subst e2; omega
        · omega
      · exact e
  · intro h
    split at h
    · have := ufirst_lt h0 (show n < k by omega) q2
      omega
    · have := last_le h0 h q2
      omega

theorem mem_run {i k n cnt : Int} (h0 : 0 ≤ i) (h1 : k < cnt) (hc : cnt ≤ 3652425) : mem (makeF [(i, k)]) n ↔ i ≤ n ∧ n ≤ k := by
  rw [mem_make]
  unfold memL Lim
  rw [mem_cons]
  constructor
  · rintro ⟨_, _, h | h⟩
    · exact h
    · exact (mem_nil h).elim
  · intro h
    exact ⟨by omega, by omega, .inl h⟩
end Go.Proofs.YtocmlcpcnjaaeaaGreatDoor.V


/- lustrumref07, and lustrumlaw07.ImageIs, as conditions on the program's functions. No condition of its own. -/
namespace Go.Proofs.YtocmlcpcnjaaeaaGreatDoor.V
open Go
set_option linter.unusedVariables false
set_option linter.unusedSimpArgs false

theorem ok_ref07_Units {u : Int} {s : Runs} (hl : s.length ≤ 1000) : FnE bs n_lustrumref07_Units ((Shape.pair (.int .i64) (.slice sRun)).compsE (u, s)) (.slice sRun) (· = unitsF u s) := by
  refine ok_of (e_lustrumref07_Units (u, s) _) rfl ?_
  unfold c_lustrumref07_Units
  have hc := VCal.ucount_pos u
  refine callP_eq ok_ref03_Count ?_
  rw [w64_of (n := VCal.ucount u - 1) (by omega)]
  exact callP_eq (ok_ref05_Clip hl) rfl

theorem ok_ref07_Cover {u : Int} {s : Runs} (hl : s.length ≤ 1000) : FnE bs n_lustrumref07_Cover ((Shape.pair (.int .i64) (.slice sRun)).compsE (u, s)) (.slice sRun) (· = coverF u s) := by
  refine ok_of (e_lustrumref07_Cover (u, s) _) rfl ?_
  unfold c_lustrumref07_Cover
  refine callP_eq (ok_ref07_Units hl) ?_
  have hlen := units_length u s
  unfold coverF
  have hin : ∀ r ∈ unitsF u s, 0 ≤ r.1 ∧ r.1 ≤ r.2 ∧ r.2 < VCal.ucount u := fun r => units_in
  generalize unitsF u s = us at hlen hin
  refine loopP_of (fun z : Unit × Int × Runs => ∃ k : Nat, z.2.1 = k ∧ k ≤ us.length ∧ z.2.2 = (us.take k).map (spanOf u)) (fun z => us.length - z.2.1.toNat) ?_ ⟨0, rfl, Nat.zero_le _, rfl⟩
  rintro ⟨_, _, _⟩ A ⟨k, e1, hk, e2⟩ back
  dsimp only at e1 e2 ⊢
  subst e1 e2
  refine cond_dec (fun h1 => ⟨⟨by omega, h1⟩, ?_⟩) fun h1 => ?_
  · have h1' : (k : Int) < us.length := h1
    have hk' : k < us.length := by omega
    have hg := List.getElem?_eq_getElem hk'
    generalize us[k] = r at hg
    have hr := hin r (List.mem_of_getElem? hg)
    rw [toNat_ofNat, rd_of (s := sRun) hg, w_succ (a := k) (by omega)]
    refine callP_eq ok_ref03_First ⟨⟨by omega, h1⟩, callP_eq ok_ref03_Last ⟨?_, ?_⟩⟩
    · rw [List.length_map, List.length_take]
      show (_ + 1) * 16 ≤ _
      omega
    · refine back _ ⟨k + 1, rfl, hk', ?_⟩ (by dsimp only; omega)
      dsimp only
      have e : ((firstS u r.1).1, (lastS u r.2).1) = spanOf u r := by
        unfold firstS lastS spanOf
        rw [if_pos (by omega), if_pos (by omega)]
      rw [List.take_add_one, hg, List.map_append, e]
      rfl
  · rw [List.take_of_length_le (by have h1 : ¬ (k : Int) < us.length := h1; omega)]
    exact callP_eq (ok_ref04_Make (by rw [List.length_map]; omega)) rfl

def endG (last : Bool) : Int → Int → Int := if last = true then VCal.ulast else VCal.ufirst

theorem ok_ref07_ends {u : Int} {s : Runs} {last : Bool} (hl : s.length ≤ 1000) : FnE bs n_lustrumref07_ends ((Shape.pair (.int .i64) (.pair (.slice sRun) .bool)).compsE (u, s, last)) (.tup (.pair (.slice sRun) .bool)) (fun r => r.2 = toldF u s ∧ (r.2 = true → r.1 = (marksF (endG last) u s).1)) := by
  refine ok_of (e_lustrumref07_ends (u, s, last) _) rfl ?_
  unfold c_lustrumref07_ends
  refine callP_eq (ok_ref07_Units hl) ?_
  have hlen := units_length u s
  have hin : ∀ r ∈ unitsF u s, 0 ≤ r.1 ∧ r.1 ≤ r.2 ∧ r.2 < VCal.ucount u := fun r => units_in
  have hc := VCal.ucount_pos u
  refine cond_dec (fun e => ?_) fun e => ?_
  · have e : u = 0 := e
    unfold toldF marksF
    rw [if_pos e, if_pos e]
    by_cases hw : 400 < (unitsF u s).length
    · rw [if_pos hw, decide_eq_true hw]
      have : decide (((unitsF u s).length : Int) ≤ 400) = false := decide_eq_false (by omega)
      refine ⟨this, fun h => ?_⟩
      rw [this] at h; cases h
    · rw [if_neg hw, decide_eq_false hw]
      exact ⟨decide_eq_true (by show ((unitsF u s).length : Int) ≤ 400; omega), fun _ => rfl⟩
  · have e : ¬ u = 0 := e
    have hgd : DayIn (endG last) := by unfold endG; split; exact dayIn_last; exact dayIn_first
    have hbad : 400 < (nums (unitsF u s)).length → ((([], false) : Runs × Bool).2 = toldF u s ∧ ((([], false) : Runs × Bool).2 = true → (([], false) : Runs × Bool).1 = (marksF (endG last) u s).1)) := fun h => by
      unfold toldF
      rw [if_neg e, decide_eq_true h]
      exact ⟨rfl, fun q => by cases q⟩
    have hgood : (nums (unitsF u s)).length ≤ 400 → ∀ out, out = singles ((nums (unitsF u s)).map (endG last u)) → (((out, true) : Runs × Bool).2 = toldF u s ∧ (((out, true) : Runs × Bool).2 = true → ((out, true) : Runs × Bool).1 = (marksF (endG last) u s).1)) := fun h out ho => by
      unfold toldF marksF
      rw [if_neg e, if_neg e, decide_eq_false (by omega), if_neg (by omega), marks_eq hgd e]
      exact ⟨rfl, fun _ => ho⟩
    generalize unitsF u s = us at hlen hin hbad hgood
    generalize hM : (nums us) = M at hbad hgood
    have npos : ∀ k, (nums (us.take k)).length ≤ M.length := fun k => by
      rw [← hM]
      unfold nums
      conv => rhs; rw [← List.take_append_drop k us]
      rw [List.flatMap_append, List.length_append]
      exact Nat.le_add_right _ _
    refine loopP_of (fun z : Unit × Int × Runs => ∃ k : Nat, z.2.1 = k ∧ k ≤ us.length ∧ (nums (us.take k)).length ≤ 400 ∧ z.2.2 = singles ((M.take (nums (us.take k)).length).map (endG last u))) (fun z => us.length - z.2.1.toNat) ?_ ⟨0, rfl, Nat.zero_le _, Nat.zero_le _, rfl⟩
    rintro ⟨_, _, _⟩ A ⟨k, e1, hk, h400, e2⟩ back
    dsimp only at e1 e2 ⊢
    subst e1 e2
    refine cond_dec (fun h1 => ⟨⟨by omega, h1⟩, ?_⟩) fun h1 => ?_
    · have h1' : (k : Int) < us.length := h1
      have hk' : k < us.length := by omega
      have hg := List.getElem?_eq_getElem hk'
      generalize us[k] = r at hg
      have hr := hin r (List.mem_of_getElem? hg)
      rw [toNat_ofNat, rd_of (s := sRun) hg, w_succ (a := k) (by omega)]
      obtain ⟨q0, hq0⟩ : ∃ q0, (nums (us.take k)).length = q0 := ⟨_, rfl⟩
      have hnum : M = nums (us.take k) ++ (upTo r.1 r.2 ++ nums (us.drop (k + 1))) := by
        rw [← hM]
        conv => lhs; rw [← List.take_append_drop k us, drop_cons hg]
        unfold nums
        rw [List.flatMap_append, List.flatMap_cons]
      have hnxt : (nums (us.take (k + 1))).length = q0 + (r.2 + 1 - r.1).toNat := by
        rw [← hq0]
        unfold nums
        rw [List.take_add_one, hg, List.flatMap_append, List.length_append]
        simp [upTo]
      have hnth : ∀ i : Nat, (i : Int) ≤ r.2 - r.1 → M[q0 + i]? = some (r.1 + i) := fun i hi => by
        rw [hnum, ← hq0, List.getElem?_append_right (by omega), Nat.add_sub_cancel_left, List.getElem?_append_left (by simp [upTo]; omega)]
        unfold upTo
        rw [List.getElem?_map, List.getElem?_range (by omega)]
        rfl
      have np := npos (k + 1)
      rw [hq0] at h400 ⊢
      refine loopP_of (fun z : Unit × Int × Runs => r.1 ≤ z.2.1 ∧ z.2.1 ≤ r.2 + 1 ∧ q0 + (z.2.1 - r.1).toNat ≤ 400 ∧ z.2.2 = singles ((M.take (q0 + (z.2.1 - r.1).toNat)).map (endG last u))) (fun z => (r.2 + 1 - z.2.1).toNat) ?_ ⟨Int.le_refl _, by dsimp only; omega, by dsimp only; omega, by dsimp only; rw [Int.sub_self]; rfl⟩
      rintro ⟨_, n, _⟩ A2 ⟨n1, n2, n3, e3⟩ back2
      dsimp only at n1 n2 n3 e3 ⊢
      subst e3
      refine ⟨⟨by omega, h1⟩, cond_dec (fun hn => ?_) fun hn => ?_⟩
      · have hn : n ≤ r.2 := hn
        have hget := hnth (n - r.1).toNat (by omega)
        rw [show r.1 + ((n - r.1).toNat : Int) = n by omega] at hget
        have hlt := (List.getElem?_eq_some_iff.1 hget).1
        have htk : M.take (q0 + (n + 1 - r.1).toNat) = M.take (q0 + (n - r.1).toNat) ++ [n] := by
          rw [show q0 + (n + 1 - r.1).toNat = q0 + (n - r.1).toNat + 1 by omega, List.take_add_one, hget]
          rfl
        have hol : (singles ((M.take (q0 + (n - r.1).toNat)).map (endG last u))).length = q0 + (n - r.1).toNat := by
          unfold singles
          rw [List.length_map, List.length_map, List.length_take]
          omega
        have step : ∀ v : Int, v = endG last u n → chk (((singles ((M.take (q0 + (n - r.1).toNat)).map (endG last u))).length + [(v, v)].length) * 16 ≤ 140737488355328) (cond (decide ((400 : Int) < ((singles ((M.take (q0 + (n - r.1).toNat)).map (endG last u)) ++ [(v, v)]).length : Int))) ((fun r : Runs × Bool => r.2 = toldF u s ∧ (r.2 = true → r.1 = (marksF (endG last) u s).1)) ([], false)) (A2 ((), (w64 (n + (1 : Int))), (singles ((M.take (q0 + (n - r.1).toNat)).map (endG last u)) ++ [(v, v)])))) := by
          rintro _ rfl
          refine ⟨?_, cond_dec (fun hb => hbad ?_) fun hb => ?_⟩
          · rw [hol]; show (_ + 1) * 16 ≤ _; omega
          · rw [List.length_append, hol] at hb
            simp only [List.length_cons, List.length_nil] at hb
            omega
          · rw [List.length_append, hol] at hb
            simp only [List.length_cons, List.length_nil] at hb
            rw [w64_of (n := n + 1) (by omega)]
            refine back2 _ ⟨by dsimp only; omega, by dsimp only; omega, by dsimp only; omega, ?_⟩ (by dsimp only; omega)
            dsimp only
            rw [htk]
            unfold singles
            rw [List.map_append, List.map_append]
            rfl
        have hf1 : (firstS u n).1 = VCal.ufirst u n := by unfold firstS; rw [if_pos (by omega)]
        have hf2 : (lastS u n).1 = VCal.ulast u n := by unfold lastS; rw [if_pos (by omega)]
        refine callP_eq ok_ref03_First (cond_bool (fun hb => callP_eq ok_ref03_Last (step _ ?_)) fun hb => step _ ?_)
        · show (lastS u n).1 = _; unfold endG; rw [if_pos hb, hf2]
        · show (firstS u n).1 = _; unfold endG; rw [if_neg (by rw [hb]; exact Bool.false_ne_true), hf1]
      · have hn : ¬ n ≤ r.2 := hn
        obtain rfl : n = r.2 + 1 := by omega
        refine back _ ⟨k + 1, rfl, hk', by rw [hnxt]; exact n3, ?_⟩ (by dsimp only; omega)
        dsimp only
        rw [hnxt]
    · have hke : us.take k = us := List.take_of_length_le (by have h1 : ¬ (k : Int) < us.length := h1; omega)
      rw [hke, hM] at h400 ⊢
      rw [List.take_of_length_le (Nat.le_refl _)]
      exact hgood h400 _ rfl
end Go.Proofs.YtocmlcpcnjaaeaaGreatDoor.V


/- lustrumlaw07.ImageIs as a condition on the program's functions. No condition of its own. -/
namespace Go.Proofs.YtocmlcpcnjaaeaaGreatDoor.V
open Go
set_option linter.unusedVariables false
set_option linter.unusedSimpArgs false

theorem ref07_marks {g : Int → Int → Int} {u : Int} {s : Runs} {r : Runs × Bool} (h : r.2 = toldF u s ∧ (r.2 = true → r.1 = (marksF g u s).1)) : cond (!r.2) ((fun x : Runs × Bool => x = marksF g u s) ([], false)) ((fun x : Runs × Bool => x = marksF g u s) (r.1, true)) := by
  obtain ⟨h1, h2⟩ := h
  obtain ⟨t1, t2⟩ := marks_told g u s
  refine cond_not (fun q => ?_) fun q => ?_
  · rw [q] at h1
    exact Prod.ext (t2 h1.symm).symm (by rw [t1, ← h1])
  · rw [q] at h1
    exact Prod.ext (h2 q) (by rw [t1, ← h1])

theorem ok_ref07_Starts {u : Int} {s : Runs} (hl : s.length ≤ 1000) : FnE bs n_lustrumref07_Starts ((Shape.pair (.int .i64) (.slice sRun)).compsE (u, s)) (.tup (.pair (.slice sRun) .bool)) (· = marksF VCal.ufirst u s) := by
  refine ok_of (e_lustrumref07_Starts (u, s) _) rfl ?_
  unfold c_lustrumref07_Starts
  exact callP_of (ok_ref07_ends (last := false) hl) fun r hr => ref07_marks (g := VCal.ufirst) hr

theorem ok_ref07_Ends {u : Int} {s : Runs} (hl : s.length ≤ 1000) : FnE bs n_lustrumref07_Ends ((Shape.pair (.int .i64) (.slice sRun)).compsE (u, s)) (.tup (.pair (.slice sRun) .bool)) (· = marksF VCal.ulast u s) := by
  refine ok_of (e_lustrumref07_Ends (u, s) _) rfl ?_
  unfold c_lustrumref07_Ends
  exact callP_of (ok_ref07_ends (last := true) hl) fun r hr => ref07_marks (g := VCal.ulast) hr

/-- Units that lie within days; that have one of some days. -/
def InR (u lo hi : Int) (r : Runs) : Prop := Sane r ∧ r.length ≤ 1 ∧ ∀ n, mem r n ↔ 0 ≤ n ∧ n < VCal.ucount u ∧ lo ≤ VCal.ufirst u n ∧ VCal.ulast u n ≤ hi
def ToR (u lo hi : Int) (r : Runs) : Prop := Sane r ∧ r.length ≤ 1 ∧ ∀ n, mem r n ↔ 0 ≤ n ∧ n < VCal.ucount u ∧ lo ≤ hi ∧ VCal.ufirst u n ≤ hi ∧ lo ≤ VCal.ulast u n

def refInP (u A B : Int) (R : Runs → Prop) : Prop := cond (decide (B < A)) (R []) (callP bs 161 (.pair (.int .i64) (.int .i64)) (.tup (.pair (.int .i64) .bool)) (u, A) (fun r9 =>
  (callP bs 161 (.pair (.int .i64) (.int .i64)) (.tup (.pair (.int .i64) .bool)) (u, B) (fun r10 => (cond (!r9.2) (R []) (cond (!r10.2) (R []) (callP bs 164 (.pair (.int .i64) (.int .i64)) (.tup (.pair (.int .i64) .bool)) (u, r9.1) (fun r11 => (callP bs 165 (.pair (.int .i64) (.int .i64)) (.tup (.pair (.int .i64) .bool)) (u, r10.1) (fun r12 => (cond (decide (r11.1 < A)) (cond (decide (B < r12.1)) (callP bs 157 (.slice sRun) (.slice sRun) [((w64 (r9.1 + (1 : Int))), (w64 (r10.1 - (1 : Int))))] (fun r13 => (R r13))) (callP bs 157 (.slice sRun) (.slice sRun) [((w64 (r9.1 + (1 : Int))), r10.1)] (fun r14 => (R r14)))) (cond (decide (B < r12.1)) (callP bs 157 (.slice sRun) (.slice sRun) [(r9.1, (w64 (r10.1 - (1 : Int))))] (fun r15 => (R r15))) (callP bs 157 (.slice sRun) (.slice sRun) [(r9.1, r10.1)] (fun r16 => (R r16)))))))))))))))

theorem maxI_eq (a b : Int) : maxI a b = max a b := max_max a b
theorem minI_eq (a b : Int) : minI a b = min a b := min_min a b

theorem ref_in {u lo hi A B : Int} (hA : A = max lo (day0 u)) (hB : B = min hi 3652424) : refInP u A B (InR u lo hi) := by
  have hc := VCal.ucount_pos u
  have d0 : 0 ≤ day0 u := by unfold day0; split <;> omega
  have none : (∀ n, 0 ≤ n → n < VCal.ucount u → ¬ (lo ≤ VCal.ufirst u n ∧ VCal.ulast u n ≤ hi)) → InR u lo hi [] := fun h => ⟨trivial, Nat.zero_le _, fun n => ⟨fun q => (mem_nil q).elim, fun ⟨a, b, c, d⟩ => absurd ⟨c, d⟩ (h n a b)⟩⟩
  have eqA : ∀ n, 0 ≤ n → n < VCal.ucount u → (lo ≤ VCal.ufirst u n ↔ A ≤ VCal.ufirst u n) := fun n h0 h1 => by have := first_ge h0 h1; omega
  have eqB : ∀ n, 0 ≤ n → n < VCal.ucount u → (VCal.ulast u n ≤ hi ↔ VCal.ulast u n ≤ B) := fun n h0 h1 => by have := VCal.unit_in h0 h1; omega
  unfold refInP
  refine cond_dec (fun h => none fun n h0 h1 ⟨q1, q2⟩ => ?_) fun h => ?_
  · have h : B < A := h
    have := (eqA n h0 h1).1 q1
    have := (eqB n h0 h1).1 q2
    have := (VCal.unit_in h0 h1).2.1
    omega
  · have h : ¬ B < A := h
    refine callP_eq ok_ref03_Of (callP_eq ok_ref03_Of ?_)
    have hno : (VCal.uof u A = Option.none ∨ VCal.uof u B = Option.none) → InR u lo hi [] := fun hn => none fun n h0 h1 ⟨q1, q2⟩ => by
      have p1 := (eqA n h0 h1).1 q1
      have p2 := (eqB n h0 h1).1 q2
      have p3 := (VCal.unit_in h0 h1).2.1
      obtain ⟨⟨i, hi⟩, k, hk⟩ := both_in (u := u) (a := A) (b := B) (by omega) (by omega) h0 h1 (by omega) (by omega)
      rcases hn with e | e
      · rw [hi] at e; cases e
      · rw [hk] at e; cases e
    unfold ofS
    cases hi' : VCal.uof u A with
    | none => exact cond_yes rfl (hno (.inl hi'))
    | some i =>
      cases hk' : VCal.uof u B with
      | none => exact cond_no rfl (cond_yes rfl (hno (.inr hk')))
      | some k =>
        obtain ⟨i1, i2, i3, i4⟩ := VCal.uof_some.1 hi'
        obtain ⟨k1, k2, k3, k4⟩ := VCal.uof_some.1 hk'
        refine cond_no rfl (cond_no rfl (callP_eq ok_ref03_First (callP_eq ok_ref03_Last ?_)))
        have f1 : (firstS u i).1 = VCal.ufirst u i := by unfold firstS; rw [if_pos ⟨i1, i2⟩]
        have f2 : (lastS u k).1 = VCal.ulast u k := by unfold lastS; rw [if_pos ⟨k1, k2⟩]
        dsimp only
        rw [f1, f2, w64_of (n := i + 1) (by omega), w64_of (n := k - 1) (by omega)]
        have fin : ∀ x y, x = (if VCal.ufirst u i < A then i + 1 else i) → y = (if B < VCal.ulast u k then k - 1 else k) → callP bs 157 (.slice sRun) (.slice sRun) [(x, y)] (fun r => InR u lo hi r) := by
          intro x y hx hy
          refine callP_eq (ok_ref04_Make (by simp)) ⟨make_sane _, make_length [(x, y)], fun n => ?_⟩
          have x0 : 0 ≤ x := by rw [hx]; split <;> omega
          have y0 : y < VCal.ucount u := by rw [hy]; split <;> omega
          rw [mem_run x0 y0 hc.2]
          constructor
          · rintro ⟨p1, p2⟩
            have h0 : 0 ≤ n := Int.le_trans x0 p1
            have h1 : n < VCal.ucount u := Int.lt_of_le_of_lt p2 y0
            exact ⟨h0, h1, (eqA n h0 h1).2 ((inside_lo hi' h0 h1).2 (hx ▸ p1)), (eqB n h0 h1).2 ((inside_hi hk' h0 h1).2 (hy ▸ p2))⟩
          · rintro ⟨h0, h1, p1, p2⟩
            exact ⟨by rw [hx]; exact (inside_lo hi' h0 h1).1 ((eqA n h0 h1).1 p1), by rw [hy]; exact (inside_hi hk' h0 h1).1 ((eqB n h0 h1).1 p2)⟩
        exact cond_dec (fun c1 => cond_dec (fun c2 => fin _ _ (if_pos c1).symm (if_pos c2).symm) fun c2 => fin _ _ (if_pos c1).symm (if_neg c2).symm) fun c1 => cond_dec (fun c2 => fin _ _ (if_neg c1).symm (if_pos c2).symm) fun c2 => fin _ _ (if_neg c1).symm (if_neg c2).symm

def refToP (u A B : Int) (R : Runs → Prop) : Prop := cond (decide (B < A)) (R []) (callP bs 161 (.pair (.int .i64) (.int .i64)) (.tup (.pair (.int .i64) .bool)) (u, A) (fun r3
 => (callP bs 161 (.pair (.int .i64) (.int .i64)) (.tup (.pair (.int .i64) .bool)) (u, B) (fun r4 => (cond (!r3.2) (R []) (cond (!r4.2) (R []) (R [(r3.1, r4.1)])))))))

theorem ref_to {u lo hi A B : Int} (hA : A = max lo (day0 u)) (hB : B = min hi 3652424) : refToP u A B (ToR u lo hi) := by
  have hc := VCal.ucount_pos u
  have d0 : 0 ≤ day0 u ∧ day0 u ≤ 60 := by unfold day0; split <;> omega
  have none : (∀ n, 0 ≤ n → n < VCal.ucount u → ¬ (lo ≤ hi ∧ VCal.ufirst u n ≤ hi ∧ lo ≤ VCal.ulast u n)) → ToR u lo hi [] := fun h => ⟨trivial, Nat.zero_le _, fun n => ⟨fun q => (mem_nil q).elim, fun ⟨a, b, c⟩ => absurd c (h n a b)⟩⟩
  have eqA : ∀ n, 0 ≤ n → n < VCal.ucount u → (lo ≤ VCal.ulast u n ↔ A ≤ VCal.ulast u n) := fun n h0 h1 => by have := first_ge h0 h1; have := VCal.unit_in h0 h1; omega
  have eqB : ∀ n, 0 ≤ n → n < VCal.ucount u → (VCal.ufirst u n ≤ hi ↔ VCal.ufirst u n ≤ B) := fun n h0 h1 => by have := VCal.unit_in h0 h1; omega
  unfold refToP
  refine cond_dec (fun h => none fun n h0 h1 ⟨q0, q1, q2⟩ => ?_) fun h => ?_
  · have h : B < A := h
    have := first_ge h0 h1
    have := VCal.unit_in h0 h1
    omega
  · have h : ¬ B < A := h
    refine callP_eq ok_ref03_Of (callP_eq ok_ref03_Of ?_)
    have hno : (VCal.uof u A = Option.none ∨ VCal.uof u B = Option.none) → ToR u lo hi [] := fun hn => none fun n h0 h1 ⟨q0, q1, q2⟩ => by
      have p1 := (eqA n h0 h1).1 q2
      have p2 := (eqB n h0 h1).1 q1
      obtain ⟨⟨i, hi⟩, k, hk⟩ := both_in (u := u) (a := A) (b := B) (by omega) (by omega) h0 h1 p1 p2
      rcases hn with e | e
      · rw [hi] at e; cases e
      · rw [hk] at e; cases e
    unfold ofS
    cases hi' : VCal.uof u A with
    | none => exact cond_yes rfl (hno (.inl hi'))
    | some i =>
      cases hk' : VCal.uof u B with
      | none => exact cond_no rfl (cond_yes rfl (hno (.inr hk')))
      | some k =>
        obtain ⟨i1, i2, i3, i4⟩ := VCal.uof_some.1 hi'
        obtain ⟨k1, k2, k3, k4⟩ := VCal.uof_some.1 hk'
        have hik : i ≤ k := (touch_hi hk' i1 i2).1 (by omega)
        refine cond_no rfl (cond_no rfl ⟨⟨hik, by dsimp only; omega, by dsimp only; unfold Lim; omega, trivial⟩, Nat.le_refl _, fun n => ?_⟩)
        rw [mem_cons]
        constructor
        · rintro (⟨p1, p2⟩ | p)
          · have h0 : 0 ≤ n := by dsimp only at p1; omega
            have h1 : n < VCal.ucount u := by dsimp only at p2; omega
            exact ⟨h0, h1, by omega, (eqB n h0 h1).2 ((touch_hi hk' h0 h1).2 p2), (eqA n h0 h1).2 ((touch_lo hi' h0 h1).2 p1)⟩
          · exact (mem_nil p).elim
        · rintro ⟨h0, h1, _, p1, p2⟩
          exact .inl ⟨(touch_lo hi' h0 h1).1 ((eqA n h0 h1).1 p2), (touch_hi hk' h0 h1).1 ((eqB n h0 h1).1 p1)⟩

end Go.Proofs.YtocmlcpcnjaaeaaGreatDoor.V


/- The next numbers of a set, one by one; sets of sets' parts: plain facts. No program in sight. -/
namespace Go.Proofs.YtocmlcpcnjaaeaaGreatDoor.V
set_option linter.unusedVariables false
set_option linter.unusedSimpArgs false

theorem memL_make {x : Runs} {n : Int} : memL (makeF x) n ↔ memL x n := by
  constructor
  · exact fun h => mem_make.1 h.2.2
  · exact fun h => ⟨h.1, h.2.1, mem_make.2 h⟩

theorem make_append (x y : Runs) : makeF (makeF x ++ y) = makeF (x ++ y) := by
  refine sane_ext (make_sane _) (make_sane _) fun n => ?_
  rw [mem_make, mem_make, memL_append, memL_append, memL_make]

theorem make_one {a b : Int} (h : 0 ≤ a ∧ a ≤ 3652424 ∧ 0 ≤ b ∧ b ≤ 3652424) : makeF [(a, b)] = if b < a then [] else [(a, b)] := by
  split
  · rename_i q
    refine sane_nil (make_sane _) fun n hn => ?_
    have := (mem_make.1 hn).2.2
    rw [mem_cons] at this
    rcases this with h1 | h1
    · dsimp only at h1; omega
    · exact mem_nil h1
  · rename_i q
    refine make_self ⟨?_, ?_, ?_, trivial⟩
    · dsimp only; omega
    · dsimp only; omega
    · dsimp only; unfold Lim; omega

/-- The least number of a set from one on: the head of what is still to come. -/
theorem next_head {s : Runs} {n : Int} {v : Int} {b : Bool} {pre rest : List Int} (hs : nums s = pre ++ rest) (hp : ∀ m ∈ pre, m < n) (hr : ∀ m ∈ rest, n ≤ m) (hsort : rest.Pairwise (· < ·))
    (h : (b = false ∧ ∀ m, mem s m → m < n) ∨ (b = true ∧ mem s v ∧ n ≤ v ∧ ∀ m, mem s m → n ≤ m → v ≤ m)) : (rest = [] ∧ b = false) ∨ ∃ t, rest = v :: t ∧ b = true := by
  rcases h with ⟨h1, h2⟩ | ⟨h1, h2, h3, h4⟩
  · refine .inl ⟨?_, h1⟩
    cases rest with
    | nil => rfl
    | cons m t =>
      have := h2 m (mem_nums.1 (by rw [hs]; simp))
      have := hr m List.mem_cons_self
      omega
  · have hv := mem_nums.2 h2
    rw [hs] at hv
    rcases List.mem_append.1 hv with h | h
    · have := hp v h; omega
    · cases rest with
      | nil => cases h
      | cons m t =>
        have hm := h4 m (mem_nums.1 (by rw [hs]; simp)) (hr m List.mem_cons_self)
        rcases List.mem_cons.1 h with e | e
        · subst e; exact .inr ⟨t, rfl, h1⟩
        · have := (List.pairwise_cons.1 hsort).1 v e
          omega

theorem upTo_filter (lo hi s : Int) : (upTo lo hi).filter (fun n => decide (s ≤ n)) = upTo (max lo s) hi := by
  generalize hn : (hi + 1 - lo).toNat = n
  induction n generalizing lo with
  | zero =>
    rw [upTo_nil (by omega), upTo_nil (by omega)]; rfl
  | succ n ih =>
    rw [upTo_cons (by omega), List.filter_cons]
    by_cases h : s ≤ lo
    · rw [if_pos (by simpa using h), ih (lo + 1) (by omega), show max (lo + 1) s = lo + 1 by omega, show max lo s = lo by omega, ← upTo_cons (by omega)]
    · rw [if_neg (by simpa using h), ih (lo + 1) (by omega), show max (lo + 1) s = max lo s by omega]

/-- A set's numbers from one on. -/
theorem from_filter (b : Runs) (s : Int) : (b.flatMap fun r => upTo (max r.1 s) r.2) = (nums b).filter fun n => decide (s ≤ n) := by
  unfold nums
  induction b with
  | nil => rfl
  | cons r b ih => rw [List.flatMap_cons, List.flatMap_cons, List.filter_append, ih, upTo_filter]

theorem spanPairs_eq (a b : Runs) : spanPairs a b = (nums a).flatMap fun s => ((nums b).filter fun n => decide (s ≤ n)).map fun t => (s, t) := by
  unfold spanPairs
  congr 1
  funext s
  rw [← from_filter]
  rw [List.map_flatMap]
end Go.Proofs.YtocmlcpcnjaaeaaGreatDoor.V


/- lustrumref04.Has, ref05.Union, ref14.Covers, ref17: their contracts. No condition of its own. -/
namespace Go.Proofs.YtocmlcpcnjaaeaaGreatDoor.V
open Go
set_option linter.unusedVariables false
set_option linter.unusedSimpArgs false

theorem ok_ref04_Has {s : Runs} {n : Int} (hl : s.length ≤ 100000) : FnE bs n_lustrumref04_Has ((Shape.pair (.slice sRun) (.int .i64)).compsE (s, n)) .bool (· = decide (mem (makeF s) n)) := by
  refine ok_of (e_lustrumref04_Has (s, n) _) rfl ?_
  unfold c_lustrumref04_Has
  refine callP_eq (ok_ref04_As hl) ?_
  have hml := make_length s
  generalize makeF s = t at hml
  refine loopP_of (fun z : Int => ∃ k : Nat, z = k ∧ k ≤ t.length ∧ ∀ (i : Nat) r, i < k → t[i]? = some r → ¬ (r.1 ≤ n ∧ n ≤ r.2)) (fun z => t.length - z.toNat) ?_ ⟨0, rfl, Nat.zero_le _, fun i f h => by omega⟩
  rintro _ A ⟨k, rfl, hk, hi⟩ back
  refine cond_dec (fun h1 => ⟨⟨by omega, h1⟩, ?_⟩) fun h1 => ?_
  · have h1' : (k : Int) < t.length := h1
    have hk' : k < t.length := by omega
    have hg := List.getElem?_eq_getElem hk'
    generalize t[k] = r at hg
    have hrm := List.mem_of_getElem? hg
    dsimp only
    rw [toNat_ofNat, rd_of (s := sRun) hg, w_succ (by omega)]
    have go : ¬ (r.1 ≤ n ∧ n ≤ r.2) → A ((k + 1 : Nat) : Int) := fun hno => back _ ⟨k + 1, rfl, hk', fun i q hik hg2 => by
      by_cases e : i = k
      · subst e; rw [hg] at hg2; cases hg2; exact hno
      · exact hi i q (by omega) hg2⟩ (by omega)
    refine cond_dec (fun h2 => ⟨⟨by omega, h1⟩, cond_dec (fun h3 => ?_) fun h3 => go fun q => h3 q.2⟩) fun h2 => go fun q => h2 q.1
    exact be (decide_eq_true ⟨r, hrm, h2, h3⟩).symm
  · refine be (decide_eq_false ?_).symm
    rintro ⟨r, hr, h2, h3⟩
    obtain ⟨i, hi2⟩ := List.getElem?_of_mem hr
    have := (List.getElem?_eq_some_iff.1 hi2).1
    exact hi i r (by have h1 : ¬ (k : Int) < t.length := h1; omega) hi2 ⟨h2, h3⟩

theorem ok_ref05_Union {a b : Runs} (hl : a.length + b.length ≤ 100000) : FnE bs n_lustrumref05_Union ((Shape.pair (.slice sRun) (.slice sRun)).compsE (a, b)) (.slice sRun) (· = makeF (a ++ b)) := by
  refine ok_of (e_lustrumref05_Union (a, b) _) rfl ?_
  unfold c_lustrumref05_Union
  refine ⟨by simp only [List.length_nil]; omega, by simp only [List.nil_append]; omega, ?_⟩
  rw [List.nil_append]
  exact callP_eq (ok_ref04_Make (by rw [List.length_append]; exact hl)) rfl

theorem ok_ref17_Days {l : List Leaf} (hn : l.length ≤ 12) (hl : FewL 40 l) : FnE bs n_lustrumref17_Days ((Shape.slice sApiLeaf).compsE l) (.tup (.pair (.slice sRun) (.int .i64))) (· = if 400 < (daysF l).length then ([], 8) else (daysF l, 0)) := by
  refine ok_of (e_lustrumref17_Days l _) rfl ?_
  unfold c_lustrumref17_Days
  refine loopP_of (fun z : Runs × Int => ∃ k : Nat, z.2 = k ∧ k ≤ l.length ∧ z.1 = daysF (l.take k)) (fun z => l.length - z.2.toNat) ?_ ⟨0, rfl, Nat.zero_le _, rfl⟩
  rintro ⟨_, _⟩ A ⟨k, e1, hk, e2⟩ back
  dsimp only at e1 e2 ⊢
  subst e1 e2
  refine cond_dec (fun h1 => ⟨⟨by omega, h1⟩, ?_⟩) fun h1 => ?_
  · have h1 : (k : Int) < l.length := h1
    have hk' : k < l.length := by omega
    have hg := List.getElem?_eq_getElem hk'
    generalize l[k] = f at hg
    have hfm := List.mem_of_getElem? hg
    have hf := hl.2 f hfm
    have e : daysF (l.take (k + 1)) = makeF (daysF (l.take k) ++ partF f) := by
      unfold daysF
      rw [make_append]
      congr 1
      unfold daysL
      rw [List.take_add_one, hg, List.flatMap_append]
      simp
    have hle : (daysF (l.take k)).length ≤ 492 := by
      have h2 := days_length (l.take k) (n := 40) fun f hf => (hl.2 f (List.mem_of_mem_take hf)).1
      have h3 := make_length (daysL (l.take k))
      rw [List.length_take] at h2
      have : min k l.length * (40 + 1) ≤ 12 * (40 + 1) := Nat.mul_le_mul_right _ (by omega)
      unfold daysF
      omega
    rw [toNat_ofNat, rd_of (s := sApiLeaf) hg, w_succ (a := k) (by omega)]
    refine callP_eq (ok_ref14_Tidy (f := f) (by omega) (by omega)) ?_
    have go : A (makeF (daysF (l.take k) ++ partF f), ((k + 1 : Nat) : Int)) := back _ ⟨k + 1, rfl, hk', e.symm⟩ (by dsimp only; omega)
    have pl := part_length f
    unfold partF at go pl
    unfold tidyF
    rcases ho : ofF f with _ | ⟨u, s⟩ | ⟨a, b⟩
    · rw [ho] at go
      rw [List.append_nil, make_self (days_sane _)] at go
      exact cond_yes rfl go
    · rw [ho] at go pl
      obtain ⟨q1, q2, rfl, rfl, q5, q6, q7⟩ := of_units ho
      dsimp only at go pl ⊢
      refine cond_no (decide_eq_false fun q => q5 (len_zero.1 q)) (callP_eq (ok_ref07_Cover (by omega)) (cond_no rfl (callP_eq (ok_ref05_Union (by omega)) go)))
    · rw [ho] at go pl
      obtain ⟨sa, sb, na, nb, l1, l2⟩ := span_ends ho
      have hsl := span_lens ho
      dsimp only at go pl ⊢
      refine cond_no (decide_eq_false fun q => na (len_zero.1 q)) (callP_eq (ok_ref07_Cover (by omega)) (cond_yes rfl ⟨first_in na, last_in nb (by omega), ?_⟩))
      rw [rd_lo na, rd_hi nb (by omega)]
      exact callP_eq (ok_ref05_Union (by simp only [List.length_cons, List.length_nil]; omega)) go
  · rw [List.take_of_length_le (by have h1 : ¬ (k : Int) < l.length := h1; omega)]
    refine cond_dec (fun h => ?_) fun h => ?_
    · have h : (400 : Int) < ((daysF l).length : Int) := h
      exact (if_pos (by omega)).symm
    · have h : ¬ (400 : Int) < ((daysF l).length : Int) := h
      exact (if_neg (by omega)).symm

theorem sure_bounds {l : List Leaf} {q : Q4} (h : allF l = some q) : 0 ≤ q.2.1 ∧ q.2.1 ≤ 3652424 ∧ 0 ≤ q.2.2.1 ∧ q.2.2.1 ≤ 3652424 := by
  rcases all_spec l with ⟨h1, _⟩ | ⟨q', h1, h0, _, ⟨p2, c2, d2⟩, ⟨p3, c3, d3⟩, _⟩
  · rw [h1] at h; cases h
  · rw [h1] at h
    cases h
    have := any_in c2
    have := any_in c3
    omega

theorem sure_one {l : List Leaf} {q : Q4} (h : allF l = some q) {d : Int} : mem (sureF l) d ↔ q.2.1 ≤ d ∧ d ≤ q.2.2.1 := by
  have hb := sure_bounds h
  unfold sureF
  rw [h]
  dsimp only
  rw [make_one hb]
  split
  · exact ⟨fun h => (mem_nil h).elim, fun h => by omega⟩
  · rw [mem_cons]
    exact ⟨fun h => h.elim id fun h => (mem_nil h).elim, .inl⟩

end Go.Proofs.YtocmlcpcnjaaeaaGreatDoor.V


/- lustrumref14, and lustrumlaw14.LeafIs: their conditions. No condition of its own. -/
namespace Go.Proofs.YtocmlcpcnjaaeaaGreatDoor.V
open Go
set_option linter.unusedVariables false
set_option linter.unusedSimpArgs false

theorem ok_ref04_Next {s : Runs} {n : Int} (hl : s.length ≤ 100000) : FnE bs n_lustrumref04_Next ((Shape.pair (.slice sRun) (.int .i64)).compsE (s, n)) (.tup (.pair (.int .i64) .bool)) (NextR (makeF s) n) := by
  refine ok_of (e_lustrumref04_Next (s, n) _) rfl ?_
  unfold c_lustrumref04_Next
  refine callP_eq (ok_ref04_As hl) ?_
  have hml := make_length s
  have hs := make_sane s
  generalize makeF s = t at hml hs
  refine loopP_of (fun z : Int => ∃ k : Nat, z = k ∧ k ≤ t.length ∧ ∀ (i : Nat) r, i < k → t[i]? = some r → r.2 < n) (fun z => t.length - z.toNat) ?_ ⟨0, rfl, Nat.zero_le _, fun i f h => by omega⟩
  rintro _ A ⟨k, rfl, hk, hi⟩ back
  refine cond_dec (fun h1 => ⟨⟨by omega, h1⟩, ?_⟩) fun h1 => ?_
  · have h1' : (k : Int) < t.length := h1
    have hk' : k < t.length := by omega
    have hg := List.getElem?_eq_getElem hk'
    generalize t[k] = r at hg
    have hrm := List.mem_of_getElem? hg
    dsimp only
    rw [toNat_ofNat, rd_of (s := sRun) hg, w_succ (by omega)]
    refine cond_dec (fun h2 => ⟨⟨by omega, h1⟩, ?_⟩) fun h2 => ?_
    · have h2 : n ≤ r.2 := h2
      have hr := Sane.bounds hs r hrm
      refine .inr ⟨rfl, ⟨r, hrm, ?_, ?_⟩, ?_, fun m hm hnm => ?_⟩ <;> dsimp only <;> rw [max_max]
      · omega
      · omega
      · omega
      · obtain ⟨q, hq, q1, q2⟩ := hm
        obtain ⟨i, hi2⟩ := List.getElem?_of_mem hq
        rcases Nat.lt_trichotomy i k with e | e | e
        · have := hi i q e hi2; omega
        · subst e; rw [hg] at hi2; cases hi2; omega
        · have := SaneFrom.get hs k i r q hg hi2 e
          omega
    · have h2 : ¬ n ≤ r.2 := h2
      refine back _ ⟨k + 1, rfl, hk', fun i q hik hg2 => ?_⟩ (by omega)
      by_cases e : i = k
      · subst e; rw [hg] at hg2; cases hg2; omega
      · exact hi i q (by omega) hg2
  · refine .inl ⟨rfl, fun m hm => ?_⟩
    obtain ⟨q, hq, q1, q2⟩ := hm
    obtain ⟨i, hi2⟩ := List.getElem?_of_mem hq
    have := (List.getElem?_eq_some_iff.1 hi2).1
    have := hi i q (by have h1 : ¬ (k : Int) < t.length := h1; omega) hi2
    omega

theorem ok_ref14_some {s : Runs} : FnE bs n_lustrumref14_some ((Shape.slice sRun).compsE s) (.tup (.pair (.slice sRun) .bool)) (· = knownF s) := by
  refine ok_of (e_lustrumref14_some s _) rfl ?_
  unfold c_lustrumref14_some knownF
  refine cond_dec (fun h => ?_) fun h => ?_
  · have h : (400 : Int) < (s.length : Int) := h
    exact (if_pos (by omega)).symm
  · have h : ¬ (400 : Int) < (s.length : Int) := h
    exact (if_neg (by omega)).symm

theorem marks_empty (g : Int → Int → Int) : marksF g 0 [] = ([], true) := by
  unfold marksF
  rw [if_pos rfl]
  rfl

theorem ok_ref14_Starts {f : Leaf} (hla : f.2.2.1.length ≤ 1000) (hlb : f.2.2.2.length ≤ 1000) : FnE bs n_lustrumref14_Starts (sApiLeaf.compsE f) (.tup (.pair (.slice sRun) .bool)) (· = startsL f) := by
  refine ok_of (e_lustrumref14_Starts f _) rfl ?_
  unfold c_lustrumref14_Starts
  refine callP_eq (ok_ref14_Tidy (f := f) hla hlb) ?_
  unfold tidyF startsL
  rcases ho : ofF f with _ | ⟨u, s⟩ | ⟨a, b⟩
  · exact cond_no rfl (callP_eq (ok_ref07_Starts (by decide)) (marks_empty VCal.ufirst))
  · obtain ⟨q1, q2, rfl, rfl, q5, q6, q7⟩ := of_units ho
    exact cond_no rfl (callP_eq (ok_ref07_Starts hla) rfl)
  · exact cond_yes rfl (callP_eq ok_ref14_some rfl)

theorem ok_ref14_Ends {f : Leaf} (hla : f.2.2.1.length ≤ 1000) (hlb : f.2.2.2.length ≤ 1000) : FnE bs n_lustrumref14_Ends (sApiLeaf.compsE f) (.tup (.pair (.slice sRun) .bool)) (· = endsL f) := by
  refine ok_of (e_lustrumref14_Ends f _) rfl ?_
  unfold c_lustrumref14_Ends
  refine callP_eq (ok_ref14_Tidy (f := f) hla hlb) ?_
  unfold tidyF endsL
  rcases ho : ofF f with _ | ⟨u, s⟩ | ⟨a, b⟩
  · exact cond_no rfl (callP_eq (ok_ref07_Ends (by decide)) (marks_empty VCal.ulast))
  · obtain ⟨q1, q2, rfl, rfl, q5, q6, q7⟩ := of_units ho
    exact cond_no rfl (callP_eq (ok_ref07_Ends hla) rfl)
  · exact cond_yes rfl (callP_eq ok_ref14_some rfl)

theorem ref14_Has {f : Leaf} {p : Int × Int} (hla : f.2.2.1.length ≤ 1000) (hlb : f.2.2.2.length ≤ 1000) : FnE bs n_lustrumref14_Has ((Shape.pair sApiLeaf sRun).compsE (f, p)) .bool (fun r => r = true ↔ HasF f p) := by
  refine ok_of (e_lustrumref14_Has (f, p) _) rfl ?_
  unfold c_lustrumref14_Has
  refine callP_eq (ok_ref14_As (f := f) (by omega) (by omega)) ?_
  have no : ∀ {P : Prop}, ¬ P → ((false = true) ↔ P) := fun h => ⟨fun q => (by cases q), fun q => absurd q h⟩
  unfold asL
  by_cases hs : LeafSane f
  · rw [if_pos hs]
    have hs' := hs
    unfold LeafSane at hs'
    cases h1 : f.1 with
    | true =>
      rw [if_pos h1] at hs'
      rw [has_span hs h1]
      refine cond_yes rfl (cond_dec (fun h2 => callP_eq (ok_ref04_Has (by omega)) ?_) fun h2 => no fun h => h2 h.1)
      rw [make_self hs'.2.1.1]
      refine cond_dec (fun h3 => callP_of (ok_ref04_Has (by omega)) fun r hr => ?_) fun h3 => no fun h => h3 h.2.1
      rw [hr]
      show (decide (mem (makeF f.2.2.2) p.2) = true) ↔ _
      rw [decide_eq_true_iff, make_self hs'.2.2.1]
      exact ⟨fun h => ⟨h2, h3, h⟩, fun h => h.2.2⟩
    | false =>
      rw [if_neg (by rw [h1]; exact Bool.false_ne_true)] at hs'
      rw [has_units hs h1]
      refine cond_no rfl (callP_eq ok_ref03_Of ?_)
      have hof : ofS f.2.1 p.1 = match VCal.uof f.2.1 p.1 with | some n => (n, true) | none => (0, false) := rfl
      dsimp only
      rcases hu : VCal.uof f.2.1 p.1 with _ | i
      · rw [hu] at hof
        rw [hof]
        exact cond_yes rfl (no fun ⟨i, h, _⟩ => by cases h)
      · rw [hu] at hof
        rw [hof]
        have hi := VCal.uof_some.1 hu
        refine cond_no rfl (callP_eq (ok_ref04_Has (by omega)) ?_)
        rw [make_self hs'.2.1.1]
        refine cond_not (fun h => no ?_) fun h => callP_eq ok_ref03_First (callP_eq ok_ref03_Last ?_)
        · have h := of_decide_eq_false h
          rintro ⟨j, q1, q2, _⟩
          cases q1
          exact h q2
        · have h := of_decide_eq_true h
          have f1 : (firstS f.2.1 i).1 = VCal.ufirst f.2.1 i := by unfold firstS; rw [if_pos ⟨hi.1, hi.2.1⟩]
          have f2 : (lastS f.2.1 i).1 = VCal.ulast f.2.1 i := by unfold lastS; rw [if_pos ⟨hi.1, hi.2.1⟩]
          dsimp only
          rw [f1, f2]
          refine cond_dec (fun h2 => ?_) fun h2 => no fun ⟨j, q1, q2, q3⟩ => h2 (by cases q1; rw [q3])
          show (decide (p.2 = VCal.ulast f.2.1 i) = true) ↔ _
          rw [decide_eq_true_iff]
          exact ⟨fun h3 => ⟨i, rfl, h, Prod.ext h2 h3⟩, fun ⟨j, q1, q2, q3⟩ => by cases q1; rw [q3]⟩
  · rw [if_neg hs]
    have hn : ¬ HasF f p := by
      unfold HasF ofF
      rw [if_pos (.inl hs)]
      exact id
    refine cond_no rfl (callP_eq ok_ref03_Of (cond_not (fun _ => no hn) fun _ => callP_eq (ok_ref04_Has (by decide)) (cond_yes ?_ (no hn))))
    rw [decide_eq_false]
    · rfl
    · exact mem_nil

theorem sorted_split (s : Int) : ∀ {l : List Int}, l.Pairwise (· < ·) → l = (l.filter fun n => decide (n < s)) ++ l.filter fun n => decide (s ≤ n)
  | [], _ => rfl
  | x :: l, h => by
    obtain ⟨h1, h2⟩ := List.pairwise_cons.1 h
    have ih := sorted_split s h2
    rw [List.filter_cons, List.filter_cons]
    by_cases hx : x < s
    · rw [if_pos (by simpa using hx), if_neg (by simp; omega), List.cons_append, ← ih]
    · rw [if_neg (by simpa using hx), if_pos (by simp; omega)]
      have e : l.filter (fun n => decide (n < s)) = [] := List.filter_eq_nil_iff.2 fun m hm => by have := h1 m hm; simp; omega
      have e2 : l.filter (fun n => decide (s ≤ n)) = l := List.filter_eq_self.2 fun m hm => by have := h1 m hm; simp; omega
      rw [e, e2, List.nil_append]

theorem nextB {s : Runs} (hs : Sane s) {n : Int} {r : Int × Bool} {pre rest : List Int} (he : nums s = pre ++ rest) (hp : ∀ m ∈ pre, m < n) (hr : ∀ m ∈ rest, n ≤ m) (h : NextR s n r) : (rest = [] ∧ r.2 = false) ∨ ∃ t, rest = r.1 :: t ∧ r.2 = true := by
  have hsort := nums_sorted hs
  rw [he] at hsort
  refine next_head he hp hr (List.pairwise_append.1 hsort).2.1 ?_
  rcases h with ⟨h1, h2⟩ | h
  · exact .inl ⟨by rw [h1], h2⟩
  · exact .inr h

theorem split_step {l pre t : List Int} {x : Int} (h : l.Pairwise (· < ·)) (he : l = pre ++ x :: t) : (∀ m ∈ pre ++ [x], m < x + 1) ∧ ∀ m ∈ t, x + 1 ≤ m := by
  rw [he] at h
  obtain ⟨h1, h2, h3⟩ := List.pairwise_append.1 h
  have h4 := (List.pairwise_cons.1 h2).1
  refine ⟨fun m hm => ?_, fun m hm => by have := h4 m hm; omega⟩
  rcases List.mem_append.1 hm with q | q
  · have := h3 m q x List.mem_cons_self; omega
  · rw [List.mem_singleton] at q; omega

theorem tidy_small {f : Leaf} : (tidyF f).2.2.1.length ≤ f.2.2.1.length ∧ (tidyF f).2.2.2.length ≤ f.2.2.2.length := by
  unfold tidyF
  rcases ho : ofF f with _ | ⟨u, s⟩ | ⟨a, b⟩
  · exact ⟨Nat.zero_le _, Nat.zero_le _⟩
  · obtain ⟨q1, q2, rfl, rfl, q5, q6, q7⟩ := of_units ho
    exact ⟨Nat.le_refl _, Nat.zero_le _⟩
  · exact span_lens ho

end Go.Proofs.YtocmlcpcnjaaeaaGreatDoor.V


/- Package relate: what its functions on two views answer. No condition of its own. -/
namespace Go.Proofs.YtocmlcpcnjaaeaaGreatDoor.V
open Go
set_option linter.unusedVariables false
set_option linter.unusedSimpArgs false

theorem ok_relate_one {d : Int} : FnE bs n_relate_one ((Shape.int .i64).compsE d) (.slice sRun) (· = [(d, d)]) := ok_of (e_relate_one d _) rfl rfl

theorem ok_relate_least {s : Runs} (h : s ≠ []) : FnE bs n_relate_least ((Shape.slice sRun).compsE s) (.int .i64) (· = loF s) := by
  refine ok_of (e_relate_least s _) rfl ?_
  unfold c_relate_least
  exact ⟨first_in h, rd_lo h⟩

theorem ok_relate_greatest {s : Runs} (h : s ≠ []) (hl : s.length ≤ 1000000000) : FnE bs n_relate_greatest ((Shape.slice sRun).compsE s) (.int .i64) (· = hiF s) := by
  refine ok_of (e_relate_greatest s _) rfl ?_
  unfold c_relate_greatest
  exact ⟨last_in h hl, rd_hi h hl⟩

theorem ok_runs_PrevS {s : Runs} {n : Int} (hl : s.length < 65536) (h : Sane s) : FnE bs n_runs_Prev ((Shape.pair (.slice sRun) (.int .i64)).compsE (s, n)) (.tup (.pair (.int .i64) .bool)) (PrevR s n) := by
  have := ok_runs_PrevA (s := s) (n := n) hl
  rw [make_self h] at this
  exact this

theorem ok_relate_firstEnd {x : View} {s : Int} (h : VOK x) (k : mem x.2.1 s) : FnE bs n_relate_view_firstEnd ((Shape.pair sRelateView (.int .i64)).compsE (x, s)) (.tup (.pair (.int .i64) .bool)) (FirstR x s) := by
  refine ok_of (e_relate_view_firstEnd (x, s) _) rfl ?_
  unfold c_relate_view_firstEnd
  refine cond_bool (fun e => first_single e k) fun e => ?_
  exact callP_of (ok_runs_Next (s := x.2.2) (n := s) (Nat.le_trans h.lb (by decide)) h.wb.1) fun r hr => first_next h e k hr

theorem ok_relate_lastStart {x : View} {t : Int} (h : VOK x) (k : mem x.2.2 t) : FnE bs n_relate_view_lastStart ((Shape.pair sRelateView (.int .i64)).compsE (x, t)) (.tup (.pair (.int .i64) .bool)) (LastR x t) := by
  refine ok_of (e_relate_view_lastStart (x, t) _) rfl ?_
  unfold c_relate_view_lastStart
  refine cond_bool (fun e => last_single h e k) fun e => ?_
  exact callP_of (ok_runs_PrevS (s := x.2.1) (n := t) (Nat.lt_of_le_of_lt h.la (by decide)) h.wa.1) fun r hr => last_prev h e k hr

/-- A set, a number further on. -/
def shiftF (s : Runs) (k : Int) : Runs := s.map fun r => (r.1 + k, r.2 + k)

theorem mem_shift {s : Runs} {k n : Int} : mem (shiftF s k) n ↔ mem s (n - k) := by
  unfold mem shiftF
  simp only [List.mem_map]
  constructor
  · rintro ⟨_, ⟨r, hr, rfl⟩, h1, h2⟩
    exact ⟨r, hr, by dsimp only at h1; omega, by dsimp only at h2; omega⟩
  · rintro ⟨r, hr, h1, h2⟩
    exact ⟨_, ⟨r, hr, rfl⟩, by dsimp only; omega, by dsimp only; omega⟩

theorem ok_sets_moved {s : Runs} {k : Int} (hl : s.length ≤ 1000) (h : Sane s) (hk : 0 ≤ k ∧ k ≤ 1) : FnE bs n_sets_moved ((Shape.pair (.slice sRun) (.pair (.int .i64) (.int .i64))).compsE (s, k, k)) (.slice sRun) (· = makeF (shiftF s k)) := by
  refine ok_of (e_sets_moved (s, k, k) _) rfl ?_
  unfold c_sets_moved
  refine callP_eq (ok_sets_known (by dsimp only; omega) h) ?_
  refine loopP_of (fun z : Unit × Int × Runs => ∃ j : Nat, z.2.1 = j ∧ j ≤ s.length ∧ z.2.2 = shiftF (s.take j) k) (fun z => s.length - z.2.1.toNat) ?_ ⟨0, rfl, Nat.zero_le _, rfl⟩
  rintro ⟨u, _, acc⟩ A ⟨j, e1, hj, e2⟩ back
  dsimp only at e1 e2 ⊢
  subst e1
  subst e2
  refine cond_dec (fun h1 => ⟨⟨by omega, h1⟩, ?_⟩) fun h1 => ?_
  · have h1 : (j : Int) < s.length := h1
    have hj' : j < s.length := by omega
    have hg := List.getElem?_eq_getElem hj'
    have hb := Sane.bounds h s[j] (List.getElem_mem hj')
    generalize s[j] = r at hg hb
    unfold Lim at hb
    rw [toNat_ofNat, rd_of (s := sRun) hg, w_succ (by omega), w64_of (n := r.1 + k) (by omega), w64_of (n := r.2 + k) (by omega)]
    have hsl : (shiftF (s.take j) k).length = j := by unfold shiftF; rw [List.length_map, List.length_take]; omega
    refine ⟨?_, back ((), ((j + 1 : Nat) : Int), _) ⟨j + 1, rfl, hj', ?_⟩ (by dsimp only; omega)⟩
    · rw [hsl]; simp only [List.length_cons, List.length_nil]; omega
    · rw [List.take_add_one, hg]
      unfold shiftF
      rw [List.map_append]
      rfl
  · have hjl : j = s.length := by have h1 : ¬ (j : Int) < s.length := h1; omega
    subst hjl
    rw [List.take_length]
    exact callP_eq (ok_runs_Make (by unfold shiftF; rw [List.length_map]; omega)) rfl

theorem ok_sets_Shift1 {s : Runs} (hl : s.length ≤ 1000) (h : Within s 3652424) : FnE bs n_sets_Shift ((Shape.pair (.slice sRun) (.int .i64)).compsE (s, 1)) (.slice sRun) (fun r => Sane r ∧ r.length ≤ 1000 ∧ ∀ n, mem r n ↔ mem s (n - 1)) := by
  refine ok_of (e_sets_Shift (s, 1) _) rfl ?_
  unfold c_sets_Shift
  refine cond_dec (fun q => by exact absurd (show (2199023255552 : Int) < 1 from q) (by decide)) fun _ => cond_dec (fun q => by exact absurd (show (1 : Int) < -2199023255552 from q) (by decide)) fun _ => ?_
  refine callP_eq (ok_sets_moved hl h.1 (show (0 : Int) ≤ 1 ∧ (1 : Int) ≤ 1 by decide)) ⟨make_sane _, Nat.le_trans (make_length _) (by unfold shiftF; rw [List.length_map]; exact hl), fun n => ?_⟩
  rw [mem_make]
  unfold memL
  rw [mem_shift]
  constructor
  · exact fun q => q.2.2
  · intro q
    have := Within.bounds h q
    unfold Lim
    exact ⟨by omega, by omega, q⟩

theorem pos_mem {r : Runs} (h : Sane r) : (0 : Int) < (r.length : Int) ↔ ∃ n, mem r n := by
  constructor
  · intro q
    have hne : r ≠ [] := fun e => by subst e; simp at q
    exact ⟨_, mem_lo h hne⟩
  · rintro ⟨n, r', hr, _⟩
    have := List.length_pos_of_mem hr
    omega

section
variable {x y : View} (hx : VOK x) (hy : VOK y)
include hx hy

theorem ok_relate_before : FnE bs n_relate_view_before ((Shape.pair sRelateView sRelateView).compsE (x, y)) .bool (fun r => r = true ↔ Rel 0 x y) := by
  refine ok_of (e_relate_view_before (x, y) _) rfl ?_
  unfold c_relate_view_before
  refine callP_eq (ok_relate_least hx.nb) (callP_eq (ok_relate_greatest hy.na (Nat.le_trans hy.la (by decide))) ?_)
  have hb := Within.bounds hx.wb (mem_lo hx.wb.1 hx.nb)
  rw [w64_of (by dsimp only; omega)]
  show decide _ = true ↔ _
  rw [decide_eq_true_iff]
  exact before_iff hx hy

theorem ok_relate_meets : FnE bs n_relate_view_meets ((Shape.pair sRelateView sRelateView).compsE (x, y)) .bool (fun r => r = true ↔ Rel 1 x y) := by
  refine ok_of (e_relate_view_meets (x, y) _) rfl ?_
  unfold c_relate_view_meets
  refine callP_of (ok_sets_Shift1 hx.lb hx.wb) fun s hs => ?_
  refine callP_of (ok_sets_Meet (a := s) (b := y.2.1) (Nat.le_trans hs.2.1 (by decide)) (Nat.le_trans hy.la (by decide)) hs.1 hy.wa.1) fun r hr => ?_
  show decide _ = true ↔ _
  rw [decide_eq_true_iff, pos_mem hr.1, ← meets_iff hx hy]
  constructor
  · rintro ⟨n, hn⟩
    have := (hr.2.2 n).1 hn
    exact ⟨n - 1, (hs.2.2 n).1 this.1, by rw [show n - 1 + 1 = n by omega]; exact this.2⟩
  · rintro ⟨n, h1, h2⟩
    exact ⟨n + 1, (hr.2.2 _).2 ⟨(hs.2.2 _).2 (by rw [show n + 1 - 1 = n by omega]; exact h1), h2⟩⟩

theorem ok_relate_overlaps : FnE bs n_relate_view_overlaps ((Shape.pair sRelateView sRelateView).compsE (x, y)) .bool (fun r => r = true ↔ Rel 2 x y) := by
  refine ok_of (e_relate_view_overlaps (x, y) _) rfl ?_
  unfold c_relate_view_overlaps
  refine cond_bool (fun e => ⟨fun q => (by cases q), fun q => (overlaps_no hx hy (.inl e) q).elim⟩) fun ex => cond_bool (fun e => ⟨fun q => (by cases q), fun q => (overlaps_no hx hy (.inr e) q).elim⟩) fun ey => ?_
  refine callP_eq (ok_relate_least hx.na) ?_
  have hb := Within.bounds hx.wa (mem_lo hx.wa.1 hx.na)
  have hb2 := Within.bounds hy.wb (mem_hi hy.wb.1 hy.nb)
  rw [w64_of (by dsimp only; omega)]
  refine callP_of (ok_runs_Next (s := y.2.1) (n := loF x.2.1 + 1) (Nat.le_trans hy.la (by decide)) hy.wa.1) fun r hr => ?_
  refine callP_eq (ok_relate_greatest hy.nb (Nat.le_trans hy.lb (by decide))) ?_
  rw [w64_of (by dsimp only; omega)]
  refine callP_of (ok_runs_PrevS (s := x.2.2) (n := hiF y.2.2 - 1) (Nat.lt_of_le_of_lt hx.lb (by decide)) hx.wb.1) fun w hw => ?_
  have key := overlaps_iff hx hy ex ey hr hw
  refine cond_bool (fun h1 => cond_bool (fun h2 => ?_) fun h2 => ?_) fun h1 => ?_
  · show decide _ = true ↔ _
    rw [decide_eq_true_iff, ← key]
    exact ⟨fun q => ⟨h1, h2, q⟩, fun q => q.2.2⟩
  · rw [← key]
    exact ⟨fun q => (by cases q), fun q => (by rw [h2] at q; cases q.2.1)⟩
  · rw [← key]
    exact ⟨fun q => (by cases q), fun q => (by rw [h1] at q; cases q.1)⟩

theorem ok_relate_starts : FnE bs n_relate_view_starts ((Shape.pair sRelateView sRelateView).compsE (x, y)) .bool (fun r => r = true ↔ Rel 3 x y) := by
  refine ok_of (e_relate_view_starts (x, y) _) rfl ?_
  unfold c_relate_view_starts
  refine callP_of (ok_sets_Meet (a := x.2.1) (b := y.2.1) (Nat.le_trans hx.la (by decide)) (Nat.le_trans hy.la (by decide)) hx.wa.1 hy.wa.1) fun c hc => ?_
  refine cond_dec (fun e => ⟨fun q => (by cases q), fun q => (starts_no hx hy hc.2.2 (.inl (len_zero.1 e)) q).elim⟩) fun nc => cond_bool (fun e => ⟨fun q => (by cases q), fun q => (starts_no hx hy hc.2.2 (.inr e) q).elim⟩) fun ey => ?_
  have nc : c ≠ [] := fun e => nc (len_zero.2 e)
  refine callP_eq (ok_relate_least nc) (callP_of (ok_relate_firstEnd hx ((hc.2.2 _).1 (mem_lo hc.1 nc)).1) fun r hr => cond_yes hr.1 (callP_eq (ok_relate_greatest hy.nb (Nat.le_trans hy.lb (by decide))) ?_))
  show decide _ = true ↔ _
  rw [decide_eq_true_iff]
  exact starts_iff hx hy ey hc.1 nc hc.2.2 hr

theorem ok_relate_during : FnE bs n_relate_view_during ((Shape.pair sRelateView sRelateView).compsE (x, y)) .bool (fun r => r = true ↔ Rel 4 x y) := by
  refine ok_of (e_relate_view_during (x, y) _) rfl ?_
  unfold c_relate_view_during
  refine callP_eq (ok_relate_least hy.na) ?_
  have hb := Within.bounds hy.wa (mem_lo hy.wa.1 hy.na)
  rw [w64_of (by dsimp only; omega)]
  refine callP_of (ok_runs_Next (s := x.2.1) (n := loF y.2.1 + 1) (Nat.le_trans hx.la (by decide)) hx.wa.1) fun w hw => ?_
  refine cond_not (fun e => ⟨fun q => (by cases q), fun q => (during_no hx hy hw (.inl e) q).elim⟩) fun ew => cond_bool (fun e => ⟨fun q => (by cases q), fun q => (during_no hx hy hw (.inr e) q).elim⟩) fun ey => ?_
  have hm : mem x.2.1 w.1 := by
    rcases hw with ⟨e, _⟩ | ⟨_, q, _⟩
    · rw [e] at ew; cases ew
    · exact q
  refine callP_of (ok_relate_firstEnd hx hm) fun r hr => cond_yes hr.1 (callP_eq (ok_relate_greatest hy.nb (Nat.le_trans hy.lb (by decide))) ?_)
  show decide _ = true ↔ _
  rw [decide_eq_true_iff]
  exact during_iff hx hy ey hw ew hr

theorem ok_relate_finishes : FnE bs n_relate_view_finishes ((Shape.pair sRelateView sRelateView).compsE (x, y)) .bool (fun r => r = true ↔ Rel 5 x y) := by
  refine ok_of (e_relate_view_finishes (x, y) _) rfl ?_
  unfold c_relate_view_finishes
  refine callP_of (ok_sets_Meet (a := x.2.2) (b := y.2.2) (Nat.le_trans hx.lb (by decide)) (Nat.le_trans hy.lb (by decide)) hx.wb.1 hy.wb.1) fun c hc => ?_
  refine cond_dec (fun e => ⟨fun q => (by cases q), fun q => (finishes_no hx hy hc.2.2 (.inl (len_zero.1 e)) q).elim⟩) fun nc => cond_bool (fun e => ⟨fun q => (by cases q), fun q => (finishes_no hx hy hc.2.2 (.inr e) q).elim⟩) fun ey => ?_
  have nc : c ≠ [] := fun e => nc (len_zero.2 e)
  have hcl : c.length ≤ 1000000000 := by have := hc.2.1; have := hx.lb; have := hy.lb; omega
  refine callP_eq (ok_relate_greatest nc hcl) (callP_of (ok_relate_lastStart hx ((hc.2.2 _).1 (mem_hi hc.1 nc)).1) fun r hr => cond_yes hr.1 (callP_eq (ok_relate_least hy.na) ?_))
  show decide _ = true ↔ _
  rw [decide_eq_true_iff]
  exact finishes_iff hx hy ey hc.1 nc hc.2.2 hr

theorem ok_relate_equals : FnE bs n_relate_view_equals ((Shape.pair sRelateView sRelateView).compsE (x, y)) .bool (fun r => r = true ↔ Rel 6 x y) := by
  refine ok_of (e_relate_view_equals (x, y) _) rfl ?_
  unfold c_relate_view_equals
  refine callP_of (ok_sets_Meet (a := x.2.1) (b := y.2.1) (Nat.le_trans hx.la (by decide)) (Nat.le_trans hy.la (by decide)) hx.wa.1 hy.wa.1) fun s hs => ?_
  refine callP_of (ok_sets_Meet (a := x.2.2) (b := y.2.2) (Nat.le_trans hx.lb (by decide)) (Nat.le_trans hy.lb (by decide)) hx.wb.1 hy.wb.1) fun t ht => ?_
  have hsl : s.length ≤ 1000000000 := by have := hs.2.1; have := hx.la; have := hy.la; omega
  have htl : t.length ≤ 1000000000 := by have := ht.2.1; have := hx.lb; have := hy.lb; omega
  have one : (x.1 = true ∨ y.1 = true) → ∀ r, MeetR s t r → (decide ((0 : Int) < (r.length : Int)) = true ↔ Rel 6 x y) := fun e r hr => by
    rw [decide_eq_true_iff, pos_mem hr.1, ← equals_one hx hy e hs.2.2 ht.2.2]
    exact ⟨fun ⟨n, h⟩ => ⟨n, (hr.2.2 n).1 h⟩, fun ⟨n, h⟩ => ⟨n, (hr.2.2 n).2 h⟩⟩
  refine cond_bool (fun e => callP_of (ok_sets_Meet hsl htl hs.1 ht.1) fun r hr => one (.inl e) r hr) fun ex => cond_bool (fun e => callP_of (ok_sets_Meet hsl htl hs.1 ht.1) fun r hr => one (.inr e) r hr) fun ey => ?_
  refine cond_dec (fun h1 => cond_dec (fun h2 => ?_) fun h2 => ?_) fun h1 => ?_
  · have ns : s ≠ [] := fun e => by subst e; exact absurd (show (0 : Int) < 0 from h1) (by decide)
    have nt : t ≠ [] := fun e => by subst e; exact absurd (show (0 : Int) < 0 from h2) (by decide)
    refine callP_eq (ok_relate_least ns) (callP_eq (ok_relate_greatest nt htl) ?_)
    show decide _ = true ↔ _
    rw [decide_eq_true_iff]
    exact equals_iff hx hy ex ey hs.1 ht.1 ns nt hs.2.2 ht.2.2
  · have nt : t = [] := len_zero.1 (by have h2 : ¬ (0 : Int) < t.length := h2; omega)
    exact ⟨fun q => (by cases q), fun q => (equals_no hx hy hs.2.2 ht.2.2 (.inr nt) q).elim⟩
  · have ns : s = [] := len_zero.1 (by have h1 : ¬ (0 : Int) < s.length := h1; omega)
    exact ⟨fun q => (by cases q), fun q => (equals_no hx hy hs.2.2 ht.2.2 (.inl ns) q).elim⟩
end

open Classical in
/-- One of the first seven relations, as a function value. -/
noncomputable def gRel (k : Nat) : View × View → Option Bool := fun p => if VOK p.1 ∧ VOK p.2 then some (decide (Rel k p.1 p.2)) else none

def v0 : View := (true, [(0, 0)], [(0, 0)])
theorem v0_ok : VOK v0 := ⟨one_within (by decide), one_within (by decide), by simp [v0], by simp [v0], fun _ => rfl, Int.le_refl _, Int.le_refl _, by simp [v0], by simp [v0]⟩

open Classical in
theorem gRel_spec {f : FuncId} {k : Nat} (h : ∀ {x y : View}, VOK x → VOK y → FnE bs f ((Shape.pair sRelateView sRelateView).compsE (x, y)) .bool (fun r => r = true ↔ Rel k x y)) : CloSpec bs f [] [] (.pair sRelateView sRelateView) .bool (gRel k) := by
  refine ⟨(h v0_ok v0_ok).1, fun p r hr => ?_⟩
  obtain ⟨x, y⟩ := p
  rw [List.nil_append, List.append_nil]
  unfold gRel at hr
  dsimp only at hr
  split at hr
  · rename_i hv
    cases hr
    refine (h hv.1 hv.2).mono fun r hr => ?_
    show r = decide _
    rw [Bool.eq_iff_iff, hr, decide_eq_true_iff]
  · cases hr

open Classical in
theorem ok_relate_half {x y : View} (hx : VOK x) (hy : VOK y) : FnE bs n_relate_half ((Shape.pair sRelateView sRelateView).compsE (x, y)) (.int .i64) (fun n => IsMask n (fun k => k ≤ 6 ∧ Rel k x y)) := by
  refine ok_of (e_relate_half (x, y) _) rfl ?_
  unfold c_relate_half
  refine ⟨gRel 0, gRel_spec ok_relate_before, gRel 1, gRel_spec ok_relate_meets, gRel 2, gRel_spec ok_relate_overlaps, gRel 3, gRel_spec ok_relate_starts, gRel 4, gRel_spec ok_relate_during, gRel 5, gRel_spec ok_relate_finishes, gRel 6, gRel_spec ok_relate_equals, ?_⟩
  refine loopP_of (fun z : Int × Int => ∃ k : Nat, z.2 = k ∧ k ≤ 7 ∧ IsMask z.1 (fun j => j < k ∧ Rel j x y)) (fun z => 7 - z.2.toNat) ?_ ⟨0, rfl, Nat.zero_le _, IsMask.zero.iff fun k _ => ⟨False.elim, fun q => by omega⟩⟩
  rintro ⟨mask, _⟩ A ⟨k, e1, hk, hm⟩ back
  dsimp only at e1 hm ⊢
  subst e1
  refine cond_dec (fun h1 => ⟨⟨by omega, h1⟩, ?_⟩) fun h1 => ?_
  · have h1 : (k : Int) < 7 := h1
    have hk' : k < 7 := by omega
    rw [toNat_ofNat, w_succ (by omega)]
    have hrd : rd (.func (.pair sRelateView sRelateView) .bool) [gRel 0, gRel 1, gRel 2, gRel 3, gRel 4, gRel 5, gRel 6] k = gRel k := by
      match k, hk' with
      | 0, _ | 1, _ | 2, _ | 3, _ | 4, _ | 5, _ | 6, _ => rfl
    rw [hrd]
    refine gcall_eq (r := decide (Rel k x y)) (by unfold gRel; exact if_pos ⟨hx, hy⟩) ?_
    refine cond_bool (fun h2 => ⟨⟨by omega, by show (k : Int) < 64; omega⟩, ?_⟩) fun h2 => ?_
    · have h2 := of_decide_eq_true h2
      refine back (_, ((k + 1 : Nat) : Int)) ⟨k + 1, rfl, hk', ?_⟩ (by dsimp only; omega)
      refine (hm.or (IsMask.one (k := k) (by omega))).iff fun j _ => ⟨?_, ?_⟩
      · rintro (q | rfl)
        · exact ⟨by omega, q.2⟩
        · exact ⟨by omega, h2⟩
      · rintro ⟨q1, q2⟩
        by_cases e : j = k
        · exact .inr e
        · exact .inl ⟨by omega, q2⟩
    · have h2 := of_decide_eq_false h2
      refine back (_, ((k + 1 : Nat) : Int)) ⟨k + 1, rfl, hk', ?_⟩ (by dsimp only; omega)
      refine hm.iff fun j _ => ⟨fun q => ⟨by omega, q.2⟩, fun q => ⟨?_, q.2⟩⟩
      by_cases e : j = k
      · subst e; exact absurd q.2 h2
      · omega
  · have h1 : ¬ (k : Int) < 7 := h1
    exact hm.iff fun j _ => ⟨fun q => ⟨by omega, q.2⟩, fun q => ⟨by omega, q.2⟩⟩

theorem ok_allen_List {a : Int} {P : Nat → Prop} (ha : IsMask a P) : FnE bs n_allen_List ((Shape.int .i64).compsE a) (.slice (.int .i64)) (fun l => (∀ n, n ∈ l ↔ ∃ j : Nat, j ≤ 12 ∧ P j ∧ n = (j : Int)) ∧ l.length ≤ 13) := by
  refine ok_of (e_allen_List a _) rfl ?_
  unfold c_allen_List
  refine loopP_of (fun z : Unit × Int × List Int => ∃ k : Nat, z.2.1 = k ∧ k ≤ 13 ∧ (∀ n, n ∈ z.2.2 ↔ ∃ j : Nat, j < k ∧ P j ∧ n = (j : Int)) ∧ z.2.2.length ≤ k) (fun z => 13 - z.2.1.toNat) ?_ ⟨0, rfl, Nat.zero_le _, fun n => ⟨fun q => (by cases q), fun ⟨j, q, _⟩ => (by omega)⟩, Nat.zero_le _⟩
  rintro ⟨u, _, acc⟩ A ⟨k, e1, hk, hm, hlen⟩ back
  dsimp only at e1 hm hlen ⊢
  subst e1
  refine cond_dec (fun h1 => ⟨⟨by omega, by show (k : Int) < 64; omega⟩, ?_⟩) fun h1 => ?_
  · have h1 : (k : Int) < 13 := h1
    have hk' : k < 13 := by omega
    rw [toNat_ofNat, w_succ (by omega)]
    have hbit := ha.bit (k := k) (by omega)
    refine cond_dec (fun h2 => ⟨?_, ?_⟩) fun h2 => ?_
    · simp only [List.length_cons, List.length_nil]; omega
    · have h2 := hbit.1 h2
      refine back ((), ((k + 1 : Nat) : Int), _) ⟨k + 1, rfl, hk', fun n => ?_, ?_⟩ (by dsimp only; omega)
      · rw [List.mem_append, hm, List.mem_singleton]
        constructor
        · rintro (⟨j, q1, q2, q3⟩ | rfl)
          · exact ⟨j, by omega, q2, q3⟩
          · exact ⟨k, by omega, h2, rfl⟩
        · rintro ⟨j, q1, q2, q3⟩
          by_cases e : j = k
          · subst e; exact .inr q3
          · exact .inl ⟨j, by omega, q2, q3⟩
      · rw [List.length_append]; simp only [List.length_cons, List.length_nil]; omega
    · have h2 : ¬ P k := fun q => h2 (hbit.2 q)
      refine back ((), ((k + 1 : Nat) : Int), _) ⟨k + 1, rfl, hk', fun n => ?_, by dsimp only; omega⟩ (by dsimp only; omega)
      rw [hm]
      constructor
      · rintro ⟨j, q1, q2, q3⟩
        exact ⟨j, by omega, q2, q3⟩
      · rintro ⟨j, q1, q2, q3⟩
        by_cases e : j = k
        · subst e; exact absurd q2 h2
        · exact ⟨j, by omega, q2, q3⟩
  · have h1 : ¬ (k : Int) < 13 := h1
    refine ⟨fun n => ?_, by omega⟩
    rw [hm]
    exact ⟨fun ⟨j, q1, q2⟩ => ⟨j, by omega, q2⟩, fun ⟨j, q1, q2⟩ => ⟨j, by omega, q2⟩⟩

theorem ok_allen_Flip {a : Int} {P : Nat → Prop} (ha : IsMask a P) : FnE bs n_allen_Flip ((Shape.int .i64).compsE a) (.int .i64) (fun n => IsMask n (fun k => P (12 - k))) := by
  refine ok_of (e_allen_Flip a _) rfl ?_
  unfold c_allen_Flip
  refine callP_of (ok_allen_List ha) fun l hl => ?_
  obtain ⟨hmem, hlen⟩ := hl
  refine loopP_of (fun z : Int × Int => ∃ k : Nat, z.2 = k ∧ k ≤ l.length ∧ IsMask z.1 (fun j => (((12 - j : Nat) : Nat) : Int) ∈ l.take k)) (fun z => l.length - z.2.toNat) ?_ ⟨0, rfl, Nat.zero_le _, IsMask.zero.iff fun k _ => ⟨False.elim, fun q => by cases q⟩⟩
  rintro ⟨mask, _⟩ A ⟨k, e1, hk, hm⟩ back
  dsimp only at e1 hm ⊢
  subst e1
  refine cond_dec (fun h1 => ⟨⟨by omega, h1⟩, ?_⟩) fun h1 => ?_
  · have h1 : (k : Int) < l.length := h1
    have hk' : k < l.length := by omega
    have hg := List.getElem?_eq_getElem hk'
    obtain ⟨j, hj, hp, hn⟩ := (hmem l[k]).1 (List.getElem_mem hk')
    generalize l[k] = n at hg hn
    subst hn
    rw [toNat_ofNat, rd_of (s := .int .i64) hg, w_succ (by omega), w64_of (n := 12 - (j : Int)) (by omega)]
    have e12 : (12 : Int) - (j : Int) = ((12 - j : Nat) : Int) := by omega
    rw [e12, toNat_ofNat]
    refine ⟨⟨by omega, by show ((12 - j : Nat) : Int) < 64; omega⟩, back (_, ((k + 1 : Nat) : Int)) ⟨k + 1, rfl, hk', ?_⟩ (by dsimp only; omega)⟩
    refine (hm.or (IsMask.one (k := 12 - j) (by omega))).iff fun i hi => ?_
    rw [List.take_add_one, hg, Option.toList_some, List.mem_append, List.mem_singleton]
    exact ⟨fun q => q.imp id fun e => by omega, fun q => q.imp id fun e => by omega⟩
  · have hkl : k = l.length := by have h1 : ¬ (k : Int) < l.length := h1; omega
    subst hkl
    refine hm.iff fun i hi => ?_
    rw [List.take_length, hmem]
    constructor
    · rintro ⟨j, q1, q2, q3⟩
      have q3 : ((12 - i : Nat) : Int) = (j : Int) := q3
      have : 12 - i = j := by omega
      rw [this]; exact q2
    · intro q
      exact ⟨12 - i, by omega, q, rfl⟩
end Go.Proofs.YtocmlcpcnjaaeaaGreatDoor.V


/- Package relate: what its functions on families answer. No condition of its own. -/
namespace Go.Proofs.YtocmlcpcnjaaeaaGreatDoor.V
open Go
set_option linter.unusedVariables false
set_option linter.unusedSimpArgs false

theorem sorted_len : ∀ {l : List Int} {a m : Int}, l.Pairwise (· < ·) → (∀ x ∈ l, a ≤ x ∧ x ≤ m) → (l.length : Int) ≤ max 0 (m + 1 - a)
  | [], a, m, _, _ => by simp only [List.length_nil]; omega
  | x :: l, a, m, h, k => by
    have h' := List.pairwise_cons.1 h
    have hx := k x (List.mem_cons_self ..)
    have := sorted_len (a := x + 1) (m := m) h'.2 fun y hy => ⟨by have := h'.1 y hy; omega, (k y (List.mem_cons_of_mem _ hy)).2⟩
    rw [List.length_cons]
    omega

theorem nums_len {s : Runs} {m : Int} (h : Within s m) (hm : 0 ≤ m) : ((nums s).length : Int) ≤ m + 1 := by
  have := sorted_len (a := 0) (m := m) (nums_sorted h.1) fun x hx => by have := Within.bounds h (mem_nums.1 hx); omega
  omega

theorem nums_app (s t : Runs) : nums (s ++ t) = nums s ++ nums t := by unfold nums; rw [List.flatMap_append]

theorem nums_take {s : Runs} (k : Nat) : (nums (s.take k)).length ≤ (nums s).length := by
  conv => rhs; rw [← List.take_append_drop k s, nums_app, List.length_append]
  omega

theorem upTo_range {lo hi : Int} : upTo lo hi = (List.range (hi + 1 - lo).toNat).map fun (k : Nat) => lo + (k : Int) := rfl

/-- A unit's view. -/
def unitV (u i : Int) : View := (false, [(VCal.ufirst u i, VCal.ufirst u i)], [(VCal.ulast u i, VCal.ulast u i)])

theorem ok_relate_views {f : Leaf} (hla : f.2.2.1.length ≤ 1000) (hlb : f.2.2.2.length ≤ 1000) : FnE bs n_relate_views (sApiLeaf.compsE f) (.slice sRelateView) (· = viewsF f) := by
  refine ok_of (e_relate_views f _) rfl ?_
  unfold c_relate_views viewsF
  refine callP_eq (ok_leaf_Tidy (f := f) (by omega) (by omega)) ?_
  unfold tidyF
  rcases ho : ofF f with _ | ⟨u, s⟩ | ⟨a, b⟩
  · exact cond_yes rfl rfl
  · obtain ⟨h1, h2, rfl, rfl, h5, h6, h7⟩ := of_units ho
    dsimp only
    generalize f.2.1 = u at h6 h7
    generalize f.2.2.1 = s at *
    refine cond_dec (fun e => absurd (len_zero.1 e) h5) fun _ => cond_no rfl (cond_dec (fun e => ?_) fun e => ?_)
    · have e : u = 0 := e
      show _ = _
      rw [if_pos e]
    · have e : ¬ u = 0 := e
      have hcnt := VCal.ucount_pos u
      have hcp : 0 ≤ VCal.ucount u - 1 := by
        have := Within.bounds h6 (mem_lo h6.1 h5)
        omega
      have hnl := nums_len h6 hcp
      rw [if_neg e]
      refine loopP_of (fun z : Unit × Int × List View => ∃ k : Nat, z.2.1 = k ∧ k ≤ s.length ∧ z.2.2 = (nums (s.take k)).map (unitV u)) (fun z => s.length - z.2.1.toNat) ?_ ⟨0, rfl, Nat.zero_le _, rfl⟩
      rintro ⟨_, _, acc⟩ A ⟨k, e1, hk, e2⟩ back
      dsimp only at e1 e2 ⊢
      subst e1
      subst e2
      have hacc := nums_take (s := s) k
      refine cond_dec (fun h1 => ⟨⟨by omega, h1⟩, ?_⟩) fun h1 => ?_
      · have h1 : (k : Int) < s.length := h1
        have hk' : k < s.length := by omega
        have hg := List.getElem?_eq_getElem hk'
        have hrs := Sane.bounds h6.1 s[k] (List.getElem_mem hk')
        have hrm : ∀ n, s[k].1 ≤ n → n ≤ s[k].2 → mem s n := fun n q1 q2 => ⟨s[k], List.getElem_mem hk', q1, q2⟩
        generalize s[k] = r at hg hrs hrm
        have hr1 := Within.bounds h6 (hrm r.1 (Int.le_refl _) hrs.2.1)
        have hr2 := Within.bounds h6 (hrm r.2 hrs.2.1 (Int.le_refl _))
        rw [toNat_ofNat, rd_of (s := sRun) hg, w_succ (by omega)]
        have hs : nums (s.take (k + 1)) = nums (s.take k) ++ upTo r.1 r.2 := by
          rw [List.take_add_one, hg, nums_app]
          simp [nums]
        refine loopP_of (fun z : Unit × Int × List View => ∃ j : Nat, z.2.1 = r.1 + j ∧ r.1 + j ≤ r.2 + 1 ∧ z.2.2 = (nums (s.take k)).map (unitV u) ++ ((List.range j).map fun (q : Nat) => unitV u (r.1 + (q : Int)))) (fun z => (r.2 + 1 - z.2.1).toNat) ?_ ⟨0, by simp, by simp only [Int.ofNat_zero]; omega, by simp⟩
        rintro ⟨_, _, acc⟩ A ⟨j, e1, hj, e2⟩ back2
        dsimp only at e1 e2 ⊢
        subst e1
        subst e2
        refine cond_dec (fun h3 => ?_) fun h3 => ?_
        · have h3 : r.1 + (j : Int) ≤ r.2 := h3
          refine callP_eq ok_unit_First (callP_eq ok_unit_Last ?_)
          unfold firstS lastS
          rw [if_pos (by omega), if_pos (by omega)]
          refine callP_eq ok_relate_one (callP_eq ok_relate_one ⟨?_, ?_⟩)
          · simp only [List.length_append, List.length_map, List.length_range, List.length_cons, List.length_nil]
            omega
          · rw [w64_of (by omega)]
            refine back2 ((), r.1 + (j : Int) + 1, _) ⟨j + 1, by dsimp only; omega, by omega, ?_⟩ (by dsimp only; omega)
            rw [List.range_succ, List.map_append, ← List.append_assoc]
            rfl
        · have h3 : ¬ r.1 + (j : Int) ≤ r.2 := h3
          refine back ((), ((k + 1 : Nat) : Int), _) ⟨k + 1, rfl, hk', ?_⟩ (by dsimp only; omega)
          rw [hs, List.map_append]
          dsimp only
          congr 1
          rw [upTo_range, List.map_map, show (r.2 + 1 - r.1).toNat = j by omega]
          rfl
      · have hkl : k = s.length := by have h1 : ¬ (k : Int) < s.length := h1; omega
        subst hkl
        rw [List.take_length]
        rfl
  · obtain ⟨sa, sb, na, nb, _⟩ := span_ends ho
    dsimp only
    refine cond_dec (fun e => absurd (len_zero.1 e) na) fun _ => cond_yes rfl rfl

theorem views_len {f : Leaf} : (viewsF f).length ≤ 3652425 := by
  unfold viewsF
  rcases ho : ofF f with _ | ⟨u, s⟩ | ⟨a, b⟩
  · simp
  · obtain ⟨h1, h2, rfl, rfl, h5, h6, h7⟩ := of_units ho
    dsimp only
    split
    · simp
    · rw [List.length_map]
      have hcnt := VCal.ucount_pos f.2.1
      have := Within.bounds h6 (mem_lo h6.1 h5)
      have := nums_len h6 (by omega)
      omega
  · simp

def allV (l : List Leaf) : List View × Bool := if wideB l = true then ([], false) else (l.flatMap viewsF, true)

theorem wide_app (l m : List Leaf) : wideB (l ++ m) = (wideB l || wideB m) := by unfold wideB; rw [List.any_append]

theorem wide_take {l : List Leaf} {k : Nat} (h : wideB l = false) : wideB (l.take k) = false := by
  rw [← List.take_append_drop k l, wide_app] at h
  simp only [Bool.or_eq_false_iff] at h
  exact h.1

theorem ok_relate_all {l : List Leaf} (hl : FewL 1000 l) (hn : l.length ≤ 1000) : FnE bs n_relate_all ((Shape.slice sApiLeaf).compsE l) (.tup (.pair (.slice sRelateView) .bool)) (· = allV l) := by
  refine ok_of (e_relate_all l _) rfl ?_
  unfold c_relate_all allV
  refine loopP_of (fun z : Unit × Int × List View => ∃ k : Nat, z.2.1 = k ∧ k ≤ l.length ∧ z.2.2 = (l.take k).flatMap viewsF ∧ wideB (l.take k) = false ∧ z.2.2.length ≤ k * 3652425) (fun z => l.length - z.2.1.toNat) ?_ ⟨0, rfl, Nat.zero_le _, rfl, rfl, Nat.zero_le _⟩
  rintro ⟨_, _, acc⟩ A ⟨k, e1, hk, e2, hw, hlen⟩ back
  dsimp only at e1 e2 hlen ⊢
  subst e1
  subst e2
  refine cond_dec (fun h1 => ⟨⟨by omega, h1⟩, ?_⟩) fun h1 => ?_
  · have h1 : (k : Int) < l.length := h1
    have hk' : k < l.length := by omega
    have hg := List.getElem?_eq_getElem hk'
    have hf := hl.2 l[k] (List.getElem_mem hk')
    have hmem := List.getElem_mem hk'
    generalize l[k] = f at hg hf hmem
    have ht : l.take (k + 1) = l.take k ++ [f] := by rw [List.take_add_one, hg]; rfl
    rw [toNat_ofNat, rd_of (s := sApiLeaf) hg, w_succ (by omega)]
    refine callP_eq (ok_leaf_Starts (f := f) (by omega) (by omega)) (callP_eq (ok_leaf_Ends (f := f) (by omega) (by omega)) ?_)
    have wide : (startsL f).2 = false ∨ (endsL f).2 = false → wideB l = true := fun q => by
      unfold wideB
      rw [List.any_eq_true]
      refine ⟨f, hmem, ?_⟩
      rcases q with q | q <;> simp [q]
    refine cond_not (fun e => (if_pos (wide (.inl e))).symm) fun es => cond_not (fun e => (if_pos (wide (.inr e))).symm) fun ee => ?_
    refine callP_eq (ok_relate_views (f := f) hf.1 hf.2) ?_
    have hv := views_len (f := f)
    have hkm : k * 3652425 ≤ 1000 * 3652425 := Nat.mul_le_mul_right _ (by omega)
    refine ⟨by omega, back ((), ((k + 1 : Nat) : Int), _) ⟨k + 1, rfl, hk', ?_, ?_, ?_⟩ (by dsimp only; omega)⟩
    · rw [ht, List.flatMap_append]
      simp
    · rw [ht, wide_app, hw]
      have es : (startsL f).2 = true := es
      have ee : (endsL f).2 = true := ee
      simp [wideB, es, ee]
    · dsimp only
      rw [List.length_append]
      omega
  · have hkl : k = l.length := by have h1 : ¬ (k : Int) < l.length := h1; omega
    subst hkl
    rw [List.take_length] at hw ⊢
    rw [if_neg (by simp [hw])]

/-- Some pairs of two views stand in a relation. -/
def RelV (k : Nat) (x y : View) : Prop := ∃ p q, PV x p ∧ PV y q ∧ relK k p q

theorem both_masks {x y : View} {a b : Int} (ha : IsMask a fun k => k ≤ 6 ∧ Rel k x y) (hb : IsMask b fun k => 12 - k ≤ 6 ∧ Rel (12 - k) y x) : IsMask (w64 ((BitVec.ofInt 64 a ||| BitVec.ofInt 64 b).toNat : Int)) fun k => RelV k x y := by
  refine (ha.or hb).iff fun k hk => ⟨?_, ?_⟩
  · rintro (⟨h1, p, q, hp, hq, h⟩ | ⟨h1, p, q, hp, hq, h⟩)
    · exact ⟨p, q, hp, hq, by unfold relK; rw [if_pos h1]; exact h⟩
    · refine ⟨q, p, hq, hp, ?_⟩
      have : relK (12 - k) p q := by unfold relK; rw [if_pos h1]; exact h
      exact (relK_flip hk).1 this
  · rintro ⟨p, q, hp, hq, h⟩
    by_cases h6 : k ≤ 6
    · unfold relK at h
      rw [if_pos h6] at h
      exact .inl ⟨h6, p, q, hp, hq, h⟩
    · unfold relK at h
      rw [if_neg h6] at h
      exact .inr ⟨by omega, q, p, hq, hp, h.2⟩

theorem ok_relate_Relations {l m : List Leaf} (hl : FewL 1000 l) (hnl : l.length ≤ 1000) (hm : FewL 1000 m) (hnm : m.length ≤ 1000) : FnE bs n_relate_Relations ((Shape.pair (.slice sApiLeaf) (.slice sApiLeaf)).compsE (l, m)) (.tup (.pair (.int .i64) (.int .i64))) (· = relF l m) := by
  refine ok_of (e_relate_Relations (l, m) _) rfl ?_
  unfold c_relate_Relations
  refine callP_eq (ok_relate_all hl hnl) (callP_eq (ok_relate_all hm hnm) ?_)
  have hvl : ∀ x ∈ l.flatMap viewsF, VOK x := fun x hx => by
    obtain ⟨f, hf, hxf⟩ := List.mem_flatMap.1 hx
    exact views_ok (hl.2 f hf).1 (hl.2 f hf).2 x hxf
  have hvm : ∀ x ∈ m.flatMap viewsF, VOK x := fun x hx => by
    obtain ⟨f, hf, hxf⟩ := List.mem_flatMap.1 hx
    exact views_ok (hm.2 f hf).1 (hm.2 f hf).2 x hxf
  have len : ∀ {l : List Leaf}, l.length ≤ 1000 → (l.flatMap viewsF).length ≤ 3652425000 := fun {l} hn => by
    have : ∀ l : List Leaf, (l.flatMap viewsF).length ≤ l.length * 3652425 := fun l => by
      induction l with
      | nil => simp
      | cons f l ih =>
        rw [List.flatMap_cons, List.length_append, List.length_cons]
        have := views_len (f := f)
        omega
    have := this l
    omega
  have key : ∀ n : Int, IsMask n (fun j => ∃ x ∈ l.flatMap viewsF, ∃ y ∈ m.flatMap viewsF, RelV j x y) → wideB l = false → wideB m = false → (n, (0 : Int)) = relF l m := fun n hn h1 h2 => by
    unfold relF
    rw [if_neg (by simp [h1, h2])]
    have : n = (relMask l m : Nat) := hn.ext (relMask_is hl hm) fun k _ => by
      constructor
      · rintro ⟨x, hx, y, hy, p, q, hp, hq, h⟩
        exact ⟨p, q, any_views.2 ⟨x, hx, hp⟩, any_views.2 ⟨y, hy, hq⟩, h⟩
      · rintro ⟨p, q, hp, hq, h⟩
        obtain ⟨x, hx, hp⟩ := any_views.1 hp
        obtain ⟨y, hy, hq⟩ := any_views.1 hq
        exact ⟨x, hx, y, hy, p, q, hp, hq, h⟩
    rw [this]
  have hlX := len hnl
  have hlY := len hnm
  unfold allV
  cases hwl : wideB l
  · rw [if_neg (by simp)]
    refine cond_not (fun e => by cases e) fun _ => ?_
    cases hwm : wideB m
    · rw [if_neg (by simp)]
      refine cond_not (fun e => by cases e) fun _ => ?_
      dsimp only
      have key := fun n h => key n h hwl hwm
      generalize hX : l.flatMap viewsF = X at *
      generalize hY : m.flatMap viewsF = Y at *
      refine loopP_of (fun z : Int × Int => ∃ k : Nat, z.2 = k ∧ k ≤ X.length ∧ IsMask z.1 (fun j => ∃ x ∈ X.take k, ∃ y ∈ Y, RelV j x y)) (fun z => X.length - z.2.toNat) ?_ ⟨0, rfl, Nat.zero_le _, IsMask.zero.iff fun k _ => ⟨False.elim, fun ⟨x, hx, _⟩ => by cases hx⟩⟩
      rintro ⟨mask, _⟩ A ⟨k, e1, hk, hmask⟩ back
      dsimp only at e1 hmask ⊢
      subst e1
      refine cond_dec (fun h1 => ⟨⟨by omega, h1⟩, ?_⟩) fun h1 => ?_
      · have h1 : (k : Int) < X.length := h1
        have hk' : k < X.length := by omega
        have hg := List.getElem?_eq_getElem hk'
        have hx := hvl X[k] (List.getElem_mem hk')
        generalize X[k] = x at hg hx
        have ht : X.take (k + 1) = X.take k ++ [x] := by rw [List.take_add_one, hg]; rfl
        rw [toNat_ofNat, rd_of (s := sRelateView) hg, w_succ (by omega)]
        refine loopP_of (fun z : Int × Int => ∃ i : Nat, z.2 = i ∧ i ≤ Y.length ∧ IsMask z.1 (fun j => (∃ x ∈ X.take k, ∃ y ∈ Y, RelV j x y) ∨ ∃ y ∈ Y.take i, RelV j x y)) (fun z => Y.length - z.2.toNat) ?_ ⟨0, rfl, Nat.zero_le _, hmask.iff fun k _ => ⟨.inl, fun q => q.elim id fun ⟨x, hx, _⟩ => by cases hx⟩⟩
        rintro ⟨mask2, _⟩ A2 ⟨i, e1, hi, hmask2⟩ back2
        dsimp only at e1 hmask2 ⊢
        subst e1
        refine cond_dec (fun h2 => ⟨⟨by omega, h2⟩, ?_⟩) fun h2 => ?_
        · have h2 : (i : Int) < Y.length := h2
          have hi' : i < Y.length := by omega
          have hg2 := List.getElem?_eq_getElem hi'
          have hy := hvm Y[i] (List.getElem_mem hi')
          generalize Y[i] = y at hg2 hy
          have ht2 : Y.take (i + 1) = Y.take i ++ [y] := by rw [List.take_add_one, hg2]; rfl
          rw [toNat_ofNat, rd_of (s := sRelateView) hg2, w_succ (by omega)]
          refine callP_of (ok_relate_half hx hy) fun a ha => callP_of (ok_relate_half hy hx) fun b hb => callP_of (ok_allen_Flip hb) fun c hc => ?_
          refine back2 (_, ((i + 1 : Nat) : Int)) ⟨i + 1, rfl, hi', ?_⟩ (by dsimp only; omega)
          refine (hmask2.or (both_masks ha hc)).iff fun j _ => ?_
          rw [ht2]
          constructor
          · rintro ((q | ⟨y', hy', q⟩) | q)
            · exact .inl q
            · exact .inr ⟨y', List.mem_append_left _ hy', q⟩
            · exact .inr ⟨y, by simp, q⟩
          · rintro (q | ⟨y', hy', q⟩)
            · exact .inl (.inl q)
            · rcases List.mem_append.1 hy' with hy' | hy'
              · exact .inl (.inr ⟨y', hy', q⟩)
              · cases List.mem_singleton.1 hy'; exact .inr q
        · have hil : i = Y.length := by have h2 : ¬ (i : Int) < Y.length := h2; omega
          subst hil
          rw [List.take_length] at hmask2
          refine back (_, ((k + 1 : Nat) : Int)) ⟨k + 1, rfl, hk', ?_⟩ (by dsimp only; omega)
          refine hmask2.iff fun j _ => ?_
          rw [ht]
          constructor
          · rintro (⟨x', hx', q⟩ | q)
            · exact ⟨x', List.mem_append_left _ hx', q⟩
            · exact ⟨x, by simp, q⟩
          · rintro ⟨x', hx', q⟩
            rcases List.mem_append.1 hx' with hx' | hx'
            · exact .inl ⟨x', hx', q⟩
            · cases List.mem_singleton.1 hx'; exact .inr q
      · have hkl : k = X.length := by have h1 : ¬ (k : Int) < X.length := h1; omega
        subst hkl
        rw [List.take_length] at hmask
        exact key _ hmask
    · rw [if_pos rfl]
      refine cond_not (fun _ => ?_) fun e => by cases e
      show _ = relF l m
      unfold relF
      rw [if_pos (by simp [hwm])]
  · rw [if_pos rfl]
    refine cond_not (fun _ => ?_) fun e => by cases e
    show _ = relF l m
    unfold relF
    rw [if_pos (by simp [hwl])]

theorem ok_relate_Can {l m : List Leaf} {r : Int} (hl : FewL 1000 l) (hnl : l.length ≤ 1000) (hm : FewL 1000 m) (hnm : m.length ≤ 1000) : FnE bs n_relate_Can ((Shape.pair (.slice sApiLeaf) (.pair (.slice sApiLeaf) (.int .i64))).compsE (l, m, r)) .bool (fun b => b = true ↔ (0 ≤ r ∧ r ≤ 12 ∧ relFM l m r.toNat)) := by
  refine ok_of (e_relate_Can (l, m, r) _) rfl ?_
  unfold c_relate_Can
  refine callP_eq (ok_relate_Relations hl hnl hm hnm) ?_
  refine cond_dec (fun h1 => cond_dec (fun h2 => ⟨⟨h1, ?_⟩, ?_⟩) fun h2 => ?_) fun h1 => ?_
  · have h2 : r ≤ 12 := h2
    show r < 64
    omega
  · have h1 : 0 ≤ r := h1
    have h2 : r ≤ 12 := h2
    show decide _ = true ↔ _
    rw [decide_eq_true_iff]
    have := (relF_mask hl hm).bit (k := r.toNat) (by omega)
    exact this.trans ⟨fun q => ⟨h1, h2, q⟩, fun q => q.2.2⟩
  · have h2 : ¬ r ≤ 12 := h2
    exact ⟨fun q => (by cases q), fun q => (h2 q.2.1).elim⟩
  · have h1 : ¬ 0 ≤ r := h1
    exact ⟨fun q => (by cases q), fun q => (h1 q.1).elim⟩

theorem ok_relate_Must {l m : List Leaf} {mask : Int} (hl : FewL 1000 l) (hnl : l.length ≤ 1000) (hm : FewL 1000 m) (hnm : m.length ≤ 1000) : FnE bs n_relate_Must ((Shape.pair (.slice sApiLeaf) (.pair (.slice sApiLeaf) (.int .i64))).compsE (l, m, mask)) .bool (fun b => b = true ↔ (¬ (relF l m).1 = 0 ∧ ∀ k, k ≤ 12 → relFM l m k → mbit mask k)) := by
  refine ok_of (e_relate_Must (l, m, mask) _) rfl ?_
  unfold c_relate_Must
  refine callP_eq (ok_relate_Relations hl hnl hm hnm) ?_
  refine cond_bool (fun h1 => ?_) fun h1 => ?_
  · have h1 : ¬ (relF l m).1 = 0 := by simpa using h1
    show decide _ = true ↔ _
    rw [decide_eq_true_iff]
    have := (relF_mask hl hm).andNot (mask := mask)
    exact this.trans ⟨fun q => ⟨h1, q⟩, fun q => q.2⟩
  · have h1 : (relF l m).1 = 0 := by simpa using h1
    exact ⟨fun q => (by cases q), fun q => (q.1 h1).elim⟩
end Go.Proofs.YtocmlcpcnjaaeaaGreatDoor.V

