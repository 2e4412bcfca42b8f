/- The calculus of the program's functions and their contracts, part 7. No condition of its own. -/
import Derived.Test.YtocmlcpcnjaaeaaGreatDoorM6


/- Layer 21's law OrderSorts. No condition of its own. -/
namespace Go.Proofs.YtocmlcpcnjaaeaaGreatDoor.V
open Go
set_option linter.unusedVariables false
set_option linter.unusedSimpArgs false
set_option linter.unusedSectionVars false

/-- One place ahead of an earlier one. -/
theorem ahead_less {x y : List Leaf} {i k : Int} (h : k < i) :
    (if (dayF (·.1) x).2 = 0 then (if (dayF (·.1) y).2 = 0 then decide (cmpK ((dayF (·.1) x).1, (dayF (·.2.2.2) x).1) ((dayF (·.1) y).1, (dayF (·.2.2.2) y).1) < 0) else true) else false) = decide (¬ leP (k, keyF y) (i, keyF x)) := by
  rw [← less_of]
  unfold keyF
  dsimp only
  cases e1 : allF x with
  | none =>
    rw [day_none e1, day_none e1]
    cases e2 : allF y with
    | none =>
      rw [day_none e2, day_none e2]
      have : cmpK ((0 : Int), (0 : Int)) (0, 0) = 0 := rfl
      rw [if_neg (by decide), if_pos rfl, if_pos this]
      exact (decide_eq_false (by omega)).symm
    | some q =>
      rw [day_some e2, day_some e2]
      rfl
  | some p =>
    rw [day_some e1, day_some e1]
    cases e2 : allF y with
    | none =>
      rw [day_none e2, day_none e2]
      rfl
    | some q =>
      rw [day_some e2, day_some e2]
      rw [if_pos rfl, if_pos rfl, if_pos rfl]
      dsimp only
      by_cases hc : cmpK (p.1, p.2.2.2) (q.1, q.2.2.2) = 0
      · rw [if_pos hc, hc]
        rw [decide_eq_false (show ¬ i < k by omega)]
        rfl
      · rw [if_neg hc]

theorem ok_ref21_ahead {x y : List Leaf} (hx : FewL 1000 x) (hy : FewL 1000 y) : FnE bs n_lustrumref21_ahead ((Shape.pair (.slice sApiLeaf) (.slice sApiLeaf)).compsE (x, y)) .bool (· = if (dayF (·.1) x).2 = 0 then (if (dayF (·.1) y).2 = 0 then decide (cmpK ((dayF (·.1) x).1, (dayF (·.2.2.2) x).1) ((dayF (·.1) y).1, (dayF (·.2.2.2) y).1) < 0) else true) else false) := by
  refine ok_of (e_lustrumref21_ahead (x, y) _) rfl ?_
  unfold c_lustrumref21_ahead
  refine callP_eq (ok_ref21_Of hx) (callP_eq (ok_ref21_Of hy) (cond_not (fun h => ?_) fun h => ?_))
  · have h : ¬ (dayF (·.1) x).2 = 0 := of_decide_eq_false h
    rw [if_neg h]
  · have h : (dayF (·.1) x).2 = 0 := of_decide_eq_true h
    rw [if_pos h]
    refine cond_not (fun h2 => ?_) fun h2 => ?_
    · have h2 : ¬ (dayF (·.1) y).2 = 0 := of_decide_eq_false h2
      rw [if_neg h2]
    · have h2 : (dayF (·.1) y).2 = 0 := of_decide_eq_true h2
      rw [if_pos h2]
      exact callP_eq (ok_ref21_Compare (a := ((dayF (·.1) x).1, (dayF (·.2.2.2) x).1)) (b := ((dayF (·.1) y).1, (dayF (·.2.2.2) y).1))) rfl

/-- Laid in where all behind come later, and all ahead do not. -/
theorem lay_in {ps : List Pl} {p : Pl} {k : Nat} (hk : k ≤ ps.length) (hs : ps.Pairwise leP) (h1 : ∀ q ∈ ps.take k, leP q p) (h2 : ∀ q ∈ ps.drop k, leP p q) : (ps.take k ++ [p] ++ ps.drop k).Pairwise leP := by
  rw [List.append_assoc, List.pairwise_append]
  have hs' := hs
  rw [← List.take_append_drop k ps, List.pairwise_append] at hs'
  refine ⟨hs'.1, ?_, fun a ha b hb => ?_⟩
  · rw [List.singleton_append, List.pairwise_cons]
    exact ⟨h2, hs'.2.1⟩
  · rw [List.singleton_append] at hb
    rcases List.mem_cons.1 hb with rfl | hb
    · exact h1 a ha
    · exact hs'.2.2 a ha b hb

theorem ok_ref21_Sort {l : List (List Leaf)} (hl : ∀ x ∈ l, FewL 1000 x) (hn : l.length ≤ 1000000) : FnE bs n_lustrumref21_Sort ((Shape.slice (.slice sApiLeaf)).compsE l) (.slice (.int .i64)) (SortR l) := by
  refine ok_of (e_lustrumref21_Sort l _) rfl ?_
  unfold c_lustrumref21_Sort
  refine loopP_of (fun z : List Int × Int => ∃ (i : Nat) (ps : List Pl), z = (ps.map (·.1), (i : Int)) ∧ i ≤ l.length ∧ ps.Perm (placesF (l.take i)) ∧ ps.Pairwise leP) (fun z => l.length - z.2.toNat) ?_ ⟨0, [], rfl, Nat.zero_le _, List.Perm.refl _, List.Pairwise.nil⟩
  rintro _ A ⟨i, ps, rfl, hi, hp, hs⟩ back
  dsimp only
  have hpl : ps.length = i := by rw [hp.length_eq, placesF_length, List.length_take]; omega
  refine cond_dec (fun h1 => ?_) fun h1 => ?_
  · have h1 : (i : Int) < l.length := h1
    have hi' : i < l.length := by omega
    have hg := List.getElem?_eq_getElem hi'
    have hgd : l.getD i [] = l[i] := by rw [List.getD_eq_getElem?_getD, hg]; rfl
    have hx := hl l[i] (List.getElem_mem hi')
    have hpt := places_take hi'
    rw [hgd] at hpt
    generalize hxe : l[i] = x at hg hx hpt
    have hml : (ps.map (·.1)).length = i := by rw [List.length_map, hpl]
    rw [hml]
    have mem : ∀ q ∈ ps, ∃ k : Nat, k < i ∧ q = ((k : Int), keyF (l.getD k [])) := fun q hq => by
      obtain ⟨k, hk, rfl⟩ := mem_places (hp.subset hq)
      rw [List.length_take] at hk
      refine ⟨k, by omega, ?_⟩
      rw [List.getD_eq_getElem?_getD, List.getElem?_take_of_lt (by omega), ← List.getD_eq_getElem?_getD]
    have fin : ∀ k : Nat, k ≤ i → (∀ q ∈ ps.take k, leP q ((i : Int), keyF x)) → (∀ q ∈ ps.drop k, leP ((i : Int), keyF x) q) →
        chk ((0 : Int) ≤ (0 : Int) ∧ (0 : Int) ≤ (k : Int) ∧ (k : Int) ≤ (i : Int)) (chk ((([] : List Int).length + (List.drop (0 : Int).toNat (List.take (k : Int).toNat (ps.map (·.1)))).length) * 8 ≤ 140737488355328) (chk (((([] : List Int) ++ (List.drop (0 : Int).toNat (List.take (k : Int).toNat (ps.map (·.1))))).length + [(i : Int)].length) * 8 ≤ 140737488355328) (chk ((0 : Int) ≤ (k : Int) ∧ (k : Int) ≤ (i : Int) ∧ (i : Int) ≤ (i : Int)) (chk ((((([] : List Int) ++ (List.drop (0 : Int).toNat (List.take (k : Int).toNat (ps.map (·.1))))) ++ [(i : Int)]).length + (List.drop (k : Int).toNat (List.take (i : Int).toNat (ps.map (·.1)))).length) * 8 ≤ 140737488355328) (A ((((([] : List Int) ++ (List.drop (0 : Int).toNat (List.take (k : Int).toNat (ps.map (·.1))))) ++ [(i : Int)]) ++ (List.drop (k : Int).toNat (List.take (i : Int).toNat (ps.map (·.1))))), (w64 ((i : Int) + (1 : Int)))))))))  := fun k hk q1 q2 => by
      rw [Int.toNat_natCast, Int.toNat_natCast, show (0 : Int).toNat = 0 from rfl, List.drop_zero, List.nil_append, w_succ (by omega)]
      have e1 : List.take i (ps.map (·.1)) = ps.map (·.1) := List.take_of_length_le (by rw [hml]; omega)
      rw [e1]
      have l1 : (List.take k (ps.map (·.1))).length = k := by rw [List.length_take, hml]; omega
      have l2 : (List.drop k (ps.map (·.1))).length = i - k := by rw [List.length_drop, hml]
      refine ⟨by omega, ?_, ?_, by omega, ?_, back _ ⟨i + 1, ps.take k ++ [((i : Int), keyF x)] ++ ps.drop k, ?_, hi', ?_, lay_in (by omega) hs q1 q2⟩ (by dsimp only; omega)⟩
      · rw [l1]; simp only [List.length_nil]; omega
      · rw [l1]; simp only [List.length_cons, List.length_nil]; omega
      · rw [List.length_append, l1, l2]; simp only [List.length_cons, List.length_nil]; omega
      · rw [List.map_append, List.map_append, List.map_take, List.map_drop]; rfl
      · rw [hpt]
        have : (ps.take k ++ [((i : Int), keyF x)] ++ ps.drop k).Perm (ps ++ [((i : Int), keyF x)]) := by
          conv => rhs; rw [← List.take_append_drop k ps]
          rw [List.append_assoc, List.append_assoc]
          exact List.Perm.append_left _ List.perm_append_comm
        exact this.trans (List.Perm.append_right _ hp)
    refine loopP_of (fun z : Int => ∃ k : Nat, z = k ∧ k ≤ i ∧ ∀ q ∈ ps.drop k, leP ((i : Int), keyF x) q) (fun z => z.toNat) ?_ ⟨i, rfl, Nat.le_refl _, fun q hq => by rw [List.drop_of_length_le (by omega)] at hq; cases hq⟩
    rintro _ A2 ⟨k, rfl, hk, hd⟩ back2
    refine cond_dec (fun h2 => ?_) fun h2 => ?_
    · have h2 : (0 : Int) < (k : Int) := h2
      have hw : w64 ((k : Int) - 1) = ((k - 1 : Nat) : Int) := by rw [w64_of (by omega)]; omega
      rw [hw, Int.toNat_natCast, Int.toNat_natCast]
      have hk1 : k - 1 < ps.length := by omega
      obtain ⟨j, hj, ej⟩ := mem _ (List.getElem_mem hk1)
      have hgp : ps[k - 1]? = some ((j : Int), keyF (l.getD j [])) := by rw [List.getElem?_eq_getElem hk1, ej]
      have hgm : (ps.map (·.1))[k - 1]? = some (j : Int) := by rw [List.getElem?_map, hgp]; rfl
      have hjl : j < l.length := by omega
      have hgj : l[j]? = some (l.getD j []) := by rw [List.getD_eq_getElem?_getD, List.getElem?_eq_getElem hjl]; rfl
      have hy := hl _ (List.mem_of_getElem? hgj)
      rw [rd_of (s := .int .i64) hgm, Int.toNat_natCast, rd_of (s := .slice sApiLeaf) hg, rd_of (s := .slice sApiLeaf) hgj]
      generalize l.getD j [] = y at hgp hgj hy
      have ri : (0 : Int) ≤ (i : Int) ∧ (i : Int) < (l.length : Int) := by omega
      have rk : (0 : Int) ≤ ((k - 1 : Nat) : Int) ∧ ((k - 1 : Nat) : Int) < (i : Int) := by omega
      have rj : (0 : Int) ≤ (j : Int) ∧ (j : Int) < (l.length : Int) := by omega
      refine ⟨ri, rk, rj, callP_eq (ok_ref21_ahead hx hy) ?_⟩
      rw [ahead_less (x := x) (y := y) (i := i) (k := j) (by omega)]
      refine cond_dec (fun q => ?_) fun q => ?_
      · have q' := (ordP.tot ((i : Int), keyF x) ((j : Int), keyF y)).resolve_right q
        refine back2 _ ⟨k - 1, rfl, by omega, fun b hb => ?_⟩ (by omega)
        have hdr : ps.drop (k - 1) = ((j : Int), keyF y) :: ps.drop k := by
          rw [List.drop_eq_getElem_cons hk1, show k - 1 + 1 = k by omega]
          congr 1
          have := hgp
          rw [List.getElem?_eq_getElem hk1] at this
          exact Option.some.inj this
        rw [hdr] at hb
        rcases List.mem_cons.1 hb with rfl | hb
        · exact q'
        · exact hd b hb
      · have q' := Classical.not_not.1 q
        refine fin k hk (fun b hb => ?_) hd
        obtain ⟨c, hc, rfl⟩ := List.getElem_of_mem hb
        rw [List.length_take] at hc
        rw [List.getElem_take]
        by_cases e : c = k - 1
        · subst e
          have := hgp
          rw [List.getElem?_eq_getElem hk1] at this
          rw [Option.some.inj this]
          exact q'
        · have hpw := List.pairwise_iff_getElem.1 hs c (k - 1) (by omega) hk1 (by omega)
          have := hgp
          rw [List.getElem?_eq_getElem hk1] at this
          rw [Option.some.inj this] at hpw
          exact ordP.trans _ _ _ hpw q'
    · have h2 : ¬ (0 : Int) < (k : Int) := h2
      have hk0 : k = 0 := by omega
      subst hk0
      exact fin 0 (Nat.zero_le _) (fun q hq => by rw [List.take_zero] at hq; cases hq) hd
  · have hil : i = l.length := by have h1 : ¬ (i : Int) < l.length := h1; omega
    subst hil
    rw [List.take_length] at hp
    exact ⟨ps, hp, hs, rfl⟩

theorem sort_one {l : List (List Leaf)} {a b : List Int} (ha : SortR l a) (hb : SortR l b) : a = b := by
  obtain ⟨p, p1, p2, rfl⟩ := ha
  obtain ⟨q, q1, q2, rfl⟩ := hb
  rw [sort_unique (p1.trans q1.symm) p2 q2]

theorem ok_ref18_Ints {x : List Int} (hx : x.length ≤ 1000000) : FnE bs n_lustrumref18_Ints ((Shape.pair (.slice (.int .i64)) (.slice (.int .i64))).compsE (x, x)) .bool (· = true) := by
  refine ok_of (e_lustrumref18_Ints (x, x) _) rfl ?_
  unfold c_lustrumref18_Ints
  refine cond_no (by rw [decide_eq_true rfl]; rfl) ?_
  refine loopP_of (fun z : Int => ∃ k : Nat, z = k ∧ k ≤ x.length) (fun z => x.length - z.toNat) ?_ ⟨0, rfl, Nat.zero_le _⟩
  rintro _ A ⟨k, rfl, hk⟩ back
  refine cond_dec (fun h => ?_) fun h => rfl
  have h : (k : Int) < (x.length : Int) := h
  exact ⟨⟨by omega, h⟩, ⟨by omega, h⟩, cond_no (by rw [decide_eq_true rfl]; rfl) (by rw [w_succ (by omega)]; exact back _ ⟨k + 1, rfl, by omega⟩ (by omega))⟩

theorem ok_OrderSorts (l : List (List Leaf)) (hl : l.length ≤ 9223372036854775807) (hxl : ∀ x ∈ l, x.length ≤ 9223372036854775807) : FnE bs n_lustrumlaw21_OrderSorts ((Shape.slice (.slice sApiLeaf)).compsE l) .bool (· = true) := by
  refine ok_of (e_lustrumlaw21_OrderSorts l _) rfl ?_
  unfold c_lustrumlaw21_OrderSorts
  refine callP_eq ok_lustrumlaw21_awake (callP_of (ok_lustrumlaw21_few hl hxl) fun r hr => cond_not (fun _ => rfl) fun h => ?_)
  obtain ⟨hn, hf⟩ := hr h
  have hf1 : ∀ x ∈ l, FewL 1000 x := fun x hx => few1000 (hf x hx)
  refine cond_yes rfl (callP_of (ok_order_Sort hf1 (by omega)) fun s hs => callP_of (ok_ref21_Sort hf1 (by omega)) fun t ht => ?_)
  have e := sort_one hs ht
  subst e
  have hlen : s.length ≤ 1000000 := by
    obtain ⟨ps, hp, _, rfl⟩ := hs
    rw [List.length_map, hp.length_eq, placesF_length]; omega
  exact callP_eq (ok_ref18_Ints hlen) rfl
end Go.Proofs.YtocmlcpcnjaaeaaGreatDoor.V

