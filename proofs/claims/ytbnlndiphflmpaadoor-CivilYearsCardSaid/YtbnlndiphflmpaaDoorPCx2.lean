/- Written by a program of this session (wip/tool/vary.py) out of the translation, with the kit's printing program; Lean checks every line. -/
import Derived.Test.YtbnlndiphflmpaaDoorPCx0
import Derived.Test.YtbnlndiphflmpaaDoorPCx1
namespace Go.Proofs.YtbnlndiphflmpaaDoor.PC
open Go.RowKit Go.Proofs.YtbnlndiphflmpaaDoorW.PrintWords Go.Proofs.YtbnlndiphflmpaaDoorW.PrintLast Go.Proofs.YtbnlndiphflmpaaDoorW.PrintMore
attribute [local go_sem] max2_int min2_int max_two min_two max_three min_three max_four min_four   -- for this text's walks alone
set_option linter.unusedVariables false
set_option linter.unusedSimpArgs false

/-! ### lustrumlaw02_CivilNext: function 5 -/
def lustrumlaw02_CivilNext.f (k : Nat) (a0 : Int) : Option (Bool) := (lustrumlaw02_awake.f k).bind fun t160 => (if (Go.bits .and .i64 a0 4194303) ≥ 3652424 then (if t160 = true then ((civil_Weekday.f (wrap64 ((Go.bits .and .i64 a0 4194303) + 1))).bind fun t161 => (some (t161 == (-1)))) else (some false)) else ((civil_Date.f k (Go.bits .and .i64 a0 4194303)).bind fun bt162 => ((civil_Date.f k (wrap64 ((Go.bits .and .i64 a0 4194303) + 1))).bind fun bt165 => ((civil_Weekday.f (wrap64 ((Go.bits .and .i64 a0 4194303) + 1))).bind fun t168 => ((civil_Weekday.f (Go.bits .and .i64 a0 4194303)).bind fun t169 => (if t168 = (Int.tmod (wrap64 (t169 + 1)) 7) then ((civil_Days.f bt162.1 bt162.2.1).bind fun t170 => (if bt162.2.2 < t170 then (if t160 = true then (if bt165.1 = bt162.1 then (if bt165.2.1 = bt162.2.1 then (some (bt165.2.2 == (wrap64 (bt162.2.2 + 1)))) else (some false)) else (some false)) else (some false)) else (if bt162.2.1 < 12 then (if t160 = true then (if bt165.1 = bt162.1 then (if bt165.2.1 = (wrap64 (bt162.2.1 + 1)) then (some (bt165.2.2 == 1)) else (some false)) else (some false)) else (some false)) else (if t160 = true then (if bt165.1 = (wrap64 (bt162.1 + 1)) then (if bt165.2.1 = 1 then (some (bt165.2.2 == 1)) else (some false)) else (some false)) else (some false))))) else (some false)))))))
theorem lustrumlaw02_CivilNext.mono : ∀ a0 k, LeO (lustrumlaw02_CivilNext.f k a0) (lustrumlaw02_CivilNext.f (k + 1) a0) := by
  intro a0 k
  unfold lustrumlaw02_CivilNext.f
  repeat' first
      | (with_reducible exact civil_Date.mono _ _)
      | (with_reducible exact lustrumlaw02_awake.mono _)
      | (with_reducible exact LeO.refl _)
      | (with_reducible exact LeO.none _)
      | (with_reducible refine LeO.ite ?_ ?_)
      | (with_reducible refine LeO.bind ?_ (fun _ => ?_))
      | exact civil_Date.mono _ _
      | exact lustrumlaw02_awake.mono _
      | exact LeO.none _
      | refine LeO.ite ?_ ?_
      | refine LeO.bind ?_ (fun _ => ?_)
set_option maxHeartbeats 8000000 in
set_option maxRecDepth 100000 in
theorem lustrumlaw02_CivilNext.calls (k : Nat) (a0 : Int) (r : Bool) (w : World) (h : lustrumlaw02_CivilNext.f k a0 = some r) (hT : LenTab w) :
    Calls Tryd.prog 5 #[.int .i64 a0] w fun e w' => e = .returned (.bool r) ∧ Drawn0 w w' := by
  have H : ((lustrumlaw02_awake.f k).bind fun t160 => (if (Go.bits .and .i64 a0 4194303) ≥ 3652424 then (if t160 = true then ((civil_Weekday.f (wrap64 ((Go.bits .and .i64 a0 4194303) + 1))).bind fun t161 => (some (t161 == (-1)))) else (some false)) else ((civil_Date.f k (Go.bits .and .i64 a0 4194303)).bind fun bt162 => ((civil_Date.f k (wrap64 ((Go.bits .and .i64 a0 4194303) + 1))).bind fun bt165 => ((civil_Weekday.f (wrap64 ((Go.bits .and .i64 a0 4194303) + 1))).bind fun t168 => ((civil_Weekday.f (Go.bits .and .i64 a0 4194303)).bind fun t169 => (if t168 = (Int.tmod (wrap64 (t169 + 1)) 7) then ((civil_Days.f bt162.1 bt162.2.1).bind fun t170 => (if bt162.2.2 < t170 then (if t160 = true then (if bt165.1 = bt162.1 then (if bt165.2.1 = bt162.2.1 then (some (bt165.2.2 == (wrap64 (bt162.2.2 + 1)))) else (some false)) else (some false)) else (some false)) else (if bt162.2.1 < 12 then (if t160 = true then (if bt165.1 = bt162.1 then (if bt165.2.1 = (wrap64 (bt162.2.1 + 1)) then (some (bt165.2.2 == 1)) else (some false)) else (some false)) else (some false)) else (if t160 = true then (if bt165.1 = (wrap64 (bt162.1 + 1)) then (if bt165.2.1 = 1 then (some (bt165.2.2 == 1)) else (some false)) else (some false)) else (some false))))) else (some false)))))))) = some r := h
  clear h
  replace H := Option.bind_eq_some_iff.mp H
  obtain ⟨t160, A20, H⟩ := H
  replace H : (if (Go.bits .and .i64 a0 4194303) ≥ 3652424 then (if t160 = true then ((civil_Weekday.f (wrap64 ((Go.bits .and .i64 a0 4194303) + 1))).bind fun t161 => (some (t161 == (-1)))) else (some false)) else ((civil_Date.f k (Go.bits .and .i64 a0 4194303)).bind fun bt162 => ((civil_Date.f k (wrap64 ((Go.bits .and .i64 a0 4194303) + 1))).bind fun bt165 => ((civil_Weekday.f (wrap64 ((Go.bits .and .i64 a0 4194303) + 1))).bind fun t168 => ((civil_Weekday.f (Go.bits .and .i64 a0 4194303)).bind fun t169 => (if t168 = (Int.tmod (wrap64 (t169 + 1)) 7) then ((civil_Days.f bt162.1 bt162.2.1).bind fun t170 => (if bt162.2.2 < t170 then (if t160 = true then (if bt165.1 = bt162.1 then (if bt165.2.1 = bt162.2.1 then (some (bt165.2.2 == (wrap64 (bt162.2.2 + 1)))) else (some false)) else (some false)) else (some false)) else (if bt162.2.1 < 12 then (if t160 = true then (if bt165.1 = bt162.1 then (if bt165.2.1 = (wrap64 (bt162.2.1 + 1)) then (some (bt165.2.2 == 1)) else (some false)) else (some false)) else (some false)) else (if t160 = true then (if bt165.1 = (wrap64 (bt162.1 + 1)) then (if bt165.2.1 = 1 then (some (bt165.2.2 == 1)) else (some false)) else (some false)) else (some false))))) else (some false))))))) = some r := H
  have A2 := Aside0.mk A20
  clear A20
  by_cases c3 : (Go.bits .and .i64 a0 4194303) ≥ 3652424
  · rw [if_pos c3] at H
    have c3b0 : decide (3652424 ≤ (Go.bits .and .i64 a0 4194303)) = true := decide_eq_true c3
    clear c3
    by_cases c4 : t160 = true
    · subst c4
      have H1 : ((civil_Weekday.f (wrap64 ((Go.bits .and .i64 a0 4194303) + 1))).bind fun t161 => (some (t161 == (-1)))) = some r := by rw [if_pos rfl] at H; exact H
      clear H
      have H := H1
      clear H1
      replace H := Option.bind_eq_some_iff.mp H
      obtain ⟨t161, A50, H⟩ := H
      replace H : (some (t161 == (-1))) = some r := H
      have A5 := Aside0.mk A50
      clear A50
      obtain rfl := Option.some.inj H
      go_enter Tryd.func5, Tryd.ntmps5
      go_wp2_with (first | ((with_reducible refine gate_callee (f := 9) rfl ?_); refine goesL_ (some 11) rfl rfl Tryd.func9 (by kernel_rfl) rfl #[] rfl (by (try simp only [List.map_toArray, List.map_cons, List.map_nil]); first | done | rfl | (simp only [List.length_drop, List.length_take]; rfl)) ?_; (with_reducible refine (lustrumlaw02_awake.calls k  true _ A2.out (by first | exact hT | (repeat (first | exact hT | apply LenTab.drewN)) | (refine LenTab.below hT ?_; repeat (first | (with_reducible first | exact HB.out | apply below_alloc | apply pw_below_drewN | apply below_drew1) | exact HB.out)))).mono ?_); rintro e w' ⟨rfl, ⟨nd, rfl⟩⟩; refine ⟨_, rfl, ?_⟩) | (go_at_call 20; (with_reducible refine (civil_Weekday.calls (wrap64 ((Go.bits .and .i64 a0 4194303) + 1)) t161 _ A5.out).mono ?_); rintro e w' ⟨rfl, ⟨nd, rfl⟩⟩))
      go_ret
      exact ⟨by first | rfl | (simp; done) | (simp [*]; done), by repeat (first | exact Drawn0.refl _ | apply Drawn0.step)⟩
    · replace c4 := Bool.eq_false_iff.mpr c4
      subst c4
      have H1 : (some false) = some r := by rw [if_neg (show ¬ (false = true) by decide)] at H; exact H
      clear H
      have H := H1
      clear H1
      obtain rfl := Option.some.inj H
      go_enter Tryd.func5, Tryd.ntmps5
      go_wp2_with (first | ((with_reducible refine gate_callee (f := 9) rfl ?_); refine goesL_ (some 11) rfl rfl Tryd.func9 (by kernel_rfl) rfl #[] rfl (by (try simp only [List.map_toArray, List.map_cons, List.map_nil]); first | done | rfl | (simp only [List.length_drop, List.length_take]; rfl)) ?_; (with_reducible refine (lustrumlaw02_awake.calls k  false _ A2.out (by first | exact hT | (repeat (first | exact hT | apply LenTab.drewN)) | (refine LenTab.below hT ?_; repeat (first | (with_reducible first | exact HB.out | apply below_alloc | apply pw_below_drewN | apply below_drew1) | exact HB.out)))).mono ?_); rintro e w' ⟨rfl, ⟨nd, rfl⟩⟩; refine ⟨_, rfl, ?_⟩))
      go_ret
      exact ⟨by first | rfl | (simp; done) | (simp [*]; done), by repeat (first | exact Drawn0.refl _ | apply Drawn0.step)⟩
  · rw [if_neg c3] at H
    have c3b0 : decide (3652424 ≤ (Go.bits .and .i64 a0 4194303)) = false := decide_eq_false c3
    clear c3
    replace H := Option.bind_eq_some_iff.mp H
    obtain ⟨⟨t162, t163, t164⟩, A60, H⟩ := H
    replace H : ((civil_Date.f k (wrap64 ((Go.bits .and .i64 a0 4194303) + 1))).bind fun bt165 => ((civil_Weekday.f (wrap64 ((Go.bits .and .i64 a0 4194303) + 1))).bind fun t168 => ((civil_Weekday.f (Go.bits .and .i64 a0 4194303)).bind fun t169 => (if t168 = (Int.tmod (wrap64 (t169 + 1)) 7) then ((civil_Days.f t162 t163).bind fun t170 => (if t164 < t170 then (if t160 = true then (if bt165.1 = t162 then (if bt165.2.1 = t163 then (some (bt165.2.2 == (wrap64 (t164 + 1)))) else (some false)) else (some false)) else (some false)) else (if t163 < 12 then (if t160 = true then (if bt165.1 = t162 then (if bt165.2.1 = (wrap64 (t163 + 1)) then (some (bt165.2.2 == 1)) else (some false)) else (some false)) else (some false)) else (if t160 = true then (if bt165.1 = (wrap64 (t162 + 1)) then (if bt165.2.1 = 1 then (some (bt165.2.2 == 1)) else (some false)) else (some false)) else (some false))))) else (some false))))) = some r := H
    have A6 := Aside0.mk A60
    clear A60
    replace H := Option.bind_eq_some_iff.mp H
    obtain ⟨⟨t165, t166, t167⟩, A70, H⟩ := H
    replace H : ((civil_Weekday.f (wrap64 ((Go.bits .and .i64 a0 4194303) + 1))).bind fun t168 => ((civil_Weekday.f (Go.bits .and .i64 a0 4194303)).bind fun t169 => (if t168 = (Int.tmod (wrap64 (t169 + 1)) 7) then ((civil_Days.f t162 t163).bind fun t170 => (if t164 < t170 then (if t160 = true then (if t165 = t162 then (if t166 = t163 then (some (t167 == (wrap64 (t164 + 1)))) else (some false)) else (some false)) else (some false)) else (if t163 < 12 then (if t160 = true then (if t165 = t162 then (if t166 = (wrap64 (t163 + 1)) then (some (t167 == 1)) else (some false)) else (some false)) else (some false)) else (if t160 = true then (if t165 = (wrap64 (t162 + 1)) then (if t166 = 1 then (some (t167 == 1)) else (some false)) else (some false)) else (some false))))) else (some false)))) = some r := H
    have A7 := Aside0.mk A70
    clear A70
    replace H := Option.bind_eq_some_iff.mp H
    obtain ⟨t168, A80, H⟩ := H
    replace H : ((civil_Weekday.f (Go.bits .and .i64 a0 4194303)).bind fun t169 => (if t168 = (Int.tmod (wrap64 (t169 + 1)) 7) then ((civil_Days.f t162 t163).bind fun t170 => (if t164 < t170 then (if t160 = true then (if t165 = t162 then (if t166 = t163 then (some (t167 == (wrap64 (t164 + 1)))) else (some false)) else (some false)) else (some false)) else (if t163 < 12 then (if t160 = true then (if t165 = t162 then (if t166 = (wrap64 (t163 + 1)) then (some (t167 == 1)) else (some false)) else (some false)) else (some false)) else (if t160 = true then (if t165 = (wrap64 (t162 + 1)) then (if t166 = 1 then (some (t167 == 1)) else (some false)) else (some false)) else (some false))))) else (some false))) = some r := H
    have A8 := Aside0.mk A80
    clear A80
    replace H := Option.bind_eq_some_iff.mp H
    obtain ⟨t169, A90, H⟩ := H
    replace H : (if t168 = (Int.tmod (wrap64 (t169 + 1)) 7) then ((civil_Days.f t162 t163).bind fun t170 => (if t164 < t170 then (if t160 = true then (if t165 = t162 then (if t166 = t163 then (some (t167 == (wrap64 (t164 + 1)))) else (some false)) else (some false)) else (some false)) else (if t163 < 12 then (if t160 = true then (if t165 = t162 then (if t166 = (wrap64 (t163 + 1)) then (some (t167 == 1)) else (some false)) else (some false)) else (some false)) else (if t160 = true then (if t165 = (wrap64 (t162 + 1)) then (if t166 = 1 then (some (t167 == 1)) else (some false)) else (some false)) else (some false))))) else (some false)) = some r := H
    have A9 := Aside0.mk A90
    clear A90
    by_cases c10 : t168 = (Int.tmod (wrap64 (t169 + 1)) 7)
    · rw [if_pos c10] at H
      have c10b0 : (t168 == (Int.tmod (wrap64 (t169 + 1)) 7)) = true := beq_iff_eq.mpr c10
      have c10b1 : (t168 != (Int.tmod (wrap64 (t169 + 1)) 7)) = false := bne_eq_false_iff_eq.mpr c10
      clear c10
      replace H := Option.bind_eq_some_iff.mp H
      obtain ⟨t170, A110, H⟩ := H
      replace H : (if t164 < t170 then (if t160 = true then (if t165 = t162 then (if t166 = t163 then (some (t167 == (wrap64 (t164 + 1)))) else (some false)) else (some false)) else (some false)) else (if t163 < 12 then (if t160 = true then (if t165 = t162 then (if t166 = (wrap64 (t163 + 1)) then (some (t167 == 1)) else (some false)) else (some false)) else (some false)) else (if t160 = true then (if t165 = (wrap64 (t162 + 1)) then (if t166 = 1 then (some (t167 == 1)) else (some false)) else (some false)) else (some false)))) = some r := H
      have A11 := Aside0.mk A110
      clear A110
      by_cases c12 : t164 < t170
      · rw [if_pos c12] at H
        have c12b0 : decide (t164 < t170) = true := decide_eq_true c12
        clear c12
        by_cases c13 : t160 = true
        · subst c13
          have H1 : (if t165 = t162 then (if t166 = t163 then (some (t167 == (wrap64 (t164 + 1)))) else (some false)) else (some false)) = some r := by rw [if_pos rfl] at H; exact H
          clear H
          have H := H1
          clear H1
          by_cases c14 : t165 = t162
          · rw [if_pos c14] at H
            have c14b0 : (t165 == t162) = true := beq_iff_eq.mpr c14
            have c14b1 : (t165 != t162) = false := bne_eq_false_iff_eq.mpr c14
            clear c14
            by_cases c15 : t166 = t163
            · rw [if_pos c15] at H
              have c15b0 : (t166 == t163) = true := beq_iff_eq.mpr c15
              have c15b1 : (t166 != t163) = false := bne_eq_false_iff_eq.mpr c15
              clear c15
              obtain rfl := Option.some.inj H
              go_enter Tryd.func5, Tryd.ntmps5
              go_wp2_with (first | ((with_reducible refine gate_callee (f := 9) rfl ?_); refine goesL_ (some 11) rfl rfl Tryd.func9 (by kernel_rfl) rfl #[] rfl (by (try simp only [List.map_toArray, List.map_cons, List.map_nil]); first | done | rfl | (simp only [List.length_drop, List.length_take]; rfl)) ?_; (with_reducible refine (lustrumlaw02_awake.calls k  true _ A2.out (by first | exact hT | (repeat (first | exact hT | apply LenTab.drewN)) | (refine LenTab.below hT ?_; repeat (first | (with_reducible first | exact HB.out | apply below_alloc | apply pw_below_drewN | apply below_drew1) | exact HB.out)))).mono ?_); rintro e w' ⟨rfl, ⟨nd, rfl⟩⟩; refine ⟨_, rfl, ?_⟩) | ((with_reducible refine gate_callee (f := 12) rfl ?_); refine goesL_ (some 25) rfl rfl Tryd.func12 (by kernel_rfl) rfl #[.int .i64 (Go.bits .and .i64 a0 4194303)] rfl (by (try simp only [List.map_toArray, List.map_cons, List.map_nil]); first | done | rfl | (simp only [List.length_drop, List.length_take]; rfl)) ?_; (with_reducible refine (civil_Date.calls k (Go.bits .and .i64 a0 4194303) t162 t163 t164 _ A6.out).mono ?_); rintro e w' ⟨rfl, ⟨nd, rfl⟩⟩; refine ⟨_, rfl, ?_⟩) | ((with_reducible refine gate_callee (f := 12) rfl ?_); refine goesL_ (some 32) rfl rfl Tryd.func12 (by kernel_rfl) rfl #[.int .i64 (wrap64 ((Go.bits .and .i64 a0 4194303) + 1))] rfl (by (try simp only [List.map_toArray, List.map_cons, List.map_nil]); first | done | rfl | (simp only [List.length_drop, List.length_take]; rfl)) ?_; (with_reducible refine (civil_Date.calls k (wrap64 ((Go.bits .and .i64 a0 4194303) + 1)) t165 t166 t167 _ A7.out).mono ?_); rintro e w' ⟨rfl, ⟨nd, rfl⟩⟩; refine ⟨_, rfl, ?_⟩) | ((with_reducible refine gate_callee (f := 20) rfl ?_); refine goesL_ (some 38) rfl rfl Tryd.func20 (by kernel_rfl) rfl #[.int .i64 (wrap64 ((Go.bits .and .i64 a0 4194303) + 1))] rfl (by (try simp only [List.map_toArray, List.map_cons, List.map_nil]); first | done | rfl | (simp only [List.length_drop, List.length_take]; rfl)) ?_; (with_reducible refine (civil_Weekday.calls (wrap64 ((Go.bits .and .i64 a0 4194303) + 1)) t168 _ A8.out).mono ?_); rintro e w' ⟨rfl, ⟨nd, rfl⟩⟩; refine ⟨_, rfl, ?_⟩) | ((with_reducible refine gate_callee (f := 20) rfl ?_); refine goesL_ (some 40) rfl rfl Tryd.func20 (by kernel_rfl) rfl #[.int .i64 (Go.bits .and .i64 a0 4194303)] rfl (by (try simp only [List.map_toArray, List.map_cons, List.map_nil]); first | done | rfl | (simp only [List.length_drop, List.length_take]; rfl)) ?_; (with_reducible refine (civil_Weekday.calls (Go.bits .and .i64 a0 4194303) t169 _ A9.out).mono ?_); rintro e w' ⟨rfl, ⟨nd, rfl⟩⟩; refine ⟨_, rfl, ?_⟩) | ((with_reducible refine gate_callee (f := 16) rfl ?_); refine goesL_ (some 47) rfl rfl Tryd.func16 (by kernel_rfl) rfl #[.int .i64 t162, .int .i64 t163] rfl (by (try simp only [List.map_toArray, List.map_cons, List.map_nil]); first | done | rfl | (simp only [List.length_drop, List.length_take]; rfl)) ?_; (with_reducible refine (civil_Days.calls t162 t163 t170 _ A11.out (by first | exact hT | (repeat (first | exact hT | apply LenTab.drewN)) | (refine LenTab.below hT ?_; repeat (first | (with_reducible first | exact HB.out | apply below_alloc | apply pw_below_drewN | apply below_drew1) | exact HB.out)))).mono ?_); rintro e w' ⟨rfl, ⟨nd, rfl⟩⟩; refine ⟨_, rfl, ?_⟩))
              go_ret
              exact ⟨by first | rfl | (simp; done) | (simp [*]; done), by repeat (first | exact Drawn0.refl _ | apply Drawn0.step)⟩
            · rw [if_neg c15] at H
              have c15b0 : (t166 == t163) = false := beq_eq_false_iff_ne.mpr c15
              have c15b1 : (t166 != t163) = true := bne_iff_ne.mpr c15
              obtain rfl := Option.some.inj H
              go_enter Tryd.func5, Tryd.ntmps5
              go_wp2_with (first | ((with_reducible refine gate_callee (f := 9) rfl ?_); refine goesL_ (some 11) rfl rfl Tryd.func9 (by kernel_rfl) rfl #[] rfl (by (try simp only [List.map_toArray, List.map_cons, List.map_nil]); first | done | rfl | (simp only [List.length_drop, List.length_take]; rfl)) ?_; (with_reducible refine (lustrumlaw02_awake.calls k  true _ A2.out (by first | exact hT | (repeat (first | exact hT | apply LenTab.drewN)) | (refine LenTab.below hT ?_; repeat (first | (with_reducible first | exact HB.out | apply below_alloc | apply pw_below_drewN | apply below_drew1) | exact HB.out)))).mono ?_); rintro e w' ⟨rfl, ⟨nd, rfl⟩⟩; refine ⟨_, rfl, ?_⟩) | ((with_reducible refine gate_callee (f := 12) rfl ?_); refine goesL_ (some 25) rfl rfl Tryd.func12 (by kernel_rfl) rfl #[.int .i64 (Go.bits .and .i64 a0 4194303)] rfl (by (try simp only [List.map_toArray, List.map_cons, List.map_nil]); first | done | rfl | (simp only [List.length_drop, List.length_take]; rfl)) ?_; (with_reducible refine (civil_Date.calls k (Go.bits .and .i64 a0 4194303) t162 t163 t164 _ A6.out).mono ?_); rintro e w' ⟨rfl, ⟨nd, rfl⟩⟩; refine ⟨_, rfl, ?_⟩) | ((with_reducible refine gate_callee (f := 12) rfl ?_); refine goesL_ (some 32) rfl rfl Tryd.func12 (by kernel_rfl) rfl #[.int .i64 (wrap64 ((Go.bits .and .i64 a0 4194303) + 1))] rfl (by (try simp only [List.map_toArray, List.map_cons, List.map_nil]); first | done | rfl | (simp only [List.length_drop, List.length_take]; rfl)) ?_; (with_reducible refine (civil_Date.calls k (wrap64 ((Go.bits .and .i64 a0 4194303) + 1)) t165 t166 t167 _ A7.out).mono ?_); rintro e w' ⟨rfl, ⟨nd, rfl⟩⟩; refine ⟨_, rfl, ?_⟩) | ((with_reducible refine gate_callee (f := 20) rfl ?_); refine goesL_ (some 38) rfl rfl Tryd.func20 (by kernel_rfl) rfl #[.int .i64 (wrap64 ((Go.bits .and .i64 a0 4194303) + 1))] rfl (by (try simp only [List.map_toArray, List.map_cons, List.map_nil]); first | done | rfl | (simp only [List.length_drop, List.length_take]; rfl)) ?_; (with_reducible refine (civil_Weekday.calls (wrap64 ((Go.bits .and .i64 a0 4194303) + 1)) t168 _ A8.out).mono ?_); rintro e w' ⟨rfl, ⟨nd, rfl⟩⟩; refine ⟨_, rfl, ?_⟩) | ((with_reducible refine gate_callee (f := 20) rfl ?_); refine goesL_ (some 40) rfl rfl Tryd.func20 (by kernel_rfl) rfl #[.int .i64 (Go.bits .and .i64 a0 4194303)] rfl (by (try simp only [List.map_toArray, List.map_cons, List.map_nil]); first | done | rfl | (simp only [List.length_drop, List.length_take]; rfl)) ?_; (with_reducible refine (civil_Weekday.calls (Go.bits .and .i64 a0 4194303) t169 _ A9.out).mono ?_); rintro e w' ⟨rfl, ⟨nd, rfl⟩⟩; refine ⟨_, rfl, ?_⟩) | ((with_reducible refine gate_callee (f := 16) rfl ?_); refine goesL_ (some 47) rfl rfl Tryd.func16 (by kernel_rfl) rfl #[.int .i64 t162, .int .i64 t163] rfl (by (try simp only [List.map_toArray, List.map_cons, List.map_nil]); first | done | rfl | (simp only [List.length_drop, List.length_take]; rfl)) ?_; (with_reducible refine (civil_Days.calls t162 t163 t170 _ A11.out (by first | exact hT | (repeat (first | exact hT | apply LenTab.drewN)) | (refine LenTab.below hT ?_; repeat (first | (with_reducible first | exact HB.out | apply below_alloc | apply pw_below_drewN | apply below_drew1) | exact HB.out)))).mono ?_); rintro e w' ⟨rfl, ⟨nd, rfl⟩⟩; refine ⟨_, rfl, ?_⟩))
              go_ret
              exact ⟨by first | rfl | (simp; done) | (simp [*]; done), by repeat (first | exact Drawn0.refl _ | apply Drawn0.step)⟩
          · rw [if_neg c14] at H
            have c14b0 : (t165 == t162) = false := beq_eq_false_iff_ne.mpr c14
            have c14b1 : (t165 != t162) = true := bne_iff_ne.mpr c14
            obtain rfl := Option.some.inj H
            go_enter Tryd.func5, Tryd.ntmps5
            go_wp2_with (first | ((with_reducible refine gate_callee (f := 9) rfl ?_); refine goesL_ (some 11) rfl rfl Tryd.func9 (by kernel_rfl) rfl #[] rfl (by (try simp only [List.map_toArray, List.map_cons, List.map_nil]); first | done | rfl | (simp only [List.length_drop, List.length_take]; rfl)) ?_; (with_reducible refine (lustrumlaw02_awake.calls k  true _ A2.out (by first | exact hT | (repeat (first | exact hT | apply LenTab.drewN)) | (refine LenTab.below hT ?_; repeat (first | (with_reducible first | exact HB.out | apply below_alloc | apply pw_below_drewN | apply below_drew1) | exact HB.out)))).mono ?_); rintro e w' ⟨rfl, ⟨nd, rfl⟩⟩; refine ⟨_, rfl, ?_⟩) | ((with_reducible refine gate_callee (f := 12) rfl ?_); refine goesL_ (some 25) rfl rfl Tryd.func12 (by kernel_rfl) rfl #[.int .i64 (Go.bits .and .i64 a0 4194303)] rfl (by (try simp only [List.map_toArray, List.map_cons, List.map_nil]); first | done | rfl | (simp only [List.length_drop, List.length_take]; rfl)) ?_; (with_reducible refine (civil_Date.calls k (Go.bits .and .i64 a0 4194303) t162 t163 t164 _ A6.out).mono ?_); rintro e w' ⟨rfl, ⟨nd, rfl⟩⟩; refine ⟨_, rfl, ?_⟩) | ((with_reducible refine gate_callee (f := 12) rfl ?_); refine goesL_ (some 32) rfl rfl Tryd.func12 (by kernel_rfl) rfl #[.int .i64 (wrap64 ((Go.bits .and .i64 a0 4194303) + 1))] rfl (by (try simp only [List.map_toArray, List.map_cons, List.map_nil]); first | done | rfl | (simp only [List.length_drop, List.length_take]; rfl)) ?_; (with_reducible refine (civil_Date.calls k (wrap64 ((Go.bits .and .i64 a0 4194303) + 1)) t165 t166 t167 _ A7.out).mono ?_); rintro e w' ⟨rfl, ⟨nd, rfl⟩⟩; refine ⟨_, rfl, ?_⟩) | ((with_reducible refine gate_callee (f := 20) rfl ?_); refine goesL_ (some 38) rfl rfl Tryd.func20 (by kernel_rfl) rfl #[.int .i64 (wrap64 ((Go.bits .and .i64 a0 4194303) + 1))] rfl (by (try simp only [List.map_toArray, List.map_cons, List.map_nil]); first | done | rfl | (simp only [List.length_drop, List.length_take]; rfl)) ?_; (with_reducible refine (civil_Weekday.calls (wrap64 ((Go.bits .and .i64 a0 4194303) + 1)) t168 _ A8.out).mono ?_); rintro e w' ⟨rfl, ⟨nd, rfl⟩⟩; refine ⟨_, rfl, ?_⟩) | ((with_reducible refine gate_callee (f := 20) rfl ?_); refine goesL_ (some 40) rfl rfl Tryd.func20 (by kernel_rfl) rfl #[.int .i64 (Go.bits .and .i64 a0 4194303)] rfl (by (try simp only [List.map_toArray, List.map_cons, List.map_nil]); first | done | rfl | (simp only [List.length_drop, List.length_take]; rfl)) ?_; (with_reducible refine (civil_Weekday.calls (Go.bits .and .i64 a0 4194303) t169 _ A9.out).mono ?_); rintro e w' ⟨rfl, ⟨nd, rfl⟩⟩; refine ⟨_, rfl, ?_⟩) | ((with_reducible refine gate_callee (f := 16) rfl ?_); refine goesL_ (some 47) rfl rfl Tryd.func16 (by kernel_rfl) rfl #[.int .i64 t162, .int .i64 t163] rfl (by (try simp only [List.map_toArray, List.map_cons, List.map_nil]); first | done | rfl | (simp only [List.length_drop, List.length_take]; rfl)) ?_; (with_reducible refine (civil_Days.calls t162 t163 t170 _ A11.out (by first | exact hT | (repeat (first | exact hT | apply LenTab.drewN)) | (refine LenTab.below hT ?_; repeat (first | (with_reducible first | exact HB.out | apply below_alloc | apply pw_below_drewN | apply below_drew1) | exact HB.out)))).mono ?_); rintro e w' ⟨rfl, ⟨nd, rfl⟩⟩; refine ⟨_, rfl, ?_⟩))
            go_ret
            exact ⟨by first | rfl | (simp; done) | (simp [*]; done), by repeat (first | exact Drawn0.refl _ | apply Drawn0.step)⟩
        · replace c13 := Bool.eq_false_iff.mpr c13
          subst c13
          have H1 : (some false) = some r := by rw [if_neg (show ¬ (false = true) by decide)] at H; exact H
          clear H
          have H := H1
          clear H1
          obtain rfl := Option.some.inj H
          go_enter Tryd.func5, Tryd.ntmps5
          go_wp2_with (first | ((with_reducible refine gate_callee (f := 9) rfl ?_); refine goesL_ (some 11) rfl rfl Tryd.func9 (by kernel_rfl) rfl #[] rfl (by (try simp only [List.map_toArray, List.map_cons, List.map_nil]); first | done | rfl | (simp only [List.length_drop, List.length_take]; rfl)) ?_; (with_reducible refine (lustrumlaw02_awake.calls k  false _ A2.out (by first | exact hT | (repeat (first | exact hT | apply LenTab.drewN)) | (refine LenTab.below hT ?_; repeat (first | (with_reducible first | exact HB.out | apply below_alloc | apply pw_below_drewN | apply below_drew1) | exact HB.out)))).mono ?_); rintro e w' ⟨rfl, ⟨nd, rfl⟩⟩; refine ⟨_, rfl, ?_⟩) | ((with_reducible refine gate_callee (f := 12) rfl ?_); refine goesL_ (some 25) rfl rfl Tryd.func12 (by kernel_rfl) rfl #[.int .i64 (Go.bits .and .i64 a0 4194303)] rfl (by (try simp only [List.map_toArray, List.map_cons, List.map_nil]); first | done | rfl | (simp only [List.length_drop, List.length_take]; rfl)) ?_; (with_reducible refine (civil_Date.calls k (Go.bits .and .i64 a0 4194303) t162 t163 t164 _ A6.out).mono ?_); rintro e w' ⟨rfl, ⟨nd, rfl⟩⟩; refine ⟨_, rfl, ?_⟩) | ((with_reducible refine gate_callee (f := 12) rfl ?_); refine goesL_ (some 32) rfl rfl Tryd.func12 (by kernel_rfl) rfl #[.int .i64 (wrap64 ((Go.bits .and .i64 a0 4194303) + 1))] rfl (by (try simp only [List.map_toArray, List.map_cons, List.map_nil]); first | done | rfl | (simp only [List.length_drop, List.length_take]; rfl)) ?_; (with_reducible refine (civil_Date.calls k (wrap64 ((Go.bits .and .i64 a0 4194303) + 1)) t165 t166 t167 _ A7.out).mono ?_); rintro e w' ⟨rfl, ⟨nd, rfl⟩⟩; refine ⟨_, rfl, ?_⟩) | ((with_reducible refine gate_callee (f := 20) rfl ?_); refine goesL_ (some 38) rfl rfl Tryd.func20 (by kernel_rfl) rfl #[.int .i64 (wrap64 ((Go.bits .and .i64 a0 4194303) + 1))] rfl (by (try simp only [List.map_toArray, List.map_cons, List.map_nil]); first | done | rfl | (simp only [List.length_drop, List.length_take]; rfl)) ?_; (with_reducible refine (civil_Weekday.calls (wrap64 ((Go.bits .and .i64 a0 4194303) + 1)) t168 _ A8.out).mono ?_); rintro e w' ⟨rfl, ⟨nd, rfl⟩⟩; refine ⟨_, rfl, ?_⟩) | ((with_reducible refine gate_callee (f := 20) rfl ?_); refine goesL_ (some 40) rfl rfl Tryd.func20 (by kernel_rfl) rfl #[.int .i64 (Go.bits .and .i64 a0 4194303)] rfl (by (try simp only [List.map_toArray, List.map_cons, List.map_nil]); first | done | rfl | (simp only [List.length_drop, List.length_take]; rfl)) ?_; (with_reducible refine (civil_Weekday.calls (Go.bits .and .i64 a0 4194303) t169 _ A9.out).mono ?_); rintro e w' ⟨rfl, ⟨nd, rfl⟩⟩; refine ⟨_, rfl, ?_⟩) | ((with_reducible refine gate_callee (f := 16) rfl ?_); refine goesL_ (some 47) rfl rfl Tryd.func16 (by kernel_rfl) rfl #[.int .i64 t162, .int .i64 t163] rfl (by (try simp only [List.map_toArray, List.map_cons, List.map_nil]); first | done | rfl | (simp only [List.length_drop, List.length_take]; rfl)) ?_; (with_reducible refine (civil_Days.calls t162 t163 t170 _ A11.out (by first | exact hT | (repeat (first | exact hT | apply LenTab.drewN)) | (refine LenTab.below hT ?_; repeat (first | (with_reducible first | exact HB.out | apply below_alloc | apply pw_below_drewN | apply below_drew1) | exact HB.out)))).mono ?_); rintro e w' ⟨rfl, ⟨nd, rfl⟩⟩; refine ⟨_, rfl, ?_⟩))
          go_ret
          exact ⟨by first | rfl | (simp; done) | (simp [*]; done), by repeat (first | exact Drawn0.refl _ | apply Drawn0.step)⟩
      · rw [if_neg c12] at H
        have c12b0 : decide (t164 < t170) = false := decide_eq_false c12
        clear c12
        by_cases c16 : t163 < 12
        · rw [if_pos c16] at H
          have c16b0 : decide (t163 < 12) = true := decide_eq_true c16
          clear c16
          by_cases c17 : t160 = true
          · subst c17
            have H1 : (if t165 = t162 then (if t166 = (wrap64 (t163 + 1)) then (some (t167 == 1)) else (some false)) else (some false)) = some r := by rw [if_pos rfl] at H; exact H
            clear H
            have H := H1
            clear H1
            by_cases c18 : t165 = t162
            · rw [if_pos c18] at H
              have c18b0 : (t165 == t162) = true := beq_iff_eq.mpr c18
              have c18b1 : (t165 != t162) = false := bne_eq_false_iff_eq.mpr c18
              clear c18
              by_cases c19 : t166 = (wrap64 (t163 + 1))
              · rw [if_pos c19] at H
                have c19b0 : (t166 == (wrap64 (t163 + 1))) = true := beq_iff_eq.mpr c19
                have c19b1 : (t166 != (wrap64 (t163 + 1))) = false := bne_eq_false_iff_eq.mpr c19
                clear c19
                obtain rfl := Option.some.inj H
                go_enter Tryd.func5, Tryd.ntmps5
                go_wp2_with (first | ((with_reducible refine gate_callee (f := 9) rfl ?_); refine goesL_ (some 11) rfl rfl Tryd.func9 (by kernel_rfl) rfl #[] rfl (by (try simp only [List.map_toArray, List.map_cons, List.map_nil]); first | done | rfl | (simp only [List.length_drop, List.length_take]; rfl)) ?_; (with_reducible refine (lustrumlaw02_awake.calls k  true _ A2.out (by first | exact hT | (repeat (first | exact hT | apply LenTab.drewN)) | (refine LenTab.below hT ?_; repeat (first | (with_reducible first | exact HB.out | apply below_alloc | apply pw_below_drewN | apply below_drew1) | exact HB.out)))).mono ?_); rintro e w' ⟨rfl, ⟨nd, rfl⟩⟩; refine ⟨_, rfl, ?_⟩) | ((with_reducible refine gate_callee (f := 12) rfl ?_); refine goesL_ (some 25) rfl rfl Tryd.func12 (by kernel_rfl) rfl #[.int .i64 (Go.bits .and .i64 a0 4194303)] rfl (by (try simp only [List.map_toArray, List.map_cons, List.map_nil]); first | done | rfl | (simp only [List.length_drop, List.length_take]; rfl)) ?_; (with_reducible refine (civil_Date.calls k (Go.bits .and .i64 a0 4194303) t162 t163 t164 _ A6.out).mono ?_); rintro e w' ⟨rfl, ⟨nd, rfl⟩⟩; refine ⟨_, rfl, ?_⟩) | ((with_reducible refine gate_callee (f := 12) rfl ?_); refine goesL_ (some 32) rfl rfl Tryd.func12 (by kernel_rfl) rfl #[.int .i64 (wrap64 ((Go.bits .and .i64 a0 4194303) + 1))] rfl (by (try simp only [List.map_toArray, List.map_cons, List.map_nil]); first | done | rfl | (simp only [List.length_drop, List.length_take]; rfl)) ?_; (with_reducible refine (civil_Date.calls k (wrap64 ((Go.bits .and .i64 a0 4194303) + 1)) t165 t166 t167 _ A7.out).mono ?_); rintro e w' ⟨rfl, ⟨nd, rfl⟩⟩; refine ⟨_, rfl, ?_⟩) | ((with_reducible refine gate_callee (f := 20) rfl ?_); refine goesL_ (some 38) rfl rfl Tryd.func20 (by kernel_rfl) rfl #[.int .i64 (wrap64 ((Go.bits .and .i64 a0 4194303) + 1))] rfl (by (try simp only [List.map_toArray, List.map_cons, List.map_nil]); first | done | rfl | (simp only [List.length_drop, List.length_take]; rfl)) ?_; (with_reducible refine (civil_Weekday.calls (wrap64 ((Go.bits .and .i64 a0 4194303) + 1)) t168 _ A8.out).mono ?_); rintro e w' ⟨rfl, ⟨nd, rfl⟩⟩; refine ⟨_, rfl, ?_⟩) | ((with_reducible refine gate_callee (f := 20) rfl ?_); refine goesL_ (some 40) rfl rfl Tryd.func20 (by kernel_rfl) rfl #[.int .i64 (Go.bits .and .i64 a0 4194303)] rfl (by (try simp only [List.map_toArray, List.map_cons, List.map_nil]); first | done | rfl | (simp only [List.length_drop, List.length_take]; rfl)) ?_; (with_reducible refine (civil_Weekday.calls (Go.bits .and .i64 a0 4194303) t169 _ A9.out).mono ?_); rintro e w' ⟨rfl, ⟨nd, rfl⟩⟩; refine ⟨_, rfl, ?_⟩) | ((with_reducible refine gate_callee (f := 16) rfl ?_); refine goesL_ (some 47) rfl rfl Tryd.func16 (by kernel_rfl) rfl #[.int .i64 t162, .int .i64 t163] rfl (by (try simp only [List.map_toArray, List.map_cons, List.map_nil]); first | done | rfl | (simp only [List.length_drop, List.length_take]; rfl)) ?_; (with_reducible refine (civil_Days.calls t162 t163 t170 _ A11.out (by first | exact hT | (repeat (first | exact hT | apply LenTab.drewN)) | (refine LenTab.below hT ?_; repeat (first | (with_reducible first | exact HB.out | apply below_alloc | apply pw_below_drewN | apply below_drew1) | exact HB.out)))).mono ?_); rintro e w' ⟨rfl, ⟨nd, rfl⟩⟩; refine ⟨_, rfl, ?_⟩))
                go_ret
                exact ⟨by first | rfl | (simp; done) | (simp [*]; done), by repeat (first | exact Drawn0.refl _ | apply Drawn0.step)⟩
              · rw [if_neg c19] at H
                have c19b0 : (t166 == (wrap64 (t163 + 1))) = false := beq_eq_false_iff_ne.mpr c19
                have c19b1 : (t166 != (wrap64 (t163 + 1))) = true := bne_iff_ne.mpr c19
                obtain rfl := Option.some.inj H
                go_enter Tryd.func5, Tryd.ntmps5
                go_wp2_with (first | ((with_reducible refine gate_callee (f := 9) rfl ?_); refine goesL_ (some 11) rfl rfl Tryd.func9 (by kernel_rfl) rfl #[] rfl (by (try simp only [List.map_toArray, List.map_cons, List.map_nil]); first | done | rfl | (simp only [List.length_drop, List.length_take]; rfl)) ?_; (with_reducible refine (lustrumlaw02_awake.calls k  true _ A2.out (by first | exact hT | (repeat (first | exact hT | apply LenTab.drewN)) | (refine LenTab.below hT ?_; repeat (first | (with_reducible first | exact HB.out | apply below_alloc | apply pw_below_drewN | apply below_drew1) | exact HB.out)))).mono ?_); rintro e w' ⟨rfl, ⟨nd, rfl⟩⟩; refine ⟨_, rfl, ?_⟩) | ((with_reducible refine gate_callee (f := 12) rfl ?_); refine goesL_ (some 25) rfl rfl Tryd.func12 (by kernel_rfl) rfl #[.int .i64 (Go.bits .and .i64 a0 4194303)] rfl (by (try simp only [List.map_toArray, List.map_cons, List.map_nil]); first | done | rfl | (simp only [List.length_drop, List.length_take]; rfl)) ?_; (with_reducible refine (civil_Date.calls k (Go.bits .and .i64 a0 4194303) t162 t163 t164 _ A6.out).mono ?_); rintro e w' ⟨rfl, ⟨nd, rfl⟩⟩; refine ⟨_, rfl, ?_⟩) | ((with_reducible refine gate_callee (f := 12) rfl ?_); refine goesL_ (some 32) rfl rfl Tryd.func12 (by kernel_rfl) rfl #[.int .i64 (wrap64 ((Go.bits .and .i64 a0 4194303) + 1))] rfl (by (try simp only [List.map_toArray, List.map_cons, List.map_nil]); first | done | rfl | (simp only [List.length_drop, List.length_take]; rfl)) ?_; (with_reducible refine (civil_Date.calls k (wrap64 ((Go.bits .and .i64 a0 4194303) + 1)) t165 t166 t167 _ A7.out).mono ?_); rintro e w' ⟨rfl, ⟨nd, rfl⟩⟩; refine ⟨_, rfl, ?_⟩) | ((with_reducible refine gate_callee (f := 20) rfl ?_); refine goesL_ (some 38) rfl rfl Tryd.func20 (by kernel_rfl) rfl #[.int .i64 (wrap64 ((Go.bits .and .i64 a0 4194303) + 1))] rfl (by (try simp only [List.map_toArray, List.map_cons, List.map_nil]); first | done | rfl | (simp only [List.length_drop, List.length_take]; rfl)) ?_; (with_reducible refine (civil_Weekday.calls (wrap64 ((Go.bits .and .i64 a0 4194303) + 1)) t168 _ A8.out).mono ?_); rintro e w' ⟨rfl, ⟨nd, rfl⟩⟩; refine ⟨_, rfl, ?_⟩) | ((with_reducible refine gate_callee (f := 20) rfl ?_); refine goesL_ (some 40) rfl rfl Tryd.func20 (by kernel_rfl) rfl #[.int .i64 (Go.bits .and .i64 a0 4194303)] rfl (by (try simp only [List.map_toArray, List.map_cons, List.map_nil]); first | done | rfl | (simp only [List.length_drop, List.length_take]; rfl)) ?_; (with_reducible refine (civil_Weekday.calls (Go.bits .and .i64 a0 4194303) t169 _ A9.out).mono ?_); rintro e w' ⟨rfl, ⟨nd, rfl⟩⟩; refine ⟨_, rfl, ?_⟩) | ((with_reducible refine gate_callee (f := 16) rfl ?_); refine goesL_ (some 47) rfl rfl Tryd.func16 (by kernel_rfl) rfl #[.int .i64 t162, .int .i64 t163] rfl (by (try simp only [List.map_toArray, List.map_cons, List.map_nil]); first | done | rfl | (simp only [List.length_drop, List.length_take]; rfl)) ?_; (with_reducible refine (civil_Days.calls t162 t163 t170 _ A11.out (by first | exact hT | (repeat (first | exact hT | apply LenTab.drewN)) | (refine LenTab.below hT ?_; repeat (first | (with_reducible first | exact HB.out | apply below_alloc | apply pw_below_drewN | apply below_drew1) | exact HB.out)))).mono ?_); rintro e w' ⟨rfl, ⟨nd, rfl⟩⟩; refine ⟨_, rfl, ?_⟩))
                go_ret
                exact ⟨by first | rfl | (simp; done) | (simp [*]; done), by repeat (first | exact Drawn0.refl _ | apply Drawn0.step)⟩
            · rw [if_neg c18] at H
              have c18b0 : (t165 == t162) = false := beq_eq_false_iff_ne.mpr c18
              have c18b1 : (t165 != t162) = true := bne_iff_ne.mpr c18
              obtain rfl := Option.some.inj H
              go_enter Tryd.func5, Tryd.ntmps5
              go_wp2_with (first | ((with_reducible refine gate_callee (f := 9) rfl ?_); refine goesL_ (some 11) rfl rfl Tryd.func9 (by kernel_rfl) rfl #[] rfl (by (try simp only [List.map_toArray, List.map_cons, List.map_nil]); first | done | rfl | (simp only [List.length_drop, List.length_take]; rfl)) ?_; (with_reducible refine (lustrumlaw02_awake.calls k  true _ A2.out (by first | exact hT | (repeat (first | exact hT | apply LenTab.drewN)) | (refine LenTab.below hT ?_; repeat (first | (with_reducible first | exact HB.out | apply below_alloc | apply pw_below_drewN | apply below_drew1) | exact HB.out)))).mono ?_); rintro e w' ⟨rfl, ⟨nd, rfl⟩⟩; refine ⟨_, rfl, ?_⟩) | ((with_reducible refine gate_callee (f := 12) rfl ?_); refine goesL_ (some 25) rfl rfl Tryd.func12 (by kernel_rfl) rfl #[.int .i64 (Go.bits .and .i64 a0 4194303)] rfl (by (try simp only [List.map_toArray, List.map_cons, List.map_nil]); first | done | rfl | (simp only [List.length_drop, List.length_take]; rfl)) ?_; (with_reducible refine (civil_Date.calls k (Go.bits .and .i64 a0 4194303) t162 t163 t164 _ A6.out).mono ?_); rintro e w' ⟨rfl, ⟨nd, rfl⟩⟩; refine ⟨_, rfl, ?_⟩) | ((with_reducible refine gate_callee (f := 12) rfl ?_); refine goesL_ (some 32) rfl rfl Tryd.func12 (by kernel_rfl) rfl #[.int .i64 (wrap64 ((Go.bits .and .i64 a0 4194303) + 1))] rfl (by (try simp only [List.map_toArray, List.map_cons, List.map_nil]); first | done | rfl | (simp only [List.length_drop, List.length_take]; rfl)) ?_; (with_reducible refine (civil_Date.calls k (wrap64 ((Go.bits .and .i64 a0 4194303) + 1)) t165 t166 t167 _ A7.out).mono ?_); rintro e w' ⟨rfl, ⟨nd, rfl⟩⟩; refine ⟨_, rfl, ?_⟩) | ((with_reducible refine gate_callee (f := 20) rfl ?_); refine goesL_ (some 38) rfl rfl Tryd.func20 (by kernel_rfl) rfl #[.int .i64 (wrap64 ((Go.bits .and .i64 a0 4194303) + 1))] rfl (by (try simp only [List.map_toArray, List.map_cons, List.map_nil]); first | done | rfl | (simp only [List.length_drop, List.length_take]; rfl)) ?_; (with_reducible refine (civil_Weekday.calls (wrap64 ((Go.bits .and .i64 a0 4194303) + 1)) t168 _ A8.out).mono ?_); rintro e w' ⟨rfl, ⟨nd, rfl⟩⟩; refine ⟨_, rfl, ?_⟩) | ((with_reducible refine gate_callee (f := 20) rfl ?_); refine goesL_ (some 40) rfl rfl Tryd.func20 (by kernel_rfl) rfl #[.int .i64 (Go.bits .and .i64 a0 4194303)] rfl (by (try simp only [List.map_toArray, List.map_cons, List.map_nil]); first | done | rfl | (simp only [List.length_drop, List.length_take]; rfl)) ?_; (with_reducible refine (civil_Weekday.calls (Go.bits .and .i64 a0 4194303) t169 _ A9.out).mono ?_); rintro e w' ⟨rfl, ⟨nd, rfl⟩⟩; refine ⟨_, rfl, ?_⟩) | ((with_reducible refine gate_callee (f := 16) rfl ?_); refine goesL_ (some 47) rfl rfl Tryd.func16 (by kernel_rfl) rfl #[.int .i64 t162, .int .i64 t163] rfl (by (try simp only [List.map_toArray, List.map_cons, List.map_nil]); first | done | rfl | (simp only [List.length_drop, List.length_take]; rfl)) ?_; (with_reducible refine (civil_Days.calls t162 t163 t170 _ A11.out (by first | exact hT | (repeat (first | exact hT | apply LenTab.drewN)) | (refine LenTab.below hT ?_; repeat (first | (with_reducible first | exact HB.out | apply below_alloc | apply pw_below_drewN | apply below_drew1) | exact HB.out)))).mono ?_); rintro e w' ⟨rfl, ⟨nd, rfl⟩⟩; refine ⟨_, rfl, ?_⟩))
              go_ret
              exact ⟨by first | rfl | (simp; done) | (simp [*]; done), by repeat (first | exact Drawn0.refl _ | apply Drawn0.step)⟩
          · replace c17 := Bool.eq_false_iff.mpr c17
            subst c17
            have H1 : (some false) = some r := by rw [if_neg (show ¬ (false = true) by decide)] at H; exact H
            clear H
            have H := H1
            clear H1
            obtain rfl := Option.some.inj H
            go_enter Tryd.func5, Tryd.ntmps5
            go_wp2_with (first | ((with_reducible refine gate_callee (f := 9) rfl ?_); refine goesL_ (some 11) rfl rfl Tryd.func9 (by kernel_rfl) rfl #[] rfl (by (try simp only [List.map_toArray, List.map_cons, List.map_nil]); first | done | rfl | (simp only [List.length_drop, List.length_take]; rfl)) ?_; (with_reducible refine (lustrumlaw02_awake.calls k  false _ A2.out (by first | exact hT | (repeat (first | exact hT | apply LenTab.drewN)) | (refine LenTab.below hT ?_; repeat (first | (with_reducible first | exact HB.out | apply below_alloc | apply pw_below_drewN | apply below_drew1) | exact HB.out)))).mono ?_); rintro e w' ⟨rfl, ⟨nd, rfl⟩⟩; refine ⟨_, rfl, ?_⟩) | ((with_reducible refine gate_callee (f := 12) rfl ?_); refine goesL_ (some 25) rfl rfl Tryd.func12 (by kernel_rfl) rfl #[.int .i64 (Go.bits .and .i64 a0 4194303)] rfl (by (try simp only [List.map_toArray, List.map_cons, List.map_nil]); first | done | rfl | (simp only [List.length_drop, List.length_take]; rfl)) ?_; (with_reducible refine (civil_Date.calls k (Go.bits .and .i64 a0 4194303) t162 t163 t164 _ A6.out).mono ?_); rintro e w' ⟨rfl, ⟨nd, rfl⟩⟩; refine ⟨_, rfl, ?_⟩) | ((with_reducible refine gate_callee (f := 12) rfl ?_); refine goesL_ (some 32) rfl rfl Tryd.func12 (by kernel_rfl) rfl #[.int .i64 (wrap64 ((Go.bits .and .i64 a0 4194303) + 1))] rfl (by (try simp only [List.map_toArray, List.map_cons, List.map_nil]); first | done | rfl | (simp only [List.length_drop, List.length_take]; rfl)) ?_; (with_reducible refine (civil_Date.calls k (wrap64 ((Go.bits .and .i64 a0 4194303) + 1)) t165 t166 t167 _ A7.out).mono ?_); rintro e w' ⟨rfl, ⟨nd, rfl⟩⟩; refine ⟨_, rfl, ?_⟩) | ((with_reducible refine gate_callee (f := 20) rfl ?_); refine goesL_ (some 38) rfl rfl Tryd.func20 (by kernel_rfl) rfl #[.int .i64 (wrap64 ((Go.bits .and .i64 a0 4194303) + 1))] rfl (by (try simp only [List.map_toArray, List.map_cons, List.map_nil]); first | done | rfl | (simp only [List.length_drop, List.length_take]; rfl)) ?_; (with_reducible refine (civil_Weekday.calls (wrap64 ((Go.bits .and .i64 a0 4194303) + 1)) t168 _ A8.out).mono ?_); rintro e w' ⟨rfl, ⟨nd, rfl⟩⟩; refine ⟨_, rfl, ?_⟩) | ((with_reducible refine gate_callee (f := 20) rfl ?_); refine goesL_ (some 40) rfl rfl Tryd.func20 (by kernel_rfl) rfl #[.int .i64 (Go.bits .and .i64 a0 4194303)] rfl (by (try simp only [List.map_toArray, List.map_cons, List.map_nil]); first | done | rfl | (simp only [List.length_drop, List.length_take]; rfl)) ?_; (with_reducible refine (civil_Weekday.calls (Go.bits .and .i64 a0 4194303) t169 _ A9.out).mono ?_); rintro e w' ⟨rfl, ⟨nd, rfl⟩⟩; refine ⟨_, rfl, ?_⟩) | ((with_reducible refine gate_callee (f := 16) rfl ?_); refine goesL_ (some 47) rfl rfl Tryd.func16 (by kernel_rfl) rfl #[.int .i64 t162, .int .i64 t163] rfl (by (try simp only [List.map_toArray, List.map_cons, List.map_nil]); first | done | rfl | (simp only [List.length_drop, List.length_take]; rfl)) ?_; (with_reducible refine (civil_Days.calls t162 t163 t170 _ A11.out (by first | exact hT | (repeat (first | exact hT | apply LenTab.drewN)) | (refine LenTab.below hT ?_; repeat (first | (with_reducible first | exact HB.out | apply below_alloc | apply pw_below_drewN | apply below_drew1) | exact HB.out)))).mono ?_); rintro e w' ⟨rfl, ⟨nd, rfl⟩⟩; refine ⟨_, rfl, ?_⟩))
            go_ret
            exact ⟨by first | rfl | (simp; done) | (simp [*]; done), by repeat (first | exact Drawn0.refl _ | apply Drawn0.step)⟩
        · rw [if_neg c16] at H
          have c16b0 : decide (t163 < 12) = false := decide_eq_false c16
          clear c16
          by_cases c20 : t160 = true
          · subst c20
            have H1 : (if t165 = (wrap64 (t162 + 1)) then (if t166 = 1 then (some (t167 == 1)) else (some false)) else (some false)) = some r := by rw [if_pos rfl] at H; exact H
            clear H
            have H := H1
            clear H1
            by_cases c21 : t165 = (wrap64 (t162 + 1))
            · rw [if_pos c21] at H
              have c21b0 : (t165 == (wrap64 (t162 + 1))) = true := beq_iff_eq.mpr c21
              have c21b1 : (t165 != (wrap64 (t162 + 1))) = false := bne_eq_false_iff_eq.mpr c21
              clear c21
              by_cases c22 : t166 = 1
              · rw [if_pos c22] at H
                have c22b0 : (t166 == 1) = true := beq_iff_eq.mpr c22
                have c22b1 : (t166 != 1) = false := bne_eq_false_iff_eq.mpr c22
                clear c22
                obtain rfl := Option.some.inj H
                go_enter Tryd.func5, Tryd.ntmps5
                go_wp2_with (first | ((with_reducible refine gate_callee (f := 9) rfl ?_); refine goesL_ (some 11) rfl rfl Tryd.func9 (by kernel_rfl) rfl #[] rfl (by (try simp only [List.map_toArray, List.map_cons, List.map_nil]); first | done | rfl | (simp only [List.length_drop, List.length_take]; rfl)) ?_; (with_reducible refine (lustrumlaw02_awake.calls k  true _ A2.out (by first | exact hT | (repeat (first | exact hT | apply LenTab.drewN)) | (refine LenTab.below hT ?_; repeat (first | (with_reducible first | exact HB.out | apply below_alloc | apply pw_below_drewN | apply below_drew1) | exact HB.out)))).mono ?_); rintro e w' ⟨rfl, ⟨nd, rfl⟩⟩; refine ⟨_, rfl, ?_⟩) | ((with_reducible refine gate_callee (f := 12) rfl ?_); refine goesL_ (some 25) rfl rfl Tryd.func12 (by kernel_rfl) rfl #[.int .i64 (Go.bits .and .i64 a0 4194303)] rfl (by (try simp only [List.map_toArray, List.map_cons, List.map_nil]); first | done | rfl | (simp only [List.length_drop, List.length_take]; rfl)) ?_; (with_reducible refine (civil_Date.calls k (Go.bits .and .i64 a0 4194303) t162 t163 t164 _ A6.out).mono ?_); rintro e w' ⟨rfl, ⟨nd, rfl⟩⟩; refine ⟨_, rfl, ?_⟩) | ((with_reducible refine gate_callee (f := 12) rfl ?_); refine goesL_ (some 32) rfl rfl Tryd.func12 (by kernel_rfl) rfl #[.int .i64 (wrap64 ((Go.bits .and .i64 a0 4194303) + 1))] rfl (by (try simp only [List.map_toArray, List.map_cons, List.map_nil]); first | done | rfl | (simp only [List.length_drop, List.length_take]; rfl)) ?_; (with_reducible refine (civil_Date.calls k (wrap64 ((Go.bits .and .i64 a0 4194303) + 1)) t165 t166 t167 _ A7.out).mono ?_); rintro e w' ⟨rfl, ⟨nd, rfl⟩⟩; refine ⟨_, rfl, ?_⟩) | ((with_reducible refine gate_callee (f := 20) rfl ?_); refine goesL_ (some 38) rfl rfl Tryd.func20 (by kernel_rfl) rfl #[.int .i64 (wrap64 ((Go.bits .and .i64 a0 4194303) + 1))] rfl (by (try simp only [List.map_toArray, List.map_cons, List.map_nil]); first | done | rfl | (simp only [List.length_drop, List.length_take]; rfl)) ?_; (with_reducible refine (civil_Weekday.calls (wrap64 ((Go.bits .and .i64 a0 4194303) + 1)) t168 _ A8.out).mono ?_); rintro e w' ⟨rfl, ⟨nd, rfl⟩⟩; refine ⟨_, rfl, ?_⟩) | ((with_reducible refine gate_callee (f := 20) rfl ?_); refine goesL_ (some 40) rfl rfl Tryd.func20 (by kernel_rfl) rfl #[.int .i64 (Go.bits .and .i64 a0 4194303)] rfl (by (try simp only [List.map_toArray, List.map_cons, List.map_nil]); first | done | rfl | (simp only [List.length_drop, List.length_take]; rfl)) ?_; (with_reducible refine (civil_Weekday.calls (Go.bits .and .i64 a0 4194303) t169 _ A9.out).mono ?_); rintro e w' ⟨rfl, ⟨nd, rfl⟩⟩; refine ⟨_, rfl, ?_⟩) | ((with_reducible refine gate_callee (f := 16) rfl ?_); refine goesL_ (some 47) rfl rfl Tryd.func16 (by kernel_rfl) rfl #[.int .i64 t162, .int .i64 t163] rfl (by (try simp only [List.map_toArray, List.map_cons, List.map_nil]); first | done | rfl | (simp only [List.length_drop, List.length_take]; rfl)) ?_; (with_reducible refine (civil_Days.calls t162 t163 t170 _ A11.out (by first | exact hT | (repeat (first | exact hT | apply LenTab.drewN)) | (refine LenTab.below hT ?_; repeat (first | (with_reducible first | exact HB.out | apply below_alloc | apply pw_below_drewN | apply below_drew1) | exact HB.out)))).mono ?_); rintro e w' ⟨rfl, ⟨nd, rfl⟩⟩; refine ⟨_, rfl, ?_⟩))
                go_ret
                exact ⟨by first | rfl | (simp; done) | (simp [*]; done), by repeat (first | exact Drawn0.refl _ | apply Drawn0.step)⟩
              · rw [if_neg c22] at H
                have c22b0 : (t166 == 1) = false := beq_eq_false_iff_ne.mpr c22
                have c22b1 : (t166 != 1) = true := bne_iff_ne.mpr c22
                obtain rfl := Option.some.inj H
                go_enter Tryd.func5, Tryd.ntmps5
                go_wp2_with (first | ((with_reducible refine gate_callee (f := 9) rfl ?_); refine goesL_ (some 11) rfl rfl Tryd.func9 (by kernel_rfl) rfl #[] rfl (by (try simp only [List.map_toArray, List.map_cons, List.map_nil]); first | done | rfl | (simp only [List.length_drop, List.length_take]; rfl)) ?_; (with_reducible refine (lustrumlaw02_awake.calls k  true _ A2.out (by first | exact hT | (repeat (first | exact hT | apply LenTab.drewN)) | (refine LenTab.below hT ?_; repeat (first | (with_reducible first | exact HB.out | apply below_alloc | apply pw_below_drewN | apply below_drew1) | exact HB.out)))).mono ?_); rintro e w' ⟨rfl, ⟨nd, rfl⟩⟩; refine ⟨_, rfl, ?_⟩) | ((with_reducible refine gate_callee (f := 12) rfl ?_); refine goesL_ (some 25) rfl rfl Tryd.func12 (by kernel_rfl) rfl #[.int .i64 (Go.bits .and .i64 a0 4194303)] rfl (by (try simp only [List.map_toArray, List.map_cons, List.map_nil]); first | done | rfl | (simp only [List.length_drop, List.length_take]; rfl)) ?_; (with_reducible refine (civil_Date.calls k (Go.bits .and .i64 a0 4194303) t162 t163 t164 _ A6.out).mono ?_); rintro e w' ⟨rfl, ⟨nd, rfl⟩⟩; refine ⟨_, rfl, ?_⟩) | ((with_reducible refine gate_callee (f := 12) rfl ?_); refine goesL_ (some 32) rfl rfl Tryd.func12 (by kernel_rfl) rfl #[.int .i64 (wrap64 ((Go.bits .and .i64 a0 4194303) + 1))] rfl (by (try simp only [List.map_toArray, List.map_cons, List.map_nil]); first | done | rfl | (simp only [List.length_drop, List.length_take]; rfl)) ?_; (with_reducible refine (civil_Date.calls k (wrap64 ((Go.bits .and .i64 a0 4194303) + 1)) t165 t166 t167 _ A7.out).mono ?_); rintro e w' ⟨rfl, ⟨nd, rfl⟩⟩; refine ⟨_, rfl, ?_⟩) | ((with_reducible refine gate_callee (f := 20) rfl ?_); refine goesL_ (some 38) rfl rfl Tryd.func20 (by kernel_rfl) rfl #[.int .i64 (wrap64 ((Go.bits .and .i64 a0 4194303) + 1))] rfl (by (try simp only [List.map_toArray, List.map_cons, List.map_nil]); first | done | rfl | (simp only [List.length_drop, List.length_take]; rfl)) ?_; (with_reducible refine (civil_Weekday.calls (wrap64 ((Go.bits .and .i64 a0 4194303) + 1)) t168 _ A8.out).mono ?_); rintro e w' ⟨rfl, ⟨nd, rfl⟩⟩; refine ⟨_, rfl, ?_⟩) | ((with_reducible refine gate_callee (f := 20) rfl ?_); refine goesL_ (some 40) rfl rfl Tryd.func20 (by kernel_rfl) rfl #[.int .i64 (Go.bits .and .i64 a0 4194303)] rfl (by (try simp only [List.map_toArray, List.map_cons, List.map_nil]); first | done | rfl | (simp only [List.length_drop, List.length_take]; rfl)) ?_; (with_reducible refine (civil_Weekday.calls (Go.bits .and .i64 a0 4194303) t169 _ A9.out).mono ?_); rintro e w' ⟨rfl, ⟨nd, rfl⟩⟩; refine ⟨_, rfl, ?_⟩) | ((with_reducible refine gate_callee (f := 16) rfl ?_); refine goesL_ (some 47) rfl rfl Tryd.func16 (by kernel_rfl) rfl #[.int .i64 t162, .int .i64 t163] rfl (by (try simp only [List.map_toArray, List.map_cons, List.map_nil]); first | done | rfl | (simp only [List.length_drop, List.length_take]; rfl)) ?_; (with_reducible refine (civil_Days.calls t162 t163 t170 _ A11.out (by first | exact hT | (repeat (first | exact hT | apply LenTab.drewN)) | (refine LenTab.below hT ?_; repeat (first | (with_reducible first | exact HB.out | apply below_alloc | apply pw_below_drewN | apply below_drew1) | exact HB.out)))).mono ?_); rintro e w' ⟨rfl, ⟨nd, rfl⟩⟩; refine ⟨_, rfl, ?_⟩))
                go_ret
                exact ⟨by first | rfl | (simp; done) | (simp [*]; done), by repeat (first | exact Drawn0.refl _ | apply Drawn0.step)⟩
            · rw [if_neg c21] at H
              have c21b0 : (t165 == (wrap64 (t162 + 1))) = false := beq_eq_false_iff_ne.mpr c21
              have c21b1 : (t165 != (wrap64 (t162 + 1))) = true := bne_iff_ne.mpr c21
              obtain rfl := Option.some.inj H
              go_enter Tryd.func5, Tryd.ntmps5
              go_wp2_with (first | ((with_reducible refine gate_callee (f := 9) rfl ?_); refine goesL_ (some 11) rfl rfl Tryd.func9 (by kernel_rfl) rfl #[] rfl (by (try simp only [List.map_toArray, List.map_cons, List.map_nil]); first | done | rfl | (simp only [List.length_drop, List.length_take]; rfl)) ?_; (with_reducible refine (lustrumlaw02_awake.calls k  true _ A2.out (by first | exact hT | (repeat (first | exact hT | apply LenTab.drewN)) | (refine LenTab.below hT ?_; repeat (first | (with_reducible first | exact HB.out | apply below_alloc | apply pw_below_drewN | apply below_drew1) | exact HB.out)))).mono ?_); rintro e w' ⟨rfl, ⟨nd, rfl⟩⟩; refine ⟨_, rfl, ?_⟩) | ((with_reducible refine gate_callee (f := 12) rfl ?_); refine goesL_ (some 25) rfl rfl Tryd.func12 (by kernel_rfl) rfl #[.int .i64 (Go.bits .and .i64 a0 4194303)] rfl (by (try simp only [List.map_toArray, List.map_cons, List.map_nil]); first | done | rfl | (simp only [List.length_drop, List.length_take]; rfl)) ?_; (with_reducible refine (civil_Date.calls k (Go.bits .and .i64 a0 4194303) t162 t163 t164 _ A6.out).mono ?_); rintro e w' ⟨rfl, ⟨nd, rfl⟩⟩; refine ⟨_, rfl, ?_⟩) | ((with_reducible refine gate_callee (f := 12) rfl ?_); refine goesL_ (some 32) rfl rfl Tryd.func12 (by kernel_rfl) rfl #[.int .i64 (wrap64 ((Go.bits .and .i64 a0 4194303) + 1))] rfl (by (try simp only [List.map_toArray, List.map_cons, List.map_nil]); first | done | rfl | (simp only [List.length_drop, List.length_take]; rfl)) ?_; (with_reducible refine (civil_Date.calls k (wrap64 ((Go.bits .and .i64 a0 4194303) + 1)) t165 t166 t167 _ A7.out).mono ?_); rintro e w' ⟨rfl, ⟨nd, rfl⟩⟩; refine ⟨_, rfl, ?_⟩) | ((with_reducible refine gate_callee (f := 20) rfl ?_); refine goesL_ (some 38) rfl rfl Tryd.func20 (by kernel_rfl) rfl #[.int .i64 (wrap64 ((Go.bits .and .i64 a0 4194303) + 1))] rfl (by (try simp only [List.map_toArray, List.map_cons, List.map_nil]); first | done | rfl | (simp only [List.length_drop, List.length_take]; rfl)) ?_; (with_reducible refine (civil_Weekday.calls (wrap64 ((Go.bits .and .i64 a0 4194303) + 1)) t168 _ A8.out).mono ?_); rintro e w' ⟨rfl, ⟨nd, rfl⟩⟩; refine ⟨_, rfl, ?_⟩) | ((with_reducible refine gate_callee (f := 20) rfl ?_); refine goesL_ (some 40) rfl rfl Tryd.func20 (by kernel_rfl) rfl #[.int .i64 (Go.bits .and .i64 a0 4194303)] rfl (by (try simp only [List.map_toArray, List.map_cons, List.map_nil]); first | done | rfl | (simp only [List.length_drop, List.length_take]; rfl)) ?_; (with_reducible refine (civil_Weekday.calls (Go.bits .and .i64 a0 4194303) t169 _ A9.out).mono ?_); rintro e w' ⟨rfl, ⟨nd, rfl⟩⟩; refine ⟨_, rfl, ?_⟩) | ((with_reducible refine gate_callee (f := 16) rfl ?_); refine goesL_ (some 47) rfl rfl Tryd.func16 (by kernel_rfl) rfl #[.int .i64 t162, .int .i64 t163] rfl (by (try simp only [List.map_toArray, List.map_cons, List.map_nil]); first | done | rfl | (simp only [List.length_drop, List.length_take]; rfl)) ?_; (with_reducible refine (civil_Days.calls t162 t163 t170 _ A11.out (by first | exact hT | (repeat (first | exact hT | apply LenTab.drewN)) | (refine LenTab.below hT ?_; repeat (first | (with_reducible first | exact HB.out | apply below_alloc | apply pw_below_drewN | apply below_drew1) | exact HB.out)))).mono ?_); rintro e w' ⟨rfl, ⟨nd, rfl⟩⟩; refine ⟨_, rfl, ?_⟩))
              go_ret
              exact ⟨by first | rfl | (simp; done) | (simp [*]; done), by repeat (first | exact Drawn0.refl _ | apply Drawn0.step)⟩
          · replace c20 := Bool.eq_false_iff.mpr c20
            subst c20
            have H1 : (some false) = some r := by rw [if_neg (show ¬ (false = true) by decide)] at H; exact H
            clear H
            have H := H1
            clear H1
            obtain rfl := Option.some.inj H
            go_enter Tryd.func5, Tryd.ntmps5
            go_wp2_with (first | ((with_reducible refine gate_callee (f := 9) rfl ?_); refine goesL_ (some 11) rfl rfl Tryd.func9 (by kernel_rfl) rfl #[] rfl (by (try simp only [List.map_toArray, List.map_cons, List.map_nil]); first | done | rfl | (simp only [List.length_drop, List.length_take]; rfl)) ?_; (with_reducible refine (lustrumlaw02_awake.calls k  false _ A2.out (by first | exact hT | (repeat (first | exact hT | apply LenTab.drewN)) | (refine LenTab.below hT ?_; repeat (first | (with_reducible first | exact HB.out | apply below_alloc | apply pw_below_drewN | apply below_drew1) | exact HB.out)))).mono ?_); rintro e w' ⟨rfl, ⟨nd, rfl⟩⟩; refine ⟨_, rfl, ?_⟩) | ((with_reducible refine gate_callee (f := 12) rfl ?_); refine goesL_ (some 25) rfl rfl Tryd.func12 (by kernel_rfl) rfl #[.int .i64 (Go.bits .and .i64 a0 4194303)] rfl (by (try simp only [List.map_toArray, List.map_cons, List.map_nil]); first | done | rfl | (simp only [List.length_drop, List.length_take]; rfl)) ?_; (with_reducible refine (civil_Date.calls k (Go.bits .and .i64 a0 4194303) t162 t163 t164 _ A6.out).mono ?_); rintro e w' ⟨rfl, ⟨nd, rfl⟩⟩; refine ⟨_, rfl, ?_⟩) | ((with_reducible refine gate_callee (f := 12) rfl ?_); refine goesL_ (some 32) rfl rfl Tryd.func12 (by kernel_rfl) rfl #[.int .i64 (wrap64 ((Go.bits .and .i64 a0 4194303) + 1))] rfl (by (try simp only [List.map_toArray, List.map_cons, List.map_nil]); first | done | rfl | (simp only [List.length_drop, List.length_take]; rfl)) ?_; (with_reducible refine (civil_Date.calls k (wrap64 ((Go.bits .and .i64 a0 4194303) + 1)) t165 t166 t167 _ A7.out).mono ?_); rintro e w' ⟨rfl, ⟨nd, rfl⟩⟩; refine ⟨_, rfl, ?_⟩) | ((with_reducible refine gate_callee (f := 20) rfl ?_); refine goesL_ (some 38) rfl rfl Tryd.func20 (by kernel_rfl) rfl #[.int .i64 (wrap64 ((Go.bits .and .i64 a0 4194303) + 1))] rfl (by (try simp only [List.map_toArray, List.map_cons, List.map_nil]); first | done | rfl | (simp only [List.length_drop, List.length_take]; rfl)) ?_; (with_reducible refine (civil_Weekday.calls (wrap64 ((Go.bits .and .i64 a0 4194303) + 1)) t168 _ A8.out).mono ?_); rintro e w' ⟨rfl, ⟨nd, rfl⟩⟩; refine ⟨_, rfl, ?_⟩) | ((with_reducible refine gate_callee (f := 20) rfl ?_); refine goesL_ (some 40) rfl rfl Tryd.func20 (by kernel_rfl) rfl #[.int .i64 (Go.bits .and .i64 a0 4194303)] rfl (by (try simp only [List.map_toArray, List.map_cons, List.map_nil]); first | done | rfl | (simp only [List.length_drop, List.length_take]; rfl)) ?_; (with_reducible refine (civil_Weekday.calls (Go.bits .and .i64 a0 4194303) t169 _ A9.out).mono ?_); rintro e w' ⟨rfl, ⟨nd, rfl⟩⟩; refine ⟨_, rfl, ?_⟩) | ((with_reducible refine gate_callee (f := 16) rfl ?_); refine goesL_ (some 47) rfl rfl Tryd.func16 (by kernel_rfl) rfl #[.int .i64 t162, .int .i64 t163] rfl (by (try simp only [List.map_toArray, List.map_cons, List.map_nil]); first | done | rfl | (simp only [List.length_drop, List.length_take]; rfl)) ?_; (with_reducible refine (civil_Days.calls t162 t163 t170 _ A11.out (by first | exact hT | (repeat (first | exact hT | apply LenTab.drewN)) | (refine LenTab.below hT ?_; repeat (first | (with_reducible first | exact HB.out | apply below_alloc | apply pw_below_drewN | apply below_drew1) | exact HB.out)))).mono ?_); rintro e w' ⟨rfl, ⟨nd, rfl⟩⟩; refine ⟨_, rfl, ?_⟩))
            go_ret
            exact ⟨by first | rfl | (simp; done) | (simp [*]; done), by repeat (first | exact Drawn0.refl _ | apply Drawn0.step)⟩
    · rw [if_neg c10] at H
      have c10b0 : (t168 == (Int.tmod (wrap64 (t169 + 1)) 7)) = false := beq_eq_false_iff_ne.mpr c10
      have c10b1 : (t168 != (Int.tmod (wrap64 (t169 + 1)) 7)) = true := bne_iff_ne.mpr c10
      obtain rfl := Option.some.inj H
      go_enter Tryd.func5, Tryd.ntmps5
      go_wp2_with (first | ((with_reducible refine gate_callee (f := 9) rfl ?_); refine goesL_ (some 11) rfl rfl Tryd.func9 (by kernel_rfl) rfl #[] rfl (by (try simp only [List.map_toArray, List.map_cons, List.map_nil]); first | done | rfl | (simp only [List.length_drop, List.length_take]; rfl)) ?_; (with_reducible refine (lustrumlaw02_awake.calls k  t160 _ A2.out (by first | exact hT | (repeat (first | exact hT | apply LenTab.drewN)) | (refine LenTab.below hT ?_; repeat (first | (with_reducible first | exact HB.out | apply below_alloc | apply pw_below_drewN | apply below_drew1) | exact HB.out)))).mono ?_); rintro e w' ⟨rfl, ⟨nd, rfl⟩⟩; refine ⟨_, rfl, ?_⟩) | ((with_reducible refine gate_callee (f := 12) rfl ?_); refine goesL_ (some 25) rfl rfl Tryd.func12 (by kernel_rfl) rfl #[.int .i64 (Go.bits .and .i64 a0 4194303)] rfl (by (try simp only [List.map_toArray, List.map_cons, List.map_nil]); first | done | rfl | (simp only [List.length_drop, List.length_take]; rfl)) ?_; (with_reducible refine (civil_Date.calls k (Go.bits .and .i64 a0 4194303) t162 t163 t164 _ A6.out).mono ?_); rintro e w' ⟨rfl, ⟨nd, rfl⟩⟩; refine ⟨_, rfl, ?_⟩) | ((with_reducible refine gate_callee (f := 12) rfl ?_); refine goesL_ (some 32) rfl rfl Tryd.func12 (by kernel_rfl) rfl #[.int .i64 (wrap64 ((Go.bits .and .i64 a0 4194303) + 1))] rfl (by (try simp only [List.map_toArray, List.map_cons, List.map_nil]); first | done | rfl | (simp only [List.length_drop, List.length_take]; rfl)) ?_; (with_reducible refine (civil_Date.calls k (wrap64 ((Go.bits .and .i64 a0 4194303) + 1)) t165 t166 t167 _ A7.out).mono ?_); rintro e w' ⟨rfl, ⟨nd, rfl⟩⟩; refine ⟨_, rfl, ?_⟩) | ((with_reducible refine gate_callee (f := 20) rfl ?_); refine goesL_ (some 38) rfl rfl Tryd.func20 (by kernel_rfl) rfl #[.int .i64 (wrap64 ((Go.bits .and .i64 a0 4194303) + 1))] rfl (by (try simp only [List.map_toArray, List.map_cons, List.map_nil]); first | done | rfl | (simp only [List.length_drop, List.length_take]; rfl)) ?_; (with_reducible refine (civil_Weekday.calls (wrap64 ((Go.bits .and .i64 a0 4194303) + 1)) t168 _ A8.out).mono ?_); rintro e w' ⟨rfl, ⟨nd, rfl⟩⟩; refine ⟨_, rfl, ?_⟩) | ((with_reducible refine gate_callee (f := 20) rfl ?_); refine goesL_ (some 40) rfl rfl Tryd.func20 (by kernel_rfl) rfl #[.int .i64 (Go.bits .and .i64 a0 4194303)] rfl (by (try simp only [List.map_toArray, List.map_cons, List.map_nil]); first | done | rfl | (simp only [List.length_drop, List.length_take]; rfl)) ?_; (with_reducible refine (civil_Weekday.calls (Go.bits .and .i64 a0 4194303) t169 _ A9.out).mono ?_); rintro e w' ⟨rfl, ⟨nd, rfl⟩⟩; refine ⟨_, rfl, ?_⟩))
      go_ret
      exact ⟨by first | rfl | (simp; done) | (simp [*]; done), by repeat (first | exact Drawn0.refl _ | apply Drawn0.step)⟩

/-- THE ONE PURE STATEMENT of lustrumlaw02_CivilNext: yours. -/
def lustrumlaw02_CivilNext.Pure : Prop := ∀ (a0 : Int), (Lit.int .i64 a0).wf = true → ∃ k, lustrumlaw02_CivilNext.f k a0 = some true
theorem lustrumlaw02_CivilNext.walk (P : lustrumlaw02_CivilNext.Pure) (a0 : Int) (w : World) (w0 : (Lit.int .i64 a0).wf = true) (hT : LenTab w) :
    Calls Tryd.prog 5 #[.int .i64 a0] w fun e w' => e = .returned (.bool true) ∧ Below w.heap.size w w' := by
  obtain ⟨k, h⟩ := P a0 w0
  refine (lustrumlaw02_CivilNext.calls k a0 true w h hT).mono ?_
  rintro e w' ⟨rfl, hd⟩
  exact ⟨rfl, hd.below⟩

/-! ### lustrumlaw02_CivilYears: function 6 -/
mutual
def lustrumlaw02_CivilYears.l0 : Nat → Bool → Int → Int → Bool → Int → Bool → Int → Int → Option (Bool)
  | 0, _, _, _, _, _, _, _, _ => none
  | k + 1, x3, x4, x5, x6, x7, x8, x9, x10 => if x10 ≤ 12 then ((civil_Days.f x4 x10).bind fun t176 => (lustrumlaw02_CivilYears.l0 k x3 x4 x5 x6 x7 x8 (wrap64 (x9 + t176)) (wrap64 (x10 + 1)))) else ((civil_Leap.f x4).bind fun t177 => (if t177 = true then (lustrumlaw02_CivilYears.j1 k x3 x4 x5 x6 x7 x8 x9 366) else (lustrumlaw02_CivilYears.j1 k x3 x4 x5 x6 x7 x8 x9 365)))
def lustrumlaw02_CivilYears.j1 : Nat → Bool → Int → Int → Bool → Int → Bool → Int → Int → Option (Bool)
  | 0, _, _, _, _, _, _, _, _ => none
  | k + 1, x3, x4, x5, x6, x7, x8, x9, x11 => if x6 = true then (if x8 = true then (if (wrap64 (x7 - x5)) = x11 then (if x9 = x11 then ((civil_Leap.f x4).bind fun t178 => ((civil_Leap.f (wrap64 (x4 + 400))).bind fun t179 => (lustrumlaw02_CivilYears.j2 k x3 x4 x5 (t178 != t179)))) else (lustrumlaw02_CivilYears.j2 k x3 x4 x5 true)) else (lustrumlaw02_CivilYears.j2 k x3 x4 x5 true)) else (lustrumlaw02_CivilYears.j2 k x3 x4 x5 true)) else (lustrumlaw02_CivilYears.j2 k x3 x4 x5 true)
def lustrumlaw02_CivilYears.j2 : Nat → Bool → Int → Int → Bool → Option (Bool)
  | 0, _, _, _, _ => none
  | k + 1, x3, x4, x5, x65 => if x65 = true then (some false) else ((civil_Number.f (wrap64 (x4 + 400)) 1 1).bind fun bt180 => (if x4 > 9599 then (if x3 = true then (some (!bt180.2)) else (some false)) else (if x3 = true then (if bt180.2 = true then (if (wrap64 (bt180.1 - x5)) = 146097 then ((civil_Weekday.f bt180.1).bind fun t182 => ((civil_Weekday.f x5).bind fun t183 => (some (t182 == t183)))) else (some false)) else (some false)) else (some false))))
end
def lustrumlaw02_CivilYears.f (k : Nat) (a0 : Int) : Option (Bool) := (lustrumlaw02_awake.f k).bind fun t171 => ((civil_Number.f (Int.tmod (Go.bits .and .i64 a0 65535) 9999) 1 1).bind fun bt172 => ((civil_Number.f (wrap64 ((Int.tmod (Go.bits .and .i64 a0 65535) 9999) + 1)) 1 1).bind fun bt174 => (lustrumlaw02_CivilYears.l0 k t171 (Int.tmod (Go.bits .and .i64 a0 65535) 9999) bt172.1 bt172.2 bt174.1 bt174.2 0 1)))
theorem lustrumlaw02_CivilYears.mono_l : ∀ k, (∀ y0 y1 y2 y3 y4 y5 y6 y7, LeO (lustrumlaw02_CivilYears.l0 k y0 y1 y2 y3 y4 y5 y6 y7) (lustrumlaw02_CivilYears.l0 (k + 1) y0 y1 y2 y3 y4 y5 y6 y7)) ∧ (∀ y0 y1 y2 y3 y4 y5 y6 y7, LeO (lustrumlaw02_CivilYears.j1 k y0 y1 y2 y3 y4 y5 y6 y7) (lustrumlaw02_CivilYears.j1 (k + 1) y0 y1 y2 y3 y4 y5 y6 y7)) ∧ (∀ y0 y1 y2 y3, LeO (lustrumlaw02_CivilYears.j2 k y0 y1 y2 y3) (lustrumlaw02_CivilYears.j2 (k + 1) y0 y1 y2 y3))
  | 0 => ⟨fun _ _ _ _ _ _ _ _ r h => by simp [lustrumlaw02_CivilYears.l0] at h, fun _ _ _ _ _ _ _ _ r h => by simp [lustrumlaw02_CivilYears.j1] at h, fun _ _ _ _ r h => by simp [lustrumlaw02_CivilYears.j2] at h⟩
  | k + 1 => by
    obtain ⟨ih0, ih1, ih2⟩ := lustrumlaw02_CivilYears.mono_l k
    refine ⟨?_, ?_, ?_⟩
    · intro y0 y1 y2 y3 y4 y5 y6 y7
      unfold lustrumlaw02_CivilYears.l0
      repeat' first
      | (with_reducible exact ih0 _ _ _ _ _ _ _ _)
      | (with_reducible exact ih1 _ _ _ _ _ _ _ _)
      | (with_reducible exact ih2 _ _ _ _)
      | (with_reducible exact lustrumlaw02_awake.mono _)
      | (with_reducible exact LeO.refl _)
      | (with_reducible exact LeO.none _)
      | (with_reducible refine LeO.ite ?_ ?_)
      | (with_reducible refine LeO.bind ?_ (fun _ => ?_))
      | exact ih0 _ _ _ _ _ _ _ _
      | exact ih1 _ _ _ _ _ _ _ _
      | exact ih2 _ _ _ _
      | exact lustrumlaw02_awake.mono _
      | exact LeO.none _
      | refine LeO.ite ?_ ?_
      | refine LeO.bind ?_ (fun _ => ?_)
    · intro y0 y1 y2 y3 y4 y5 y6 y7
      unfold lustrumlaw02_CivilYears.j1
      repeat' first
      | (with_reducible exact ih0 _ _ _ _ _ _ _ _)
      | (with_reducible exact ih1 _ _ _ _ _ _ _ _)
      | (with_reducible exact ih2 _ _ _ _)
      | (with_reducible exact lustrumlaw02_awake.mono _)
      | (with_reducible exact LeO.refl _)
      | (with_reducible exact LeO.none _)
      | (with_reducible refine LeO.ite ?_ ?_)
      | (with_reducible refine LeO.bind ?_ (fun _ => ?_))
      | exact ih0 _ _ _ _ _ _ _ _
      | exact ih1 _ _ _ _ _ _ _ _
      | exact ih2 _ _ _ _
      | exact lustrumlaw02_awake.mono _
      | exact LeO.none _
      | refine LeO.ite ?_ ?_
      | refine LeO.bind ?_ (fun _ => ?_)
    · intro y0 y1 y2 y3
      unfold lustrumlaw02_CivilYears.j2
      repeat' first
      | (with_reducible exact ih0 _ _ _ _ _ _ _ _)
      | (with_reducible exact ih1 _ _ _ _ _ _ _ _)
      | (with_reducible exact ih2 _ _ _ _)
      | (with_reducible exact lustrumlaw02_awake.mono _)
      | (with_reducible exact LeO.refl _)
      | (with_reducible exact LeO.none _)
      | (with_reducible refine LeO.ite ?_ ?_)
      | (with_reducible refine LeO.bind ?_ (fun _ => ?_))
      | exact ih0 _ _ _ _ _ _ _ _
      | exact ih1 _ _ _ _ _ _ _ _
      | exact ih2 _ _ _ _
      | exact lustrumlaw02_awake.mono _
      | exact LeO.none _
      | refine LeO.ite ?_ ?_
      | refine LeO.bind ?_ (fun _ => ?_)
theorem lustrumlaw02_CivilYears.mono : ∀ a0 k, LeO (lustrumlaw02_CivilYears.f k a0) (lustrumlaw02_CivilYears.f (k + 1) a0) := by
  intro a0 k
  obtain ⟨ih0, ih1, ih2⟩ := lustrumlaw02_CivilYears.mono_l k
  unfold lustrumlaw02_CivilYears.f
  repeat' first
      | (with_reducible exact ih0 _ _ _ _ _ _ _ _)
      | (with_reducible exact ih1 _ _ _ _ _ _ _ _)
      | (with_reducible exact ih2 _ _ _ _)
      | (with_reducible exact lustrumlaw02_awake.mono _)
      | (with_reducible exact LeO.refl _)
      | (with_reducible exact LeO.none _)
      | (with_reducible refine LeO.ite ?_ ?_)
      | (with_reducible refine LeO.bind ?_ (fun _ => ?_))
      | exact ih0 _ _ _ _ _ _ _ _
      | exact ih1 _ _ _ _ _ _ _ _
      | exact ih2 _ _ _ _
      | exact lustrumlaw02_awake.mono _
      | exact LeO.none _
      | refine LeO.ite ?_ ?_
      | refine LeO.bind ?_ (fun _ => ?_)
set_option maxHeartbeats 8000000 in
set_option maxRecDepth 100000 in
theorem lustrumlaw02_CivilYears.calls (k : Nat) (a0 : Int) (r : Bool) (w : World) (h : lustrumlaw02_CivilYears.f k a0 = some r) (hT : LenTab w) :
    Calls Tryd.prog 6 #[.int .i64 a0] w fun e w' => e = .returned (.bool r) ∧ Drawn0 w w' := by
  have H : ((lustrumlaw02_awake.f k).bind fun t171 => ((civil_Number.f (Int.tmod (Go.bits .and .i64 a0 65535) 9999) 1 1).bind fun bt172 => ((civil_Number.f (wrap64 ((Int.tmod (Go.bits .and .i64 a0 65535) 9999) + 1)) 1 1).bind fun bt174 => (lustrumlaw02_CivilYears.l0 k t171 (Int.tmod (Go.bits .and .i64 a0 65535) 9999) bt172.1 bt172.2 bt174.1 bt174.2 0 1)))) = some r := h
  clear h
  replace H := Option.bind_eq_some_iff.mp H
  obtain ⟨t171, A20, H⟩ := H
  replace H : ((civil_Number.f (Int.tmod (Go.bits .and .i64 a0 65535) 9999) 1 1).bind fun bt172 => ((civil_Number.f (wrap64 ((Int.tmod (Go.bits .and .i64 a0 65535) 9999) + 1)) 1 1).bind fun bt174 => (lustrumlaw02_CivilYears.l0 k t171 (Int.tmod (Go.bits .and .i64 a0 65535) 9999) bt172.1 bt172.2 bt174.1 bt174.2 0 1))) = some r := H
  have A2 := Aside0.mk A20
  clear A20
  replace H := Option.bind_eq_some_iff.mp H
  obtain ⟨⟨t172, t173⟩, A30, H⟩ := H
  replace H : ((civil_Number.f (wrap64 ((Int.tmod (Go.bits .and .i64 a0 65535) 9999) + 1)) 1 1).bind fun bt174 => (lustrumlaw02_CivilYears.l0 k t171 (Int.tmod (Go.bits .and .i64 a0 65535) 9999) t172 t173 bt174.1 bt174.2 0 1)) = some r := H
  have A3 := Aside0.mk A30
  clear A30
  replace H := Option.bind_eq_some_iff.mp H
  obtain ⟨⟨t174, t175⟩, A40, H⟩ := H
  replace H : (lustrumlaw02_CivilYears.l0 k t171 (Int.tmod (Go.bits .and .i64 a0 65535) 9999) t172 t173 t174 t175 0 1) = some r := H
  have A4 := Aside0.mk A40
  clear A40
  have H' := Aside0.mk H
  clear H
  go_enter Tryd.func6, Tryd.ntmps6
  go_wp2_with (first | ((with_reducible refine gate_callee (f := 9) rfl ?_); refine goesL_ (some 14) rfl rfl Tryd.func9 (by kernel_rfl) rfl #[] rfl (by (try simp only [List.map_toArray, List.map_cons, List.map_nil]); first | done | rfl | (simp only [List.length_drop, List.length_take]; rfl)) ?_; (with_reducible refine (lustrumlaw02_awake.calls k  t171 _ A2.out (by first | exact hT | (repeat (first | exact hT | apply LenTab.drewN)) | (refine LenTab.below hT ?_; repeat (first | (with_reducible first | exact HB.out | apply below_alloc | apply pw_below_drewN | apply below_drew1) | exact HB.out)))).mono ?_); rintro e w' ⟨rfl, ⟨nd, rfl⟩⟩; refine ⟨_, rfl, ?_⟩) | ((with_reducible refine gate_callee (f := 10) rfl ?_); refine goesL_ (some 20) rfl rfl Tryd.func10 (by kernel_rfl) rfl #[.int .i64 (Int.tmod (Go.bits .and .i64 a0 65535) 9999), .int .i64 1, .int .i64 1] rfl (by (try simp only [List.map_toArray, List.map_cons, List.map_nil]); first | done | rfl | (simp only [List.length_drop, List.length_take]; rfl)) ?_; (with_reducible refine (civil_Number.calls (Int.tmod (Go.bits .and .i64 a0 65535) 9999) 1 1 t172 t173 _ A3.out (by first | exact hT | (repeat (first | exact hT | apply LenTab.drewN)) | (refine LenTab.below hT ?_; repeat (first | (with_reducible first | exact HB.out | apply below_alloc | apply pw_below_drewN | apply below_drew1) | exact HB.out)))).mono ?_); rintro e w' ⟨rfl, ⟨nd, rfl⟩⟩; refine ⟨_, rfl, ?_⟩) | ((with_reducible refine gate_callee (f := 10) rfl ?_); refine goesL_ (some 26) rfl rfl Tryd.func10 (by kernel_rfl) rfl #[.int .i64 (wrap64 ((Int.tmod (Go.bits .and .i64 a0 65535) 9999) + 1)), .int .i64 1, .int .i64 1] rfl (by (try simp only [List.map_toArray, List.map_cons, List.map_nil]); first | done | rfl | (simp only [List.length_drop, List.length_take]; rfl)) ?_; (with_reducible refine (civil_Number.calls (wrap64 ((Int.tmod (Go.bits .and .i64 a0 65535) 9999) + 1)) 1 1 t174 t175 _ A4.out (by first | exact hT | (repeat (first | exact hT | apply LenTab.drewN)) | (refine LenTab.below hT ?_; repeat (first | (with_reducible first | exact HB.out | apply below_alloc | apply pw_below_drewN | apply below_drew1) | exact HB.out)))).mono ?_); rintro e w' ⟨rfl, ⟨nd, rfl⟩⟩; refine ⟨_, rfl, ?_⟩))
  go_loopg [9, 10] k (fun kq v9 v10 w' => ∃ (x9_1 : Int) (x10_1 : Int), v9 = .int .i64 x9_1 ∧ v10 = .int .i64 x10_1 ∧ Aside0 (lustrumlaw02_CivilYears.l0 kq t171 (Int.tmod (Go.bits .and .i64 a0 65535) 9999) t172 t173 t174 t175 x9_1 x10_1 = some r) ∧ Aside0 (kq ≤ k) ∧ Drawn0 w w')
  case atStart => exact ⟨(0), (1), (by first | rfl | (simp; done) | (simp [*]; done)), (by first | rfl | (simp; done) | (simp [*]; done)), H', ⟨Nat.le_refl _⟩, by repeat (first | exact Drawn0.refl _ | apply Drawn0.step)⟩
  case round =>
    clear H'
    try clear c1
    try clear p2
    obtain ⟨x9_1, x10_1, rfl, rfl, HA, HK1, ⟨m1, rfl⟩⟩ := hrel
    cases gk with
    | zero => exact absurd HA.out (by simp [lustrumlaw02_CivilYears.l0])
    | succ k1 =>
      have H := HA.out
      clear HA
      simp only [lustrumlaw02_CivilYears.l0] at H
      by_cases c5 : x10_1 ≤ 12
      · rw [if_pos c5] at H
        have c5b0 : decide (x10_1 ≤ 12) = true := decide_eq_true c5
        clear c5
        replace H := Option.bind_eq_some_iff.mp H
        obtain ⟨t176, A60, H⟩ := H
        replace H : (lustrumlaw02_CivilYears.l0 k1 t171 (Int.tmod (Go.bits .and .i64 a0 65535) 9999) t172 t173 t174 t175 (wrap64 (x9_1 + t176)) (wrap64 (x10_1 + 1))) = some r := H
        have A6 := Aside0.mk A60
        clear A60
        have H' := Aside0.mk H
        clear H
        go_wp2_with (first | ((with_reducible refine gate_callee (f := 16) rfl ?_); refine goesL_ (some 36) rfl rfl Tryd.func16 (by kernel_rfl) rfl #[.int .i64 (Int.tmod (Go.bits .and .i64 a0 65535) 9999), .int .i64 x10_1] rfl (by (try simp only [List.map_toArray, List.map_cons, List.map_nil]); first | done | rfl | (simp only [List.length_drop, List.length_take]; rfl)) ?_; (with_reducible refine (civil_Days.calls (Int.tmod (Go.bits .and .i64 a0 65535) 9999) x10_1 t176 _ A6.out (by first | exact hT | (repeat (first | exact hT | apply LenTab.drewN)) | (refine LenTab.below hT ?_; repeat (first | (with_reducible first | exact HB.out | apply below_alloc | apply pw_below_drewN | apply below_drew1) | exact HB.out)))).mono ?_); rintro e w' ⟨rfl, ⟨nd, rfl⟩⟩; refine ⟨_, rfl, ?_⟩))
        go_roundg k1
        case measure => have := HK1.out; omega
        case rel => exact ⟨(wrap64 (x9_1 + t176)), (wrap64 (x10_1 + 1)), (by first | rfl | (simp; done) | (simp [*]; done)), (by first | rfl | (simp; done) | (simp [*]; done)), H', ⟨by have := HK1.out; omega⟩, by repeat (first | exact Drawn0.refl _ | apply Drawn0.step)⟩
      · rw [if_neg c5] at H
        have c5b0 : decide (x10_1 ≤ 12) = false := decide_eq_false c5
        clear c5
        replace H := Option.bind_eq_some_iff.mp H
        obtain ⟨t177, A70, H⟩ := H
        replace H : (if t177 = true then (lustrumlaw02_CivilYears.j1 k1 t171 (Int.tmod (Go.bits .and .i64 a0 65535) 9999) t172 t173 t174 t175 x9_1 366) else (lustrumlaw02_CivilYears.j1 k1 t171 (Int.tmod (Go.bits .and .i64 a0 65535) 9999) t172 t173 t174 t175 x9_1 365)) = some r := H
        have A7 := Aside0.mk A70
        clear A70
        have HC8 := Aside0.mk H
        clear H
        go_upto_if 39 with (first | ((with_reducible refine gate_callee (f := 14) rfl ?_); refine goesL_ (some 39) rfl rfl Tryd.func14 (by kernel_rfl) rfl #[.int .i64 (Int.tmod (Go.bits .and .i64 a0 65535) 9999)] rfl (by (try simp only [List.map_toArray, List.map_cons, List.map_nil]); first | done | rfl | (simp only [List.length_drop, List.length_take]; rfl)) ?_; (with_reducible refine (civil_Leap.calls (Int.tmod (Go.bits .and .i64 a0 65535) 9999) t177 _ A7.out).mono ?_); rintro e w' ⟨rfl, ⟨nd, rfl⟩⟩; refine ⟨_, rfl, ?_⟩))
        (try simp only [Act.put, List.setIfInBounds_toArray, List.set_cons_zero, List.set_cons_succ])
        go_cut [11] (fun v11 wc => ∃ (kq : Nat) (x11_7 : Int), v11 = .int .i64 x11_7 ∧ Aside0 (lustrumlaw02_CivilYears.j1 kq t171 (Int.tmod (Go.bits .and .i64 a0 65535) 9999) t172 t173 t174 t175 x9_1 x11_7 = some r) ∧ Aside0 (kq ≤ k1) ∧ Drawn0 w wc)
        case first =>
          have H := HC8.out
          clear HC8
          by_cases c9 : t177 = true
          · subst c9
            have H1 : (lustrumlaw02_CivilYears.j1 k1 t171 (Int.tmod (Go.bits .and .i64 a0 65535) 9999) t172 t173 t174 t175 x9_1 366) = some r := by rw [if_pos rfl] at H; exact H
            clear H
            have H := H1
            clear H1
            have H' := Aside0.mk H
            clear H
            go_wp2
            go_meet
            case rel => exact ⟨_, (366), (by first | rfl | (simp; done) | (simp [*]; done)), H', ⟨by have := HK1.out; first | omega | exact Nat.le_refl _⟩, by repeat (first | exact Drawn0.refl _ | apply Drawn0.step)⟩
          · replace c9 := Bool.eq_false_iff.mpr c9
            subst c9
            have H1 : (lustrumlaw02_CivilYears.j1 k1 t171 (Int.tmod (Go.bits .and .i64 a0 65535) 9999) t172 t173 t174 t175 x9_1 365) = some r := by rw [if_neg (show ¬ (false = true) by decide)] at H; exact H
            clear H
            have H := H1
            clear H1
            have H' := Aside0.mk H
            clear H
            go_wp2
            go_meet
            case rel => exact ⟨_, (365), (by first | rfl | (simp; done) | (simp [*]; done)), H', ⟨by have := HK1.out; first | omega | exact Nat.le_refl _⟩, by repeat (first | exact Drawn0.refl _ | apply Drawn0.step)⟩
        case rest =>
          clear HC8
          try clear c1
          try clear p2
          try clear c5
          try clear c5b0
          try clear c6
          try clear p6
          try clear c9
          try clear p2
          obtain ⟨kq, x11_7, rfl, HA, HJ7, ⟨mc7, rfl⟩⟩ := hcut
          cases kq with
          | zero => exact absurd HA.out (by simp [lustrumlaw02_CivilYears.j1])
          | succ kj7 =>
            have H := HA.out
            clear HA
            simp only [lustrumlaw02_CivilYears.j1] at H
            have HC10 := Aside0.mk H
            clear H
            go_upto_region 13 with (fail)
            go_cut [65] (fun v65 wc => ∃ (kq : Nat) (x65_9 : Bool), v65 = .bool x65_9 ∧ Aside0 (lustrumlaw02_CivilYears.j2 kq t171 (Int.tmod (Go.bits .and .i64 a0 65535) 9999) t172 x65_9 = some r) ∧ Aside0 (kq ≤ kj7) ∧ Drawn0 w wc)
            case first =>
              have H := HC10.out
              clear HC10
              by_cases c11 : t173 = true
              · subst c11
                have H1 : (if t175 = true then (if (wrap64 (t174 - t172)) = x11_7 then (if x9_1 = x11_7 then ((civil_Leap.f (Int.tmod (Go.bits .and .i64 a0 65535) 9999)).bind fun t178 => ((civil_Leap.f (wrap64 ((Int.tmod (Go.bits .and .i64 a0 65535) 9999) + 400))).bind fun t179 => (lustrumlaw02_CivilYears.j2 kj7 t171 (Int.tmod (Go.bits .and .i64 a0 65535) 9999) t172 (t178 != t179)))) else (lustrumlaw02_CivilYears.j2 kj7 t171 (Int.tmod (Go.bits .and .i64 a0 65535) 9999) t172 true)) else (lustrumlaw02_CivilYears.j2 kj7 t171 (Int.tmod (Go.bits .and .i64 a0 65535) 9999) t172 true)) else (lustrumlaw02_CivilYears.j2 kj7 t171 (Int.tmod (Go.bits .and .i64 a0 65535) 9999) t172 true)) = some r := by rw [if_pos rfl] at H; exact H
                clear H
                have H := H1
                clear H1
                by_cases c12 : t175 = true
                · subst c12
                  have H1 : (if (wrap64 (t174 - t172)) = x11_7 then (if x9_1 = x11_7 then ((civil_Leap.f (Int.tmod (Go.bits .and .i64 a0 65535) 9999)).bind fun t178 => ((civil_Leap.f (wrap64 ((Int.tmod (Go.bits .and .i64 a0 65535) 9999) + 400))).bind fun t179 => (lustrumlaw02_CivilYears.j2 kj7 t171 (Int.tmod (Go.bits .and .i64 a0 65535) 9999) t172 (t178 != t179)))) else (lustrumlaw02_CivilYears.j2 kj7 t171 (Int.tmod (Go.bits .and .i64 a0 65535) 9999) t172 true)) else (lustrumlaw02_CivilYears.j2 kj7 t171 (Int.tmod (Go.bits .and .i64 a0 65535) 9999) t172 true)) = some r := by rw [if_pos rfl] at H; exact H
                  clear H
                  have H := H1
                  clear H1
                  by_cases c13 : (wrap64 (t174 - t172)) = x11_7
                  · rw [if_pos c13] at H
                    have c13b0 : ((wrap64 (t174 - t172)) == x11_7) = true := beq_iff_eq.mpr c13
                    have c13b1 : ((wrap64 (t174 - t172)) != x11_7) = false := bne_eq_false_iff_eq.mpr c13
                    clear c13
                    (first | rw [c13b0] | (simp only [i64_w, i32_w]; rw [c13b0]) | skip)
                    by_cases c14 : x9_1 = x11_7
                    · rw [if_pos c14] at H
                      have c14b0 : (x9_1 == x11_7) = true := beq_iff_eq.mpr c14
                      have c14b1 : (x9_1 != x11_7) = false := bne_eq_false_iff_eq.mpr c14
                      clear c14
                      replace H := Option.bind_eq_some_iff.mp H
                      obtain ⟨t178, A150, H⟩ := H
                      replace H : ((civil_Leap.f (wrap64 ((Int.tmod (Go.bits .and .i64 a0 65535) 9999) + 400))).bind fun t179 => (lustrumlaw02_CivilYears.j2 kj7 t171 (Int.tmod (Go.bits .and .i64 a0 65535) 9999) t172 (t178 != t179))) = some r := H
                      have A15 := Aside0.mk A150
                      clear A150
                      replace H := Option.bind_eq_some_iff.mp H
                      obtain ⟨t179, A160, H⟩ := H
                      replace H : (lustrumlaw02_CivilYears.j2 kj7 t171 (Int.tmod (Go.bits .and .i64 a0 65535) 9999) t172 (t178 != t179)) = some r := H
                      have A16 := Aside0.mk A160
                      clear A160
                      have H' := Aside0.mk H
                      clear H
                      go_wp2_with (first | (go_at_call 14; (with_reducible refine (civil_Leap.calls (Int.tmod (Go.bits .and .i64 a0 65535) 9999) t178 _ A15.out).mono ?_); rintro e w' ⟨rfl, ⟨nd, rfl⟩⟩) | (go_at_call 14; (with_reducible refine (civil_Leap.calls (wrap64 ((Int.tmod (Go.bits .and .i64 a0 65535) 9999) + 400)) t179 _ A16.out).mono ?_); rintro e w' ⟨rfl, ⟨nd, rfl⟩⟩))
                      go_meet
                      case rel => exact ⟨_, ((t178 != t179)), (by first | rfl | (simp; done) | (simp [*]; done)), H', ⟨by have := HK1.out; have := HJ7.out; first | omega | exact Nat.le_refl _⟩, by repeat (first | exact Drawn0.refl _ | apply Drawn0.step)⟩
                    · rw [if_neg c14] at H
                      have c14b0 : (x9_1 == x11_7) = false := beq_eq_false_iff_ne.mpr c14
                      have c14b1 : (x9_1 != x11_7) = true := bne_iff_ne.mpr c14
                      have H' := Aside0.mk H
                      clear H
                      go_wp2
                      go_meet
                      case rel => exact ⟨_, (true), (by first | rfl | (simp; done) | (simp [*]; done)), H', ⟨by have := HK1.out; have := HJ7.out; first | omega | exact Nat.le_refl _⟩, by repeat (first | exact Drawn0.refl _ | apply Drawn0.step)⟩
                  · rw [if_neg c13] at H
                    have c13b0 : ((wrap64 (t174 - t172)) == x11_7) = false := beq_eq_false_iff_ne.mpr c13
                    have c13b1 : ((wrap64 (t174 - t172)) != x11_7) = true := bne_iff_ne.mpr c13
                    (first | rw [c13b0] | (simp only [i64_w, i32_w]; rw [c13b0]) | skip)
                    have H' := Aside0.mk H
                    clear H
                    go_wp2
                    go_meet
                    case rel => exact ⟨_, (true), (by first | rfl | (simp; done) | (simp [*]; done)), H', ⟨by have := HK1.out; have := HJ7.out; first | omega | exact Nat.le_refl _⟩, by repeat (first | exact Drawn0.refl _ | apply Drawn0.step)⟩
                · replace c12 := Bool.eq_false_iff.mpr c12
                  subst c12
                  have H1 : (lustrumlaw02_CivilYears.j2 kj7 t171 (Int.tmod (Go.bits .and .i64 a0 65535) 9999) t172 true) = some r := by rw [if_neg (show ¬ (false = true) by decide)] at H; exact H
                  clear H
                  have H := H1
                  clear H1
                  have H' := Aside0.mk H
                  clear H
                  go_wp2
                  go_meet
                  case rel => exact ⟨_, (true), (by first | rfl | (simp; done) | (simp [*]; done)), H', ⟨by have := HK1.out; have := HJ7.out; first | omega | exact Nat.le_refl _⟩, by repeat (first | exact Drawn0.refl _ | apply Drawn0.step)⟩
              · replace c11 := Bool.eq_false_iff.mpr c11
                subst c11
                have H1 : (lustrumlaw02_CivilYears.j2 kj7 t171 (Int.tmod (Go.bits .and .i64 a0 65535) 9999) t172 true) = some r := by rw [if_neg (show ¬ (false = true) by decide)] at H; exact H
                clear H
                have H := H1
                clear H1
                have H' := Aside0.mk H
                clear H
                go_wp2
                go_meet
                case rel => exact ⟨_, (true), (by first | rfl | (simp; done) | (simp [*]; done)), H', ⟨by have := HK1.out; have := HJ7.out; first | omega | exact Nat.le_refl _⟩, by repeat (first | exact Drawn0.refl _ | apply Drawn0.step)⟩
            case rest =>
              clear HC10
              try clear c1
              try clear p2
              try clear c5
              try clear c5b0
              try clear c6
              try clear p6
              try clear c7
              try clear c9
              try clear c10
              try clear c11
              try clear c12
              try clear c13
              try clear c13b0
              try clear c13b1
              try clear c14
              try clear c14b0
              try clear c14b1
              try clear c16
              try clear p2
              try clear p6
              obtain ⟨kq, x65_9, rfl, HA, HJ9, ⟨mc9, rfl⟩⟩ := hcut
              cases kq with
              | zero => exact absurd HA.out (by simp [lustrumlaw02_CivilYears.j2])
              | succ kj9 =>
                have H := HA.out
                clear HA
                simp only [lustrumlaw02_CivilYears.j2] at H
                by_cases c17 : x65_9 = true
                · subst c17
                  have H1 : (some false) = some r := by rw [if_pos rfl] at H; exact H
                  clear H
                  have H := H1
                  clear H1
                  obtain rfl := Option.some.inj H
                  go_wp2
                  go_ret
                  exact ⟨by first | rfl | (simp; done) | (simp [*]; done), by repeat (first | exact Drawn0.refl _ | apply Drawn0.step)⟩
                · replace c17 := Bool.eq_false_iff.mpr c17
                  subst c17
                  have H1 : ((civil_Number.f (wrap64 ((Int.tmod (Go.bits .and .i64 a0 65535) 9999) + 400)) 1 1).bind fun bt180 => (if (Int.tmod (Go.bits .and .i64 a0 65535) 9999) > 9599 then (if t171 = true then (some (!bt180.2)) else (some false)) else (if t171 = true then (if bt180.2 = true then (if (wrap64 (bt180.1 - t172)) = 146097 then ((civil_Weekday.f bt180.1).bind fun t182 => ((civil_Weekday.f t172).bind fun t183 => (some (t182 == t183)))) else (some false)) else (some false)) else (some false)))) = some r := by rw [if_neg (show ¬ (false = true) by decide)] at H; exact H
                  clear H
                  have H := H1
                  clear H1
                  replace H := Option.bind_eq_some_iff.mp H
                  obtain ⟨⟨t180, t181⟩, A180, H⟩ := H
                  replace H : (if (Int.tmod (Go.bits .and .i64 a0 65535) 9999) > 9599 then (if t171 = true then (some (!t181)) else (some false)) else (if t171 = true then (if t181 = true then (if (wrap64 (t180 - t172)) = 146097 then ((civil_Weekday.f t180).bind fun t182 => ((civil_Weekday.f t172).bind fun t183 => (some (t182 == t183)))) else (some false)) else (some false)) else (some false))) = some r := H
                  have A18 := Aside0.mk A180
                  clear A180
                  by_cases c19 : (Int.tmod (Go.bits .and .i64 a0 65535) 9999) > 9599
                  · rw [if_pos c19] at H
                    have c19b0 : decide (9599 < (Int.tmod (Go.bits .and .i64 a0 65535) 9999)) = true := decide_eq_true c19
                    clear c19
                    by_cases c20 : t171 = true
                    · subst c20
                      have H1 : (some (!t181)) = some r := by rw [if_pos rfl] at H; exact H
                      clear H
                      have H := H1
                      clear H1
                      obtain rfl := Option.some.inj H
                      go_wp2_with (first | ((with_reducible refine gate_callee (f := 10) rfl ?_); refine goesL_ (some 69) rfl rfl Tryd.func10 (by kernel_rfl) rfl #[.int .i64 (wrap64 ((Int.tmod (Go.bits .and .i64 a0 65535) 9999) + 400)), .int .i64 1, .int .i64 1] rfl (by (try simp only [List.map_toArray, List.map_cons, List.map_nil]); first | done | rfl | (simp only [List.length_drop, List.length_take]; rfl)) ?_; (with_reducible refine (civil_Number.calls (wrap64 ((Int.tmod (Go.bits .and .i64 a0 65535) 9999) + 400)) 1 1 t180 t181 _ A18.out (by first | exact hT | (repeat (first | exact hT | apply LenTab.drewN)) | (refine LenTab.below hT ?_; repeat (first | (with_reducible first | exact HB.out | apply below_alloc | apply pw_below_drewN | apply below_drew1) | exact HB.out)))).mono ?_); rintro e w' ⟨rfl, ⟨nd, rfl⟩⟩; refine ⟨_, rfl, ?_⟩))
                      go_ret
                      exact ⟨by first | rfl | (simp; done) | (simp [*]; done), by repeat (first | exact Drawn0.refl _ | apply Drawn0.step)⟩
                    · replace c20 := Bool.eq_false_iff.mpr c20
                      subst c20
                      have H1 : (some false) = some r := by rw [if_neg (show ¬ (false = true) by decide)] at H; exact H
                      clear H
                      have H := H1
                      clear H1
                      obtain rfl := Option.some.inj H
                      go_wp2_with (first | ((with_reducible refine gate_callee (f := 10) rfl ?_); refine goesL_ (some 69) rfl rfl Tryd.func10 (by kernel_rfl) rfl #[.int .i64 (wrap64 ((Int.tmod (Go.bits .and .i64 a0 65535) 9999) + 400)), .int .i64 1, .int .i64 1] rfl (by (try simp only [List.map_toArray, List.map_cons, List.map_nil]); first | done | rfl | (simp only [List.length_drop, List.length_take]; rfl)) ?_; (with_reducible refine (civil_Number.calls (wrap64 ((Int.tmod (Go.bits .and .i64 a0 65535) 9999) + 400)) 1 1 t180 t181 _ A18.out (by first | exact hT | (repeat (first | exact hT | apply LenTab.drewN)) | (refine LenTab.below hT ?_; repeat (first | (with_reducible first | exact HB.out | apply below_alloc | apply pw_below_drewN | apply below_drew1) | exact HB.out)))).mono ?_); rintro e w' ⟨rfl, ⟨nd, rfl⟩⟩; refine ⟨_, rfl, ?_⟩))
                      go_ret
                      exact ⟨by first | rfl | (simp; done) | (simp [*]; done), by repeat (first | exact Drawn0.refl _ | apply Drawn0.step)⟩
                  · rw [if_neg c19] at H
                    have c19b0 : decide (9599 < (Int.tmod (Go.bits .and .i64 a0 65535) 9999)) = false := decide_eq_false c19
                    clear c19
                    by_cases c21 : t171 = true
                    · subst c21
                      have H1 : (if t181 = true then (if (wrap64 (t180 - t172)) = 146097 then ((civil_Weekday.f t180).bind fun t182 => ((civil_Weekday.f t172).bind fun t183 => (some (t182 == t183)))) else (some false)) else (some false)) = some r := by rw [if_pos rfl] at H; exact H
                      clear H
                      have H := H1
                      clear H1
                      by_cases c22 : t181 = true
                      · subst c22
                        have H1 : (if (wrap64 (t180 - t172)) = 146097 then ((civil_Weekday.f t180).bind fun t182 => ((civil_Weekday.f t172).bind fun t183 => (some (t182 == t183)))) else (some false)) = some r := by rw [if_pos rfl] at H; exact H
                        clear H
                        have H := H1
                        clear H1
                        by_cases c23 : (wrap64 (t180 - t172)) = 146097
                        · rw [if_pos c23] at H
                          have c23b0 : ((wrap64 (t180 - t172)) == 146097) = true := beq_iff_eq.mpr c23
                          have c23b1 : ((wrap64 (t180 - t172)) != 146097) = false := bne_eq_false_iff_eq.mpr c23
                          clear c23
                          replace H := Option.bind_eq_some_iff.mp H
                          obtain ⟨t182, A240, H⟩ := H
                          replace H : ((civil_Weekday.f t172).bind fun t183 => (some (t182 == t183))) = some r := H
                          have A24 := Aside0.mk A240
                          clear A240
                          replace H := Option.bind_eq_some_iff.mp H
                          obtain ⟨t183, A250, H⟩ := H
                          replace H : (some (t182 == t183)) = some r := H
                          have A25 := Aside0.mk A250
                          clear A250
                          obtain rfl := Option.some.inj H
                          go_wp2_with (first | ((with_reducible refine gate_callee (f := 10) rfl ?_); refine goesL_ (some 69) rfl rfl Tryd.func10 (by kernel_rfl) rfl #[.int .i64 (wrap64 ((Int.tmod (Go.bits .and .i64 a0 65535) 9999) + 400)), .int .i64 1, .int .i64 1] rfl (by (try simp only [List.map_toArray, List.map_cons, List.map_nil]); first | done | rfl | (simp only [List.length_drop, List.length_take]; rfl)) ?_; (with_reducible refine (civil_Number.calls (wrap64 ((Int.tmod (Go.bits .and .i64 a0 65535) 9999) + 400)) 1 1 t180 true _ A18.out (by first | exact hT | (repeat (first | exact hT | apply LenTab.drewN)) | (refine LenTab.below hT ?_; repeat (first | (with_reducible first | exact HB.out | apply below_alloc | apply pw_below_drewN | apply below_drew1) | exact HB.out)))).mono ?_); rintro e w' ⟨rfl, ⟨nd, rfl⟩⟩; refine ⟨_, rfl, ?_⟩) | (go_at_call 20; (with_reducible refine (civil_Weekday.calls t180 t182 _ A24.out).mono ?_); rintro e w' ⟨rfl, ⟨nd, rfl⟩⟩) | (go_at_call 20; (with_reducible refine (civil_Weekday.calls t172 t183 _ A25.out).mono ?_); rintro e w' ⟨rfl, ⟨nd, rfl⟩⟩))
                          go_ret
                          exact ⟨by first | rfl | (simp; done) | (simp [*]; done), by repeat (first | exact Drawn0.refl _ | apply Drawn0.step)⟩
                        · rw [if_neg c23] at H
                          have c23b0 : ((wrap64 (t180 - t172)) == 146097) = false := beq_eq_false_iff_ne.mpr c23
                          have c23b1 : ((wrap64 (t180 - t172)) != 146097) = true := bne_iff_ne.mpr c23
                          obtain rfl := Option.some.inj H
                          go_wp2_with (first | ((with_reducible refine gate_callee (f := 10) rfl ?_); refine goesL_ (some 69) rfl rfl Tryd.func10 (by kernel_rfl) rfl #[.int .i64 (wrap64 ((Int.tmod (Go.bits .and .i64 a0 65535) 9999) + 400)), .int .i64 1, .int .i64 1] rfl (by (try simp only [List.map_toArray, List.map_cons, List.map_nil]); first | done | rfl | (simp only [List.length_drop, List.length_take]; rfl)) ?_; (with_reducible refine (civil_Number.calls (wrap64 ((Int.tmod (Go.bits .and .i64 a0 65535) 9999) + 400)) 1 1 t180 true _ A18.out (by first | exact hT | (repeat (first | exact hT | apply LenTab.drewN)) | (refine LenTab.below hT ?_; repeat (first | (with_reducible first | exact HB.out | apply below_alloc | apply pw_below_drewN | apply below_drew1) | exact HB.out)))).mono ?_); rintro e w' ⟨rfl, ⟨nd, rfl⟩⟩; refine ⟨_, rfl, ?_⟩))
                          go_ret
                          exact ⟨by first | rfl | (simp; done) | (simp [*]; done), by repeat (first | exact Drawn0.refl _ | apply Drawn0.step)⟩
                      · replace c22 := Bool.eq_false_iff.mpr c22
                        subst c22
                        have H1 : (some false) = some r := by rw [if_neg (show ¬ (false = true) by decide)] at H; exact H
                        clear H
                        have H := H1
                        clear H1
                        obtain rfl := Option.some.inj H
                        go_wp2_with (first | ((with_reducible refine gate_callee (f := 10) rfl ?_); refine goesL_ (some 69) rfl rfl Tryd.func10 (by kernel_rfl) rfl #[.int .i64 (wrap64 ((Int.tmod (Go.bits .and .i64 a0 65535) 9999) + 400)), .int .i64 1, .int .i64 1] rfl (by (try simp only [List.map_toArray, List.map_cons, List.map_nil]); first | done | rfl | (simp only [List.length_drop, List.length_take]; rfl)) ?_; (with_reducible refine (civil_Number.calls (wrap64 ((Int.tmod (Go.bits .and .i64 a0 65535) 9999) + 400)) 1 1 t180 false _ A18.out (by first | exact hT | (repeat (first | exact hT | apply LenTab.drewN)) | (refine LenTab.below hT ?_; repeat (first | (with_reducible first | exact HB.out | apply below_alloc | apply pw_below_drewN | apply below_drew1) | exact HB.out)))).mono ?_); rintro e w' ⟨rfl, ⟨nd, rfl⟩⟩; refine ⟨_, rfl, ?_⟩))
                        go_ret
                        exact ⟨by first | rfl | (simp; done) | (simp [*]; done), by repeat (first | exact Drawn0.refl _ | apply Drawn0.step)⟩
                    · replace c21 := Bool.eq_false_iff.mpr c21
                      subst c21
                      have H1 : (some false) = some r := by rw [if_neg (show ¬ (false = true) by decide)] at H; exact H
                      clear H
                      have H := H1
                      clear H1
                      obtain rfl := Option.some.inj H
                      go_wp2_with (first | ((with_reducible refine gate_callee (f := 10) rfl ?_); refine goesL_ (some 69) rfl rfl Tryd.func10 (by kernel_rfl) rfl #[.int .i64 (wrap64 ((Int.tmod (Go.bits .and .i64 a0 65535) 9999) + 400)), .int .i64 1, .int .i64 1] rfl (by (try simp only [List.map_toArray, List.map_cons, List.map_nil]); first | done | rfl | (simp only [List.length_drop, List.length_take]; rfl)) ?_; (with_reducible refine (civil_Number.calls (wrap64 ((Int.tmod (Go.bits .and .i64 a0 65535) 9999) + 400)) 1 1 t180 t181 _ A18.out (by first | exact hT | (repeat (first | exact hT | apply LenTab.drewN)) | (refine LenTab.below hT ?_; repeat (first | (with_reducible first | exact HB.out | apply below_alloc | apply pw_below_drewN | apply below_drew1) | exact HB.out)))).mono ?_); rintro e w' ⟨rfl, ⟨nd, rfl⟩⟩; refine ⟨_, rfl, ?_⟩))
                      go_ret
                      exact ⟨by first | rfl | (simp; done) | (simp [*]; done), by repeat (first | exact Drawn0.refl _ | apply Drawn0.step)⟩

/-- THE ONE PURE STATEMENT of lustrumlaw02_CivilYears: yours. -/
def lustrumlaw02_CivilYears.Pure : Prop := ∀ (a0 : Int), (Lit.int .i64 a0).wf = true → ∃ k, lustrumlaw02_CivilYears.f k a0 = some true
theorem lustrumlaw02_CivilYears.walk (P : lustrumlaw02_CivilYears.Pure) (a0 : Int) (w : World) (w0 : (Lit.int .i64 a0).wf = true) (hT : LenTab w) :
    Calls Tryd.prog 6 #[.int .i64 a0] w fun e w' => e = .returned (.bool true) ∧ Below w.heap.size w w' := by
  obtain ⟨k, h⟩ := P a0 w0
  refine (lustrumlaw02_CivilYears.calls k a0 true w h hT).mono ?_
  rintro e w' ⟨rfl, hd⟩
  exact ⟨rfl, hd.below⟩

/-! ### lustrumlaw02_CivilOrder: function 7 -/
def lustrumlaw02_CivilOrder.f (k : Nat) (a0 : Int) (a1 : Int) : Option (Bool) := (lustrumlaw02_awake.f k).bind fun t184 => ((civil_Date.f k (Int.tmod (Go.bits .and .i64 a0 1073741823) 3652425)).bind fun bt185 => ((civil_Date.f k (Int.tmod (Go.bits .and .i64 a1 1073741823) 3652425)).bind fun bt188 => (if bt185.1 < bt188.1 then (if t184 = true then (if (true == (decide ((Int.tmod (Go.bits .and .i64 a0 1073741823) 3652425) < (Int.tmod (Go.bits .and .i64 a1 1073741823) 3652425)))) = true then ((civil_Valid.f bt185.1 bt185.2.1 bt185.2.2).bind fun t191 => (if t191 = true then ((civil_Valid.f bt188.1 bt188.2.1 bt188.2.2).bind fun t192 => (some t192)) else (some false))) else (some false)) else (some false)) else (if bt185.1 = bt188.1 then (if bt185.2.1 < bt188.2.1 then (if t184 = true then (if (true == (decide ((Int.tmod (Go.bits .and .i64 a0 1073741823) 3652425) < (Int.tmod (Go.bits .and .i64 a1 1073741823) 3652425)))) = true then ((civil_Valid.f bt185.1 bt185.2.1 bt185.2.2).bind fun t193 => (if t193 = true then ((civil_Valid.f bt188.1 bt188.2.1 bt188.2.2).bind fun t194 => (some t194)) else (some false))) else (some false)) else (some false)) else (if bt185.2.1 = bt188.2.1 then (if t184 = true then (if ((decide (bt185.2.2 < bt188.2.2)) == (decide ((Int.tmod (Go.bits .and .i64 a0 1073741823) 3652425) < (Int.tmod (Go.bits .and .i64 a1 1073741823) 3652425)))) = true then ((civil_Valid.f bt185.1 bt185.2.1 bt185.2.2).bind fun t195 => (if t195 = true then ((civil_Valid.f bt188.1 bt188.2.1 bt188.2.2).bind fun t196 => (some t196)) else (some false))) else (some false)) else (some false)) else (if t184 = true then (if (false == (decide ((Int.tmod (Go.bits .and .i64 a0 1073741823) 3652425) < (Int.tmod (Go.bits .and .i64 a1 1073741823) 3652425)))) = true then ((civil_Valid.f bt185.1 bt185.2.1 bt185.2.2).bind fun t197 => (if t197 = true then ((civil_Valid.f bt188.1 bt188.2.1 bt188.2.2).bind fun t198 => (some t198)) else (some false))) else (some false)) else (some false)))) else (if t184 = true then (if (false == (decide ((Int.tmod (Go.bits .and .i64 a0 1073741823) 3652425) < (Int.tmod (Go.bits .and .i64 a1 1073741823) 3652425)))) = true then ((civil_Valid.f bt185.1 bt185.2.1 bt185.2.2).bind fun t199 => (if t199 = true then ((civil_Valid.f bt188.1 bt188.2.1 bt188.2.2).bind fun t200 => (some t200)) else (some false))) else (some false)) else (some false))))))
theorem lustrumlaw02_CivilOrder.mono : ∀ a0 a1 k, LeO (lustrumlaw02_CivilOrder.f k a0 a1) (lustrumlaw02_CivilOrder.f (k + 1) a0 a1) := by
  intro a0 a1 k
  unfold lustrumlaw02_CivilOrder.f
  repeat' first
      | (with_reducible exact civil_Date.mono _ _)
      | (with_reducible exact lustrumlaw02_awake.mono _)
      | (with_reducible exact LeO.refl _)
      | (with_reducible exact LeO.none _)
      | (with_reducible refine LeO.ite ?_ ?_)
      | (with_reducible refine LeO.bind ?_ (fun _ => ?_))
      | exact civil_Date.mono _ _
      | exact lustrumlaw02_awake.mono _
      | exact LeO.none _
      | refine LeO.ite ?_ ?_
      | refine LeO.bind ?_ (fun _ => ?_)
set_option maxHeartbeats 8000000 in
set_option maxRecDepth 100000 in
theorem lustrumlaw02_CivilOrder.calls (k : Nat) (a0 : Int) (a1 : Int) (r : Bool) (w : World) (h : lustrumlaw02_CivilOrder.f k a0 a1 = some r) (hT : LenTab w) :
    Calls Tryd.prog 7 #[.int .i64 a0, .int .i64 a1] w fun e w' => e = .returned (.bool r) ∧ Drawn0 w w' := by
  have H : ((lustrumlaw02_awake.f k).bind fun t184 => ((civil_Date.f k (Int.tmod (Go.bits .and .i64 a0 1073741823) 3652425)).bind fun bt185 => ((civil_Date.f k (Int.tmod (Go.bits .and .i64 a1 1073741823) 3652425)).bind fun bt188 => (if bt185.1 < bt188.1 then (if t184 = true then (if (true == (decide ((Int.tmod (Go.bits .and .i64 a0 1073741823) 3652425) < (Int.tmod (Go.bits .and .i64 a1 1073741823) 3652425)))) = true then ((civil_Valid.f bt185.1 bt185.2.1 bt185.2.2).bind fun t191 => (if t191 = true then ((civil_Valid.f bt188.1 bt188.2.1 bt188.2.2).bind fun t192 => (some t192)) else (some false))) else (some false)) else (some false)) else (if bt185.1 = bt188.1 then (if bt185.2.1 < bt188.2.1 then (if t184 = true then (if (true == (decide ((Int.tmod (Go.bits .and .i64 a0 1073741823) 3652425) < (Int.tmod (Go.bits .and .i64 a1 1073741823) 3652425)))) = true then ((civil_Valid.f bt185.1 bt185.2.1 bt185.2.2).bind fun t193 => (if t193 = true then ((civil_Valid.f bt188.1 bt188.2.1 bt188.2.2).bind fun t194 => (some t194)) else (some false))) else (some false)) else (some false)) else (if bt185.2.1 = bt188.2.1 then (if t184 = true then (if ((decide (bt185.2.2 < bt188.2.2)) == (decide ((Int.tmod (Go.bits .and .i64 a0 1073741823) 3652425) < (Int.tmod (Go.bits .and .i64 a1 1073741823) 3652425)))) = true then ((civil_Valid.f bt185.1 bt185.2.1 bt185.2.2).bind fun t195 => (if t195 = true then ((civil_Valid.f bt188.1 bt188.2.1 bt188.2.2).bind fun t196 => (some t196)) else (some false))) else (some false)) else (some false)) else (if t184 = true then (if (false == (decide ((Int.tmod (Go.bits .and .i64 a0 1073741823) 3652425) < (Int.tmod (Go.bits .and .i64 a1 1073741823) 3652425)))) = true then ((civil_Valid.f bt185.1 bt185.2.1 bt185.2.2).bind fun t197 => (if t197 = true then ((civil_Valid.f bt188.1 bt188.2.1 bt188.2.2).bind fun t198 => (some t198)) else (some false))) else (some false)) else (some false)))) else (if t184 = true then (if (false == (decide ((Int.tmod (Go.bits .and .i64 a0 1073741823) 3652425) < (Int.tmod (Go.bits .and .i64 a1 1073741823) 3652425)))) = true then ((civil_Valid.f bt185.1 bt185.2.1 bt185.2.2).bind fun t199 => (if t199 = true then ((civil_Valid.f bt188.1 bt188.2.1 bt188.2.2).bind fun t200 => (some t200)) else (some false))) else (some false)) else (some false))))))) = some r := h
  clear h
  replace H := Option.bind_eq_some_iff.mp H
  obtain ⟨t184, A30, H⟩ := H
  replace H : ((civil_Date.f k (Int.tmod (Go.bits .and .i64 a0 1073741823) 3652425)).bind fun bt185 => ((civil_Date.f k (Int.tmod (Go.bits .and .i64 a1 1073741823) 3652425)).bind fun bt188 => (if bt185.1 < bt188.1 then (if t184 = true then (if (true == (decide ((Int.tmod (Go.bits .and .i64 a0 1073741823) 3652425) < (Int.tmod (Go.bits .and .i64 a1 1073741823) 3652425)))) = true then ((civil_Valid.f bt185.1 bt185.2.1 bt185.2.2).bind fun t191 => (if t191 = true then ((civil_Valid.f bt188.1 bt188.2.1 bt188.2.2).bind fun t192 => (some t192)) else (some false))) else (some false)) else (some false)) else (if bt185.1 = bt188.1 then (if bt185.2.1 < bt188.2.1 then (if t184 = true then (if (true == (decide ((Int.tmod (Go.bits .and .i64 a0 1073741823) 3652425) < (Int.tmod (Go.bits .and .i64 a1 1073741823) 3652425)))) = true then ((civil_Valid.f bt185.1 bt185.2.1 bt185.2.2).bind fun t193 => (if t193 = true then ((civil_Valid.f bt188.1 bt188.2.1 bt188.2.2).bind fun t194 => (some t194)) else (some false))) else (some false)) else (some false)) else (if bt185.2.1 = bt188.2.1 then (if t184 = true then (if ((decide (bt185.2.2 < bt188.2.2)) == (decide ((Int.tmod (Go.bits .and .i64 a0 1073741823) 3652425) < (Int.tmod (Go.bits .and .i64 a1 1073741823) 3652425)))) = true then ((civil_Valid.f bt185.1 bt185.2.1 bt185.2.2).bind fun t195 => (if t195 = true then ((civil_Valid.f bt188.1 bt188.2.1 bt188.2.2).bind fun t196 => (some t196)) else (some false))) else (some false)) else (some false)) else (if t184 = true then (if (false == (decide ((Int.tmod (Go.bits .and .i64 a0 1073741823) 3652425) < (Int.tmod (Go.bits .and .i64 a1 1073741823) 3652425)))) = true then ((civil_Valid.f bt185.1 bt185.2.1 bt185.2.2).bind fun t197 => (if t197 = true then ((civil_Valid.f bt188.1 bt188.2.1 bt188.2.2).bind fun t198 => (some t198)) else (some false))) else (some false)) else (some false)))) else (if t184 = true then (if (false == (decide ((Int.tmod (Go.bits .and .i64 a0 1073741823) 3652425) < (Int.tmod (Go.bits .and .i64 a1 1073741823) 3652425)))) = true then ((civil_Valid.f bt185.1 bt185.2.1 bt185.2.2).bind fun t199 => (if t199 = true then ((civil_Valid.f bt188.1 bt188.2.1 bt188.2.2).bind fun t200 => (some t200)) else (some false))) else (some false)) else (some false)))))) = some r := H
  have A3 := Aside0.mk A30
  clear A30
  replace H := Option.bind_eq_some_iff.mp H
  obtain ⟨⟨t185, t186, t187⟩, A40, H⟩ := H
  replace H : ((civil_Date.f k (Int.tmod (Go.bits .and .i64 a1 1073741823) 3652425)).bind fun bt188 => (if t185 < bt188.1 then (if t184 = true then (if (true == (decide ((Int.tmod (Go.bits .and .i64 a0 1073741823) 3652425) < (Int.tmod (Go.bits .and .i64 a1 1073741823) 3652425)))) = true then ((civil_Valid.f t185 t186 t187).bind fun t191 => (if t191 = true then ((civil_Valid.f bt188.1 bt188.2.1 bt188.2.2).bind fun t192 => (some t192)) else (some false))) else (some false)) else (some false)) else (if t185 = bt188.1 then (if t186 < bt188.2.1 then (if t184 = true then (if (true == (decide ((Int.tmod (Go.bits .and .i64 a0 1073741823) 3652425) < (Int.tmod (Go.bits .and .i64 a1 1073741823) 3652425)))) = true then ((civil_Valid.f t185 t186 t187).bind fun t193 => (if t193 = true then ((civil_Valid.f bt188.1 bt188.2.1 bt188.2.2).bind fun t194 => (some t194)) else (some false))) else (some false)) else (some false)) else (if t186 = bt188.2.1 then (if t184 = true then (if ((decide (t187 < bt188.2.2)) == (decide ((Int.tmod (Go.bits .and .i64 a0 1073741823) 3652425) < (Int.tmod (Go.bits .and .i64 a1 1073741823) 3652425)))) = true then ((civil_Valid.f t185 t186 t187).bind fun t195 => (if t195 = true then ((civil_Valid.f bt188.1 bt188.2.1 bt188.2.2).bind fun t196 => (some t196)) else (some false))) else (some false)) else (some false)) else (if t184 = true then (if (false == (decide ((Int.tmod (Go.bits .and .i64 a0 1073741823) 3652425) < (Int.tmod (Go.bits .and .i64 a1 1073741823) 3652425)))) = true then ((civil_Valid.f t185 t186 t187).bind fun t197 => (if t197 = true then ((civil_Valid.f bt188.1 bt188.2.1 bt188.2.2).bind fun t198 => (some t198)) else (some false))) else (some false)) else (some false)))) else (if t184 = true then (if (false == (decide ((Int.tmod (Go.bits .and .i64 a0 1073741823) 3652425) < (Int.tmod (Go.bits .and .i64 a1 1073741823) 3652425)))) = true then ((civil_Valid.f t185 t186 t187).bind fun t199 => (if t199 = true then ((civil_Valid.f bt188.1 bt188.2.1 bt188.2.2).bind fun t200 => (some t200)) else (some false))) else (some false)) else (some false))))) = some r := H
  have A4 := Aside0.mk A40
  clear A40
  replace H := Option.bind_eq_some_iff.mp H
  obtain ⟨⟨t188, t189, t190⟩, A50, H⟩ := H
  replace H : (if t185 < t188 then (if t184 = true then (if (true == (decide ((Int.tmod (Go.bits .and .i64 a0 1073741823) 3652425) < (Int.tmod (Go.bits .and .i64 a1 1073741823) 3652425)))) = true then ((civil_Valid.f t185 t186 t187).bind fun t191 => (if t191 = true then ((civil_Valid.f t188 t189 t190).bind fun t192 => (some t192)) else (some false))) else (some false)) else (some false)) else (if t185 = t188 then (if t186 < t189 then (if t184 = true then (if (true == (decide ((Int.tmod (Go.bits .and .i64 a0 1073741823) 3652425) < (Int.tmod (Go.bits .and .i64 a1 1073741823) 3652425)))) = true then ((civil_Valid.f t185 t186 t187).bind fun t193 => (if t193 = true then ((civil_Valid.f t188 t189 t190).bind fun t194 => (some t194)) else (some false))) else (some false)) else (some false)) else (if t186 = t189 then (if t184 = true then (if ((decide (t187 < t190)) == (decide ((Int.tmod (Go.bits .and .i64 a0 1073741823) 3652425) < (Int.tmod (Go.bits .and .i64 a1 1073741823) 3652425)))) = true then ((civil_Valid.f t185 t186 t187).bind fun t195 => (if t195 = true then ((civil_Valid.f t188 t189 t190).bind fun t196 => (some t196)) else (some false))) else (some false)) else (some false)) else (if t184 = true then (if (false == (decide ((Int.tmod (Go.bits .and .i64 a0 1073741823) 3652425) < (Int.tmod (Go.bits .and .i64 a1 1073741823) 3652425)))) = true then ((civil_Valid.f t185 t186 t187).bind fun t197 => (if t197 = true then ((civil_Valid.f t188 t189 t190).bind fun t198 => (some t198)) else (some false))) else (some false)) else (some false)))) else (if t184 = true then (if (false == (decide ((Int.tmod (Go.bits .and .i64 a0 1073741823) 3652425) < (Int.tmod (Go.bits .and .i64 a1 1073741823) 3652425)))) = true then ((civil_Valid.f t185 t186 t187).bind fun t199 => (if t199 = true then ((civil_Valid.f t188 t189 t190).bind fun t200 => (some t200)) else (some false))) else (some false)) else (some false)))) = some r := H
  have A5 := Aside0.mk A50
  clear A50
  by_cases c6 : t185 < t188
  · rw [if_pos c6] at H
    have c6b0 : decide (t185 < t188) = true := decide_eq_true c6
    clear c6
    by_cases c7 : t184 = true
    · subst c7
      have H1 : (if (true == (decide ((Int.tmod (Go.bits .and .i64 a0 1073741823) 3652425) < (Int.tmod (Go.bits .and .i64 a1 1073741823) 3652425)))) = true then ((civil_Valid.f t185 t186 t187).bind fun t191 => (if t191 = true then ((civil_Valid.f t188 t189 t190).bind fun t192 => (some t192)) else (some false))) else (some false)) = some r := by rw [if_pos rfl] at H; exact H
      clear H
      have H := H1
      clear H1
      by_cases c8 : (true == (decide ((Int.tmod (Go.bits .and .i64 a0 1073741823) 3652425) < (Int.tmod (Go.bits .and .i64 a1 1073741823) 3652425)))) = true
      · rw [if_pos c8] at H
        have c8b0 : (true == (decide ((Int.tmod (Go.bits .and .i64 a0 1073741823) 3652425) < (Int.tmod (Go.bits .and .i64 a1 1073741823) 3652425)))) = true := c8
        (try (have c8b1 : decide (true = (decide ((Int.tmod (Go.bits .and .i64 a0 1073741823) 3652425) < (Int.tmod (Go.bits .and .i64 a1 1073741823) 3652425)))) = true := by simpa using c8))
        (try (have c8b2 : (true == (decide ((Int.tmod (Go.bits .and .i64 a0 1073741823) 3652425) < (Int.tmod (Go.bits .and .i64 a1 1073741823) 3652425)))) = true := by simpa using c8))
        clear c8
        replace H := Option.bind_eq_some_iff.mp H
        obtain ⟨t191, A90, H⟩ := H
        replace H : (if t191 = true then ((civil_Valid.f t188 t189 t190).bind fun t192 => (some t192)) else (some false)) = some r := H
        have A9 := Aside0.mk A90
        clear A90
        by_cases c10 : t191 = true
        · subst c10
          have H1 : ((civil_Valid.f t188 t189 t190).bind fun t192 => (some t192)) = some r := by rw [if_pos rfl] at H; exact H
          clear H
          have H := H1
          clear H1
          replace H := Option.bind_eq_some_iff.mp H
          obtain ⟨t192, A110, H⟩ := H
          replace H : (some t192) = some r := H
          have A11 := Aside0.mk A110
          clear A110
          obtain rfl := Option.some.inj H
          go_enter Tryd.func7, Tryd.ntmps7
          go_wp2_with (first | ((with_reducible refine gate_callee (f := 9) rfl ?_); refine goesL_ (some 15) rfl rfl Tryd.func9 (by kernel_rfl) rfl #[] rfl (by (try simp only [List.map_toArray, List.map_cons, List.map_nil]); first | done | rfl | (simp only [List.length_drop, List.length_take]; rfl)) ?_; (with_reducible refine (lustrumlaw02_awake.calls k  true _ A3.out (by first | exact hT | (repeat (first | exact hT | apply LenTab.drewN)) | (refine LenTab.below hT ?_; repeat (first | (with_reducible first | exact HB.out | apply below_alloc | apply pw_below_drewN | apply below_drew1) | exact HB.out)))).mono ?_); rintro e w' ⟨rfl, ⟨nd, rfl⟩⟩; refine ⟨_, rfl, ?_⟩) | ((with_reducible refine gate_callee (f := 12) rfl ?_); refine goesL_ (some 24) rfl rfl Tryd.func12 (by kernel_rfl) rfl #[.int .i64 (Int.tmod (Go.bits .and .i64 a0 1073741823) 3652425)] rfl (by (try simp only [List.map_toArray, List.map_cons, List.map_nil]); first | done | rfl | (simp only [List.length_drop, List.length_take]; rfl)) ?_; (with_reducible refine (civil_Date.calls k (Int.tmod (Go.bits .and .i64 a0 1073741823) 3652425) t185 t186 t187 _ A4.out).mono ?_); rintro e w' ⟨rfl, ⟨nd, rfl⟩⟩; refine ⟨_, rfl, ?_⟩) | ((with_reducible refine gate_callee (f := 12) rfl ?_); refine goesL_ (some 30) rfl rfl Tryd.func12 (by kernel_rfl) rfl #[.int .i64 (Int.tmod (Go.bits .and .i64 a1 1073741823) 3652425)] rfl (by (try simp only [List.map_toArray, List.map_cons, List.map_nil]); first | done | rfl | (simp only [List.length_drop, List.length_take]; rfl)) ?_; (with_reducible refine (civil_Date.calls k (Int.tmod (Go.bits .and .i64 a1 1073741823) 3652425) t188 t189 t190 _ A5.out).mono ?_); rintro e w' ⟨rfl, ⟨nd, rfl⟩⟩; refine ⟨_, rfl, ?_⟩) | (go_at_call 18; (with_reducible refine (civil_Valid.calls t185 t186 t187 true _ A9.out (by first | exact hT | (repeat (first | exact hT | apply LenTab.drewN)) | (refine LenTab.below hT ?_; repeat (first | (with_reducible first | exact HB.out | apply below_alloc | apply pw_below_drewN | apply below_drew1) | exact HB.out)))).mono ?_); rintro e w' ⟨rfl, ⟨nd, rfl⟩⟩) | (go_at_call 18; (with_reducible refine (civil_Valid.calls t188 t189 t190 t192 _ A11.out (by first | exact hT | (repeat (first | exact hT | apply LenTab.drewN)) | (refine LenTab.below hT ?_; repeat (first | (with_reducible first | exact HB.out | apply below_alloc | apply pw_below_drewN | apply below_drew1) | exact HB.out)))).mono ?_); rintro e w' ⟨rfl, ⟨nd, rfl⟩⟩))
          go_ret
          exact ⟨by first | rfl | (simp; done) | (simp [*]; done), by repeat (first | exact Drawn0.refl _ | apply Drawn0.step)⟩
        · replace c10 := Bool.eq_false_iff.mpr c10
          subst c10
          have H1 : (some false) = some r := by rw [if_neg (show ¬ (false = true) by decide)] at H; exact H
          clear H
          have H := H1
          clear H1
          obtain rfl := Option.some.inj H
          go_enter Tryd.func7, Tryd.ntmps7
          go_wp2_with (first | ((with_reducible refine gate_callee (f := 9) rfl ?_); refine goesL_ (some 15) rfl rfl Tryd.func9 (by kernel_rfl) rfl #[] rfl (by (try simp only [List.map_toArray, List.map_cons, List.map_nil]); first | done | rfl | (simp only [List.length_drop, List.length_take]; rfl)) ?_; (with_reducible refine (lustrumlaw02_awake.calls k  true _ A3.out (by first | exact hT | (repeat (first | exact hT | apply LenTab.drewN)) | (refine LenTab.below hT ?_; repeat (first | (with_reducible first | exact HB.out | apply below_alloc | apply pw_below_drewN | apply below_drew1) | exact HB.out)))).mono ?_); rintro e w' ⟨rfl, ⟨nd, rfl⟩⟩; refine ⟨_, rfl, ?_⟩) | ((with_reducible refine gate_callee (f := 12) rfl ?_); refine goesL_ (some 24) rfl rfl Tryd.func12 (by kernel_rfl) rfl #[.int .i64 (Int.tmod (Go.bits .and .i64 a0 1073741823) 3652425)] rfl (by (try simp only [List.map_toArray, List.map_cons, List.map_nil]); first | done | rfl | (simp only [List.length_drop, List.length_take]; rfl)) ?_; (with_reducible refine (civil_Date.calls k (Int.tmod (Go.bits .and .i64 a0 1073741823) 3652425) t185 t186 t187 _ A4.out).mono ?_); rintro e w' ⟨rfl, ⟨nd, rfl⟩⟩; refine ⟨_, rfl, ?_⟩) | ((with_reducible refine gate_callee (f := 12) rfl ?_); refine goesL_ (some 30) rfl rfl Tryd.func12 (by kernel_rfl) rfl #[.int .i64 (Int.tmod (Go.bits .and .i64 a1 1073741823) 3652425)] rfl (by (try simp only [List.map_toArray, List.map_cons, List.map_nil]); first | done | rfl | (simp only [List.length_drop, List.length_take]; rfl)) ?_; (with_reducible refine (civil_Date.calls k (Int.tmod (Go.bits .and .i64 a1 1073741823) 3652425) t188 t189 t190 _ A5.out).mono ?_); rintro e w' ⟨rfl, ⟨nd, rfl⟩⟩; refine ⟨_, rfl, ?_⟩) | (go_at_call 18; (with_reducible refine (civil_Valid.calls t185 t186 t187 false _ A9.out (by first | exact hT | (repeat (first | exact hT | apply LenTab.drewN)) | (refine LenTab.below hT ?_; repeat (first | (with_reducible first | exact HB.out | apply below_alloc | apply pw_below_drewN | apply below_drew1) | exact HB.out)))).mono ?_); rintro e w' ⟨rfl, ⟨nd, rfl⟩⟩))
          go_ret
          exact ⟨by first | rfl | (simp; done) | (simp [*]; done), by repeat (first | exact Drawn0.refl _ | apply Drawn0.step)⟩
      · rw [if_neg c8] at H
        have c8b0 : (true == (decide ((Int.tmod (Go.bits .and .i64 a0 1073741823) 3652425) < (Int.tmod (Go.bits .and .i64 a1 1073741823) 3652425)))) = false := by simpa using c8
        (try (have c8b1 : decide (true = (decide ((Int.tmod (Go.bits .and .i64 a0 1073741823) 3652425) < (Int.tmod (Go.bits .and .i64 a1 1073741823) 3652425)))) = false := by simpa using c8))
        (try (have c8b2 : (true == (decide ((Int.tmod (Go.bits .and .i64 a0 1073741823) 3652425) < (Int.tmod (Go.bits .and .i64 a1 1073741823) 3652425)))) = false := by simpa using c8))
        (try (have c8b3 : ¬ (true = (decide ((Int.tmod (Go.bits .and .i64 a0 1073741823) 3652425) < (Int.tmod (Go.bits .and .i64 a1 1073741823) 3652425)))) := by simpa using c8))
        clear c8
        obtain rfl := Option.some.inj H
        go_enter Tryd.func7, Tryd.ntmps7
        go_wp2_with (first | ((with_reducible refine gate_callee (f := 9) rfl ?_); refine goesL_ (some 15) rfl rfl Tryd.func9 (by kernel_rfl) rfl #[] rfl (by (try simp only [List.map_toArray, List.map_cons, List.map_nil]); first | done | rfl | (simp only [List.length_drop, List.length_take]; rfl)) ?_; (with_reducible refine (lustrumlaw02_awake.calls k  true _ A3.out (by first | exact hT | (repeat (first | exact hT | apply LenTab.drewN)) | (refine LenTab.below hT ?_; repeat (first | (with_reducible first | exact HB.out | apply below_alloc | apply pw_below_drewN | apply below_drew1) | exact HB.out)))).mono ?_); rintro e w' ⟨rfl, ⟨nd, rfl⟩⟩; refine ⟨_, rfl, ?_⟩) | ((with_reducible refine gate_callee (f := 12) rfl ?_); refine goesL_ (some 24) rfl rfl Tryd.func12 (by kernel_rfl) rfl #[.int .i64 (Int.tmod (Go.bits .and .i64 a0 1073741823) 3652425)] rfl (by (try simp only [List.map_toArray, List.map_cons, List.map_nil]); first | done | rfl | (simp only [List.length_drop, List.length_take]; rfl)) ?_; (with_reducible refine (civil_Date.calls k (Int.tmod (Go.bits .and .i64 a0 1073741823) 3652425) t185 t186 t187 _ A4.out).mono ?_); rintro e w' ⟨rfl, ⟨nd, rfl⟩⟩; refine ⟨_, rfl, ?_⟩) | ((with_reducible refine gate_callee (f := 12) rfl ?_); refine goesL_ (some 30) rfl rfl Tryd.func12 (by kernel_rfl) rfl #[.int .i64 (Int.tmod (Go.bits .and .i64 a1 1073741823) 3652425)] rfl (by (try simp only [List.map_toArray, List.map_cons, List.map_nil]); first | done | rfl | (simp only [List.length_drop, List.length_take]; rfl)) ?_; (with_reducible refine (civil_Date.calls k (Int.tmod (Go.bits .and .i64 a1 1073741823) 3652425) t188 t189 t190 _ A5.out).mono ?_); rintro e w' ⟨rfl, ⟨nd, rfl⟩⟩; refine ⟨_, rfl, ?_⟩))
        go_ret
        exact ⟨by first | rfl | (simp; done) | (simp [*]; done), by repeat (first | exact Drawn0.refl _ | apply Drawn0.step)⟩
    · replace c7 := Bool.eq_false_iff.mpr c7
      subst c7
      have H1 : (some false) = some r := by rw [if_neg (show ¬ (false = true) by decide)] at H; exact H
      clear H
      have H := H1
      clear H1
      obtain rfl := Option.some.inj H
      go_enter Tryd.func7, Tryd.ntmps7
      go_wp2_with (first | ((with_reducible refine gate_callee (f := 9) rfl ?_); refine goesL_ (some 15) rfl rfl Tryd.func9 (by kernel_rfl) rfl #[] rfl (by (try simp only [List.map_toArray, List.map_cons, List.map_nil]); first | done | rfl | (simp only [List.length_drop, List.length_take]; rfl)) ?_; (with_reducible refine (lustrumlaw02_awake.calls k  false _ A3.out (by first | exact hT | (repeat (first | exact hT | apply LenTab.drewN)) | (refine LenTab.below hT ?_; repeat (first | (with_reducible first | exact HB.out | apply below_alloc | apply pw_below_drewN | apply below_drew1) | exact HB.out)))).mono ?_); rintro e w' ⟨rfl, ⟨nd, rfl⟩⟩; refine ⟨_, rfl, ?_⟩) | ((with_reducible refine gate_callee (f := 12) rfl ?_); refine goesL_ (some 24) rfl rfl Tryd.func12 (by kernel_rfl) rfl #[.int .i64 (Int.tmod (Go.bits .and .i64 a0 1073741823) 3652425)] rfl (by (try simp only [List.map_toArray, List.map_cons, List.map_nil]); first | done | rfl | (simp only [List.length_drop, List.length_take]; rfl)) ?_; (with_reducible refine (civil_Date.calls k (Int.tmod (Go.bits .and .i64 a0 1073741823) 3652425) t185 t186 t187 _ A4.out).mono ?_); rintro e w' ⟨rfl, ⟨nd, rfl⟩⟩; refine ⟨_, rfl, ?_⟩) | ((with_reducible refine gate_callee (f := 12) rfl ?_); refine goesL_ (some 30) rfl rfl Tryd.func12 (by kernel_rfl) rfl #[.int .i64 (Int.tmod (Go.bits .and .i64 a1 1073741823) 3652425)] rfl (by (try simp only [List.map_toArray, List.map_cons, List.map_nil]); first | done | rfl | (simp only [List.length_drop, List.length_take]; rfl)) ?_; (with_reducible refine (civil_Date.calls k (Int.tmod (Go.bits .and .i64 a1 1073741823) 3652425) t188 t189 t190 _ A5.out).mono ?_); rintro e w' ⟨rfl, ⟨nd, rfl⟩⟩; refine ⟨_, rfl, ?_⟩))
      go_ret
      exact ⟨by first | rfl | (simp; done) | (simp [*]; done), by repeat (first | exact Drawn0.refl _ | apply Drawn0.step)⟩
  · rw [if_neg c6] at H
    have c6b0 : decide (t185 < t188) = false := decide_eq_false c6
    clear c6
    by_cases c12 : t185 = t188
    · rw [if_pos c12] at H
      have c12b0 : (t185 == t188) = true := beq_iff_eq.mpr c12
      have c12b1 : (t185 != t188) = false := bne_eq_false_iff_eq.mpr c12
      clear c12
      by_cases c13 : t186 < t189
      · rw [if_pos c13] at H
        have c13b0 : decide (t186 < t189) = true := decide_eq_true c13
        clear c13
        by_cases c14 : t184 = true
        · subst c14
          have H1 : (if (true == (decide ((Int.tmod (Go.bits .and .i64 a0 1073741823) 3652425) < (Int.tmod (Go.bits .and .i64 a1 1073741823) 3652425)))) = true then ((civil_Valid.f t185 t186 t187).bind fun t193 => (if t193 = true then ((civil_Valid.f t188 t189 t190).bind fun t194 => (some t194)) else (some false))) else (some false)) = some r := by rw [if_pos rfl] at H; exact H
          clear H
          have H := H1
          clear H1
          by_cases c15 : (true == (decide ((Int.tmod (Go.bits .and .i64 a0 1073741823) 3652425) < (Int.tmod (Go.bits .and .i64 a1 1073741823) 3652425)))) = true
          · rw [if_pos c15] at H
            have c15b0 : (true == (decide ((Int.tmod (Go.bits .and .i64 a0 1073741823) 3652425) < (Int.tmod (Go.bits .and .i64 a1 1073741823) 3652425)))) = true := c15
            (try (have c15b1 : decide (true = (decide ((Int.tmod (Go.bits .and .i64 a0 1073741823) 3652425) < (Int.tmod (Go.bits .and .i64 a1 1073741823) 3652425)))) = true := by simpa using c15))
            (try (have c15b2 : (true == (decide ((Int.tmod (Go.bits .and .i64 a0 1073741823) 3652425) < (Int.tmod (Go.bits .and .i64 a1 1073741823) 3652425)))) = true := by simpa using c15))
            clear c15
            replace H := Option.bind_eq_some_iff.mp H
            obtain ⟨t193, A160, H⟩ := H
            replace H : (if t193 = true then ((civil_Valid.f t188 t189 t190).bind fun t194 => (some t194)) else (some false)) = some r := H
            have A16 := Aside0.mk A160
            clear A160
            by_cases c17 : t193 = true
            · subst c17
              have H1 : ((civil_Valid.f t188 t189 t190).bind fun t194 => (some t194)) = some r := by rw [if_pos rfl] at H; exact H
              clear H
              have H := H1
              clear H1
              replace H := Option.bind_eq_some_iff.mp H
              obtain ⟨t194, A180, H⟩ := H
              replace H : (some t194) = some r := H
              have A18 := Aside0.mk A180
              clear A180
              obtain rfl := Option.some.inj H
              go_enter Tryd.func7, Tryd.ntmps7
              go_wp2_with (first | ((with_reducible refine gate_callee (f := 9) rfl ?_); refine goesL_ (some 15) rfl rfl Tryd.func9 (by kernel_rfl) rfl #[] rfl (by (try simp only [List.map_toArray, List.map_cons, List.map_nil]); first | done | rfl | (simp only [List.length_drop, List.length_take]; rfl)) ?_; (with_reducible refine (lustrumlaw02_awake.calls k  true _ A3.out (by first | exact hT | (repeat (first | exact hT | apply LenTab.drewN)) | (refine LenTab.below hT ?_; repeat (first | (with_reducible first | exact HB.out | apply below_alloc | apply pw_below_drewN | apply below_drew1) | exact HB.out)))).mono ?_); rintro e w' ⟨rfl, ⟨nd, rfl⟩⟩; refine ⟨_, rfl, ?_⟩) | ((with_reducible refine gate_callee (f := 12) rfl ?_); refine goesL_ (some 24) rfl rfl Tryd.func12 (by kernel_rfl) rfl #[.int .i64 (Int.tmod (Go.bits .and .i64 a0 1073741823) 3652425)] rfl (by (try simp only [List.map_toArray, List.map_cons, List.map_nil]); first | done | rfl | (simp only [List.length_drop, List.length_take]; rfl)) ?_; (with_reducible refine (civil_Date.calls k (Int.tmod (Go.bits .and .i64 a0 1073741823) 3652425) t185 t186 t187 _ A4.out).mono ?_); rintro e w' ⟨rfl, ⟨nd, rfl⟩⟩; refine ⟨_, rfl, ?_⟩) | ((with_reducible refine gate_callee (f := 12) rfl ?_); refine goesL_ (some 30) rfl rfl Tryd.func12 (by kernel_rfl) rfl #[.int .i64 (Int.tmod (Go.bits .and .i64 a1 1073741823) 3652425)] rfl (by (try simp only [List.map_toArray, List.map_cons, List.map_nil]); first | done | rfl | (simp only [List.length_drop, List.length_take]; rfl)) ?_; (with_reducible refine (civil_Date.calls k (Int.tmod (Go.bits .and .i64 a1 1073741823) 3652425) t188 t189 t190 _ A5.out).mono ?_); rintro e w' ⟨rfl, ⟨nd, rfl⟩⟩; refine ⟨_, rfl, ?_⟩) | (go_at_call 18; (with_reducible refine (civil_Valid.calls t185 t186 t187 true _ A16.out (by first | exact hT | (repeat (first | exact hT | apply LenTab.drewN)) | (refine LenTab.below hT ?_; repeat (first | (with_reducible first | exact HB.out | apply below_alloc | apply pw_below_drewN | apply below_drew1) | exact HB.out)))).mono ?_); rintro e w' ⟨rfl, ⟨nd, rfl⟩⟩) | (go_at_call 18; (with_reducible refine (civil_Valid.calls t188 t189 t190 t194 _ A18.out (by first | exact hT | (repeat (first | exact hT | apply LenTab.drewN)) | (refine LenTab.below hT ?_; repeat (first | (with_reducible first | exact HB.out | apply below_alloc | apply pw_below_drewN | apply below_drew1) | exact HB.out)))).mono ?_); rintro e w' ⟨rfl, ⟨nd, rfl⟩⟩))
              go_ret
              exact ⟨by first | rfl | (simp; done) | (simp [*]; done), by repeat (first | exact Drawn0.refl _ | apply Drawn0.step)⟩
            · replace c17 := Bool.eq_false_iff.mpr c17
              subst c17
              have H1 : (some false) = some r := by rw [if_neg (show ¬ (false = true) by decide)] at H; exact H
              clear H
              have H := H1
              clear H1
              obtain rfl := Option.some.inj H
              go_enter Tryd.func7, Tryd.ntmps7
              go_wp2_with (first | ((with_reducible refine gate_callee (f := 9) rfl ?_); refine goesL_ (some 15) rfl rfl Tryd.func9 (by kernel_rfl) rfl #[] rfl (by (try simp only [List.map_toArray, List.map_cons, List.map_nil]); first | done | rfl | (simp only [List.length_drop, List.length_take]; rfl)) ?_; (with_reducible refine (lustrumlaw02_awake.calls k  true _ A3.out (by first | exact hT | (repeat (first | exact hT | apply LenTab.drewN)) | (refine LenTab.below hT ?_; repeat (first | (with_reducible first | exact HB.out | apply below_alloc | apply pw_below_drewN | apply below_drew1) | exact HB.out)))).mono ?_); rintro e w' ⟨rfl, ⟨nd, rfl⟩⟩; refine ⟨_, rfl, ?_⟩) | ((with_reducible refine gate_callee (f := 12) rfl ?_); refine goesL_ (some 24) rfl rfl Tryd.func12 (by kernel_rfl) rfl #[.int .i64 (Int.tmod (Go.bits .and .i64 a0 1073741823) 3652425)] rfl (by (try simp only [List.map_toArray, List.map_cons, List.map_nil]); first | done | rfl | (simp only [List.length_drop, List.length_take]; rfl)) ?_; (with_reducible refine (civil_Date.calls k (Int.tmod (Go.bits .and .i64 a0 1073741823) 3652425) t185 t186 t187 _ A4.out).mono ?_); rintro e w' ⟨rfl, ⟨nd, rfl⟩⟩; refine ⟨_, rfl, ?_⟩) | ((with_reducible refine gate_callee (f := 12) rfl ?_); refine goesL_ (some 30) rfl rfl Tryd.func12 (by kernel_rfl) rfl #[.int .i64 (Int.tmod (Go.bits .and .i64 a1 1073741823) 3652425)] rfl (by (try simp only [List.map_toArray, List.map_cons, List.map_nil]); first | done | rfl | (simp only [List.length_drop, List.length_take]; rfl)) ?_; (with_reducible refine (civil_Date.calls k (Int.tmod (Go.bits .and .i64 a1 1073741823) 3652425) t188 t189 t190 _ A5.out).mono ?_); rintro e w' ⟨rfl, ⟨nd, rfl⟩⟩; refine ⟨_, rfl, ?_⟩) | (go_at_call 18; (with_reducible refine (civil_Valid.calls t185 t186 t187 false _ A16.out (by first | exact hT | (repeat (first | exact hT | apply LenTab.drewN)) | (refine LenTab.below hT ?_; repeat (first | (with_reducible first | exact HB.out | apply below_alloc | apply pw_below_drewN | apply below_drew1) | exact HB.out)))).mono ?_); rintro e w' ⟨rfl, ⟨nd, rfl⟩⟩))
              go_ret
              exact ⟨by first | rfl | (simp; done) | (simp [*]; done), by repeat (first | exact Drawn0.refl _ | apply Drawn0.step)⟩
          · rw [if_neg c15] at H
            have c15b0 : (true == (decide ((Int.tmod (Go.bits .and .i64 a0 1073741823) 3652425) < (Int.tmod (Go.bits .and .i64 a1 1073741823) 3652425)))) = false := by simpa using c15
            (try (have c15b1 : decide (true = (decide ((Int.tmod (Go.bits .and .i64 a0 1073741823) 3652425) < (Int.tmod (Go.bits .and .i64 a1 1073741823) 3652425)))) = false := by simpa using c15))
            (try (have c15b2 : (true == (decide ((Int.tmod (Go.bits .and .i64 a0 1073741823) 3652425) < (Int.tmod (Go.bits .and .i64 a1 1073741823) 3652425)))) = false := by simpa using c15))
            (try (have c15b3 : ¬ (true = (decide ((Int.tmod (Go.bits .and .i64 a0 1073741823) 3652425) < (Int.tmod (Go.bits .and .i64 a1 1073741823) 3652425)))) := by simpa using c15))
            clear c15
            obtain rfl := Option.some.inj H
            go_enter Tryd.func7, Tryd.ntmps7
            go_wp2_with (first | ((with_reducible refine gate_callee (f := 9) rfl ?_); refine goesL_ (some 15) rfl rfl Tryd.func9 (by kernel_rfl) rfl #[] rfl (by (try simp only [List.map_toArray, List.map_cons, List.map_nil]); first | done | rfl | (simp only [List.length_drop, List.length_take]; rfl)) ?_; (with_reducible refine (lustrumlaw02_awake.calls k  true _ A3.out (by first | exact hT | (repeat (first | exact hT | apply LenTab.drewN)) | (refine LenTab.below hT ?_; repeat (first | (with_reducible first | exact HB.out | apply below_alloc | apply pw_below_drewN | apply below_drew1) | exact HB.out)))).mono ?_); rintro e w' ⟨rfl, ⟨nd, rfl⟩⟩; refine ⟨_, rfl, ?_⟩) | ((with_reducible refine gate_callee (f := 12) rfl ?_); refine goesL_ (some 24) rfl rfl Tryd.func12 (by kernel_rfl) rfl #[.int .i64 (Int.tmod (Go.bits .and .i64 a0 1073741823) 3652425)] rfl (by (try simp only [List.map_toArray, List.map_cons, List.map_nil]); first | done | rfl | (simp only [List.length_drop, List.length_take]; rfl)) ?_; (with_reducible refine (civil_Date.calls k (Int.tmod (Go.bits .and .i64 a0 1073741823) 3652425) t185 t186 t187 _ A4.out).mono ?_); rintro e w' ⟨rfl, ⟨nd, rfl⟩⟩; refine ⟨_, rfl, ?_⟩) | ((with_reducible refine gate_callee (f := 12) rfl ?_); refine goesL_ (some 30) rfl rfl Tryd.func12 (by kernel_rfl) rfl #[.int .i64 (Int.tmod (Go.bits .and .i64 a1 1073741823) 3652425)] rfl (by (try simp only [List.map_toArray, List.map_cons, List.map_nil]); first | done | rfl | (simp only [List.length_drop, List.length_take]; rfl)) ?_; (with_reducible refine (civil_Date.calls k (Int.tmod (Go.bits .and .i64 a1 1073741823) 3652425) t188 t189 t190 _ A5.out).mono ?_); rintro e w' ⟨rfl, ⟨nd, rfl⟩⟩; refine ⟨_, rfl, ?_⟩))
            go_ret
            exact ⟨by first | rfl | (simp; done) | (simp [*]; done), by repeat (first | exact Drawn0.refl _ | apply Drawn0.step)⟩
        · replace c14 := Bool.eq_false_iff.mpr c14
          subst c14
          have H1 : (some false) = some r := by rw [if_neg (show ¬ (false = true) by decide)] at H; exact H
          clear H
          have H := H1
          clear H1
          obtain rfl := Option.some.inj H
          go_enter Tryd.func7, Tryd.ntmps7
          go_wp2_with (first | ((with_reducible refine gate_callee (f := 9) rfl ?_); refine goesL_ (some 15) rfl rfl Tryd.func9 (by kernel_rfl) rfl #[] rfl (by (try simp only [List.map_toArray, List.map_cons, List.map_nil]); first | done | rfl | (simp only [List.length_drop, List.length_take]; rfl)) ?_; (with_reducible refine (lustrumlaw02_awake.calls k  false _ A3.out (by first | exact hT | (repeat (first | exact hT | apply LenTab.drewN)) | (refine LenTab.below hT ?_; repeat (first | (with_reducible first | exact HB.out | apply below_alloc | apply pw_below_drewN | apply below_drew1) | exact HB.out)))).mono ?_); rintro e w' ⟨rfl, ⟨nd, rfl⟩⟩; refine ⟨_, rfl, ?_⟩) | ((with_reducible refine gate_callee (f := 12) rfl ?_); refine goesL_ (some 24) rfl rfl Tryd.func12 (by kernel_rfl) rfl #[.int .i64 (Int.tmod (Go.bits .and .i64 a0 1073741823) 3652425)] rfl (by (try simp only [List.map_toArray, List.map_cons, List.map_nil]); first | done | rfl | (simp only [List.length_drop, List.length_take]; rfl)) ?_; (with_reducible refine (civil_Date.calls k (Int.tmod (Go.bits .and .i64 a0 1073741823) 3652425) t185 t186 t187 _ A4.out).mono ?_); rintro e w' ⟨rfl, ⟨nd, rfl⟩⟩; refine ⟨_, rfl, ?_⟩) | ((with_reducible refine gate_callee (f := 12) rfl ?_); refine goesL_ (some 30) rfl rfl Tryd.func12 (by kernel_rfl) rfl #[.int .i64 (Int.tmod (Go.bits .and .i64 a1 1073741823) 3652425)] rfl (by (try simp only [List.map_toArray, List.map_cons, List.map_nil]); first | done | rfl | (simp only [List.length_drop, List.length_take]; rfl)) ?_; (with_reducible refine (civil_Date.calls k (Int.tmod (Go.bits .and .i64 a1 1073741823) 3652425) t188 t189 t190 _ A5.out).mono ?_); rintro e w' ⟨rfl, ⟨nd, rfl⟩⟩; refine ⟨_, rfl, ?_⟩))
          go_ret
          exact ⟨by first | rfl | (simp; done) | (simp [*]; done), by repeat (first | exact Drawn0.refl _ | apply Drawn0.step)⟩
      · rw [if_neg c13] at H
        have c13b0 : decide (t186 < t189) = false := decide_eq_false c13
        clear c13
        by_cases c19 : t186 = t189
        · rw [if_pos c19] at H
          have c19b0 : (t186 == t189) = true := beq_iff_eq.mpr c19
          have c19b1 : (t186 != t189) = false := bne_eq_false_iff_eq.mpr c19
          clear c19
          by_cases c20 : t184 = true
          · subst c20
            have H1 : (if ((decide (t187 < t190)) == (decide ((Int.tmod (Go.bits .and .i64 a0 1073741823) 3652425) < (Int.tmod (Go.bits .and .i64 a1 1073741823) 3652425)))) = true then ((civil_Valid.f t185 t186 t187).bind fun t195 => (if t195 = true then ((civil_Valid.f t188 t189 t190).bind fun t196 => (some t196)) else (some false))) else (some false)) = some r := by rw [if_pos rfl] at H; exact H
            clear H
            have H := H1
            clear H1
            by_cases c21 : ((decide (t187 < t190)) == (decide ((Int.tmod (Go.bits .and .i64 a0 1073741823) 3652425) < (Int.tmod (Go.bits .and .i64 a1 1073741823) 3652425)))) = true
            · rw [if_pos c21] at H
              have c21b0 : ((decide (t187 < t190)) == (decide ((Int.tmod (Go.bits .and .i64 a0 1073741823) 3652425) < (Int.tmod (Go.bits .and .i64 a1 1073741823) 3652425)))) = true := c21
              (try (have c21b1 : decide ((decide (t187 < t190)) = (decide ((Int.tmod (Go.bits .and .i64 a0 1073741823) 3652425) < (Int.tmod (Go.bits .and .i64 a1 1073741823) 3652425)))) = true := by simpa using c21))
              (try (have c21b2 : ((decide (t187 < t190)) == (decide ((Int.tmod (Go.bits .and .i64 a0 1073741823) 3652425) < (Int.tmod (Go.bits .and .i64 a1 1073741823) 3652425)))) = true := by simpa using c21))
              clear c21
              replace H := Option.bind_eq_some_iff.mp H
              obtain ⟨t195, A220, H⟩ := H
              replace H : (if t195 = true then ((civil_Valid.f t188 t189 t190).bind fun t196 => (some t196)) else (some false)) = some r := H
              have A22 := Aside0.mk A220
              clear A220
              by_cases c23 : t195 = true
              · subst c23
                have H1 : ((civil_Valid.f t188 t189 t190).bind fun t196 => (some t196)) = some r := by rw [if_pos rfl] at H; exact H
                clear H
                have H := H1
                clear H1
                replace H := Option.bind_eq_some_iff.mp H
                obtain ⟨t196, A240, H⟩ := H
                replace H : (some t196) = some r := H
                have A24 := Aside0.mk A240
                clear A240
                obtain rfl := Option.some.inj H
                go_enter Tryd.func7, Tryd.ntmps7
                go_wp2_with (first | ((with_reducible refine gate_callee (f := 9) rfl ?_); refine goesL_ (some 15) rfl rfl Tryd.func9 (by kernel_rfl) rfl #[] rfl (by (try simp only [List.map_toArray, List.map_cons, List.map_nil]); first | done | rfl | (simp only [List.length_drop, List.length_take]; rfl)) ?_; (with_reducible refine (lustrumlaw02_awake.calls k  true _ A3.out (by first | exact hT | (repeat (first | exact hT | apply LenTab.drewN)) | (refine LenTab.below hT ?_; repeat (first | (with_reducible first | exact HB.out | apply below_alloc | apply pw_below_drewN | apply below_drew1) | exact HB.out)))).mono ?_); rintro e w' ⟨rfl, ⟨nd, rfl⟩⟩; refine ⟨_, rfl, ?_⟩) | ((with_reducible refine gate_callee (f := 12) rfl ?_); refine goesL_ (some 24) rfl rfl Tryd.func12 (by kernel_rfl) rfl #[.int .i64 (Int.tmod (Go.bits .and .i64 a0 1073741823) 3652425)] rfl (by (try simp only [List.map_toArray, List.map_cons, List.map_nil]); first | done | rfl | (simp only [List.length_drop, List.length_take]; rfl)) ?_; (with_reducible refine (civil_Date.calls k (Int.tmod (Go.bits .and .i64 a0 1073741823) 3652425) t185 t186 t187 _ A4.out).mono ?_); rintro e w' ⟨rfl, ⟨nd, rfl⟩⟩; refine ⟨_, rfl, ?_⟩) | ((with_reducible refine gate_callee (f := 12) rfl ?_); refine goesL_ (some 30) rfl rfl Tryd.func12 (by kernel_rfl) rfl #[.int .i64 (Int.tmod (Go.bits .and .i64 a1 1073741823) 3652425)] rfl (by (try simp only [List.map_toArray, List.map_cons, List.map_nil]); first | done | rfl | (simp only [List.length_drop, List.length_take]; rfl)) ?_; (with_reducible refine (civil_Date.calls k (Int.tmod (Go.bits .and .i64 a1 1073741823) 3652425) t188 t189 t190 _ A5.out).mono ?_); rintro e w' ⟨rfl, ⟨nd, rfl⟩⟩; refine ⟨_, rfl, ?_⟩) | (go_at_call 18; (with_reducible refine (civil_Valid.calls t185 t186 t187 true _ A22.out (by first | exact hT | (repeat (first | exact hT | apply LenTab.drewN)) | (refine LenTab.below hT ?_; repeat (first | (with_reducible first | exact HB.out | apply below_alloc | apply pw_below_drewN | apply below_drew1) | exact HB.out)))).mono ?_); rintro e w' ⟨rfl, ⟨nd, rfl⟩⟩) | (go_at_call 18; (with_reducible refine (civil_Valid.calls t188 t189 t190 t196 _ A24.out (by first | exact hT | (repeat (first | exact hT | apply LenTab.drewN)) | (refine LenTab.below hT ?_; repeat (first | (with_reducible first | exact HB.out | apply below_alloc | apply pw_below_drewN | apply below_drew1) | exact HB.out)))).mono ?_); rintro e w' ⟨rfl, ⟨nd, rfl⟩⟩))
                go_ret
                exact ⟨by first | rfl | (simp; done) | (simp [*]; done), by repeat (first | exact Drawn0.refl _ | apply Drawn0.step)⟩
              · replace c23 := Bool.eq_false_iff.mpr c23
                subst c23
                have H1 : (some false) = some r := by rw [if_neg (show ¬ (false = true) by decide)] at H; exact H
                clear H
                have H := H1
                clear H1
                obtain rfl := Option.some.inj H
                go_enter Tryd.func7, Tryd.ntmps7
                go_wp2_with (first | ((with_reducible refine gate_callee (f := 9) rfl ?_); refine goesL_ (some 15) rfl rfl Tryd.func9 (by kernel_rfl) rfl #[] rfl (by (try simp only [List.map_toArray, List.map_cons, List.map_nil]); first | done | rfl | (simp only [List.length_drop, List.length_take]; rfl)) ?_; (with_reducible refine (lustrumlaw02_awake.calls k  true _ A3.out (by first | exact hT | (repeat (first | exact hT | apply LenTab.drewN)) | (refine LenTab.below hT ?_; repeat (first | (with_reducible first | exact HB.out | apply below_alloc | apply pw_below_drewN | apply below_drew1) | exact HB.out)))).mono ?_); rintro e w' ⟨rfl, ⟨nd, rfl⟩⟩; refine ⟨_, rfl, ?_⟩) | ((with_reducible refine gate_callee (f := 12) rfl ?_); refine goesL_ (some 24) rfl rfl Tryd.func12 (by kernel_rfl) rfl #[.int .i64 (Int.tmod (Go.bits .and .i64 a0 1073741823) 3652425)] rfl (by (try simp only [List.map_toArray, List.map_cons, List.map_nil]); first | done | rfl | (simp only [List.length_drop, List.length_take]; rfl)) ?_; (with_reducible refine (civil_Date.calls k (Int.tmod (Go.bits .and .i64 a0 1073741823) 3652425) t185 t186 t187 _ A4.out).mono ?_); rintro e w' ⟨rfl, ⟨nd, rfl⟩⟩; refine ⟨_, rfl, ?_⟩) | ((with_reducible refine gate_callee (f := 12) rfl ?_); refine goesL_ (some 30) rfl rfl Tryd.func12 (by kernel_rfl) rfl #[.int .i64 (Int.tmod (Go.bits .and .i64 a1 1073741823) 3652425)] rfl (by (try simp only [List.map_toArray, List.map_cons, List.map_nil]); first | done | rfl | (simp only [List.length_drop, List.length_take]; rfl)) ?_; (with_reducible refine (civil_Date.calls k (Int.tmod (Go.bits .and .i64 a1 1073741823) 3652425) t188 t189 t190 _ A5.out).mono ?_); rintro e w' ⟨rfl, ⟨nd, rfl⟩⟩; refine ⟨_, rfl, ?_⟩) | (go_at_call 18; (with_reducible refine (civil_Valid.calls t185 t186 t187 false _ A22.out (by first | exact hT | (repeat (first | exact hT | apply LenTab.drewN)) | (refine LenTab.below hT ?_; repeat (first | (with_reducible first | exact HB.out | apply below_alloc | apply pw_below_drewN | apply below_drew1) | exact HB.out)))).mono ?_); rintro e w' ⟨rfl, ⟨nd, rfl⟩⟩))
                go_ret
                exact ⟨by first | rfl | (simp; done) | (simp [*]; done), by repeat (first | exact Drawn0.refl _ | apply Drawn0.step)⟩
            · rw [if_neg c21] at H
              have c21b0 : ((decide (t187 < t190)) == (decide ((Int.tmod (Go.bits .and .i64 a0 1073741823) 3652425) < (Int.tmod (Go.bits .and .i64 a1 1073741823) 3652425)))) = false := by simpa using c21
              (try (have c21b1 : decide ((decide (t187 < t190)) = (decide ((Int.tmod (Go.bits .and .i64 a0 1073741823) 3652425) < (Int.tmod (Go.bits .and .i64 a1 1073741823) 3652425)))) = false := by simpa using c21))
              (try (have c21b2 : ((decide (t187 < t190)) == (decide ((Int.tmod (Go.bits .and .i64 a0 1073741823) 3652425) < (Int.tmod (Go.bits .and .i64 a1 1073741823) 3652425)))) = false := by simpa using c21))
              (try (have c21b3 : ¬ ((decide (t187 < t190)) = (decide ((Int.tmod (Go.bits .and .i64 a0 1073741823) 3652425) < (Int.tmod (Go.bits .and .i64 a1 1073741823) 3652425)))) := by simpa using c21))
              clear c21
              obtain rfl := Option.some.inj H
              go_enter Tryd.func7, Tryd.ntmps7
              go_wp2_with (first | ((with_reducible refine gate_callee (f := 9) rfl ?_); refine goesL_ (some 15) rfl rfl Tryd.func9 (by kernel_rfl) rfl #[] rfl (by (try simp only [List.map_toArray, List.map_cons, List.map_nil]); first | done | rfl | (simp only [List.length_drop, List.length_take]; rfl)) ?_; (with_reducible refine (lustrumlaw02_awake.calls k  true _ A3.out (by first | exact hT | (repeat (first | exact hT | apply LenTab.drewN)) | (refine LenTab.below hT ?_; repeat (first | (with_reducible first | exact HB.out | apply below_alloc | apply pw_below_drewN | apply below_drew1) | exact HB.out)))).mono ?_); rintro e w' ⟨rfl, ⟨nd, rfl⟩⟩; refine ⟨_, rfl, ?_⟩) | ((with_reducible refine gate_callee (f := 12) rfl ?_); refine goesL_ (some 24) rfl rfl Tryd.func12 (by kernel_rfl) rfl #[.int .i64 (Int.tmod (Go.bits .and .i64 a0 1073741823) 3652425)] rfl (by (try simp only [List.map_toArray, List.map_cons, List.map_nil]); first | done | rfl | (simp only [List.length_drop, List.length_take]; rfl)) ?_; (with_reducible refine (civil_Date.calls k (Int.tmod (Go.bits .and .i64 a0 1073741823) 3652425) t185 t186 t187 _ A4.out).mono ?_); rintro e w' ⟨rfl, ⟨nd, rfl⟩⟩; refine ⟨_, rfl, ?_⟩) | ((with_reducible refine gate_callee (f := 12) rfl ?_); refine goesL_ (some 30) rfl rfl Tryd.func12 (by kernel_rfl) rfl #[.int .i64 (Int.tmod (Go.bits .and .i64 a1 1073741823) 3652425)] rfl (by (try simp only [List.map_toArray, List.map_cons, List.map_nil]); first | done | rfl | (simp only [List.length_drop, List.length_take]; rfl)) ?_; (with_reducible refine (civil_Date.calls k (Int.tmod (Go.bits .and .i64 a1 1073741823) 3652425) t188 t189 t190 _ A5.out).mono ?_); rintro e w' ⟨rfl, ⟨nd, rfl⟩⟩; refine ⟨_, rfl, ?_⟩))
              go_ret
              exact ⟨by first | rfl | (simp; done) | (simp [*]; done), by repeat (first | exact Drawn0.refl _ | apply Drawn0.step)⟩
          · replace c20 := Bool.eq_false_iff.mpr c20
            subst c20
            have H1 : (some false) = some r := by rw [if_neg (show ¬ (false = true) by decide)] at H; exact H
            clear H
            have H := H1
            clear H1
            obtain rfl := Option.some.inj H
            go_enter Tryd.func7, Tryd.ntmps7
            go_wp2_with (first | ((with_reducible refine gate_callee (f := 9) rfl ?_); refine goesL_ (some 15) rfl rfl Tryd.func9 (by kernel_rfl) rfl #[] rfl (by (try simp only [List.map_toArray, List.map_cons, List.map_nil]); first | done | rfl | (simp only [List.length_drop, List.length_take]; rfl)) ?_; (with_reducible refine (lustrumlaw02_awake.calls k  false _ A3.out (by first | exact hT | (repeat (first | exact hT | apply LenTab.drewN)) | (refine LenTab.below hT ?_; repeat (first | (with_reducible first | exact HB.out | apply below_alloc | apply pw_below_drewN | apply below_drew1) | exact HB.out)))).mono ?_); rintro e w' ⟨rfl, ⟨nd, rfl⟩⟩; refine ⟨_, rfl, ?_⟩) | ((with_reducible refine gate_callee (f := 12) rfl ?_); refine goesL_ (some 24) rfl rfl Tryd.func12 (by kernel_rfl) rfl #[.int .i64 (Int.tmod (Go.bits .and .i64 a0 1073741823) 3652425)] rfl (by (try simp only [List.map_toArray, List.map_cons, List.map_nil]); first | done | rfl | (simp only [List.length_drop, List.length_take]; rfl)) ?_; (with_reducible refine (civil_Date.calls k (Int.tmod (Go.bits .and .i64 a0 1073741823) 3652425) t185 t186 t187 _ A4.out).mono ?_); rintro e w' ⟨rfl, ⟨nd, rfl⟩⟩; refine ⟨_, rfl, ?_⟩) | ((with_reducible refine gate_callee (f := 12) rfl ?_); refine goesL_ (some 30) rfl rfl Tryd.func12 (by kernel_rfl) rfl #[.int .i64 (Int.tmod (Go.bits .and .i64 a1 1073741823) 3652425)] rfl (by (try simp only [List.map_toArray, List.map_cons, List.map_nil]); first | done | rfl | (simp only [List.length_drop, List.length_take]; rfl)) ?_; (with_reducible refine (civil_Date.calls k (Int.tmod (Go.bits .and .i64 a1 1073741823) 3652425) t188 t189 t190 _ A5.out).mono ?_); rintro e w' ⟨rfl, ⟨nd, rfl⟩⟩; refine ⟨_, rfl, ?_⟩))
            go_ret
            exact ⟨by first | rfl | (simp; done) | (simp [*]; done), by repeat (first | exact Drawn0.refl _ | apply Drawn0.step)⟩
        · rw [if_neg c19] at H
          have c19b0 : (t186 == t189) = false := beq_eq_false_iff_ne.mpr c19
          have c19b1 : (t186 != t189) = true := bne_iff_ne.mpr c19
          by_cases c25 : t184 = true
          · subst c25
            have H1 : (if (false == (decide ((Int.tmod (Go.bits .and .i64 a0 1073741823) 3652425) < (Int.tmod (Go.bits .and .i64 a1 1073741823) 3652425)))) = true then ((civil_Valid.f t185 t186 t187).bind fun t197 => (if t197 = true then ((civil_Valid.f t188 t189 t190).bind fun t198 => (some t198)) else (some false))) else (some false)) = some r := by rw [if_pos rfl] at H; exact H
            clear H
            have H := H1
            clear H1
            by_cases c26 : (false == (decide ((Int.tmod (Go.bits .and .i64 a0 1073741823) 3652425) < (Int.tmod (Go.bits .and .i64 a1 1073741823) 3652425)))) = true
            · rw [if_pos c26] at H
              have c26b0 : (false == (decide ((Int.tmod (Go.bits .and .i64 a0 1073741823) 3652425) < (Int.tmod (Go.bits .and .i64 a1 1073741823) 3652425)))) = true := c26
              (try (have c26b1 : decide (false = (decide ((Int.tmod (Go.bits .and .i64 a0 1073741823) 3652425) < (Int.tmod (Go.bits .and .i64 a1 1073741823) 3652425)))) = true := by simpa using c26))
              (try (have c26b2 : (false == (decide ((Int.tmod (Go.bits .and .i64 a0 1073741823) 3652425) < (Int.tmod (Go.bits .and .i64 a1 1073741823) 3652425)))) = true := by simpa using c26))
              clear c26
              replace H := Option.bind_eq_some_iff.mp H
              obtain ⟨t197, A270, H⟩ := H
              replace H : (if t197 = true then ((civil_Valid.f t188 t189 t190).bind fun t198 => (some t198)) else (some false)) = some r := H
              have A27 := Aside0.mk A270
              clear A270
              by_cases c28 : t197 = true
              · subst c28
                have H1 : ((civil_Valid.f t188 t189 t190).bind fun t198 => (some t198)) = some r := by rw [if_pos rfl] at H; exact H
                clear H
                have H := H1
                clear H1
                replace H := Option.bind_eq_some_iff.mp H
                obtain ⟨t198, A290, H⟩ := H
                replace H : (some t198) = some r := H
                have A29 := Aside0.mk A290
                clear A290
                obtain rfl := Option.some.inj H
                go_enter Tryd.func7, Tryd.ntmps7
                go_wp2_with (first | ((with_reducible refine gate_callee (f := 9) rfl ?_); refine goesL_ (some 15) rfl rfl Tryd.func9 (by kernel_rfl) rfl #[] rfl (by (try simp only [List.map_toArray, List.map_cons, List.map_nil]); first | done | rfl | (simp only [List.length_drop, List.length_take]; rfl)) ?_; (with_reducible refine (lustrumlaw02_awake.calls k  true _ A3.out (by first | exact hT | (repeat (first | exact hT | apply LenTab.drewN)) | (refine LenTab.below hT ?_; repeat (first | (with_reducible first | exact HB.out | apply below_alloc | apply pw_below_drewN | apply below_drew1) | exact HB.out)))).mono ?_); rintro e w' ⟨rfl, ⟨nd, rfl⟩⟩; refine ⟨_, rfl, ?_⟩) | ((with_reducible refine gate_callee (f := 12) rfl ?_); refine goesL_ (some 24) rfl rfl Tryd.func12 (by kernel_rfl) rfl #[.int .i64 (Int.tmod (Go.bits .and .i64 a0 1073741823) 3652425)] rfl (by (try simp only [List.map_toArray, List.map_cons, List.map_nil]); first | done | rfl | (simp only [List.length_drop, List.length_take]; rfl)) ?_; (with_reducible refine (civil_Date.calls k (Int.tmod (Go.bits .and .i64 a0 1073741823) 3652425) t185 t186 t187 _ A4.out).mono ?_); rintro e w' ⟨rfl, ⟨nd, rfl⟩⟩; refine ⟨_, rfl, ?_⟩) | ((with_reducible refine gate_callee (f := 12) rfl ?_); refine goesL_ (some 30) rfl rfl Tryd.func12 (by kernel_rfl) rfl #[.int .i64 (Int.tmod (Go.bits .and .i64 a1 1073741823) 3652425)] rfl (by (try simp only [List.map_toArray, List.map_cons, List.map_nil]); first | done | rfl | (simp only [List.length_drop, List.length_take]; rfl)) ?_; (with_reducible refine (civil_Date.calls k (Int.tmod (Go.bits .and .i64 a1 1073741823) 3652425) t188 t189 t190 _ A5.out).mono ?_); rintro e w' ⟨rfl, ⟨nd, rfl⟩⟩; refine ⟨_, rfl, ?_⟩) | (go_at_call 18; (with_reducible refine (civil_Valid.calls t185 t186 t187 true _ A27.out (by first | exact hT | (repeat (first | exact hT | apply LenTab.drewN)) | (refine LenTab.below hT ?_; repeat (first | (with_reducible first | exact HB.out | apply below_alloc | apply pw_below_drewN | apply below_drew1) | exact HB.out)))).mono ?_); rintro e w' ⟨rfl, ⟨nd, rfl⟩⟩) | (go_at_call 18; (with_reducible refine (civil_Valid.calls t188 t189 t190 t198 _ A29.out (by first | exact hT | (repeat (first | exact hT | apply LenTab.drewN)) | (refine LenTab.below hT ?_; repeat (first | (with_reducible first | exact HB.out | apply below_alloc | apply pw_below_drewN | apply below_drew1) | exact HB.out)))).mono ?_); rintro e w' ⟨rfl, ⟨nd, rfl⟩⟩))
                go_ret
                exact ⟨by first | rfl | (simp; done) | (simp [*]; done), by repeat (first | exact Drawn0.refl _ | apply Drawn0.step)⟩
              · replace c28 := Bool.eq_false_iff.mpr c28
                subst c28
                have H1 : (some false) = some r := by rw [if_neg (show ¬ (false = true) by decide)] at H; exact H
                clear H
                have H := H1
                clear H1
                obtain rfl := Option.some.inj H
                go_enter Tryd.func7, Tryd.ntmps7
                go_wp2_with (first | ((with_reducible refine gate_callee (f := 9) rfl ?_); refine goesL_ (some 15) rfl rfl Tryd.func9 (by kernel_rfl) rfl #[] rfl (by (try simp only [List.map_toArray, List.map_cons, List.map_nil]); first | done | rfl | (simp only [List.length_drop, List.length_take]; rfl)) ?_; (with_reducible refine (lustrumlaw02_awake.calls k  true _ A3.out (by first | exact hT | (repeat (first | exact hT | apply LenTab.drewN)) | (refine LenTab.below hT ?_; repeat (first | (with_reducible first | exact HB.out | apply below_alloc | apply pw_below_drewN | apply below_drew1) | exact HB.out)))).mono ?_); rintro e w' ⟨rfl, ⟨nd, rfl⟩⟩; refine ⟨_, rfl, ?_⟩) | ((with_reducible refine gate_callee (f := 12) rfl ?_); refine goesL_ (some 24) rfl rfl Tryd.func12 (by kernel_rfl) rfl #[.int .i64 (Int.tmod (Go.bits .and .i64 a0 1073741823) 3652425)] rfl (by (try simp only [List.map_toArray, List.map_cons, List.map_nil]); first | done | rfl | (simp only [List.length_drop, List.length_take]; rfl)) ?_; (with_reducible refine (civil_Date.calls k (Int.tmod (Go.bits .and .i64 a0 1073741823) 3652425) t185 t186 t187 _ A4.out).mono ?_); rintro e w' ⟨rfl, ⟨nd, rfl⟩⟩; refine ⟨_, rfl, ?_⟩) | ((with_reducible refine gate_callee (f := 12) rfl ?_); refine goesL_ (some 30) rfl rfl Tryd.func12 (by kernel_rfl) rfl #[.int .i64 (Int.tmod (Go.bits .and .i64 a1 1073741823) 3652425)] rfl (by (try simp only [List.map_toArray, List.map_cons, List.map_nil]); first | done | rfl | (simp only [List.length_drop, List.length_take]; rfl)) ?_; (with_reducible refine (civil_Date.calls k (Int.tmod (Go.bits .and .i64 a1 1073741823) 3652425) t188 t189 t190 _ A5.out).mono ?_); rintro e w' ⟨rfl, ⟨nd, rfl⟩⟩; refine ⟨_, rfl, ?_⟩) | (go_at_call 18; (with_reducible refine (civil_Valid.calls t185 t186 t187 false _ A27.out (by first | exact hT | (repeat (first | exact hT | apply LenTab.drewN)) | (refine LenTab.below hT ?_; repeat (first | (with_reducible first | exact HB.out | apply below_alloc | apply pw_below_drewN | apply below_drew1) | exact HB.out)))).mono ?_); rintro e w' ⟨rfl, ⟨nd, rfl⟩⟩))
                go_ret
                exact ⟨by first | rfl | (simp; done) | (simp [*]; done), by repeat (first | exact Drawn0.refl _ | apply Drawn0.step)⟩
            · rw [if_neg c26] at H
              have c26b0 : (false == (decide ((Int.tmod (Go.bits .and .i64 a0 1073741823) 3652425) < (Int.tmod (Go.bits .and .i64 a1 1073741823) 3652425)))) = false := by simpa using c26
              (try (have c26b1 : decide (false = (decide ((Int.tmod (Go.bits .and .i64 a0 1073741823) 3652425) < (Int.tmod (Go.bits .and .i64 a1 1073741823) 3652425)))) = false := by simpa using c26))
              (try (have c26b2 : (false == (decide ((Int.tmod (Go.bits .and .i64 a0 1073741823) 3652425) < (Int.tmod (Go.bits .and .i64 a1 1073741823) 3652425)))) = false := by simpa using c26))
              (try (have c26b3 : ¬ (false = (decide ((Int.tmod (Go.bits .and .i64 a0 1073741823) 3652425) < (Int.tmod (Go.bits .and .i64 a1 1073741823) 3652425)))) := by simpa using c26))
              clear c26
              obtain rfl := Option.some.inj H
              go_enter Tryd.func7, Tryd.ntmps7
              go_wp2_with (first | ((with_reducible refine gate_callee (f := 9) rfl ?_); refine goesL_ (some 15) rfl rfl Tryd.func9 (by kernel_rfl) rfl #[] rfl (by (try simp only [List.map_toArray, List.map_cons, List.map_nil]); first | done | rfl | (simp only [List.length_drop, List.length_take]; rfl)) ?_; (with_reducible refine (lustrumlaw02_awake.calls k  true _ A3.out (by first | exact hT | (repeat (first | exact hT | apply LenTab.drewN)) | (refine LenTab.below hT ?_; repeat (first | (with_reducible first | exact HB.out | apply below_alloc | apply pw_below_drewN | apply below_drew1) | exact HB.out)))).mono ?_); rintro e w' ⟨rfl, ⟨nd, rfl⟩⟩; refine ⟨_, rfl, ?_⟩) | ((with_reducible refine gate_callee (f := 12) rfl ?_); refine goesL_ (some 24) rfl rfl Tryd.func12 (by kernel_rfl) rfl #[.int .i64 (Int.tmod (Go.bits .and .i64 a0 1073741823) 3652425)] rfl (by (try simp only [List.map_toArray, List.map_cons, List.map_nil]); first | done | rfl | (simp only [List.length_drop, List.length_take]; rfl)) ?_; (with_reducible refine (civil_Date.calls k (Int.tmod (Go.bits .and .i64 a0 1073741823) 3652425) t185 t186 t187 _ A4.out).mono ?_); rintro e w' ⟨rfl, ⟨nd, rfl⟩⟩; refine ⟨_, rfl, ?_⟩) | ((with_reducible refine gate_callee (f := 12) rfl ?_); refine goesL_ (some 30) rfl rfl Tryd.func12 (by kernel_rfl) rfl #[.int .i64 (Int.tmod (Go.bits .and .i64 a1 1073741823) 3652425)] rfl (by (try simp only [List.map_toArray, List.map_cons, List.map_nil]); first | done | rfl | (simp only [List.length_drop, List.length_take]; rfl)) ?_; (with_reducible refine (civil_Date.calls k (Int.tmod (Go.bits .and .i64 a1 1073741823) 3652425) t188 t189 t190 _ A5.out).mono ?_); rintro e w' ⟨rfl, ⟨nd, rfl⟩⟩; refine ⟨_, rfl, ?_⟩))
              go_ret
              exact ⟨by first | rfl | (simp; done) | (simp [*]; done), by repeat (first | exact Drawn0.refl _ | apply Drawn0.step)⟩
          · replace c25 := Bool.eq_false_iff.mpr c25
            subst c25
            have H1 : (some false) = some r := by rw [if_neg (show ¬ (false = true) by decide)] at H; exact H
            clear H
            have H := H1
            clear H1
            obtain rfl := Option.some.inj H
            go_enter Tryd.func7, Tryd.ntmps7
            go_wp2_with (first | ((with_reducible refine gate_callee (f := 9) rfl ?_); refine goesL_ (some 15) rfl rfl Tryd.func9 (by kernel_rfl) rfl #[] rfl (by (try simp only [List.map_toArray, List.map_cons, List.map_nil]); first | done | rfl | (simp only [List.length_drop, List.length_take]; rfl)) ?_; (with_reducible refine (lustrumlaw02_awake.calls k  false _ A3.out (by first | exact hT | (repeat (first | exact hT | apply LenTab.drewN)) | (refine LenTab.below hT ?_; repeat (first | (with_reducible first | exact HB.out | apply below_alloc | apply pw_below_drewN | apply below_drew1) | exact HB.out)))).mono ?_); rintro e w' ⟨rfl, ⟨nd, rfl⟩⟩; refine ⟨_, rfl, ?_⟩) | ((with_reducible refine gate_callee (f := 12) rfl ?_); refine goesL_ (some 24) rfl rfl Tryd.func12 (by kernel_rfl) rfl #[.int .i64 (Int.tmod (Go.bits .and .i64 a0 1073741823) 3652425)] rfl (by (try simp only [List.map_toArray, List.map_cons, List.map_nil]); first | done | rfl | (simp only [List.length_drop, List.length_take]; rfl)) ?_; (with_reducible refine (civil_Date.calls k (Int.tmod (Go.bits .and .i64 a0 1073741823) 3652425) t185 t186 t187 _ A4.out).mono ?_); rintro e w' ⟨rfl, ⟨nd, rfl⟩⟩; refine ⟨_, rfl, ?_⟩) | ((with_reducible refine gate_callee (f := 12) rfl ?_); refine goesL_ (some 30) rfl rfl Tryd.func12 (by kernel_rfl) rfl #[.int .i64 (Int.tmod (Go.bits .and .i64 a1 1073741823) 3652425)] rfl (by (try simp only [List.map_toArray, List.map_cons, List.map_nil]); first | done | rfl | (simp only [List.length_drop, List.length_take]; rfl)) ?_; (with_reducible refine (civil_Date.calls k (Int.tmod (Go.bits .and .i64 a1 1073741823) 3652425) t188 t189 t190 _ A5.out).mono ?_); rintro e w' ⟨rfl, ⟨nd, rfl⟩⟩; refine ⟨_, rfl, ?_⟩))
            go_ret
            exact ⟨by first | rfl | (simp; done) | (simp [*]; done), by repeat (first | exact Drawn0.refl _ | apply Drawn0.step)⟩
    · rw [if_neg c12] at H
      have c12b0 : (t185 == t188) = false := beq_eq_false_iff_ne.mpr c12
      have c12b1 : (t185 != t188) = true := bne_iff_ne.mpr c12
      by_cases c30 : t184 = true
      · subst c30
        have H1 : (if (false == (decide ((Int.tmod (Go.bits .and .i64 a0 1073741823) 3652425) < (Int.tmod (Go.bits .and .i64 a1 1073741823) 3652425)))) = true then ((civil_Valid.f t185 t186 t187).bind fun t199 => (if t199 = true then ((civil_Valid.f t188 t189 t190).bind fun t200 => (some t200)) else (some false))) else (some false)) = some r := by rw [if_pos rfl] at H; exact H
        clear H
        have H := H1
        clear H1
        by_cases c31 : (false == (decide ((Int.tmod (Go.bits .and .i64 a0 1073741823) 3652425) < (Int.tmod (Go.bits .and .i64 a1 1073741823) 3652425)))) = true
        · rw [if_pos c31] at H
          have c31b0 : (false == (decide ((Int.tmod (Go.bits .and .i64 a0 1073741823) 3652425) < (Int.tmod (Go.bits .and .i64 a1 1073741823) 3652425)))) = true := c31
          (try (have c31b1 : decide (false = (decide ((Int.tmod (Go.bits .and .i64 a0 1073741823) 3652425) < (Int.tmod (Go.bits .and .i64 a1 1073741823) 3652425)))) = true := by simpa using c31))
          (try (have c31b2 : (false == (decide ((Int.tmod (Go.bits .and .i64 a0 1073741823) 3652425) < (Int.tmod (Go.bits .and .i64 a1 1073741823) 3652425)))) = true := by simpa using c31))
          clear c31
          replace H := Option.bind_eq_some_iff.mp H
          obtain ⟨t199, A320, H⟩ := H
          replace H : (if t199 = true then ((civil_Valid.f t188 t189 t190).bind fun t200 => (some t200)) else (some false)) = some r := H
          have A32 := Aside0.mk A320
          clear A320
          by_cases c33 : t199 = true
          · subst c33
            have H1 : ((civil_Valid.f t188 t189 t190).bind fun t200 => (some t200)) = some r := by rw [if_pos rfl] at H; exact H
            clear H
            have H := H1
            clear H1
            replace H := Option.bind_eq_some_iff.mp H
            obtain ⟨t200, A340, H⟩ := H
            replace H : (some t200) = some r := H
            have A34 := Aside0.mk A340
            clear A340
            obtain rfl := Option.some.inj H
            go_enter Tryd.func7, Tryd.ntmps7
            go_wp2_with (first | ((with_reducible refine gate_callee (f := 9) rfl ?_); refine goesL_ (some 15) rfl rfl Tryd.func9 (by kernel_rfl) rfl #[] rfl (by (try simp only [List.map_toArray, List.map_cons, List.map_nil]); first | done | rfl | (simp only [List.length_drop, List.length_take]; rfl)) ?_; (with_reducible refine (lustrumlaw02_awake.calls k  true _ A3.out (by first | exact hT | (repeat (first | exact hT | apply LenTab.drewN)) | (refine LenTab.below hT ?_; repeat (first | (with_reducible first | exact HB.out | apply below_alloc | apply pw_below_drewN | apply below_drew1) | exact HB.out)))).mono ?_); rintro e w' ⟨rfl, ⟨nd, rfl⟩⟩; refine ⟨_, rfl, ?_⟩) | ((with_reducible refine gate_callee (f := 12) rfl ?_); refine goesL_ (some 24) rfl rfl Tryd.func12 (by kernel_rfl) rfl #[.int .i64 (Int.tmod (Go.bits .and .i64 a0 1073741823) 3652425)] rfl (by (try simp only [List.map_toArray, List.map_cons, List.map_nil]); first | done | rfl | (simp only [List.length_drop, List.length_take]; rfl)) ?_; (with_reducible refine (civil_Date.calls k (Int.tmod (Go.bits .and .i64 a0 1073741823) 3652425) t185 t186 t187 _ A4.out).mono ?_); rintro e w' ⟨rfl, ⟨nd, rfl⟩⟩; refine ⟨_, rfl, ?_⟩) | ((with_reducible refine gate_callee (f := 12) rfl ?_); refine goesL_ (some 30) rfl rfl Tryd.func12 (by kernel_rfl) rfl #[.int .i64 (Int.tmod (Go.bits .and .i64 a1 1073741823) 3652425)] rfl (by (try simp only [List.map_toArray, List.map_cons, List.map_nil]); first | done | rfl | (simp only [List.length_drop, List.length_take]; rfl)) ?_; (with_reducible refine (civil_Date.calls k (Int.tmod (Go.bits .and .i64 a1 1073741823) 3652425) t188 t189 t190 _ A5.out).mono ?_); rintro e w' ⟨rfl, ⟨nd, rfl⟩⟩; refine ⟨_, rfl, ?_⟩) | (go_at_call 18; (with_reducible refine (civil_Valid.calls t185 t186 t187 true _ A32.out (by first | exact hT | (repeat (first | exact hT | apply LenTab.drewN)) | (refine LenTab.below hT ?_; repeat (first | (with_reducible first | exact HB.out | apply below_alloc | apply pw_below_drewN | apply below_drew1) | exact HB.out)))).mono ?_); rintro e w' ⟨rfl, ⟨nd, rfl⟩⟩) | (go_at_call 18; (with_reducible refine (civil_Valid.calls t188 t189 t190 t200 _ A34.out (by first | exact hT | (repeat (first | exact hT | apply LenTab.drewN)) | (refine LenTab.below hT ?_; repeat (first | (with_reducible first | exact HB.out | apply below_alloc | apply pw_below_drewN | apply below_drew1) | exact HB.out)))).mono ?_); rintro e w' ⟨rfl, ⟨nd, rfl⟩⟩))
            go_ret
            exact ⟨by first | rfl | (simp; done) | (simp [*]; done), by repeat (first | exact Drawn0.refl _ | apply Drawn0.step)⟩
          · replace c33 := Bool.eq_false_iff.mpr c33
            subst c33
            have H1 : (some false) = some r := by rw [if_neg (show ¬ (false = true) by decide)] at H; exact H
            clear H
            have H := H1
            clear H1
            obtain rfl := Option.some.inj H
            go_enter Tryd.func7, Tryd.ntmps7
            go_wp2_with (first | ((with_reducible refine gate_callee (f := 9) rfl ?_); refine goesL_ (some 15) rfl rfl Tryd.func9 (by kernel_rfl) rfl #[] rfl (by (try simp only [List.map_toArray, List.map_cons, List.map_nil]); first | done | rfl | (simp only [List.length_drop, List.length_take]; rfl)) ?_; (with_reducible refine (lustrumlaw02_awake.calls k  true _ A3.out (by first | exact hT | (repeat (first | exact hT | apply LenTab.drewN)) | (refine LenTab.below hT ?_; repeat (first | (with_reducible first | exact HB.out | apply below_alloc | apply pw_below_drewN | apply below_drew1) | exact HB.out)))).mono ?_); rintro e w' ⟨rfl, ⟨nd, rfl⟩⟩; refine ⟨_, rfl, ?_⟩) | ((with_reducible refine gate_callee (f := 12) rfl ?_); refine goesL_ (some 24) rfl rfl Tryd.func12 (by kernel_rfl) rfl #[.int .i64 (Int.tmod (Go.bits .and .i64 a0 1073741823) 3652425)] rfl (by (try simp only [List.map_toArray, List.map_cons, List.map_nil]); first | done | rfl | (simp only [List.length_drop, List.length_take]; rfl)) ?_; (with_reducible refine (civil_Date.calls k (Int.tmod (Go.bits .and .i64 a0 1073741823) 3652425) t185 t186 t187 _ A4.out).mono ?_); rintro e w' ⟨rfl, ⟨nd, rfl⟩⟩; refine ⟨_, rfl, ?_⟩) | ((with_reducible refine gate_callee (f := 12) rfl ?_); refine goesL_ (some 30) rfl rfl Tryd.func12 (by kernel_rfl) rfl #[.int .i64 (Int.tmod (Go.bits .and .i64 a1 1073741823) 3652425)] rfl (by (try simp only [List.map_toArray, List.map_cons, List.map_nil]); first | done | rfl | (simp only [List.length_drop, List.length_take]; rfl)) ?_; (with_reducible refine (civil_Date.calls k (Int.tmod (Go.bits .and .i64 a1 1073741823) 3652425) t188 t189 t190 _ A5.out).mono ?_); rintro e w' ⟨rfl, ⟨nd, rfl⟩⟩; refine ⟨_, rfl, ?_⟩) | (go_at_call 18; (with_reducible refine (civil_Valid.calls t185 t186 t187 false _ A32.out (by first | exact hT | (repeat (first | exact hT | apply LenTab.drewN)) | (refine LenTab.below hT ?_; repeat (first | (with_reducible first | exact HB.out | apply below_alloc | apply pw_below_drewN | apply below_drew1) | exact HB.out)))).mono ?_); rintro e w' ⟨rfl, ⟨nd, rfl⟩⟩))
            go_ret
            exact ⟨by first | rfl | (simp; done) | (simp [*]; done), by repeat (first | exact Drawn0.refl _ | apply Drawn0.step)⟩
        · rw [if_neg c31] at H
          have c31b0 : (false == (decide ((Int.tmod (Go.bits .and .i64 a0 1073741823) 3652425) < (Int.tmod (Go.bits .and .i64 a1 1073741823) 3652425)))) = false := by simpa using c31
          (try (have c31b1 : decide (false = (decide ((Int.tmod (Go.bits .and .i64 a0 1073741823) 3652425) < (Int.tmod (Go.bits .and .i64 a1 1073741823) 3652425)))) = false := by simpa using c31))
          (try (have c31b2 : (false == (decide ((Int.tmod (Go.bits .and .i64 a0 1073741823) 3652425) < (Int.tmod (Go.bits .and .i64 a1 1073741823) 3652425)))) = false := by simpa using c31))
          (try (have c31b3 : ¬ (false = (decide ((Int.tmod (Go.bits .and .i64 a0 1073741823) 3652425) < (Int.tmod (Go.bits .and .i64 a1 1073741823) 3652425)))) := by simpa using c31))
          clear c31
          obtain rfl := Option.some.inj H
          go_enter Tryd.func7, Tryd.ntmps7
          go_wp2_with (first | ((with_reducible refine gate_callee (f := 9) rfl ?_); refine goesL_ (some 15) rfl rfl Tryd.func9 (by kernel_rfl) rfl #[] rfl (by (try simp only [List.map_toArray, List.map_cons, List.map_nil]); first | done | rfl | (simp only [List.length_drop, List.length_take]; rfl)) ?_; (with_reducible refine (lustrumlaw02_awake.calls k  true _ A3.out (by first | exact hT | (repeat (first | exact hT | apply LenTab.drewN)) | (refine LenTab.below hT ?_; repeat (first | (with_reducible first | exact HB.out | apply below_alloc | apply pw_below_drewN | apply below_drew1) | exact HB.out)))).mono ?_); rintro e w' ⟨rfl, ⟨nd, rfl⟩⟩; refine ⟨_, rfl, ?_⟩) | ((with_reducible refine gate_callee (f := 12) rfl ?_); refine goesL_ (some 24) rfl rfl Tryd.func12 (by kernel_rfl) rfl #[.int .i64 (Int.tmod (Go.bits .and .i64 a0 1073741823) 3652425)] rfl (by (try simp only [List.map_toArray, List.map_cons, List.map_nil]); first | done | rfl | (simp only [List.length_drop, List.length_take]; rfl)) ?_; (with_reducible refine (civil_Date.calls k (Int.tmod (Go.bits .and .i64 a0 1073741823) 3652425) t185 t186 t187 _ A4.out).mono ?_); rintro e w' ⟨rfl, ⟨nd, rfl⟩⟩; refine ⟨_, rfl, ?_⟩) | ((with_reducible refine gate_callee (f := 12) rfl ?_); refine goesL_ (some 30) rfl rfl Tryd.func12 (by kernel_rfl) rfl #[.int .i64 (Int.tmod (Go.bits .and .i64 a1 1073741823) 3652425)] rfl (by (try simp only [List.map_toArray, List.map_cons, List.map_nil]); first | done | rfl | (simp only [List.length_drop, List.length_take]; rfl)) ?_; (with_reducible refine (civil_Date.calls k (Int.tmod (Go.bits .and .i64 a1 1073741823) 3652425) t188 t189 t190 _ A5.out).mono ?_); rintro e w' ⟨rfl, ⟨nd, rfl⟩⟩; refine ⟨_, rfl, ?_⟩))
          go_ret
          exact ⟨by first | rfl | (simp; done) | (simp [*]; done), by repeat (first | exact Drawn0.refl _ | apply Drawn0.step)⟩
      · replace c30 := Bool.eq_false_iff.mpr c30
        subst c30
        have H1 : (some false) = some r := by rw [if_neg (show ¬ (false = true) by decide)] at H; exact H
        clear H
        have H := H1
        clear H1
        obtain rfl := Option.some.inj H
        go_enter Tryd.func7, Tryd.ntmps7
        go_wp2_with (first | ((with_reducible refine gate_callee (f := 9) rfl ?_); refine goesL_ (some 15) rfl rfl Tryd.func9 (by kernel_rfl) rfl #[] rfl (by (try simp only [List.map_toArray, List.map_cons, List.map_nil]); first | done | rfl | (simp only [List.length_drop, List.length_take]; rfl)) ?_; (with_reducible refine (lustrumlaw02_awake.calls k  false _ A3.out (by first | exact hT | (repeat (first | exact hT | apply LenTab.drewN)) | (refine LenTab.below hT ?_; repeat (first | (with_reducible first | exact HB.out | apply below_alloc | apply pw_below_drewN | apply below_drew1) | exact HB.out)))).mono ?_); rintro e w' ⟨rfl, ⟨nd, rfl⟩⟩; refine ⟨_, rfl, ?_⟩) | ((with_reducible refine gate_callee (f := 12) rfl ?_); refine goesL_ (some 24) rfl rfl Tryd.func12 (by kernel_rfl) rfl #[.int .i64 (Int.tmod (Go.bits .and .i64 a0 1073741823) 3652425)] rfl (by (try simp only [List.map_toArray, List.map_cons, List.map_nil]); first | done | rfl | (simp only [List.length_drop, List.length_take]; rfl)) ?_; (with_reducible refine (civil_Date.calls k (Int.tmod (Go.bits .and .i64 a0 1073741823) 3652425) t185 t186 t187 _ A4.out).mono ?_); rintro e w' ⟨rfl, ⟨nd, rfl⟩⟩; refine ⟨_, rfl, ?_⟩) | ((with_reducible refine gate_callee (f := 12) rfl ?_); refine goesL_ (some 30) rfl rfl Tryd.func12 (by kernel_rfl) rfl #[.int .i64 (Int.tmod (Go.bits .and .i64 a1 1073741823) 3652425)] rfl (by (try simp only [List.map_toArray, List.map_cons, List.map_nil]); first | done | rfl | (simp only [List.length_drop, List.length_take]; rfl)) ?_; (with_reducible refine (civil_Date.calls k (Int.tmod (Go.bits .and .i64 a1 1073741823) 3652425) t188 t189 t190 _ A5.out).mono ?_); rintro e w' ⟨rfl, ⟨nd, rfl⟩⟩; refine ⟨_, rfl, ?_⟩))
        go_ret
        exact ⟨by first | rfl | (simp; done) | (simp [*]; done), by repeat (first | exact Drawn0.refl _ | apply Drawn0.step)⟩

/-- THE ONE PURE STATEMENT of lustrumlaw02_CivilOrder: yours. -/
def lustrumlaw02_CivilOrder.Pure : Prop := ∀ (a0 : Int) (a1 : Int), (Lit.int .i64 a0).wf = true → (Lit.int .i64 a1).wf = true → ∃ k, lustrumlaw02_CivilOrder.f k a0 a1 = some true
theorem lustrumlaw02_CivilOrder.walk (P : lustrumlaw02_CivilOrder.Pure) (a0 : Int) (a1 : Int) (w : World) (w0 : (Lit.int .i64 a0).wf = true) (w1 : (Lit.int .i64 a1).wf = true) (hT : LenTab w) :
    Calls Tryd.prog 7 #[.int .i64 a0, .int .i64 a1] w fun e w' => e = .returned (.bool true) ∧ Below w.heap.size w w' := by
  obtain ⟨k, h⟩ := P a0 a1 w0 w1
  refine (lustrumlaw02_CivilOrder.calls k a0 a1 true w h hT).mono ?_
  rintro e w' ⟨rfl, hd⟩
  exact ⟨rfl, hd.below⟩

end Go.Proofs.YtbnlndiphflmpaaDoor.PC
