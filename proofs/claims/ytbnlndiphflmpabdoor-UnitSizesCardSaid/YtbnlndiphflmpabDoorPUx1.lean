/- Written by a program of this session (wip/tool/vary.py) out of the translation, with the kit's printing program; Lean checks every line. -/
import Derived.Test.YtbnlndiphflmpabDoorPUx0
namespace Go.Proofs.YtbnlndiphflmpabDoor.PU
open Go.RowKit Go.Proofs.YtbnlndiphflmpabDoorW.PrintWords Go.Proofs.YtbnlndiphflmpabDoorW.PrintLast Go.Proofs.YtbnlndiphflmpabDoorW.PrintMore
attribute [local go_sem] max2_int min2_int max_two min_two max_three min_three max_four min_four   -- for this text's walks alone
set_option linter.unusedVariables false
set_option linter.unusedSimpArgs false

-- NOT PRINTED: function 22 (unit_of)

/-! ### ints_Mod: function 17 -/
def ints_Mod.f (a0 : Int) (a1 : Int) : Option (Int) := if a1 < 1 then (some 0) else (if a1 = 0 then (none) else (if (Int.tmod a0 a1) < 0 then (some (wrap64 ((Int.tmod a0 a1) + a1))) else (some (Int.tmod a0 a1))))
set_option maxHeartbeats 8000000 in
set_option maxRecDepth 100000 in
theorem ints_Mod.calls (a0 : Int) (a1 : Int) (r : Int) (w : World) (h : ints_Mod.f a0 a1 = some r) :
    Calls Tryd.prog 17 #[.int .i64 a0, .int .i64 a1] w fun e w' => e = .returned (.int .i64 r) ∧ Drawn0 w w' := by
  have H : (if a1 < 1 then (some 0) else (if a1 = 0 then (none) else (if (Int.tmod a0 a1) < 0 then (some (wrap64 ((Int.tmod a0 a1) + a1))) else (some (Int.tmod a0 a1))))) = some r := h
  clear h
  by_cases c3 : a1 < 1
  · rw [if_pos c3] at H
    have c3b0 : decide (a1 < 1) = true := decide_eq_true c3
    clear c3
    obtain rfl := Option.some.inj H
    go_enter Tryd.func17, Tryd.ntmps17
    go_wp2
    go_ret
    exact ⟨by first | rfl | (simp; done) | (simp [*]; done), by repeat (first | exact Drawn0.refl _ | apply Drawn0.step)⟩
  · rw [if_neg c3] at H
    have c3b0 : decide (a1 < 1) = false := decide_eq_false c3
    clear c3
    by_cases c4 : a1 = 0
    · rw [if_pos c4] at H
      exact absurd H (by simp)
    · rw [if_neg c4] at H
      have c4b0 : (a1 == 0) = false := beq_eq_false_iff_ne.mpr c4
      have c4b1 : (a1 != 0) = true := bne_iff_ne.mpr c4
      by_cases c5 : (Int.tmod a0 a1) < 0
      · rw [if_pos c5] at H
        have c5b0 : decide ((Int.tmod a0 a1) < 0) = true := decide_eq_true c5
        clear c5
        obtain rfl := Option.some.inj H
        go_enter Tryd.func17, Tryd.ntmps17
        go_wp2
        go_ret
        exact ⟨by first | rfl | (simp; done) | (simp [*]; done), by repeat (first | exact Drawn0.refl _ | apply Drawn0.step)⟩
      · rw [if_neg c5] at H
        have c5b0 : decide ((Int.tmod a0 a1) < 0) = false := decide_eq_false c5
        clear c5
        obtain rfl := Option.some.inj H
        go_enter Tryd.func17, Tryd.ntmps17
        go_wp2
        go_ret
        exact ⟨by first | rfl | (simp; done) | (simp [*]; done), by repeat (first | exact Drawn0.refl _ | apply Drawn0.step)⟩

/-! ### civil_Leap: function 14 -/
def civil_Leap.f (a0 : Int) : Option (Bool) := (ints_Mod.f a0 400).bind fun t101 => (if t101 = 0 then (some true) else ((ints_Mod.f a0 4).bind fun t102 => (if t102 = 0 then ((ints_Mod.f a0 100).bind fun t103 => (some (t103 != 0))) else (some false))))
set_option maxHeartbeats 8000000 in
set_option maxRecDepth 100000 in
theorem civil_Leap.calls (a0 : Int) (r : Bool) (w : World) (h : civil_Leap.f a0 = some r) :
    Calls Tryd.prog 14 #[.int .i64 a0] w fun e w' => e = .returned (.bool r) ∧ Drawn0 w w' := by
  have H : ((ints_Mod.f a0 400).bind fun t101 => (if t101 = 0 then (some true) else ((ints_Mod.f a0 4).bind fun t102 => (if t102 = 0 then ((ints_Mod.f a0 100).bind fun t103 => (some (t103 != 0))) else (some false))))) = some r := h
  clear h
  replace H := Option.bind_eq_some_iff.mp H
  obtain ⟨t101, A20, H⟩ := H
  replace H : (if t101 = 0 then (some true) else ((ints_Mod.f a0 4).bind fun t102 => (if t102 = 0 then ((ints_Mod.f a0 100).bind fun t103 => (some (t103 != 0))) else (some false)))) = some r := H
  have A2 := Aside0.mk A20
  clear A20
  by_cases c3 : t101 = 0
  · rw [if_pos c3] at H
    have c3b0 : (t101 == 0) = true := beq_iff_eq.mpr c3
    have c3b1 : (t101 != 0) = false := bne_eq_false_iff_eq.mpr c3
    clear c3
    obtain rfl := Option.some.inj H
    go_enter Tryd.func14, Tryd.ntmps14
    go_wp2_with (first | ((with_reducible refine gate_callee (f := 17) rfl ?_); refine goesL_ (some 4) rfl rfl Tryd.func17 (by kernel_rfl) rfl #[.int .i64 a0, .int .i64 400] rfl (by (try simp only [List.map_toArray, List.map_cons, List.map_nil]); first | done | rfl | (simp only [List.length_drop, List.length_take]; rfl)) ?_; (with_reducible refine (ints_Mod.calls a0 400 t101 _ A2.out).mono ?_); rintro e w' ⟨rfl, ⟨nd, rfl⟩⟩; refine ⟨_, rfl, ?_⟩))
    go_ret
    exact ⟨by first | rfl | (simp; done) | (simp [*]; done), by repeat (first | exact Drawn0.refl _ | apply Drawn0.step)⟩
  · rw [if_neg c3] at H
    have c3b0 : (t101 == 0) = false := beq_eq_false_iff_ne.mpr c3
    have c3b1 : (t101 != 0) = true := bne_iff_ne.mpr c3
    replace H := Option.bind_eq_some_iff.mp H
    obtain ⟨t102, A40, H⟩ := H
    replace H : (if t102 = 0 then ((ints_Mod.f a0 100).bind fun t103 => (some (t103 != 0))) else (some false)) = some r := H
    have A4 := Aside0.mk A40
    clear A40
    by_cases c5 : t102 = 0
    · rw [if_pos c5] at H
      have c5b0 : (t102 == 0) = true := beq_iff_eq.mpr c5
      have c5b1 : (t102 != 0) = false := bne_eq_false_iff_eq.mpr c5
      clear c5
      replace H := Option.bind_eq_some_iff.mp H
      obtain ⟨t103, A60, H⟩ := H
      replace H : (some (t103 != 0)) = some r := H
      have A6 := Aside0.mk A60
      clear A60
      obtain rfl := Option.some.inj H
      go_enter Tryd.func14, Tryd.ntmps14
      go_wp2_with (first | ((with_reducible refine gate_callee (f := 17) rfl ?_); refine goesL_ (some 4) rfl rfl Tryd.func17 (by kernel_rfl) rfl #[.int .i64 a0, .int .i64 400] rfl (by (try simp only [List.map_toArray, List.map_cons, List.map_nil]); first | done | rfl | (simp only [List.length_drop, List.length_take]; rfl)) ?_; (with_reducible refine (ints_Mod.calls a0 400 t101 _ A2.out).mono ?_); rintro e w' ⟨rfl, ⟨nd, rfl⟩⟩; refine ⟨_, rfl, ?_⟩) | (go_at_call 17; (with_reducible refine (ints_Mod.calls a0 4 t102 _ A4.out).mono ?_); rintro e w' ⟨rfl, ⟨nd, rfl⟩⟩) | (go_at_call 17; (with_reducible refine (ints_Mod.calls a0 100 t103 _ A6.out).mono ?_); rintro e w' ⟨rfl, ⟨nd, rfl⟩⟩))
      go_ret
      exact ⟨by first | rfl | (simp; done) | (simp [*]; done), by repeat (first | exact Drawn0.refl _ | apply Drawn0.step)⟩
    · rw [if_neg c5] at H
      have c5b0 : (t102 == 0) = false := beq_eq_false_iff_ne.mpr c5
      have c5b1 : (t102 != 0) = true := bne_iff_ne.mpr c5
      obtain rfl := Option.some.inj H
      go_enter Tryd.func14, Tryd.ntmps14
      go_wp2_with (first | ((with_reducible refine gate_callee (f := 17) rfl ?_); refine goesL_ (some 4) rfl rfl Tryd.func17 (by kernel_rfl) rfl #[.int .i64 a0, .int .i64 400] rfl (by (try simp only [List.map_toArray, List.map_cons, List.map_nil]); first | done | rfl | (simp only [List.length_drop, List.length_take]; rfl)) ?_; (with_reducible refine (ints_Mod.calls a0 400 t101 _ A2.out).mono ?_); rintro e w' ⟨rfl, ⟨nd, rfl⟩⟩; refine ⟨_, rfl, ?_⟩) | (go_at_call 17; (with_reducible refine (ints_Mod.calls a0 4 t102 _ A4.out).mono ?_); rintro e w' ⟨rfl, ⟨nd, rfl⟩⟩))
      go_ret
      exact ⟨by first | rfl | (simp; done) | (simp [*]; done), by repeat (first | exact Drawn0.refl _ | apply Drawn0.step)⟩

/-! ### civil_Days: function 13 -/
def civil_Days.f (a0 : Int) (a1 : Int) : Option (Int) := if a1 < 1 then some 0 else if a1 > 12 then some 0 else if a1 = 2 then ((civil_Leap.f a0).bind fun t => if t = true then some 29 else some 28) else some (lensOf a1.toNat)
theorem civil_Days.calls (a0 : Int) (a1 : Int) (r : Int) (w : World) (h : civil_Days.f a0 a1 = some r) (hT : LenTab w) :
    Calls Tryd.prog 13 #[.int .i64 a0, .int .i64 a1] w fun e w' => e = .returned (.int .i64 r) ∧ Drawn0 w w' := by
  unfold civil_Days.f at h
  by_cases h1 : a1 < 1
  · rw [if_pos h1] at h
    obtain rfl := Option.some.inj h
    clear h
    go_enter Tryd.func13, Tryd.ntmps13
    go_wp2
    go_ret
    exact ⟨rfl, Drawn0.refl _⟩
  rw [if_neg h1] at h
  by_cases h2 : a1 > 12
  · rw [if_pos h2] at h
    obtain rfl := Option.some.inj h
    clear h
    go_enter Tryd.func13, Tryd.ntmps13
    go_wp2
    go_ret
    exact ⟨rfl, Drawn0.refl _⟩
  rw [if_neg h2] at h
  by_cases h3 : a1 = 2
  · rw [if_pos h3] at h
    subst h3
    obtain ⟨t, ht, h⟩ := Option.bind_eq_some_iff.mp h
    have HL := Aside0.mk ht
    have c := hT.cell 2 (by decide)
    have e2 : lensOf 2 = 28 := rfl
    rw [e2] at c
    clear ht h1 h2
    cases t with
    | true =>
      simp only [if_true] at h
      obtain rfl := Option.some.inj h
      go_enter Tryd.func13, Tryd.ntmps13
      go_wp2_with (go_at_call 14; refine (civil_Leap.calls _ _ _ HL.out).mono ?_; rintro e w1 ⟨rfl, ⟨m1, rfl⟩⟩)
      go_ret
      exact ⟨rfl, ⟨_, rfl⟩⟩
    | false =>
      simp only [Bool.false_eq_true, if_false] at h
      obtain rfl := Option.some.inj h
      go_enter Tryd.func13, Tryd.ntmps13
      go_wp2_with (go_at_call 14; refine (civil_Leap.calls _ _ _ HL.out).mono ?_; rintro e w1 ⟨rfl, ⟨m1, rfl⟩⟩)
      go_ret
      exact ⟨rfl, ⟨_, rfl⟩⟩
  · rw [if_neg h3] at h
    obtain rfl := Option.some.inj h
    obtain ⟨m, rfl⟩ : ∃ m : Nat, a1 = m := ⟨a1.toNat, by omega⟩
    have c := hT.cell m (by omega)
    have b1 : 1 ≤ m := by omega
    have b2 : m < 13 := by omega
    have b3 : ((m : Int) == 2) = false := by simpa using h3
    clear h h1 h2 h3
    rw [Int.toNat_natCast]
    go_enter Tryd.func13, Tryd.ntmps13
    go_wp2
    go_ret
    exact ⟨rfl, Drawn0.refl _⟩

/-! ### civil_Valid: function 29 -/
def civil_Valid.f (a0 : Int) (a1 : Int) (a2 : Int) : Option (Bool) := if a0 ≥ 0 then (if a0 ≤ 9999 then (if a2 ≥ 1 then ((civil_Days.f a0 a1).bind fun t104 => (some (decide (a2 ≤ t104)))) else (some false)) else (some false)) else (some false)
set_option maxHeartbeats 8000000 in
set_option maxRecDepth 100000 in
theorem civil_Valid.calls (a0 : Int) (a1 : Int) (a2 : Int) (r : Bool) (w : World) (h : civil_Valid.f a0 a1 a2 = some r) (hT : LenTab w) :
    Calls Tryd.prog 29 #[.int .i64 a0, .int .i64 a1, .int .i64 a2] w fun e w' => e = .returned (.bool r) ∧ Drawn0 w w' := by
  have H : (if a0 ≥ 0 then (if a0 ≤ 9999 then (if a2 ≥ 1 then ((civil_Days.f a0 a1).bind fun t104 => (some (decide (a2 ≤ t104)))) else (some false)) else (some false)) else (some false)) = some r := h
  clear h
  by_cases c4 : a0 ≥ 0
  · rw [if_pos c4] at H
    have c4b0 : decide (0 ≤ a0) = true := decide_eq_true c4
    clear c4
    by_cases c5 : a0 ≤ 9999
    · rw [if_pos c5] at H
      have c5b0 : decide (a0 ≤ 9999) = true := decide_eq_true c5
      clear c5
      by_cases c6 : a2 ≥ 1
      · rw [if_pos c6] at H
        have c6b0 : decide (1 ≤ a2) = true := decide_eq_true c6
        clear c6
        replace H := Option.bind_eq_some_iff.mp H
        obtain ⟨t104, A70, H⟩ := H
        replace H : (some (decide (a2 ≤ t104))) = some r := H
        have A7 := Aside0.mk A70
        clear A70
        obtain rfl := Option.some.inj H
        go_enter Tryd.func29, Tryd.ntmps29
        go_wp2_with (first | (go_at_call 13; (with_reducible refine (civil_Days.calls a0 a1 t104 _ A7.out (by first | exact hT | ((repeat (first | exact hT | apply LenTab.drewN)); done) | (refine LenTab.below hT ?_; repeat (first | (with_reducible first | exact HB.out | apply below_alloc | apply pw_below_drewN | apply below_drew1) | exact HB.out)))).mono ?_); rintro e w' ⟨rfl, ⟨nd, rfl⟩⟩))
        go_ret
        exact ⟨by first | rfl | (simp; done) | (simp [*]; done), by repeat (first | exact Drawn0.refl _ | apply Drawn0.step)⟩
      · rw [if_neg c6] at H
        have c6b0 : decide (1 ≤ a2) = false := decide_eq_false c6
        clear c6
        obtain rfl := Option.some.inj H
        go_enter Tryd.func29, Tryd.ntmps29
        go_wp2
        go_ret
        exact ⟨by first | rfl | (simp; done) | (simp [*]; done), by repeat (first | exact Drawn0.refl _ | apply Drawn0.step)⟩
    · rw [if_neg c5] at H
      have c5b0 : decide (a0 ≤ 9999) = false := decide_eq_false c5
      clear c5
      obtain rfl := Option.some.inj H
      go_enter Tryd.func29, Tryd.ntmps29
      go_wp2
      go_ret
      exact ⟨by first | rfl | (simp; done) | (simp [*]; done), by repeat (first | exact Drawn0.refl _ | apply Drawn0.step)⟩
  · rw [if_neg c4] at H
    have c4b0 : decide (0 ≤ a0) = false := decide_eq_false c4
    clear c4
    obtain rfl := Option.some.inj H
    go_enter Tryd.func29, Tryd.ntmps29
    go_wp2
    go_ret
    exact ⟨by first | rfl | (simp; done) | (simp [*]; done), by repeat (first | exact Drawn0.refl _ | apply Drawn0.step)⟩

/-! ### ints_Floor: function 30 -/
def ints_Floor.f (a0 : Int) (a1 : Int) : Option (Int) := if a1 < 1 then (some 0) else (if a0 < 0 then (if a1 = 0 then (none) else (some (wrap64 ((wrap64 (Int.tdiv (wrap64 (a0 + 1)) a1)) - 1)))) else (if a1 = 0 then (none) else (some (wrap64 (Int.tdiv a0 a1)))))
set_option maxHeartbeats 8000000 in
set_option maxRecDepth 100000 in
theorem ints_Floor.calls (a0 : Int) (a1 : Int) (r : Int) (w : World) (h : ints_Floor.f a0 a1 = some r) :
    Calls Tryd.prog 30 #[.int .i64 a0, .int .i64 a1] w fun e w' => e = .returned (.int .i64 r) ∧ Drawn0 w w' := by
  have H : (if a1 < 1 then (some 0) else (if a0 < 0 then (if a1 = 0 then (none) else (some (wrap64 ((wrap64 (Int.tdiv (wrap64 (a0 + 1)) a1)) - 1)))) else (if a1 = 0 then (none) else (some (wrap64 (Int.tdiv a0 a1)))))) = some r := h
  clear h
  by_cases c3 : a1 < 1
  · rw [if_pos c3] at H
    have c3b0 : decide (a1 < 1) = true := decide_eq_true c3
    clear c3
    obtain rfl := Option.some.inj H
    go_enter Tryd.func30, Tryd.ntmps30
    go_wp2
    go_ret
    exact ⟨by first | rfl | (simp; done) | (simp [*]; done), by repeat (first | exact Drawn0.refl _ | apply Drawn0.step)⟩
  · rw [if_neg c3] at H
    have c3b0 : decide (a1 < 1) = false := decide_eq_false c3
    clear c3
    by_cases c4 : a0 < 0
    · rw [if_pos c4] at H
      have c4b0 : decide (a0 < 0) = true := decide_eq_true c4
      clear c4
      by_cases c5 : a1 = 0
      · rw [if_pos c5] at H
        exact absurd H (by simp)
      · rw [if_neg c5] at H
        have c5b0 : (a1 == 0) = false := beq_eq_false_iff_ne.mpr c5
        have c5b1 : (a1 != 0) = true := bne_iff_ne.mpr c5
        obtain rfl := Option.some.inj H
        go_enter Tryd.func30, Tryd.ntmps30
        go_wp2
        go_ret
        exact ⟨by first | rfl | (simp; done) | (simp [*]; done), by repeat (first | exact Drawn0.refl _ | apply Drawn0.step)⟩
    · rw [if_neg c4] at H
      have c4b0 : decide (a0 < 0) = false := decide_eq_false c4
      clear c4
      by_cases c6 : a1 = 0
      · rw [if_pos c6] at H
        exact absurd H (by simp)
      · rw [if_neg c6] at H
        have c6b0 : (a1 == 0) = false := beq_eq_false_iff_ne.mpr c6
        have c6b1 : (a1 != 0) = true := bne_iff_ne.mpr c6
        obtain rfl := Option.some.inj H
        go_enter Tryd.func30, Tryd.ntmps30
        go_wp2
        go_ret
        exact ⟨by first | rfl | (simp; done) | (simp [*]; done), by repeat (first | exact Drawn0.refl _ | apply Drawn0.step)⟩

/-! ### civil_Number: function 27 -/
def civil_Number.f (a0 : Int) (a1 : Int) (a2 : Int) : Option (Int × Bool) := (civil_Valid.f a0 a1 a2).bind fun t105 => (if t105 = true then (if a1 < 3 then ((ints_Floor.f (wrap64 (a0 - 1)) 400).bind fun t106 => ((ints_Mod.f (wrap64 (a0 - 1)) 400).bind fun t107 => (some (wrap64 ((wrap64 ((wrap64 ((wrap64 ((wrap64 ((wrap64 (t106 * 146097)) + (wrap64 (t107 * 365)))) + (wrap64 (Int.tdiv t107 4)))) - (wrap64 (Int.tdiv t107 100)))) + (wrap64 ((wrap64 ((wrap64 (Int.tdiv (wrap64 ((wrap64 (153 * (wrap64 ((wrap64 (a1 + 12)) - 3)))) + 2)) 5)) + a2)) - 1)))) + 60), true)))) else ((ints_Floor.f a0 400).bind fun t108 => ((ints_Mod.f a0 400).bind fun t109 => (some (wrap64 ((wrap64 ((wrap64 ((wrap64 ((wrap64 ((wrap64 (t108 * 146097)) + (wrap64 (t109 * 365)))) + (wrap64 (Int.tdiv t109 4)))) - (wrap64 (Int.tdiv t109 100)))) + (wrap64 ((wrap64 ((wrap64 (Int.tdiv (wrap64 ((wrap64 (153 * (wrap64 (a1 - 3)))) + 2)) 5)) + a2)) - 1)))) + 60), true))))) else (some (0, false)))
set_option maxHeartbeats 8000000 in
set_option maxRecDepth 100000 in
theorem civil_Number.calls (a0 : Int) (a1 : Int) (a2 : Int) (r1 : Int) (r2 : Bool) (w : World) (h : civil_Number.f a0 a1 a2 = some (r1, r2)) (hT : LenTab w) :
    Calls Tryd.prog 27 #[.int .i64 a0, .int .i64 a1, .int .i64 a2] w fun e w' => e = .returned (.tuple #[.int .i64 r1, .bool r2]) ∧ Drawn0 w w' := by
  have H : ((civil_Valid.f a0 a1 a2).bind fun t105 => (if t105 = true then (if a1 < 3 then ((ints_Floor.f (wrap64 (a0 - 1)) 400).bind fun t106 => ((ints_Mod.f (wrap64 (a0 - 1)) 400).bind fun t107 => (some (wrap64 ((wrap64 ((wrap64 ((wrap64 ((wrap64 ((wrap64 (t106 * 146097)) + (wrap64 (t107 * 365)))) + (wrap64 (Int.tdiv t107 4)))) - (wrap64 (Int.tdiv t107 100)))) + (wrap64 ((wrap64 ((wrap64 (Int.tdiv (wrap64 ((wrap64 (153 * (wrap64 ((wrap64 (a1 + 12)) - 3)))) + 2)) 5)) + a2)) - 1)))) + 60), true)))) else ((ints_Floor.f a0 400).bind fun t108 => ((ints_Mod.f a0 400).bind fun t109 => (some (wrap64 ((wrap64 ((wrap64 ((wrap64 ((wrap64 ((wrap64 (t108 * 146097)) + (wrap64 (t109 * 365)))) + (wrap64 (Int.tdiv t109 4)))) - (wrap64 (Int.tdiv t109 100)))) + (wrap64 ((wrap64 ((wrap64 (Int.tdiv (wrap64 ((wrap64 (153 * (wrap64 (a1 - 3)))) + 2)) 5)) + a2)) - 1)))) + 60), true))))) else (some (0, false)))) = some (r1, r2) := h
  clear h
  replace H := Option.bind_eq_some_iff.mp H
  obtain ⟨t105, A40, H⟩ := H
  replace H : (if t105 = true then (if a1 < 3 then ((ints_Floor.f (wrap64 (a0 - 1)) 400).bind fun t106 => ((ints_Mod.f (wrap64 (a0 - 1)) 400).bind fun t107 => (some (wrap64 ((wrap64 ((wrap64 ((wrap64 ((wrap64 ((wrap64 (t106 * 146097)) + (wrap64 (t107 * 365)))) + (wrap64 (Int.tdiv t107 4)))) - (wrap64 (Int.tdiv t107 100)))) + (wrap64 ((wrap64 ((wrap64 (Int.tdiv (wrap64 ((wrap64 (153 * (wrap64 ((wrap64 (a1 + 12)) - 3)))) + 2)) 5)) + a2)) - 1)))) + 60), true)))) else ((ints_Floor.f a0 400).bind fun t108 => ((ints_Mod.f a0 400).bind fun t109 => (some (wrap64 ((wrap64 ((wrap64 ((wrap64 ((wrap64 ((wrap64 (t108 * 146097)) + (wrap64 (t109 * 365)))) + (wrap64 (Int.tdiv t109 4)))) - (wrap64 (Int.tdiv t109 100)))) + (wrap64 ((wrap64 ((wrap64 (Int.tdiv (wrap64 ((wrap64 (153 * (wrap64 (a1 - 3)))) + 2)) 5)) + a2)) - 1)))) + 60), true))))) else (some (0, false))) = some (r1, r2) := H
  have A4 := Aside0.mk A40
  clear A40
  by_cases c5 : t105 = true
  · subst c5
    have H1 : (if a1 < 3 then ((ints_Floor.f (wrap64 (a0 - 1)) 400).bind fun t106 => ((ints_Mod.f (wrap64 (a0 - 1)) 400).bind fun t107 => (some (wrap64 ((wrap64 ((wrap64 ((wrap64 ((wrap64 ((wrap64 (t106 * 146097)) + (wrap64 (t107 * 365)))) + (wrap64 (Int.tdiv t107 4)))) - (wrap64 (Int.tdiv t107 100)))) + (wrap64 ((wrap64 ((wrap64 (Int.tdiv (wrap64 ((wrap64 (153 * (wrap64 ((wrap64 (a1 + 12)) - 3)))) + 2)) 5)) + a2)) - 1)))) + 60), true)))) else ((ints_Floor.f a0 400).bind fun t108 => ((ints_Mod.f a0 400).bind fun t109 => (some (wrap64 ((wrap64 ((wrap64 ((wrap64 ((wrap64 ((wrap64 (t108 * 146097)) + (wrap64 (t109 * 365)))) + (wrap64 (Int.tdiv t109 4)))) - (wrap64 (Int.tdiv t109 100)))) + (wrap64 ((wrap64 ((wrap64 (Int.tdiv (wrap64 ((wrap64 (153 * (wrap64 (a1 - 3)))) + 2)) 5)) + a2)) - 1)))) + 60), true))))) = some (r1, r2) := by rw [if_pos rfl] at H; exact H
    clear H
    have H := H1
    clear H1
    by_cases c6 : a1 < 3
    · rw [if_pos c6] at H
      have c6b0 : decide (a1 < 3) = true := decide_eq_true c6
      clear c6
      replace H := Option.bind_eq_some_iff.mp H
      obtain ⟨t106, A70, H⟩ := H
      replace H : ((ints_Mod.f (wrap64 (a0 - 1)) 400).bind fun t107 => (some (wrap64 ((wrap64 ((wrap64 ((wrap64 ((wrap64 ((wrap64 (t106 * 146097)) + (wrap64 (t107 * 365)))) + (wrap64 (Int.tdiv t107 4)))) - (wrap64 (Int.tdiv t107 100)))) + (wrap64 ((wrap64 ((wrap64 (Int.tdiv (wrap64 ((wrap64 (153 * (wrap64 ((wrap64 (a1 + 12)) - 3)))) + 2)) 5)) + a2)) - 1)))) + 60), true))) = some (r1, r2) := H
      have A7 := Aside0.mk A70
      clear A70
      replace H := Option.bind_eq_some_iff.mp H
      obtain ⟨t107, A80, H⟩ := H
      replace H : (some (wrap64 ((wrap64 ((wrap64 ((wrap64 ((wrap64 ((wrap64 (t106 * 146097)) + (wrap64 (t107 * 365)))) + (wrap64 (Int.tdiv t107 4)))) - (wrap64 (Int.tdiv t107 100)))) + (wrap64 ((wrap64 ((wrap64 (Int.tdiv (wrap64 ((wrap64 (153 * (wrap64 ((wrap64 (a1 + 12)) - 3)))) + 2)) 5)) + a2)) - 1)))) + 60), true)) = some (r1, r2) := H
      have A8 := Aside0.mk A80
      clear A80
      simp only [Option.some.injEq, Prod.mk.injEq] at H
      obtain ⟨rfl, rfl⟩ := H
      go_enter Tryd.func27, Tryd.ntmps27
      go_wp2_with (first | ((with_reducible refine gate_callee (f := 29) rfl ?_); refine goesL_ (some 14) rfl rfl Tryd.func29 (by kernel_rfl) rfl #[.int .i64 a0, .int .i64 a1, .int .i64 a2] rfl (by (try simp only [List.map_toArray, List.map_cons, List.map_nil]); first | done | rfl | (simp only [List.length_drop, List.length_take]; rfl)) ?_; (with_reducible refine (civil_Valid.calls a0 a1 a2 true _ A4.out (by first | exact hT | ((repeat (first | exact hT | apply LenTab.drewN)); done) | (refine LenTab.below hT ?_; repeat (first | (with_reducible first | exact HB.out | apply below_alloc | apply pw_below_drewN | apply below_drew1) | exact HB.out)))).mono ?_); rintro e w' ⟨rfl, ⟨nd, rfl⟩⟩; refine ⟨_, rfl, ?_⟩) | ((with_reducible refine gate_callee (f := 30) rfl ?_); refine goesL_ (some 23) rfl rfl Tryd.func30 (by kernel_rfl) rfl #[.int .i64 (wrap64 (a0 - 1)), .int .i64 400] rfl (by (try simp only [List.map_toArray, List.map_cons, List.map_nil]); first | done | rfl | (simp only [List.length_drop, List.length_take]; rfl)) ?_; (with_reducible refine (ints_Floor.calls (wrap64 (a0 - 1)) 400 t106 _ A7.out).mono ?_); rintro e w' ⟨rfl, ⟨nd, rfl⟩⟩; refine ⟨_, rfl, ?_⟩) | ((with_reducible refine gate_callee (f := 17) rfl ?_); refine goesL_ (some 25) rfl rfl Tryd.func17 (by kernel_rfl) rfl #[.int .i64 (wrap64 (a0 - 1)), .int .i64 400] rfl (by (try simp only [List.map_toArray, List.map_cons, List.map_nil]); first | done | rfl | (simp only [List.length_drop, List.length_take]; rfl)) ?_; (with_reducible refine (ints_Mod.calls (wrap64 (a0 - 1)) 400 t107 _ A8.out).mono ?_); rintro e w' ⟨rfl, ⟨nd, rfl⟩⟩; refine ⟨_, rfl, ?_⟩))
      go_ret2
      exact ⟨by first | rfl | (simp; done) | (simp [*]; done), by repeat (first | exact Drawn0.refl _ | apply Drawn0.step)⟩
    · rw [if_neg c6] at H
      have c6b0 : decide (a1 < 3) = false := decide_eq_false c6
      clear c6
      replace H := Option.bind_eq_some_iff.mp H
      obtain ⟨t108, A90, H⟩ := H
      replace H : ((ints_Mod.f a0 400).bind fun t109 => (some (wrap64 ((wrap64 ((wrap64 ((wrap64 ((wrap64 ((wrap64 (t108 * 146097)) + (wrap64 (t109 * 365)))) + (wrap64 (Int.tdiv t109 4)))) - (wrap64 (Int.tdiv t109 100)))) + (wrap64 ((wrap64 ((wrap64 (Int.tdiv (wrap64 ((wrap64 (153 * (wrap64 (a1 - 3)))) + 2)) 5)) + a2)) - 1)))) + 60), true))) = some (r1, r2) := H
      have A9 := Aside0.mk A90
      clear A90
      replace H := Option.bind_eq_some_iff.mp H
      obtain ⟨t109, A100, H⟩ := H
      replace H : (some (wrap64 ((wrap64 ((wrap64 ((wrap64 ((wrap64 ((wrap64 (t108 * 146097)) + (wrap64 (t109 * 365)))) + (wrap64 (Int.tdiv t109 4)))) - (wrap64 (Int.tdiv t109 100)))) + (wrap64 ((wrap64 ((wrap64 (Int.tdiv (wrap64 ((wrap64 (153 * (wrap64 (a1 - 3)))) + 2)) 5)) + a2)) - 1)))) + 60), true)) = some (r1, r2) := H
      have A10 := Aside0.mk A100
      clear A100
      simp only [Option.some.injEq, Prod.mk.injEq] at H
      obtain ⟨rfl, rfl⟩ := H
      go_enter Tryd.func27, Tryd.ntmps27
      go_wp2_with (first | ((with_reducible refine gate_callee (f := 29) rfl ?_); refine goesL_ (some 14) rfl rfl Tryd.func29 (by kernel_rfl) rfl #[.int .i64 a0, .int .i64 a1, .int .i64 a2] rfl (by (try simp only [List.map_toArray, List.map_cons, List.map_nil]); first | done | rfl | (simp only [List.length_drop, List.length_take]; rfl)) ?_; (with_reducible refine (civil_Valid.calls a0 a1 a2 true _ A4.out (by first | exact hT | ((repeat (first | exact hT | apply LenTab.drewN)); done) | (refine LenTab.below hT ?_; repeat (first | (with_reducible first | exact HB.out | apply below_alloc | apply pw_below_drewN | apply below_drew1) | exact HB.out)))).mono ?_); rintro e w' ⟨rfl, ⟨nd, rfl⟩⟩; refine ⟨_, rfl, ?_⟩) | ((with_reducible refine gate_callee (f := 30) rfl ?_); refine goesL_ (some 23) rfl rfl Tryd.func30 (by kernel_rfl) rfl #[.int .i64 a0, .int .i64 400] rfl (by (try simp only [List.map_toArray, List.map_cons, List.map_nil]); first | done | rfl | (simp only [List.length_drop, List.length_take]; rfl)) ?_; (with_reducible refine (ints_Floor.calls a0 400 t108 _ A9.out).mono ?_); rintro e w' ⟨rfl, ⟨nd, rfl⟩⟩; refine ⟨_, rfl, ?_⟩) | ((with_reducible refine gate_callee (f := 17) rfl ?_); refine goesL_ (some 25) rfl rfl Tryd.func17 (by kernel_rfl) rfl #[.int .i64 a0, .int .i64 400] rfl (by (try simp only [List.map_toArray, List.map_cons, List.map_nil]); first | done | rfl | (simp only [List.length_drop, List.length_take]; rfl)) ?_; (with_reducible refine (ints_Mod.calls a0 400 t109 _ A10.out).mono ?_); rintro e w' ⟨rfl, ⟨nd, rfl⟩⟩; refine ⟨_, rfl, ?_⟩))
      go_ret2
      exact ⟨by first | rfl | (simp; done) | (simp [*]; done), by repeat (first | exact Drawn0.refl _ | apply Drawn0.step)⟩
  · replace c5 := Bool.eq_false_iff.mpr c5
    subst c5
    have H1 : (some (0, false)) = some (r1, r2) := by rw [if_neg (show ¬ (false = true) by decide)] at H; exact H
    clear H
    have H := H1
    clear H1
    simp only [Option.some.injEq, Prod.mk.injEq] at H
    obtain ⟨rfl, rfl⟩ := H
    go_enter Tryd.func27, Tryd.ntmps27
    go_wp2_with (first | ((with_reducible refine gate_callee (f := 29) rfl ?_); refine goesL_ (some 14) rfl rfl Tryd.func29 (by kernel_rfl) rfl #[.int .i64 a0, .int .i64 a1, .int .i64 a2] rfl (by (try simp only [List.map_toArray, List.map_cons, List.map_nil]); first | done | rfl | (simp only [List.length_drop, List.length_take]; rfl)) ?_; (with_reducible refine (civil_Valid.calls a0 a1 a2 false _ A4.out (by first | exact hT | ((repeat (first | exact hT | apply LenTab.drewN)); done) | (refine LenTab.below hT ?_; repeat (first | (with_reducible first | exact HB.out | apply below_alloc | apply pw_below_drewN | apply below_drew1) | exact HB.out)))).mono ?_); rintro e w' ⟨rfl, ⟨nd, rfl⟩⟩; refine ⟨_, rfl, ?_⟩))
    go_ret2
    exact ⟨by first | rfl | (simp; done) | (simp [*]; done), by repeat (first | exact Drawn0.refl _ | apply Drawn0.step)⟩

/-! ### civil_Date: function 31 -/
def civil_Date.j0 : Nat → Int → Bool → Option (Int × Int × Int)
  | 0, _, _ => none
  | k + 1, x0, x17 => if x17 = true then (some (0, 0, 0)) else ((ints_Floor.f (wrap64 (x0 - 60)) 146097).bind fun t110 => ((ints_Mod.f (wrap64 (x0 - 60)) 146097).bind fun t111 => (if (wrap64 (t111 - (wrap64 ((wrap64 ((wrap64 ((wrap64 (Int.tdiv (wrap64 ((wrap64 ((wrap64 (t111 - (wrap64 (Int.tdiv t111 1460)))) + (wrap64 (Int.tdiv t111 36524)))) - (wrap64 (Int.tdiv t111 146096)))) 365)) * 365)) + (wrap64 (Int.tdiv (wrap64 (Int.tdiv (wrap64 ((wrap64 ((wrap64 (t111 - (wrap64 (Int.tdiv t111 1460)))) + (wrap64 (Int.tdiv t111 36524)))) - (wrap64 (Int.tdiv t111 146096)))) 365)) 4)))) - (wrap64 (Int.tdiv (wrap64 (Int.tdiv (wrap64 ((wrap64 ((wrap64 (t111 - (wrap64 (Int.tdiv t111 1460)))) + (wrap64 (Int.tdiv t111 36524)))) - (wrap64 (Int.tdiv t111 146096)))) 365)) 100)))))) ≥ 306 then (some (wrap64 ((wrap64 ((wrap64 (t110 * 400)) + (wrap64 (Int.tdiv (wrap64 ((wrap64 ((wrap64 (t111 - (wrap64 (Int.tdiv t111 1460)))) + (wrap64 (Int.tdiv t111 36524)))) - (wrap64 (Int.tdiv t111 146096)))) 365)))) + 1), wrap64 ((wrap64 (Int.tdiv (wrap64 ((wrap64 (5 * (wrap64 (t111 - (wrap64 ((wrap64 ((wrap64 ((wrap64 (Int.tdiv (wrap64 ((wrap64 ((wrap64 (t111 - (wrap64 (Int.tdiv t111 1460)))) + (wrap64 (Int.tdiv t111 36524)))) - (wrap64 (Int.tdiv t111 146096)))) 365)) * 365)) + (wrap64 (Int.tdiv (wrap64 (Int.tdiv (wrap64 ((wrap64 ((wrap64 (t111 - (wrap64 (Int.tdiv t111 1460)))) + (wrap64 (Int.tdiv t111 36524)))) - (wrap64 (Int.tdiv t111 146096)))) 365)) 4)))) - (wrap64 (Int.tdiv (wrap64 (Int.tdiv (wrap64 ((wrap64 ((wrap64 (t111 - (wrap64 (Int.tdiv t111 1460)))) + (wrap64 (Int.tdiv t111 36524)))) - (wrap64 (Int.tdiv t111 146096)))) 365)) 100)))))))) + 2)) 153)) - 9), wrap64 ((wrap64 ((wrap64 (t111 - (wrap64 ((wrap64 ((wrap64 ((wrap64 (Int.tdiv (wrap64 ((wrap64 ((wrap64 (t111 - (wrap64 (Int.tdiv t111 1460)))) + (wrap64 (Int.tdiv t111 36524)))) - (wrap64 (Int.tdiv t111 146096)))) 365)) * 365)) + (wrap64 (Int.tdiv (wrap64 (Int.tdiv (wrap64 ((wrap64 ((wrap64 (t111 - (wrap64 (Int.tdiv t111 1460)))) + (wrap64 (Int.tdiv t111 36524)))) - (wrap64 (Int.tdiv t111 146096)))) 365)) 4)))) - (wrap64 (Int.tdiv (wrap64 (Int.tdiv (wrap64 ((wrap64 ((wrap64 (t111 - (wrap64 (Int.tdiv t111 1460)))) + (wrap64 (Int.tdiv t111 36524)))) - (wrap64 (Int.tdiv t111 146096)))) 365)) 100)))))) - (wrap64 (Int.tdiv (wrap64 ((wrap64 (153 * (wrap64 (Int.tdiv (wrap64 ((wrap64 (5 * (wrap64 (t111 - (wrap64 ((wrap64 ((wrap64 ((wrap64 (Int.tdiv (wrap64 ((wrap64 ((wrap64 (t111 - (wrap64 (Int.tdiv t111 1460)))) + (wrap64 (Int.tdiv t111 36524)))) - (wrap64 (Int.tdiv t111 146096)))) 365)) * 365)) + (wrap64 (Int.tdiv (wrap64 (Int.tdiv (wrap64 ((wrap64 ((wrap64 (t111 - (wrap64 (Int.tdiv t111 1460)))) + (wrap64 (Int.tdiv t111 36524)))) - (wrap64 (Int.tdiv t111 146096)))) 365)) 4)))) - (wrap64 (Int.tdiv (wrap64 (Int.tdiv (wrap64 ((wrap64 ((wrap64 (t111 - (wrap64 (Int.tdiv t111 1460)))) + (wrap64 (Int.tdiv t111 36524)))) - (wrap64 (Int.tdiv t111 146096)))) 365)) 100)))))))) + 2)) 153)))) + 2)) 5)))) + 1))) else (some (wrap64 ((wrap64 (t110 * 400)) + (wrap64 (Int.tdiv (wrap64 ((wrap64 ((wrap64 (t111 - (wrap64 (Int.tdiv t111 1460)))) + (wrap64 (Int.tdiv t111 36524)))) - (wrap64 (Int.tdiv t111 146096)))) 365))), wrap64 ((wrap64 (Int.tdiv (wrap64 ((wrap64 (5 * (wrap64 (t111 - (wrap64 ((wrap64 ((wrap64 ((wrap64 (Int.tdiv (wrap64 ((wrap64 ((wrap64 (t111 - (wrap64 (Int.tdiv t111 1460)))) + (wrap64 (Int.tdiv t111 36524)))) - (wrap64 (Int.tdiv t111 146096)))) 365)) * 365)) + (wrap64 (Int.tdiv (wrap64 (Int.tdiv (wrap64 ((wrap64 ((wrap64 (t111 - (wrap64 (Int.tdiv t111 1460)))) + (wrap64 (Int.tdiv t111 36524)))) - (wrap64 (Int.tdiv t111 146096)))) 365)) 4)))) - (wrap64 (Int.tdiv (wrap64 (Int.tdiv (wrap64 ((wrap64 ((wrap64 (t111 - (wrap64 (Int.tdiv t111 1460)))) + (wrap64 (Int.tdiv t111 36524)))) - (wrap64 (Int.tdiv t111 146096)))) 365)) 100)))))))) + 2)) 153)) + 3), wrap64 ((wrap64 ((wrap64 (t111 - (wrap64 ((wrap64 ((wrap64 ((wrap64 (Int.tdiv (wrap64 ((wrap64 ((wrap64 (t111 - (wrap64 (Int.tdiv t111 1460)))) + (wrap64 (Int.tdiv t111 36524)))) - (wrap64 (Int.tdiv t111 146096)))) 365)) * 365)) + (wrap64 (Int.tdiv (wrap64 (Int.tdiv (wrap64 ((wrap64 ((wrap64 (t111 - (wrap64 (Int.tdiv t111 1460)))) + (wrap64 (Int.tdiv t111 36524)))) - (wrap64 (Int.tdiv t111 146096)))) 365)) 4)))) - (wrap64 (Int.tdiv (wrap64 (Int.tdiv (wrap64 ((wrap64 ((wrap64 (t111 - (wrap64 (Int.tdiv t111 1460)))) + (wrap64 (Int.tdiv t111 36524)))) - (wrap64 (Int.tdiv t111 146096)))) 365)) 100)))))) - (wrap64 (Int.tdiv (wrap64 ((wrap64 (153 * (wrap64 (Int.tdiv (wrap64 ((wrap64 (5 * (wrap64 (t111 - (wrap64 ((wrap64 ((wrap64 ((wrap64 (Int.tdiv (wrap64 ((wrap64 ((wrap64 (t111 - (wrap64 (Int.tdiv t111 1460)))) + (wrap64 (Int.tdiv t111 36524)))) - (wrap64 (Int.tdiv t111 146096)))) 365)) * 365)) + (wrap64 (Int.tdiv (wrap64 (Int.tdiv (wrap64 ((wrap64 ((wrap64 (t111 - (wrap64 (Int.tdiv t111 1460)))) + (wrap64 (Int.tdiv t111 36524)))) - (wrap64 (Int.tdiv t111 146096)))) 365)) 4)))) - (wrap64 (Int.tdiv (wrap64 (Int.tdiv (wrap64 ((wrap64 ((wrap64 (t111 - (wrap64 (Int.tdiv t111 1460)))) + (wrap64 (Int.tdiv t111 36524)))) - (wrap64 (Int.tdiv t111 146096)))) 365)) 100)))))))) + 2)) 153)))) + 2)) 5)))) + 1))))))
def civil_Date.f (k : Nat) (a0 : Int) : Option (Int × Int × Int) := if a0 < 0 then (civil_Date.j0 k a0 true) else (civil_Date.j0 k a0 (decide (a0 > 3652424)))
theorem civil_Date.mono_l : ∀ k, (∀ y0 y1, LeO (civil_Date.j0 k y0 y1) (civil_Date.j0 (k + 1) y0 y1))
  | 0 => fun _ _ r h => by simp [civil_Date.j0] at h
  | k + 1 => by
    have ih0 := civil_Date.mono_l k
    · intro y0 y1
      unfold civil_Date.j0
      repeat' first
      | (with_reducible exact ih0 _ _)
      | (with_reducible exact LeO.refl _)
      | (with_reducible exact LeO.none _)
      | (with_reducible refine LeO.ite ?_ ?_)
      | (with_reducible refine LeO.bind ?_ (fun _ => ?_))
      | exact ih0 _ _
      | exact LeO.none _
      | refine LeO.ite ?_ ?_
      | refine LeO.bind ?_ (fun _ => ?_)
theorem civil_Date.mono : ∀ a0 k, LeO (civil_Date.f k a0) (civil_Date.f (k + 1) a0) := by
  intro a0 k
  have ih0 := civil_Date.mono_l k
  unfold civil_Date.f
  repeat' first
      | (with_reducible exact ih0 _ _)
      | (with_reducible exact LeO.refl _)
      | (with_reducible exact LeO.none _)
      | (with_reducible refine LeO.ite ?_ ?_)
      | (with_reducible refine LeO.bind ?_ (fun _ => ?_))
      | exact ih0 _ _
      | exact LeO.none _
      | refine LeO.ite ?_ ?_
      | refine LeO.bind ?_ (fun _ => ?_)
set_option maxHeartbeats 8000000 in
set_option maxRecDepth 100000 in
theorem civil_Date.calls (k : Nat) (a0 : Int) (r1 : Int) (r2 : Int) (r3 : Int) (w : World) (h : civil_Date.f k a0 = some (r1, r2, r3)) :
    Calls Tryd.prog 31 #[.int .i64 a0] w fun e w' => e = .returned (.tuple #[.int .i64 r1, .int .i64 r2, .int .i64 r3]) ∧ Drawn0 w w' := by
  have H : (if a0 < 0 then (civil_Date.j0 k a0 true) else (civil_Date.j0 k a0 (decide (a0 > 3652424)))) = some (r1, r2, r3) := h
  clear h
  have HC2 := Aside0.mk H
  clear H
  go_enter Tryd.func31, Tryd.ntmps31
  go_upto_region 1 with (fail)
  go_cut [17] (fun v17 wc => ∃ (kq : Nat) (x17_1 : Bool), v17 = .bool x17_1 ∧ Aside0 (civil_Date.j0 kq a0 x17_1 = some (r1, r2, r3)) ∧ Aside0 (kq ≤ k) ∧ Drawn0 w wc)
  case first =>
    have H := HC2.out
    clear HC2
    by_cases c3 : a0 < 0
    · rw [if_pos c3] at H
      have c3b0 : decide (a0 < 0) = true := decide_eq_true c3
      clear c3
      (first | rw [c3b0] | (simp only [i64_w, i32_w]; rw [c3b0]) | skip)
      have H' := Aside0.mk H
      clear H
      go_wp2
      go_meet
      case rel => exact ⟨_, (true), (by first | rfl | (simp; done) | (simp [*]; done)), H', ⟨by first | omega | exact Nat.le_refl _⟩, by repeat (first | exact Drawn0.refl _ | apply Drawn0.step)⟩
    · rw [if_neg c3] at H
      have c3b0 : decide (a0 < 0) = false := decide_eq_false c3
      clear c3
      (first | rw [c3b0] | (simp only [i64_w, i32_w]; rw [c3b0]) | skip)
      have H' := Aside0.mk H
      clear H
      go_wp2
      go_meet
      case rel => exact ⟨_, (decide (a0 > 3652424)), (by first | rfl | (simp; done) | (simp [*]; done)), H', ⟨by first | omega | exact Nat.le_refl _⟩, by repeat (first | exact Drawn0.refl _ | apply Drawn0.step)⟩
  case rest =>
    clear HC2
    try clear p2
    try clear c3
    try clear c3b0
    obtain ⟨kq, x17_1, rfl, HA, HJ1, ⟨mc1, rfl⟩⟩ := hcut
    cases kq with
    | zero => exact absurd HA.out (by simp [civil_Date.j0])
    | succ kj1 =>
      have H := HA.out
      clear HA
      simp only [civil_Date.j0] at H
      by_cases c4 : x17_1 = true
      · subst c4
        have H1 : (some (0, 0, 0)) = some (r1, r2, r3) := by rw [if_pos rfl] at H; exact H
        clear H
        have H := H1
        clear H1
        simp only [Option.some.injEq, Prod.mk.injEq] at H
        obtain ⟨rfl, rfl, rfl⟩ := H
        go_wp2
        go_ret3
        exact ⟨by first | rfl | (simp; done) | (simp [*]; done), by repeat (first | exact Drawn0.refl _ | apply Drawn0.step)⟩
      · replace c4 := Bool.eq_false_iff.mpr c4
        subst c4
        have H1 : ((ints_Floor.f (wrap64 (a0 - 60)) 146097).bind fun t110 => ((ints_Mod.f (wrap64 (a0 - 60)) 146097).bind fun t111 => (if (wrap64 (t111 - (wrap64 ((wrap64 ((wrap64 ((wrap64 (Int.tdiv (wrap64 ((wrap64 ((wrap64 (t111 - (wrap64 (Int.tdiv t111 1460)))) + (wrap64 (Int.tdiv t111 36524)))) - (wrap64 (Int.tdiv t111 146096)))) 365)) * 365)) + (wrap64 (Int.tdiv (wrap64 (Int.tdiv (wrap64 ((wrap64 ((wrap64 (t111 - (wrap64 (Int.tdiv t111 1460)))) + (wrap64 (Int.tdiv t111 36524)))) - (wrap64 (Int.tdiv t111 146096)))) 365)) 4)))) - (wrap64 (Int.tdiv (wrap64 (Int.tdiv (wrap64 ((wrap64 ((wrap64 (t111 - (wrap64 (Int.tdiv t111 1460)))) + (wrap64 (Int.tdiv t111 36524)))) - (wrap64 (Int.tdiv t111 146096)))) 365)) 100)))))) ≥ 306 then (some (wrap64 ((wrap64 ((wrap64 (t110 * 400)) + (wrap64 (Int.tdiv (wrap64 ((wrap64 ((wrap64 (t111 - (wrap64 (Int.tdiv t111 1460)))) + (wrap64 (Int.tdiv t111 36524)))) - (wrap64 (Int.tdiv t111 146096)))) 365)))) + 1), wrap64 ((wrap64 (Int.tdiv (wrap64 ((wrap64 (5 * (wrap64 (t111 - (wrap64 ((wrap64 ((wrap64 ((wrap64 (Int.tdiv (wrap64 ((wrap64 ((wrap64 (t111 - (wrap64 (Int.tdiv t111 1460)))) + (wrap64 (Int.tdiv t111 36524)))) - (wrap64 (Int.tdiv t111 146096)))) 365)) * 365)) + (wrap64 (Int.tdiv (wrap64 (Int.tdiv (wrap64 ((wrap64 ((wrap64 (t111 - (wrap64 (Int.tdiv t111 1460)))) + (wrap64 (Int.tdiv t111 36524)))) - (wrap64 (Int.tdiv t111 146096)))) 365)) 4)))) - (wrap64 (Int.tdiv (wrap64 (Int.tdiv (wrap64 ((wrap64 ((wrap64 (t111 - (wrap64 (Int.tdiv t111 1460)))) + (wrap64 (Int.tdiv t111 36524)))) - (wrap64 (Int.tdiv t111 146096)))) 365)) 100)))))))) + 2)) 153)) - 9), wrap64 ((wrap64 ((wrap64 (t111 - (wrap64 ((wrap64 ((wrap64 ((wrap64 (Int.tdiv (wrap64 ((wrap64 ((wrap64 (t111 - (wrap64 (Int.tdiv t111 1460)))) + (wrap64 (Int.tdiv t111 36524)))) - (wrap64 (Int.tdiv t111 146096)))) 365)) * 365)) + (wrap64 (Int.tdiv (wrap64 (Int.tdiv (wrap64 ((wrap64 ((wrap64 (t111 - (wrap64 (Int.tdiv t111 1460)))) + (wrap64 (Int.tdiv t111 36524)))) - (wrap64 (Int.tdiv t111 146096)))) 365)) 4)))) - (wrap64 (Int.tdiv (wrap64 (Int.tdiv (wrap64 ((wrap64 ((wrap64 (t111 - (wrap64 (Int.tdiv t111 1460)))) + (wrap64 (Int.tdiv t111 36524)))) - (wrap64 (Int.tdiv t111 146096)))) 365)) 100)))))) - (wrap64 (Int.tdiv (wrap64 ((wrap64 (153 * (wrap64 (Int.tdiv (wrap64 ((wrap64 (5 * (wrap64 (t111 - (wrap64 ((wrap64 ((wrap64 ((wrap64 (Int.tdiv (wrap64 ((wrap64 ((wrap64 (t111 - (wrap64 (Int.tdiv t111 1460)))) + (wrap64 (Int.tdiv t111 36524)))) - (wrap64 (Int.tdiv t111 146096)))) 365)) * 365)) + (wrap64 (Int.tdiv (wrap64 (Int.tdiv (wrap64 ((wrap64 ((wrap64 (t111 - (wrap64 (Int.tdiv t111 1460)))) + (wrap64 (Int.tdiv t111 36524)))) - (wrap64 (Int.tdiv t111 146096)))) 365)) 4)))) - (wrap64 (Int.tdiv (wrap64 (Int.tdiv (wrap64 ((wrap64 ((wrap64 (t111 - (wrap64 (Int.tdiv t111 1460)))) + (wrap64 (Int.tdiv t111 36524)))) - (wrap64 (Int.tdiv t111 146096)))) 365)) 100)))))))) + 2)) 153)))) + 2)) 5)))) + 1))) else (some (wrap64 ((wrap64 (t110 * 400)) + (wrap64 (Int.tdiv (wrap64 ((wrap64 ((wrap64 (t111 - (wrap64 (Int.tdiv t111 1460)))) + (wrap64 (Int.tdiv t111 36524)))) - (wrap64 (Int.tdiv t111 146096)))) 365))), wrap64 ((wrap64 (Int.tdiv (wrap64 ((wrap64 (5 * (wrap64 (t111 - (wrap64 ((wrap64 ((wrap64 ((wrap64 (Int.tdiv (wrap64 ((wrap64 ((wrap64 (t111 - (wrap64 (Int.tdiv t111 1460)))) + (wrap64 (Int.tdiv t111 36524)))) - (wrap64 (Int.tdiv t111 146096)))) 365)) * 365)) + (wrap64 (Int.tdiv (wrap64 (Int.tdiv (wrap64 ((wrap64 ((wrap64 (t111 - (wrap64 (Int.tdiv t111 1460)))) + (wrap64 (Int.tdiv t111 36524)))) - (wrap64 (Int.tdiv t111 146096)))) 365)) 4)))) - (wrap64 (Int.tdiv (wrap64 (Int.tdiv (wrap64 ((wrap64 ((wrap64 (t111 - (wrap64 (Int.tdiv t111 1460)))) + (wrap64 (Int.tdiv t111 36524)))) - (wrap64 (Int.tdiv t111 146096)))) 365)) 100)))))))) + 2)) 153)) + 3), wrap64 ((wrap64 ((wrap64 (t111 - (wrap64 ((wrap64 ((wrap64 ((wrap64 (Int.tdiv (wrap64 ((wrap64 ((wrap64 (t111 - (wrap64 (Int.tdiv t111 1460)))) + (wrap64 (Int.tdiv t111 36524)))) - (wrap64 (Int.tdiv t111 146096)))) 365)) * 365)) + (wrap64 (Int.tdiv (wrap64 (Int.tdiv (wrap64 ((wrap64 ((wrap64 (t111 - (wrap64 (Int.tdiv t111 1460)))) + (wrap64 (Int.tdiv t111 36524)))) - (wrap64 (Int.tdiv t111 146096)))) 365)) 4)))) - (wrap64 (Int.tdiv (wrap64 (Int.tdiv (wrap64 ((wrap64 ((wrap64 (t111 - (wrap64 (Int.tdiv t111 1460)))) + (wrap64 (Int.tdiv t111 36524)))) - (wrap64 (Int.tdiv t111 146096)))) 365)) 100)))))) - (wrap64 (Int.tdiv (wrap64 ((wrap64 (153 * (wrap64 (Int.tdiv (wrap64 ((wrap64 (5 * (wrap64 (t111 - (wrap64 ((wrap64 ((wrap64 ((wrap64 (Int.tdiv (wrap64 ((wrap64 ((wrap64 (t111 - (wrap64 (Int.tdiv t111 1460)))) + (wrap64 (Int.tdiv t111 36524)))) - (wrap64 (Int.tdiv t111 146096)))) 365)) * 365)) + (wrap64 (Int.tdiv (wrap64 (Int.tdiv (wrap64 ((wrap64 ((wrap64 (t111 - (wrap64 (Int.tdiv t111 1460)))) + (wrap64 (Int.tdiv t111 36524)))) - (wrap64 (Int.tdiv t111 146096)))) 365)) 4)))) - (wrap64 (Int.tdiv (wrap64 (Int.tdiv (wrap64 ((wrap64 ((wrap64 (t111 - (wrap64 (Int.tdiv t111 1460)))) + (wrap64 (Int.tdiv t111 36524)))) - (wrap64 (Int.tdiv t111 146096)))) 365)) 100)))))))) + 2)) 153)))) + 2)) 5)))) + 1)))))) = some (r1, r2, r3) := by rw [if_neg (show ¬ (false = true) by decide)] at H; exact H
        clear H
        have H := H1
        clear H1
        replace H := Option.bind_eq_some_iff.mp H
        obtain ⟨t110, A50, H⟩ := H
        replace H : ((ints_Mod.f (wrap64 (a0 - 60)) 146097).bind fun t111 => (if (wrap64 (t111 - (wrap64 ((wrap64 ((wrap64 ((wrap64 (Int.tdiv (wrap64 ((wrap64 ((wrap64 (t111 - (wrap64 (Int.tdiv t111 1460)))) + (wrap64 (Int.tdiv t111 36524)))) - (wrap64 (Int.tdiv t111 146096)))) 365)) * 365)) + (wrap64 (Int.tdiv (wrap64 (Int.tdiv (wrap64 ((wrap64 ((wrap64 (t111 - (wrap64 (Int.tdiv t111 1460)))) + (wrap64 (Int.tdiv t111 36524)))) - (wrap64 (Int.tdiv t111 146096)))) 365)) 4)))) - (wrap64 (Int.tdiv (wrap64 (Int.tdiv (wrap64 ((wrap64 ((wrap64 (t111 - (wrap64 (Int.tdiv t111 1460)))) + (wrap64 (Int.tdiv t111 36524)))) - (wrap64 (Int.tdiv t111 146096)))) 365)) 100)))))) ≥ 306 then (some (wrap64 ((wrap64 ((wrap64 (t110 * 400)) + (wrap64 (Int.tdiv (wrap64 ((wrap64 ((wrap64 (t111 - (wrap64 (Int.tdiv t111 1460)))) + (wrap64 (Int.tdiv t111 36524)))) - (wrap64 (Int.tdiv t111 146096)))) 365)))) + 1), wrap64 ((wrap64 (Int.tdiv (wrap64 ((wrap64 (5 * (wrap64 (t111 - (wrap64 ((wrap64 ((wrap64 ((wrap64 (Int.tdiv (wrap64 ((wrap64 ((wrap64 (t111 - (wrap64 (Int.tdiv t111 1460)))) + (wrap64 (Int.tdiv t111 36524)))) - (wrap64 (Int.tdiv t111 146096)))) 365)) * 365)) + (wrap64 (Int.tdiv (wrap64 (Int.tdiv (wrap64 ((wrap64 ((wrap64 (t111 - (wrap64 (Int.tdiv t111 1460)))) + (wrap64 (Int.tdiv t111 36524)))) - (wrap64 (Int.tdiv t111 146096)))) 365)) 4)))) - (wrap64 (Int.tdiv (wrap64 (Int.tdiv (wrap64 ((wrap64 ((wrap64 (t111 - (wrap64 (Int.tdiv t111 1460)))) + (wrap64 (Int.tdiv t111 36524)))) - (wrap64 (Int.tdiv t111 146096)))) 365)) 100)))))))) + 2)) 153)) - 9), wrap64 ((wrap64 ((wrap64 (t111 - (wrap64 ((wrap64 ((wrap64 ((wrap64 (Int.tdiv (wrap64 ((wrap64 ((wrap64 (t111 - (wrap64 (Int.tdiv t111 1460)))) + (wrap64 (Int.tdiv t111 36524)))) - (wrap64 (Int.tdiv t111 146096)))) 365)) * 365)) + (wrap64 (Int.tdiv (wrap64 (Int.tdiv (wrap64 ((wrap64 ((wrap64 (t111 - (wrap64 (Int.tdiv t111 1460)))) + (wrap64 (Int.tdiv t111 36524)))) - (wrap64 (Int.tdiv t111 146096)))) 365)) 4)))) - (wrap64 (Int.tdiv (wrap64 (Int.tdiv (wrap64 ((wrap64 ((wrap64 (t111 - (wrap64 (Int.tdiv t111 1460)))) + (wrap64 (Int.tdiv t111 36524)))) - (wrap64 (Int.tdiv t111 146096)))) 365)) 100)))))) - (wrap64 (Int.tdiv (wrap64 ((wrap64 (153 * (wrap64 (Int.tdiv (wrap64 ((wrap64 (5 * (wrap64 (t111 - (wrap64 ((wrap64 ((wrap64 ((wrap64 (Int.tdiv (wrap64 ((wrap64 ((wrap64 (t111 - (wrap64 (Int.tdiv t111 1460)))) + (wrap64 (Int.tdiv t111 36524)))) - (wrap64 (Int.tdiv t111 146096)))) 365)) * 365)) + (wrap64 (Int.tdiv (wrap64 (Int.tdiv (wrap64 ((wrap64 ((wrap64 (t111 - (wrap64 (Int.tdiv t111 1460)))) + (wrap64 (Int.tdiv t111 36524)))) - (wrap64 (Int.tdiv t111 146096)))) 365)) 4)))) - (wrap64 (Int.tdiv (wrap64 (Int.tdiv (wrap64 ((wrap64 ((wrap64 (t111 - (wrap64 (Int.tdiv t111 1460)))) + (wrap64 (Int.tdiv t111 36524)))) - (wrap64 (Int.tdiv t111 146096)))) 365)) 100)))))))) + 2)) 153)))) + 2)) 5)))) + 1))) else (some (wrap64 ((wrap64 (t110 * 400)) + (wrap64 (Int.tdiv (wrap64 ((wrap64 ((wrap64 (t111 - (wrap64 (Int.tdiv t111 1460)))) + (wrap64 (Int.tdiv t111 36524)))) - (wrap64 (Int.tdiv t111 146096)))) 365))), wrap64 ((wrap64 (Int.tdiv (wrap64 ((wrap64 (5 * (wrap64 (t111 - (wrap64 ((wrap64 ((wrap64 ((wrap64 (Int.tdiv (wrap64 ((wrap64 ((wrap64 (t111 - (wrap64 (Int.tdiv t111 1460)))) + (wrap64 (Int.tdiv t111 36524)))) - (wrap64 (Int.tdiv t111 146096)))) 365)) * 365)) + (wrap64 (Int.tdiv (wrap64 (Int.tdiv (wrap64 ((wrap64 ((wrap64 (t111 - (wrap64 (Int.tdiv t111 1460)))) + (wrap64 (Int.tdiv t111 36524)))) - (wrap64 (Int.tdiv t111 146096)))) 365)) 4)))) - (wrap64 (Int.tdiv (wrap64 (Int.tdiv (wrap64 ((wrap64 ((wrap64 (t111 - (wrap64 (Int.tdiv t111 1460)))) + (wrap64 (Int.tdiv t111 36524)))) - (wrap64 (Int.tdiv t111 146096)))) 365)) 100)))))))) + 2)) 153)) + 3), wrap64 ((wrap64 ((wrap64 (t111 - (wrap64 ((wrap64 ((wrap64 ((wrap64 (Int.tdiv (wrap64 ((wrap64 ((wrap64 (t111 - (wrap64 (Int.tdiv t111 1460)))) + (wrap64 (Int.tdiv t111 36524)))) - (wrap64 (Int.tdiv t111 146096)))) 365)) * 365)) + (wrap64 (Int.tdiv (wrap64 (Int.tdiv (wrap64 ((wrap64 ((wrap64 (t111 - (wrap64 (Int.tdiv t111 1460)))) + (wrap64 (Int.tdiv t111 36524)))) - (wrap64 (Int.tdiv t111 146096)))) 365)) 4)))) - (wrap64 (Int.tdiv (wrap64 (Int.tdiv (wrap64 ((wrap64 ((wrap64 (t111 - (wrap64 (Int.tdiv t111 1460)))) + (wrap64 (Int.tdiv t111 36524)))) - (wrap64 (Int.tdiv t111 146096)))) 365)) 100)))))) - (wrap64 (Int.tdiv (wrap64 ((wrap64 (153 * (wrap64 (Int.tdiv (wrap64 ((wrap64 (5 * (wrap64 (t111 - (wrap64 ((wrap64 ((wrap64 ((wrap64 (Int.tdiv (wrap64 ((wrap64 ((wrap64 (t111 - (wrap64 (Int.tdiv t111 1460)))) + (wrap64 (Int.tdiv t111 36524)))) - (wrap64 (Int.tdiv t111 146096)))) 365)) * 365)) + (wrap64 (Int.tdiv (wrap64 (Int.tdiv (wrap64 ((wrap64 ((wrap64 (t111 - (wrap64 (Int.tdiv t111 1460)))) + (wrap64 (Int.tdiv t111 36524)))) - (wrap64 (Int.tdiv t111 146096)))) 365)) 4)))) - (wrap64 (Int.tdiv (wrap64 (Int.tdiv (wrap64 ((wrap64 ((wrap64 (t111 - (wrap64 (Int.tdiv t111 1460)))) + (wrap64 (Int.tdiv t111 36524)))) - (wrap64 (Int.tdiv t111 146096)))) 365)) 100)))))))) + 2)) 153)))) + 2)) 5)))) + 1))))) = some (r1, r2, r3) := H
        have A5 := Aside0.mk A50
        clear A50
        replace H := Option.bind_eq_some_iff.mp H
        obtain ⟨t111, A60, H⟩ := H
        replace H : (if (wrap64 (t111 - (wrap64 ((wrap64 ((wrap64 ((wrap64 (Int.tdiv (wrap64 ((wrap64 ((wrap64 (t111 - (wrap64 (Int.tdiv t111 1460)))) + (wrap64 (Int.tdiv t111 36524)))) - (wrap64 (Int.tdiv t111 146096)))) 365)) * 365)) + (wrap64 (Int.tdiv (wrap64 (Int.tdiv (wrap64 ((wrap64 ((wrap64 (t111 - (wrap64 (Int.tdiv t111 1460)))) + (wrap64 (Int.tdiv t111 36524)))) - (wrap64 (Int.tdiv t111 146096)))) 365)) 4)))) - (wrap64 (Int.tdiv (wrap64 (Int.tdiv (wrap64 ((wrap64 ((wrap64 (t111 - (wrap64 (Int.tdiv t111 1460)))) + (wrap64 (Int.tdiv t111 36524)))) - (wrap64 (Int.tdiv t111 146096)))) 365)) 100)))))) ≥ 306 then (some (wrap64 ((wrap64 ((wrap64 (t110 * 400)) + (wrap64 (Int.tdiv (wrap64 ((wrap64 ((wrap64 (t111 - (wrap64 (Int.tdiv t111 1460)))) + (wrap64 (Int.tdiv t111 36524)))) - (wrap64 (Int.tdiv t111 146096)))) 365)))) + 1), wrap64 ((wrap64 (Int.tdiv (wrap64 ((wrap64 (5 * (wrap64 (t111 - (wrap64 ((wrap64 ((wrap64 ((wrap64 (Int.tdiv (wrap64 ((wrap64 ((wrap64 (t111 - (wrap64 (Int.tdiv t111 1460)))) + (wrap64 (Int.tdiv t111 36524)))) - (wrap64 (Int.tdiv t111 146096)))) 365)) * 365)) + (wrap64 (Int.tdiv (wrap64 (Int.tdiv (wrap64 ((wrap64 ((wrap64 (t111 - (wrap64 (Int.tdiv t111 1460)))) + (wrap64 (Int.tdiv t111 36524)))) - (wrap64 (Int.tdiv t111 146096)))) 365)) 4)))) - (wrap64 (Int.tdiv (wrap64 (Int.tdiv (wrap64 ((wrap64 ((wrap64 (t111 - (wrap64 (Int.tdiv t111 1460)))) + (wrap64 (Int.tdiv t111 36524)))) - (wrap64 (Int.tdiv t111 146096)))) 365)) 100)))))))) + 2)) 153)) - 9), wrap64 ((wrap64 ((wrap64 (t111 - (wrap64 ((wrap64 ((wrap64 ((wrap64 (Int.tdiv (wrap64 ((wrap64 ((wrap64 (t111 - (wrap64 (Int.tdiv t111 1460)))) + (wrap64 (Int.tdiv t111 36524)))) - (wrap64 (Int.tdiv t111 146096)))) 365)) * 365)) + (wrap64 (Int.tdiv (wrap64 (Int.tdiv (wrap64 ((wrap64 ((wrap64 (t111 - (wrap64 (Int.tdiv t111 1460)))) + (wrap64 (Int.tdiv t111 36524)))) - (wrap64 (Int.tdiv t111 146096)))) 365)) 4)))) - (wrap64 (Int.tdiv (wrap64 (Int.tdiv (wrap64 ((wrap64 ((wrap64 (t111 - (wrap64 (Int.tdiv t111 1460)))) + (wrap64 (Int.tdiv t111 36524)))) - (wrap64 (Int.tdiv t111 146096)))) 365)) 100)))))) - (wrap64 (Int.tdiv (wrap64 ((wrap64 (153 * (wrap64 (Int.tdiv (wrap64 ((wrap64 (5 * (wrap64 (t111 - (wrap64 ((wrap64 ((wrap64 ((wrap64 (Int.tdiv (wrap64 ((wrap64 ((wrap64 (t111 - (wrap64 (Int.tdiv t111 1460)))) + (wrap64 (Int.tdiv t111 36524)))) - (wrap64 (Int.tdiv t111 146096)))) 365)) * 365)) + (wrap64 (Int.tdiv (wrap64 (Int.tdiv (wrap64 ((wrap64 ((wrap64 (t111 - (wrap64 (Int.tdiv t111 1460)))) + (wrap64 (Int.tdiv t111 36524)))) - (wrap64 (Int.tdiv t111 146096)))) 365)) 4)))) - (wrap64 (Int.tdiv (wrap64 (Int.tdiv (wrap64 ((wrap64 ((wrap64 (t111 - (wrap64 (Int.tdiv t111 1460)))) + (wrap64 (Int.tdiv t111 36524)))) - (wrap64 (Int.tdiv t111 146096)))) 365)) 100)))))))) + 2)) 153)))) + 2)) 5)))) + 1))) else (some (wrap64 ((wrap64 (t110 * 400)) + (wrap64 (Int.tdiv (wrap64 ((wrap64 ((wrap64 (t111 - (wrap64 (Int.tdiv t111 1460)))) + (wrap64 (Int.tdiv t111 36524)))) - (wrap64 (Int.tdiv t111 146096)))) 365))), wrap64 ((wrap64 (Int.tdiv (wrap64 ((wrap64 (5 * (wrap64 (t111 - (wrap64 ((wrap64 ((wrap64 ((wrap64 (Int.tdiv (wrap64 ((wrap64 ((wrap64 (t111 - (wrap64 (Int.tdiv t111 1460)))) + (wrap64 (Int.tdiv t111 36524)))) - (wrap64 (Int.tdiv t111 146096)))) 365)) * 365)) + (wrap64 (Int.tdiv (wrap64 (Int.tdiv (wrap64 ((wrap64 ((wrap64 (t111 - (wrap64 (Int.tdiv t111 1460)))) + (wrap64 (Int.tdiv t111 36524)))) - (wrap64 (Int.tdiv t111 146096)))) 365)) 4)))) - (wrap64 (Int.tdiv (wrap64 (Int.tdiv (wrap64 ((wrap64 ((wrap64 (t111 - (wrap64 (Int.tdiv t111 1460)))) + (wrap64 (Int.tdiv t111 36524)))) - (wrap64 (Int.tdiv t111 146096)))) 365)) 100)))))))) + 2)) 153)) + 3), wrap64 ((wrap64 ((wrap64 (t111 - (wrap64 ((wrap64 ((wrap64 ((wrap64 (Int.tdiv (wrap64 ((wrap64 ((wrap64 (t111 - (wrap64 (Int.tdiv t111 1460)))) + (wrap64 (Int.tdiv t111 36524)))) - (wrap64 (Int.tdiv t111 146096)))) 365)) * 365)) + (wrap64 (Int.tdiv (wrap64 (Int.tdiv (wrap64 ((wrap64 ((wrap64 (t111 - (wrap64 (Int.tdiv t111 1460)))) + (wrap64 (Int.tdiv t111 36524)))) - (wrap64 (Int.tdiv t111 146096)))) 365)) 4)))) - (wrap64 (Int.tdiv (wrap64 (Int.tdiv (wrap64 ((wrap64 ((wrap64 (t111 - (wrap64 (Int.tdiv t111 1460)))) + (wrap64 (Int.tdiv t111 36524)))) - (wrap64 (Int.tdiv t111 146096)))) 365)) 100)))))) - (wrap64 (Int.tdiv (wrap64 ((wrap64 (153 * (wrap64 (Int.tdiv (wrap64 ((wrap64 (5 * (wrap64 (t111 - (wrap64 ((wrap64 ((wrap64 ((wrap64 (Int.tdiv (wrap64 ((wrap64 ((wrap64 (t111 - (wrap64 (Int.tdiv t111 1460)))) + (wrap64 (Int.tdiv t111 36524)))) - (wrap64 (Int.tdiv t111 146096)))) 365)) * 365)) + (wrap64 (Int.tdiv (wrap64 (Int.tdiv (wrap64 ((wrap64 ((wrap64 (t111 - (wrap64 (Int.tdiv t111 1460)))) + (wrap64 (Int.tdiv t111 36524)))) - (wrap64 (Int.tdiv t111 146096)))) 365)) 4)))) - (wrap64 (Int.tdiv (wrap64 (Int.tdiv (wrap64 ((wrap64 ((wrap64 (t111 - (wrap64 (Int.tdiv t111 1460)))) + (wrap64 (Int.tdiv t111 36524)))) - (wrap64 (Int.tdiv t111 146096)))) 365)) 100)))))))) + 2)) 153)))) + 2)) 5)))) + 1)))) = some (r1, r2, r3) := H
        have A6 := Aside0.mk A60
        clear A60
        by_cases c7 : (wrap64 (t111 - (wrap64 ((wrap64 ((wrap64 ((wrap64 (Int.tdiv (wrap64 ((wrap64 ((wrap64 (t111 - (wrap64 (Int.tdiv t111 1460)))) + (wrap64 (Int.tdiv t111 36524)))) - (wrap64 (Int.tdiv t111 146096)))) 365)) * 365)) + (wrap64 (Int.tdiv (wrap64 (Int.tdiv (wrap64 ((wrap64 ((wrap64 (t111 - (wrap64 (Int.tdiv t111 1460)))) + (wrap64 (Int.tdiv t111 36524)))) - (wrap64 (Int.tdiv t111 146096)))) 365)) 4)))) - (wrap64 (Int.tdiv (wrap64 (Int.tdiv (wrap64 ((wrap64 ((wrap64 (t111 - (wrap64 (Int.tdiv t111 1460)))) + (wrap64 (Int.tdiv t111 36524)))) - (wrap64 (Int.tdiv t111 146096)))) 365)) 100)))))) ≥ 306
        · rw [if_pos c7] at H
          have c7b0 : decide (306 ≤ (wrap64 (t111 - (wrap64 ((wrap64 ((wrap64 ((wrap64 (Int.tdiv (wrap64 ((wrap64 ((wrap64 (t111 - (wrap64 (Int.tdiv t111 1460)))) + (wrap64 (Int.tdiv t111 36524)))) - (wrap64 (Int.tdiv t111 146096)))) 365)) * 365)) + (wrap64 (Int.tdiv (wrap64 (Int.tdiv (wrap64 ((wrap64 ((wrap64 (t111 - (wrap64 (Int.tdiv t111 1460)))) + (wrap64 (Int.tdiv t111 36524)))) - (wrap64 (Int.tdiv t111 146096)))) 365)) 4)))) - (wrap64 (Int.tdiv (wrap64 (Int.tdiv (wrap64 ((wrap64 ((wrap64 (t111 - (wrap64 (Int.tdiv t111 1460)))) + (wrap64 (Int.tdiv t111 36524)))) - (wrap64 (Int.tdiv t111 146096)))) 365)) 100))))))) = true := decide_eq_true c7
          clear c7
          simp only [Option.some.injEq, Prod.mk.injEq] at H
          obtain ⟨rfl, rfl, rfl⟩ := H
          go_wp2_with (first | ((with_reducible refine gate_callee (f := 30) rfl ?_); refine goesL_ (some 20) rfl rfl Tryd.func30 (by kernel_rfl) rfl #[.int .i64 (wrap64 (a0 - 60)), .int .i64 146097] rfl (by (try simp only [List.map_toArray, List.map_cons, List.map_nil]); first | done | rfl | (simp only [List.length_drop, List.length_take]; rfl)) ?_; (with_reducible refine (ints_Floor.calls (wrap64 (a0 - 60)) 146097 t110 _ A5.out).mono ?_); rintro e w' ⟨rfl, ⟨nd, rfl⟩⟩; refine ⟨_, rfl, ?_⟩) | ((with_reducible refine gate_callee (f := 17) rfl ?_); refine goesL_ (some 23) rfl rfl Tryd.func17 (by kernel_rfl) rfl #[.int .i64 (wrap64 (a0 - 60)), .int .i64 146097] rfl (by (try simp only [List.map_toArray, List.map_cons, List.map_nil]); first | done | rfl | (simp only [List.length_drop, List.length_take]; rfl)) ?_; (with_reducible refine (ints_Mod.calls (wrap64 (a0 - 60)) 146097 t111 _ A6.out).mono ?_); rintro e w' ⟨rfl, ⟨nd, rfl⟩⟩; refine ⟨_, rfl, ?_⟩))
          go_ret3
          exact ⟨by first | rfl | (simp; done) | (simp [*]; done), by repeat (first | exact Drawn0.refl _ | apply Drawn0.step)⟩
        · rw [if_neg c7] at H
          have c7b0 : decide (306 ≤ (wrap64 (t111 - (wrap64 ((wrap64 ((wrap64 ((wrap64 (Int.tdiv (wrap64 ((wrap64 ((wrap64 (t111 - (wrap64 (Int.tdiv t111 1460)))) + (wrap64 (Int.tdiv t111 36524)))) - (wrap64 (Int.tdiv t111 146096)))) 365)) * 365)) + (wrap64 (Int.tdiv (wrap64 (Int.tdiv (wrap64 ((wrap64 ((wrap64 (t111 - (wrap64 (Int.tdiv t111 1460)))) + (wrap64 (Int.tdiv t111 36524)))) - (wrap64 (Int.tdiv t111 146096)))) 365)) 4)))) - (wrap64 (Int.tdiv (wrap64 (Int.tdiv (wrap64 ((wrap64 ((wrap64 (t111 - (wrap64 (Int.tdiv t111 1460)))) + (wrap64 (Int.tdiv t111 36524)))) - (wrap64 (Int.tdiv t111 146096)))) 365)) 100))))))) = false := decide_eq_false c7
          clear c7
          simp only [Option.some.injEq, Prod.mk.injEq] at H
          obtain ⟨rfl, rfl, rfl⟩ := H
          go_wp2_with (first | ((with_reducible refine gate_callee (f := 30) rfl ?_); refine goesL_ (some 20) rfl rfl Tryd.func30 (by kernel_rfl) rfl #[.int .i64 (wrap64 (a0 - 60)), .int .i64 146097] rfl (by (try simp only [List.map_toArray, List.map_cons, List.map_nil]); first | done | rfl | (simp only [List.length_drop, List.length_take]; rfl)) ?_; (with_reducible refine (ints_Floor.calls (wrap64 (a0 - 60)) 146097 t110 _ A5.out).mono ?_); rintro e w' ⟨rfl, ⟨nd, rfl⟩⟩; refine ⟨_, rfl, ?_⟩) | ((with_reducible refine gate_callee (f := 17) rfl ?_); refine goesL_ (some 23) rfl rfl Tryd.func17 (by kernel_rfl) rfl #[.int .i64 (wrap64 (a0 - 60)), .int .i64 146097] rfl (by (try simp only [List.map_toArray, List.map_cons, List.map_nil]); first | done | rfl | (simp only [List.length_drop, List.length_take]; rfl)) ?_; (with_reducible refine (ints_Mod.calls (wrap64 (a0 - 60)) 146097 t111 _ A6.out).mono ?_); rintro e w' ⟨rfl, ⟨nd, rfl⟩⟩; refine ⟨_, rfl, ?_⟩))
          go_ret3
          exact ⟨by first | rfl | (simp; done) | (simp [*]; done), by repeat (first | exact Drawn0.refl _ | apply Drawn0.step)⟩

/-! ### unit_find: function 16 -/
/-! unit.of -/
/-- The variables of a way of units of months: its span at block B, its two methods behind. -/
structure HasSpan (w : World) (B : Nat) (m f c : Int) : Prop where
  c0 : w.cell? ⟨B, 0, none⟩ = some (.int .i64 m)
  c1 : w.cell? ⟨B, 1, none⟩ = some (.int .i64 f)
  c2 : w.cell? ⟨B, 2, none⟩ = some (.int .i64 c)
  g0 : w.cell? ⟨B + 2, 0, none⟩ = some (.func (Fn.func 23) #[] #[])
  g1 : w.cell? ⟨B + 3, 0, none⟩ = some (.func (Fn.func 24) #[] #[])
theorem HasSpan.below {w w' : World} {B : Nat} {m f c : Int} (h : HasSpan w B m f c) (hb : Below w.heap.size w w') : HasSpan w' B m f c :=
  ⟨pw_cell_below hb h.c0, pw_cell_below hb h.c1, pw_cell_below hb h.c2, pw_cell_below hb h.g0, pw_cell_below hb h.g1⟩
theorem unit_of.calls (m f c : Int) (w : World) :
    Calls Tryd.prog 22 #[.agg #[.int .i64 m, .int .i64 f, .int .i64 c]] w fun e w' => e = .returned (.agg #[.int .i64 c, .func (Fn.func 25) #[] #[.pointer (some ⟨w.heap.size + 2, 0, none⟩), .pointer (some ⟨w.heap.size, 0, none⟩)], .func (Fn.func 26) #[] #[.pointer (some ⟨w.heap.size + 3, 0, none⟩), .pointer (some ⟨w.heap.size, 0, none⟩)]]) ∧ HasSpan w' w.heap.size m f c ∧ Below w.heap.size w w' := by
  go_enter Tryd.func22, Tryd.ntmps22
  go_wp2_with fail
  refine bodyPost_ret (v := .agg #[.int .i64 c, .func (Fn.func 25) #[] #[.pointer (some ⟨w.heap.size + 2, 0, none⟩), .pointer (some ⟨w.heap.size, 0, none⟩)], .func (Fn.func 26) #[] #[.pointer (some ⟨w.heap.size + 3, 0, none⟩), .pointer (some ⟨w.heap.size, 0, none⟩)]]) (by simp [results, Tryd.results22, go_sem]) rfl ⟨rfl, ⟨by simp [go_sem], by simp [go_sem], by simp [go_sem], by simp [go_sem], by simp [go_sem]⟩, ?_⟩
  exact (((((Below.refl _ _).alloc (Nat.le_refl _) _).alloc (by simp) _).alloc (by simp; omega) _).alloc (by simp; omega) _)

/-! unit.find -/
theorem HasSpan.setCell {w : World} {B : Nat} {m f c : Int} (h : HasSpan w B m f c) {b o : Nat} (hp : b < B) (u : Value) : HasSpan (w.setCell ⟨b, o, none⟩ u) B m f c :=
  ⟨(World.cell?_setCell_far _ _ _ _ (Nat.ne_of_lt hp)).trans h.c0, (World.cell?_setCell_far _ _ _ _ (Nat.ne_of_lt hp)).trans h.c1, (World.cell?_setCell_far _ _ _ _ (Nat.ne_of_lt hp)).trans h.c2,
    (World.cell?_setCell_far _ _ _ _ (Nat.ne_of_lt (Nat.lt_of_lt_of_le hp (Nat.le_add_right _ _)))).trans h.g0, (World.cell?_setCell_far _ _ _ _ (Nat.ne_of_lt (Nat.lt_of_lt_of_le hp (Nat.le_add_right _ _)))).trans h.g1⟩
theorem HasSpan.alloc {w : World} {B : Nat} {m f c : Int} (h : HasSpan w B m f c) (o : Obj) : HasSpan (w.alloc o) B m f c := h.below ((Below.refl _ _).alloc (Nat.le_refl _) _)
theorem unit_find.next {w w1 w2 : World} (h : Below w.heap.size w w1) (h2 : Below w1.heap.size w1 w2) : Below w.heap.size w w2 := h.trans (h2.mono h.size)
def unit_find.zero : Obj := Obj.cells #[.int .i64 0, .nilFunc, .nilFunc] 32
theorem unit_find.cell (w : World) (k : Nat) (hk : k < 3) : ∃ v, (w.alloc unit_find.zero).cell? ⟨w.heap.size, k, none⟩ = some v := by
  unfold unit_find.zero
  match k, hk with
  | 0, hk => exact ⟨_, by simp [go_sem]; rfl⟩
  | 1, hk => exact ⟨_, by simp [go_sem]; rfl⟩
  | 2, hk => exact ⟨_, by simp [go_sem]; rfl⟩
theorem unit_find.free (w : World) (k : Nat) (hk : k < 3) : (w.alloc unit_find.zero).frozen? ⟨w.heap.size, k, none⟩ = false := by
  unfold unit_find.zero
  match k, hk with
  | 0, hk => simp [go_sem]
  | 1, hk => simp [go_sem]
  | 2, hk => simp [go_sem]
set_option maxRecDepth 100000 in
set_option maxHeartbeats 2000000 in
theorem unit_find.calls1 (w : World) :
    Calls Tryd.prog 16 #[.int .i64 1] w fun e w' => ∃ B, e = .returned (.tuple #[.agg #[.int .i64 120000, .func (Fn.func 25) #[] #[.pointer (some ⟨B + 2, 0, none⟩), .pointer (some ⟨B, 0, none⟩)], .func (Fn.func 26) #[] #[.pointer (some ⟨B + 3, 0, none⟩), .pointer (some ⟨B, 0, none⟩)]], .bool true]) ∧ HasSpan w' B 1 0 120000 ∧ Below w.heap.size w w' := by
  go_enter Tryd.func16, Tryd.ntmps16
  go_wp2_with fail
  have z0 : Below w.heap.size w (w.alloc unit_find.zero) := (Below.refl _ _).alloc (Nat.le_refl _) _
  obtain ⟨v0, zc0⟩ := unit_find.cell w 0 (by decide)
  obtain ⟨v1, zc1⟩ := unit_find.cell w 1 (by decide)
  obtain ⟨v2, zc2⟩ := unit_find.cell w 2 (by decide)
  have zf0 := unit_find.free w 0 (by decide)
  have zf1 := unit_find.free w 1 (by decide)
  have zf2 := unit_find.free w 2 (by decide)
  have zs : w.heap.size < (w.alloc unit_find.zero).heap.size := by simp
  rw [show w.alloc (Obj.cells #[.int .i64 0, .nilFunc, .nilFunc] 32) = w.alloc unit_find.zero from rfl]
  generalize w.alloc unit_find.zero = wa at *
  refine (unit_of.calls _ _ _ _).mono ?_
  rintro e w1 ⟨rfl, s1, b1⟩
  have l1 := b1.size
  go_wp2_with fail
  refine (unit_of.calls _ _ _ _).mono ?_
  rintro e w2 ⟨rfl, s2, b2⟩
  have l2 := b2.size
  go_wp2_with fail
  refine (unit_of.calls _ _ _ _).mono ?_
  rintro e w3 ⟨rfl, s3, b3⟩
  have l3 := b3.size
  go_wp2_with fail
  refine (unit_of.calls _ _ _ _).mono ?_
  rintro e w4 ⟨rfl, s4, b4⟩
  have l4 := b4.size
  go_wp2_with fail
  refine (unit_of.calls _ _ _ _).mono ?_
  rintro e w5 ⟨rfl, s5, b5⟩
  have l5 := b5.size
  have b15 := unit_find.next (unit_find.next (unit_find.next (unit_find.next b1 b2) b3) b4) b5
  have Q := Lib.hid ((((s1.below b2).below b3).below b4).below b5)
  have c0 := (b15.cell (p := ⟨w.heap.size, 0, none⟩) zs).trans zc0
  have c1 := (b15.cell (p := ⟨w.heap.size, 1, none⟩) zs).trans zc1
  have c2 := (b15.cell (p := ⟨w.heap.size, 2, none⟩) zs).trans zc2
  have f0 := (b15.frozen (p := ⟨w.heap.size, 0, none⟩) zs).trans zf0
  have f1 := (b15.frozen (p := ⟨w.heap.size, 1, none⟩) zs).trans zf1
  have f2 := (b15.frozen (p := ⟨w.heap.size, 2, none⟩) zs).trans zf2
  have hz : w.heap.size < w5.heap.size := by omega
  have BB := z0.trans (b15.mono z0.size)
  clear zc0 zc1 zc2 zf0 zf1 zf2 s1 s2 s3 s4 s5 b1 b2 b3 b4 b5 b15 z0
  go_wp2_with fail
  refine bodyPost_ret (v := .tuple #[.agg #[.int .i64 120000, .func (Fn.func 25) #[] #[.pointer (some ⟨wa.heap.size + 2, 0, none⟩), .pointer (some ⟨wa.heap.size, 0, none⟩)], .func (Fn.func 26) #[] #[.pointer (some ⟨wa.heap.size + 3, 0, none⟩), .pointer (some ⟨wa.heap.size, 0, none⟩)]], .bool true]) (by simp [results, Tryd.results16, go_sem, c0, c1, c2, hz]) rfl ⟨_, rfl, ?_, ?_⟩
  · exact (((Q.out.setCell (by omega) _).setCell (by omega) _).setCell (by omega) _).alloc _
  · exact (((BB.setCell (Nat.le_refl _) _).setCell (Nat.le_refl _) _).setCell (Nat.le_refl _) _).alloc (by simp; omega) _
set_option maxRecDepth 100000 in
set_option maxHeartbeats 2000000 in
theorem unit_find.calls2 (w : World) :
    Calls Tryd.prog 16 #[.int .i64 2] w fun e w' => ∃ B, e = .returned (.tuple #[.agg #[.int .i64 40000, .func (Fn.func 25) #[] #[.pointer (some ⟨B + 2, 0, none⟩), .pointer (some ⟨B, 0, none⟩)], .func (Fn.func 26) #[] #[.pointer (some ⟨B + 3, 0, none⟩), .pointer (some ⟨B, 0, none⟩)]], .bool true]) ∧ HasSpan w' B 3 2 40000 ∧ Below w.heap.size w w' := by
  go_enter Tryd.func16, Tryd.ntmps16
  go_wp2_with fail
  have z0 : Below w.heap.size w (w.alloc unit_find.zero) := (Below.refl _ _).alloc (Nat.le_refl _) _
  obtain ⟨v0, zc0⟩ := unit_find.cell w 0 (by decide)
  obtain ⟨v1, zc1⟩ := unit_find.cell w 1 (by decide)
  obtain ⟨v2, zc2⟩ := unit_find.cell w 2 (by decide)
  have zf0 := unit_find.free w 0 (by decide)
  have zf1 := unit_find.free w 1 (by decide)
  have zf2 := unit_find.free w 2 (by decide)
  have zs : w.heap.size < (w.alloc unit_find.zero).heap.size := by simp
  rw [show w.alloc (Obj.cells #[.int .i64 0, .nilFunc, .nilFunc] 32) = w.alloc unit_find.zero from rfl]
  generalize w.alloc unit_find.zero = wa at *
  refine (unit_of.calls _ _ _ _).mono ?_
  rintro e w1 ⟨rfl, s1, b1⟩
  have l1 := b1.size
  go_wp2_with fail
  refine (unit_of.calls _ _ _ _).mono ?_
  rintro e w2 ⟨rfl, s2, b2⟩
  have l2 := b2.size
  go_wp2_with fail
  refine (unit_of.calls _ _ _ _).mono ?_
  rintro e w3 ⟨rfl, s3, b3⟩
  have l3 := b3.size
  go_wp2_with fail
  refine (unit_of.calls _ _ _ _).mono ?_
  rintro e w4 ⟨rfl, s4, b4⟩
  have l4 := b4.size
  go_wp2_with fail
  refine (unit_of.calls _ _ _ _).mono ?_
  rintro e w5 ⟨rfl, s5, b5⟩
  have l5 := b5.size
  have b15 := unit_find.next (unit_find.next (unit_find.next (unit_find.next b1 b2) b3) b4) b5
  have Q := Lib.hid (((s2.below b3).below b4).below b5)
  have c0 := (b15.cell (p := ⟨w.heap.size, 0, none⟩) zs).trans zc0
  have c1 := (b15.cell (p := ⟨w.heap.size, 1, none⟩) zs).trans zc1
  have c2 := (b15.cell (p := ⟨w.heap.size, 2, none⟩) zs).trans zc2
  have f0 := (b15.frozen (p := ⟨w.heap.size, 0, none⟩) zs).trans zf0
  have f1 := (b15.frozen (p := ⟨w.heap.size, 1, none⟩) zs).trans zf1
  have f2 := (b15.frozen (p := ⟨w.heap.size, 2, none⟩) zs).trans zf2
  have hz : w.heap.size < w5.heap.size := by omega
  have BB := z0.trans (b15.mono z0.size)
  clear zc0 zc1 zc2 zf0 zf1 zf2 s1 s2 s3 s4 s5 b1 b2 b3 b4 b5 b15 z0
  go_wp2_with fail
  refine bodyPost_ret (v := .tuple #[.agg #[.int .i64 40000, .func (Fn.func 25) #[] #[.pointer (some ⟨w1.heap.size + 2, 0, none⟩), .pointer (some ⟨w1.heap.size, 0, none⟩)], .func (Fn.func 26) #[] #[.pointer (some ⟨w1.heap.size + 3, 0, none⟩), .pointer (some ⟨w1.heap.size, 0, none⟩)]], .bool true]) (by simp [results, Tryd.results16, go_sem, c0, c1, c2, hz]) rfl ⟨_, rfl, ?_, ?_⟩
  · exact (((Q.out.setCell (by omega) _).setCell (by omega) _).setCell (by omega) _).alloc _
  · exact (((BB.setCell (Nat.le_refl _) _).setCell (Nat.le_refl _) _).setCell (Nat.le_refl _) _).alloc (by simp; omega) _
set_option maxRecDepth 100000 in
set_option maxHeartbeats 2000000 in
theorem unit_find.calls3 (w : World) :
    Calls Tryd.prog 16 #[.int .i64 3] w fun e w' => ∃ B, e = .returned (.tuple #[.agg #[.int .i64 10000, .func (Fn.func 25) #[] #[.pointer (some ⟨B + 2, 0, none⟩), .pointer (some ⟨B, 0, none⟩)], .func (Fn.func 26) #[] #[.pointer (some ⟨B + 3, 0, none⟩), .pointer (some ⟨B, 0, none⟩)]], .bool true]) ∧ HasSpan w' B 12 0 10000 ∧ Below w.heap.size w w' := by
  go_enter Tryd.func16, Tryd.ntmps16
  go_wp2_with fail
  have z0 : Below w.heap.size w (w.alloc unit_find.zero) := (Below.refl _ _).alloc (Nat.le_refl _) _
  obtain ⟨v0, zc0⟩ := unit_find.cell w 0 (by decide)
  obtain ⟨v1, zc1⟩ := unit_find.cell w 1 (by decide)
  obtain ⟨v2, zc2⟩ := unit_find.cell w 2 (by decide)
  have zf0 := unit_find.free w 0 (by decide)
  have zf1 := unit_find.free w 1 (by decide)
  have zf2 := unit_find.free w 2 (by decide)
  have zs : w.heap.size < (w.alloc unit_find.zero).heap.size := by simp
  rw [show w.alloc (Obj.cells #[.int .i64 0, .nilFunc, .nilFunc] 32) = w.alloc unit_find.zero from rfl]
  generalize w.alloc unit_find.zero = wa at *
  refine (unit_of.calls _ _ _ _).mono ?_
  rintro e w1 ⟨rfl, s1, b1⟩
  have l1 := b1.size
  go_wp2_with fail
  refine (unit_of.calls _ _ _ _).mono ?_
  rintro e w2 ⟨rfl, s2, b2⟩
  have l2 := b2.size
  go_wp2_with fail
  refine (unit_of.calls _ _ _ _).mono ?_
  rintro e w3 ⟨rfl, s3, b3⟩
  have l3 := b3.size
  go_wp2_with fail
  refine (unit_of.calls _ _ _ _).mono ?_
  rintro e w4 ⟨rfl, s4, b4⟩
  have l4 := b4.size
  go_wp2_with fail
  refine (unit_of.calls _ _ _ _).mono ?_
  rintro e w5 ⟨rfl, s5, b5⟩
  have l5 := b5.size
  have b15 := unit_find.next (unit_find.next (unit_find.next (unit_find.next b1 b2) b3) b4) b5
  have Q := Lib.hid ((s3.below b4).below b5)
  have c0 := (b15.cell (p := ⟨w.heap.size, 0, none⟩) zs).trans zc0
  have c1 := (b15.cell (p := ⟨w.heap.size, 1, none⟩) zs).trans zc1
  have c2 := (b15.cell (p := ⟨w.heap.size, 2, none⟩) zs).trans zc2
  have f0 := (b15.frozen (p := ⟨w.heap.size, 0, none⟩) zs).trans zf0
  have f1 := (b15.frozen (p := ⟨w.heap.size, 1, none⟩) zs).trans zf1
  have f2 := (b15.frozen (p := ⟨w.heap.size, 2, none⟩) zs).trans zf2
  have hz : w.heap.size < w5.heap.size := by omega
  have BB := z0.trans (b15.mono z0.size)
  clear zc0 zc1 zc2 zf0 zf1 zf2 s1 s2 s3 s4 s5 b1 b2 b3 b4 b5 b15 z0
  go_wp2_with fail
  refine bodyPost_ret (v := .tuple #[.agg #[.int .i64 10000, .func (Fn.func 25) #[] #[.pointer (some ⟨w2.heap.size + 2, 0, none⟩), .pointer (some ⟨w2.heap.size, 0, none⟩)], .func (Fn.func 26) #[] #[.pointer (some ⟨w2.heap.size + 3, 0, none⟩), .pointer (some ⟨w2.heap.size, 0, none⟩)]], .bool true]) (by simp [results, Tryd.results16, go_sem, c0, c1, c2, hz]) rfl ⟨_, rfl, ?_, ?_⟩
  · exact (((Q.out.setCell (by omega) _).setCell (by omega) _).setCell (by omega) _).alloc _
  · exact (((BB.setCell (Nat.le_refl _) _).setCell (Nat.le_refl _) _).setCell (Nat.le_refl _) _).alloc (by simp; omega) _
set_option maxRecDepth 100000 in
set_option maxHeartbeats 2000000 in
theorem unit_find.calls4 (w : World) :
    Calls Tryd.prog 16 #[.int .i64 4] w fun e w' => ∃ B, e = .returned (.tuple #[.agg #[.int .i64 1000, .func (Fn.func 25) #[] #[.pointer (some ⟨B + 2, 0, none⟩), .pointer (some ⟨B, 0, none⟩)], .func (Fn.func 26) #[] #[.pointer (some ⟨B + 3, 0, none⟩), .pointer (some ⟨B, 0, none⟩)]], .bool true]) ∧ HasSpan w' B 120 0 1000 ∧ Below w.heap.size w w' := by
  go_enter Tryd.func16, Tryd.ntmps16
  go_wp2_with fail
  have z0 : Below w.heap.size w (w.alloc unit_find.zero) := (Below.refl _ _).alloc (Nat.le_refl _) _
  obtain ⟨v0, zc0⟩ := unit_find.cell w 0 (by decide)
  obtain ⟨v1, zc1⟩ := unit_find.cell w 1 (by decide)
  obtain ⟨v2, zc2⟩ := unit_find.cell w 2 (by decide)
  have zf0 := unit_find.free w 0 (by decide)
  have zf1 := unit_find.free w 1 (by decide)
  have zf2 := unit_find.free w 2 (by decide)
  have zs : w.heap.size < (w.alloc unit_find.zero).heap.size := by simp
  rw [show w.alloc (Obj.cells #[.int .i64 0, .nilFunc, .nilFunc] 32) = w.alloc unit_find.zero from rfl]
  generalize w.alloc unit_find.zero = wa at *
  refine (unit_of.calls _ _ _ _).mono ?_
  rintro e w1 ⟨rfl, s1, b1⟩
  have l1 := b1.size
  go_wp2_with fail
  refine (unit_of.calls _ _ _ _).mono ?_
  rintro e w2 ⟨rfl, s2, b2⟩
  have l2 := b2.size
  go_wp2_with fail
  refine (unit_of.calls _ _ _ _).mono ?_
  rintro e w3 ⟨rfl, s3, b3⟩
  have l3 := b3.size
  go_wp2_with fail
  refine (unit_of.calls _ _ _ _).mono ?_
  rintro e w4 ⟨rfl, s4, b4⟩
  have l4 := b4.size
  go_wp2_with fail
  refine (unit_of.calls _ _ _ _).mono ?_
  rintro e w5 ⟨rfl, s5, b5⟩
  have l5 := b5.size
  have b15 := unit_find.next (unit_find.next (unit_find.next (unit_find.next b1 b2) b3) b4) b5
  have Q := Lib.hid (s4.below b5)
  have c0 := (b15.cell (p := ⟨w.heap.size, 0, none⟩) zs).trans zc0
  have c1 := (b15.cell (p := ⟨w.heap.size, 1, none⟩) zs).trans zc1
  have c2 := (b15.cell (p := ⟨w.heap.size, 2, none⟩) zs).trans zc2
  have f0 := (b15.frozen (p := ⟨w.heap.size, 0, none⟩) zs).trans zf0
  have f1 := (b15.frozen (p := ⟨w.heap.size, 1, none⟩) zs).trans zf1
  have f2 := (b15.frozen (p := ⟨w.heap.size, 2, none⟩) zs).trans zf2
  have hz : w.heap.size < w5.heap.size := by omega
  have BB := z0.trans (b15.mono z0.size)
  clear zc0 zc1 zc2 zf0 zf1 zf2 s1 s2 s3 s4 s5 b1 b2 b3 b4 b5 b15 z0
  go_wp2_with fail
  refine bodyPost_ret (v := .tuple #[.agg #[.int .i64 1000, .func (Fn.func 25) #[] #[.pointer (some ⟨w3.heap.size + 2, 0, none⟩), .pointer (some ⟨w3.heap.size, 0, none⟩)], .func (Fn.func 26) #[] #[.pointer (some ⟨w3.heap.size + 3, 0, none⟩), .pointer (some ⟨w3.heap.size, 0, none⟩)]], .bool true]) (by simp [results, Tryd.results16, go_sem, c0, c1, c2, hz]) rfl ⟨_, rfl, ?_, ?_⟩
  · exact (((Q.out.setCell (by omega) _).setCell (by omega) _).setCell (by omega) _).alloc _
  · exact (((BB.setCell (Nat.le_refl _) _).setCell (Nat.le_refl _) _).setCell (Nat.le_refl _) _).alloc (by simp; omega) _
set_option maxRecDepth 100000 in
set_option maxHeartbeats 2000000 in
theorem unit_find.calls5 (w : World) :
    Calls Tryd.prog 16 #[.int .i64 5] w fun e w' => ∃ B, e = .returned (.tuple #[.agg #[.int .i64 100, .func (Fn.func 25) #[] #[.pointer (some ⟨B + 2, 0, none⟩), .pointer (some ⟨B, 0, none⟩)], .func (Fn.func 26) #[] #[.pointer (some ⟨B + 3, 0, none⟩), .pointer (some ⟨B, 0, none⟩)]], .bool true]) ∧ HasSpan w' B 1200 0 100 ∧ Below w.heap.size w w' := by
  go_enter Tryd.func16, Tryd.ntmps16
  go_wp2_with fail
  have z0 : Below w.heap.size w (w.alloc unit_find.zero) := (Below.refl _ _).alloc (Nat.le_refl _) _
  obtain ⟨v0, zc0⟩ := unit_find.cell w 0 (by decide)
  obtain ⟨v1, zc1⟩ := unit_find.cell w 1 (by decide)
  obtain ⟨v2, zc2⟩ := unit_find.cell w 2 (by decide)
  have zf0 := unit_find.free w 0 (by decide)
  have zf1 := unit_find.free w 1 (by decide)
  have zf2 := unit_find.free w 2 (by decide)
  have zs : w.heap.size < (w.alloc unit_find.zero).heap.size := by simp
  rw [show w.alloc (Obj.cells #[.int .i64 0, .nilFunc, .nilFunc] 32) = w.alloc unit_find.zero from rfl]
  generalize w.alloc unit_find.zero = wa at *
  refine (unit_of.calls _ _ _ _).mono ?_
  rintro e w1 ⟨rfl, s1, b1⟩
  have l1 := b1.size
  go_wp2_with fail
  refine (unit_of.calls _ _ _ _).mono ?_
  rintro e w2 ⟨rfl, s2, b2⟩
  have l2 := b2.size
  go_wp2_with fail
  refine (unit_of.calls _ _ _ _).mono ?_
  rintro e w3 ⟨rfl, s3, b3⟩
  have l3 := b3.size
  go_wp2_with fail
  refine (unit_of.calls _ _ _ _).mono ?_
  rintro e w4 ⟨rfl, s4, b4⟩
  have l4 := b4.size
  go_wp2_with fail
  refine (unit_of.calls _ _ _ _).mono ?_
  rintro e w5 ⟨rfl, s5, b5⟩
  have l5 := b5.size
  have b15 := unit_find.next (unit_find.next (unit_find.next (unit_find.next b1 b2) b3) b4) b5
  have Q := Lib.hid s5
  have c0 := (b15.cell (p := ⟨w.heap.size, 0, none⟩) zs).trans zc0
  have c1 := (b15.cell (p := ⟨w.heap.size, 1, none⟩) zs).trans zc1
  have c2 := (b15.cell (p := ⟨w.heap.size, 2, none⟩) zs).trans zc2
  have f0 := (b15.frozen (p := ⟨w.heap.size, 0, none⟩) zs).trans zf0
  have f1 := (b15.frozen (p := ⟨w.heap.size, 1, none⟩) zs).trans zf1
  have f2 := (b15.frozen (p := ⟨w.heap.size, 2, none⟩) zs).trans zf2
  have hz : w.heap.size < w5.heap.size := by omega
  have BB := z0.trans (b15.mono z0.size)
  clear zc0 zc1 zc2 zf0 zf1 zf2 s1 s2 s3 s4 s5 b1 b2 b3 b4 b5 b15 z0
  go_wp2_with fail
  refine bodyPost_ret (v := .tuple #[.agg #[.int .i64 100, .func (Fn.func 25) #[] #[.pointer (some ⟨w4.heap.size + 2, 0, none⟩), .pointer (some ⟨w4.heap.size, 0, none⟩)], .func (Fn.func 26) #[] #[.pointer (some ⟨w4.heap.size + 3, 0, none⟩), .pointer (some ⟨w4.heap.size, 0, none⟩)]], .bool true]) (by simp [results, Tryd.results16, go_sem, c0, c1, c2, hz]) rfl ⟨_, rfl, ?_, ?_⟩
  · exact (((Q.out.setCell (by omega) _).setCell (by omega) _).setCell (by omega) _).alloc _
  · exact (((BB.setCell (Nat.le_refl _) _).setCell (Nat.le_refl _) _).setCell (Nat.le_refl _) _).alloc (by simp; omega) _
set_option maxRecDepth 100000 in
set_option maxHeartbeats 2000000 in
theorem unit_find.calls0 (w : World) :
    Calls Tryd.prog 16 #[.int .i64 0] w fun e w' => e = .returned (.tuple #[.agg #[.int .i64 3652425, .func (Fn.func 18) #[] #[], .func (Fn.func 20) #[] #[]], .bool true]) ∧ Below w.heap.size w w' := by
  go_enter Tryd.func16, Tryd.ntmps16
  go_wp2_with fail
  have z0 : Below w.heap.size w (w.alloc unit_find.zero) := (Below.refl _ _).alloc (Nat.le_refl _) _
  obtain ⟨v0, zc0⟩ := unit_find.cell w 0 (by decide)
  obtain ⟨v1, zc1⟩ := unit_find.cell w 1 (by decide)
  obtain ⟨v2, zc2⟩ := unit_find.cell w 2 (by decide)
  have zf0 := unit_find.free w 0 (by decide)
  have zf1 := unit_find.free w 1 (by decide)
  have zf2 := unit_find.free w 2 (by decide)
  have zs : w.heap.size < (w.alloc unit_find.zero).heap.size := by simp
  rw [show w.alloc (Obj.cells #[.int .i64 0, .nilFunc, .nilFunc] 32) = w.alloc unit_find.zero from rfl]
  generalize w.alloc unit_find.zero = wa at *
  refine (unit_of.calls _ _ _ _).mono ?_
  rintro e w1 ⟨rfl, s1, b1⟩
  have l1 := b1.size
  go_wp2_with fail
  refine (unit_of.calls _ _ _ _).mono ?_
  rintro e w2 ⟨rfl, s2, b2⟩
  have l2 := b2.size
  go_wp2_with fail
  refine (unit_of.calls _ _ _ _).mono ?_
  rintro e w3 ⟨rfl, s3, b3⟩
  have l3 := b3.size
  go_wp2_with fail
  refine (unit_of.calls _ _ _ _).mono ?_
  rintro e w4 ⟨rfl, s4, b4⟩
  have l4 := b4.size
  go_wp2_with fail
  refine (unit_of.calls _ _ _ _).mono ?_
  rintro e w5 ⟨rfl, s5, b5⟩
  have l5 := b5.size
  have b15 := unit_find.next (unit_find.next (unit_find.next (unit_find.next b1 b2) b3) b4) b5
  have c0 := (b15.cell (p := ⟨w.heap.size, 0, none⟩) zs).trans zc0
  have c1 := (b15.cell (p := ⟨w.heap.size, 1, none⟩) zs).trans zc1
  have c2 := (b15.cell (p := ⟨w.heap.size, 2, none⟩) zs).trans zc2
  have f0 := (b15.frozen (p := ⟨w.heap.size, 0, none⟩) zs).trans zf0
  have f1 := (b15.frozen (p := ⟨w.heap.size, 1, none⟩) zs).trans zf1
  have f2 := (b15.frozen (p := ⟨w.heap.size, 2, none⟩) zs).trans zf2
  have hz : w.heap.size < w5.heap.size := by omega
  have BB := z0.trans (b15.mono z0.size)
  clear zc0 zc1 zc2 zf0 zf1 zf2 s1 s2 s3 s4 s5 b1 b2 b3 b4 b5 b15 z0
  go_wp2_with fail
  refine bodyPost_ret (v := .tuple #[.agg #[.int .i64 3652425, .func (Fn.func 18) #[] #[], .func (Fn.func 20) #[] #[]], .bool true]) (by simp [results, Tryd.results16, go_sem, c0, c1, c2, hz]) rfl ⟨rfl, ?_⟩
  exact (((BB.setCell (Nat.le_refl _) _).setCell (Nat.le_refl _) _).setCell (Nat.le_refl _) _).alloc (by simp; omega) _
set_option maxRecDepth 100000 in
set_option maxHeartbeats 2000000 in
theorem unit_find.callsNo (kind : Int) (w : World) (h : kind < 0 ∨ 6 ≤ kind) :
    Calls Tryd.prog 16 #[.int .i64 kind] w fun e w' => e = .returned (.tuple #[.agg #[.int .i64 0, .nilFunc, .nilFunc], .bool false]) ∧ Below w.heap.size w w' := by
  rcases h with h | h
  · go_enter Tryd.func16, Tryd.ntmps16
    go_wp2_with fail
    have z0 : Below w.heap.size w (w.alloc unit_find.zero) := (Below.refl _ _).alloc (Nat.le_refl _) _
    obtain ⟨v0, zc0⟩ := unit_find.cell w 0 (by decide)
    obtain ⟨v1, zc1⟩ := unit_find.cell w 1 (by decide)
    obtain ⟨v2, zc2⟩ := unit_find.cell w 2 (by decide)
    have zf0 := unit_find.free w 0 (by decide)
    have zf1 := unit_find.free w 1 (by decide)
    have zf2 := unit_find.free w 2 (by decide)
    have zs : w.heap.size < (w.alloc unit_find.zero).heap.size := by simp
    rw [show w.alloc (Obj.cells #[.int .i64 0, .nilFunc, .nilFunc] 32) = w.alloc unit_find.zero from rfl]
    generalize w.alloc unit_find.zero = wa at *
    refine (unit_of.calls _ _ _ _).mono ?_
    rintro e w1 ⟨rfl, s1, b1⟩
    have l1 := b1.size
    go_wp2_with fail
    refine (unit_of.calls _ _ _ _).mono ?_
    rintro e w2 ⟨rfl, s2, b2⟩
    have l2 := b2.size
    go_wp2_with fail
    refine (unit_of.calls _ _ _ _).mono ?_
    rintro e w3 ⟨rfl, s3, b3⟩
    have l3 := b3.size
    go_wp2_with fail
    refine (unit_of.calls _ _ _ _).mono ?_
    rintro e w4 ⟨rfl, s4, b4⟩
    have l4 := b4.size
    go_wp2_with fail
    refine (unit_of.calls _ _ _ _).mono ?_
    rintro e w5 ⟨rfl, s5, b5⟩
    have l5 := b5.size
    have b15 := unit_find.next (unit_find.next (unit_find.next (unit_find.next b1 b2) b3) b4) b5
    have c0 := (b15.cell (p := ⟨w.heap.size, 0, none⟩) zs).trans zc0
    have c1 := (b15.cell (p := ⟨w.heap.size, 1, none⟩) zs).trans zc1
    have c2 := (b15.cell (p := ⟨w.heap.size, 2, none⟩) zs).trans zc2
    have f0 := (b15.frozen (p := ⟨w.heap.size, 0, none⟩) zs).trans zf0
    have f1 := (b15.frozen (p := ⟨w.heap.size, 1, none⟩) zs).trans zf1
    have f2 := (b15.frozen (p := ⟨w.heap.size, 2, none⟩) zs).trans zf2
    have hz : w.heap.size < w5.heap.size := by omega
    have BB := z0.trans (b15.mono z0.size)
    clear zc0 zc1 zc2 zf0 zf1 zf2 s1 s2 s3 s4 s5 b1 b2 b3 b4 b5 b15 z0
    go_wp2_with fail
    refine bodyPost_ret (v := .tuple #[.agg #[.int .i64 0, .nilFunc, .nilFunc], .bool false]) (by simp [results, Tryd.results16, go_sem, c0, c1, c2, hz]) rfl ⟨rfl, ?_⟩
    exact (((BB.setCell (Nat.le_refl _) _).setCell (Nat.le_refl _) _).setCell (Nat.le_refl _) _).alloc (by simp; omega) _
  · go_enter Tryd.func16, Tryd.ntmps16
    go_wp2_with fail
    have z0 : Below w.heap.size w (w.alloc unit_find.zero) := (Below.refl _ _).alloc (Nat.le_refl _) _
    obtain ⟨v0, zc0⟩ := unit_find.cell w 0 (by decide)
    obtain ⟨v1, zc1⟩ := unit_find.cell w 1 (by decide)
    obtain ⟨v2, zc2⟩ := unit_find.cell w 2 (by decide)
    have zf0 := unit_find.free w 0 (by decide)
    have zf1 := unit_find.free w 1 (by decide)
    have zf2 := unit_find.free w 2 (by decide)
    have zs : w.heap.size < (w.alloc unit_find.zero).heap.size := by simp
    rw [show w.alloc (Obj.cells #[.int .i64 0, .nilFunc, .nilFunc] 32) = w.alloc unit_find.zero from rfl]
    generalize w.alloc unit_find.zero = wa at *
    refine (unit_of.calls _ _ _ _).mono ?_
    rintro e w1 ⟨rfl, s1, b1⟩
    have l1 := b1.size
    go_wp2_with fail
    refine (unit_of.calls _ _ _ _).mono ?_
    rintro e w2 ⟨rfl, s2, b2⟩
    have l2 := b2.size
    go_wp2_with fail
    refine (unit_of.calls _ _ _ _).mono ?_
    rintro e w3 ⟨rfl, s3, b3⟩
    have l3 := b3.size
    go_wp2_with fail
    refine (unit_of.calls _ _ _ _).mono ?_
    rintro e w4 ⟨rfl, s4, b4⟩
    have l4 := b4.size
    go_wp2_with fail
    refine (unit_of.calls _ _ _ _).mono ?_
    rintro e w5 ⟨rfl, s5, b5⟩
    have l5 := b5.size
    have b15 := unit_find.next (unit_find.next (unit_find.next (unit_find.next b1 b2) b3) b4) b5
    have c0 := (b15.cell (p := ⟨w.heap.size, 0, none⟩) zs).trans zc0
    have c1 := (b15.cell (p := ⟨w.heap.size, 1, none⟩) zs).trans zc1
    have c2 := (b15.cell (p := ⟨w.heap.size, 2, none⟩) zs).trans zc2
    have f0 := (b15.frozen (p := ⟨w.heap.size, 0, none⟩) zs).trans zf0
    have f1 := (b15.frozen (p := ⟨w.heap.size, 1, none⟩) zs).trans zf1
    have f2 := (b15.frozen (p := ⟨w.heap.size, 2, none⟩) zs).trans zf2
    have hz : w.heap.size < w5.heap.size := by omega
    have BB := z0.trans (b15.mono z0.size)
    clear zc0 zc1 zc2 zf0 zf1 zf2 s1 s2 s3 s4 s5 b1 b2 b3 b4 b5 b15 z0
    go_wp2_with fail
    refine bodyPost_ret (v := .tuple #[.agg #[.int .i64 0, .nilFunc, .nilFunc], .bool false]) (by simp [results, Tryd.results16, go_sem, c0, c1, c2, hz]) rfl ⟨rfl, ?_⟩
    exact (((BB.setCell (Nat.le_refl _) _).setCell (Nat.le_refl _) _).setCell (Nat.le_refl _) _).alloc (by simp; omega) _

/-! begins, number -/
def unit_begins.f (m f i : Int) : Option Int := (civil_Number.f ((f + m * i) / 12) ((f + m * i) % 12 + 1) 1).bind fun t => some t.1
set_option maxHeartbeats 1000000 in
theorem unit_begins.calls (m f c i r : Int) (w : World) (h : unit_begins.f m f i = some r) (hp : 0 ≤ m * i ∧ m * i ≤ 1000000000 ∧ 0 ≤ f ∧ f ≤ 1000) (hT : LenTab w) :
    Calls Tryd.prog 23 #[.agg #[.int .i64 m, .int .i64 f, .int .i64 c], .int .i64 i] w fun e w' => e = .returned (.int .i64 r) ∧ Below w.heap.size w w' := by
  obtain ⟨⟨t1, t2⟩, ht, h⟩ := Option.bind_eq_some_iff.mp h
  obtain rfl := Option.some.inj h
  generalize hk : m * i = k at *
  obtain ⟨h1, h2, h3, h4⟩ := hp
  have HK := Lib.hid hk
  have HN := Lib.hid ht
  clear hk ht h
  have ew : IntKind.i64.wrap (m * i) = k := by rw [HK.out]; exact IntWalk.i64_in _ (by omega)
  have hb : Below w.heap.size w (w.alloc (Obj.cells #[.int .i64 m, .int .i64 f, .int .i64 c] 41)) := (Below.refl _ _).alloc (Nat.le_refl _) _
  have hT' := hT.below hb
  go_enter Tryd.func23, Tryd.ntmps23
  go_wp2_with fail
  refine (civil_Number.calls _ _ _ _ _ _ HN.out hT').mono ?_
  rintro e w1 ⟨rfl, ⟨n1, rfl⟩⟩
  go_wp2_with fail
  go_ret
  exact ⟨rfl, pw_below_drewN hb _⟩
def unit_monthly.f2 (day : Int) : Option Int := (civil_Date.f 2 day).bind fun t => if 0 ≤ t.1 ∧ t.1 ≤ 10000 ∧ 0 ≤ t.2.1 ∧ t.2.1 ≤ 12 then some (12 * t.1 + t.2.1 - 1) else none
theorem unit_monthly.calls2 (day r : Int) (w : World) (h : unit_monthly.f2 day = some r) :
    Calls Tryd.prog 28 #[.int .i64 day] w fun e w' => e = .returned (.int .i64 r) ∧ Drawn0 w w' := by
  obtain ⟨⟨t1, t2, t3⟩, ht, h⟩ := Option.bind_eq_some_iff.mp h
  split at h
  case isFalse => cases h
  rename_i hb
  obtain rfl := Option.some.inj h
  obtain ⟨b1, b2, b3, b4⟩ := hb
  simp only at b1 b2 b3 b4
  have HN := Lib.hid ht
  clear ht h
  go_enter Tryd.func28, Tryd.ntmps28
  go_wp2_with fail
  refine (civil_Date.calls _ _ _ _ _ _ HN.out).mono ?_
  rintro e w1 ⟨rfl, ⟨n1, rfl⟩⟩
  go_wp2_with fail
  go_ret
  exact ⟨rfl, ⟨_, rfl⟩⟩
theorem unit_monthly.ge {day r : Int} (h : unit_monthly.f2 day = some r) : -1 ≤ r ∧ r ≤ 200000 := by
  obtain ⟨⟨t1, t2, t3⟩, ht, h⟩ := Option.bind_eq_some_iff.mp h
  split at h
  case isFalse => cases h
  rename_i hb
  obtain rfl := Option.some.inj h
  simp only at hb ⊢
  omega
def unit_number.f (m f day : Int) : Option Int := (unit_monthly.f2 day).bind fun k => some (if k - f < 0 then -1 else (k - f) / m)
theorem unit_number.calls (m f c day r : Int) (w : World) (h : unit_number.f m f day = some r) (hp : 1 ≤ m ∧ m ≤ 10000 ∧ 0 ≤ f ∧ f ≤ 1000) :
    Calls Tryd.prog 24 #[.agg #[.int .i64 m, .int .i64 f, .int .i64 c], .int .i64 day] w fun e w' => e = .returned (.int .i64 r) ∧ Below w.heap.size w w' := by
  obtain ⟨k, ht, h⟩ := Option.bind_eq_some_iff.mp h
  have hk := unit_monthly.ge ht
  obtain rfl := Option.some.inj h
  obtain ⟨h1, h2, h3, h4⟩ := hp
  obtain ⟨k1, k2⟩ := hk
  have HN := Lib.hid ht
  clear ht h
  have hb : Below w.heap.size w (w.alloc (Obj.cells #[.int .i64 m, .int .i64 f, .int .i64 c] 41)) := (Below.refl _ _).alloc (Nat.le_refl _) _
  have m0 : (m == 0) = false := beq_eq_false_iff_ne.mpr (by omega)
  by_cases hlt : k - f < 0
  · rw [if_pos hlt]
    go_enter Tryd.func24, Tryd.ntmps24
    go_wp2_with fail
    go_quiet ((go_at_call 28; refine (unit_monthly.calls2 _ _ _ HN.out).mono ?_; rintro e w' ⟨rfl, ⟨nd, rfl⟩⟩; first | exact ⟨rfl, _, World.drewN_drewN _ _ _⟩ | exact ⟨rfl, _, rfl⟩))
    go_wp2_with fail
    go_ret
    exact ⟨rfl, pw_below_drewN hb _⟩
  · rw [if_neg hlt]
    go_enter Tryd.func24, Tryd.ntmps24
    go_wp2_with fail
    go_quiet ((go_at_call 28; refine (unit_monthly.calls2 _ _ _ HN.out).mono ?_; rintro e w' ⟨rfl, ⟨nd, rfl⟩⟩; first | exact ⟨rfl, _, World.drewN_drewN _ _ _⟩ | exact ⟨rfl, _, rfl⟩))
    go_wp2_with fail
    go_ret
    exact ⟨rfl, pw_below_drewN hb _⟩
/-! Count, First, Last, Of -/
def unit_tab (kind : Int) : Option (Int × Int × Int) := if kind = 1 then some (1, 0, 120000) else if kind = 2 then some (3, 2, 40000) else if kind = 3 then some (12, 0, 10000) else if kind = 4 then some (120, 0, 1000) else if kind = 5 then some (1200, 0, 100) else none
theorem unit_tab.cases {kind m f c : Int} (h : unit_tab kind = some (m, f, c)) : (kind = 1 ∧ m = 1 ∧ f = 0 ∧ c = 120000) ∨ (kind = 2 ∧ m = 3 ∧ f = 2 ∧ c = 40000) ∨ (kind = 3 ∧ m = 12 ∧ f = 0 ∧ c = 10000) ∨ (kind = 4 ∧ m = 120 ∧ f = 0 ∧ c = 1000) ∨ (kind = 5 ∧ m = 1200 ∧ f = 0 ∧ c = 100) := by
  unfold unit_tab at h
  repeat' (split at h)
  all_goals first | (simp at h; omega) | cases h
theorem unit_tab.none {kind : Int} (h : unit_tab kind = none) (h0 : kind ≠ 0) : kind < 0 ∨ 6 ≤ kind := by
  unfold unit_tab at h
  repeat' (split at h)
  all_goals first | omega | cases h
def WaySpan (w : World) (c m f : Int) (e : Ending) (w' : World) : Prop := ∃ B, e = .returned (.tuple #[.agg #[.int .i64 c, .func (Fn.func 25) #[] #[.pointer (some ⟨B + 2, 0, none⟩), .pointer (some ⟨B, 0, none⟩)], .func (Fn.func 26) #[] #[.pointer (some ⟨B + 3, 0, none⟩), .pointer (some ⟨B, 0, none⟩)]], .bool true]) ∧ HasSpan w' B m f c ∧ Below w.heap.size w w'
theorem unit_find.span {kind m f c : Int} (h : unit_tab kind = some (m, f, c)) (w : World) : Calls Tryd.prog 16 #[.int .i64 kind] w (WaySpan w c m f) := by
  rcases unit_tab.cases h with ⟨rfl, rfl, rfl, rfl⟩ | ⟨rfl, rfl, rfl, rfl⟩ | ⟨rfl, rfl, rfl, rfl⟩ | ⟨rfl, rfl, rfl, rfl⟩ | ⟨rfl, rfl, rfl, rfl⟩
  · exact unit_find.calls1 w
  · exact unit_find.calls2 w
  · exact unit_find.calls3 w
  · exact unit_find.calls4 w
  · exact unit_find.calls5 w
theorem unit_begins.cl (m f c i r : Int) (B : Nat) (w : World) (h : unit_begins.f m f i = some r) (hp : 0 ≤ m * i ∧ m * i ≤ 1000000000 ∧ 0 ≤ f ∧ f ≤ 1000) (hT : LenTab w) (hs : HasSpan w B m f c) :
    Calls Tryd.prog 25 #[.int .i64 i, .pointer (some ⟨B + 2, 0, none⟩), .pointer (some ⟨B, 0, none⟩)] w fun e w' => e = .returned (.int .i64 r) ∧ Below w.heap.size w w' := by
  have H := Lib.hid h
  have HP := Lib.hid hp
  obtain ⟨c0, c1, c2, g0, g1⟩ := hs
  clear h hp
  go_enter Tryd.func25, Tryd.ntmps25
  go_wp2_with fail
  refine (unit_begins.calls _ _ _ _ _ _ H.out HP.out hT).mono ?_
  rintro e w1 ⟨rfl, b1⟩
  go_wp2_with fail
  go_ret
  exact ⟨rfl, b1⟩
theorem unit_number.cl (m f c day r : Int) (B : Nat) (w : World) (h : unit_number.f m f day = some r) (hp : 1 ≤ m ∧ m ≤ 10000 ∧ 0 ≤ f ∧ f ≤ 1000) (hs : HasSpan w B m f c) :
    Calls Tryd.prog 26 #[.int .i64 day, .pointer (some ⟨B + 3, 0, none⟩), .pointer (some ⟨B, 0, none⟩)] w fun e w' => e = .returned (.int .i64 r) ∧ Below w.heap.size w w' := by
  have H := Lib.hid h
  have HP := Lib.hid hp
  obtain ⟨c0, c1, c2, g0, g1⟩ := hs
  clear h hp
  go_enter Tryd.func26, Tryd.ntmps26
  go_wp2_with fail
  refine (unit_number.calls _ _ _ _ _ _ H.out HP.out).mono ?_
  rintro e w1 ⟨rfl, b1⟩
  go_wp2_with fail
  go_ret
  exact ⟨rfl, b1⟩
theorem unit_begins.day (i : Int) (w : World) : Calls Tryd.prog 18 #[.int .i64 i] w fun e w' => e = .returned (.int .i64 i) ∧ Below w.heap.size w w' := by
  go_enter Tryd.func18, Tryd.ntmps18
  go_wp2_with go_in
  go_ret
  exact ⟨rfl, (Below.refl _ _).alloc (Nat.le_refl _) _⟩
theorem unit_number.day (i : Int) (w : World) : Calls Tryd.prog 20 #[.int .i64 i] w fun e w' => e = .returned (.int .i64 i) ∧ Below w.heap.size w w' := by
  go_enter Tryd.func20, Tryd.ntmps20
  go_wp2_with go_in
  go_ret
  exact ⟨rfl, (Below.refl _ _).alloc (Nat.le_refl _) _⟩
theorem unit_begins.fit {m f c i : Int} (ht : ∃ kind, unit_tab kind = some (m, f, c)) (h0 : 0 ≤ i) (h1 : i ≤ c) : 0 ≤ m * i ∧ m * i ≤ 1000000000 ∧ 0 ≤ f ∧ f ≤ 1000 := by
  obtain ⟨kind, ht⟩ := ht
  rcases unit_tab.cases ht with ⟨rfl, rfl, rfl, rfl⟩ | ⟨rfl, rfl, rfl, rfl⟩ | ⟨rfl, rfl, rfl, rfl⟩ | ⟨rfl, rfl, rfl, rfl⟩ | ⟨rfl, rfl, rfl, rfl⟩ <;> omega
theorem unit_tab.fit {kind m f c : Int} (ht : unit_tab kind = some (m, f, c)) : (1 ≤ m ∧ m ≤ 10000 ∧ 0 ≤ f ∧ f ≤ 1000) ∧ 100 ≤ c ∧ c ≤ 120000 := by
  rcases unit_tab.cases ht with ⟨rfl, rfl, rfl, rfl⟩ | ⟨rfl, rfl, rfl, rfl⟩ | ⟨rfl, rfl, rfl, rfl⟩ | ⟨rfl, rfl, rfl, rfl⟩ | ⟨rfl, rfl, rfl, rfl⟩ <;> omega

/-! ### unit_Count: function 9 -/
def unit_Count.f (kind : Int) : Option Int := if kind = 0 then some 3652425 else match unit_tab kind with | some (_, _, c) => some c | none => some 0
theorem unit_Count.calls (a0 r : Int) (w : World) (h : unit_Count.f a0 = some r) (hT : LenTab w) :
    Calls Tryd.prog 9 #[.int .i64 a0] w fun e w' => e = .returned (.int .i64 r) ∧ Below w.heap.size w w' := by
  unfold unit_Count.f at h
  by_cases h0 : a0 = 0
  · rw [if_pos h0] at h
    obtain rfl := Option.some.inj h
    subst h0
    clear h
    go_enter Tryd.func9, Tryd.ntmps9
    go_wp2_with fail
    refine (unit_find.calls0 _).mono ?_
    rintro e w1 ⟨rfl, b1⟩
    have s1 := b1.size
    go_wp2_with fail
    go_ret
    exact ⟨rfl, b1.alloc s1 _⟩
  · rw [if_neg h0] at h
    cases ht : unit_tab a0 with
    | none =>
      rw [ht] at h
      obtain rfl := Option.some.inj h
      have hk := unit_tab.none ht h0
      clear h ht h0
      go_enter Tryd.func9, Tryd.ntmps9
      go_wp2_with fail
      refine (unit_find.callsNo _ _ hk).mono ?_
      rintro e w1 ⟨rfl, b1⟩
      have s1 := b1.size
      go_wp2_with fail
      go_ret
      exact ⟨rfl, b1.alloc s1 _⟩
    | some t =>
      obtain ⟨m, f, c⟩ := t
      rw [ht] at h
      obtain rfl := Option.some.inj h
      have HT := Lib.hid ht
      clear h ht h0
      go_enter Tryd.func9, Tryd.ntmps9
      go_wp2_with fail
      refine (unit_find.span HT.out _).mono ?_
      rintro e w1 ⟨B, rfl, hs, b1⟩
      have s1 := b1.size
      go_wp2_with fail
      go_ret
      exact ⟨rfl, b1.alloc s1 _⟩

/-! ### unit_First: function 10 -/
def unit_First.f (kind i : Int) : Option (Int × Bool) := if kind = 0 then (if 0 ≤ i ∧ i < 3652425 then some (i, true) else some (0, false)) else match unit_tab kind with
  | some (m, f, c) => if 0 ≤ i ∧ i < c then (unit_begins.f m f i).bind fun t => some (t, true) else some (0, false)
  | none => some (0, false)
set_option maxHeartbeats 1000000 in
theorem unit_First.calls (a0 a1 r1 : Int) (r2 : Bool) (w : World) (h : unit_First.f a0 a1 = some (r1, r2)) (hT : LenTab w) :
    Calls Tryd.prog 10 #[.int .i64 a0, .int .i64 a1] w fun e w' => e = .returned (.tuple #[.int .i64 r1, .bool r2]) ∧ Below w.heap.size w w' := by
  unfold unit_First.f at h
  by_cases h0 : a0 = 0
  · rw [if_pos h0] at h
    subst h0
    by_cases hi : 0 ≤ a1 ∧ a1 < 3652425
    · rw [if_pos hi] at h
      simp only [Option.some.injEq, Prod.mk.injEq] at h
      obtain ⟨rfl, rfl⟩ := h
      obtain ⟨i0, i1⟩ := hi
      go_enter Tryd.func10, Tryd.ntmps10
      go_wp2_with fail
      refine (unit_find.calls0 _).mono ?_
      rintro e w1 ⟨rfl, b1⟩
      have s1 := b1.size
      go_wp2_with fail
      refine (unit_begins.day _ _).mono ?_
      rintro e w2 ⟨rfl, b2⟩
      go_wp2_with fail
      go_ret2
      exact ⟨rfl, (b1.alloc s1 _).trans (b2.mono (by simp; omega))⟩
    · rw [if_neg hi] at h
      simp only [Option.some.injEq, Prod.mk.injEq] at h
      obtain ⟨rfl, rfl⟩ := h
      by_cases i0 : a1 < 0
      all_goals
        (try have i1 : 3652425 ≤ a1 := by omega)
        clear hi
        go_enter Tryd.func10, Tryd.ntmps10
        go_wp2_with fail
        refine (unit_find.calls0 _).mono ?_
        rintro e w1 ⟨rfl, b1⟩
        have s1 := b1.size
        go_wp2_with fail
        go_ret2
        exact ⟨rfl, b1.alloc s1 _⟩
  · rw [if_neg h0] at h
    cases ht : unit_tab a0 with
    | none =>
      rw [ht] at h
      simp only [Option.some.injEq, Prod.mk.injEq] at h
      obtain ⟨rfl, rfl⟩ := h
      have hk := unit_tab.none ht h0
      clear ht h0
      go_enter Tryd.func10, Tryd.ntmps10
      go_wp2_with fail
      refine (unit_find.callsNo _ _ hk).mono ?_
      rintro e w1 ⟨rfl, b1⟩
      have s1 := b1.size
      go_wp2_with fail
      go_ret2
      exact ⟨rfl, b1.alloc s1 _⟩
    | some t =>
      obtain ⟨m, f, c⟩ := t
      rw [ht] at h
      simp only at h
      have HT := Lib.hid ht
      clear ht h0
      by_cases hi : 0 ≤ a1 ∧ a1 < c
      · rw [if_pos hi] at h
        obtain ⟨t, hb, h⟩ := Option.bind_eq_some_iff.mp h
        simp only [Option.some.injEq, Prod.mk.injEq] at h
        obtain ⟨rfl, rfl⟩ := h
        obtain ⟨i0, i1⟩ := hi
        have HB := Lib.hid hb
        clear hb
        go_enter Tryd.func10, Tryd.ntmps10
        go_wp2_with fail
        refine (unit_find.span HT.out _).mono ?_
        rintro e w1 ⟨B, rfl, hs, b1⟩
        have s1 := b1.size
        have hT1 := hT.below (b1.alloc s1 (Obj.cells #[.int .i64 c, .func (Fn.func 25) #[] #[.pointer (some ⟨B + 2, 0, none⟩), .pointer (some ⟨B, 0, none⟩)], .func (Fn.func 26) #[] #[.pointer (some ⟨B + 3, 0, none⟩), .pointer (some ⟨B, 0, none⟩)]] 32))
        go_wp2_with fail
        refine (unit_begins.cl _ _ _ _ _ _ _ HB.out (unit_begins.fit ⟨_, HT.out⟩ i0 (by omega)) hT1 (hs.alloc _)).mono ?_
        rintro e w2 ⟨rfl, b2⟩
        go_wp2_with fail
        go_ret2
        exact ⟨rfl, (b1.alloc s1 _).trans (b2.mono (by simp; omega))⟩
      · rw [if_neg hi] at h
        simp only [Option.some.injEq, Prod.mk.injEq] at h
        obtain ⟨rfl, rfl⟩ := h
        by_cases i0 : a1 < 0
        all_goals
          (try have i1 : c ≤ a1 := by omega)
          clear hi
          go_enter Tryd.func10, Tryd.ntmps10
          go_wp2_with fail
          refine (unit_find.span HT.out _).mono ?_
          rintro e w1 ⟨B, rfl, hs, b1⟩
          have s1 := b1.size
          go_wp2_with fail
          go_ret2
          exact ⟨rfl, b1.alloc s1 _⟩

/-! ### unit_Last: function 11 -/
def unit_Last.f (kind i : Int) : Option (Int × Bool) := if kind = 0 then (if 0 ≤ i ∧ i < 3652425 then some (i, true) else some (0, false)) else match unit_tab kind with
  | some (m, f, c) => if 0 ≤ i ∧ i < c then (if i = c - 1 then some (3652424, true) else (unit_begins.f m f (i + 1)).bind fun t => if 0 ≤ t ∧ t ≤ 10000000 then some (t - 1, true) else none) else some (0, false)
  | none => some (0, false)
set_option maxHeartbeats 1000000 in
theorem unit_Last.calls (a0 a1 r1 : Int) (r2 : Bool) (w : World) (h : unit_Last.f a0 a1 = some (r1, r2)) (hT : LenTab w) :
    Calls Tryd.prog 11 #[.int .i64 a0, .int .i64 a1] w fun e w' => e = .returned (.tuple #[.int .i64 r1, .bool r2]) ∧ Below w.heap.size w w' := by
  unfold unit_Last.f at h
  by_cases h0 : a0 = 0
  · rw [if_pos h0] at h
    subst h0
    by_cases hi : 0 ≤ a1 ∧ a1 < 3652425
    · rw [if_pos hi] at h
      simp only [Option.some.injEq, Prod.mk.injEq] at h
      obtain ⟨rfl, rfl⟩ := h
      obtain ⟨i0, i1⟩ := hi
      by_cases hl : a1 = 3652424
      · subst hl
        clear i0 i1
        go_enter Tryd.func11, Tryd.ntmps11
        go_wp2_with fail
        refine (unit_find.calls0 _).mono ?_
        rintro e w1 ⟨rfl, b1⟩
        have s1 := b1.size
        go_wp2_with fail
        go_ret2
        exact ⟨rfl, b1.alloc s1 _⟩
      · have hl' : (a1 == 3652424) = false := beq_eq_false_iff_ne.mpr hl
        have i2 : a1 < 3652424 := by omega
        clear i1 hl
        go_enter Tryd.func11, Tryd.ntmps11
        go_wp2_with fail
        refine (unit_find.calls0 _).mono ?_
        rintro e w1 ⟨rfl, b1⟩
        have s1 := b1.size
        go_wp2_with fail
        refine (unit_begins.day _ _).mono ?_
        rintro e w2 ⟨rfl, b2⟩
        go_wp2_with fail
        go_ret2
        exact ⟨by first | rfl | (rw [show a1 + 1 - 1 = a1 by omega]; rfl), (b1.alloc s1 _).trans (b2.mono (by simp; omega))⟩
    · rw [if_neg hi] at h
      simp only [Option.some.injEq, Prod.mk.injEq] at h
      obtain ⟨rfl, rfl⟩ := h
      by_cases i0 : a1 < 0
      all_goals
        (try have i1 : 3652425 ≤ a1 := by omega)
        clear hi
        go_enter Tryd.func11, Tryd.ntmps11
        go_wp2_with fail
        refine (unit_find.calls0 _).mono ?_
        rintro e w1 ⟨rfl, b1⟩
        have s1 := b1.size
        go_wp2_with fail
        go_ret2
        exact ⟨rfl, b1.alloc s1 _⟩
  · rw [if_neg h0] at h
    cases ht : unit_tab a0 with
    | none =>
      rw [ht] at h
      simp only [Option.some.injEq, Prod.mk.injEq] at h
      obtain ⟨rfl, rfl⟩ := h
      have hk := unit_tab.none ht h0
      clear ht h0
      go_enter Tryd.func11, Tryd.ntmps11
      go_wp2_with fail
      refine (unit_find.callsNo _ _ hk).mono ?_
      rintro e w1 ⟨rfl, b1⟩
      have s1 := b1.size
      go_wp2_with fail
      go_ret2
      exact ⟨rfl, b1.alloc s1 _⟩
    | some t =>
      obtain ⟨m, f, c⟩ := t
      rw [ht] at h
      simp only at h
      have HT := Lib.hid ht
      clear ht h0
      by_cases hi : 0 ≤ a1 ∧ a1 < c
      · rw [if_pos hi] at h
        obtain ⟨i0, i1⟩ := hi
        have HF := Lib.hid (unit_tab.fit HT.out)
        have c1 := HF.out.2.1
        have c2 := HF.out.2.2
        by_cases hl : a1 = c - 1
        · rw [if_pos hl] at h
          simp only [Option.some.injEq, Prod.mk.injEq] at h
          obtain ⟨rfl, rfl⟩ := h
          subst hl
          have hl' : ((c - 1) == (c - 1)) = true := beq_self_eq_true _
          clear hl' i0 i1
          have i0 : 0 ≤ c - 1 := by omega
          go_enter Tryd.func11, Tryd.ntmps11
          go_wp2_with fail
          refine (unit_find.span HT.out _).mono ?_
          rintro e w1 ⟨B, rfl, hs, b1⟩
          have s1 := b1.size
          go_wp2_with fail
          go_ret2
          exact ⟨rfl, b1.alloc s1 _⟩
        · rw [if_neg hl] at h
          obtain ⟨t, hb, h⟩ := Option.bind_eq_some_iff.mp h
          split at h
          case isFalse => cases h
          rename_i ht
          obtain ⟨t0, t1⟩ := ht
          simp only [Option.some.injEq, Prod.mk.injEq] at h
          obtain ⟨rfl, rfl⟩ := h
          have HB := Lib.hid hb
          have hl' : (a1 == c - 1) = false := beq_eq_false_iff_ne.mpr hl
          clear hb hl
          go_enter Tryd.func11, Tryd.ntmps11
          go_wp2_with fail
          refine (unit_find.span HT.out _).mono ?_
          rintro e w1 ⟨B, rfl, hs, b1⟩
          have s1 := b1.size
          have hT1 := hT.below (b1.alloc s1 (Obj.cells #[.int .i64 c, .func (Fn.func 25) #[] #[.pointer (some ⟨B + 2, 0, none⟩), .pointer (some ⟨B, 0, none⟩)], .func (Fn.func 26) #[] #[.pointer (some ⟨B + 3, 0, none⟩), .pointer (some ⟨B, 0, none⟩)]] 32))
          go_wp2_with fail
          refine (unit_begins.cl _ _ _ _ _ _ _ HB.out (unit_begins.fit ⟨_, HT.out⟩ (by omega) (by omega)) hT1 (hs.alloc _)).mono ?_
          rintro e w2 ⟨rfl, b2⟩
          go_wp2_with fail
          go_ret2
          exact ⟨rfl, (b1.alloc s1 _).trans (b2.mono (by simp; omega))⟩
      · rw [if_neg hi] at h
        simp only [Option.some.injEq, Prod.mk.injEq] at h
        obtain ⟨rfl, rfl⟩ := h
        by_cases i0 : a1 < 0
        all_goals
          (try have i1 : c ≤ a1 := by omega)
          clear hi
          go_enter Tryd.func11, Tryd.ntmps11
          go_wp2_with fail
          refine (unit_find.span HT.out _).mono ?_
          rintro e w1 ⟨B, rfl, hs, b1⟩
          have s1 := b1.size
          go_wp2_with fail
          go_ret2
          exact ⟨rfl, b1.alloc s1 _⟩


/-! ### unit_Of: function 12 -/
def unit_Of.f (kind day : Int) : Option (Int × Bool) := if 0 ≤ day ∧ day ≤ 3652424 then (if kind = 0 then some (day, true) else match unit_tab kind with
  | some (m, f, _) => (unit_number.f m f day).bind fun n => some (if n ≥ 0 then (n, true) else (0, false))
  | none => some (0, false)) else some (0, false)
set_option maxHeartbeats 1000000 in
theorem unit_Of.calls (a0 a1 r1 : Int) (r2 : Bool) (w : World) (h : unit_Of.f a0 a1 = some (r1, r2)) (hT : LenTab w) :
    Calls Tryd.prog 12 #[.int .i64 a0, .int .i64 a1] w fun e w' => e = .returned (.tuple #[.int .i64 r1, .bool r2]) ∧ Below w.heap.size w w' := by
  unfold unit_Of.f at h
  by_cases hi : 0 ≤ a1 ∧ a1 ≤ 3652424
  · rw [if_pos hi] at h
    obtain ⟨i0, i1⟩ := hi
    by_cases h0 : a0 = 0
    · rw [if_pos h0] at h
      subst h0
      simp only [Option.some.injEq, Prod.mk.injEq] at h
      obtain ⟨rfl, rfl⟩ := h
      go_enter Tryd.func12, Tryd.ntmps12
      go_wp2_with fail
      refine (unit_find.calls0 _).mono ?_
      rintro e w1 ⟨rfl, b1⟩
      have s1 := b1.size
      go_wp2_with fail
      refine (unit_number.day _ _).mono ?_
      rintro e w2 ⟨rfl, b2⟩
      go_wp2_with fail
      go_ret2
      exact ⟨by first | rfl | (rw [show mx a1 0 = a1 by unfold mx; rw [if_neg (by omega)]]; rfl), (b1.alloc s1 _).trans (b2.mono (by simp; omega))⟩
    · rw [if_neg h0] at h
      cases ht : unit_tab a0 with
      | none =>
        rw [ht] at h
        simp only [Option.some.injEq, Prod.mk.injEq] at h
        obtain ⟨rfl, rfl⟩ := h
        have hk := unit_tab.none ht h0
        clear ht h0
        go_enter Tryd.func12, Tryd.ntmps12
        go_wp2_with fail
        refine (unit_find.callsNo _ _ hk).mono ?_
        rintro e w1 ⟨rfl, b1⟩
        have s1 := b1.size
        go_wp2_with fail
        go_ret2
        exact ⟨rfl, b1.alloc s1 _⟩
      | some t =>
        obtain ⟨m, f, c⟩ := t
        rw [ht] at h
        simp only at h
        have HT := Lib.hid ht
        clear ht h0
        obtain ⟨n, hb, h⟩ := Option.bind_eq_some_iff.mp h
        have HB := Lib.hid hb
        have HF := Lib.hid (unit_tab.fit HT.out).1
        clear hb
        by_cases hn : n ≥ 0
        · rw [if_pos hn] at h
          simp only [Option.some.injEq, Prod.mk.injEq] at h
          obtain ⟨rfl, rfl⟩ := h
          go_enter Tryd.func12, Tryd.ntmps12
          go_wp2_with fail
          refine (unit_find.span HT.out _).mono ?_
          rintro e w1 ⟨B, rfl, hs, b1⟩
          have s1 := b1.size
          go_wp2_with fail
          refine (unit_number.cl _ _ _ _ _ _ _ HB.out HF.out (hs.alloc _)).mono ?_
          rintro e w2 ⟨rfl, b2⟩
          go_wp2_with fail
          go_ret2
          exact ⟨by first | rfl | (rw [show mx n 0 = n by unfold mx; rw [if_neg (by omega)]]; rfl), (b1.alloc s1 _).trans (b2.mono (by simp; omega))⟩
        · rw [if_neg hn] at h
          simp only [Option.some.injEq, Prod.mk.injEq] at h
          obtain ⟨rfl, rfl⟩ := h
          have hn' : decide (0 ≤ n) = false := decide_eq_false hn
          have hn'' : n < 0 := by omega
          go_enter Tryd.func12, Tryd.ntmps12
          go_wp2_with fail
          refine (unit_find.span HT.out _).mono ?_
          rintro e w1 ⟨B, rfl, hs, b1⟩
          have s1 := b1.size
          go_wp2_with fail
          refine (unit_number.cl _ _ _ _ _ _ _ HB.out HF.out (hs.alloc _)).mono ?_
          rintro e w2 ⟨rfl, b2⟩
          go_wp2_with fail
          go_ret2
          exact ⟨by first | rfl | (rw [hn']; rfl) | (rw [show mx n 0 = 0 by unfold mx; rw [if_pos (by omega)]]; rfl), (b1.alloc s1 _).trans (b2.mono (by simp; omega))⟩
  · rw [if_neg hi] at h
    simp only [Option.some.injEq, Prod.mk.injEq] at h
    obtain ⟨rfl, rfl⟩ := h
    by_cases i0 : a1 < 0
    all_goals
      (try have i1 : 3652424 < a1 := by omega)
      clear hi
      by_cases h0 : a0 = 0
    all_goals
      first
      | (subst h0
         go_enter Tryd.func12, Tryd.ntmps12
         go_wp2_with fail
         refine (unit_find.calls0 _).mono ?_
         rintro e w1 ⟨rfl, b1⟩
         have s1 := b1.size
         go_wp2_with fail
         go_ret2
         exact ⟨rfl, b1.alloc s1 _⟩)
      | (cases ht : unit_tab a0 with
         | none =>
           have hk := unit_tab.none ht h0
           clear ht h0
           go_enter Tryd.func12, Tryd.ntmps12
           go_wp2_with fail
           refine (unit_find.callsNo _ _ hk).mono ?_
           rintro e w1 ⟨rfl, b1⟩
           have s1 := b1.size
           go_wp2_with fail
           go_ret2
           exact ⟨rfl, b1.alloc s1 _⟩
         | some t =>
           obtain ⟨m, f, c⟩ := t
           have HT := Lib.hid ht
           clear ht h0
           go_enter Tryd.func12, Tryd.ntmps12
           go_wp2_with fail
           refine (unit_find.span HT.out _).mono ?_
           rintro e w1 ⟨B, rfl, hs, b1⟩
           have s1 := b1.size
           go_wp2_with fail
           go_ret2
           exact ⟨rfl, b1.alloc s1 _⟩)

/-! ### lustrumlaw03_awake: function 8 -/
def lustrumlaw03_awake.f  : Option (Bool) := (unit_First.f 2 7999).bind fun bt112 => ((unit_Last.f 2 7999).bind fun bt114 => ((unit_Of.f 4 730485).bind fun bt116 => (if bt112.2 = true then (if bt114.2 = true then (if bt112.1 = 730454 then (if bt114.1 = 730544 then (if bt116.2 = true then (if bt116.1 = 200 then ((unit_Count.f 1).bind fun t118 => (some (t118 == 120000))) else (some false)) else (some false)) else (some false)) else (some false)) else (some false)) else (some false))))
set_option maxHeartbeats 8000000 in
set_option maxRecDepth 100000 in
theorem lustrumlaw03_awake.calls  (r : Bool) (w : World) (h : lustrumlaw03_awake.f  = some r) (hT : LenTab w) :
    Calls Tryd.prog 8 #[] w fun e w' => e = .returned (.bool r) ∧ Below w.heap.size w w' := by
  have HB := Aside0.mk (Below.refl w.heap.size w)
  have H : ((unit_First.f 2 7999).bind fun bt112 => ((unit_Last.f 2 7999).bind fun bt114 => ((unit_Of.f 4 730485).bind fun bt116 => (if bt112.2 = true then (if bt114.2 = true then (if bt112.1 = 730454 then (if bt114.1 = 730544 then (if bt116.2 = true then (if bt116.1 = 200 then ((unit_Count.f 1).bind fun t118 => (some (t118 == 120000))) else (some false)) else (some false)) else (some false)) else (some false)) else (some false)) else (some false))))) = some r := h
  clear h
  replace H := Option.bind_eq_some_iff.mp H
  obtain ⟨⟨t112, t113⟩, A10, H⟩ := H
  replace H : ((unit_Last.f 2 7999).bind fun bt114 => ((unit_Of.f 4 730485).bind fun bt116 => (if t113 = true then (if bt114.2 = true then (if t112 = 730454 then (if bt114.1 = 730544 then (if bt116.2 = true then (if bt116.1 = 200 then ((unit_Count.f 1).bind fun t118 => (some (t118 == 120000))) else (some false)) else (some false)) else (some false)) else (some false)) else (some false)) else (some false)))) = some r := H
  have A1 := Aside0.mk A10
  clear A10
  replace H := Option.bind_eq_some_iff.mp H
  obtain ⟨⟨t114, t115⟩, A20, H⟩ := H
  replace H : ((unit_Of.f 4 730485).bind fun bt116 => (if t113 = true then (if t115 = true then (if t112 = 730454 then (if t114 = 730544 then (if bt116.2 = true then (if bt116.1 = 200 then ((unit_Count.f 1).bind fun t118 => (some (t118 == 120000))) else (some false)) else (some false)) else (some false)) else (some false)) else (some false)) else (some false))) = some r := H
  have A2 := Aside0.mk A20
  clear A20
  replace H := Option.bind_eq_some_iff.mp H
  obtain ⟨⟨t116, t117⟩, A30, H⟩ := H
  replace H : (if t113 = true then (if t115 = true then (if t112 = 730454 then (if t114 = 730544 then (if t117 = true then (if t116 = 200 then ((unit_Count.f 1).bind fun t118 => (some (t118 == 120000))) else (some false)) else (some false)) else (some false)) else (some false)) else (some false)) else (some false)) = some r := H
  have A3 := Aside0.mk A30
  clear A30
  by_cases c4 : t113 = true
  · subst c4
    have H1 : (if t115 = true then (if t112 = 730454 then (if t114 = 730544 then (if t117 = true then (if t116 = 200 then ((unit_Count.f 1).bind fun t118 => (some (t118 == 120000))) else (some false)) else (some false)) else (some false)) else (some false)) else (some false)) = some r := by rw [if_pos rfl] at H; exact H
    clear H
    have H := H1
    clear H1
    by_cases c5 : t115 = true
    · subst c5
      have H1 : (if t112 = 730454 then (if t114 = 730544 then (if t117 = true then (if t116 = 200 then ((unit_Count.f 1).bind fun t118 => (some (t118 == 120000))) else (some false)) else (some false)) else (some false)) else (some false)) = some r := by rw [if_pos rfl] at H; exact H
      clear H
      have H := H1
      clear H1
      by_cases c6 : t112 = 730454
      · rw [if_pos c6] at H
        have c6b0 : (t112 == 730454) = true := beq_iff_eq.mpr c6
        have c6b1 : (t112 != 730454) = false := bne_eq_false_iff_eq.mpr c6
        clear c6
        by_cases c7 : t114 = 730544
        · rw [if_pos c7] at H
          have c7b0 : (t114 == 730544) = true := beq_iff_eq.mpr c7
          have c7b1 : (t114 != 730544) = false := bne_eq_false_iff_eq.mpr c7
          clear c7
          by_cases c8 : t117 = true
          · subst c8
            have H1 : (if t116 = 200 then ((unit_Count.f 1).bind fun t118 => (some (t118 == 120000))) else (some false)) = some r := by rw [if_pos rfl] at H; exact H
            clear H
            have H := H1
            clear H1
            by_cases c9 : t116 = 200
            · rw [if_pos c9] at H
              have c9b0 : (t116 == 200) = true := beq_iff_eq.mpr c9
              have c9b1 : (t116 != 200) = false := bne_eq_false_iff_eq.mpr c9
              clear c9
              replace H := Option.bind_eq_some_iff.mp H
              obtain ⟨t118, A100, H⟩ := H
              replace H : (some (t118 == 120000)) = some r := H
              have A10 := Aside0.mk A100
              clear A100
              obtain rfl := Option.some.inj H
              go_enter Tryd.func8, Tryd.ntmps8
              go_wp2_with (first | ((with_reducible refine gate_callee (f := 10) rfl ?_); refine goesL_ (some 8) rfl rfl Tryd.func10 (by kernel_rfl) rfl #[.int .i64 2, .int .i64 7999] rfl (by (try simp only [List.map_toArray, List.map_cons, List.map_nil]); first | done | rfl | (simp only [List.length_drop, List.length_take]; rfl)) ?_; (with_reducible refine (unit_First.calls 2 7999 t112 true _ A1.out (by first | exact hT | ((repeat (first | exact hT | apply LenTab.drewN)); done) | (refine LenTab.below hT ?_; repeat (first | (with_reducible first | exact HB.out | apply below_alloc | apply pw_below_drewN | apply below_drew1) | exact HB.out)))).mono ?_); rintro e w11 ⟨rfl, hb⟩; refine ⟨_, rfl, ?_⟩; have n0_ := Aside0.mk (below_step (by repeat (first | (with_reducible first | exact HB.out | apply below_alloc | apply pw_below_drewN | apply below_drew1) | exact HB.out)) hb); clear HB; have HB := n0_; clear n0_; (try clear hb); (try clear hb2); (try clear hk); (try clear hi)) | ((with_reducible refine gate_callee (f := 11) rfl ?_); refine goesL_ (some 12) rfl rfl Tryd.func11 (by kernel_rfl) rfl #[.int .i64 2, .int .i64 7999] rfl (by (try simp only [List.map_toArray, List.map_cons, List.map_nil]); first | done | rfl | (simp only [List.length_drop, List.length_take]; rfl)) ?_; (with_reducible refine (unit_Last.calls 2 7999 t114 true _ A2.out (by first | exact hT | ((repeat (first | exact hT | apply LenTab.drewN)); done) | (refine LenTab.below hT ?_; repeat (first | (with_reducible first | exact HB.out | apply below_alloc | apply pw_below_drewN | apply below_drew1) | exact HB.out)))).mono ?_); rintro e w12 ⟨rfl, hb⟩; refine ⟨_, rfl, ?_⟩; have n0_ := Aside0.mk (below_step (by repeat (first | (with_reducible first | exact HB.out | apply below_alloc | apply pw_below_drewN | apply below_drew1) | exact HB.out)) hb); clear HB; have HB := n0_; clear n0_; (try clear hb); (try clear hb2); (try clear hk); (try clear hi)) | ((with_reducible refine gate_callee (f := 12) rfl ?_); refine goesL_ (some 16) rfl rfl Tryd.func12 (by kernel_rfl) rfl #[.int .i64 4, .int .i64 730485] rfl (by (try simp only [List.map_toArray, List.map_cons, List.map_nil]); first | done | rfl | (simp only [List.length_drop, List.length_take]; rfl)) ?_; (with_reducible refine (unit_Of.calls 4 730485 t116 true _ A3.out (by first | exact hT | ((repeat (first | exact hT | apply LenTab.drewN)); done) | (refine LenTab.below hT ?_; repeat (first | (with_reducible first | exact HB.out | apply below_alloc | apply pw_below_drewN | apply below_drew1) | exact HB.out)))).mono ?_); rintro e w13 ⟨rfl, hb⟩; refine ⟨_, rfl, ?_⟩; have n0_ := Aside0.mk (below_step (by repeat (first | (with_reducible first | exact HB.out | apply below_alloc | apply pw_below_drewN | apply below_drew1) | exact HB.out)) hb); clear HB; have HB := n0_; clear n0_; (try clear hb); (try clear hb2); (try clear hk); (try clear hi)) | (go_at_call 9; (with_reducible refine (unit_Count.calls 1 t118 _ A10.out (by first | exact hT | ((repeat (first | exact hT | apply LenTab.drewN)); done) | (refine LenTab.below hT ?_; repeat (first | (with_reducible first | exact HB.out | apply below_alloc | apply pw_below_drewN | apply below_drew1) | exact HB.out)))).mono ?_); rintro e w14 ⟨rfl, hb⟩; have n0_ := Aside0.mk (below_step (by repeat (first | (with_reducible first | exact HB.out | apply below_alloc | apply pw_below_drewN | apply below_drew1) | exact HB.out)) hb); clear HB; have HB := n0_; clear n0_; (try clear hb); (try clear hb2); (try clear hk); (try clear hi)))
              go_ret
              exact ⟨by first | rfl | (simp [errW_none, errW_some] <;> rfl) | (simp [*, errW_none, errW_some] <;> rfl), by repeat (first | (with_reducible first | exact HB.out | apply below_alloc | apply pw_below_drewN | apply below_drew1) | exact HB.out)⟩
            · rw [if_neg c9] at H
              have c9b0 : (t116 == 200) = false := beq_eq_false_iff_ne.mpr c9
              have c9b1 : (t116 != 200) = true := bne_iff_ne.mpr c9
              obtain rfl := Option.some.inj H
              go_enter Tryd.func8, Tryd.ntmps8
              go_wp2_with (first | ((with_reducible refine gate_callee (f := 10) rfl ?_); refine goesL_ (some 8) rfl rfl Tryd.func10 (by kernel_rfl) rfl #[.int .i64 2, .int .i64 7999] rfl (by (try simp only [List.map_toArray, List.map_cons, List.map_nil]); first | done | rfl | (simp only [List.length_drop, List.length_take]; rfl)) ?_; (with_reducible refine (unit_First.calls 2 7999 t112 true _ A1.out (by first | exact hT | ((repeat (first | exact hT | apply LenTab.drewN)); done) | (refine LenTab.below hT ?_; repeat (first | (with_reducible first | exact HB.out | apply below_alloc | apply pw_below_drewN | apply below_drew1) | exact HB.out)))).mono ?_); rintro e w15 ⟨rfl, hb⟩; refine ⟨_, rfl, ?_⟩; have n0_ := Aside0.mk (below_step (by repeat (first | (with_reducible first | exact HB.out | apply below_alloc | apply pw_below_drewN | apply below_drew1) | exact HB.out)) hb); clear HB; have HB := n0_; clear n0_; (try clear hb); (try clear hb2); (try clear hk); (try clear hi)) | ((with_reducible refine gate_callee (f := 11) rfl ?_); refine goesL_ (some 12) rfl rfl Tryd.func11 (by kernel_rfl) rfl #[.int .i64 2, .int .i64 7999] rfl (by (try simp only [List.map_toArray, List.map_cons, List.map_nil]); first | done | rfl | (simp only [List.length_drop, List.length_take]; rfl)) ?_; (with_reducible refine (unit_Last.calls 2 7999 t114 true _ A2.out (by first | exact hT | ((repeat (first | exact hT | apply LenTab.drewN)); done) | (refine LenTab.below hT ?_; repeat (first | (with_reducible first | exact HB.out | apply below_alloc | apply pw_below_drewN | apply below_drew1) | exact HB.out)))).mono ?_); rintro e w16 ⟨rfl, hb⟩; refine ⟨_, rfl, ?_⟩; have n0_ := Aside0.mk (below_step (by repeat (first | (with_reducible first | exact HB.out | apply below_alloc | apply pw_below_drewN | apply below_drew1) | exact HB.out)) hb); clear HB; have HB := n0_; clear n0_; (try clear hb); (try clear hb2); (try clear hk); (try clear hi)) | ((with_reducible refine gate_callee (f := 12) rfl ?_); refine goesL_ (some 16) rfl rfl Tryd.func12 (by kernel_rfl) rfl #[.int .i64 4, .int .i64 730485] rfl (by (try simp only [List.map_toArray, List.map_cons, List.map_nil]); first | done | rfl | (simp only [List.length_drop, List.length_take]; rfl)) ?_; (with_reducible refine (unit_Of.calls 4 730485 t116 true _ A3.out (by first | exact hT | ((repeat (first | exact hT | apply LenTab.drewN)); done) | (refine LenTab.below hT ?_; repeat (first | (with_reducible first | exact HB.out | apply below_alloc | apply pw_below_drewN | apply below_drew1) | exact HB.out)))).mono ?_); rintro e w17 ⟨rfl, hb⟩; refine ⟨_, rfl, ?_⟩; have n0_ := Aside0.mk (below_step (by repeat (first | (with_reducible first | exact HB.out | apply below_alloc | apply pw_below_drewN | apply below_drew1) | exact HB.out)) hb); clear HB; have HB := n0_; clear n0_; (try clear hb); (try clear hb2); (try clear hk); (try clear hi)))
              go_ret
              exact ⟨by first | rfl | (simp [errW_none, errW_some] <;> rfl) | (simp [*, errW_none, errW_some] <;> rfl), by repeat (first | (with_reducible first | exact HB.out | apply below_alloc | apply pw_below_drewN | apply below_drew1) | exact HB.out)⟩
          · replace c8 := Bool.eq_false_iff.mpr c8
            subst c8
            have H1 : (some false) = some r := by rw [if_neg (show ¬ (false = true) by decide)] at H; exact H
            clear H
            have H := H1
            clear H1
            obtain rfl := Option.some.inj H
            go_enter Tryd.func8, Tryd.ntmps8
            go_wp2_with (first | ((with_reducible refine gate_callee (f := 10) rfl ?_); refine goesL_ (some 8) rfl rfl Tryd.func10 (by kernel_rfl) rfl #[.int .i64 2, .int .i64 7999] rfl (by (try simp only [List.map_toArray, List.map_cons, List.map_nil]); first | done | rfl | (simp only [List.length_drop, List.length_take]; rfl)) ?_; (with_reducible refine (unit_First.calls 2 7999 t112 true _ A1.out (by first | exact hT | ((repeat (first | exact hT | apply LenTab.drewN)); done) | (refine LenTab.below hT ?_; repeat (first | (with_reducible first | exact HB.out | apply below_alloc | apply pw_below_drewN | apply below_drew1) | exact HB.out)))).mono ?_); rintro e w18 ⟨rfl, hb⟩; refine ⟨_, rfl, ?_⟩; have n0_ := Aside0.mk (below_step (by repeat (first | (with_reducible first | exact HB.out | apply below_alloc | apply pw_below_drewN | apply below_drew1) | exact HB.out)) hb); clear HB; have HB := n0_; clear n0_; (try clear hb); (try clear hb2); (try clear hk); (try clear hi)) | ((with_reducible refine gate_callee (f := 11) rfl ?_); refine goesL_ (some 12) rfl rfl Tryd.func11 (by kernel_rfl) rfl #[.int .i64 2, .int .i64 7999] rfl (by (try simp only [List.map_toArray, List.map_cons, List.map_nil]); first | done | rfl | (simp only [List.length_drop, List.length_take]; rfl)) ?_; (with_reducible refine (unit_Last.calls 2 7999 t114 true _ A2.out (by first | exact hT | ((repeat (first | exact hT | apply LenTab.drewN)); done) | (refine LenTab.below hT ?_; repeat (first | (with_reducible first | exact HB.out | apply below_alloc | apply pw_below_drewN | apply below_drew1) | exact HB.out)))).mono ?_); rintro e w19 ⟨rfl, hb⟩; refine ⟨_, rfl, ?_⟩; have n0_ := Aside0.mk (below_step (by repeat (first | (with_reducible first | exact HB.out | apply below_alloc | apply pw_below_drewN | apply below_drew1) | exact HB.out)) hb); clear HB; have HB := n0_; clear n0_; (try clear hb); (try clear hb2); (try clear hk); (try clear hi)) | ((with_reducible refine gate_callee (f := 12) rfl ?_); refine goesL_ (some 16) rfl rfl Tryd.func12 (by kernel_rfl) rfl #[.int .i64 4, .int .i64 730485] rfl (by (try simp only [List.map_toArray, List.map_cons, List.map_nil]); first | done | rfl | (simp only [List.length_drop, List.length_take]; rfl)) ?_; (with_reducible refine (unit_Of.calls 4 730485 t116 false _ A3.out (by first | exact hT | ((repeat (first | exact hT | apply LenTab.drewN)); done) | (refine LenTab.below hT ?_; repeat (first | (with_reducible first | exact HB.out | apply below_alloc | apply pw_below_drewN | apply below_drew1) | exact HB.out)))).mono ?_); rintro e w20 ⟨rfl, hb⟩; refine ⟨_, rfl, ?_⟩; have n0_ := Aside0.mk (below_step (by repeat (first | (with_reducible first | exact HB.out | apply below_alloc | apply pw_below_drewN | apply below_drew1) | exact HB.out)) hb); clear HB; have HB := n0_; clear n0_; (try clear hb); (try clear hb2); (try clear hk); (try clear hi)))
            go_ret
            exact ⟨by first | rfl | (simp [errW_none, errW_some] <;> rfl) | (simp [*, errW_none, errW_some] <;> rfl), by repeat (first | (with_reducible first | exact HB.out | apply below_alloc | apply pw_below_drewN | apply below_drew1) | exact HB.out)⟩
        · rw [if_neg c7] at H
          have c7b0 : (t114 == 730544) = false := beq_eq_false_iff_ne.mpr c7
          have c7b1 : (t114 != 730544) = true := bne_iff_ne.mpr c7
          obtain rfl := Option.some.inj H
          go_enter Tryd.func8, Tryd.ntmps8
          go_wp2_with (first | ((with_reducible refine gate_callee (f := 10) rfl ?_); refine goesL_ (some 8) rfl rfl Tryd.func10 (by kernel_rfl) rfl #[.int .i64 2, .int .i64 7999] rfl (by (try simp only [List.map_toArray, List.map_cons, List.map_nil]); first | done | rfl | (simp only [List.length_drop, List.length_take]; rfl)) ?_; (with_reducible refine (unit_First.calls 2 7999 t112 true _ A1.out (by first | exact hT | ((repeat (first | exact hT | apply LenTab.drewN)); done) | (refine LenTab.below hT ?_; repeat (first | (with_reducible first | exact HB.out | apply below_alloc | apply pw_below_drewN | apply below_drew1) | exact HB.out)))).mono ?_); rintro e w21 ⟨rfl, hb⟩; refine ⟨_, rfl, ?_⟩; have n0_ := Aside0.mk (below_step (by repeat (first | (with_reducible first | exact HB.out | apply below_alloc | apply pw_below_drewN | apply below_drew1) | exact HB.out)) hb); clear HB; have HB := n0_; clear n0_; (try clear hb); (try clear hb2); (try clear hk); (try clear hi)) | ((with_reducible refine gate_callee (f := 11) rfl ?_); refine goesL_ (some 12) rfl rfl Tryd.func11 (by kernel_rfl) rfl #[.int .i64 2, .int .i64 7999] rfl (by (try simp only [List.map_toArray, List.map_cons, List.map_nil]); first | done | rfl | (simp only [List.length_drop, List.length_take]; rfl)) ?_; (with_reducible refine (unit_Last.calls 2 7999 t114 true _ A2.out (by first | exact hT | ((repeat (first | exact hT | apply LenTab.drewN)); done) | (refine LenTab.below hT ?_; repeat (first | (with_reducible first | exact HB.out | apply below_alloc | apply pw_below_drewN | apply below_drew1) | exact HB.out)))).mono ?_); rintro e w22 ⟨rfl, hb⟩; refine ⟨_, rfl, ?_⟩; have n0_ := Aside0.mk (below_step (by repeat (first | (with_reducible first | exact HB.out | apply below_alloc | apply pw_below_drewN | apply below_drew1) | exact HB.out)) hb); clear HB; have HB := n0_; clear n0_; (try clear hb); (try clear hb2); (try clear hk); (try clear hi)) | ((with_reducible refine gate_callee (f := 12) rfl ?_); refine goesL_ (some 16) rfl rfl Tryd.func12 (by kernel_rfl) rfl #[.int .i64 4, .int .i64 730485] rfl (by (try simp only [List.map_toArray, List.map_cons, List.map_nil]); first | done | rfl | (simp only [List.length_drop, List.length_take]; rfl)) ?_; (with_reducible refine (unit_Of.calls 4 730485 t116 t117 _ A3.out (by first | exact hT | ((repeat (first | exact hT | apply LenTab.drewN)); done) | (refine LenTab.below hT ?_; repeat (first | (with_reducible first | exact HB.out | apply below_alloc | apply pw_below_drewN | apply below_drew1) | exact HB.out)))).mono ?_); rintro e w23 ⟨rfl, hb⟩; refine ⟨_, rfl, ?_⟩; have n0_ := Aside0.mk (below_step (by repeat (first | (with_reducible first | exact HB.out | apply below_alloc | apply pw_below_drewN | apply below_drew1) | exact HB.out)) hb); clear HB; have HB := n0_; clear n0_; (try clear hb); (try clear hb2); (try clear hk); (try clear hi)))
          go_ret
          exact ⟨by first | rfl | (simp [errW_none, errW_some] <;> rfl) | (simp [*, errW_none, errW_some] <;> rfl), by repeat (first | (with_reducible first | exact HB.out | apply below_alloc | apply pw_below_drewN | apply below_drew1) | exact HB.out)⟩
      · rw [if_neg c6] at H
        have c6b0 : (t112 == 730454) = false := beq_eq_false_iff_ne.mpr c6
        have c6b1 : (t112 != 730454) = true := bne_iff_ne.mpr c6
        obtain rfl := Option.some.inj H
        go_enter Tryd.func8, Tryd.ntmps8
        go_wp2_with (first | ((with_reducible refine gate_callee (f := 10) rfl ?_); refine goesL_ (some 8) rfl rfl Tryd.func10 (by kernel_rfl) rfl #[.int .i64 2, .int .i64 7999] rfl (by (try simp only [List.map_toArray, List.map_cons, List.map_nil]); first | done | rfl | (simp only [List.length_drop, List.length_take]; rfl)) ?_; (with_reducible refine (unit_First.calls 2 7999 t112 true _ A1.out (by first | exact hT | ((repeat (first | exact hT | apply LenTab.drewN)); done) | (refine LenTab.below hT ?_; repeat (first | (with_reducible first | exact HB.out | apply below_alloc | apply pw_below_drewN | apply below_drew1) | exact HB.out)))).mono ?_); rintro e w24 ⟨rfl, hb⟩; refine ⟨_, rfl, ?_⟩; have n0_ := Aside0.mk (below_step (by repeat (first | (with_reducible first | exact HB.out | apply below_alloc | apply pw_below_drewN | apply below_drew1) | exact HB.out)) hb); clear HB; have HB := n0_; clear n0_; (try clear hb); (try clear hb2); (try clear hk); (try clear hi)) | ((with_reducible refine gate_callee (f := 11) rfl ?_); refine goesL_ (some 12) rfl rfl Tryd.func11 (by kernel_rfl) rfl #[.int .i64 2, .int .i64 7999] rfl (by (try simp only [List.map_toArray, List.map_cons, List.map_nil]); first | done | rfl | (simp only [List.length_drop, List.length_take]; rfl)) ?_; (with_reducible refine (unit_Last.calls 2 7999 t114 true _ A2.out (by first | exact hT | ((repeat (first | exact hT | apply LenTab.drewN)); done) | (refine LenTab.below hT ?_; repeat (first | (with_reducible first | exact HB.out | apply below_alloc | apply pw_below_drewN | apply below_drew1) | exact HB.out)))).mono ?_); rintro e w25 ⟨rfl, hb⟩; refine ⟨_, rfl, ?_⟩; have n0_ := Aside0.mk (below_step (by repeat (first | (with_reducible first | exact HB.out | apply below_alloc | apply pw_below_drewN | apply below_drew1) | exact HB.out)) hb); clear HB; have HB := n0_; clear n0_; (try clear hb); (try clear hb2); (try clear hk); (try clear hi)) | ((with_reducible refine gate_callee (f := 12) rfl ?_); refine goesL_ (some 16) rfl rfl Tryd.func12 (by kernel_rfl) rfl #[.int .i64 4, .int .i64 730485] rfl (by (try simp only [List.map_toArray, List.map_cons, List.map_nil]); first | done | rfl | (simp only [List.length_drop, List.length_take]; rfl)) ?_; (with_reducible refine (unit_Of.calls 4 730485 t116 t117 _ A3.out (by first | exact hT | ((repeat (first | exact hT | apply LenTab.drewN)); done) | (refine LenTab.below hT ?_; repeat (first | (with_reducible first | exact HB.out | apply below_alloc | apply pw_below_drewN | apply below_drew1) | exact HB.out)))).mono ?_); rintro e w26 ⟨rfl, hb⟩; refine ⟨_, rfl, ?_⟩; have n0_ := Aside0.mk (below_step (by repeat (first | (with_reducible first | exact HB.out | apply below_alloc | apply pw_below_drewN | apply below_drew1) | exact HB.out)) hb); clear HB; have HB := n0_; clear n0_; (try clear hb); (try clear hb2); (try clear hk); (try clear hi)))
        go_ret
        exact ⟨by first | rfl | (simp [errW_none, errW_some] <;> rfl) | (simp [*, errW_none, errW_some] <;> rfl), by repeat (first | (with_reducible first | exact HB.out | apply below_alloc | apply pw_below_drewN | apply below_drew1) | exact HB.out)⟩
    · replace c5 := Bool.eq_false_iff.mpr c5
      subst c5
      have H1 : (some false) = some r := by rw [if_neg (show ¬ (false = true) by decide)] at H; exact H
      clear H
      have H := H1
      clear H1
      obtain rfl := Option.some.inj H
      go_enter Tryd.func8, Tryd.ntmps8
      go_wp2_with (first | ((with_reducible refine gate_callee (f := 10) rfl ?_); refine goesL_ (some 8) rfl rfl Tryd.func10 (by kernel_rfl) rfl #[.int .i64 2, .int .i64 7999] rfl (by (try simp only [List.map_toArray, List.map_cons, List.map_nil]); first | done | rfl | (simp only [List.length_drop, List.length_take]; rfl)) ?_; (with_reducible refine (unit_First.calls 2 7999 t112 true _ A1.out (by first | exact hT | ((repeat (first | exact hT | apply LenTab.drewN)); done) | (refine LenTab.below hT ?_; repeat (first | (with_reducible first | exact HB.out | apply below_alloc | apply pw_below_drewN | apply below_drew1) | exact HB.out)))).mono ?_); rintro e w27 ⟨rfl, hb⟩; refine ⟨_, rfl, ?_⟩; have n0_ := Aside0.mk (below_step (by repeat (first | (with_reducible first | exact HB.out | apply below_alloc | apply pw_below_drewN | apply below_drew1) | exact HB.out)) hb); clear HB; have HB := n0_; clear n0_; (try clear hb); (try clear hb2); (try clear hk); (try clear hi)) | ((with_reducible refine gate_callee (f := 11) rfl ?_); refine goesL_ (some 12) rfl rfl Tryd.func11 (by kernel_rfl) rfl #[.int .i64 2, .int .i64 7999] rfl (by (try simp only [List.map_toArray, List.map_cons, List.map_nil]); first | done | rfl | (simp only [List.length_drop, List.length_take]; rfl)) ?_; (with_reducible refine (unit_Last.calls 2 7999 t114 false _ A2.out (by first | exact hT | ((repeat (first | exact hT | apply LenTab.drewN)); done) | (refine LenTab.below hT ?_; repeat (first | (with_reducible first | exact HB.out | apply below_alloc | apply pw_below_drewN | apply below_drew1) | exact HB.out)))).mono ?_); rintro e w28 ⟨rfl, hb⟩; refine ⟨_, rfl, ?_⟩; have n0_ := Aside0.mk (below_step (by repeat (first | (with_reducible first | exact HB.out | apply below_alloc | apply pw_below_drewN | apply below_drew1) | exact HB.out)) hb); clear HB; have HB := n0_; clear n0_; (try clear hb); (try clear hb2); (try clear hk); (try clear hi)) | ((with_reducible refine gate_callee (f := 12) rfl ?_); refine goesL_ (some 16) rfl rfl Tryd.func12 (by kernel_rfl) rfl #[.int .i64 4, .int .i64 730485] rfl (by (try simp only [List.map_toArray, List.map_cons, List.map_nil]); first | done | rfl | (simp only [List.length_drop, List.length_take]; rfl)) ?_; (with_reducible refine (unit_Of.calls 4 730485 t116 t117 _ A3.out (by first | exact hT | ((repeat (first | exact hT | apply LenTab.drewN)); done) | (refine LenTab.below hT ?_; repeat (first | (with_reducible first | exact HB.out | apply below_alloc | apply pw_below_drewN | apply below_drew1) | exact HB.out)))).mono ?_); rintro e w29 ⟨rfl, hb⟩; refine ⟨_, rfl, ?_⟩; have n0_ := Aside0.mk (below_step (by repeat (first | (with_reducible first | exact HB.out | apply below_alloc | apply pw_below_drewN | apply below_drew1) | exact HB.out)) hb); clear HB; have HB := n0_; clear n0_; (try clear hb); (try clear hb2); (try clear hk); (try clear hi)))
      go_ret
      exact ⟨by first | rfl | (simp [errW_none, errW_some] <;> rfl) | (simp [*, errW_none, errW_some] <;> rfl), by repeat (first | (with_reducible first | exact HB.out | apply below_alloc | apply pw_below_drewN | apply below_drew1) | exact HB.out)⟩
  · replace c4 := Bool.eq_false_iff.mpr c4
    subst c4
    have H1 : (some false) = some r := by rw [if_neg (show ¬ (false = true) by decide)] at H; exact H
    clear H
    have H := H1
    clear H1
    obtain rfl := Option.some.inj H
    go_enter Tryd.func8, Tryd.ntmps8
    go_wp2_with (first | ((with_reducible refine gate_callee (f := 10) rfl ?_); refine goesL_ (some 8) rfl rfl Tryd.func10 (by kernel_rfl) rfl #[.int .i64 2, .int .i64 7999] rfl (by (try simp only [List.map_toArray, List.map_cons, List.map_nil]); first | done | rfl | (simp only [List.length_drop, List.length_take]; rfl)) ?_; (with_reducible refine (unit_First.calls 2 7999 t112 false _ A1.out (by first | exact hT | ((repeat (first | exact hT | apply LenTab.drewN)); done) | (refine LenTab.below hT ?_; repeat (first | (with_reducible first | exact HB.out | apply below_alloc | apply pw_below_drewN | apply below_drew1) | exact HB.out)))).mono ?_); rintro e w30 ⟨rfl, hb⟩; refine ⟨_, rfl, ?_⟩; have n0_ := Aside0.mk (below_step (by repeat (first | (with_reducible first | exact HB.out | apply below_alloc | apply pw_below_drewN | apply below_drew1) | exact HB.out)) hb); clear HB; have HB := n0_; clear n0_; (try clear hb); (try clear hb2); (try clear hk); (try clear hi)) | ((with_reducible refine gate_callee (f := 11) rfl ?_); refine goesL_ (some 12) rfl rfl Tryd.func11 (by kernel_rfl) rfl #[.int .i64 2, .int .i64 7999] rfl (by (try simp only [List.map_toArray, List.map_cons, List.map_nil]); first | done | rfl | (simp only [List.length_drop, List.length_take]; rfl)) ?_; (with_reducible refine (unit_Last.calls 2 7999 t114 t115 _ A2.out (by first | exact hT | ((repeat (first | exact hT | apply LenTab.drewN)); done) | (refine LenTab.below hT ?_; repeat (first | (with_reducible first | exact HB.out | apply below_alloc | apply pw_below_drewN | apply below_drew1) | exact HB.out)))).mono ?_); rintro e w31 ⟨rfl, hb⟩; refine ⟨_, rfl, ?_⟩; have n0_ := Aside0.mk (below_step (by repeat (first | (with_reducible first | exact HB.out | apply below_alloc | apply pw_below_drewN | apply below_drew1) | exact HB.out)) hb); clear HB; have HB := n0_; clear n0_; (try clear hb); (try clear hb2); (try clear hk); (try clear hi)) | ((with_reducible refine gate_callee (f := 12) rfl ?_); refine goesL_ (some 16) rfl rfl Tryd.func12 (by kernel_rfl) rfl #[.int .i64 4, .int .i64 730485] rfl (by (try simp only [List.map_toArray, List.map_cons, List.map_nil]); first | done | rfl | (simp only [List.length_drop, List.length_take]; rfl)) ?_; (with_reducible refine (unit_Of.calls 4 730485 t116 t117 _ A3.out (by first | exact hT | ((repeat (first | exact hT | apply LenTab.drewN)); done) | (refine LenTab.below hT ?_; repeat (first | (with_reducible first | exact HB.out | apply below_alloc | apply pw_below_drewN | apply below_drew1) | exact HB.out)))).mono ?_); rintro e w32 ⟨rfl, hb⟩; refine ⟨_, rfl, ?_⟩; have n0_ := Aside0.mk (below_step (by repeat (first | (with_reducible first | exact HB.out | apply below_alloc | apply pw_below_drewN | apply below_drew1) | exact HB.out)) hb); clear HB; have HB := n0_; clear n0_; (try clear hb); (try clear hb2); (try clear hk); (try clear hi)))
    go_ret
    exact ⟨by first | rfl | (simp [errW_none, errW_some] <;> rfl) | (simp [*, errW_none, errW_some] <;> rfl), by repeat (first | (with_reducible first | exact HB.out | apply below_alloc | apply pw_below_drewN | apply below_drew1) | exact HB.out)⟩

/-! ### lustrumlaw03_UnitRows: function 3 -/
def lustrumlaw03_UnitRows.j0 : Nat → Int → Int → Bool → Int → Int → Bool → Int → Bool → Option (Bool)
  | 0, _, _, _, _, _, _, _, _ => none
  | k + 1, x0, x1, x5, x6, x7, x8, x9, x41 => if x41 = true then (some false) else (if x8 = true then (if x1 = 0 then (if x7 = 0 then (if x1 = (wrap64 (x6 - 1)) then (if x9 = 3652424 then (if x7 > x9 then (some false) else ((unit_First.f x0 (wrap64 (x1 + 1))).bind fun bt125 => (if x5 = true then (if (bt125.2 == (decide (x1 < (wrap64 (x6 - 1))))) = true then (if bt125.2 = true then (some (bt125.1 == (wrap64 (x9 + 1)))) else (some true)) else (some false)) else (some false)))) else (some false)) else (if x7 > x9 then (some false) else ((unit_First.f x0 (wrap64 (x1 + 1))).bind fun bt127 => (if x5 = true then (if (bt127.2 == (decide (x1 < (wrap64 (x6 - 1))))) = true then (if bt127.2 = true then (some (bt127.1 == (wrap64 (x9 + 1)))) else (some true)) else (some false)) else (some false))))) else (if x0 = 2 then (if x7 = 60 then (if x1 = (wrap64 (x6 - 1)) then (if x9 = 3652424 then (if x7 > x9 then (some false) else ((unit_First.f x0 (wrap64 (x1 + 1))).bind fun bt129 => (if x5 = true then (if (bt129.2 == (decide (x1 < (wrap64 (x6 - 1))))) = true then (if bt129.2 = true then (some (bt129.1 == (wrap64 (x9 + 1)))) else (some true)) else (some false)) else (some false)))) else (some false)) else (if x7 > x9 then (some false) else ((unit_First.f x0 (wrap64 (x1 + 1))).bind fun bt131 => (if x5 = true then (if (bt131.2 == (decide (x1 < (wrap64 (x6 - 1))))) = true then (if bt131.2 = true then (some (bt131.1 == (wrap64 (x9 + 1)))) else (some true)) else (some false)) else (some false))))) else (some false)) else (some false))) else (if x1 = (wrap64 (x6 - 1)) then (if x9 = 3652424 then (if x7 > x9 then (some false) else ((unit_First.f x0 (wrap64 (x1 + 1))).bind fun bt133 => (if x5 = true then (if (bt133.2 == (decide (x1 < (wrap64 (x6 - 1))))) = true then (if bt133.2 = true then (some (bt133.1 == (wrap64 (x9 + 1)))) else (some true)) else (some false)) else (some false)))) else (some false)) else (if x7 > x9 then (some false) else ((unit_First.f x0 (wrap64 (x1 + 1))).bind fun bt135 => (if x5 = true then (if (bt135.2 == (decide (x1 < (wrap64 (x6 - 1))))) = true then (if bt135.2 = true then (some (bt135.1 == (wrap64 (x9 + 1)))) else (some true)) else (some false)) else (some false)))))) else (if x5 = true then (if x7 = 0 then (some (x9 == 0)) else (some false)) else (some false)))
def lustrumlaw03_UnitRows.f (k : Nat) (a0 : Int) (a1 : Int) : Option (Bool) := (lustrumlaw03_awake.f).bind fun t119 => ((unit_Count.f a0).bind fun t120 => ((unit_First.f a0 a1).bind fun bt121 => ((unit_Last.f a0 a1).bind fun bt123 => (if a1 ≥ 0 then (if (bt121.2 != (decide (a1 < t120))) = true then (lustrumlaw03_UnitRows.j0 k a0 a1 t119 t120 bt121.1 bt121.2 bt123.1 true) else (lustrumlaw03_UnitRows.j0 k a0 a1 t119 t120 bt121.1 bt121.2 bt123.1 (bt123.2 != bt121.2))) else (if (bt121.2 != false) = true then (lustrumlaw03_UnitRows.j0 k a0 a1 t119 t120 bt121.1 bt121.2 bt123.1 true) else (lustrumlaw03_UnitRows.j0 k a0 a1 t119 t120 bt121.1 bt121.2 bt123.1 (bt123.2 != bt121.2)))))))
theorem lustrumlaw03_UnitRows.mono_l : ∀ k, (∀ y0 y1 y2 y3 y4 y5 y6 y7, LeO (lustrumlaw03_UnitRows.j0 k y0 y1 y2 y3 y4 y5 y6 y7) (lustrumlaw03_UnitRows.j0 (k + 1) y0 y1 y2 y3 y4 y5 y6 y7))
  | 0 => fun _ _ _ _ _ _ _ _ r h => by simp [lustrumlaw03_UnitRows.j0] at h
  | k + 1 => by
    have ih0 := lustrumlaw03_UnitRows.mono_l k
    · intro y0 y1 y2 y3 y4 y5 y6 y7
      unfold lustrumlaw03_UnitRows.j0
      repeat' first
      | (with_reducible exact ih0 _ _ _ _ _ _ _ _)
      | (with_reducible exact LeO.refl _)
      | (with_reducible exact LeO.none _)
      | (with_reducible refine LeO.ite ?_ ?_)
      | (with_reducible refine LeO.bind ?_ (fun _ => ?_))
      | exact ih0 _ _ _ _ _ _ _ _
      | exact LeO.none _
      | refine LeO.ite ?_ ?_
      | refine LeO.bind ?_ (fun _ => ?_)
theorem lustrumlaw03_UnitRows.mono : ∀ a0 a1 k, LeO (lustrumlaw03_UnitRows.f k a0 a1) (lustrumlaw03_UnitRows.f (k + 1) a0 a1) := by
  intro a0 a1 k
  have ih0 := lustrumlaw03_UnitRows.mono_l k
  unfold lustrumlaw03_UnitRows.f
  repeat' first
      | (with_reducible exact ih0 _ _ _ _ _ _ _ _)
      | (with_reducible exact LeO.refl _)
      | (with_reducible exact LeO.none _)
      | (with_reducible refine LeO.ite ?_ ?_)
      | (with_reducible refine LeO.bind ?_ (fun _ => ?_))
      | exact ih0 _ _ _ _ _ _ _ _
      | exact LeO.none _
      | refine LeO.ite ?_ ?_
      | refine LeO.bind ?_ (fun _ => ?_)
set_option maxHeartbeats 8000000 in
set_option maxRecDepth 100000 in
theorem lustrumlaw03_UnitRows.calls (k : Nat) (a0 : Int) (a1 : Int) (r : Bool) (w : World) (h : lustrumlaw03_UnitRows.f k a0 a1 = some r) (hT : LenTab w) :
    Calls Tryd.prog 3 #[.int .i64 a0, .int .i64 a1] w fun e w' => e = .returned (.bool r) ∧ Below w.heap.size w w' := by
  have HB := Aside0.mk (Below.refl w.heap.size w)
  have H : ((lustrumlaw03_awake.f).bind fun t119 => ((unit_Count.f a0).bind fun t120 => ((unit_First.f a0 a1).bind fun bt121 => ((unit_Last.f a0 a1).bind fun bt123 => (if a1 ≥ 0 then (if (bt121.2 != (decide (a1 < t120))) = true then (lustrumlaw03_UnitRows.j0 k a0 a1 t119 t120 bt121.1 bt121.2 bt123.1 true) else (lustrumlaw03_UnitRows.j0 k a0 a1 t119 t120 bt121.1 bt121.2 bt123.1 (bt123.2 != bt121.2))) else (if (bt121.2 != false) = true then (lustrumlaw03_UnitRows.j0 k a0 a1 t119 t120 bt121.1 bt121.2 bt123.1 true) else (lustrumlaw03_UnitRows.j0 k a0 a1 t119 t120 bt121.1 bt121.2 bt123.1 (bt123.2 != bt121.2)))))))) = some r := h
  clear h
  replace H := Option.bind_eq_some_iff.mp H
  obtain ⟨t119, A30, H⟩ := H
  replace H : ((unit_Count.f a0).bind fun t120 => ((unit_First.f a0 a1).bind fun bt121 => ((unit_Last.f a0 a1).bind fun bt123 => (if a1 ≥ 0 then (if (bt121.2 != (decide (a1 < t120))) = true then (lustrumlaw03_UnitRows.j0 k a0 a1 t119 t120 bt121.1 bt121.2 bt123.1 true) else (lustrumlaw03_UnitRows.j0 k a0 a1 t119 t120 bt121.1 bt121.2 bt123.1 (bt123.2 != bt121.2))) else (if (bt121.2 != false) = true then (lustrumlaw03_UnitRows.j0 k a0 a1 t119 t120 bt121.1 bt121.2 bt123.1 true) else (lustrumlaw03_UnitRows.j0 k a0 a1 t119 t120 bt121.1 bt121.2 bt123.1 (bt123.2 != bt121.2))))))) = some r := H
  have A3 := Aside0.mk A30
  clear A30
  replace H := Option.bind_eq_some_iff.mp H
  obtain ⟨t120, A40, H⟩ := H
  replace H : ((unit_First.f a0 a1).bind fun bt121 => ((unit_Last.f a0 a1).bind fun bt123 => (if a1 ≥ 0 then (if (bt121.2 != (decide (a1 < t120))) = true then (lustrumlaw03_UnitRows.j0 k a0 a1 t119 t120 bt121.1 bt121.2 bt123.1 true) else (lustrumlaw03_UnitRows.j0 k a0 a1 t119 t120 bt121.1 bt121.2 bt123.1 (bt123.2 != bt121.2))) else (if (bt121.2 != false) = true then (lustrumlaw03_UnitRows.j0 k a0 a1 t119 t120 bt121.1 bt121.2 bt123.1 true) else (lustrumlaw03_UnitRows.j0 k a0 a1 t119 t120 bt121.1 bt121.2 bt123.1 (bt123.2 != bt121.2)))))) = some r := H
  have A4 := Aside0.mk A40
  clear A40
  replace H := Option.bind_eq_some_iff.mp H
  obtain ⟨⟨t121, t122⟩, A50, H⟩ := H
  replace H : ((unit_Last.f a0 a1).bind fun bt123 => (if a1 ≥ 0 then (if (t122 != (decide (a1 < t120))) = true then (lustrumlaw03_UnitRows.j0 k a0 a1 t119 t120 t121 t122 bt123.1 true) else (lustrumlaw03_UnitRows.j0 k a0 a1 t119 t120 t121 t122 bt123.1 (bt123.2 != t122))) else (if (t122 != false) = true then (lustrumlaw03_UnitRows.j0 k a0 a1 t119 t120 t121 t122 bt123.1 true) else (lustrumlaw03_UnitRows.j0 k a0 a1 t119 t120 t121 t122 bt123.1 (bt123.2 != t122))))) = some r := H
  have A5 := Aside0.mk A50
  clear A50
  replace H := Option.bind_eq_some_iff.mp H
  obtain ⟨⟨t123, t124⟩, A60, H⟩ := H
  replace H : (if a1 ≥ 0 then (if (t122 != (decide (a1 < t120))) = true then (lustrumlaw03_UnitRows.j0 k a0 a1 t119 t120 t121 t122 t123 true) else (lustrumlaw03_UnitRows.j0 k a0 a1 t119 t120 t121 t122 t123 (t124 != t122))) else (if (t122 != false) = true then (lustrumlaw03_UnitRows.j0 k a0 a1 t119 t120 t121 t122 t123 true) else (lustrumlaw03_UnitRows.j0 k a0 a1 t119 t120 t121 t122 t123 (t124 != t122)))) = some r := H
  have A6 := Aside0.mk A60
  clear A60
  have HC7 := Aside0.mk H
  clear H
  go_enter Tryd.func3, Tryd.ntmps3
  go_upto_region 5 with (first | ((with_reducible refine gate_callee (f := 8) rfl ?_); refine goesL_ (some 13) rfl rfl Tryd.func8 (by kernel_rfl) rfl #[] rfl (by (try simp only [List.map_toArray, List.map_cons, List.map_nil]); first | done | rfl | (simp only [List.length_drop, List.length_take]; rfl)) ?_; (with_reducible refine (lustrumlaw03_awake.calls  t119 _ A3.out (by first | exact hT | ((repeat (first | exact hT | apply LenTab.drewN)); done) | (refine LenTab.below hT ?_; repeat (first | (with_reducible first | exact HB.out | apply below_alloc | apply pw_below_drewN | apply below_drew1) | exact HB.out)))).mono ?_); rintro e w8 ⟨rfl, hb⟩; refine ⟨_, rfl, ?_⟩; have n0_ := Aside0.mk (below_step (by repeat (first | (with_reducible first | exact HB.out | apply below_alloc | apply pw_below_drewN | apply below_drew1) | exact HB.out)) hb); clear HB; have HB := n0_; clear n0_; (try clear hb); (try clear hb2); (try clear hk); (try clear hi)) | ((with_reducible refine gate_callee (f := 9) rfl ?_); refine goesL_ (some 15) rfl rfl Tryd.func9 (by kernel_rfl) rfl #[.int .i64 a0] rfl (by (try simp only [List.map_toArray, List.map_cons, List.map_nil]); first | done | rfl | (simp only [List.length_drop, List.length_take]; rfl)) ?_; (with_reducible refine (unit_Count.calls a0 t120 _ A4.out (by first | exact hT | ((repeat (first | exact hT | apply LenTab.drewN)); done) | (refine LenTab.below hT ?_; repeat (first | (with_reducible first | exact HB.out | apply below_alloc | apply pw_below_drewN | apply below_drew1) | exact HB.out)))).mono ?_); rintro e w9 ⟨rfl, hb⟩; refine ⟨_, rfl, ?_⟩; have n0_ := Aside0.mk (below_step (by repeat (first | (with_reducible first | exact HB.out | apply below_alloc | apply pw_below_drewN | apply below_drew1) | exact HB.out)) hb); clear HB; have HB := n0_; clear n0_; (try clear hb); (try clear hb2); (try clear hk); (try clear hi)) | ((with_reducible refine gate_callee (f := 10) rfl ?_); refine goesL_ (some 19) rfl rfl Tryd.func10 (by kernel_rfl) rfl #[.int .i64 a0, .int .i64 a1] rfl (by (try simp only [List.map_toArray, List.map_cons, List.map_nil]); first | done | rfl | (simp only [List.length_drop, List.length_take]; rfl)) ?_; (with_reducible refine (unit_First.calls a0 a1 t121 t122 _ A5.out (by first | exact hT | ((repeat (first | exact hT | apply LenTab.drewN)); done) | (refine LenTab.below hT ?_; repeat (first | (with_reducible first | exact HB.out | apply below_alloc | apply pw_below_drewN | apply below_drew1) | exact HB.out)))).mono ?_); rintro e w10 ⟨rfl, hb⟩; refine ⟨_, rfl, ?_⟩; have n0_ := Aside0.mk (below_step (by repeat (first | (with_reducible first | exact HB.out | apply below_alloc | apply pw_below_drewN | apply below_drew1) | exact HB.out)) hb); clear HB; have HB := n0_; clear n0_; (try clear hb); (try clear hb2); (try clear hk); (try clear hi)) | ((with_reducible refine gate_callee (f := 11) rfl ?_); refine goesL_ (some 25) rfl rfl Tryd.func11 (by kernel_rfl) rfl #[.int .i64 a0, .int .i64 a1] rfl (by (try simp only [List.map_toArray, List.map_cons, List.map_nil]); first | done | rfl | (simp only [List.length_drop, List.length_take]; rfl)) ?_; (with_reducible refine (unit_Last.calls a0 a1 t123 t124 _ A6.out (by first | exact hT | ((repeat (first | exact hT | apply LenTab.drewN)); done) | (refine LenTab.below hT ?_; repeat (first | (with_reducible first | exact HB.out | apply below_alloc | apply pw_below_drewN | apply below_drew1) | exact HB.out)))).mono ?_); rintro e w11 ⟨rfl, hb⟩; refine ⟨_, rfl, ?_⟩; have n0_ := Aside0.mk (below_step (by repeat (first | (with_reducible first | exact HB.out | apply below_alloc | apply pw_below_drewN | apply below_drew1) | exact HB.out)) hb); clear HB; have HB := n0_; clear n0_; (try clear hb); (try clear hb2); (try clear hk); (try clear hi)))
  (try simp only [Act.put, List.setIfInBounds_toArray, List.set_cons_zero, List.set_cons_succ])
  go_cut [41] (fun v41 wc => ∃ (kq : Nat) (x41_6 : Bool), v41 = .bool x41_6 ∧ Aside0 (lustrumlaw03_UnitRows.j0 kq a0 a1 t119 t120 t121 t122 t123 x41_6 = some r) ∧ Aside0 (kq ≤ k) ∧ Aside0 (Below w.heap.size w wc))
  case first =>
    have H := HC7.out
    clear HC7
    by_cases c12 : a1 ≥ 0
    · rw [if_pos c12] at H
      have c12b0 : decide (0 ≤ a1) = true := decide_eq_true c12
      clear c12
      (first | rw [c12b0] | (simp only [i64_w, i32_w]; rw [c12b0]) | skip)
      by_cases c13 : (t122 != (decide (a1 < t120))) = true
      · rw [if_pos c13] at H
        have c13b0 : (t122 != (decide (a1 < t120))) = true := c13
        (try (have c13b1 : decide (t122 = (decide (a1 < t120))) = false := by simpa using c13))
        (try (have c13b2 : (t122 == (decide (a1 < t120))) = false := by simpa using c13))
        (try (have c13b3 : ¬ (t122 = (decide (a1 < t120))) := by simpa using c13))
        clear c13
        have H' := Aside0.mk H
        clear H
        go_wp2
        go_meet
        case rel => exact ⟨_, (true), (by first | rfl | (simp; done) | (simp [*]; done)), H', ⟨by first | omega | exact Nat.le_refl _⟩, ⟨by repeat (first | (with_reducible first | exact HB.out | apply below_alloc | apply pw_below_drewN | apply below_drew1) | exact HB.out)⟩⟩
      · rw [if_neg c13] at H
        have c13b0 : (t122 != (decide (a1 < t120))) = false := by simpa using c13
        (try (have c13b1 : decide (t122 = (decide (a1 < t120))) = true := by simpa using c13))
        (try (have c13b2 : (t122 == (decide (a1 < t120))) = true := by simpa using c13))
        clear c13
        have H' := Aside0.mk H
        clear H
        go_wp2
        go_meet
        case rel => exact ⟨_, ((t124 != t122)), (by first | rfl | (simp; done) | (simp [*]; done)), H', ⟨by first | omega | exact Nat.le_refl _⟩, ⟨by repeat (first | (with_reducible first | exact HB.out | apply below_alloc | apply pw_below_drewN | apply below_drew1) | exact HB.out)⟩⟩
    · rw [if_neg c12] at H
      have c12b0 : decide (0 ≤ a1) = false := decide_eq_false c12
      clear c12
      (first | rw [c12b0] | (simp only [i64_w, i32_w]; rw [c12b0]) | skip)
      by_cases c14 : (t122 != false) = true
      · rw [if_pos c14] at H
        have c14b0 : (t122 != false) = true := c14
        (try (have c14b1 : decide (t122 = false) = false := by simpa using c14))
        (try (have c14b2 : (t122 == false) = false := by simpa using c14))
        (try (have c14b3 : ¬ (t122 = false) := by simpa using c14))
        clear c14
        have H' := Aside0.mk H
        clear H
        go_wp2
        go_meet
        case rel => exact ⟨_, (true), (by first | rfl | (simp; done) | (simp [*]; done)), H', ⟨by first | omega | exact Nat.le_refl _⟩, ⟨by repeat (first | (with_reducible first | exact HB.out | apply below_alloc | apply pw_below_drewN | apply below_drew1) | exact HB.out)⟩⟩
      · rw [if_neg c14] at H
        have c14b0 : (t122 != false) = false := by simpa using c14
        (try (have c14b1 : decide (t122 = false) = true := by simpa using c14))
        (try (have c14b2 : (t122 == false) = true := by simpa using c14))
        clear c14
        have H' := Aside0.mk H
        clear H
        go_wp2
        go_meet
        case rel => exact ⟨_, ((t124 != t122)), (by first | rfl | (simp; done) | (simp [*]; done)), H', ⟨by first | omega | exact Nat.le_refl _⟩, ⟨by repeat (first | (with_reducible first | exact HB.out | apply below_alloc | apply pw_below_drewN | apply below_drew1) | exact HB.out)⟩⟩
  case rest =>
    clear HC7
    try clear c1
    try clear p2
    try clear c3
    try clear c8
    try clear c9
    try clear c10
    try clear c11
    try clear c12
    try clear c12b0
    try clear c13
    try clear c13b0
    try clear c13b1
    try clear c13b2
    try clear c14
    try clear c14b0
    try clear c14b1
    try clear c14b2
    obtain ⟨kq, x41_6, rfl, HA, HJ6, HB⟩ := hcut
    cases kq with
    | zero => exact absurd HA.out (by simp [lustrumlaw03_UnitRows.j0])
    | succ kj6 =>
      have H := HA.out
      clear HA
      simp only [lustrumlaw03_UnitRows.j0] at H
      by_cases c15 : x41_6 = true
      · subst c15
        have H1 : (some false) = some r := by rw [if_pos rfl] at H; exact H
        clear H
        have H := H1
        clear H1
        obtain rfl := Option.some.inj H
        go_wp2
        go_ret
        exact ⟨by first | rfl | (simp [errW_none, errW_some] <;> rfl) | (simp [*, errW_none, errW_some] <;> rfl), by repeat (first | (with_reducible first | exact HB.out | apply below_alloc | apply pw_below_drewN | apply below_drew1) | exact HB.out)⟩
      · replace c15 := Bool.eq_false_iff.mpr c15
        subst c15
        have H1 : (if t122 = true then (if a1 = 0 then (if t121 = 0 then (if a1 = (wrap64 (t120 - 1)) then (if t123 = 3652424 then (if t121 > t123 then (some false) else ((unit_First.f a0 (wrap64 (a1 + 1))).bind fun bt125 => (if t119 = true then (if (bt125.2 == (decide (a1 < (wrap64 (t120 - 1))))) = true then (if bt125.2 = true then (some (bt125.1 == (wrap64 (t123 + 1)))) else (some true)) else (some false)) else (some false)))) else (some false)) else (if t121 > t123 then (some false) else ((unit_First.f a0 (wrap64 (a1 + 1))).bind fun bt127 => (if t119 = true then (if (bt127.2 == (decide (a1 < (wrap64 (t120 - 1))))) = true then (if bt127.2 = true then (some (bt127.1 == (wrap64 (t123 + 1)))) else (some true)) else (some false)) else (some false))))) else (if a0 = 2 then (if t121 = 60 then (if a1 = (wrap64 (t120 - 1)) then (if t123 = 3652424 then (if t121 > t123 then (some false) else ((unit_First.f a0 (wrap64 (a1 + 1))).bind fun bt129 => (if t119 = true then (if (bt129.2 == (decide (a1 < (wrap64 (t120 - 1))))) = true then (if bt129.2 = true then (some (bt129.1 == (wrap64 (t123 + 1)))) else (some true)) else (some false)) else (some false)))) else (some false)) else (if t121 > t123 then (some false) else ((unit_First.f a0 (wrap64 (a1 + 1))).bind fun bt131 => (if t119 = true then (if (bt131.2 == (decide (a1 < (wrap64 (t120 - 1))))) = true then (if bt131.2 = true then (some (bt131.1 == (wrap64 (t123 + 1)))) else (some true)) else (some false)) else (some false))))) else (some false)) else (some false))) else (if a1 = (wrap64 (t120 - 1)) then (if t123 = 3652424 then (if t121 > t123 then (some false) else ((unit_First.f a0 (wrap64 (a1 + 1))).bind fun bt133 => (if t119 = true then (if (bt133.2 == (decide (a1 < (wrap64 (t120 - 1))))) = true then (if bt133.2 = true then (some (bt133.1 == (wrap64 (t123 + 1)))) else (some true)) else (some false)) else (some false)))) else (some false)) else (if t121 > t123 then (some false) else ((unit_First.f a0 (wrap64 (a1 + 1))).bind fun bt135 => (if t119 = true then (if (bt135.2 == (decide (a1 < (wrap64 (t120 - 1))))) = true then (if bt135.2 = true then (some (bt135.1 == (wrap64 (t123 + 1)))) else (some true)) else (some false)) else (some false)))))) else (if t119 = true then (if t121 = 0 then (some (t123 == 0)) else (some false)) else (some false))) = some r := by rw [if_neg (show ¬ (false = true) by decide)] at H; exact H
        clear H
        have H := H1
        clear H1
        by_cases c16 : t122 = true
        · subst c16
          have H1 : (if a1 = 0 then (if t121 = 0 then (if a1 = (wrap64 (t120 - 1)) then (if t123 = 3652424 then (if t121 > t123 then (some false) else ((unit_First.f a0 (wrap64 (a1 + 1))).bind fun bt125 => (if t119 = true then (if (bt125.2 == (decide (a1 < (wrap64 (t120 - 1))))) = true then (if bt125.2 = true then (some (bt125.1 == (wrap64 (t123 + 1)))) else (some true)) else (some false)) else (some false)))) else (some false)) else (if t121 > t123 then (some false) else ((unit_First.f a0 (wrap64 (a1 + 1))).bind fun bt127 => (if t119 = true then (if (bt127.2 == (decide (a1 < (wrap64 (t120 - 1))))) = true then (if bt127.2 = true then (some (bt127.1 == (wrap64 (t123 + 1)))) else (some true)) else (some false)) else (some false))))) else (if a0 = 2 then (if t121 = 60 then (if a1 = (wrap64 (t120 - 1)) then (if t123 = 3652424 then (if t121 > t123 then (some false) else ((unit_First.f a0 (wrap64 (a1 + 1))).bind fun bt129 => (if t119 = true then (if (bt129.2 == (decide (a1 < (wrap64 (t120 - 1))))) = true then (if bt129.2 = true then (some (bt129.1 == (wrap64 (t123 + 1)))) else (some true)) else (some false)) else (some false)))) else (some false)) else (if t121 > t123 then (some false) else ((unit_First.f a0 (wrap64 (a1 + 1))).bind fun bt131 => (if t119 = true then (if (bt131.2 == (decide (a1 < (wrap64 (t120 - 1))))) = true then (if bt131.2 = true then (some (bt131.1 == (wrap64 (t123 + 1)))) else (some true)) else (some false)) else (some false))))) else (some false)) else (some false))) else (if a1 = (wrap64 (t120 - 1)) then (if t123 = 3652424 then (if t121 > t123 then (some false) else ((unit_First.f a0 (wrap64 (a1 + 1))).bind fun bt133 => (if t119 = true then (if (bt133.2 == (decide (a1 < (wrap64 (t120 - 1))))) = true then (if bt133.2 = true then (some (bt133.1 == (wrap64 (t123 + 1)))) else (some true)) else (some false)) else (some false)))) else (some false)) else (if t121 > t123 then (some false) else ((unit_First.f a0 (wrap64 (a1 + 1))).bind fun bt135 => (if t119 = true then (if (bt135.2 == (decide (a1 < (wrap64 (t120 - 1))))) = true then (if bt135.2 = true then (some (bt135.1 == (wrap64 (t123 + 1)))) else (some true)) else (some false)) else (some false)))))) = some r := by rw [if_pos rfl] at H; exact H
          clear H
          have H := H1
          clear H1
          by_cases c17 : a1 = 0
          · rw [if_pos c17] at H
            have c17b0 : (a1 == 0) = true := beq_iff_eq.mpr c17
            have c17b1 : (a1 != 0) = false := bne_eq_false_iff_eq.mpr c17
            clear c17
            by_cases c18 : t121 = 0
            · rw [if_pos c18] at H
              have c18b0 : (t121 == 0) = true := beq_iff_eq.mpr c18
              have c18b1 : (t121 != 0) = false := bne_eq_false_iff_eq.mpr c18
              clear c18
              by_cases c19 : a1 = (wrap64 (t120 - 1))
              · rw [if_pos c19] at H
                have c19b0 : (a1 == (wrap64 (t120 - 1))) = true := beq_iff_eq.mpr c19
                have c19b1 : (a1 != (wrap64 (t120 - 1))) = false := bne_eq_false_iff_eq.mpr c19
                clear c19
                by_cases c20 : t123 = 3652424
                · rw [if_pos c20] at H
                  have c20b0 : (t123 == 3652424) = true := beq_iff_eq.mpr c20
                  have c20b1 : (t123 != 3652424) = false := bne_eq_false_iff_eq.mpr c20
                  clear c20
                  by_cases c21 : t121 > t123
                  · rw [if_pos c21] at H
                    have c21b0 : decide (t123 < t121) = true := decide_eq_true c21
                    clear c21
                    obtain rfl := Option.some.inj H
                    go_wp2
                    go_ret
                    exact ⟨by first | rfl | (simp [errW_none, errW_some] <;> rfl) | (simp [*, errW_none, errW_some] <;> rfl), by repeat (first | (with_reducible first | exact HB.out | apply below_alloc | apply pw_below_drewN | apply below_drew1) | exact HB.out)⟩
                  · rw [if_neg c21] at H
                    have c21b0 : decide (t123 < t121) = false := decide_eq_false c21
                    clear c21
                    replace H := Option.bind_eq_some_iff.mp H
                    obtain ⟨⟨t125, t126⟩, A220, H⟩ := H
                    replace H : (if t119 = true then (if (t126 == (decide (a1 < (wrap64 (t120 - 1))))) = true then (if t126 = true then (some (t125 == (wrap64 (t123 + 1)))) else (some true)) else (some false)) else (some false)) = some r := H
                    have A22 := Aside0.mk A220
                    clear A220
                    by_cases c23 : t119 = true
                    · subst c23
                      have H1 : (if (t126 == (decide (a1 < (wrap64 (t120 - 1))))) = true then (if t126 = true then (some (t125 == (wrap64 (t123 + 1)))) else (some true)) else (some false)) = some r := by rw [if_pos rfl] at H; exact H
                      clear H
                      have H := H1
                      clear H1
                      by_cases c24 : (t126 == (decide (a1 < (wrap64 (t120 - 1))))) = true
                      · rw [if_pos c24] at H
                        have c24b0 : (t126 == (decide (a1 < (wrap64 (t120 - 1))))) = true := c24
                        (try (have c24b1 : decide (t126 = (decide (a1 < (wrap64 (t120 - 1))))) = true := by simpa using c24))
                        (try (have c24b2 : (t126 == (decide (a1 < (wrap64 (t120 - 1))))) = true := by simpa using c24))
                        clear c24
                        by_cases c25 : t126 = true
                        · subst c25
                          have H1 : (some (t125 == (wrap64 (t123 + 1)))) = some r := by rw [if_pos rfl] at H; exact H
                          clear H
                          have H := H1
                          clear H1
                          obtain rfl := Option.some.inj H
                          go_wp2_with (first | ((with_reducible refine gate_callee (f := 10) rfl ?_); refine goesL_ (some 86) rfl rfl Tryd.func10 (by kernel_rfl) rfl #[.int .i64 a0, .int .i64 (wrap64 (a1 + 1))] rfl (by (try simp only [List.map_toArray, List.map_cons, List.map_nil]); first | done | rfl | (simp only [List.length_drop, List.length_take]; rfl)) ?_; (with_reducible refine (unit_First.calls a0 (wrap64 (a1 + 1)) t125 true _ A22.out (by first | exact hT | ((repeat (first | exact hT | apply LenTab.drewN)); done) | (refine LenTab.below hT ?_; repeat (first | (with_reducible first | exact HB.out | apply below_alloc | apply pw_below_drewN | apply below_drew1) | exact HB.out)))).mono ?_); rintro e w26 ⟨rfl, hb⟩; refine ⟨_, rfl, ?_⟩; have n0_ := Aside0.mk (below_step (by repeat (first | (with_reducible first | exact HB.out | apply below_alloc | apply pw_below_drewN | apply below_drew1) | exact HB.out)) hb); clear HB; have HB := n0_; clear n0_; (try clear hb); (try clear hb2); (try clear hk); (try clear hi)))
                          go_ret
                          exact ⟨by first | rfl | (simp [errW_none, errW_some] <;> rfl) | (simp [*, errW_none, errW_some] <;> rfl), by repeat (first | (with_reducible first | exact HB.out | apply below_alloc | apply pw_below_drewN | apply below_drew1) | exact HB.out)⟩
                        · replace c25 := Bool.eq_false_iff.mpr c25
                          subst c25
                          have H1 : (some true) = some r := by rw [if_neg (show ¬ (false = true) by decide)] at H; exact H
                          clear H
                          have H := H1
                          clear H1
                          obtain rfl := Option.some.inj H
                          go_wp2_with (first | ((with_reducible refine gate_callee (f := 10) rfl ?_); refine goesL_ (some 86) rfl rfl Tryd.func10 (by kernel_rfl) rfl #[.int .i64 a0, .int .i64 (wrap64 (a1 + 1))] rfl (by (try simp only [List.map_toArray, List.map_cons, List.map_nil]); first | done | rfl | (simp only [List.length_drop, List.length_take]; rfl)) ?_; (with_reducible refine (unit_First.calls a0 (wrap64 (a1 + 1)) t125 false _ A22.out (by first | exact hT | ((repeat (first | exact hT | apply LenTab.drewN)); done) | (refine LenTab.below hT ?_; repeat (first | (with_reducible first | exact HB.out | apply below_alloc | apply pw_below_drewN | apply below_drew1) | exact HB.out)))).mono ?_); rintro e w27 ⟨rfl, hb⟩; refine ⟨_, rfl, ?_⟩; have n0_ := Aside0.mk (below_step (by repeat (first | (with_reducible first | exact HB.out | apply below_alloc | apply pw_below_drewN | apply below_drew1) | exact HB.out)) hb); clear HB; have HB := n0_; clear n0_; (try clear hb); (try clear hb2); (try clear hk); (try clear hi)))
                          go_ret
                          exact ⟨by first | rfl | (simp [errW_none, errW_some] <;> rfl) | (simp [*, errW_none, errW_some] <;> rfl), by repeat (first | (with_reducible first | exact HB.out | apply below_alloc | apply pw_below_drewN | apply below_drew1) | exact HB.out)⟩
                      · rw [if_neg c24] at H
                        have c24b0 : (t126 == (decide (a1 < (wrap64 (t120 - 1))))) = false := by simpa using c24
                        (try (have c24b1 : decide (t126 = (decide (a1 < (wrap64 (t120 - 1))))) = false := by simpa using c24))
                        (try (have c24b2 : (t126 == (decide (a1 < (wrap64 (t120 - 1))))) = false := by simpa using c24))
                        (try (have c24b3 : ¬ (t126 = (decide (a1 < (wrap64 (t120 - 1))))) := by simpa using c24))
                        clear c24
                        obtain rfl := Option.some.inj H
                        go_wp2_with (first | ((with_reducible refine gate_callee (f := 10) rfl ?_); refine goesL_ (some 86) rfl rfl Tryd.func10 (by kernel_rfl) rfl #[.int .i64 a0, .int .i64 (wrap64 (a1 + 1))] rfl (by (try simp only [List.map_toArray, List.map_cons, List.map_nil]); first | done | rfl | (simp only [List.length_drop, List.length_take]; rfl)) ?_; (with_reducible refine (unit_First.calls a0 (wrap64 (a1 + 1)) t125 t126 _ A22.out (by first | exact hT | ((repeat (first | exact hT | apply LenTab.drewN)); done) | (refine LenTab.below hT ?_; repeat (first | (with_reducible first | exact HB.out | apply below_alloc | apply pw_below_drewN | apply below_drew1) | exact HB.out)))).mono ?_); rintro e w28 ⟨rfl, hb⟩; refine ⟨_, rfl, ?_⟩; have n0_ := Aside0.mk (below_step (by repeat (first | (with_reducible first | exact HB.out | apply below_alloc | apply pw_below_drewN | apply below_drew1) | exact HB.out)) hb); clear HB; have HB := n0_; clear n0_; (try clear hb); (try clear hb2); (try clear hk); (try clear hi)))
                        go_ret
                        exact ⟨by first | rfl | (simp [errW_none, errW_some] <;> rfl) | (simp [*, errW_none, errW_some] <;> rfl), by repeat (first | (with_reducible first | exact HB.out | apply below_alloc | apply pw_below_drewN | apply below_drew1) | exact HB.out)⟩
                    · replace c23 := Bool.eq_false_iff.mpr c23
                      subst c23
                      have H1 : (some false) = some r := by rw [if_neg (show ¬ (false = true) by decide)] at H; exact H
                      clear H
                      have H := H1
                      clear H1
                      obtain rfl := Option.some.inj H
                      go_wp2_with (first | ((with_reducible refine gate_callee (f := 10) rfl ?_); refine goesL_ (some 86) rfl rfl Tryd.func10 (by kernel_rfl) rfl #[.int .i64 a0, .int .i64 (wrap64 (a1 + 1))] rfl (by (try simp only [List.map_toArray, List.map_cons, List.map_nil]); first | done | rfl | (simp only [List.length_drop, List.length_take]; rfl)) ?_; (with_reducible refine (unit_First.calls a0 (wrap64 (a1 + 1)) t125 t126 _ A22.out (by first | exact hT | ((repeat (first | exact hT | apply LenTab.drewN)); done) | (refine LenTab.below hT ?_; repeat (first | (with_reducible first | exact HB.out | apply below_alloc | apply pw_below_drewN | apply below_drew1) | exact HB.out)))).mono ?_); rintro e w29 ⟨rfl, hb⟩; refine ⟨_, rfl, ?_⟩; have n0_ := Aside0.mk (below_step (by repeat (first | (with_reducible first | exact HB.out | apply below_alloc | apply pw_below_drewN | apply below_drew1) | exact HB.out)) hb); clear HB; have HB := n0_; clear n0_; (try clear hb); (try clear hb2); (try clear hk); (try clear hi)))
                      go_ret
                      exact ⟨by first | rfl | (simp [errW_none, errW_some] <;> rfl) | (simp [*, errW_none, errW_some] <;> rfl), by repeat (first | (with_reducible first | exact HB.out | apply below_alloc | apply pw_below_drewN | apply below_drew1) | exact HB.out)⟩
                · rw [if_neg c20] at H
                  have c20b0 : (t123 == 3652424) = false := beq_eq_false_iff_ne.mpr c20
                  have c20b1 : (t123 != 3652424) = true := bne_iff_ne.mpr c20
                  obtain rfl := Option.some.inj H
                  go_wp2
                  go_ret
                  exact ⟨by first | rfl | (simp [errW_none, errW_some] <;> rfl) | (simp [*, errW_none, errW_some] <;> rfl), by repeat (first | (with_reducible first | exact HB.out | apply below_alloc | apply pw_below_drewN | apply below_drew1) | exact HB.out)⟩
              · rw [if_neg c19] at H
                have c19b0 : (a1 == (wrap64 (t120 - 1))) = false := beq_eq_false_iff_ne.mpr c19
                have c19b1 : (a1 != (wrap64 (t120 - 1))) = true := bne_iff_ne.mpr c19
                by_cases c30 : t121 > t123
                · rw [if_pos c30] at H
                  have c30b0 : decide (t123 < t121) = true := decide_eq_true c30
                  clear c30
                  obtain rfl := Option.some.inj H
                  go_wp2
                  go_ret
                  exact ⟨by first | rfl | (simp [errW_none, errW_some] <;> rfl) | (simp [*, errW_none, errW_some] <;> rfl), by repeat (first | (with_reducible first | exact HB.out | apply below_alloc | apply pw_below_drewN | apply below_drew1) | exact HB.out)⟩
                · rw [if_neg c30] at H
                  have c30b0 : decide (t123 < t121) = false := decide_eq_false c30
                  clear c30
                  replace H := Option.bind_eq_some_iff.mp H
                  obtain ⟨⟨t127, t128⟩, A310, H⟩ := H
                  replace H : (if t119 = true then (if (t128 == (decide (a1 < (wrap64 (t120 - 1))))) = true then (if t128 = true then (some (t127 == (wrap64 (t123 + 1)))) else (some true)) else (some false)) else (some false)) = some r := H
                  have A31 := Aside0.mk A310
                  clear A310
                  by_cases c32 : t119 = true
                  · subst c32
                    have H1 : (if (t128 == (decide (a1 < (wrap64 (t120 - 1))))) = true then (if t128 = true then (some (t127 == (wrap64 (t123 + 1)))) else (some true)) else (some false)) = some r := by rw [if_pos rfl] at H; exact H
                    clear H
                    have H := H1
                    clear H1
                    by_cases c33 : (t128 == (decide (a1 < (wrap64 (t120 - 1))))) = true
                    · rw [if_pos c33] at H
                      have c33b0 : (t128 == (decide (a1 < (wrap64 (t120 - 1))))) = true := c33
                      (try (have c33b1 : decide (t128 = (decide (a1 < (wrap64 (t120 - 1))))) = true := by simpa using c33))
                      (try (have c33b2 : (t128 == (decide (a1 < (wrap64 (t120 - 1))))) = true := by simpa using c33))
                      clear c33
                      by_cases c34 : t128 = true
                      · subst c34
                        have H1 : (some (t127 == (wrap64 (t123 + 1)))) = some r := by rw [if_pos rfl] at H; exact H
                        clear H
                        have H := H1
                        clear H1
                        obtain rfl := Option.some.inj H
                        go_wp2_with (first | ((with_reducible refine gate_callee (f := 10) rfl ?_); refine goesL_ (some 86) rfl rfl Tryd.func10 (by kernel_rfl) rfl #[.int .i64 a0, .int .i64 (wrap64 (a1 + 1))] rfl (by (try simp only [List.map_toArray, List.map_cons, List.map_nil]); first | done | rfl | (simp only [List.length_drop, List.length_take]; rfl)) ?_; (with_reducible refine (unit_First.calls a0 (wrap64 (a1 + 1)) t127 true _ A31.out (by first | exact hT | ((repeat (first | exact hT | apply LenTab.drewN)); done) | (refine LenTab.below hT ?_; repeat (first | (with_reducible first | exact HB.out | apply below_alloc | apply pw_below_drewN | apply below_drew1) | exact HB.out)))).mono ?_); rintro e w35 ⟨rfl, hb⟩; refine ⟨_, rfl, ?_⟩; have n0_ := Aside0.mk (below_step (by repeat (first | (with_reducible first | exact HB.out | apply below_alloc | apply pw_below_drewN | apply below_drew1) | exact HB.out)) hb); clear HB; have HB := n0_; clear n0_; (try clear hb); (try clear hb2); (try clear hk); (try clear hi)))
                        go_ret
                        exact ⟨by first | rfl | (simp [errW_none, errW_some] <;> rfl) | (simp [*, errW_none, errW_some] <;> rfl), by repeat (first | (with_reducible first | exact HB.out | apply below_alloc | apply pw_below_drewN | apply below_drew1) | exact HB.out)⟩
                      · replace c34 := Bool.eq_false_iff.mpr c34
                        subst c34
                        have H1 : (some true) = some r := by rw [if_neg (show ¬ (false = true) by decide)] at H; exact H
                        clear H
                        have H := H1
                        clear H1
                        obtain rfl := Option.some.inj H
                        go_wp2_with (first | ((with_reducible refine gate_callee (f := 10) rfl ?_); refine goesL_ (some 86) rfl rfl Tryd.func10 (by kernel_rfl) rfl #[.int .i64 a0, .int .i64 (wrap64 (a1 + 1))] rfl (by (try simp only [List.map_toArray, List.map_cons, List.map_nil]); first | done | rfl | (simp only [List.length_drop, List.length_take]; rfl)) ?_; (with_reducible refine (unit_First.calls a0 (wrap64 (a1 + 1)) t127 false _ A31.out (by first | exact hT | ((repeat (first | exact hT | apply LenTab.drewN)); done) | (refine LenTab.below hT ?_; repeat (first | (with_reducible first | exact HB.out | apply below_alloc | apply pw_below_drewN | apply below_drew1) | exact HB.out)))).mono ?_); rintro e w36 ⟨rfl, hb⟩; refine ⟨_, rfl, ?_⟩; have n0_ := Aside0.mk (below_step (by repeat (first | (with_reducible first | exact HB.out | apply below_alloc | apply pw_below_drewN | apply below_drew1) | exact HB.out)) hb); clear HB; have HB := n0_; clear n0_; (try clear hb); (try clear hb2); (try clear hk); (try clear hi)))
                        go_ret
                        exact ⟨by first | rfl | (simp [errW_none, errW_some] <;> rfl) | (simp [*, errW_none, errW_some] <;> rfl), by repeat (first | (with_reducible first | exact HB.out | apply below_alloc | apply pw_below_drewN | apply below_drew1) | exact HB.out)⟩
                    · rw [if_neg c33] at H
                      have c33b0 : (t128 == (decide (a1 < (wrap64 (t120 - 1))))) = false := by simpa using c33
                      (try (have c33b1 : decide (t128 = (decide (a1 < (wrap64 (t120 - 1))))) = false := by simpa using c33))
                      (try (have c33b2 : (t128 == (decide (a1 < (wrap64 (t120 - 1))))) = false := by simpa using c33))
                      (try (have c33b3 : ¬ (t128 = (decide (a1 < (wrap64 (t120 - 1))))) := by simpa using c33))
                      clear c33
                      obtain rfl := Option.some.inj H
                      go_wp2_with (first | ((with_reducible refine gate_callee (f := 10) rfl ?_); refine goesL_ (some 86) rfl rfl Tryd.func10 (by kernel_rfl) rfl #[.int .i64 a0, .int .i64 (wrap64 (a1 + 1))] rfl (by (try simp only [List.map_toArray, List.map_cons, List.map_nil]); first | done | rfl | (simp only [List.length_drop, List.length_take]; rfl)) ?_; (with_reducible refine (unit_First.calls a0 (wrap64 (a1 + 1)) t127 t128 _ A31.out (by first | exact hT | ((repeat (first | exact hT | apply LenTab.drewN)); done) | (refine LenTab.below hT ?_; repeat (first | (with_reducible first | exact HB.out | apply below_alloc | apply pw_below_drewN | apply below_drew1) | exact HB.out)))).mono ?_); rintro e w37 ⟨rfl, hb⟩; refine ⟨_, rfl, ?_⟩; have n0_ := Aside0.mk (below_step (by repeat (first | (with_reducible first | exact HB.out | apply below_alloc | apply pw_below_drewN | apply below_drew1) | exact HB.out)) hb); clear HB; have HB := n0_; clear n0_; (try clear hb); (try clear hb2); (try clear hk); (try clear hi)))
                      go_ret
                      exact ⟨by first | rfl | (simp [errW_none, errW_some] <;> rfl) | (simp [*, errW_none, errW_some] <;> rfl), by repeat (first | (with_reducible first | exact HB.out | apply below_alloc | apply pw_below_drewN | apply below_drew1) | exact HB.out)⟩
                  · replace c32 := Bool.eq_false_iff.mpr c32
                    subst c32
                    have H1 : (some false) = some r := by rw [if_neg (show ¬ (false = true) by decide)] at H; exact H
                    clear H
                    have H := H1
                    clear H1
                    obtain rfl := Option.some.inj H
                    go_wp2_with (first | ((with_reducible refine gate_callee (f := 10) rfl ?_); refine goesL_ (some 86) rfl rfl Tryd.func10 (by kernel_rfl) rfl #[.int .i64 a0, .int .i64 (wrap64 (a1 + 1))] rfl (by (try simp only [List.map_toArray, List.map_cons, List.map_nil]); first | done | rfl | (simp only [List.length_drop, List.length_take]; rfl)) ?_; (with_reducible refine (unit_First.calls a0 (wrap64 (a1 + 1)) t127 t128 _ A31.out (by first | exact hT | ((repeat (first | exact hT | apply LenTab.drewN)); done) | (refine LenTab.below hT ?_; repeat (first | (with_reducible first | exact HB.out | apply below_alloc | apply pw_below_drewN | apply below_drew1) | exact HB.out)))).mono ?_); rintro e w38 ⟨rfl, hb⟩; refine ⟨_, rfl, ?_⟩; have n0_ := Aside0.mk (below_step (by repeat (first | (with_reducible first | exact HB.out | apply below_alloc | apply pw_below_drewN | apply below_drew1) | exact HB.out)) hb); clear HB; have HB := n0_; clear n0_; (try clear hb); (try clear hb2); (try clear hk); (try clear hi)))
                    go_ret
                    exact ⟨by first | rfl | (simp [errW_none, errW_some] <;> rfl) | (simp [*, errW_none, errW_some] <;> rfl), by repeat (first | (with_reducible first | exact HB.out | apply below_alloc | apply pw_below_drewN | apply below_drew1) | exact HB.out)⟩
            · rw [if_neg c18] at H
              have c18b0 : (t121 == 0) = false := beq_eq_false_iff_ne.mpr c18
              have c18b1 : (t121 != 0) = true := bne_iff_ne.mpr c18
              by_cases c39 : a0 = 2
              · rw [if_pos c39] at H
                have c39b0 : (a0 == 2) = true := beq_iff_eq.mpr c39
                have c39b1 : (a0 != 2) = false := bne_eq_false_iff_eq.mpr c39
                clear c39
                by_cases c40 : t121 = 60
                · rw [if_pos c40] at H
                  have c40b0 : (t121 == 60) = true := beq_iff_eq.mpr c40
                  have c40b1 : (t121 != 60) = false := bne_eq_false_iff_eq.mpr c40
                  clear c40
                  by_cases c41 : a1 = (wrap64 (t120 - 1))
                  · rw [if_pos c41] at H
                    have c41b0 : (a1 == (wrap64 (t120 - 1))) = true := beq_iff_eq.mpr c41
                    have c41b1 : (a1 != (wrap64 (t120 - 1))) = false := bne_eq_false_iff_eq.mpr c41
                    clear c41
                    by_cases c42 : t123 = 3652424
                    · rw [if_pos c42] at H
                      have c42b0 : (t123 == 3652424) = true := beq_iff_eq.mpr c42
                      have c42b1 : (t123 != 3652424) = false := bne_eq_false_iff_eq.mpr c42
                      clear c42
                      by_cases c43 : t121 > t123
                      · rw [if_pos c43] at H
                        have c43b0 : decide (t123 < t121) = true := decide_eq_true c43
                        clear c43
                        obtain rfl := Option.some.inj H
                        go_wp2
                        go_ret
                        exact ⟨by first | rfl | (simp [errW_none, errW_some] <;> rfl) | (simp [*, errW_none, errW_some] <;> rfl), by repeat (first | (with_reducible first | exact HB.out | apply below_alloc | apply pw_below_drewN | apply below_drew1) | exact HB.out)⟩
                      · rw [if_neg c43] at H
                        have c43b0 : decide (t123 < t121) = false := decide_eq_false c43
                        clear c43
                        replace H := Option.bind_eq_some_iff.mp H
                        obtain ⟨⟨t129, t130⟩, A440, H⟩ := H
                        replace H : (if t119 = true then (if (t130 == (decide (a1 < (wrap64 (t120 - 1))))) = true then (if t130 = true then (some (t129 == (wrap64 (t123 + 1)))) else (some true)) else (some false)) else (some false)) = some r := H
                        have A44 := Aside0.mk A440
                        clear A440
                        by_cases c45 : t119 = true
                        · subst c45
                          have H1 : (if (t130 == (decide (a1 < (wrap64 (t120 - 1))))) = true then (if t130 = true then (some (t129 == (wrap64 (t123 + 1)))) else (some true)) else (some false)) = some r := by rw [if_pos rfl] at H; exact H
                          clear H
                          have H := H1
                          clear H1
                          by_cases c46 : (t130 == (decide (a1 < (wrap64 (t120 - 1))))) = true
                          · rw [if_pos c46] at H
                            have c46b0 : (t130 == (decide (a1 < (wrap64 (t120 - 1))))) = true := c46
                            (try (have c46b1 : decide (t130 = (decide (a1 < (wrap64 (t120 - 1))))) = true := by simpa using c46))
                            (try (have c46b2 : (t130 == (decide (a1 < (wrap64 (t120 - 1))))) = true := by simpa using c46))
                            clear c46
                            by_cases c47 : t130 = true
                            · subst c47
                              have H1 : (some (t129 == (wrap64 (t123 + 1)))) = some r := by rw [if_pos rfl] at H; exact H
                              clear H
                              have H := H1
                              clear H1
                              obtain rfl := Option.some.inj H
                              go_wp2_with (first | ((with_reducible refine gate_callee (f := 10) rfl ?_); refine goesL_ (some 86) rfl rfl Tryd.func10 (by kernel_rfl) rfl #[.int .i64 a0, .int .i64 (wrap64 (a1 + 1))] rfl (by (try simp only [List.map_toArray, List.map_cons, List.map_nil]); first | done | rfl | (simp only [List.length_drop, List.length_take]; rfl)) ?_; (with_reducible refine (unit_First.calls a0 (wrap64 (a1 + 1)) t129 true _ A44.out (by first | exact hT | ((repeat (first | exact hT | apply LenTab.drewN)); done) | (refine LenTab.below hT ?_; repeat (first | (with_reducible first | exact HB.out | apply below_alloc | apply pw_below_drewN | apply below_drew1) | exact HB.out)))).mono ?_); rintro e w48 ⟨rfl, hb⟩; refine ⟨_, rfl, ?_⟩; have n0_ := Aside0.mk (below_step (by repeat (first | (with_reducible first | exact HB.out | apply below_alloc | apply pw_below_drewN | apply below_drew1) | exact HB.out)) hb); clear HB; have HB := n0_; clear n0_; (try clear hb); (try clear hb2); (try clear hk); (try clear hi)))
                              go_ret
                              exact ⟨by first | rfl | (simp [errW_none, errW_some] <;> rfl) | (simp [*, errW_none, errW_some] <;> rfl), by repeat (first | (with_reducible first | exact HB.out | apply below_alloc | apply pw_below_drewN | apply below_drew1) | exact HB.out)⟩
                            · replace c47 := Bool.eq_false_iff.mpr c47
                              subst c47
                              have H1 : (some true) = some r := by rw [if_neg (show ¬ (false = true) by decide)] at H; exact H
                              clear H
                              have H := H1
                              clear H1
                              obtain rfl := Option.some.inj H
                              go_wp2_with (first | ((with_reducible refine gate_callee (f := 10) rfl ?_); refine goesL_ (some 86) rfl rfl Tryd.func10 (by kernel_rfl) rfl #[.int .i64 a0, .int .i64 (wrap64 (a1 + 1))] rfl (by (try simp only [List.map_toArray, List.map_cons, List.map_nil]); first | done | rfl | (simp only [List.length_drop, List.length_take]; rfl)) ?_; (with_reducible refine (unit_First.calls a0 (wrap64 (a1 + 1)) t129 false _ A44.out (by first | exact hT | ((repeat (first | exact hT | apply LenTab.drewN)); done) | (refine LenTab.below hT ?_; repeat (first | (with_reducible first | exact HB.out | apply below_alloc | apply pw_below_drewN | apply below_drew1) | exact HB.out)))).mono ?_); rintro e w49 ⟨rfl, hb⟩; refine ⟨_, rfl, ?_⟩; have n0_ := Aside0.mk (below_step (by repeat (first | (with_reducible first | exact HB.out | apply below_alloc | apply pw_below_drewN | apply below_drew1) | exact HB.out)) hb); clear HB; have HB := n0_; clear n0_; (try clear hb); (try clear hb2); (try clear hk); (try clear hi)))
                              go_ret
                              exact ⟨by first | rfl | (simp [errW_none, errW_some] <;> rfl) | (simp [*, errW_none, errW_some] <;> rfl), by repeat (first | (with_reducible first | exact HB.out | apply below_alloc | apply pw_below_drewN | apply below_drew1) | exact HB.out)⟩
                          · rw [if_neg c46] at H
                            have c46b0 : (t130 == (decide (a1 < (wrap64 (t120 - 1))))) = false := by simpa using c46
                            (try (have c46b1 : decide (t130 = (decide (a1 < (wrap64 (t120 - 1))))) = false := by simpa using c46))
                            (try (have c46b2 : (t130 == (decide (a1 < (wrap64 (t120 - 1))))) = false := by simpa using c46))
                            (try (have c46b3 : ¬ (t130 = (decide (a1 < (wrap64 (t120 - 1))))) := by simpa using c46))
                            clear c46
                            obtain rfl := Option.some.inj H
                            go_wp2_with (first | ((with_reducible refine gate_callee (f := 10) rfl ?_); refine goesL_ (some 86) rfl rfl Tryd.func10 (by kernel_rfl) rfl #[.int .i64 a0, .int .i64 (wrap64 (a1 + 1))] rfl (by (try simp only [List.map_toArray, List.map_cons, List.map_nil]); first | done | rfl | (simp only [List.length_drop, List.length_take]; rfl)) ?_; (with_reducible refine (unit_First.calls a0 (wrap64 (a1 + 1)) t129 t130 _ A44.out (by first | exact hT | ((repeat (first | exact hT | apply LenTab.drewN)); done) | (refine LenTab.below hT ?_; repeat (first | (with_reducible first | exact HB.out | apply below_alloc | apply pw_below_drewN | apply below_drew1) | exact HB.out)))).mono ?_); rintro e w50 ⟨rfl, hb⟩; refine ⟨_, rfl, ?_⟩; have n0_ := Aside0.mk (below_step (by repeat (first | (with_reducible first | exact HB.out | apply below_alloc | apply pw_below_drewN | apply below_drew1) | exact HB.out)) hb); clear HB; have HB := n0_; clear n0_; (try clear hb); (try clear hb2); (try clear hk); (try clear hi)))
                            go_ret
                            exact ⟨by first | rfl | (simp [errW_none, errW_some] <;> rfl) | (simp [*, errW_none, errW_some] <;> rfl), by repeat (first | (with_reducible first | exact HB.out | apply below_alloc | apply pw_below_drewN | apply below_drew1) | exact HB.out)⟩
                        · replace c45 := Bool.eq_false_iff.mpr c45
                          subst c45
                          have H1 : (some false) = some r := by rw [if_neg (show ¬ (false = true) by decide)] at H; exact H
                          clear H
                          have H := H1
                          clear H1
                          obtain rfl := Option.some.inj H
                          go_wp2_with (first | ((with_reducible refine gate_callee (f := 10) rfl ?_); refine goesL_ (some 86) rfl rfl Tryd.func10 (by kernel_rfl) rfl #[.int .i64 a0, .int .i64 (wrap64 (a1 + 1))] rfl (by (try simp only [List.map_toArray, List.map_cons, List.map_nil]); first | done | rfl | (simp only [List.length_drop, List.length_take]; rfl)) ?_; (with_reducible refine (unit_First.calls a0 (wrap64 (a1 + 1)) t129 t130 _ A44.out (by first | exact hT | ((repeat (first | exact hT | apply LenTab.drewN)); done) | (refine LenTab.below hT ?_; repeat (first | (with_reducible first | exact HB.out | apply below_alloc | apply pw_below_drewN | apply below_drew1) | exact HB.out)))).mono ?_); rintro e w51 ⟨rfl, hb⟩; refine ⟨_, rfl, ?_⟩; have n0_ := Aside0.mk (below_step (by repeat (first | (with_reducible first | exact HB.out | apply below_alloc | apply pw_below_drewN | apply below_drew1) | exact HB.out)) hb); clear HB; have HB := n0_; clear n0_; (try clear hb); (try clear hb2); (try clear hk); (try clear hi)))
                          go_ret
                          exact ⟨by first | rfl | (simp [errW_none, errW_some] <;> rfl) | (simp [*, errW_none, errW_some] <;> rfl), by repeat (first | (with_reducible first | exact HB.out | apply below_alloc | apply pw_below_drewN | apply below_drew1) | exact HB.out)⟩
                    · rw [if_neg c42] at H
                      have c42b0 : (t123 == 3652424) = false := beq_eq_false_iff_ne.mpr c42
                      have c42b1 : (t123 != 3652424) = true := bne_iff_ne.mpr c42
                      obtain rfl := Option.some.inj H
                      go_wp2
                      go_ret
                      exact ⟨by first | rfl | (simp [errW_none, errW_some] <;> rfl) | (simp [*, errW_none, errW_some] <;> rfl), by repeat (first | (with_reducible first | exact HB.out | apply below_alloc | apply pw_below_drewN | apply below_drew1) | exact HB.out)⟩
                  · rw [if_neg c41] at H
                    have c41b0 : (a1 == (wrap64 (t120 - 1))) = false := beq_eq_false_iff_ne.mpr c41
                    have c41b1 : (a1 != (wrap64 (t120 - 1))) = true := bne_iff_ne.mpr c41
                    by_cases c52 : t121 > t123
                    · rw [if_pos c52] at H
                      have c52b0 : decide (t123 < t121) = true := decide_eq_true c52
                      clear c52
                      obtain rfl := Option.some.inj H
                      go_wp2
                      go_ret
                      exact ⟨by first | rfl | (simp [errW_none, errW_some] <;> rfl) | (simp [*, errW_none, errW_some] <;> rfl), by repeat (first | (with_reducible first | exact HB.out | apply below_alloc | apply pw_below_drewN | apply below_drew1) | exact HB.out)⟩
                    · rw [if_neg c52] at H
                      have c52b0 : decide (t123 < t121) = false := decide_eq_false c52
                      clear c52
                      replace H := Option.bind_eq_some_iff.mp H
                      obtain ⟨⟨t131, t132⟩, A530, H⟩ := H
                      replace H : (if t119 = true then (if (t132 == (decide (a1 < (wrap64 (t120 - 1))))) = true then (if t132 = true then (some (t131 == (wrap64 (t123 + 1)))) else (some true)) else (some false)) else (some false)) = some r := H
                      have A53 := Aside0.mk A530
                      clear A530
                      by_cases c54 : t119 = true
                      · subst c54
                        have H1 : (if (t132 == (decide (a1 < (wrap64 (t120 - 1))))) = true then (if t132 = true then (some (t131 == (wrap64 (t123 + 1)))) else (some true)) else (some false)) = some r := by rw [if_pos rfl] at H; exact H
                        clear H
                        have H := H1
                        clear H1
                        by_cases c55 : (t132 == (decide (a1 < (wrap64 (t120 - 1))))) = true
                        · rw [if_pos c55] at H
                          have c55b0 : (t132 == (decide (a1 < (wrap64 (t120 - 1))))) = true := c55
                          (try (have c55b1 : decide (t132 = (decide (a1 < (wrap64 (t120 - 1))))) = true := by simpa using c55))
                          (try (have c55b2 : (t132 == (decide (a1 < (wrap64 (t120 - 1))))) = true := by simpa using c55))
                          clear c55
                          by_cases c56 : t132 = true
                          · subst c56
                            have H1 : (some (t131 == (wrap64 (t123 + 1)))) = some r := by rw [if_pos rfl] at H; exact H
                            clear H
                            have H := H1
                            clear H1
                            obtain rfl := Option.some.inj H
                            go_wp2_with (first | ((with_reducible refine gate_callee (f := 10) rfl ?_); refine goesL_ (some 86) rfl rfl Tryd.func10 (by kernel_rfl) rfl #[.int .i64 a0, .int .i64 (wrap64 (a1 + 1))] rfl (by (try simp only [List.map_toArray, List.map_cons, List.map_nil]); first | done | rfl | (simp only [List.length_drop, List.length_take]; rfl)) ?_; (with_reducible refine (unit_First.calls a0 (wrap64 (a1 + 1)) t131 true _ A53.out (by first | exact hT | ((repeat (first | exact hT | apply LenTab.drewN)); done) | (refine LenTab.below hT ?_; repeat (first | (with_reducible first | exact HB.out | apply below_alloc | apply pw_below_drewN | apply below_drew1) | exact HB.out)))).mono ?_); rintro e w57 ⟨rfl, hb⟩; refine ⟨_, rfl, ?_⟩; have n0_ := Aside0.mk (below_step (by repeat (first | (with_reducible first | exact HB.out | apply below_alloc | apply pw_below_drewN | apply below_drew1) | exact HB.out)) hb); clear HB; have HB := n0_; clear n0_; (try clear hb); (try clear hb2); (try clear hk); (try clear hi)))
                            go_ret
                            exact ⟨by first | rfl | (simp [errW_none, errW_some] <;> rfl) | (simp [*, errW_none, errW_some] <;> rfl), by repeat (first | (with_reducible first | exact HB.out | apply below_alloc | apply pw_below_drewN | apply below_drew1) | exact HB.out)⟩
                          · replace c56 := Bool.eq_false_iff.mpr c56
                            subst c56
                            have H1 : (some true) = some r := by rw [if_neg (show ¬ (false = true) by decide)] at H; exact H
                            clear H
                            have H := H1
                            clear H1
                            obtain rfl := Option.some.inj H
                            go_wp2_with (first | ((with_reducible refine gate_callee (f := 10) rfl ?_); refine goesL_ (some 86) rfl rfl Tryd.func10 (by kernel_rfl) rfl #[.int .i64 a0, .int .i64 (wrap64 (a1 + 1))] rfl (by (try simp only [List.map_toArray, List.map_cons, List.map_nil]); first | done | rfl | (simp only [List.length_drop, List.length_take]; rfl)) ?_; (with_reducible refine (unit_First.calls a0 (wrap64 (a1 + 1)) t131 false _ A53.out (by first | exact hT | ((repeat (first | exact hT | apply LenTab.drewN)); done) | (refine LenTab.below hT ?_; repeat (first | (with_reducible first | exact HB.out | apply below_alloc | apply pw_below_drewN | apply below_drew1) | exact HB.out)))).mono ?_); rintro e w58 ⟨rfl, hb⟩; refine ⟨_, rfl, ?_⟩; have n0_ := Aside0.mk (below_step (by repeat (first | (with_reducible first | exact HB.out | apply below_alloc | apply pw_below_drewN | apply below_drew1) | exact HB.out)) hb); clear HB; have HB := n0_; clear n0_; (try clear hb); (try clear hb2); (try clear hk); (try clear hi)))
                            go_ret
                            exact ⟨by first | rfl | (simp [errW_none, errW_some] <;> rfl) | (simp [*, errW_none, errW_some] <;> rfl), by repeat (first | (with_reducible first | exact HB.out | apply below_alloc | apply pw_below_drewN | apply below_drew1) | exact HB.out)⟩
                        · rw [if_neg c55] at H
                          have c55b0 : (t132 == (decide (a1 < (wrap64 (t120 - 1))))) = false := by simpa using c55
                          (try (have c55b1 : decide (t132 = (decide (a1 < (wrap64 (t120 - 1))))) = false := by simpa using c55))
                          (try (have c55b2 : (t132 == (decide (a1 < (wrap64 (t120 - 1))))) = false := by simpa using c55))
                          (try (have c55b3 : ¬ (t132 = (decide (a1 < (wrap64 (t120 - 1))))) := by simpa using c55))
                          clear c55
                          obtain rfl := Option.some.inj H
                          go_wp2_with (first | ((with_reducible refine gate_callee (f := 10) rfl ?_); refine goesL_ (some 86) rfl rfl Tryd.func10 (by kernel_rfl) rfl #[.int .i64 a0, .int .i64 (wrap64 (a1 + 1))] rfl (by (try simp only [List.map_toArray, List.map_cons, List.map_nil]); first | done | rfl | (simp only [List.length_drop, List.length_take]; rfl)) ?_; (with_reducible refine (unit_First.calls a0 (wrap64 (a1 + 1)) t131 t132 _ A53.out (by first | exact hT | ((repeat (first | exact hT | apply LenTab.drewN)); done) | (refine LenTab.below hT ?_; repeat (first | (with_reducible first | exact HB.out | apply below_alloc | apply pw_below_drewN | apply below_drew1) | exact HB.out)))).mono ?_); rintro e w59 ⟨rfl, hb⟩; refine ⟨_, rfl, ?_⟩; have n0_ := Aside0.mk (below_step (by repeat (first | (with_reducible first | exact HB.out | apply below_alloc | apply pw_below_drewN | apply below_drew1) | exact HB.out)) hb); clear HB; have HB := n0_; clear n0_; (try clear hb); (try clear hb2); (try clear hk); (try clear hi)))
                          go_ret
                          exact ⟨by first | rfl | (simp [errW_none, errW_some] <;> rfl) | (simp [*, errW_none, errW_some] <;> rfl), by repeat (first | (with_reducible first | exact HB.out | apply below_alloc | apply pw_below_drewN | apply below_drew1) | exact HB.out)⟩
                      · replace c54 := Bool.eq_false_iff.mpr c54
                        subst c54
                        have H1 : (some false) = some r := by rw [if_neg (show ¬ (false = true) by decide)] at H; exact H
                        clear H
                        have H := H1
                        clear H1
                        obtain rfl := Option.some.inj H
                        go_wp2_with (first | ((with_reducible refine gate_callee (f := 10) rfl ?_); refine goesL_ (some 86) rfl rfl Tryd.func10 (by kernel_rfl) rfl #[.int .i64 a0, .int .i64 (wrap64 (a1 + 1))] rfl (by (try simp only [List.map_toArray, List.map_cons, List.map_nil]); first | done | rfl | (simp only [List.length_drop, List.length_take]; rfl)) ?_; (with_reducible refine (unit_First.calls a0 (wrap64 (a1 + 1)) t131 t132 _ A53.out (by first | exact hT | ((repeat (first | exact hT | apply LenTab.drewN)); done) | (refine LenTab.below hT ?_; repeat (first | (with_reducible first | exact HB.out | apply below_alloc | apply pw_below_drewN | apply below_drew1) | exact HB.out)))).mono ?_); rintro e w60 ⟨rfl, hb⟩; refine ⟨_, rfl, ?_⟩; have n0_ := Aside0.mk (below_step (by repeat (first | (with_reducible first | exact HB.out | apply below_alloc | apply pw_below_drewN | apply below_drew1) | exact HB.out)) hb); clear HB; have HB := n0_; clear n0_; (try clear hb); (try clear hb2); (try clear hk); (try clear hi)))
                        go_ret
                        exact ⟨by first | rfl | (simp [errW_none, errW_some] <;> rfl) | (simp [*, errW_none, errW_some] <;> rfl), by repeat (first | (with_reducible first | exact HB.out | apply below_alloc | apply pw_below_drewN | apply below_drew1) | exact HB.out)⟩
                · rw [if_neg c40] at H
                  have c40b0 : (t121 == 60) = false := beq_eq_false_iff_ne.mpr c40
                  have c40b1 : (t121 != 60) = true := bne_iff_ne.mpr c40
                  obtain rfl := Option.some.inj H
                  go_wp2
                  go_ret
                  exact ⟨by first | rfl | (simp [errW_none, errW_some] <;> rfl) | (simp [*, errW_none, errW_some] <;> rfl), by repeat (first | (with_reducible first | exact HB.out | apply below_alloc | apply pw_below_drewN | apply below_drew1) | exact HB.out)⟩
              · rw [if_neg c39] at H
                have c39b0 : (a0 == 2) = false := beq_eq_false_iff_ne.mpr c39
                have c39b1 : (a0 != 2) = true := bne_iff_ne.mpr c39
                obtain rfl := Option.some.inj H
                go_wp2
                go_ret
                exact ⟨by first | rfl | (simp [errW_none, errW_some] <;> rfl) | (simp [*, errW_none, errW_some] <;> rfl), by repeat (first | (with_reducible first | exact HB.out | apply below_alloc | apply pw_below_drewN | apply below_drew1) | exact HB.out)⟩
          · rw [if_neg c17] at H
            have c17b0 : (a1 == 0) = false := beq_eq_false_iff_ne.mpr c17
            have c17b1 : (a1 != 0) = true := bne_iff_ne.mpr c17
            by_cases c61 : a1 = (wrap64 (t120 - 1))
            · rw [if_pos c61] at H
              have c61b0 : (a1 == (wrap64 (t120 - 1))) = true := beq_iff_eq.mpr c61
              have c61b1 : (a1 != (wrap64 (t120 - 1))) = false := bne_eq_false_iff_eq.mpr c61
              clear c61
              by_cases c62 : t123 = 3652424
              · rw [if_pos c62] at H
                have c62b0 : (t123 == 3652424) = true := beq_iff_eq.mpr c62
                have c62b1 : (t123 != 3652424) = false := bne_eq_false_iff_eq.mpr c62
                clear c62
                by_cases c63 : t121 > t123
                · rw [if_pos c63] at H
                  have c63b0 : decide (t123 < t121) = true := decide_eq_true c63
                  clear c63
                  obtain rfl := Option.some.inj H
                  go_wp2
                  go_ret
                  exact ⟨by first | rfl | (simp [errW_none, errW_some] <;> rfl) | (simp [*, errW_none, errW_some] <;> rfl), by repeat (first | (with_reducible first | exact HB.out | apply below_alloc | apply pw_below_drewN | apply below_drew1) | exact HB.out)⟩
                · rw [if_neg c63] at H
                  have c63b0 : decide (t123 < t121) = false := decide_eq_false c63
                  clear c63
                  replace H := Option.bind_eq_some_iff.mp H
                  obtain ⟨⟨t133, t134⟩, A640, H⟩ := H
                  replace H : (if t119 = true then (if (t134 == (decide (a1 < (wrap64 (t120 - 1))))) = true then (if t134 = true then (some (t133 == (wrap64 (t123 + 1)))) else (some true)) else (some false)) else (some false)) = some r := H
                  have A64 := Aside0.mk A640
                  clear A640
                  by_cases c65 : t119 = true
                  · subst c65
                    have H1 : (if (t134 == (decide (a1 < (wrap64 (t120 - 1))))) = true then (if t134 = true then (some (t133 == (wrap64 (t123 + 1)))) else (some true)) else (some false)) = some r := by rw [if_pos rfl] at H; exact H
                    clear H
                    have H := H1
                    clear H1
                    by_cases c66 : (t134 == (decide (a1 < (wrap64 (t120 - 1))))) = true
                    · rw [if_pos c66] at H
                      have c66b0 : (t134 == (decide (a1 < (wrap64 (t120 - 1))))) = true := c66
                      (try (have c66b1 : decide (t134 = (decide (a1 < (wrap64 (t120 - 1))))) = true := by simpa using c66))
                      (try (have c66b2 : (t134 == (decide (a1 < (wrap64 (t120 - 1))))) = true := by simpa using c66))
                      clear c66
                      by_cases c67 : t134 = true
                      · subst c67
                        have H1 : (some (t133 == (wrap64 (t123 + 1)))) = some r := by rw [if_pos rfl] at H; exact H
                        clear H
                        have H := H1
                        clear H1
                        obtain rfl := Option.some.inj H
                        go_wp2_with (first | ((with_reducible refine gate_callee (f := 10) rfl ?_); refine goesL_ (some 86) rfl rfl Tryd.func10 (by kernel_rfl) rfl #[.int .i64 a0, .int .i64 (wrap64 (a1 + 1))] rfl (by (try simp only [List.map_toArray, List.map_cons, List.map_nil]); first | done | rfl | (simp only [List.length_drop, List.length_take]; rfl)) ?_; (with_reducible refine (unit_First.calls a0 (wrap64 (a1 + 1)) t133 true _ A64.out (by first | exact hT | ((repeat (first | exact hT | apply LenTab.drewN)); done) | (refine LenTab.below hT ?_; repeat (first | (with_reducible first | exact HB.out | apply below_alloc | apply pw_below_drewN | apply below_drew1) | exact HB.out)))).mono ?_); rintro e w68 ⟨rfl, hb⟩; refine ⟨_, rfl, ?_⟩; have n0_ := Aside0.mk (below_step (by repeat (first | (with_reducible first | exact HB.out | apply below_alloc | apply pw_below_drewN | apply below_drew1) | exact HB.out)) hb); clear HB; have HB := n0_; clear n0_; (try clear hb); (try clear hb2); (try clear hk); (try clear hi)))
                        go_ret
                        exact ⟨by first | rfl | (simp [errW_none, errW_some] <;> rfl) | (simp [*, errW_none, errW_some] <;> rfl), by repeat (first | (with_reducible first | exact HB.out | apply below_alloc | apply pw_below_drewN | apply below_drew1) | exact HB.out)⟩
                      · replace c67 := Bool.eq_false_iff.mpr c67
                        subst c67
                        have H1 : (some true) = some r := by rw [if_neg (show ¬ (false = true) by decide)] at H; exact H
                        clear H
                        have H := H1
                        clear H1
                        obtain rfl := Option.some.inj H
                        go_wp2_with (first | ((with_reducible refine gate_callee (f := 10) rfl ?_); refine goesL_ (some 86) rfl rfl Tryd.func10 (by kernel_rfl) rfl #[.int .i64 a0, .int .i64 (wrap64 (a1 + 1))] rfl (by (try simp only [List.map_toArray, List.map_cons, List.map_nil]); first | done | rfl | (simp only [List.length_drop, List.length_take]; rfl)) ?_; (with_reducible refine (unit_First.calls a0 (wrap64 (a1 + 1)) t133 false _ A64.out (by first | exact hT | ((repeat (first | exact hT | apply LenTab.drewN)); done) | (refine LenTab.below hT ?_; repeat (first | (with_reducible first | exact HB.out | apply below_alloc | apply pw_below_drewN | apply below_drew1) | exact HB.out)))).mono ?_); rintro e w69 ⟨rfl, hb⟩; refine ⟨_, rfl, ?_⟩; have n0_ := Aside0.mk (below_step (by repeat (first | (with_reducible first | exact HB.out | apply below_alloc | apply pw_below_drewN | apply below_drew1) | exact HB.out)) hb); clear HB; have HB := n0_; clear n0_; (try clear hb); (try clear hb2); (try clear hk); (try clear hi)))
                        go_ret
                        exact ⟨by first | rfl | (simp [errW_none, errW_some] <;> rfl) | (simp [*, errW_none, errW_some] <;> rfl), by repeat (first | (with_reducible first | exact HB.out | apply below_alloc | apply pw_below_drewN | apply below_drew1) | exact HB.out)⟩
                    · rw [if_neg c66] at H
                      have c66b0 : (t134 == (decide (a1 < (wrap64 (t120 - 1))))) = false := by simpa using c66
                      (try (have c66b1 : decide (t134 = (decide (a1 < (wrap64 (t120 - 1))))) = false := by simpa using c66))
                      (try (have c66b2 : (t134 == (decide (a1 < (wrap64 (t120 - 1))))) = false := by simpa using c66))
                      (try (have c66b3 : ¬ (t134 = (decide (a1 < (wrap64 (t120 - 1))))) := by simpa using c66))
                      clear c66
                      obtain rfl := Option.some.inj H
                      go_wp2_with (first | ((with_reducible refine gate_callee (f := 10) rfl ?_); refine goesL_ (some 86) rfl rfl Tryd.func10 (by kernel_rfl) rfl #[.int .i64 a0, .int .i64 (wrap64 (a1 + 1))] rfl (by (try simp only [List.map_toArray, List.map_cons, List.map_nil]); first | done | rfl | (simp only [List.length_drop, List.length_take]; rfl)) ?_; (with_reducible refine (unit_First.calls a0 (wrap64 (a1 + 1)) t133 t134 _ A64.out (by first | exact hT | ((repeat (first | exact hT | apply LenTab.drewN)); done) | (refine LenTab.below hT ?_; repeat (first | (with_reducible first | exact HB.out | apply below_alloc | apply pw_below_drewN | apply below_drew1) | exact HB.out)))).mono ?_); rintro e w70 ⟨rfl, hb⟩; refine ⟨_, rfl, ?_⟩; have n0_ := Aside0.mk (below_step (by repeat (first | (with_reducible first | exact HB.out | apply below_alloc | apply pw_below_drewN | apply below_drew1) | exact HB.out)) hb); clear HB; have HB := n0_; clear n0_; (try clear hb); (try clear hb2); (try clear hk); (try clear hi)))
                      go_ret
                      exact ⟨by first | rfl | (simp [errW_none, errW_some] <;> rfl) | (simp [*, errW_none, errW_some] <;> rfl), by repeat (first | (with_reducible first | exact HB.out | apply below_alloc | apply pw_below_drewN | apply below_drew1) | exact HB.out)⟩
                  · replace c65 := Bool.eq_false_iff.mpr c65
                    subst c65
                    have H1 : (some false) = some r := by rw [if_neg (show ¬ (false = true) by decide)] at H; exact H
                    clear H
                    have H := H1
                    clear H1
                    obtain rfl := Option.some.inj H
                    go_wp2_with (first | ((with_reducible refine gate_callee (f := 10) rfl ?_); refine goesL_ (some 86) rfl rfl Tryd.func10 (by kernel_rfl) rfl #[.int .i64 a0, .int .i64 (wrap64 (a1 + 1))] rfl (by (try simp only [List.map_toArray, List.map_cons, List.map_nil]); first | done | rfl | (simp only [List.length_drop, List.length_take]; rfl)) ?_; (with_reducible refine (unit_First.calls a0 (wrap64 (a1 + 1)) t133 t134 _ A64.out (by first | exact hT | ((repeat (first | exact hT | apply LenTab.drewN)); done) | (refine LenTab.below hT ?_; repeat (first | (with_reducible first | exact HB.out | apply below_alloc | apply pw_below_drewN | apply below_drew1) | exact HB.out)))).mono ?_); rintro e w71 ⟨rfl, hb⟩; refine ⟨_, rfl, ?_⟩; have n0_ := Aside0.mk (below_step (by repeat (first | (with_reducible first | exact HB.out | apply below_alloc | apply pw_below_drewN | apply below_drew1) | exact HB.out)) hb); clear HB; have HB := n0_; clear n0_; (try clear hb); (try clear hb2); (try clear hk); (try clear hi)))
                    go_ret
                    exact ⟨by first | rfl | (simp [errW_none, errW_some] <;> rfl) | (simp [*, errW_none, errW_some] <;> rfl), by repeat (first | (with_reducible first | exact HB.out | apply below_alloc | apply pw_below_drewN | apply below_drew1) | exact HB.out)⟩
              · rw [if_neg c62] at H
                have c62b0 : (t123 == 3652424) = false := beq_eq_false_iff_ne.mpr c62
                have c62b1 : (t123 != 3652424) = true := bne_iff_ne.mpr c62
                obtain rfl := Option.some.inj H
                go_wp2
                go_ret
                exact ⟨by first | rfl | (simp [errW_none, errW_some] <;> rfl) | (simp [*, errW_none, errW_some] <;> rfl), by repeat (first | (with_reducible first | exact HB.out | apply below_alloc | apply pw_below_drewN | apply below_drew1) | exact HB.out)⟩
            · rw [if_neg c61] at H
              have c61b0 : (a1 == (wrap64 (t120 - 1))) = false := beq_eq_false_iff_ne.mpr c61
              have c61b1 : (a1 != (wrap64 (t120 - 1))) = true := bne_iff_ne.mpr c61
              by_cases c72 : t121 > t123
              · rw [if_pos c72] at H
                have c72b0 : decide (t123 < t121) = true := decide_eq_true c72
                clear c72
                obtain rfl := Option.some.inj H
                go_wp2
                go_ret
                exact ⟨by first | rfl | (simp [errW_none, errW_some] <;> rfl) | (simp [*, errW_none, errW_some] <;> rfl), by repeat (first | (with_reducible first | exact HB.out | apply below_alloc | apply pw_below_drewN | apply below_drew1) | exact HB.out)⟩
              · rw [if_neg c72] at H
                have c72b0 : decide (t123 < t121) = false := decide_eq_false c72
                clear c72
                replace H := Option.bind_eq_some_iff.mp H
                obtain ⟨⟨t135, t136⟩, A730, H⟩ := H
                replace H : (if t119 = true then (if (t136 == (decide (a1 < (wrap64 (t120 - 1))))) = true then (if t136 = true then (some (t135 == (wrap64 (t123 + 1)))) else (some true)) else (some false)) else (some false)) = some r := H
                have A73 := Aside0.mk A730
                clear A730
                by_cases c74 : t119 = true
                · subst c74
                  have H1 : (if (t136 == (decide (a1 < (wrap64 (t120 - 1))))) = true then (if t136 = true then (some (t135 == (wrap64 (t123 + 1)))) else (some true)) else (some false)) = some r := by rw [if_pos rfl] at H; exact H
                  clear H
                  have H := H1
                  clear H1
                  by_cases c75 : (t136 == (decide (a1 < (wrap64 (t120 - 1))))) = true
                  · rw [if_pos c75] at H
                    have c75b0 : (t136 == (decide (a1 < (wrap64 (t120 - 1))))) = true := c75
                    (try (have c75b1 : decide (t136 = (decide (a1 < (wrap64 (t120 - 1))))) = true := by simpa using c75))
                    (try (have c75b2 : (t136 == (decide (a1 < (wrap64 (t120 - 1))))) = true := by simpa using c75))
                    clear c75
                    by_cases c76 : t136 = true
                    · subst c76
                      have H1 : (some (t135 == (wrap64 (t123 + 1)))) = some r := by rw [if_pos rfl] at H; exact H
                      clear H
                      have H := H1
                      clear H1
                      obtain rfl := Option.some.inj H
                      go_wp2_with (first | ((with_reducible refine gate_callee (f := 10) rfl ?_); refine goesL_ (some 86) rfl rfl Tryd.func10 (by kernel_rfl) rfl #[.int .i64 a0, .int .i64 (wrap64 (a1 + 1))] rfl (by (try simp only [List.map_toArray, List.map_cons, List.map_nil]); first | done | rfl | (simp only [List.length_drop, List.length_take]; rfl)) ?_; (with_reducible refine (unit_First.calls a0 (wrap64 (a1 + 1)) t135 true _ A73.out (by first | exact hT | ((repeat (first | exact hT | apply LenTab.drewN)); done) | (refine LenTab.below hT ?_; repeat (first | (with_reducible first | exact HB.out | apply below_alloc | apply pw_below_drewN | apply below_drew1) | exact HB.out)))).mono ?_); rintro e w77 ⟨rfl, hb⟩; refine ⟨_, rfl, ?_⟩; have n0_ := Aside0.mk (below_step (by repeat (first | (with_reducible first | exact HB.out | apply below_alloc | apply pw_below_drewN | apply below_drew1) | exact HB.out)) hb); clear HB; have HB := n0_; clear n0_; (try clear hb); (try clear hb2); (try clear hk); (try clear hi)))
                      go_ret
                      exact ⟨by first | rfl | (simp [errW_none, errW_some] <;> rfl) | (simp [*, errW_none, errW_some] <;> rfl), by repeat (first | (with_reducible first | exact HB.out | apply below_alloc | apply pw_below_drewN | apply below_drew1) | exact HB.out)⟩
                    · replace c76 := Bool.eq_false_iff.mpr c76
                      subst c76
                      have H1 : (some true) = some r := by rw [if_neg (show ¬ (false = true) by decide)] at H; exact H
                      clear H
                      have H := H1
                      clear H1
                      obtain rfl := Option.some.inj H
                      go_wp2_with (first | ((with_reducible refine gate_callee (f := 10) rfl ?_); refine goesL_ (some 86) rfl rfl Tryd.func10 (by kernel_rfl) rfl #[.int .i64 a0, .int .i64 (wrap64 (a1 + 1))] rfl (by (try simp only [List.map_toArray, List.map_cons, List.map_nil]); first | done | rfl | (simp only [List.length_drop, List.length_take]; rfl)) ?_; (with_reducible refine (unit_First.calls a0 (wrap64 (a1 + 1)) t135 false _ A73.out (by first | exact hT | ((repeat (first | exact hT | apply LenTab.drewN)); done) | (refine LenTab.below hT ?_; repeat (first | (with_reducible first | exact HB.out | apply below_alloc | apply pw_below_drewN | apply below_drew1) | exact HB.out)))).mono ?_); rintro e w78 ⟨rfl, hb⟩; refine ⟨_, rfl, ?_⟩; have n0_ := Aside0.mk (below_step (by repeat (first | (with_reducible first | exact HB.out | apply below_alloc | apply pw_below_drewN | apply below_drew1) | exact HB.out)) hb); clear HB; have HB := n0_; clear n0_; (try clear hb); (try clear hb2); (try clear hk); (try clear hi)))
                      go_ret
                      exact ⟨by first | rfl | (simp [errW_none, errW_some] <;> rfl) | (simp [*, errW_none, errW_some] <;> rfl), by repeat (first | (with_reducible first | exact HB.out | apply below_alloc | apply pw_below_drewN | apply below_drew1) | exact HB.out)⟩
                  · rw [if_neg c75] at H
                    have c75b0 : (t136 == (decide (a1 < (wrap64 (t120 - 1))))) = false := by simpa using c75
                    (try (have c75b1 : decide (t136 = (decide (a1 < (wrap64 (t120 - 1))))) = false := by simpa using c75))
                    (try (have c75b2 : (t136 == (decide (a1 < (wrap64 (t120 - 1))))) = false := by simpa using c75))
                    (try (have c75b3 : ¬ (t136 = (decide (a1 < (wrap64 (t120 - 1))))) := by simpa using c75))
                    clear c75
                    obtain rfl := Option.some.inj H
                    go_wp2_with (first | ((with_reducible refine gate_callee (f := 10) rfl ?_); refine goesL_ (some 86) rfl rfl Tryd.func10 (by kernel_rfl) rfl #[.int .i64 a0, .int .i64 (wrap64 (a1 + 1))] rfl (by (try simp only [List.map_toArray, List.map_cons, List.map_nil]); first | done | rfl | (simp only [List.length_drop, List.length_take]; rfl)) ?_; (with_reducible refine (unit_First.calls a0 (wrap64 (a1 + 1)) t135 t136 _ A73.out (by first | exact hT | ((repeat (first | exact hT | apply LenTab.drewN)); done) | (refine LenTab.below hT ?_; repeat (first | (with_reducible first | exact HB.out | apply below_alloc | apply pw_below_drewN | apply below_drew1) | exact HB.out)))).mono ?_); rintro e w79 ⟨rfl, hb⟩; refine ⟨_, rfl, ?_⟩; have n0_ := Aside0.mk (below_step (by repeat (first | (with_reducible first | exact HB.out | apply below_alloc | apply pw_below_drewN | apply below_drew1) | exact HB.out)) hb); clear HB; have HB := n0_; clear n0_; (try clear hb); (try clear hb2); (try clear hk); (try clear hi)))
                    go_ret
                    exact ⟨by first | rfl | (simp [errW_none, errW_some] <;> rfl) | (simp [*, errW_none, errW_some] <;> rfl), by repeat (first | (with_reducible first | exact HB.out | apply below_alloc | apply pw_below_drewN | apply below_drew1) | exact HB.out)⟩
                · replace c74 := Bool.eq_false_iff.mpr c74
                  subst c74
                  have H1 : (some false) = some r := by rw [if_neg (show ¬ (false = true) by decide)] at H; exact H
                  clear H
                  have H := H1
                  clear H1
                  obtain rfl := Option.some.inj H
                  go_wp2_with (first | ((with_reducible refine gate_callee (f := 10) rfl ?_); refine goesL_ (some 86) rfl rfl Tryd.func10 (by kernel_rfl) rfl #[.int .i64 a0, .int .i64 (wrap64 (a1 + 1))] rfl (by (try simp only [List.map_toArray, List.map_cons, List.map_nil]); first | done | rfl | (simp only [List.length_drop, List.length_take]; rfl)) ?_; (with_reducible refine (unit_First.calls a0 (wrap64 (a1 + 1)) t135 t136 _ A73.out (by first | exact hT | ((repeat (first | exact hT | apply LenTab.drewN)); done) | (refine LenTab.below hT ?_; repeat (first | (with_reducible first | exact HB.out | apply below_alloc | apply pw_below_drewN | apply below_drew1) | exact HB.out)))).mono ?_); rintro e w80 ⟨rfl, hb⟩; refine ⟨_, rfl, ?_⟩; have n0_ := Aside0.mk (below_step (by repeat (first | (with_reducible first | exact HB.out | apply below_alloc | apply pw_below_drewN | apply below_drew1) | exact HB.out)) hb); clear HB; have HB := n0_; clear n0_; (try clear hb); (try clear hb2); (try clear hk); (try clear hi)))
                  go_ret
                  exact ⟨by first | rfl | (simp [errW_none, errW_some] <;> rfl) | (simp [*, errW_none, errW_some] <;> rfl), by repeat (first | (with_reducible first | exact HB.out | apply below_alloc | apply pw_below_drewN | apply below_drew1) | exact HB.out)⟩
        · replace c16 := Bool.eq_false_iff.mpr c16
          subst c16
          have H1 : (if t119 = true then (if t121 = 0 then (some (t123 == 0)) else (some false)) else (some false)) = some r := by rw [if_neg (show ¬ (false = true) by decide)] at H; exact H
          clear H
          have H := H1
          clear H1
          by_cases c81 : t119 = true
          · subst c81
            have H1 : (if t121 = 0 then (some (t123 == 0)) else (some false)) = some r := by rw [if_pos rfl] at H; exact H
            clear H
            have H := H1
            clear H1
            by_cases c82 : t121 = 0
            · rw [if_pos c82] at H
              have c82b0 : (t121 == 0) = true := beq_iff_eq.mpr c82
              have c82b1 : (t121 != 0) = false := bne_eq_false_iff_eq.mpr c82
              clear c82
              obtain rfl := Option.some.inj H
              go_wp2
              go_ret
              exact ⟨by first | rfl | (simp [errW_none, errW_some] <;> rfl) | (simp [*, errW_none, errW_some] <;> rfl), by repeat (first | (with_reducible first | exact HB.out | apply below_alloc | apply pw_below_drewN | apply below_drew1) | exact HB.out)⟩
            · rw [if_neg c82] at H
              have c82b0 : (t121 == 0) = false := beq_eq_false_iff_ne.mpr c82
              have c82b1 : (t121 != 0) = true := bne_iff_ne.mpr c82
              obtain rfl := Option.some.inj H
              go_wp2
              go_ret
              exact ⟨by first | rfl | (simp [errW_none, errW_some] <;> rfl) | (simp [*, errW_none, errW_some] <;> rfl), by repeat (first | (with_reducible first | exact HB.out | apply below_alloc | apply pw_below_drewN | apply below_drew1) | exact HB.out)⟩
          · replace c81 := Bool.eq_false_iff.mpr c81
            subst c81
            have H1 : (some false) = some r := by rw [if_neg (show ¬ (false = true) by decide)] at H; exact H
            clear H
            have H := H1
            clear H1
            obtain rfl := Option.some.inj H
            go_wp2
            go_ret
            exact ⟨by first | rfl | (simp [errW_none, errW_some] <;> rfl) | (simp [*, errW_none, errW_some] <;> rfl), by repeat (first | (with_reducible first | exact HB.out | apply below_alloc | apply pw_below_drewN | apply below_drew1) | exact HB.out)⟩

/-- THE ONE PURE STATEMENT of lustrumlaw03_UnitRows: yours. -/
def lustrumlaw03_UnitRows.Pure : Prop := ∀ (a0 : Int) (a1 : Int), (Lit.int .i64 a0).wf = true → (Lit.int .i64 a1).wf = true → ∃ k, lustrumlaw03_UnitRows.f k a0 a1 = some true
theorem lustrumlaw03_UnitRows.walk (P : lustrumlaw03_UnitRows.Pure) (a0 : Int) (a1 : Int) (w : World) (w0 : (Lit.int .i64 a0).wf = true) (w1 : (Lit.int .i64 a1).wf = true) (hT : LenTab w) :
    Calls Tryd.prog 3 #[.int .i64 a0, .int .i64 a1] w fun e w' => e = .returned (.bool true) ∧ Below w.heap.size w w' := by
  obtain ⟨k, h⟩ := P a0 a1 w0 w1
  refine (lustrumlaw03_UnitRows.calls k a0 a1 true w h hT).mono ?_
  rintro e w' ⟨rfl, hd⟩
  exact ⟨rfl, hd⟩

/-! ### lustrumlaw03_UnitOf: function 4 -/
def lustrumlaw03_UnitOf.j0 : Nat → Int → Int → Bool → Bool → Option (Bool)
  | 0, _, _, _, _ => none
  | k + 1, x0, x2, x7, x85 => if x85 = true then (some false) else ((unit_First.f x0 x2).bind fun bt146 => ((unit_Last.f x0 x2).bind fun bt148 => (if bt146.2 = true then ((unit_Of.f x0 bt146.1).bind fun bt150 => ((unit_Of.f x0 bt148.1).bind fun bt152 => (if x7 = true then (if bt148.2 = true then (if bt150.2 = true then (if bt152.2 = true then (if bt150.1 = x2 then (some (bt152.1 == x2)) else (some false)) else (some false)) else (some false)) else (some false)) else (some false)))) else (if x7 = true then (some (!bt148.2)) else (some false)))))
def lustrumlaw03_UnitOf.f (k : Nat) (a0 : Int) (a1 : Int) (a2 : Int) : Option (Bool) := (lustrumlaw03_awake.f).bind fun t137 => ((unit_Of.f a0 (Int.tmod (Go.bits .and .i64 a1 1073741823) 3652425)).bind fun bt138 => (if bt138.2 = true then ((unit_First.f a0 bt138.1).bind fun bt141 => ((unit_Last.f a0 bt138.1).bind fun bt143 => (if bt141.2 = true then (if bt143.2 = true then (if bt141.1 > (Int.tmod (Go.bits .and .i64 a1 1073741823) 3652425) then (lustrumlaw03_UnitOf.j0 k a0 a2 t137 true) else (if (Int.tmod (Go.bits .and .i64 a1 1073741823) 3652425) > bt143.1 then (lustrumlaw03_UnitOf.j0 k a0 a2 t137 true) else ((unit_Count.f a0).bind fun t145 => (lustrumlaw03_UnitOf.j0 k a0 a2 t137 (t145 == 0))))) else (lustrumlaw03_UnitOf.j0 k a0 a2 t137 true)) else (lustrumlaw03_UnitOf.j0 k a0 a2 t137 true)))) else (if t137 = true then (if bt138.1 = 0 then ((unit_Count.f a0).bind fun t140 => (if t140 = 0 then (some true) else (if a0 = 2 then (some (decide ((Int.tmod (Go.bits .and .i64 a1 1073741823) 3652425) < 60))) else (some false)))) else (some false)) else (some false))))
theorem lustrumlaw03_UnitOf.mono_l : ∀ k, (∀ y0 y1 y2 y3, LeO (lustrumlaw03_UnitOf.j0 k y0 y1 y2 y3) (lustrumlaw03_UnitOf.j0 (k + 1) y0 y1 y2 y3))
  | 0 => fun _ _ _ _ r h => by simp [lustrumlaw03_UnitOf.j0] at h
  | k + 1 => by
    have ih0 := lustrumlaw03_UnitOf.mono_l k
    · intro y0 y1 y2 y3
      unfold lustrumlaw03_UnitOf.j0
      repeat' first
      | (with_reducible exact ih0 _ _ _ _)
      | (with_reducible exact LeO.refl _)
      | (with_reducible exact LeO.none _)
      | (with_reducible refine LeO.ite ?_ ?_)
      | (with_reducible refine LeO.bind ?_ (fun _ => ?_))
      | exact ih0 _ _ _ _
      | exact LeO.none _
      | refine LeO.ite ?_ ?_
      | refine LeO.bind ?_ (fun _ => ?_)
theorem lustrumlaw03_UnitOf.mono : ∀ a0 a1 a2 k, LeO (lustrumlaw03_UnitOf.f k a0 a1 a2) (lustrumlaw03_UnitOf.f (k + 1) a0 a1 a2) := by
  intro a0 a1 a2 k
  have ih0 := lustrumlaw03_UnitOf.mono_l k
  unfold lustrumlaw03_UnitOf.f
  repeat' first
      | (with_reducible exact ih0 _ _ _ _)
      | (with_reducible exact LeO.refl _)
      | (with_reducible exact LeO.none _)
      | (with_reducible refine LeO.ite ?_ ?_)
      | (with_reducible refine LeO.bind ?_ (fun _ => ?_))
      | exact ih0 _ _ _ _
      | exact LeO.none _
      | refine LeO.ite ?_ ?_
      | refine LeO.bind ?_ (fun _ => ?_)
set_option maxHeartbeats 8000000 in
set_option maxRecDepth 100000 in
theorem lustrumlaw03_UnitOf.calls (k : Nat) (a0 : Int) (a1 : Int) (a2 : Int) (r : Bool) (w : World) (h : lustrumlaw03_UnitOf.f k a0 a1 a2 = some r) (hT : LenTab w) :
    Calls Tryd.prog 4 #[.int .i64 a0, .int .i64 a1, .int .i64 a2] w fun e w' => e = .returned (.bool r) ∧ Below w.heap.size w w' := by
  have HB := Aside0.mk (Below.refl w.heap.size w)
  have H : ((lustrumlaw03_awake.f).bind fun t137 => ((unit_Of.f a0 (Int.tmod (Go.bits .and .i64 a1 1073741823) 3652425)).bind fun bt138 => (if bt138.2 = true then ((unit_First.f a0 bt138.1).bind fun bt141 => ((unit_Last.f a0 bt138.1).bind fun bt143 => (if bt141.2 = true then (if bt143.2 = true then (if bt141.1 > (Int.tmod (Go.bits .and .i64 a1 1073741823) 3652425) then (lustrumlaw03_UnitOf.j0 k a0 a2 t137 true) else (if (Int.tmod (Go.bits .and .i64 a1 1073741823) 3652425) > bt143.1 then (lustrumlaw03_UnitOf.j0 k a0 a2 t137 true) else ((unit_Count.f a0).bind fun t145 => (lustrumlaw03_UnitOf.j0 k a0 a2 t137 (t145 == 0))))) else (lustrumlaw03_UnitOf.j0 k a0 a2 t137 true)) else (lustrumlaw03_UnitOf.j0 k a0 a2 t137 true)))) else (if t137 = true then (if bt138.1 = 0 then ((unit_Count.f a0).bind fun t140 => (if t140 = 0 then (some true) else (if a0 = 2 then (some (decide ((Int.tmod (Go.bits .and .i64 a1 1073741823) 3652425) < 60))) else (some false)))) else (some false)) else (some false))))) = some r := h
  clear h
  replace H := Option.bind_eq_some_iff.mp H
  obtain ⟨t137, A40, H⟩ := H
  replace H : ((unit_Of.f a0 (Int.tmod (Go.bits .and .i64 a1 1073741823) 3652425)).bind fun bt138 => (if bt138.2 = true then ((unit_First.f a0 bt138.1).bind fun bt141 => ((unit_Last.f a0 bt138.1).bind fun bt143 => (if bt141.2 = true then (if bt143.2 = true then (if bt141.1 > (Int.tmod (Go.bits .and .i64 a1 1073741823) 3652425) then (lustrumlaw03_UnitOf.j0 k a0 a2 t137 true) else (if (Int.tmod (Go.bits .and .i64 a1 1073741823) 3652425) > bt143.1 then (lustrumlaw03_UnitOf.j0 k a0 a2 t137 true) else ((unit_Count.f a0).bind fun t145 => (lustrumlaw03_UnitOf.j0 k a0 a2 t137 (t145 == 0))))) else (lustrumlaw03_UnitOf.j0 k a0 a2 t137 true)) else (lustrumlaw03_UnitOf.j0 k a0 a2 t137 true)))) else (if t137 = true then (if bt138.1 = 0 then ((unit_Count.f a0).bind fun t140 => (if t140 = 0 then (some true) else (if a0 = 2 then (some (decide ((Int.tmod (Go.bits .and .i64 a1 1073741823) 3652425) < 60))) else (some false)))) else (some false)) else (some false)))) = some r := H
  have A4 := Aside0.mk A40
  clear A40
  replace H := Option.bind_eq_some_iff.mp H
  obtain ⟨⟨t138, t139⟩, A50, H⟩ := H
  replace H : (if t139 = true then ((unit_First.f a0 t138).bind fun bt141 => ((unit_Last.f a0 t138).bind fun bt143 => (if bt141.2 = true then (if bt143.2 = true then (if bt141.1 > (Int.tmod (Go.bits .and .i64 a1 1073741823) 3652425) then (lustrumlaw03_UnitOf.j0 k a0 a2 t137 true) else (if (Int.tmod (Go.bits .and .i64 a1 1073741823) 3652425) > bt143.1 then (lustrumlaw03_UnitOf.j0 k a0 a2 t137 true) else ((unit_Count.f a0).bind fun t145 => (lustrumlaw03_UnitOf.j0 k a0 a2 t137 (t145 == 0))))) else (lustrumlaw03_UnitOf.j0 k a0 a2 t137 true)) else (lustrumlaw03_UnitOf.j0 k a0 a2 t137 true)))) else (if t137 = true then (if t138 = 0 then ((unit_Count.f a0).bind fun t140 => (if t140 = 0 then (some true) else (if a0 = 2 then (some (decide ((Int.tmod (Go.bits .and .i64 a1 1073741823) 3652425) < 60))) else (some false)))) else (some false)) else (some false))) = some r := H
  have A5 := Aside0.mk A50
  clear A50
  by_cases c6 : t139 = true
  · subst c6
    have H1 : ((unit_First.f a0 t138).bind fun bt141 => ((unit_Last.f a0 t138).bind fun bt143 => (if bt141.2 = true then (if bt143.2 = true then (if bt141.1 > (Int.tmod (Go.bits .and .i64 a1 1073741823) 3652425) then (lustrumlaw03_UnitOf.j0 k a0 a2 t137 true) else (if (Int.tmod (Go.bits .and .i64 a1 1073741823) 3652425) > bt143.1 then (lustrumlaw03_UnitOf.j0 k a0 a2 t137 true) else ((unit_Count.f a0).bind fun t145 => (lustrumlaw03_UnitOf.j0 k a0 a2 t137 (t145 == 0))))) else (lustrumlaw03_UnitOf.j0 k a0 a2 t137 true)) else (lustrumlaw03_UnitOf.j0 k a0 a2 t137 true)))) = some r := by rw [if_pos rfl] at H; exact H
    clear H
    have H := H1
    clear H1
    replace H := Option.bind_eq_some_iff.mp H
    obtain ⟨⟨t141, t142⟩, A70, H⟩ := H
    replace H : ((unit_Last.f a0 t138).bind fun bt143 => (if t142 = true then (if bt143.2 = true then (if t141 > (Int.tmod (Go.bits .and .i64 a1 1073741823) 3652425) then (lustrumlaw03_UnitOf.j0 k a0 a2 t137 true) else (if (Int.tmod (Go.bits .and .i64 a1 1073741823) 3652425) > bt143.1 then (lustrumlaw03_UnitOf.j0 k a0 a2 t137 true) else ((unit_Count.f a0).bind fun t145 => (lustrumlaw03_UnitOf.j0 k a0 a2 t137 (t145 == 0))))) else (lustrumlaw03_UnitOf.j0 k a0 a2 t137 true)) else (lustrumlaw03_UnitOf.j0 k a0 a2 t137 true))) = some r := H
    have A7 := Aside0.mk A70
    clear A70
    replace H := Option.bind_eq_some_iff.mp H
    obtain ⟨⟨t143, t144⟩, A80, H⟩ := H
    replace H : (if t142 = true then (if t144 = true then (if t141 > (Int.tmod (Go.bits .and .i64 a1 1073741823) 3652425) then (lustrumlaw03_UnitOf.j0 k a0 a2 t137 true) else (if (Int.tmod (Go.bits .and .i64 a1 1073741823) 3652425) > t143 then (lustrumlaw03_UnitOf.j0 k a0 a2 t137 true) else ((unit_Count.f a0).bind fun t145 => (lustrumlaw03_UnitOf.j0 k a0 a2 t137 (t145 == 0))))) else (lustrumlaw03_UnitOf.j0 k a0 a2 t137 true)) else (lustrumlaw03_UnitOf.j0 k a0 a2 t137 true)) = some r := H
    have A8 := Aside0.mk A80
    clear A80
    have HC9 := Aside0.mk H
    clear H
    go_enter Tryd.func4, Tryd.ntmps4
    go_upto_region 8 with (first | ((with_reducible refine gate_callee (f := 8) rfl ?_); refine goesL_ (some 23) rfl rfl Tryd.func8 (by kernel_rfl) rfl #[] rfl (by (try simp only [List.map_toArray, List.map_cons, List.map_nil]); first | done | rfl | (simp only [List.length_drop, List.length_take]; rfl)) ?_; (with_reducible refine (lustrumlaw03_awake.calls  t137 _ A4.out (by first | exact hT | ((repeat (first | exact hT | apply LenTab.drewN)); done) | (refine LenTab.below hT ?_; repeat (first | (with_reducible first | exact HB.out | apply below_alloc | apply pw_below_drewN | apply below_drew1) | exact HB.out)))).mono ?_); rintro e w10 ⟨rfl, hb⟩; refine ⟨_, rfl, ?_⟩; have n0_ := Aside0.mk (below_step (by repeat (first | (with_reducible first | exact HB.out | apply below_alloc | apply pw_below_drewN | apply below_drew1) | exact HB.out)) hb); clear HB; have HB := n0_; clear n0_; (try clear hb); (try clear hb2); (try clear hk); (try clear hi)) | ((with_reducible refine gate_callee (f := 12) rfl ?_); refine goesL_ (some 30) rfl rfl Tryd.func12 (by kernel_rfl) rfl #[.int .i64 a0, .int .i64 (Int.tmod (Go.bits .and .i64 a1 1073741823) 3652425)] rfl (by (try simp only [List.map_toArray, List.map_cons, List.map_nil]); first | done | rfl | (simp only [List.length_drop, List.length_take]; rfl)) ?_; (with_reducible refine (unit_Of.calls a0 (Int.tmod (Go.bits .and .i64 a1 1073741823) 3652425) t138 true _ A5.out (by first | exact hT | ((repeat (first | exact hT | apply LenTab.drewN)); done) | (refine LenTab.below hT ?_; repeat (first | (with_reducible first | exact HB.out | apply below_alloc | apply pw_below_drewN | apply below_drew1) | exact HB.out)))).mono ?_); rintro e w11 ⟨rfl, hb⟩; refine ⟨_, rfl, ?_⟩; have n0_ := Aside0.mk (below_step (by repeat (first | (with_reducible first | exact HB.out | apply below_alloc | apply pw_below_drewN | apply below_drew1) | exact HB.out)) hb); clear HB; have HB := n0_; clear n0_; (try clear hb); (try clear hb2); (try clear hk); (try clear hi)) | ((with_reducible refine gate_callee (f := 10) rfl ?_); refine goesL_ (some 56) rfl rfl Tryd.func10 (by kernel_rfl) rfl #[.int .i64 a0, .int .i64 t138] rfl (by (try simp only [List.map_toArray, List.map_cons, List.map_nil]); first | done | rfl | (simp only [List.length_drop, List.length_take]; rfl)) ?_; (with_reducible refine (unit_First.calls a0 t138 t141 t142 _ A7.out (by first | exact hT | ((repeat (first | exact hT | apply LenTab.drewN)); done) | (refine LenTab.below hT ?_; repeat (first | (with_reducible first | exact HB.out | apply below_alloc | apply pw_below_drewN | apply below_drew1) | exact HB.out)))).mono ?_); rintro e w12 ⟨rfl, hb⟩; refine ⟨_, rfl, ?_⟩; have n0_ := Aside0.mk (below_step (by repeat (first | (with_reducible first | exact HB.out | apply below_alloc | apply pw_below_drewN | apply below_drew1) | exact HB.out)) hb); clear HB; have HB := n0_; clear n0_; (try clear hb); (try clear hb2); (try clear hk); (try clear hi)) | ((with_reducible refine gate_callee (f := 11) rfl ?_); refine goesL_ (some 62) rfl rfl Tryd.func11 (by kernel_rfl) rfl #[.int .i64 a0, .int .i64 t138] rfl (by (try simp only [List.map_toArray, List.map_cons, List.map_nil]); first | done | rfl | (simp only [List.length_drop, List.length_take]; rfl)) ?_; (with_reducible refine (unit_Last.calls a0 t138 t143 t144 _ A8.out (by first | exact hT | ((repeat (first | exact hT | apply LenTab.drewN)); done) | (refine LenTab.below hT ?_; repeat (first | (with_reducible first | exact HB.out | apply below_alloc | apply pw_below_drewN | apply below_drew1) | exact HB.out)))).mono ?_); rintro e w13 ⟨rfl, hb⟩; refine ⟨_, rfl, ?_⟩; have n0_ := Aside0.mk (below_step (by repeat (first | (with_reducible first | exact HB.out | apply below_alloc | apply pw_below_drewN | apply below_drew1) | exact HB.out)) hb); clear HB; have HB := n0_; clear n0_; (try clear hb); (try clear hb2); (try clear hk); (try clear hi)))
    (try simp only [Act.put, List.setIfInBounds_toArray, List.set_cons_zero, List.set_cons_succ])
    go_cut [85] (fun v85 wc => ∃ (kq : Nat) (x85_8 : Bool), v85 = .bool x85_8 ∧ Aside0 (lustrumlaw03_UnitOf.j0 kq a0 a2 t137 x85_8 = some r) ∧ Aside0 (kq ≤ k) ∧ Aside0 (Below w.heap.size w wc))
    case first =>
      have H := HC9.out
      clear HC9
      by_cases c14 : t142 = true
      · subst c14
        have H1 : (if t144 = true then (if t141 > (Int.tmod (Go.bits .and .i64 a1 1073741823) 3652425) then (lustrumlaw03_UnitOf.j0 k a0 a2 t137 true) else (if (Int.tmod (Go.bits .and .i64 a1 1073741823) 3652425) > t143 then (lustrumlaw03_UnitOf.j0 k a0 a2 t137 true) else ((unit_Count.f a0).bind fun t145 => (lustrumlaw03_UnitOf.j0 k a0 a2 t137 (t145 == 0))))) else (lustrumlaw03_UnitOf.j0 k a0 a2 t137 true)) = some r := by rw [if_pos rfl] at H; exact H
        clear H
        have H := H1
        clear H1
        by_cases c15 : t144 = true
        · subst c15
          have H1 : (if t141 > (Int.tmod (Go.bits .and .i64 a1 1073741823) 3652425) then (lustrumlaw03_UnitOf.j0 k a0 a2 t137 true) else (if (Int.tmod (Go.bits .and .i64 a1 1073741823) 3652425) > t143 then (lustrumlaw03_UnitOf.j0 k a0 a2 t137 true) else ((unit_Count.f a0).bind fun t145 => (lustrumlaw03_UnitOf.j0 k a0 a2 t137 (t145 == 0))))) = some r := by rw [if_pos rfl] at H; exact H
          clear H
          have H := H1
          clear H1
          by_cases c16 : t141 > (Int.tmod (Go.bits .and .i64 a1 1073741823) 3652425)
          · rw [if_pos c16] at H
            have c16b0 : decide ((Int.tmod (Go.bits .and .i64 a1 1073741823) 3652425) < t141) = true := decide_eq_true c16
            clear c16
            (first | rw [c16b0] | (simp only [i64_w, i32_w]; rw [c16b0]) | skip)
            have H' := Aside0.mk H
            clear H
            go_wp2
            go_meet
            case rel => exact ⟨_, (true), (by first | rfl | (simp; done) | (simp [*]; done)), H', ⟨by first | omega | exact Nat.le_refl _⟩, ⟨by repeat (first | (with_reducible first | exact HB.out | apply below_alloc | apply pw_below_drewN | apply below_drew1) | exact HB.out)⟩⟩
          · rw [if_neg c16] at H
            have c16b0 : decide ((Int.tmod (Go.bits .and .i64 a1 1073741823) 3652425) < t141) = false := decide_eq_false c16
            clear c16
            (first | rw [c16b0] | (simp only [i64_w, i32_w]; rw [c16b0]) | skip)
            by_cases c17 : (Int.tmod (Go.bits .and .i64 a1 1073741823) 3652425) > t143
            · rw [if_pos c17] at H
              have c17b0 : decide (t143 < (Int.tmod (Go.bits .and .i64 a1 1073741823) 3652425)) = true := decide_eq_true c17
              clear c17
              have H' := Aside0.mk H
              clear H
              go_wp2
              go_meet
              case rel => exact ⟨_, (true), (by first | rfl | (simp; done) | (simp [*]; done)), H', ⟨by first | omega | exact Nat.le_refl _⟩, ⟨by repeat (first | (with_reducible first | exact HB.out | apply below_alloc | apply pw_below_drewN | apply below_drew1) | exact HB.out)⟩⟩
            · rw [if_neg c17] at H
              have c17b0 : decide (t143 < (Int.tmod (Go.bits .and .i64 a1 1073741823) 3652425)) = false := decide_eq_false c17
              clear c17
              replace H := Option.bind_eq_some_iff.mp H
              obtain ⟨t145, A180, H⟩ := H
              replace H : (lustrumlaw03_UnitOf.j0 k a0 a2 t137 (t145 == 0)) = some r := H
              have A18 := Aside0.mk A180
              clear A180
              have H' := Aside0.mk H
              clear H
              go_wp2_with (first | (go_at_call 9; (with_reducible refine (unit_Count.calls a0 t145 _ A18.out (by first | exact hT | ((repeat (first | exact hT | apply LenTab.drewN)); done) | (refine LenTab.below hT ?_; repeat (first | (with_reducible first | exact HB.out | apply below_alloc | apply pw_below_drewN | apply below_drew1) | exact HB.out)))).mono ?_); rintro e w19 ⟨rfl, hb⟩; have n0_ := Aside0.mk (below_step (by repeat (first | (with_reducible first | exact HB.out | apply below_alloc | apply pw_below_drewN | apply below_drew1) | exact HB.out)) hb); clear HB; have HB := n0_; clear n0_; (try clear hb); (try clear hb2); (try clear hk); (try clear hi)))
              go_meet
              case rel => exact ⟨_, ((t145 == 0)), (by first | rfl | (simp; done) | (simp [*]; done)), H', ⟨by first | omega | exact Nat.le_refl _⟩, ⟨by repeat (first | (with_reducible first | exact HB.out | apply below_alloc | apply pw_below_drewN | apply below_drew1) | exact HB.out)⟩⟩
        · replace c15 := Bool.eq_false_iff.mpr c15
          subst c15
          have H1 : (lustrumlaw03_UnitOf.j0 k a0 a2 t137 true) = some r := by rw [if_neg (show ¬ (false = true) by decide)] at H; exact H
          clear H
          have H := H1
          clear H1
          have H' := Aside0.mk H
          clear H
          go_wp2
          go_meet
          case rel => exact ⟨_, (true), (by first | rfl | (simp; done) | (simp [*]; done)), H', ⟨by first | omega | exact Nat.le_refl _⟩, ⟨by repeat (first | (with_reducible first | exact HB.out | apply below_alloc | apply pw_below_drewN | apply below_drew1) | exact HB.out)⟩⟩
      · replace c14 := Bool.eq_false_iff.mpr c14
        subst c14
        have H1 : (lustrumlaw03_UnitOf.j0 k a0 a2 t137 true) = some r := by rw [if_neg (show ¬ (false = true) by decide)] at H; exact H
        clear H
        have H := H1
        clear H1
        have H' := Aside0.mk H
        clear H
        go_wp2
        go_meet
        case rel => exact ⟨_, (true), (by first | rfl | (simp; done) | (simp [*]; done)), H', ⟨by first | omega | exact Nat.le_refl _⟩, ⟨by repeat (first | (with_reducible first | exact HB.out | apply below_alloc | apply pw_below_drewN | apply below_drew1) | exact HB.out)⟩⟩
    case rest =>
      clear HC9
      try clear c1
      try clear p2
      try clear c4
      try clear c6
      try clear c8
      try clear c10
      try clear c11
      try clear c12
      try clear c14
      try clear c15
      try clear c16
      try clear c16b0
      try clear c17
      try clear c17b0
      obtain ⟨kq, x85_8, rfl, HA, HJ8, HB⟩ := hcut
      cases kq with
      | zero => exact absurd HA.out (by simp [lustrumlaw03_UnitOf.j0])
      | succ kj8 =>
        have H := HA.out
        clear HA
        simp only [lustrumlaw03_UnitOf.j0] at H
        by_cases c20 : x85_8 = true
        · subst c20
          have H1 : (some false) = some r := by rw [if_pos rfl] at H; exact H
          clear H
          have H := H1
          clear H1
          obtain rfl := Option.some.inj H
          go_wp2
          go_ret
          exact ⟨by first | rfl | (simp [errW_none, errW_some] <;> rfl) | (simp [*, errW_none, errW_some] <;> rfl), by repeat (first | (with_reducible first | exact HB.out | apply below_alloc | apply pw_below_drewN | apply below_drew1) | exact HB.out)⟩
        · replace c20 := Bool.eq_false_iff.mpr c20
          subst c20
          have H1 : ((unit_First.f a0 a2).bind fun bt146 => ((unit_Last.f a0 a2).bind fun bt148 => (if bt146.2 = true then ((unit_Of.f a0 bt146.1).bind fun bt150 => ((unit_Of.f a0 bt148.1).bind fun bt152 => (if t137 = true then (if bt148.2 = true then (if bt150.2 = true then (if bt152.2 = true then (if bt150.1 = a2 then (some (bt152.1 == a2)) else (some false)) else (some false)) else (some false)) else (some false)) else (some false)))) else (if t137 = true then (some (!bt148.2)) else (some false))))) = some r := by rw [if_neg (show ¬ (false = true) by decide)] at H; exact H
          clear H
          have H := H1
          clear H1
          replace H := Option.bind_eq_some_iff.mp H
          obtain ⟨⟨t146, t147⟩, A210, H⟩ := H
          replace H : ((unit_Last.f a0 a2).bind fun bt148 => (if t147 = true then ((unit_Of.f a0 t146).bind fun bt150 => ((unit_Of.f a0 bt148.1).bind fun bt152 => (if t137 = true then (if bt148.2 = true then (if bt150.2 = true then (if bt152.2 = true then (if bt150.1 = a2 then (some (bt152.1 == a2)) else (some false)) else (some false)) else (some false)) else (some false)) else (some false)))) else (if t137 = true then (some (!bt148.2)) else (some false)))) = some r := H
          have A21 := Aside0.mk A210
          clear A210
          replace H := Option.bind_eq_some_iff.mp H
          obtain ⟨⟨t148, t149⟩, A220, H⟩ := H
          replace H : (if t147 = true then ((unit_Of.f a0 t146).bind fun bt150 => ((unit_Of.f a0 t148).bind fun bt152 => (if t137 = true then (if t149 = true then (if bt150.2 = true then (if bt152.2 = true then (if bt150.1 = a2 then (some (bt152.1 == a2)) else (some false)) else (some false)) else (some false)) else (some false)) else (some false)))) else (if t137 = true then (some (!t149)) else (some false))) = some r := H
          have A22 := Aside0.mk A220
          clear A220
          by_cases c23 : t147 = true
          · subst c23
            have H1 : ((unit_Of.f a0 t146).bind fun bt150 => ((unit_Of.f a0 t148).bind fun bt152 => (if t137 = true then (if t149 = true then (if bt150.2 = true then (if bt152.2 = true then (if bt150.1 = a2 then (some (bt152.1 == a2)) else (some false)) else (some false)) else (some false)) else (some false)) else (some false)))) = some r := by rw [if_pos rfl] at H; exact H
            clear H
            have H := H1
            clear H1
            replace H := Option.bind_eq_some_iff.mp H
            obtain ⟨⟨t150, t151⟩, A240, H⟩ := H
            replace H : ((unit_Of.f a0 t148).bind fun bt152 => (if t137 = true then (if t149 = true then (if t151 = true then (if bt152.2 = true then (if t150 = a2 then (some (bt152.1 == a2)) else (some false)) else (some false)) else (some false)) else (some false)) else (some false))) = some r := H
            have A24 := Aside0.mk A240
            clear A240
            replace H := Option.bind_eq_some_iff.mp H
            obtain ⟨⟨t152, t153⟩, A250, H⟩ := H
            replace H : (if t137 = true then (if t149 = true then (if t151 = true then (if t153 = true then (if t150 = a2 then (some (t152 == a2)) else (some false)) else (some false)) else (some false)) else (some false)) else (some false)) = some r := H
            have A25 := Aside0.mk A250
            clear A250
            by_cases c26 : t137 = true
            · subst c26
              have H1 : (if t149 = true then (if t151 = true then (if t153 = true then (if t150 = a2 then (some (t152 == a2)) else (some false)) else (some false)) else (some false)) else (some false)) = some r := by rw [if_pos rfl] at H; exact H
              clear H
              have H := H1
              clear H1
              by_cases c27 : t149 = true
              · subst c27
                have H1 : (if t151 = true then (if t153 = true then (if t150 = a2 then (some (t152 == a2)) else (some false)) else (some false)) else (some false)) = some r := by rw [if_pos rfl] at H; exact H
                clear H
                have H := H1
                clear H1
                by_cases c28 : t151 = true
                · subst c28
                  have H1 : (if t153 = true then (if t150 = a2 then (some (t152 == a2)) else (some false)) else (some false)) = some r := by rw [if_pos rfl] at H; exact H
                  clear H
                  have H := H1
                  clear H1
                  by_cases c29 : t153 = true
                  · subst c29
                    have H1 : (if t150 = a2 then (some (t152 == a2)) else (some false)) = some r := by rw [if_pos rfl] at H; exact H
                    clear H
                    have H := H1
                    clear H1
                    by_cases c30 : t150 = a2
                    · rw [if_pos c30] at H
                      have c30b0 : (t150 == a2) = true := beq_iff_eq.mpr c30
                      have c30b1 : (t150 != a2) = false := bne_eq_false_iff_eq.mpr c30
                      clear c30
                      obtain rfl := Option.some.inj H
                      go_wp2_with (first | ((with_reducible refine gate_callee (f := 10) rfl ?_); refine goesL_ (some 89) rfl rfl Tryd.func10 (by kernel_rfl) rfl #[.int .i64 a0, .int .i64 a2] rfl (by (try simp only [List.map_toArray, List.map_cons, List.map_nil]); first | done | rfl | (simp only [List.length_drop, List.length_take]; rfl)) ?_; (with_reducible refine (unit_First.calls a0 a2 t146 true _ A21.out (by first | exact hT | ((repeat (first | exact hT | apply LenTab.drewN)); done) | (refine LenTab.below hT ?_; repeat (first | (with_reducible first | exact HB.out | apply below_alloc | apply pw_below_drewN | apply below_drew1) | exact HB.out)))).mono ?_); rintro e w31 ⟨rfl, hb⟩; refine ⟨_, rfl, ?_⟩; have n0_ := Aside0.mk (below_step (by repeat (first | (with_reducible first | exact HB.out | apply below_alloc | apply pw_below_drewN | apply below_drew1) | exact HB.out)) hb); clear HB; have HB := n0_; clear n0_; (try clear hb); (try clear hb2); (try clear hk); (try clear hi)) | ((with_reducible refine gate_callee (f := 11) rfl ?_); refine goesL_ (some 95) rfl rfl Tryd.func11 (by kernel_rfl) rfl #[.int .i64 a0, .int .i64 a2] rfl (by (try simp only [List.map_toArray, List.map_cons, List.map_nil]); first | done | rfl | (simp only [List.length_drop, List.length_take]; rfl)) ?_; (with_reducible refine (unit_Last.calls a0 a2 t148 true _ A22.out (by first | exact hT | ((repeat (first | exact hT | apply LenTab.drewN)); done) | (refine LenTab.below hT ?_; repeat (first | (with_reducible first | exact HB.out | apply below_alloc | apply pw_below_drewN | apply below_drew1) | exact HB.out)))).mono ?_); rintro e w32 ⟨rfl, hb⟩; refine ⟨_, rfl, ?_⟩; have n0_ := Aside0.mk (below_step (by repeat (first | (with_reducible first | exact HB.out | apply below_alloc | apply pw_below_drewN | apply below_drew1) | exact HB.out)) hb); clear HB; have HB := n0_; clear n0_; (try clear hb); (try clear hb2); (try clear hk); (try clear hi)) | ((with_reducible refine gate_callee (f := 12) rfl ?_); refine goesL_ (some 102) rfl rfl Tryd.func12 (by kernel_rfl) rfl #[.int .i64 a0, .int .i64 t146] rfl (by (try simp only [List.map_toArray, List.map_cons, List.map_nil]); first | done | rfl | (simp only [List.length_drop, List.length_take]; rfl)) ?_; (with_reducible refine (unit_Of.calls a0 t146 t150 true _ A24.out (by first | exact hT | ((repeat (first | exact hT | apply LenTab.drewN)); done) | (refine LenTab.below hT ?_; repeat (first | (with_reducible first | exact HB.out | apply below_alloc | apply pw_below_drewN | apply below_drew1) | exact HB.out)))).mono ?_); rintro e w33 ⟨rfl, hb⟩; refine ⟨_, rfl, ?_⟩; have n0_ := Aside0.mk (below_step (by repeat (first | (with_reducible first | exact HB.out | apply below_alloc | apply pw_below_drewN | apply below_drew1) | exact HB.out)) hb); clear HB; have HB := n0_; clear n0_; (try clear hb); (try clear hb2); (try clear hk); (try clear hi)) | ((with_reducible refine gate_callee (f := 12) rfl ?_); refine goesL_ (some 108) rfl rfl Tryd.func12 (by kernel_rfl) rfl #[.int .i64 a0, .int .i64 t148] rfl (by (try simp only [List.map_toArray, List.map_cons, List.map_nil]); first | done | rfl | (simp only [List.length_drop, List.length_take]; rfl)) ?_; (with_reducible refine (unit_Of.calls a0 t148 t152 true _ A25.out (by first | exact hT | ((repeat (first | exact hT | apply LenTab.drewN)); done) | (refine LenTab.below hT ?_; repeat (first | (with_reducible first | exact HB.out | apply below_alloc | apply pw_below_drewN | apply below_drew1) | exact HB.out)))).mono ?_); rintro e w34 ⟨rfl, hb⟩; refine ⟨_, rfl, ?_⟩; have n0_ := Aside0.mk (below_step (by repeat (first | (with_reducible first | exact HB.out | apply below_alloc | apply pw_below_drewN | apply below_drew1) | exact HB.out)) hb); clear HB; have HB := n0_; clear n0_; (try clear hb); (try clear hb2); (try clear hk); (try clear hi)))
                      go_ret
                      exact ⟨by first | rfl | (simp [errW_none, errW_some] <;> rfl) | (simp [*, errW_none, errW_some] <;> rfl), by repeat (first | (with_reducible first | exact HB.out | apply below_alloc | apply pw_below_drewN | apply below_drew1) | exact HB.out)⟩
                    · rw [if_neg c30] at H
                      have c30b0 : (t150 == a2) = false := beq_eq_false_iff_ne.mpr c30
                      have c30b1 : (t150 != a2) = true := bne_iff_ne.mpr c30
                      obtain rfl := Option.some.inj H
                      go_wp2_with (first | ((with_reducible refine gate_callee (f := 10) rfl ?_); refine goesL_ (some 89) rfl rfl Tryd.func10 (by kernel_rfl) rfl #[.int .i64 a0, .int .i64 a2] rfl (by (try simp only [List.map_toArray, List.map_cons, List.map_nil]); first | done | rfl | (simp only [List.length_drop, List.length_take]; rfl)) ?_; (with_reducible refine (unit_First.calls a0 a2 t146 true _ A21.out (by first | exact hT | ((repeat (first | exact hT | apply LenTab.drewN)); done) | (refine LenTab.below hT ?_; repeat (first | (with_reducible first | exact HB.out | apply below_alloc | apply pw_below_drewN | apply below_drew1) | exact HB.out)))).mono ?_); rintro e w35 ⟨rfl, hb⟩; refine ⟨_, rfl, ?_⟩; have n0_ := Aside0.mk (below_step (by repeat (first | (with_reducible first | exact HB.out | apply below_alloc | apply pw_below_drewN | apply below_drew1) | exact HB.out)) hb); clear HB; have HB := n0_; clear n0_; (try clear hb); (try clear hb2); (try clear hk); (try clear hi)) | ((with_reducible refine gate_callee (f := 11) rfl ?_); refine goesL_ (some 95) rfl rfl Tryd.func11 (by kernel_rfl) rfl #[.int .i64 a0, .int .i64 a2] rfl (by (try simp only [List.map_toArray, List.map_cons, List.map_nil]); first | done | rfl | (simp only [List.length_drop, List.length_take]; rfl)) ?_; (with_reducible refine (unit_Last.calls a0 a2 t148 true _ A22.out (by first | exact hT | ((repeat (first | exact hT | apply LenTab.drewN)); done) | (refine LenTab.below hT ?_; repeat (first | (with_reducible first | exact HB.out | apply below_alloc | apply pw_below_drewN | apply below_drew1) | exact HB.out)))).mono ?_); rintro e w36 ⟨rfl, hb⟩; refine ⟨_, rfl, ?_⟩; have n0_ := Aside0.mk (below_step (by repeat (first | (with_reducible first | exact HB.out | apply below_alloc | apply pw_below_drewN | apply below_drew1) | exact HB.out)) hb); clear HB; have HB := n0_; clear n0_; (try clear hb); (try clear hb2); (try clear hk); (try clear hi)) | ((with_reducible refine gate_callee (f := 12) rfl ?_); refine goesL_ (some 102) rfl rfl Tryd.func12 (by kernel_rfl) rfl #[.int .i64 a0, .int .i64 t146] rfl (by (try simp only [List.map_toArray, List.map_cons, List.map_nil]); first | done | rfl | (simp only [List.length_drop, List.length_take]; rfl)) ?_; (with_reducible refine (unit_Of.calls a0 t146 t150 true _ A24.out (by first | exact hT | ((repeat (first | exact hT | apply LenTab.drewN)); done) | (refine LenTab.below hT ?_; repeat (first | (with_reducible first | exact HB.out | apply below_alloc | apply pw_below_drewN | apply below_drew1) | exact HB.out)))).mono ?_); rintro e w37 ⟨rfl, hb⟩; refine ⟨_, rfl, ?_⟩; have n0_ := Aside0.mk (below_step (by repeat (first | (with_reducible first | exact HB.out | apply below_alloc | apply pw_below_drewN | apply below_drew1) | exact HB.out)) hb); clear HB; have HB := n0_; clear n0_; (try clear hb); (try clear hb2); (try clear hk); (try clear hi)) | ((with_reducible refine gate_callee (f := 12) rfl ?_); refine goesL_ (some 108) rfl rfl Tryd.func12 (by kernel_rfl) rfl #[.int .i64 a0, .int .i64 t148] rfl (by (try simp only [List.map_toArray, List.map_cons, List.map_nil]); first | done | rfl | (simp only [List.length_drop, List.length_take]; rfl)) ?_; (with_reducible refine (unit_Of.calls a0 t148 t152 true _ A25.out (by first | exact hT | ((repeat (first | exact hT | apply LenTab.drewN)); done) | (refine LenTab.below hT ?_; repeat (first | (with_reducible first | exact HB.out | apply below_alloc | apply pw_below_drewN | apply below_drew1) | exact HB.out)))).mono ?_); rintro e w38 ⟨rfl, hb⟩; refine ⟨_, rfl, ?_⟩; have n0_ := Aside0.mk (below_step (by repeat (first | (with_reducible first | exact HB.out | apply below_alloc | apply pw_below_drewN | apply below_drew1) | exact HB.out)) hb); clear HB; have HB := n0_; clear n0_; (try clear hb); (try clear hb2); (try clear hk); (try clear hi)))
                      go_ret
                      exact ⟨by first | rfl | (simp [errW_none, errW_some] <;> rfl) | (simp [*, errW_none, errW_some] <;> rfl), by repeat (first | (with_reducible first | exact HB.out | apply below_alloc | apply pw_below_drewN | apply below_drew1) | exact HB.out)⟩
                  · replace c29 := Bool.eq_false_iff.mpr c29
                    subst c29
                    have H1 : (some false) = some r := by rw [if_neg (show ¬ (false = true) by decide)] at H; exact H
                    clear H
                    have H := H1
                    clear H1
                    obtain rfl := Option.some.inj H
                    go_wp2_with (first | ((with_reducible refine gate_callee (f := 10) rfl ?_); refine goesL_ (some 89) rfl rfl Tryd.func10 (by kernel_rfl) rfl #[.int .i64 a0, .int .i64 a2] rfl (by (try simp only [List.map_toArray, List.map_cons, List.map_nil]); first | done | rfl | (simp only [List.length_drop, List.length_take]; rfl)) ?_; (with_reducible refine (unit_First.calls a0 a2 t146 true _ A21.out (by first | exact hT | ((repeat (first | exact hT | apply LenTab.drewN)); done) | (refine LenTab.below hT ?_; repeat (first | (with_reducible first | exact HB.out | apply below_alloc | apply pw_below_drewN | apply below_drew1) | exact HB.out)))).mono ?_); rintro e w39 ⟨rfl, hb⟩; refine ⟨_, rfl, ?_⟩; have n0_ := Aside0.mk (below_step (by repeat (first | (with_reducible first | exact HB.out | apply below_alloc | apply pw_below_drewN | apply below_drew1) | exact HB.out)) hb); clear HB; have HB := n0_; clear n0_; (try clear hb); (try clear hb2); (try clear hk); (try clear hi)) | ((with_reducible refine gate_callee (f := 11) rfl ?_); refine goesL_ (some 95) rfl rfl Tryd.func11 (by kernel_rfl) rfl #[.int .i64 a0, .int .i64 a2] rfl (by (try simp only [List.map_toArray, List.map_cons, List.map_nil]); first | done | rfl | (simp only [List.length_drop, List.length_take]; rfl)) ?_; (with_reducible refine (unit_Last.calls a0 a2 t148 true _ A22.out (by first | exact hT | ((repeat (first | exact hT | apply LenTab.drewN)); done) | (refine LenTab.below hT ?_; repeat (first | (with_reducible first | exact HB.out | apply below_alloc | apply pw_below_drewN | apply below_drew1) | exact HB.out)))).mono ?_); rintro e w40 ⟨rfl, hb⟩; refine ⟨_, rfl, ?_⟩; have n0_ := Aside0.mk (below_step (by repeat (first | (with_reducible first | exact HB.out | apply below_alloc | apply pw_below_drewN | apply below_drew1) | exact HB.out)) hb); clear HB; have HB := n0_; clear n0_; (try clear hb); (try clear hb2); (try clear hk); (try clear hi)) | ((with_reducible refine gate_callee (f := 12) rfl ?_); refine goesL_ (some 102) rfl rfl Tryd.func12 (by kernel_rfl) rfl #[.int .i64 a0, .int .i64 t146] rfl (by (try simp only [List.map_toArray, List.map_cons, List.map_nil]); first | done | rfl | (simp only [List.length_drop, List.length_take]; rfl)) ?_; (with_reducible refine (unit_Of.calls a0 t146 t150 true _ A24.out (by first | exact hT | ((repeat (first | exact hT | apply LenTab.drewN)); done) | (refine LenTab.below hT ?_; repeat (first | (with_reducible first | exact HB.out | apply below_alloc | apply pw_below_drewN | apply below_drew1) | exact HB.out)))).mono ?_); rintro e w41 ⟨rfl, hb⟩; refine ⟨_, rfl, ?_⟩; have n0_ := Aside0.mk (below_step (by repeat (first | (with_reducible first | exact HB.out | apply below_alloc | apply pw_below_drewN | apply below_drew1) | exact HB.out)) hb); clear HB; have HB := n0_; clear n0_; (try clear hb); (try clear hb2); (try clear hk); (try clear hi)) | ((with_reducible refine gate_callee (f := 12) rfl ?_); refine goesL_ (some 108) rfl rfl Tryd.func12 (by kernel_rfl) rfl #[.int .i64 a0, .int .i64 t148] rfl (by (try simp only [List.map_toArray, List.map_cons, List.map_nil]); first | done | rfl | (simp only [List.length_drop, List.length_take]; rfl)) ?_; (with_reducible refine (unit_Of.calls a0 t148 t152 false _ A25.out (by first | exact hT | ((repeat (first | exact hT | apply LenTab.drewN)); done) | (refine LenTab.below hT ?_; repeat (first | (with_reducible first | exact HB.out | apply below_alloc | apply pw_below_drewN | apply below_drew1) | exact HB.out)))).mono ?_); rintro e w42 ⟨rfl, hb⟩; refine ⟨_, rfl, ?_⟩; have n0_ := Aside0.mk (below_step (by repeat (first | (with_reducible first | exact HB.out | apply below_alloc | apply pw_below_drewN | apply below_drew1) | exact HB.out)) hb); clear HB; have HB := n0_; clear n0_; (try clear hb); (try clear hb2); (try clear hk); (try clear hi)))
                    go_ret
                    exact ⟨by first | rfl | (simp [errW_none, errW_some] <;> rfl) | (simp [*, errW_none, errW_some] <;> rfl), by repeat (first | (with_reducible first | exact HB.out | apply below_alloc | apply pw_below_drewN | apply below_drew1) | exact HB.out)⟩
                · replace c28 := Bool.eq_false_iff.mpr c28
                  subst c28
                  have H1 : (some false) = some r := by rw [if_neg (show ¬ (false = true) by decide)] at H; exact H
                  clear H
                  have H := H1
                  clear H1
                  obtain rfl := Option.some.inj H
                  go_wp2_with (first | ((with_reducible refine gate_callee (f := 10) rfl ?_); refine goesL_ (some 89) rfl rfl Tryd.func10 (by kernel_rfl) rfl #[.int .i64 a0, .int .i64 a2] rfl (by (try simp only [List.map_toArray, List.map_cons, List.map_nil]); first | done | rfl | (simp only [List.length_drop, List.length_take]; rfl)) ?_; (with_reducible refine (unit_First.calls a0 a2 t146 true _ A21.out (by first | exact hT | ((repeat (first | exact hT | apply LenTab.drewN)); done) | (refine LenTab.below hT ?_; repeat (first | (with_reducible first | exact HB.out | apply below_alloc | apply pw_below_drewN | apply below_drew1) | exact HB.out)))).mono ?_); rintro e w43 ⟨rfl, hb⟩; refine ⟨_, rfl, ?_⟩; have n0_ := Aside0.mk (below_step (by repeat (first | (with_reducible first | exact HB.out | apply below_alloc | apply pw_below_drewN | apply below_drew1) | exact HB.out)) hb); clear HB; have HB := n0_; clear n0_; (try clear hb); (try clear hb2); (try clear hk); (try clear hi)) | ((with_reducible refine gate_callee (f := 11) rfl ?_); refine goesL_ (some 95) rfl rfl Tryd.func11 (by kernel_rfl) rfl #[.int .i64 a0, .int .i64 a2] rfl (by (try simp only [List.map_toArray, List.map_cons, List.map_nil]); first | done | rfl | (simp only [List.length_drop, List.length_take]; rfl)) ?_; (with_reducible refine (unit_Last.calls a0 a2 t148 true _ A22.out (by first | exact hT | ((repeat (first | exact hT | apply LenTab.drewN)); done) | (refine LenTab.below hT ?_; repeat (first | (with_reducible first | exact HB.out | apply below_alloc | apply pw_below_drewN | apply below_drew1) | exact HB.out)))).mono ?_); rintro e w44 ⟨rfl, hb⟩; refine ⟨_, rfl, ?_⟩; have n0_ := Aside0.mk (below_step (by repeat (first | (with_reducible first | exact HB.out | apply below_alloc | apply pw_below_drewN | apply below_drew1) | exact HB.out)) hb); clear HB; have HB := n0_; clear n0_; (try clear hb); (try clear hb2); (try clear hk); (try clear hi)) | ((with_reducible refine gate_callee (f := 12) rfl ?_); refine goesL_ (some 102) rfl rfl Tryd.func12 (by kernel_rfl) rfl #[.int .i64 a0, .int .i64 t146] rfl (by (try simp only [List.map_toArray, List.map_cons, List.map_nil]); first | done | rfl | (simp only [List.length_drop, List.length_take]; rfl)) ?_; (with_reducible refine (unit_Of.calls a0 t146 t150 false _ A24.out (by first | exact hT | ((repeat (first | exact hT | apply LenTab.drewN)); done) | (refine LenTab.below hT ?_; repeat (first | (with_reducible first | exact HB.out | apply below_alloc | apply pw_below_drewN | apply below_drew1) | exact HB.out)))).mono ?_); rintro e w45 ⟨rfl, hb⟩; refine ⟨_, rfl, ?_⟩; have n0_ := Aside0.mk (below_step (by repeat (first | (with_reducible first | exact HB.out | apply below_alloc | apply pw_below_drewN | apply below_drew1) | exact HB.out)) hb); clear HB; have HB := n0_; clear n0_; (try clear hb); (try clear hb2); (try clear hk); (try clear hi)) | ((with_reducible refine gate_callee (f := 12) rfl ?_); refine goesL_ (some 108) rfl rfl Tryd.func12 (by kernel_rfl) rfl #[.int .i64 a0, .int .i64 t148] rfl (by (try simp only [List.map_toArray, List.map_cons, List.map_nil]); first | done | rfl | (simp only [List.length_drop, List.length_take]; rfl)) ?_; (with_reducible refine (unit_Of.calls a0 t148 t152 t153 _ A25.out (by first | exact hT | ((repeat (first | exact hT | apply LenTab.drewN)); done) | (refine LenTab.below hT ?_; repeat (first | (with_reducible first | exact HB.out | apply below_alloc | apply pw_below_drewN | apply below_drew1) | exact HB.out)))).mono ?_); rintro e w46 ⟨rfl, hb⟩; refine ⟨_, rfl, ?_⟩; have n0_ := Aside0.mk (below_step (by repeat (first | (with_reducible first | exact HB.out | apply below_alloc | apply pw_below_drewN | apply below_drew1) | exact HB.out)) hb); clear HB; have HB := n0_; clear n0_; (try clear hb); (try clear hb2); (try clear hk); (try clear hi)))
                  go_ret
                  exact ⟨by first | rfl | (simp [errW_none, errW_some] <;> rfl) | (simp [*, errW_none, errW_some] <;> rfl), by repeat (first | (with_reducible first | exact HB.out | apply below_alloc | apply pw_below_drewN | apply below_drew1) | exact HB.out)⟩
              · replace c27 := Bool.eq_false_iff.mpr c27
                subst c27
                have H1 : (some false) = some r := by rw [if_neg (show ¬ (false = true) by decide)] at H; exact H
                clear H
                have H := H1
                clear H1
                obtain rfl := Option.some.inj H
                go_wp2_with (first | ((with_reducible refine gate_callee (f := 10) rfl ?_); refine goesL_ (some 89) rfl rfl Tryd.func10 (by kernel_rfl) rfl #[.int .i64 a0, .int .i64 a2] rfl (by (try simp only [List.map_toArray, List.map_cons, List.map_nil]); first | done | rfl | (simp only [List.length_drop, List.length_take]; rfl)) ?_; (with_reducible refine (unit_First.calls a0 a2 t146 true _ A21.out (by first | exact hT | ((repeat (first | exact hT | apply LenTab.drewN)); done) | (refine LenTab.below hT ?_; repeat (first | (with_reducible first | exact HB.out | apply below_alloc | apply pw_below_drewN | apply below_drew1) | exact HB.out)))).mono ?_); rintro e w47 ⟨rfl, hb⟩; refine ⟨_, rfl, ?_⟩; have n0_ := Aside0.mk (below_step (by repeat (first | (with_reducible first | exact HB.out | apply below_alloc | apply pw_below_drewN | apply below_drew1) | exact HB.out)) hb); clear HB; have HB := n0_; clear n0_; (try clear hb); (try clear hb2); (try clear hk); (try clear hi)) | ((with_reducible refine gate_callee (f := 11) rfl ?_); refine goesL_ (some 95) rfl rfl Tryd.func11 (by kernel_rfl) rfl #[.int .i64 a0, .int .i64 a2] rfl (by (try simp only [List.map_toArray, List.map_cons, List.map_nil]); first | done | rfl | (simp only [List.length_drop, List.length_take]; rfl)) ?_; (with_reducible refine (unit_Last.calls a0 a2 t148 false _ A22.out (by first | exact hT | ((repeat (first | exact hT | apply LenTab.drewN)); done) | (refine LenTab.below hT ?_; repeat (first | (with_reducible first | exact HB.out | apply below_alloc | apply pw_below_drewN | apply below_drew1) | exact HB.out)))).mono ?_); rintro e w48 ⟨rfl, hb⟩; refine ⟨_, rfl, ?_⟩; have n0_ := Aside0.mk (below_step (by repeat (first | (with_reducible first | exact HB.out | apply below_alloc | apply pw_below_drewN | apply below_drew1) | exact HB.out)) hb); clear HB; have HB := n0_; clear n0_; (try clear hb); (try clear hb2); (try clear hk); (try clear hi)) | ((with_reducible refine gate_callee (f := 12) rfl ?_); refine goesL_ (some 102) rfl rfl Tryd.func12 (by kernel_rfl) rfl #[.int .i64 a0, .int .i64 t146] rfl (by (try simp only [List.map_toArray, List.map_cons, List.map_nil]); first | done | rfl | (simp only [List.length_drop, List.length_take]; rfl)) ?_; (with_reducible refine (unit_Of.calls a0 t146 t150 t151 _ A24.out (by first | exact hT | ((repeat (first | exact hT | apply LenTab.drewN)); done) | (refine LenTab.below hT ?_; repeat (first | (with_reducible first | exact HB.out | apply below_alloc | apply pw_below_drewN | apply below_drew1) | exact HB.out)))).mono ?_); rintro e w49 ⟨rfl, hb⟩; refine ⟨_, rfl, ?_⟩; have n0_ := Aside0.mk (below_step (by repeat (first | (with_reducible first | exact HB.out | apply below_alloc | apply pw_below_drewN | apply below_drew1) | exact HB.out)) hb); clear HB; have HB := n0_; clear n0_; (try clear hb); (try clear hb2); (try clear hk); (try clear hi)) | ((with_reducible refine gate_callee (f := 12) rfl ?_); refine goesL_ (some 108) rfl rfl Tryd.func12 (by kernel_rfl) rfl #[.int .i64 a0, .int .i64 t148] rfl (by (try simp only [List.map_toArray, List.map_cons, List.map_nil]); first | done | rfl | (simp only [List.length_drop, List.length_take]; rfl)) ?_; (with_reducible refine (unit_Of.calls a0 t148 t152 t153 _ A25.out (by first | exact hT | ((repeat (first | exact hT | apply LenTab.drewN)); done) | (refine LenTab.below hT ?_; repeat (first | (with_reducible first | exact HB.out | apply below_alloc | apply pw_below_drewN | apply below_drew1) | exact HB.out)))).mono ?_); rintro e w50 ⟨rfl, hb⟩; refine ⟨_, rfl, ?_⟩; have n0_ := Aside0.mk (below_step (by repeat (first | (with_reducible first | exact HB.out | apply below_alloc | apply pw_below_drewN | apply below_drew1) | exact HB.out)) hb); clear HB; have HB := n0_; clear n0_; (try clear hb); (try clear hb2); (try clear hk); (try clear hi)))
                go_ret
                exact ⟨by first | rfl | (simp [errW_none, errW_some] <;> rfl) | (simp [*, errW_none, errW_some] <;> rfl), by repeat (first | (with_reducible first | exact HB.out | apply below_alloc | apply pw_below_drewN | apply below_drew1) | exact HB.out)⟩
            · replace c26 := Bool.eq_false_iff.mpr c26
              subst c26
              have H1 : (some false) = some r := by rw [if_neg (show ¬ (false = true) by decide)] at H; exact H
              clear H
              have H := H1
              clear H1
              obtain rfl := Option.some.inj H
              go_wp2_with (first | ((with_reducible refine gate_callee (f := 10) rfl ?_); refine goesL_ (some 89) rfl rfl Tryd.func10 (by kernel_rfl) rfl #[.int .i64 a0, .int .i64 a2] rfl (by (try simp only [List.map_toArray, List.map_cons, List.map_nil]); first | done | rfl | (simp only [List.length_drop, List.length_take]; rfl)) ?_; (with_reducible refine (unit_First.calls a0 a2 t146 true _ A21.out (by first | exact hT | ((repeat (first | exact hT | apply LenTab.drewN)); done) | (refine LenTab.below hT ?_; repeat (first | (with_reducible first | exact HB.out | apply below_alloc | apply pw_below_drewN | apply below_drew1) | exact HB.out)))).mono ?_); rintro e w51 ⟨rfl, hb⟩; refine ⟨_, rfl, ?_⟩; have n0_ := Aside0.mk (below_step (by repeat (first | (with_reducible first | exact HB.out | apply below_alloc | apply pw_below_drewN | apply below_drew1) | exact HB.out)) hb); clear HB; have HB := n0_; clear n0_; (try clear hb); (try clear hb2); (try clear hk); (try clear hi)) | ((with_reducible refine gate_callee (f := 11) rfl ?_); refine goesL_ (some 95) rfl rfl Tryd.func11 (by kernel_rfl) rfl #[.int .i64 a0, .int .i64 a2] rfl (by (try simp only [List.map_toArray, List.map_cons, List.map_nil]); first | done | rfl | (simp only [List.length_drop, List.length_take]; rfl)) ?_; (with_reducible refine (unit_Last.calls a0 a2 t148 t149 _ A22.out (by first | exact hT | ((repeat (first | exact hT | apply LenTab.drewN)); done) | (refine LenTab.below hT ?_; repeat (first | (with_reducible first | exact HB.out | apply below_alloc | apply pw_below_drewN | apply below_drew1) | exact HB.out)))).mono ?_); rintro e w52 ⟨rfl, hb⟩; refine ⟨_, rfl, ?_⟩; have n0_ := Aside0.mk (below_step (by repeat (first | (with_reducible first | exact HB.out | apply below_alloc | apply pw_below_drewN | apply below_drew1) | exact HB.out)) hb); clear HB; have HB := n0_; clear n0_; (try clear hb); (try clear hb2); (try clear hk); (try clear hi)) | ((with_reducible refine gate_callee (f := 12) rfl ?_); refine goesL_ (some 102) rfl rfl Tryd.func12 (by kernel_rfl) rfl #[.int .i64 a0, .int .i64 t146] rfl (by (try simp only [List.map_toArray, List.map_cons, List.map_nil]); first | done | rfl | (simp only [List.length_drop, List.length_take]; rfl)) ?_; (with_reducible refine (unit_Of.calls a0 t146 t150 t151 _ A24.out (by first | exact hT | ((repeat (first | exact hT | apply LenTab.drewN)); done) | (refine LenTab.below hT ?_; repeat (first | (with_reducible first | exact HB.out | apply below_alloc | apply pw_below_drewN | apply below_drew1) | exact HB.out)))).mono ?_); rintro e w53 ⟨rfl, hb⟩; refine ⟨_, rfl, ?_⟩; have n0_ := Aside0.mk (below_step (by repeat (first | (with_reducible first | exact HB.out | apply below_alloc | apply pw_below_drewN | apply below_drew1) | exact HB.out)) hb); clear HB; have HB := n0_; clear n0_; (try clear hb); (try clear hb2); (try clear hk); (try clear hi)) | ((with_reducible refine gate_callee (f := 12) rfl ?_); refine goesL_ (some 108) rfl rfl Tryd.func12 (by kernel_rfl) rfl #[.int .i64 a0, .int .i64 t148] rfl (by (try simp only [List.map_toArray, List.map_cons, List.map_nil]); first | done | rfl | (simp only [List.length_drop, List.length_take]; rfl)) ?_; (with_reducible refine (unit_Of.calls a0 t148 t152 t153 _ A25.out (by first | exact hT | ((repeat (first | exact hT | apply LenTab.drewN)); done) | (refine LenTab.below hT ?_; repeat (first | (with_reducible first | exact HB.out | apply below_alloc | apply pw_below_drewN | apply below_drew1) | exact HB.out)))).mono ?_); rintro e w54 ⟨rfl, hb⟩; refine ⟨_, rfl, ?_⟩; have n0_ := Aside0.mk (below_step (by repeat (first | (with_reducible first | exact HB.out | apply below_alloc | apply pw_below_drewN | apply below_drew1) | exact HB.out)) hb); clear HB; have HB := n0_; clear n0_; (try clear hb); (try clear hb2); (try clear hk); (try clear hi)))
              go_ret
              exact ⟨by first | rfl | (simp [errW_none, errW_some] <;> rfl) | (simp [*, errW_none, errW_some] <;> rfl), by repeat (first | (with_reducible first | exact HB.out | apply below_alloc | apply pw_below_drewN | apply below_drew1) | exact HB.out)⟩
          · replace c23 := Bool.eq_false_iff.mpr c23
            subst c23
            have H1 : (if t137 = true then (some (!t149)) else (some false)) = some r := by rw [if_neg (show ¬ (false = true) by decide)] at H; exact H
            clear H
            have H := H1
            clear H1
            by_cases c55 : t137 = true
            · subst c55
              have H1 : (some (!t149)) = some r := by rw [if_pos rfl] at H; exact H
              clear H
              have H := H1
              clear H1
              obtain rfl := Option.some.inj H
              go_wp2_with (first | ((with_reducible refine gate_callee (f := 10) rfl ?_); refine goesL_ (some 89) rfl rfl Tryd.func10 (by kernel_rfl) rfl #[.int .i64 a0, .int .i64 a2] rfl (by (try simp only [List.map_toArray, List.map_cons, List.map_nil]); first | done | rfl | (simp only [List.length_drop, List.length_take]; rfl)) ?_; (with_reducible refine (unit_First.calls a0 a2 t146 false _ A21.out (by first | exact hT | ((repeat (first | exact hT | apply LenTab.drewN)); done) | (refine LenTab.below hT ?_; repeat (first | (with_reducible first | exact HB.out | apply below_alloc | apply pw_below_drewN | apply below_drew1) | exact HB.out)))).mono ?_); rintro e w56 ⟨rfl, hb⟩; refine ⟨_, rfl, ?_⟩; have n0_ := Aside0.mk (below_step (by repeat (first | (with_reducible first | exact HB.out | apply below_alloc | apply pw_below_drewN | apply below_drew1) | exact HB.out)) hb); clear HB; have HB := n0_; clear n0_; (try clear hb); (try clear hb2); (try clear hk); (try clear hi)) | ((with_reducible refine gate_callee (f := 11) rfl ?_); refine goesL_ (some 95) rfl rfl Tryd.func11 (by kernel_rfl) rfl #[.int .i64 a0, .int .i64 a2] rfl (by (try simp only [List.map_toArray, List.map_cons, List.map_nil]); first | done | rfl | (simp only [List.length_drop, List.length_take]; rfl)) ?_; (with_reducible refine (unit_Last.calls a0 a2 t148 t149 _ A22.out (by first | exact hT | ((repeat (first | exact hT | apply LenTab.drewN)); done) | (refine LenTab.below hT ?_; repeat (first | (with_reducible first | exact HB.out | apply below_alloc | apply pw_below_drewN | apply below_drew1) | exact HB.out)))).mono ?_); rintro e w57 ⟨rfl, hb⟩; refine ⟨_, rfl, ?_⟩; have n0_ := Aside0.mk (below_step (by repeat (first | (with_reducible first | exact HB.out | apply below_alloc | apply pw_below_drewN | apply below_drew1) | exact HB.out)) hb); clear HB; have HB := n0_; clear n0_; (try clear hb); (try clear hb2); (try clear hk); (try clear hi)))
              go_ret
              exact ⟨by first | rfl | (simp [errW_none, errW_some] <;> rfl) | (simp [*, errW_none, errW_some] <;> rfl), by repeat (first | (with_reducible first | exact HB.out | apply below_alloc | apply pw_below_drewN | apply below_drew1) | exact HB.out)⟩
            · replace c55 := Bool.eq_false_iff.mpr c55
              subst c55
              have H1 : (some false) = some r := by rw [if_neg (show ¬ (false = true) by decide)] at H; exact H
              clear H
              have H := H1
              clear H1
              obtain rfl := Option.some.inj H
              go_wp2_with (first | ((with_reducible refine gate_callee (f := 10) rfl ?_); refine goesL_ (some 89) rfl rfl Tryd.func10 (by kernel_rfl) rfl #[.int .i64 a0, .int .i64 a2] rfl (by (try simp only [List.map_toArray, List.map_cons, List.map_nil]); first | done | rfl | (simp only [List.length_drop, List.length_take]; rfl)) ?_; (with_reducible refine (unit_First.calls a0 a2 t146 false _ A21.out (by first | exact hT | ((repeat (first | exact hT | apply LenTab.drewN)); done) | (refine LenTab.below hT ?_; repeat (first | (with_reducible first | exact HB.out | apply below_alloc | apply pw_below_drewN | apply below_drew1) | exact HB.out)))).mono ?_); rintro e w58 ⟨rfl, hb⟩; refine ⟨_, rfl, ?_⟩; have n0_ := Aside0.mk (below_step (by repeat (first | (with_reducible first | exact HB.out | apply below_alloc | apply pw_below_drewN | apply below_drew1) | exact HB.out)) hb); clear HB; have HB := n0_; clear n0_; (try clear hb); (try clear hb2); (try clear hk); (try clear hi)) | ((with_reducible refine gate_callee (f := 11) rfl ?_); refine goesL_ (some 95) rfl rfl Tryd.func11 (by kernel_rfl) rfl #[.int .i64 a0, .int .i64 a2] rfl (by (try simp only [List.map_toArray, List.map_cons, List.map_nil]); first | done | rfl | (simp only [List.length_drop, List.length_take]; rfl)) ?_; (with_reducible refine (unit_Last.calls a0 a2 t148 t149 _ A22.out (by first | exact hT | ((repeat (first | exact hT | apply LenTab.drewN)); done) | (refine LenTab.below hT ?_; repeat (first | (with_reducible first | exact HB.out | apply below_alloc | apply pw_below_drewN | apply below_drew1) | exact HB.out)))).mono ?_); rintro e w59 ⟨rfl, hb⟩; refine ⟨_, rfl, ?_⟩; have n0_ := Aside0.mk (below_step (by repeat (first | (with_reducible first | exact HB.out | apply below_alloc | apply pw_below_drewN | apply below_drew1) | exact HB.out)) hb); clear HB; have HB := n0_; clear n0_; (try clear hb); (try clear hb2); (try clear hk); (try clear hi)))
              go_ret
              exact ⟨by first | rfl | (simp [errW_none, errW_some] <;> rfl) | (simp [*, errW_none, errW_some] <;> rfl), by repeat (first | (with_reducible first | exact HB.out | apply below_alloc | apply pw_below_drewN | apply below_drew1) | exact HB.out)⟩
  · replace c6 := Bool.eq_false_iff.mpr c6
    subst c6
    have H1 : (if t137 = true then (if t138 = 0 then ((unit_Count.f a0).bind fun t140 => (if t140 = 0 then (some true) else (if a0 = 2 then (some (decide ((Int.tmod (Go.bits .and .i64 a1 1073741823) 3652425) < 60))) else (some false)))) else (some false)) else (some false)) = some r := by rw [if_neg (show ¬ (false = true) by decide)] at H; exact H
    clear H
    have H := H1
    clear H1
    by_cases c60 : t137 = true
    · subst c60
      have H1 : (if t138 = 0 then ((unit_Count.f a0).bind fun t140 => (if t140 = 0 then (some true) else (if a0 = 2 then (some (decide ((Int.tmod (Go.bits .and .i64 a1 1073741823) 3652425) < 60))) else (some false)))) else (some false)) = some r := by rw [if_pos rfl] at H; exact H
      clear H
      have H := H1
      clear H1
      by_cases c61 : t138 = 0
      · rw [if_pos c61] at H
        have c61b0 : (t138 == 0) = true := beq_iff_eq.mpr c61
        have c61b1 : (t138 != 0) = false := bne_eq_false_iff_eq.mpr c61
        clear c61
        replace H := Option.bind_eq_some_iff.mp H
        obtain ⟨t140, A620, H⟩ := H
        replace H : (if t140 = 0 then (some true) else (if a0 = 2 then (some (decide ((Int.tmod (Go.bits .and .i64 a1 1073741823) 3652425) < 60))) else (some false))) = some r := H
        have A62 := Aside0.mk A620
        clear A620
        by_cases c63 : t140 = 0
        · rw [if_pos c63] at H
          have c63b0 : (t140 == 0) = true := beq_iff_eq.mpr c63
          have c63b1 : (t140 != 0) = false := bne_eq_false_iff_eq.mpr c63
          clear c63
          obtain rfl := Option.some.inj H
          go_enter Tryd.func4, Tryd.ntmps4
          go_wp2_with (first | ((with_reducible refine gate_callee (f := 8) rfl ?_); refine goesL_ (some 23) rfl rfl Tryd.func8 (by kernel_rfl) rfl #[] rfl (by (try simp only [List.map_toArray, List.map_cons, List.map_nil]); first | done | rfl | (simp only [List.length_drop, List.length_take]; rfl)) ?_; (with_reducible refine (lustrumlaw03_awake.calls  true _ A4.out (by first | exact hT | ((repeat (first | exact hT | apply LenTab.drewN)); done) | (refine LenTab.below hT ?_; repeat (first | (with_reducible first | exact HB.out | apply below_alloc | apply pw_below_drewN | apply below_drew1) | exact HB.out)))).mono ?_); rintro e w64 ⟨rfl, hb⟩; refine ⟨_, rfl, ?_⟩; have n0_ := Aside0.mk (below_step (by repeat (first | (with_reducible first | exact HB.out | apply below_alloc | apply pw_below_drewN | apply below_drew1) | exact HB.out)) hb); clear HB; have HB := n0_; clear n0_; (try clear hb); (try clear hb2); (try clear hk); (try clear hi)) | ((with_reducible refine gate_callee (f := 12) rfl ?_); refine goesL_ (some 30) rfl rfl Tryd.func12 (by kernel_rfl) rfl #[.int .i64 a0, .int .i64 (Int.tmod (Go.bits .and .i64 a1 1073741823) 3652425)] rfl (by (try simp only [List.map_toArray, List.map_cons, List.map_nil]); first | done | rfl | (simp only [List.length_drop, List.length_take]; rfl)) ?_; (with_reducible refine (unit_Of.calls a0 (Int.tmod (Go.bits .and .i64 a1 1073741823) 3652425) t138 false _ A5.out (by first | exact hT | ((repeat (first | exact hT | apply LenTab.drewN)); done) | (refine LenTab.below hT ?_; repeat (first | (with_reducible first | exact HB.out | apply below_alloc | apply pw_below_drewN | apply below_drew1) | exact HB.out)))).mono ?_); rintro e w65 ⟨rfl, hb⟩; refine ⟨_, rfl, ?_⟩; have n0_ := Aside0.mk (below_step (by repeat (first | (with_reducible first | exact HB.out | apply below_alloc | apply pw_below_drewN | apply below_drew1) | exact HB.out)) hb); clear HB; have HB := n0_; clear n0_; (try clear hb); (try clear hb2); (try clear hk); (try clear hi)) | (go_at_call 9; (with_reducible refine (unit_Count.calls a0 t140 _ A62.out (by first | exact hT | ((repeat (first | exact hT | apply LenTab.drewN)); done) | (refine LenTab.below hT ?_; repeat (first | (with_reducible first | exact HB.out | apply below_alloc | apply pw_below_drewN | apply below_drew1) | exact HB.out)))).mono ?_); rintro e w66 ⟨rfl, hb⟩; have n0_ := Aside0.mk (below_step (by repeat (first | (with_reducible first | exact HB.out | apply below_alloc | apply pw_below_drewN | apply below_drew1) | exact HB.out)) hb); clear HB; have HB := n0_; clear n0_; (try clear hb); (try clear hb2); (try clear hk); (try clear hi)))
          go_ret
          exact ⟨by first | rfl | (simp [errW_none, errW_some] <;> rfl) | (simp [*, errW_none, errW_some] <;> rfl), by repeat (first | (with_reducible first | exact HB.out | apply below_alloc | apply pw_below_drewN | apply below_drew1) | exact HB.out)⟩
        · rw [if_neg c63] at H
          have c63b0 : (t140 == 0) = false := beq_eq_false_iff_ne.mpr c63
          have c63b1 : (t140 != 0) = true := bne_iff_ne.mpr c63
          by_cases c67 : a0 = 2
          · rw [if_pos c67] at H
            have c67b0 : (a0 == 2) = true := beq_iff_eq.mpr c67
            have c67b1 : (a0 != 2) = false := bne_eq_false_iff_eq.mpr c67
            clear c67
            obtain rfl := Option.some.inj H
            go_enter Tryd.func4, Tryd.ntmps4
            go_wp2_with (first | ((with_reducible refine gate_callee (f := 8) rfl ?_); refine goesL_ (some 23) rfl rfl Tryd.func8 (by kernel_rfl) rfl #[] rfl (by (try simp only [List.map_toArray, List.map_cons, List.map_nil]); first | done | rfl | (simp only [List.length_drop, List.length_take]; rfl)) ?_; (with_reducible refine (lustrumlaw03_awake.calls  true _ A4.out (by first | exact hT | ((repeat (first | exact hT | apply LenTab.drewN)); done) | (refine LenTab.below hT ?_; repeat (first | (with_reducible first | exact HB.out | apply below_alloc | apply pw_below_drewN | apply below_drew1) | exact HB.out)))).mono ?_); rintro e w68 ⟨rfl, hb⟩; refine ⟨_, rfl, ?_⟩; have n0_ := Aside0.mk (below_step (by repeat (first | (with_reducible first | exact HB.out | apply below_alloc | apply pw_below_drewN | apply below_drew1) | exact HB.out)) hb); clear HB; have HB := n0_; clear n0_; (try clear hb); (try clear hb2); (try clear hk); (try clear hi)) | ((with_reducible refine gate_callee (f := 12) rfl ?_); refine goesL_ (some 30) rfl rfl Tryd.func12 (by kernel_rfl) rfl #[.int .i64 a0, .int .i64 (Int.tmod (Go.bits .and .i64 a1 1073741823) 3652425)] rfl (by (try simp only [List.map_toArray, List.map_cons, List.map_nil]); first | done | rfl | (simp only [List.length_drop, List.length_take]; rfl)) ?_; (with_reducible refine (unit_Of.calls a0 (Int.tmod (Go.bits .and .i64 a1 1073741823) 3652425) t138 false _ A5.out (by first | exact hT | ((repeat (first | exact hT | apply LenTab.drewN)); done) | (refine LenTab.below hT ?_; repeat (first | (with_reducible first | exact HB.out | apply below_alloc | apply pw_below_drewN | apply below_drew1) | exact HB.out)))).mono ?_); rintro e w69 ⟨rfl, hb⟩; refine ⟨_, rfl, ?_⟩; have n0_ := Aside0.mk (below_step (by repeat (first | (with_reducible first | exact HB.out | apply below_alloc | apply pw_below_drewN | apply below_drew1) | exact HB.out)) hb); clear HB; have HB := n0_; clear n0_; (try clear hb); (try clear hb2); (try clear hk); (try clear hi)) | (go_at_call 9; (with_reducible refine (unit_Count.calls a0 t140 _ A62.out (by first | exact hT | ((repeat (first | exact hT | apply LenTab.drewN)); done) | (refine LenTab.below hT ?_; repeat (first | (with_reducible first | exact HB.out | apply below_alloc | apply pw_below_drewN | apply below_drew1) | exact HB.out)))).mono ?_); rintro e w70 ⟨rfl, hb⟩; have n0_ := Aside0.mk (below_step (by repeat (first | (with_reducible first | exact HB.out | apply below_alloc | apply pw_below_drewN | apply below_drew1) | exact HB.out)) hb); clear HB; have HB := n0_; clear n0_; (try clear hb); (try clear hb2); (try clear hk); (try clear hi)))
            go_ret
            exact ⟨by first | rfl | (simp [errW_none, errW_some] <;> rfl) | (simp [*, errW_none, errW_some] <;> rfl), by repeat (first | (with_reducible first | exact HB.out | apply below_alloc | apply pw_below_drewN | apply below_drew1) | exact HB.out)⟩
          · rw [if_neg c67] at H
            have c67b0 : (a0 == 2) = false := beq_eq_false_iff_ne.mpr c67
            have c67b1 : (a0 != 2) = true := bne_iff_ne.mpr c67
            obtain rfl := Option.some.inj H
            go_enter Tryd.func4, Tryd.ntmps4
            go_wp2_with (first | ((with_reducible refine gate_callee (f := 8) rfl ?_); refine goesL_ (some 23) rfl rfl Tryd.func8 (by kernel_rfl) rfl #[] rfl (by (try simp only [List.map_toArray, List.map_cons, List.map_nil]); first | done | rfl | (simp only [List.length_drop, List.length_take]; rfl)) ?_; (with_reducible refine (lustrumlaw03_awake.calls  true _ A4.out (by first | exact hT | ((repeat (first | exact hT | apply LenTab.drewN)); done) | (refine LenTab.below hT ?_; repeat (first | (with_reducible first | exact HB.out | apply below_alloc | apply pw_below_drewN | apply below_drew1) | exact HB.out)))).mono ?_); rintro e w71 ⟨rfl, hb⟩; refine ⟨_, rfl, ?_⟩; have n0_ := Aside0.mk (below_step (by repeat (first | (with_reducible first | exact HB.out | apply below_alloc | apply pw_below_drewN | apply below_drew1) | exact HB.out)) hb); clear HB; have HB := n0_; clear n0_; (try clear hb); (try clear hb2); (try clear hk); (try clear hi)) | ((with_reducible refine gate_callee (f := 12) rfl ?_); refine goesL_ (some 30) rfl rfl Tryd.func12 (by kernel_rfl) rfl #[.int .i64 a0, .int .i64 (Int.tmod (Go.bits .and .i64 a1 1073741823) 3652425)] rfl (by (try simp only [List.map_toArray, List.map_cons, List.map_nil]); first | done | rfl | (simp only [List.length_drop, List.length_take]; rfl)) ?_; (with_reducible refine (unit_Of.calls a0 (Int.tmod (Go.bits .and .i64 a1 1073741823) 3652425) t138 false _ A5.out (by first | exact hT | ((repeat (first | exact hT | apply LenTab.drewN)); done) | (refine LenTab.below hT ?_; repeat (first | (with_reducible first | exact HB.out | apply below_alloc | apply pw_below_drewN | apply below_drew1) | exact HB.out)))).mono ?_); rintro e w72 ⟨rfl, hb⟩; refine ⟨_, rfl, ?_⟩; have n0_ := Aside0.mk (below_step (by repeat (first | (with_reducible first | exact HB.out | apply below_alloc | apply pw_below_drewN | apply below_drew1) | exact HB.out)) hb); clear HB; have HB := n0_; clear n0_; (try clear hb); (try clear hb2); (try clear hk); (try clear hi)) | (go_at_call 9; (with_reducible refine (unit_Count.calls a0 t140 _ A62.out (by first | exact hT | ((repeat (first | exact hT | apply LenTab.drewN)); done) | (refine LenTab.below hT ?_; repeat (first | (with_reducible first | exact HB.out | apply below_alloc | apply pw_below_drewN | apply below_drew1) | exact HB.out)))).mono ?_); rintro e w73 ⟨rfl, hb⟩; have n0_ := Aside0.mk (below_step (by repeat (first | (with_reducible first | exact HB.out | apply below_alloc | apply pw_below_drewN | apply below_drew1) | exact HB.out)) hb); clear HB; have HB := n0_; clear n0_; (try clear hb); (try clear hb2); (try clear hk); (try clear hi)))
            go_ret
            exact ⟨by first | rfl | (simp [errW_none, errW_some] <;> rfl) | (simp [*, errW_none, errW_some] <;> rfl), by repeat (first | (with_reducible first | exact HB.out | apply below_alloc | apply pw_below_drewN | apply below_drew1) | exact HB.out)⟩
      · rw [if_neg c61] at H
        have c61b0 : (t138 == 0) = false := beq_eq_false_iff_ne.mpr c61
        have c61b1 : (t138 != 0) = true := bne_iff_ne.mpr c61
        obtain rfl := Option.some.inj H
        go_enter Tryd.func4, Tryd.ntmps4
        go_wp2_with (first | ((with_reducible refine gate_callee (f := 8) rfl ?_); refine goesL_ (some 23) rfl rfl Tryd.func8 (by kernel_rfl) rfl #[] rfl (by (try simp only [List.map_toArray, List.map_cons, List.map_nil]); first | done | rfl | (simp only [List.length_drop, List.length_take]; rfl)) ?_; (with_reducible refine (lustrumlaw03_awake.calls  true _ A4.out (by first | exact hT | ((repeat (first | exact hT | apply LenTab.drewN)); done) | (refine LenTab.below hT ?_; repeat (first | (with_reducible first | exact HB.out | apply below_alloc | apply pw_below_drewN | apply below_drew1) | exact HB.out)))).mono ?_); rintro e w74 ⟨rfl, hb⟩; refine ⟨_, rfl, ?_⟩; have n0_ := Aside0.mk (below_step (by repeat (first | (with_reducible first | exact HB.out | apply below_alloc | apply pw_below_drewN | apply below_drew1) | exact HB.out)) hb); clear HB; have HB := n0_; clear n0_; (try clear hb); (try clear hb2); (try clear hk); (try clear hi)) | ((with_reducible refine gate_callee (f := 12) rfl ?_); refine goesL_ (some 30) rfl rfl Tryd.func12 (by kernel_rfl) rfl #[.int .i64 a0, .int .i64 (Int.tmod (Go.bits .and .i64 a1 1073741823) 3652425)] rfl (by (try simp only [List.map_toArray, List.map_cons, List.map_nil]); first | done | rfl | (simp only [List.length_drop, List.length_take]; rfl)) ?_; (with_reducible refine (unit_Of.calls a0 (Int.tmod (Go.bits .and .i64 a1 1073741823) 3652425) t138 false _ A5.out (by first | exact hT | ((repeat (first | exact hT | apply LenTab.drewN)); done) | (refine LenTab.below hT ?_; repeat (first | (with_reducible first | exact HB.out | apply below_alloc | apply pw_below_drewN | apply below_drew1) | exact HB.out)))).mono ?_); rintro e w75 ⟨rfl, hb⟩; refine ⟨_, rfl, ?_⟩; have n0_ := Aside0.mk (below_step (by repeat (first | (with_reducible first | exact HB.out | apply below_alloc | apply pw_below_drewN | apply below_drew1) | exact HB.out)) hb); clear HB; have HB := n0_; clear n0_; (try clear hb); (try clear hb2); (try clear hk); (try clear hi)))
        go_ret
        exact ⟨by first | rfl | (simp [errW_none, errW_some] <;> rfl) | (simp [*, errW_none, errW_some] <;> rfl), by repeat (first | (with_reducible first | exact HB.out | apply below_alloc | apply pw_below_drewN | apply below_drew1) | exact HB.out)⟩
    · replace c60 := Bool.eq_false_iff.mpr c60
      subst c60
      have H1 : (some false) = some r := by rw [if_neg (show ¬ (false = true) by decide)] at H; exact H
      clear H
      have H := H1
      clear H1
      obtain rfl := Option.some.inj H
      go_enter Tryd.func4, Tryd.ntmps4
      go_wp2_with (first | ((with_reducible refine gate_callee (f := 8) rfl ?_); refine goesL_ (some 23) rfl rfl Tryd.func8 (by kernel_rfl) rfl #[] rfl (by (try simp only [List.map_toArray, List.map_cons, List.map_nil]); first | done | rfl | (simp only [List.length_drop, List.length_take]; rfl)) ?_; (with_reducible refine (lustrumlaw03_awake.calls  false _ A4.out (by first | exact hT | ((repeat (first | exact hT | apply LenTab.drewN)); done) | (refine LenTab.below hT ?_; repeat (first | (with_reducible first | exact HB.out | apply below_alloc | apply pw_below_drewN | apply below_drew1) | exact HB.out)))).mono ?_); rintro e w76 ⟨rfl, hb⟩; refine ⟨_, rfl, ?_⟩; have n0_ := Aside0.mk (below_step (by repeat (first | (with_reducible first | exact HB.out | apply below_alloc | apply pw_below_drewN | apply below_drew1) | exact HB.out)) hb); clear HB; have HB := n0_; clear n0_; (try clear hb); (try clear hb2); (try clear hk); (try clear hi)) | ((with_reducible refine gate_callee (f := 12) rfl ?_); refine goesL_ (some 30) rfl rfl Tryd.func12 (by kernel_rfl) rfl #[.int .i64 a0, .int .i64 (Int.tmod (Go.bits .and .i64 a1 1073741823) 3652425)] rfl (by (try simp only [List.map_toArray, List.map_cons, List.map_nil]); first | done | rfl | (simp only [List.length_drop, List.length_take]; rfl)) ?_; (with_reducible refine (unit_Of.calls a0 (Int.tmod (Go.bits .and .i64 a1 1073741823) 3652425) t138 false _ A5.out (by first | exact hT | ((repeat (first | exact hT | apply LenTab.drewN)); done) | (refine LenTab.below hT ?_; repeat (first | (with_reducible first | exact HB.out | apply below_alloc | apply pw_below_drewN | apply below_drew1) | exact HB.out)))).mono ?_); rintro e w77 ⟨rfl, hb⟩; refine ⟨_, rfl, ?_⟩; have n0_ := Aside0.mk (below_step (by repeat (first | (with_reducible first | exact HB.out | apply below_alloc | apply pw_below_drewN | apply below_drew1) | exact HB.out)) hb); clear HB; have HB := n0_; clear n0_; (try clear hb); (try clear hb2); (try clear hk); (try clear hi)))
      go_ret
      exact ⟨by first | rfl | (simp [errW_none, errW_some] <;> rfl) | (simp [*, errW_none, errW_some] <;> rfl), by repeat (first | (with_reducible first | exact HB.out | apply below_alloc | apply pw_below_drewN | apply below_drew1) | exact HB.out)⟩

/-- THE ONE PURE STATEMENT of lustrumlaw03_UnitOf: yours. -/
def lustrumlaw03_UnitOf.Pure : Prop := ∀ (a0 : Int) (a1 : Int) (a2 : Int), (Lit.int .i64 a0).wf = true → (Lit.int .i64 a1).wf = true → (Lit.int .i64 a2).wf = true → ∃ k, lustrumlaw03_UnitOf.f k a0 a1 a2 = some true
theorem lustrumlaw03_UnitOf.walk (P : lustrumlaw03_UnitOf.Pure) (a0 : Int) (a1 : Int) (a2 : Int) (w : World) (w0 : (Lit.int .i64 a0).wf = true) (w1 : (Lit.int .i64 a1).wf = true) (w2 : (Lit.int .i64 a2).wf = true) (hT : LenTab w) :
    Calls Tryd.prog 4 #[.int .i64 a0, .int .i64 a1, .int .i64 a2] w fun e w' => e = .returned (.bool true) ∧ Below w.heap.size w w' := by
  obtain ⟨k, h⟩ := P a0 a1 a2 w0 w1 w2
  refine (lustrumlaw03_UnitOf.calls k a0 a1 a2 true w h hT).mono ?_
  rintro e w' ⟨rfl, hd⟩
  exact ⟨rfl, hd⟩

end Go.Proofs.YtbnlndiphflmpabDoor.PU
