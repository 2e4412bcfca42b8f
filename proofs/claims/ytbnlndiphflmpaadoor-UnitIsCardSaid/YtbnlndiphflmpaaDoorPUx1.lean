/- Written by a program of this session (wip/tool/vary.py) out of the translation, with the kit's printing program; Lean checks every line. -/
import Derived.Test.YtbnlndiphflmpaaDoorPUx0
namespace Go.Proofs.YtbnlndiphflmpaaDoor.PU
open Go.RowKit Go.Proofs.YtbnlndiphflmpaaDoorW.PrintWords Go.Proofs.YtbnlndiphflmpaaDoorW.PrintLast Go.Proofs.YtbnlndiphflmpaaDoorW.PrintMore
attribute [local go_sem] max2_int min2_int max_two min_two max_three min_three max_four min_four   -- for this text's walks alone
set_option linter.unusedVariables false
set_option linter.unusedSimpArgs false

/-! ### ints_Mod: function 32 -/
def ints_Mod.f (a0 : Int) (a1 : Int) : Option (Int) := if a1 < 1 then (some 0) else (if a1 = 0 then (none) else (if (Int.tmod a0 a1) < 0 then (some (wrap64 ((Int.tmod a0 a1) + a1))) else (some (Int.tmod a0 a1))))
set_option maxHeartbeats 8000000 in
set_option maxRecDepth 100000 in
theorem ints_Mod.calls (a0 : Int) (a1 : Int) (r : Int) (w : World) (h : ints_Mod.f a0 a1 = some r) :
    Calls Tryd.prog 32 #[.int .i64 a0, .int .i64 a1] w fun e w' => e = .returned (.int .i64 r) ∧ Drawn0 w w' := by
  have H : (if a1 < 1 then (some 0) else (if a1 = 0 then (none) else (if (Int.tmod a0 a1) < 0 then (some (wrap64 ((Int.tmod a0 a1) + a1))) else (some (Int.tmod a0 a1))))) = some r := h
  clear h
  by_cases c3 : a1 < 1
  · rw [if_pos c3] at H
    have c3b0 : decide (a1 < 1) = true := decide_eq_true c3
    clear c3
    obtain rfl := Option.some.inj H
    go_enter Tryd.func32, Tryd.ntmps32
    go_wp2
    go_ret
    exact ⟨by first | rfl | (simp; done) | (simp [*]; done), by repeat (first | exact Drawn0.refl _ | apply Drawn0.step)⟩
  · rw [if_neg c3] at H
    have c3b0 : decide (a1 < 1) = false := decide_eq_false c3
    clear c3
    by_cases c4 : a1 = 0
    · rw [if_pos c4] at H
      exact absurd H (by simp)
    · rw [if_neg c4] at H
      have c4b0 : (a1 == 0) = false := beq_eq_false_iff_ne.mpr c4
      have c4b1 : (a1 != 0) = true := bne_iff_ne.mpr c4
      by_cases c5 : (Int.tmod a0 a1) < 0
      · rw [if_pos c5] at H
        have c5b0 : decide ((Int.tmod a0 a1) < 0) = true := decide_eq_true c5
        clear c5
        obtain rfl := Option.some.inj H
        go_enter Tryd.func32, Tryd.ntmps32
        go_wp2
        go_ret
        exact ⟨by first | rfl | (simp; done) | (simp [*]; done), by repeat (first | exact Drawn0.refl _ | apply Drawn0.step)⟩
      · rw [if_neg c5] at H
        have c5b0 : decide ((Int.tmod a0 a1) < 0) = false := decide_eq_false c5
        clear c5
        obtain rfl := Option.some.inj H
        go_enter Tryd.func32, Tryd.ntmps32
        go_wp2
        go_ret
        exact ⟨by first | rfl | (simp; done) | (simp [*]; done), by repeat (first | exact Drawn0.refl _ | apply Drawn0.step)⟩

/-! ### civil_Leap: function 14 -/
def civil_Leap.f (a0 : Int) : Option (Bool) := (ints_Mod.f a0 400).bind fun t101 => (if t101 = 0 then (some true) else ((ints_Mod.f a0 4).bind fun t102 => (if t102 = 0 then ((ints_Mod.f a0 100).bind fun t103 => (some (t103 != 0))) else (some false))))
set_option maxHeartbeats 8000000 in
set_option maxRecDepth 100000 in
theorem civil_Leap.calls (a0 : Int) (r : Bool) (w : World) (h : civil_Leap.f a0 = some r) :
    Calls Tryd.prog 14 #[.int .i64 a0] w fun e w' => e = .returned (.bool r) ∧ Drawn0 w w' := by
  have H : ((ints_Mod.f a0 400).bind fun t101 => (if t101 = 0 then (some true) else ((ints_Mod.f a0 4).bind fun t102 => (if t102 = 0 then ((ints_Mod.f a0 100).bind fun t103 => (some (t103 != 0))) else (some false))))) = some r := h
  clear h
  replace H := Option.bind_eq_some_iff.mp H
  obtain ⟨t101, A20, H⟩ := H
  replace H : (if t101 = 0 then (some true) else ((ints_Mod.f a0 4).bind fun t102 => (if t102 = 0 then ((ints_Mod.f a0 100).bind fun t103 => (some (t103 != 0))) else (some false)))) = some r := H
  have A2 := Aside0.mk A20
  clear A20
  by_cases c3 : t101 = 0
  · rw [if_pos c3] at H
    have c3b0 : (t101 == 0) = true := beq_iff_eq.mpr c3
    have c3b1 : (t101 != 0) = false := bne_eq_false_iff_eq.mpr c3
    clear c3
    obtain rfl := Option.some.inj H
    go_enter Tryd.func14, Tryd.ntmps14
    go_wp2_with (first | ((with_reducible refine gate_callee (f := 32) rfl ?_); refine goesL_ (some 4) rfl rfl Tryd.func32 (by kernel_rfl) rfl #[.int .i64 a0, .int .i64 400] rfl (by (try simp only [List.map_toArray, List.map_cons, List.map_nil]); first | done | rfl | (simp only [List.length_drop, List.length_take]; rfl)) ?_; (with_reducible refine (ints_Mod.calls a0 400 t101 _ A2.out).mono ?_); rintro e w' ⟨rfl, ⟨nd, rfl⟩⟩; refine ⟨_, rfl, ?_⟩))
    go_ret
    exact ⟨by first | rfl | (simp; done) | (simp [*]; done), by repeat (first | exact Drawn0.refl _ | apply Drawn0.step)⟩
  · rw [if_neg c3] at H
    have c3b0 : (t101 == 0) = false := beq_eq_false_iff_ne.mpr c3
    have c3b1 : (t101 != 0) = true := bne_iff_ne.mpr c3
    replace H := Option.bind_eq_some_iff.mp H
    obtain ⟨t102, A40, H⟩ := H
    replace H : (if t102 = 0 then ((ints_Mod.f a0 100).bind fun t103 => (some (t103 != 0))) else (some false)) = some r := H
    have A4 := Aside0.mk A40
    clear A40
    by_cases c5 : t102 = 0
    · rw [if_pos c5] at H
      have c5b0 : (t102 == 0) = true := beq_iff_eq.mpr c5
      have c5b1 : (t102 != 0) = false := bne_eq_false_iff_eq.mpr c5
      clear c5
      replace H := Option.bind_eq_some_iff.mp H
      obtain ⟨t103, A60, H⟩ := H
      replace H : (some (t103 != 0)) = some r := H
      have A6 := Aside0.mk A60
      clear A60
      obtain rfl := Option.some.inj H
      go_enter Tryd.func14, Tryd.ntmps14
      go_wp2_with (first | ((with_reducible refine gate_callee (f := 32) rfl ?_); refine goesL_ (some 4) rfl rfl Tryd.func32 (by kernel_rfl) rfl #[.int .i64 a0, .int .i64 400] rfl (by (try simp only [List.map_toArray, List.map_cons, List.map_nil]); first | done | rfl | (simp only [List.length_drop, List.length_take]; rfl)) ?_; (with_reducible refine (ints_Mod.calls a0 400 t101 _ A2.out).mono ?_); rintro e w' ⟨rfl, ⟨nd, rfl⟩⟩; refine ⟨_, rfl, ?_⟩) | (go_at_call 32; (with_reducible refine (ints_Mod.calls a0 4 t102 _ A4.out).mono ?_); rintro e w' ⟨rfl, ⟨nd, rfl⟩⟩) | (go_at_call 32; (with_reducible refine (ints_Mod.calls a0 100 t103 _ A6.out).mono ?_); rintro e w' ⟨rfl, ⟨nd, rfl⟩⟩))
      go_ret
      exact ⟨by first | rfl | (simp; done) | (simp [*]; done), by repeat (first | exact Drawn0.refl _ | apply Drawn0.step)⟩
    · rw [if_neg c5] at H
      have c5b0 : (t102 == 0) = false := beq_eq_false_iff_ne.mpr c5
      have c5b1 : (t102 != 0) = true := bne_iff_ne.mpr c5
      obtain rfl := Option.some.inj H
      go_enter Tryd.func14, Tryd.ntmps14
      go_wp2_with (first | ((with_reducible refine gate_callee (f := 32) rfl ?_); refine goesL_ (some 4) rfl rfl Tryd.func32 (by kernel_rfl) rfl #[.int .i64 a0, .int .i64 400] rfl (by (try simp only [List.map_toArray, List.map_cons, List.map_nil]); first | done | rfl | (simp only [List.length_drop, List.length_take]; rfl)) ?_; (with_reducible refine (ints_Mod.calls a0 400 t101 _ A2.out).mono ?_); rintro e w' ⟨rfl, ⟨nd, rfl⟩⟩; refine ⟨_, rfl, ?_⟩) | (go_at_call 32; (with_reducible refine (ints_Mod.calls a0 4 t102 _ A4.out).mono ?_); rintro e w' ⟨rfl, ⟨nd, rfl⟩⟩))
      go_ret
      exact ⟨by first | rfl | (simp; done) | (simp [*]; done), by repeat (first | exact Drawn0.refl _ | apply Drawn0.step)⟩

/-! ### civil_Days: function 16 -/
def civil_Days.f (a0 : Int) (a1 : Int) : Option (Int) := if a1 < 1 then some 0 else if a1 > 12 then some 0 else if a1 = 2 then ((civil_Leap.f a0).bind fun t => if t = true then some 29 else some 28) else some (lensOf a1.toNat)
theorem civil_Days.calls (a0 : Int) (a1 : Int) (r : Int) (w : World) (h : civil_Days.f a0 a1 = some r) (hT : LenTab w) :
    Calls Tryd.prog 16 #[.int .i64 a0, .int .i64 a1] w fun e w' => e = .returned (.int .i64 r) ∧ Drawn0 w w' := by
  unfold civil_Days.f at h
  by_cases h1 : a1 < 1
  · rw [if_pos h1] at h
    obtain rfl := Option.some.inj h
    clear h
    go_enter Tryd.func16, Tryd.ntmps16
    go_wp2
    go_ret
    exact ⟨rfl, Drawn0.refl _⟩
  rw [if_neg h1] at h
  by_cases h2 : a1 > 12
  · rw [if_pos h2] at h
    obtain rfl := Option.some.inj h
    clear h
    go_enter Tryd.func16, Tryd.ntmps16
    go_wp2
    go_ret
    exact ⟨rfl, Drawn0.refl _⟩
  rw [if_neg h2] at h
  by_cases h3 : a1 = 2
  · rw [if_pos h3] at h
    subst h3
    obtain ⟨t, ht, h⟩ := Option.bind_eq_some_iff.mp h
    have HL := Aside0.mk ht
    have c := hT.cell 2 (by decide)
    have e2 : lensOf 2 = 28 := rfl
    rw [e2] at c
    clear ht h1 h2
    cases t with
    | true =>
      simp only [if_true] at h
      obtain rfl := Option.some.inj h
      go_enter Tryd.func16, Tryd.ntmps16
      go_wp2_with (go_at_call 14; refine (civil_Leap.calls _ _ _ HL.out).mono ?_; rintro e w1 ⟨rfl, ⟨m1, rfl⟩⟩)
      go_ret
      exact ⟨rfl, ⟨_, rfl⟩⟩
    | false =>
      simp only [Bool.false_eq_true, if_false] at h
      obtain rfl := Option.some.inj h
      go_enter Tryd.func16, Tryd.ntmps16
      go_wp2_with (go_at_call 14; refine (civil_Leap.calls _ _ _ HL.out).mono ?_; rintro e w1 ⟨rfl, ⟨m1, rfl⟩⟩)
      go_ret
      exact ⟨rfl, ⟨_, rfl⟩⟩
  · rw [if_neg h3] at h
    obtain rfl := Option.some.inj h
    obtain ⟨m, rfl⟩ : ∃ m : Nat, a1 = m := ⟨a1.toNat, by omega⟩
    have c := hT.cell m (by omega)
    have b1 : 1 ≤ m := by omega
    have b2 : m < 13 := by omega
    have b3 : ((m : Int) == 2) = false := by simpa using h3
    clear h h1 h2 h3
    rw [Int.toNat_natCast]
    go_enter Tryd.func16, Tryd.ntmps16
    go_wp2
    go_ret
    exact ⟨rfl, Drawn0.refl _⟩

/-! ### civil_Valid: function 18 -/
def civil_Valid.f (a0 : Int) (a1 : Int) (a2 : Int) : Option (Bool) := if a0 ≥ 0 then (if a0 ≤ 9999 then (if a2 ≥ 1 then ((civil_Days.f a0 a1).bind fun t104 => (some (decide (a2 ≤ t104)))) else (some false)) else (some false)) else (some false)
set_option maxHeartbeats 8000000 in
set_option maxRecDepth 100000 in
theorem civil_Valid.calls (a0 : Int) (a1 : Int) (a2 : Int) (r : Bool) (w : World) (h : civil_Valid.f a0 a1 a2 = some r) (hT : LenTab w) :
    Calls Tryd.prog 18 #[.int .i64 a0, .int .i64 a1, .int .i64 a2] w fun e w' => e = .returned (.bool r) ∧ Drawn0 w w' := by
  have H : (if a0 ≥ 0 then (if a0 ≤ 9999 then (if a2 ≥ 1 then ((civil_Days.f a0 a1).bind fun t104 => (some (decide (a2 ≤ t104)))) else (some false)) else (some false)) else (some false)) = some r := h
  clear h
  by_cases c4 : a0 ≥ 0
  · rw [if_pos c4] at H
    have c4b0 : decide (0 ≤ a0) = true := decide_eq_true c4
    clear c4
    by_cases c5 : a0 ≤ 9999
    · rw [if_pos c5] at H
      have c5b0 : decide (a0 ≤ 9999) = true := decide_eq_true c5
      clear c5
      by_cases c6 : a2 ≥ 1
      · rw [if_pos c6] at H
        have c6b0 : decide (1 ≤ a2) = true := decide_eq_true c6
        clear c6
        replace H := Option.bind_eq_some_iff.mp H
        obtain ⟨t104, A70, H⟩ := H
        replace H : (some (decide (a2 ≤ t104))) = some r := H
        have A7 := Aside0.mk A70
        clear A70
        obtain rfl := Option.some.inj H
        go_enter Tryd.func18, Tryd.ntmps18
        go_wp2_with (first | (go_at_call 16; (with_reducible refine (civil_Days.calls a0 a1 t104 _ A7.out (by first | exact hT | ((repeat (first | exact hT | apply LenTab.drewN)); done) | (refine LenTab.below hT ?_; repeat (first | (with_reducible first | exact HB.out | apply below_alloc | apply pw_below_drewN | apply below_drew1) | exact HB.out)))).mono ?_); rintro e w' ⟨rfl, ⟨nd, rfl⟩⟩))
        go_ret
        exact ⟨by first | rfl | (simp; done) | (simp [*]; done), by repeat (first | exact Drawn0.refl _ | apply Drawn0.step)⟩
      · rw [if_neg c6] at H
        have c6b0 : decide (1 ≤ a2) = false := decide_eq_false c6
        clear c6
        obtain rfl := Option.some.inj H
        go_enter Tryd.func18, Tryd.ntmps18
        go_wp2
        go_ret
        exact ⟨by first | rfl | (simp; done) | (simp [*]; done), by repeat (first | exact Drawn0.refl _ | apply Drawn0.step)⟩
    · rw [if_neg c5] at H
      have c5b0 : decide (a0 ≤ 9999) = false := decide_eq_false c5
      clear c5
      obtain rfl := Option.some.inj H
      go_enter Tryd.func18, Tryd.ntmps18
      go_wp2
      go_ret
      exact ⟨by first | rfl | (simp; done) | (simp [*]; done), by repeat (first | exact Drawn0.refl _ | apply Drawn0.step)⟩
  · rw [if_neg c4] at H
    have c4b0 : decide (0 ≤ a0) = false := decide_eq_false c4
    clear c4
    obtain rfl := Option.some.inj H
    go_enter Tryd.func18, Tryd.ntmps18
    go_wp2
    go_ret
    exact ⟨by first | rfl | (simp; done) | (simp [*]; done), by repeat (first | exact Drawn0.refl _ | apply Drawn0.step)⟩

/-! ### ints_Floor: function 31 -/
def ints_Floor.f (a0 : Int) (a1 : Int) : Option (Int) := if a1 < 1 then (some 0) else (if a0 < 0 then (if a1 = 0 then (none) else (some (wrap64 ((wrap64 (Int.tdiv (wrap64 (a0 + 1)) a1)) - 1)))) else (if a1 = 0 then (none) else (some (wrap64 (Int.tdiv a0 a1)))))
set_option maxHeartbeats 8000000 in
set_option maxRecDepth 100000 in
theorem ints_Floor.calls (a0 : Int) (a1 : Int) (r : Int) (w : World) (h : ints_Floor.f a0 a1 = some r) :
    Calls Tryd.prog 31 #[.int .i64 a0, .int .i64 a1] w fun e w' => e = .returned (.int .i64 r) ∧ Drawn0 w w' := by
  have H : (if a1 < 1 then (some 0) else (if a0 < 0 then (if a1 = 0 then (none) else (some (wrap64 ((wrap64 (Int.tdiv (wrap64 (a0 + 1)) a1)) - 1)))) else (if a1 = 0 then (none) else (some (wrap64 (Int.tdiv a0 a1)))))) = some r := h
  clear h
  by_cases c3 : a1 < 1
  · rw [if_pos c3] at H
    have c3b0 : decide (a1 < 1) = true := decide_eq_true c3
    clear c3
    obtain rfl := Option.some.inj H
    go_enter Tryd.func31, Tryd.ntmps31
    go_wp2
    go_ret
    exact ⟨by first | rfl | (simp; done) | (simp [*]; done), by repeat (first | exact Drawn0.refl _ | apply Drawn0.step)⟩
  · rw [if_neg c3] at H
    have c3b0 : decide (a1 < 1) = false := decide_eq_false c3
    clear c3
    by_cases c4 : a0 < 0
    · rw [if_pos c4] at H
      have c4b0 : decide (a0 < 0) = true := decide_eq_true c4
      clear c4
      by_cases c5 : a1 = 0
      · rw [if_pos c5] at H
        exact absurd H (by simp)
      · rw [if_neg c5] at H
        have c5b0 : (a1 == 0) = false := beq_eq_false_iff_ne.mpr c5
        have c5b1 : (a1 != 0) = true := bne_iff_ne.mpr c5
        obtain rfl := Option.some.inj H
        go_enter Tryd.func31, Tryd.ntmps31
        go_wp2
        go_ret
        exact ⟨by first | rfl | (simp; done) | (simp [*]; done), by repeat (first | exact Drawn0.refl _ | apply Drawn0.step)⟩
    · rw [if_neg c4] at H
      have c4b0 : decide (a0 < 0) = false := decide_eq_false c4
      clear c4
      by_cases c6 : a1 = 0
      · rw [if_pos c6] at H
        exact absurd H (by simp)
      · rw [if_neg c6] at H
        have c6b0 : (a1 == 0) = false := beq_eq_false_iff_ne.mpr c6
        have c6b1 : (a1 != 0) = true := bne_iff_ne.mpr c6
        obtain rfl := Option.some.inj H
        go_enter Tryd.func31, Tryd.ntmps31
        go_wp2
        go_ret
        exact ⟨by first | rfl | (simp; done) | (simp [*]; done), by repeat (first | exact Drawn0.refl _ | apply Drawn0.step)⟩

/-! ### civil_Number: function 10 -/
def civil_Number.f (a0 : Int) (a1 : Int) (a2 : Int) : Option (Int × Bool) := (civil_Valid.f a0 a1 a2).bind fun t105 => (if t105 = true then (if a1 < 3 then ((ints_Floor.f (wrap64 (a0 - 1)) 400).bind fun t106 => ((ints_Mod.f (wrap64 (a0 - 1)) 400).bind fun t107 => (some (wrap64 ((wrap64 ((wrap64 ((wrap64 ((wrap64 ((wrap64 (t106 * 146097)) + (wrap64 (t107 * 365)))) + (wrap64 (Int.tdiv t107 4)))) - (wrap64 (Int.tdiv t107 100)))) + (wrap64 ((wrap64 ((wrap64 (Int.tdiv (wrap64 ((wrap64 (153 * (wrap64 ((wrap64 (a1 + 12)) - 3)))) + 2)) 5)) + a2)) - 1)))) + 60), true)))) else ((ints_Floor.f a0 400).bind fun t108 => ((ints_Mod.f a0 400).bind fun t109 => (some (wrap64 ((wrap64 ((wrap64 ((wrap64 ((wrap64 ((wrap64 (t108 * 146097)) + (wrap64 (t109 * 365)))) + (wrap64 (Int.tdiv t109 4)))) - (wrap64 (Int.tdiv t109 100)))) + (wrap64 ((wrap64 ((wrap64 (Int.tdiv (wrap64 ((wrap64 (153 * (wrap64 (a1 - 3)))) + 2)) 5)) + a2)) - 1)))) + 60), true))))) else (some (0, false)))
set_option maxHeartbeats 8000000 in
set_option maxRecDepth 100000 in
theorem civil_Number.calls (a0 : Int) (a1 : Int) (a2 : Int) (r1 : Int) (r2 : Bool) (w : World) (h : civil_Number.f a0 a1 a2 = some (r1, r2)) (hT : LenTab w) :
    Calls Tryd.prog 10 #[.int .i64 a0, .int .i64 a1, .int .i64 a2] w fun e w' => e = .returned (.tuple #[.int .i64 r1, .bool r2]) ∧ Drawn0 w w' := by
  have H : ((civil_Valid.f a0 a1 a2).bind fun t105 => (if t105 = true then (if a1 < 3 then ((ints_Floor.f (wrap64 (a0 - 1)) 400).bind fun t106 => ((ints_Mod.f (wrap64 (a0 - 1)) 400).bind fun t107 => (some (wrap64 ((wrap64 ((wrap64 ((wrap64 ((wrap64 ((wrap64 (t106 * 146097)) + (wrap64 (t107 * 365)))) + (wrap64 (Int.tdiv t107 4)))) - (wrap64 (Int.tdiv t107 100)))) + (wrap64 ((wrap64 ((wrap64 (Int.tdiv (wrap64 ((wrap64 (153 * (wrap64 ((wrap64 (a1 + 12)) - 3)))) + 2)) 5)) + a2)) - 1)))) + 60), true)))) else ((ints_Floor.f a0 400).bind fun t108 => ((ints_Mod.f a0 400).bind fun t109 => (some (wrap64 ((wrap64 ((wrap64 ((wrap64 ((wrap64 ((wrap64 (t108 * 146097)) + (wrap64 (t109 * 365)))) + (wrap64 (Int.tdiv t109 4)))) - (wrap64 (Int.tdiv t109 100)))) + (wrap64 ((wrap64 ((wrap64 (Int.tdiv (wrap64 ((wrap64 (153 * (wrap64 (a1 - 3)))) + 2)) 5)) + a2)) - 1)))) + 60), true))))) else (some (0, false)))) = some (r1, r2) := h
  clear h
  replace H := Option.bind_eq_some_iff.mp H
  obtain ⟨t105, A40, H⟩ := H
  replace H : (if t105 = true then (if a1 < 3 then ((ints_Floor.f (wrap64 (a0 - 1)) 400).bind fun t106 => ((ints_Mod.f (wrap64 (a0 - 1)) 400).bind fun t107 => (some (wrap64 ((wrap64 ((wrap64 ((wrap64 ((wrap64 ((wrap64 (t106 * 146097)) + (wrap64 (t107 * 365)))) + (wrap64 (Int.tdiv t107 4)))) - (wrap64 (Int.tdiv t107 100)))) + (wrap64 ((wrap64 ((wrap64 (Int.tdiv (wrap64 ((wrap64 (153 * (wrap64 ((wrap64 (a1 + 12)) - 3)))) + 2)) 5)) + a2)) - 1)))) + 60), true)))) else ((ints_Floor.f a0 400).bind fun t108 => ((ints_Mod.f a0 400).bind fun t109 => (some (wrap64 ((wrap64 ((wrap64 ((wrap64 ((wrap64 ((wrap64 (t108 * 146097)) + (wrap64 (t109 * 365)))) + (wrap64 (Int.tdiv t109 4)))) - (wrap64 (Int.tdiv t109 100)))) + (wrap64 ((wrap64 ((wrap64 (Int.tdiv (wrap64 ((wrap64 (153 * (wrap64 (a1 - 3)))) + 2)) 5)) + a2)) - 1)))) + 60), true))))) else (some (0, false))) = some (r1, r2) := H
  have A4 := Aside0.mk A40
  clear A40
  by_cases c5 : t105 = true
  · subst c5
    have H1 : (if a1 < 3 then ((ints_Floor.f (wrap64 (a0 - 1)) 400).bind fun t106 => ((ints_Mod.f (wrap64 (a0 - 1)) 400).bind fun t107 => (some (wrap64 ((wrap64 ((wrap64 ((wrap64 ((wrap64 ((wrap64 (t106 * 146097)) + (wrap64 (t107 * 365)))) + (wrap64 (Int.tdiv t107 4)))) - (wrap64 (Int.tdiv t107 100)))) + (wrap64 ((wrap64 ((wrap64 (Int.tdiv (wrap64 ((wrap64 (153 * (wrap64 ((wrap64 (a1 + 12)) - 3)))) + 2)) 5)) + a2)) - 1)))) + 60), true)))) else ((ints_Floor.f a0 400).bind fun t108 => ((ints_Mod.f a0 400).bind fun t109 => (some (wrap64 ((wrap64 ((wrap64 ((wrap64 ((wrap64 ((wrap64 (t108 * 146097)) + (wrap64 (t109 * 365)))) + (wrap64 (Int.tdiv t109 4)))) - (wrap64 (Int.tdiv t109 100)))) + (wrap64 ((wrap64 ((wrap64 (Int.tdiv (wrap64 ((wrap64 (153 * (wrap64 (a1 - 3)))) + 2)) 5)) + a2)) - 1)))) + 60), true))))) = some (r1, r2) := by rw [if_pos rfl] at H; exact H
    clear H
    have H := H1
    clear H1
    by_cases c6 : a1 < 3
    · rw [if_pos c6] at H
      have c6b0 : decide (a1 < 3) = true := decide_eq_true c6
      clear c6
      replace H := Option.bind_eq_some_iff.mp H
      obtain ⟨t106, A70, H⟩ := H
      replace H : ((ints_Mod.f (wrap64 (a0 - 1)) 400).bind fun t107 => (some (wrap64 ((wrap64 ((wrap64 ((wrap64 ((wrap64 ((wrap64 (t106 * 146097)) + (wrap64 (t107 * 365)))) + (wrap64 (Int.tdiv t107 4)))) - (wrap64 (Int.tdiv t107 100)))) + (wrap64 ((wrap64 ((wrap64 (Int.tdiv (wrap64 ((wrap64 (153 * (wrap64 ((wrap64 (a1 + 12)) - 3)))) + 2)) 5)) + a2)) - 1)))) + 60), true))) = some (r1, r2) := H
      have A7 := Aside0.mk A70
      clear A70
      replace H := Option.bind_eq_some_iff.mp H
      obtain ⟨t107, A80, H⟩ := H
      replace H : (some (wrap64 ((wrap64 ((wrap64 ((wrap64 ((wrap64 ((wrap64 (t106 * 146097)) + (wrap64 (t107 * 365)))) + (wrap64 (Int.tdiv t107 4)))) - (wrap64 (Int.tdiv t107 100)))) + (wrap64 ((wrap64 ((wrap64 (Int.tdiv (wrap64 ((wrap64 (153 * (wrap64 ((wrap64 (a1 + 12)) - 3)))) + 2)) 5)) + a2)) - 1)))) + 60), true)) = some (r1, r2) := H
      have A8 := Aside0.mk A80
      clear A80
      simp only [Option.some.injEq, Prod.mk.injEq] at H
      obtain ⟨rfl, rfl⟩ := H
      go_enter Tryd.func10, Tryd.ntmps10
      go_wp2_with (first | ((with_reducible refine gate_callee (f := 18) rfl ?_); refine goesL_ (some 14) rfl rfl Tryd.func18 (by kernel_rfl) rfl #[.int .i64 a0, .int .i64 a1, .int .i64 a2] rfl (by (try simp only [List.map_toArray, List.map_cons, List.map_nil]); first | done | rfl | (simp only [List.length_drop, List.length_take]; rfl)) ?_; (with_reducible refine (civil_Valid.calls a0 a1 a2 true _ A4.out (by first | exact hT | ((repeat (first | exact hT | apply LenTab.drewN)); done) | (refine LenTab.below hT ?_; repeat (first | (with_reducible first | exact HB.out | apply below_alloc | apply pw_below_drewN | apply below_drew1) | exact HB.out)))).mono ?_); rintro e w' ⟨rfl, ⟨nd, rfl⟩⟩; refine ⟨_, rfl, ?_⟩) | ((with_reducible refine gate_callee (f := 31) rfl ?_); refine goesL_ (some 23) rfl rfl Tryd.func31 (by kernel_rfl) rfl #[.int .i64 (wrap64 (a0 - 1)), .int .i64 400] rfl (by (try simp only [List.map_toArray, List.map_cons, List.map_nil]); first | done | rfl | (simp only [List.length_drop, List.length_take]; rfl)) ?_; (with_reducible refine (ints_Floor.calls (wrap64 (a0 - 1)) 400 t106 _ A7.out).mono ?_); rintro e w' ⟨rfl, ⟨nd, rfl⟩⟩; refine ⟨_, rfl, ?_⟩) | ((with_reducible refine gate_callee (f := 32) rfl ?_); refine goesL_ (some 25) rfl rfl Tryd.func32 (by kernel_rfl) rfl #[.int .i64 (wrap64 (a0 - 1)), .int .i64 400] rfl (by (try simp only [List.map_toArray, List.map_cons, List.map_nil]); first | done | rfl | (simp only [List.length_drop, List.length_take]; rfl)) ?_; (with_reducible refine (ints_Mod.calls (wrap64 (a0 - 1)) 400 t107 _ A8.out).mono ?_); rintro e w' ⟨rfl, ⟨nd, rfl⟩⟩; refine ⟨_, rfl, ?_⟩))
      go_ret2
      exact ⟨by first | rfl | (simp; done) | (simp [*]; done), by repeat (first | exact Drawn0.refl _ | apply Drawn0.step)⟩
    · rw [if_neg c6] at H
      have c6b0 : decide (a1 < 3) = false := decide_eq_false c6
      clear c6
      replace H := Option.bind_eq_some_iff.mp H
      obtain ⟨t108, A90, H⟩ := H
      replace H : ((ints_Mod.f a0 400).bind fun t109 => (some (wrap64 ((wrap64 ((wrap64 ((wrap64 ((wrap64 ((wrap64 (t108 * 146097)) + (wrap64 (t109 * 365)))) + (wrap64 (Int.tdiv t109 4)))) - (wrap64 (Int.tdiv t109 100)))) + (wrap64 ((wrap64 ((wrap64 (Int.tdiv (wrap64 ((wrap64 (153 * (wrap64 (a1 - 3)))) + 2)) 5)) + a2)) - 1)))) + 60), true))) = some (r1, r2) := H
      have A9 := Aside0.mk A90
      clear A90
      replace H := Option.bind_eq_some_iff.mp H
      obtain ⟨t109, A100, H⟩ := H
      replace H : (some (wrap64 ((wrap64 ((wrap64 ((wrap64 ((wrap64 ((wrap64 (t108 * 146097)) + (wrap64 (t109 * 365)))) + (wrap64 (Int.tdiv t109 4)))) - (wrap64 (Int.tdiv t109 100)))) + (wrap64 ((wrap64 ((wrap64 (Int.tdiv (wrap64 ((wrap64 (153 * (wrap64 (a1 - 3)))) + 2)) 5)) + a2)) - 1)))) + 60), true)) = some (r1, r2) := H
      have A10 := Aside0.mk A100
      clear A100
      simp only [Option.some.injEq, Prod.mk.injEq] at H
      obtain ⟨rfl, rfl⟩ := H
      go_enter Tryd.func10, Tryd.ntmps10
      go_wp2_with (first | ((with_reducible refine gate_callee (f := 18) rfl ?_); refine goesL_ (some 14) rfl rfl Tryd.func18 (by kernel_rfl) rfl #[.int .i64 a0, .int .i64 a1, .int .i64 a2] rfl (by (try simp only [List.map_toArray, List.map_cons, List.map_nil]); first | done | rfl | (simp only [List.length_drop, List.length_take]; rfl)) ?_; (with_reducible refine (civil_Valid.calls a0 a1 a2 true _ A4.out (by first | exact hT | ((repeat (first | exact hT | apply LenTab.drewN)); done) | (refine LenTab.below hT ?_; repeat (first | (with_reducible first | exact HB.out | apply below_alloc | apply pw_below_drewN | apply below_drew1) | exact HB.out)))).mono ?_); rintro e w' ⟨rfl, ⟨nd, rfl⟩⟩; refine ⟨_, rfl, ?_⟩) | ((with_reducible refine gate_callee (f := 31) rfl ?_); refine goesL_ (some 23) rfl rfl Tryd.func31 (by kernel_rfl) rfl #[.int .i64 a0, .int .i64 400] rfl (by (try simp only [List.map_toArray, List.map_cons, List.map_nil]); first | done | rfl | (simp only [List.length_drop, List.length_take]; rfl)) ?_; (with_reducible refine (ints_Floor.calls a0 400 t108 _ A9.out).mono ?_); rintro e w' ⟨rfl, ⟨nd, rfl⟩⟩; refine ⟨_, rfl, ?_⟩) | ((with_reducible refine gate_callee (f := 32) rfl ?_); refine goesL_ (some 25) rfl rfl Tryd.func32 (by kernel_rfl) rfl #[.int .i64 a0, .int .i64 400] rfl (by (try simp only [List.map_toArray, List.map_cons, List.map_nil]); first | done | rfl | (simp only [List.length_drop, List.length_take]; rfl)) ?_; (with_reducible refine (ints_Mod.calls a0 400 t109 _ A10.out).mono ?_); rintro e w' ⟨rfl, ⟨nd, rfl⟩⟩; refine ⟨_, rfl, ?_⟩))
      go_ret2
      exact ⟨by first | rfl | (simp; done) | (simp [*]; done), by repeat (first | exact Drawn0.refl _ | apply Drawn0.step)⟩
  · replace c5 := Bool.eq_false_iff.mpr c5
    subst c5
    have H1 : (some (0, false)) = some (r1, r2) := by rw [if_neg (show ¬ (false = true) by decide)] at H; exact H
    clear H
    have H := H1
    clear H1
    simp only [Option.some.injEq, Prod.mk.injEq] at H
    obtain ⟨rfl, rfl⟩ := H
    go_enter Tryd.func10, Tryd.ntmps10
    go_wp2_with (first | ((with_reducible refine gate_callee (f := 18) rfl ?_); refine goesL_ (some 14) rfl rfl Tryd.func18 (by kernel_rfl) rfl #[.int .i64 a0, .int .i64 a1, .int .i64 a2] rfl (by (try simp only [List.map_toArray, List.map_cons, List.map_nil]); first | done | rfl | (simp only [List.length_drop, List.length_take]; rfl)) ?_; (with_reducible refine (civil_Valid.calls a0 a1 a2 false _ A4.out (by first | exact hT | ((repeat (first | exact hT | apply LenTab.drewN)); done) | (refine LenTab.below hT ?_; repeat (first | (with_reducible first | exact HB.out | apply below_alloc | apply pw_below_drewN | apply below_drew1) | exact HB.out)))).mono ?_); rintro e w' ⟨rfl, ⟨nd, rfl⟩⟩; refine ⟨_, rfl, ?_⟩))
    go_ret2
    exact ⟨by first | rfl | (simp; done) | (simp [*]; done), by repeat (first | exact Drawn0.refl _ | apply Drawn0.step)⟩

/-! ### civil_Date: function 12 -/
def civil_Date.j0 : Nat → Int → Bool → Option (Int × Int × Int)
  | 0, _, _ => none
  | k + 1, x0, x17 => if x17 = true then (some (0, 0, 0)) else ((ints_Floor.f (wrap64 (x0 - 60)) 146097).bind fun t110 => ((ints_Mod.f (wrap64 (x0 - 60)) 146097).bind fun t111 => (if (wrap64 (t111 - (wrap64 ((wrap64 ((wrap64 ((wrap64 (Int.tdiv (wrap64 ((wrap64 ((wrap64 (t111 - (wrap64 (Int.tdiv t111 1460)))) + (wrap64 (Int.tdiv t111 36524)))) - (wrap64 (Int.tdiv t111 146096)))) 365)) * 365)) + (wrap64 (Int.tdiv (wrap64 (Int.tdiv (wrap64 ((wrap64 ((wrap64 (t111 - (wrap64 (Int.tdiv t111 1460)))) + (wrap64 (Int.tdiv t111 36524)))) - (wrap64 (Int.tdiv t111 146096)))) 365)) 4)))) - (wrap64 (Int.tdiv (wrap64 (Int.tdiv (wrap64 ((wrap64 ((wrap64 (t111 - (wrap64 (Int.tdiv t111 1460)))) + (wrap64 (Int.tdiv t111 36524)))) - (wrap64 (Int.tdiv t111 146096)))) 365)) 100)))))) ≥ 306 then (some (wrap64 ((wrap64 ((wrap64 (t110 * 400)) + (wrap64 (Int.tdiv (wrap64 ((wrap64 ((wrap64 (t111 - (wrap64 (Int.tdiv t111 1460)))) + (wrap64 (Int.tdiv t111 36524)))) - (wrap64 (Int.tdiv t111 146096)))) 365)))) + 1), wrap64 ((wrap64 (Int.tdiv (wrap64 ((wrap64 (5 * (wrap64 (t111 - (wrap64 ((wrap64 ((wrap64 ((wrap64 (Int.tdiv (wrap64 ((wrap64 ((wrap64 (t111 - (wrap64 (Int.tdiv t111 1460)))) + (wrap64 (Int.tdiv t111 36524)))) - (wrap64 (Int.tdiv t111 146096)))) 365)) * 365)) + (wrap64 (Int.tdiv (wrap64 (Int.tdiv (wrap64 ((wrap64 ((wrap64 (t111 - (wrap64 (Int.tdiv t111 1460)))) + (wrap64 (Int.tdiv t111 36524)))) - (wrap64 (Int.tdiv t111 146096)))) 365)) 4)))) - (wrap64 (Int.tdiv (wrap64 (Int.tdiv (wrap64 ((wrap64 ((wrap64 (t111 - (wrap64 (Int.tdiv t111 1460)))) + (wrap64 (Int.tdiv t111 36524)))) - (wrap64 (Int.tdiv t111 146096)))) 365)) 100)))))))) + 2)) 153)) - 9), wrap64 ((wrap64 ((wrap64 (t111 - (wrap64 ((wrap64 ((wrap64 ((wrap64 (Int.tdiv (wrap64 ((wrap64 ((wrap64 (t111 - (wrap64 (Int.tdiv t111 1460)))) + (wrap64 (Int.tdiv t111 36524)))) - (wrap64 (Int.tdiv t111 146096)))) 365)) * 365)) + (wrap64 (Int.tdiv (wrap64 (Int.tdiv (wrap64 ((wrap64 ((wrap64 (t111 - (wrap64 (Int.tdiv t111 1460)))) + (wrap64 (Int.tdiv t111 36524)))) - (wrap64 (Int.tdiv t111 146096)))) 365)) 4)))) - (wrap64 (Int.tdiv (wrap64 (Int.tdiv (wrap64 ((wrap64 ((wrap64 (t111 - (wrap64 (Int.tdiv t111 1460)))) + (wrap64 (Int.tdiv t111 36524)))) - (wrap64 (Int.tdiv t111 146096)))) 365)) 100)))))) - (wrap64 (Int.tdiv (wrap64 ((wrap64 (153 * (wrap64 (Int.tdiv (wrap64 ((wrap64 (5 * (wrap64 (t111 - (wrap64 ((wrap64 ((wrap64 ((wrap64 (Int.tdiv (wrap64 ((wrap64 ((wrap64 (t111 - (wrap64 (Int.tdiv t111 1460)))) + (wrap64 (Int.tdiv t111 36524)))) - (wrap64 (Int.tdiv t111 146096)))) 365)) * 365)) + (wrap64 (Int.tdiv (wrap64 (Int.tdiv (wrap64 ((wrap64 ((wrap64 (t111 - (wrap64 (Int.tdiv t111 1460)))) + (wrap64 (Int.tdiv t111 36524)))) - (wrap64 (Int.tdiv t111 146096)))) 365)) 4)))) - (wrap64 (Int.tdiv (wrap64 (Int.tdiv (wrap64 ((wrap64 ((wrap64 (t111 - (wrap64 (Int.tdiv t111 1460)))) + (wrap64 (Int.tdiv t111 36524)))) - (wrap64 (Int.tdiv t111 146096)))) 365)) 100)))))))) + 2)) 153)))) + 2)) 5)))) + 1))) else (some (wrap64 ((wrap64 (t110 * 400)) + (wrap64 (Int.tdiv (wrap64 ((wrap64 ((wrap64 (t111 - (wrap64 (Int.tdiv t111 1460)))) + (wrap64 (Int.tdiv t111 36524)))) - (wrap64 (Int.tdiv t111 146096)))) 365))), wrap64 ((wrap64 (Int.tdiv (wrap64 ((wrap64 (5 * (wrap64 (t111 - (wrap64 ((wrap64 ((wrap64 ((wrap64 (Int.tdiv (wrap64 ((wrap64 ((wrap64 (t111 - (wrap64 (Int.tdiv t111 1460)))) + (wrap64 (Int.tdiv t111 36524)))) - (wrap64 (Int.tdiv t111 146096)))) 365)) * 365)) + (wrap64 (Int.tdiv (wrap64 (Int.tdiv (wrap64 ((wrap64 ((wrap64 (t111 - (wrap64 (Int.tdiv t111 1460)))) + (wrap64 (Int.tdiv t111 36524)))) - (wrap64 (Int.tdiv t111 146096)))) 365)) 4)))) - (wrap64 (Int.tdiv (wrap64 (Int.tdiv (wrap64 ((wrap64 ((wrap64 (t111 - (wrap64 (Int.tdiv t111 1460)))) + (wrap64 (Int.tdiv t111 36524)))) - (wrap64 (Int.tdiv t111 146096)))) 365)) 100)))))))) + 2)) 153)) + 3), wrap64 ((wrap64 ((wrap64 (t111 - (wrap64 ((wrap64 ((wrap64 ((wrap64 (Int.tdiv (wrap64 ((wrap64 ((wrap64 (t111 - (wrap64 (Int.tdiv t111 1460)))) + (wrap64 (Int.tdiv t111 36524)))) - (wrap64 (Int.tdiv t111 146096)))) 365)) * 365)) + (wrap64 (Int.tdiv (wrap64 (Int.tdiv (wrap64 ((wrap64 ((wrap64 (t111 - (wrap64 (Int.tdiv t111 1460)))) + (wrap64 (Int.tdiv t111 36524)))) - (wrap64 (Int.tdiv t111 146096)))) 365)) 4)))) - (wrap64 (Int.tdiv (wrap64 (Int.tdiv (wrap64 ((wrap64 ((wrap64 (t111 - (wrap64 (Int.tdiv t111 1460)))) + (wrap64 (Int.tdiv t111 36524)))) - (wrap64 (Int.tdiv t111 146096)))) 365)) 100)))))) - (wrap64 (Int.tdiv (wrap64 ((wrap64 (153 * (wrap64 (Int.tdiv (wrap64 ((wrap64 (5 * (wrap64 (t111 - (wrap64 ((wrap64 ((wrap64 ((wrap64 (Int.tdiv (wrap64 ((wrap64 ((wrap64 (t111 - (wrap64 (Int.tdiv t111 1460)))) + (wrap64 (Int.tdiv t111 36524)))) - (wrap64 (Int.tdiv t111 146096)))) 365)) * 365)) + (wrap64 (Int.tdiv (wrap64 (Int.tdiv (wrap64 ((wrap64 ((wrap64 (t111 - (wrap64 (Int.tdiv t111 1460)))) + (wrap64 (Int.tdiv t111 36524)))) - (wrap64 (Int.tdiv t111 146096)))) 365)) 4)))) - (wrap64 (Int.tdiv (wrap64 (Int.tdiv (wrap64 ((wrap64 ((wrap64 (t111 - (wrap64 (Int.tdiv t111 1460)))) + (wrap64 (Int.tdiv t111 36524)))) - (wrap64 (Int.tdiv t111 146096)))) 365)) 100)))))))) + 2)) 153)))) + 2)) 5)))) + 1))))))
def civil_Date.f (k : Nat) (a0 : Int) : Option (Int × Int × Int) := if a0 < 0 then (civil_Date.j0 k a0 true) else (civil_Date.j0 k a0 (decide (a0 > 3652424)))
theorem civil_Date.mono_l : ∀ k, (∀ y0 y1, LeO (civil_Date.j0 k y0 y1) (civil_Date.j0 (k + 1) y0 y1))
  | 0 => fun _ _ r h => by simp [civil_Date.j0] at h
  | k + 1 => by
    have ih0 := civil_Date.mono_l k
    · intro y0 y1
      unfold civil_Date.j0
      repeat' first
      | (with_reducible exact ih0 _ _)
      | (with_reducible exact LeO.refl _)
      | (with_reducible exact LeO.none _)
      | (with_reducible refine LeO.ite ?_ ?_)
      | (with_reducible refine LeO.bind ?_ (fun _ => ?_))
      | exact ih0 _ _
      | exact LeO.none _
      | refine LeO.ite ?_ ?_
      | refine LeO.bind ?_ (fun _ => ?_)
theorem civil_Date.mono : ∀ a0 k, LeO (civil_Date.f k a0) (civil_Date.f (k + 1) a0) := by
  intro a0 k
  have ih0 := civil_Date.mono_l k
  unfold civil_Date.f
  repeat' first
      | (with_reducible exact ih0 _ _)
      | (with_reducible exact LeO.refl _)
      | (with_reducible exact LeO.none _)
      | (with_reducible refine LeO.ite ?_ ?_)
      | (with_reducible refine LeO.bind ?_ (fun _ => ?_))
      | exact ih0 _ _
      | exact LeO.none _
      | refine LeO.ite ?_ ?_
      | refine LeO.bind ?_ (fun _ => ?_)
set_option maxHeartbeats 8000000 in
set_option maxRecDepth 100000 in
theorem civil_Date.calls (k : Nat) (a0 : Int) (r1 : Int) (r2 : Int) (r3 : Int) (w : World) (h : civil_Date.f k a0 = some (r1, r2, r3)) :
    Calls Tryd.prog 12 #[.int .i64 a0] w fun e w' => e = .returned (.tuple #[.int .i64 r1, .int .i64 r2, .int .i64 r3]) ∧ Drawn0 w w' := by
  have H : (if a0 < 0 then (civil_Date.j0 k a0 true) else (civil_Date.j0 k a0 (decide (a0 > 3652424)))) = some (r1, r2, r3) := h
  clear h
  have HC2 := Aside0.mk H
  clear H
  go_enter Tryd.func12, Tryd.ntmps12
  go_upto_region 1 with (fail)
  go_cut [17] (fun v17 wc => ∃ (kq : Nat) (x17_1 : Bool), v17 = .bool x17_1 ∧ Aside0 (civil_Date.j0 kq a0 x17_1 = some (r1, r2, r3)) ∧ Aside0 (kq ≤ k) ∧ Drawn0 w wc)
  case first =>
    have H := HC2.out
    clear HC2
    by_cases c3 : a0 < 0
    · rw [if_pos c3] at H
      have c3b0 : decide (a0 < 0) = true := decide_eq_true c3
      clear c3
      (first | rw [c3b0] | (simp only [i64_w, i32_w]; rw [c3b0]) | skip)
      have H' := Aside0.mk H
      clear H
      go_wp2
      go_meet
      case rel => exact ⟨_, (true), (by first | rfl | (simp; done) | (simp [*]; done)), H', ⟨by first | omega | exact Nat.le_refl _⟩, by repeat (first | exact Drawn0.refl _ | apply Drawn0.step)⟩
    · rw [if_neg c3] at H
      have c3b0 : decide (a0 < 0) = false := decide_eq_false c3
      clear c3
      (first | rw [c3b0] | (simp only [i64_w, i32_w]; rw [c3b0]) | skip)
      have H' := Aside0.mk H
      clear H
      go_wp2
      go_meet
      case rel => exact ⟨_, (decide (a0 > 3652424)), (by first | rfl | (simp; done) | (simp [*]; done)), H', ⟨by first | omega | exact Nat.le_refl _⟩, by repeat (first | exact Drawn0.refl _ | apply Drawn0.step)⟩
  case rest =>
    clear HC2
    try clear c1
    try clear p2
    try clear c3
    try clear c3b0
    obtain ⟨kq, x17_1, rfl, HA, HJ1, ⟨mc1, rfl⟩⟩ := hcut
    cases kq with
    | zero => exact absurd HA.out (by simp [civil_Date.j0])
    | succ kj1 =>
      have H := HA.out
      clear HA
      simp only [civil_Date.j0] at H
      by_cases c4 : x17_1 = true
      · subst c4
        have H1 : (some (0, 0, 0)) = some (r1, r2, r3) := by rw [if_pos rfl] at H; exact H
        clear H
        have H := H1
        clear H1
        simp only [Option.some.injEq, Prod.mk.injEq] at H
        obtain ⟨rfl, rfl, rfl⟩ := H
        go_wp2
        go_ret3
        exact ⟨by first | rfl | (simp; done) | (simp [*]; done), by repeat (first | exact Drawn0.refl _ | apply Drawn0.step)⟩
      · replace c4 := Bool.eq_false_iff.mpr c4
        subst c4
        have H1 : ((ints_Floor.f (wrap64 (a0 - 60)) 146097).bind fun t110 => ((ints_Mod.f (wrap64 (a0 - 60)) 146097).bind fun t111 => (if (wrap64 (t111 - (wrap64 ((wrap64 ((wrap64 ((wrap64 (Int.tdiv (wrap64 ((wrap64 ((wrap64 (t111 - (wrap64 (Int.tdiv t111 1460)))) + (wrap64 (Int.tdiv t111 36524)))) - (wrap64 (Int.tdiv t111 146096)))) 365)) * 365)) + (wrap64 (Int.tdiv (wrap64 (Int.tdiv (wrap64 ((wrap64 ((wrap64 (t111 - (wrap64 (Int.tdiv t111 1460)))) + (wrap64 (Int.tdiv t111 36524)))) - (wrap64 (Int.tdiv t111 146096)))) 365)) 4)))) - (wrap64 (Int.tdiv (wrap64 (Int.tdiv (wrap64 ((wrap64 ((wrap64 (t111 - (wrap64 (Int.tdiv t111 1460)))) + (wrap64 (Int.tdiv t111 36524)))) - (wrap64 (Int.tdiv t111 146096)))) 365)) 100)))))) ≥ 306 then (some (wrap64 ((wrap64 ((wrap64 (t110 * 400)) + (wrap64 (Int.tdiv (wrap64 ((wrap64 ((wrap64 (t111 - (wrap64 (Int.tdiv t111 1460)))) + (wrap64 (Int.tdiv t111 36524)))) - (wrap64 (Int.tdiv t111 146096)))) 365)))) + 1), wrap64 ((wrap64 (Int.tdiv (wrap64 ((wrap64 (5 * (wrap64 (t111 - (wrap64 ((wrap64 ((wrap64 ((wrap64 (Int.tdiv (wrap64 ((wrap64 ((wrap64 (t111 - (wrap64 (Int.tdiv t111 1460)))) + (wrap64 (Int.tdiv t111 36524)))) - (wrap64 (Int.tdiv t111 146096)))) 365)) * 365)) + (wrap64 (Int.tdiv (wrap64 (Int.tdiv (wrap64 ((wrap64 ((wrap64 (t111 - (wrap64 (Int.tdiv t111 1460)))) + (wrap64 (Int.tdiv t111 36524)))) - (wrap64 (Int.tdiv t111 146096)))) 365)) 4)))) - (wrap64 (Int.tdiv (wrap64 (Int.tdiv (wrap64 ((wrap64 ((wrap64 (t111 - (wrap64 (Int.tdiv t111 1460)))) + (wrap64 (Int.tdiv t111 36524)))) - (wrap64 (Int.tdiv t111 146096)))) 365)) 100)))))))) + 2)) 153)) - 9), wrap64 ((wrap64 ((wrap64 (t111 - (wrap64 ((wrap64 ((wrap64 ((wrap64 (Int.tdiv (wrap64 ((wrap64 ((wrap64 (t111 - (wrap64 (Int.tdiv t111 1460)))) + (wrap64 (Int.tdiv t111 36524)))) - (wrap64 (Int.tdiv t111 146096)))) 365)) * 365)) + (wrap64 (Int.tdiv (wrap64 (Int.tdiv (wrap64 ((wrap64 ((wrap64 (t111 - (wrap64 (Int.tdiv t111 1460)))) + (wrap64 (Int.tdiv t111 36524)))) - (wrap64 (Int.tdiv t111 146096)))) 365)) 4)))) - (wrap64 (Int.tdiv (wrap64 (Int.tdiv (wrap64 ((wrap64 ((wrap64 (t111 - (wrap64 (Int.tdiv t111 1460)))) + (wrap64 (Int.tdiv t111 36524)))) - (wrap64 (Int.tdiv t111 146096)))) 365)) 100)))))) - (wrap64 (Int.tdiv (wrap64 ((wrap64 (153 * (wrap64 (Int.tdiv (wrap64 ((wrap64 (5 * (wrap64 (t111 - (wrap64 ((wrap64 ((wrap64 ((wrap64 (Int.tdiv (wrap64 ((wrap64 ((wrap64 (t111 - (wrap64 (Int.tdiv t111 1460)))) + (wrap64 (Int.tdiv t111 36524)))) - (wrap64 (Int.tdiv t111 146096)))) 365)) * 365)) + (wrap64 (Int.tdiv (wrap64 (Int.tdiv (wrap64 ((wrap64 ((wrap64 (t111 - (wrap64 (Int.tdiv t111 1460)))) + (wrap64 (Int.tdiv t111 36524)))) - (wrap64 (Int.tdiv t111 146096)))) 365)) 4)))) - (wrap64 (Int.tdiv (wrap64 (Int.tdiv (wrap64 ((wrap64 ((wrap64 (t111 - (wrap64 (Int.tdiv t111 1460)))) + (wrap64 (Int.tdiv t111 36524)))) - (wrap64 (Int.tdiv t111 146096)))) 365)) 100)))))))) + 2)) 153)))) + 2)) 5)))) + 1))) else (some (wrap64 ((wrap64 (t110 * 400)) + (wrap64 (Int.tdiv (wrap64 ((wrap64 ((wrap64 (t111 - (wrap64 (Int.tdiv t111 1460)))) + (wrap64 (Int.tdiv t111 36524)))) - (wrap64 (Int.tdiv t111 146096)))) 365))), wrap64 ((wrap64 (Int.tdiv (wrap64 ((wrap64 (5 * (wrap64 (t111 - (wrap64 ((wrap64 ((wrap64 ((wrap64 (Int.tdiv (wrap64 ((wrap64 ((wrap64 (t111 - (wrap64 (Int.tdiv t111 1460)))) + (wrap64 (Int.tdiv t111 36524)))) - (wrap64 (Int.tdiv t111 146096)))) 365)) * 365)) + (wrap64 (Int.tdiv (wrap64 (Int.tdiv (wrap64 ((wrap64 ((wrap64 (t111 - (wrap64 (Int.tdiv t111 1460)))) + (wrap64 (Int.tdiv t111 36524)))) - (wrap64 (Int.tdiv t111 146096)))) 365)) 4)))) - (wrap64 (Int.tdiv (wrap64 (Int.tdiv (wrap64 ((wrap64 ((wrap64 (t111 - (wrap64 (Int.tdiv t111 1460)))) + (wrap64 (Int.tdiv t111 36524)))) - (wrap64 (Int.tdiv t111 146096)))) 365)) 100)))))))) + 2)) 153)) + 3), wrap64 ((wrap64 ((wrap64 (t111 - (wrap64 ((wrap64 ((wrap64 ((wrap64 (Int.tdiv (wrap64 ((wrap64 ((wrap64 (t111 - (wrap64 (Int.tdiv t111 1460)))) + (wrap64 (Int.tdiv t111 36524)))) - (wrap64 (Int.tdiv t111 146096)))) 365)) * 365)) + (wrap64 (Int.tdiv (wrap64 (Int.tdiv (wrap64 ((wrap64 ((wrap64 (t111 - (wrap64 (Int.tdiv t111 1460)))) + (wrap64 (Int.tdiv t111 36524)))) - (wrap64 (Int.tdiv t111 146096)))) 365)) 4)))) - (wrap64 (Int.tdiv (wrap64 (Int.tdiv (wrap64 ((wrap64 ((wrap64 (t111 - (wrap64 (Int.tdiv t111 1460)))) + (wrap64 (Int.tdiv t111 36524)))) - (wrap64 (Int.tdiv t111 146096)))) 365)) 100)))))) - (wrap64 (Int.tdiv (wrap64 ((wrap64 (153 * (wrap64 (Int.tdiv (wrap64 ((wrap64 (5 * (wrap64 (t111 - (wrap64 ((wrap64 ((wrap64 ((wrap64 (Int.tdiv (wrap64 ((wrap64 ((wrap64 (t111 - (wrap64 (Int.tdiv t111 1460)))) + (wrap64 (Int.tdiv t111 36524)))) - (wrap64 (Int.tdiv t111 146096)))) 365)) * 365)) + (wrap64 (Int.tdiv (wrap64 (Int.tdiv (wrap64 ((wrap64 ((wrap64 (t111 - (wrap64 (Int.tdiv t111 1460)))) + (wrap64 (Int.tdiv t111 36524)))) - (wrap64 (Int.tdiv t111 146096)))) 365)) 4)))) - (wrap64 (Int.tdiv (wrap64 (Int.tdiv (wrap64 ((wrap64 ((wrap64 (t111 - (wrap64 (Int.tdiv t111 1460)))) + (wrap64 (Int.tdiv t111 36524)))) - (wrap64 (Int.tdiv t111 146096)))) 365)) 100)))))))) + 2)) 153)))) + 2)) 5)))) + 1)))))) = some (r1, r2, r3) := by rw [if_neg (show ¬ (false = true) by decide)] at H; exact H
        clear H
        have H := H1
        clear H1
        replace H := Option.bind_eq_some_iff.mp H
        obtain ⟨t110, A50, H⟩ := H
        replace H : ((ints_Mod.f (wrap64 (a0 - 60)) 146097).bind fun t111 => (if (wrap64 (t111 - (wrap64 ((wrap64 ((wrap64 ((wrap64 (Int.tdiv (wrap64 ((wrap64 ((wrap64 (t111 - (wrap64 (Int.tdiv t111 1460)))) + (wrap64 (Int.tdiv t111 36524)))) - (wrap64 (Int.tdiv t111 146096)))) 365)) * 365)) + (wrap64 (Int.tdiv (wrap64 (Int.tdiv (wrap64 ((wrap64 ((wrap64 (t111 - (wrap64 (Int.tdiv t111 1460)))) + (wrap64 (Int.tdiv t111 36524)))) - (wrap64 (Int.tdiv t111 146096)))) 365)) 4)))) - (wrap64 (Int.tdiv (wrap64 (Int.tdiv (wrap64 ((wrap64 ((wrap64 (t111 - (wrap64 (Int.tdiv t111 1460)))) + (wrap64 (Int.tdiv t111 36524)))) - (wrap64 (Int.tdiv t111 146096)))) 365)) 100)))))) ≥ 306 then (some (wrap64 ((wrap64 ((wrap64 (t110 * 400)) + (wrap64 (Int.tdiv (wrap64 ((wrap64 ((wrap64 (t111 - (wrap64 (Int.tdiv t111 1460)))) + (wrap64 (Int.tdiv t111 36524)))) - (wrap64 (Int.tdiv t111 146096)))) 365)))) + 1), wrap64 ((wrap64 (Int.tdiv (wrap64 ((wrap64 (5 * (wrap64 (t111 - (wrap64 ((wrap64 ((wrap64 ((wrap64 (Int.tdiv (wrap64 ((wrap64 ((wrap64 (t111 - (wrap64 (Int.tdiv t111 1460)))) + (wrap64 (Int.tdiv t111 36524)))) - (wrap64 (Int.tdiv t111 146096)))) 365)) * 365)) + (wrap64 (Int.tdiv (wrap64 (Int.tdiv (wrap64 ((wrap64 ((wrap64 (t111 - (wrap64 (Int.tdiv t111 1460)))) + (wrap64 (Int.tdiv t111 36524)))) - (wrap64 (Int.tdiv t111 146096)))) 365)) 4)))) - (wrap64 (Int.tdiv (wrap64 (Int.tdiv (wrap64 ((wrap64 ((wrap64 (t111 - (wrap64 (Int.tdiv t111 1460)))) + (wrap64 (Int.tdiv t111 36524)))) - (wrap64 (Int.tdiv t111 146096)))) 365)) 100)))))))) + 2)) 153)) - 9), wrap64 ((wrap64 ((wrap64 (t111 - (wrap64 ((wrap64 ((wrap64 ((wrap64 (Int.tdiv (wrap64 ((wrap64 ((wrap64 (t111 - (wrap64 (Int.tdiv t111 1460)))) + (wrap64 (Int.tdiv t111 36524)))) - (wrap64 (Int.tdiv t111 146096)))) 365)) * 365)) + (wrap64 (Int.tdiv (wrap64 (Int.tdiv (wrap64 ((wrap64 ((wrap64 (t111 - (wrap64 (Int.tdiv t111 1460)))) + (wrap64 (Int.tdiv t111 36524)))) - (wrap64 (Int.tdiv t111 146096)))) 365)) 4)))) - (wrap64 (Int.tdiv (wrap64 (Int.tdiv (wrap64 ((wrap64 ((wrap64 (t111 - (wrap64 (Int.tdiv t111 1460)))) + (wrap64 (Int.tdiv t111 36524)))) - (wrap64 (Int.tdiv t111 146096)))) 365)) 100)))))) - (wrap64 (Int.tdiv (wrap64 ((wrap64 (153 * (wrap64 (Int.tdiv (wrap64 ((wrap64 (5 * (wrap64 (t111 - (wrap64 ((wrap64 ((wrap64 ((wrap64 (Int.tdiv (wrap64 ((wrap64 ((wrap64 (t111 - (wrap64 (Int.tdiv t111 1460)))) + (wrap64 (Int.tdiv t111 36524)))) - (wrap64 (Int.tdiv t111 146096)))) 365)) * 365)) + (wrap64 (Int.tdiv (wrap64 (Int.tdiv (wrap64 ((wrap64 ((wrap64 (t111 - (wrap64 (Int.tdiv t111 1460)))) + (wrap64 (Int.tdiv t111 36524)))) - (wrap64 (Int.tdiv t111 146096)))) 365)) 4)))) - (wrap64 (Int.tdiv (wrap64 (Int.tdiv (wrap64 ((wrap64 ((wrap64 (t111 - (wrap64 (Int.tdiv t111 1460)))) + (wrap64 (Int.tdiv t111 36524)))) - (wrap64 (Int.tdiv t111 146096)))) 365)) 100)))))))) + 2)) 153)))) + 2)) 5)))) + 1))) else (some (wrap64 ((wrap64 (t110 * 400)) + (wrap64 (Int.tdiv (wrap64 ((wrap64 ((wrap64 (t111 - (wrap64 (Int.tdiv t111 1460)))) + (wrap64 (Int.tdiv t111 36524)))) - (wrap64 (Int.tdiv t111 146096)))) 365))), wrap64 ((wrap64 (Int.tdiv (wrap64 ((wrap64 (5 * (wrap64 (t111 - (wrap64 ((wrap64 ((wrap64 ((wrap64 (Int.tdiv (wrap64 ((wrap64 ((wrap64 (t111 - (wrap64 (Int.tdiv t111 1460)))) + (wrap64 (Int.tdiv t111 36524)))) - (wrap64 (Int.tdiv t111 146096)))) 365)) * 365)) + (wrap64 (Int.tdiv (wrap64 (Int.tdiv (wrap64 ((wrap64 ((wrap64 (t111 - (wrap64 (Int.tdiv t111 1460)))) + (wrap64 (Int.tdiv t111 36524)))) - (wrap64 (Int.tdiv t111 146096)))) 365)) 4)))) - (wrap64 (Int.tdiv (wrap64 (Int.tdiv (wrap64 ((wrap64 ((wrap64 (t111 - (wrap64 (Int.tdiv t111 1460)))) + (wrap64 (Int.tdiv t111 36524)))) - (wrap64 (Int.tdiv t111 146096)))) 365)) 100)))))))) + 2)) 153)) + 3), wrap64 ((wrap64 ((wrap64 (t111 - (wrap64 ((wrap64 ((wrap64 ((wrap64 (Int.tdiv (wrap64 ((wrap64 ((wrap64 (t111 - (wrap64 (Int.tdiv t111 1460)))) + (wrap64 (Int.tdiv t111 36524)))) - (wrap64 (Int.tdiv t111 146096)))) 365)) * 365)) + (wrap64 (Int.tdiv (wrap64 (Int.tdiv (wrap64 ((wrap64 ((wrap64 (t111 - (wrap64 (Int.tdiv t111 1460)))) + (wrap64 (Int.tdiv t111 36524)))) - (wrap64 (Int.tdiv t111 146096)))) 365)) 4)))) - (wrap64 (Int.tdiv (wrap64 (Int.tdiv (wrap64 ((wrap64 ((wrap64 (t111 - (wrap64 (Int.tdiv t111 1460)))) + (wrap64 (Int.tdiv t111 36524)))) - (wrap64 (Int.tdiv t111 146096)))) 365)) 100)))))) - (wrap64 (Int.tdiv (wrap64 ((wrap64 (153 * (wrap64 (Int.tdiv (wrap64 ((wrap64 (5 * (wrap64 (t111 - (wrap64 ((wrap64 ((wrap64 ((wrap64 (Int.tdiv (wrap64 ((wrap64 ((wrap64 (t111 - (wrap64 (Int.tdiv t111 1460)))) + (wrap64 (Int.tdiv t111 36524)))) - (wrap64 (Int.tdiv t111 146096)))) 365)) * 365)) + (wrap64 (Int.tdiv (wrap64 (Int.tdiv (wrap64 ((wrap64 ((wrap64 (t111 - (wrap64 (Int.tdiv t111 1460)))) + (wrap64 (Int.tdiv t111 36524)))) - (wrap64 (Int.tdiv t111 146096)))) 365)) 4)))) - (wrap64 (Int.tdiv (wrap64 (Int.tdiv (wrap64 ((wrap64 ((wrap64 (t111 - (wrap64 (Int.tdiv t111 1460)))) + (wrap64 (Int.tdiv t111 36524)))) - (wrap64 (Int.tdiv t111 146096)))) 365)) 100)))))))) + 2)) 153)))) + 2)) 5)))) + 1))))) = some (r1, r2, r3) := H
        have A5 := Aside0.mk A50
        clear A50
        replace H := Option.bind_eq_some_iff.mp H
        obtain ⟨t111, A60, H⟩ := H
        replace H : (if (wrap64 (t111 - (wrap64 ((wrap64 ((wrap64 ((wrap64 (Int.tdiv (wrap64 ((wrap64 ((wrap64 (t111 - (wrap64 (Int.tdiv t111 1460)))) + (wrap64 (Int.tdiv t111 36524)))) - (wrap64 (Int.tdiv t111 146096)))) 365)) * 365)) + (wrap64 (Int.tdiv (wrap64 (Int.tdiv (wrap64 ((wrap64 ((wrap64 (t111 - (wrap64 (Int.tdiv t111 1460)))) + (wrap64 (Int.tdiv t111 36524)))) - (wrap64 (Int.tdiv t111 146096)))) 365)) 4)))) - (wrap64 (Int.tdiv (wrap64 (Int.tdiv (wrap64 ((wrap64 ((wrap64 (t111 - (wrap64 (Int.tdiv t111 1460)))) + (wrap64 (Int.tdiv t111 36524)))) - (wrap64 (Int.tdiv t111 146096)))) 365)) 100)))))) ≥ 306 then (some (wrap64 ((wrap64 ((wrap64 (t110 * 400)) + (wrap64 (Int.tdiv (wrap64 ((wrap64 ((wrap64 (t111 - (wrap64 (Int.tdiv t111 1460)))) + (wrap64 (Int.tdiv t111 36524)))) - (wrap64 (Int.tdiv t111 146096)))) 365)))) + 1), wrap64 ((wrap64 (Int.tdiv (wrap64 ((wrap64 (5 * (wrap64 (t111 - (wrap64 ((wrap64 ((wrap64 ((wrap64 (Int.tdiv (wrap64 ((wrap64 ((wrap64 (t111 - (wrap64 (Int.tdiv t111 1460)))) + (wrap64 (Int.tdiv t111 36524)))) - (wrap64 (Int.tdiv t111 146096)))) 365)) * 365)) + (wrap64 (Int.tdiv (wrap64 (Int.tdiv (wrap64 ((wrap64 ((wrap64 (t111 - (wrap64 (Int.tdiv t111 1460)))) + (wrap64 (Int.tdiv t111 36524)))) - (wrap64 (Int.tdiv t111 146096)))) 365)) 4)))) - (wrap64 (Int.tdiv (wrap64 (Int.tdiv (wrap64 ((wrap64 ((wrap64 (t111 - (wrap64 (Int.tdiv t111 1460)))) + (wrap64 (Int.tdiv t111 36524)))) - (wrap64 (Int.tdiv t111 146096)))) 365)) 100)))))))) + 2)) 153)) - 9), wrap64 ((wrap64 ((wrap64 (t111 - (wrap64 ((wrap64 ((wrap64 ((wrap64 (Int.tdiv (wrap64 ((wrap64 ((wrap64 (t111 - (wrap64 (Int.tdiv t111 1460)))) + (wrap64 (Int.tdiv t111 36524)))) - (wrap64 (Int.tdiv t111 146096)))) 365)) * 365)) + (wrap64 (Int.tdiv (wrap64 (Int.tdiv (wrap64 ((wrap64 ((wrap64 (t111 - (wrap64 (Int.tdiv t111 1460)))) + (wrap64 (Int.tdiv t111 36524)))) - (wrap64 (Int.tdiv t111 146096)))) 365)) 4)))) - (wrap64 (Int.tdiv (wrap64 (Int.tdiv (wrap64 ((wrap64 ((wrap64 (t111 - (wrap64 (Int.tdiv t111 1460)))) + (wrap64 (Int.tdiv t111 36524)))) - (wrap64 (Int.tdiv t111 146096)))) 365)) 100)))))) - (wrap64 (Int.tdiv (wrap64 ((wrap64 (153 * (wrap64 (Int.tdiv (wrap64 ((wrap64 (5 * (wrap64 (t111 - (wrap64 ((wrap64 ((wrap64 ((wrap64 (Int.tdiv (wrap64 ((wrap64 ((wrap64 (t111 - (wrap64 (Int.tdiv t111 1460)))) + (wrap64 (Int.tdiv t111 36524)))) - (wrap64 (Int.tdiv t111 146096)))) 365)) * 365)) + (wrap64 (Int.tdiv (wrap64 (Int.tdiv (wrap64 ((wrap64 ((wrap64 (t111 - (wrap64 (Int.tdiv t111 1460)))) + (wrap64 (Int.tdiv t111 36524)))) - (wrap64 (Int.tdiv t111 146096)))) 365)) 4)))) - (wrap64 (Int.tdiv (wrap64 (Int.tdiv (wrap64 ((wrap64 ((wrap64 (t111 - (wrap64 (Int.tdiv t111 1460)))) + (wrap64 (Int.tdiv t111 36524)))) - (wrap64 (Int.tdiv t111 146096)))) 365)) 100)))))))) + 2)) 153)))) + 2)) 5)))) + 1))) else (some (wrap64 ((wrap64 (t110 * 400)) + (wrap64 (Int.tdiv (wrap64 ((wrap64 ((wrap64 (t111 - (wrap64 (Int.tdiv t111 1460)))) + (wrap64 (Int.tdiv t111 36524)))) - (wrap64 (Int.tdiv t111 146096)))) 365))), wrap64 ((wrap64 (Int.tdiv (wrap64 ((wrap64 (5 * (wrap64 (t111 - (wrap64 ((wrap64 ((wrap64 ((wrap64 (Int.tdiv (wrap64 ((wrap64 ((wrap64 (t111 - (wrap64 (Int.tdiv t111 1460)))) + (wrap64 (Int.tdiv t111 36524)))) - (wrap64 (Int.tdiv t111 146096)))) 365)) * 365)) + (wrap64 (Int.tdiv (wrap64 (Int.tdiv (wrap64 ((wrap64 ((wrap64 (t111 - (wrap64 (Int.tdiv t111 1460)))) + (wrap64 (Int.tdiv t111 36524)))) - (wrap64 (Int.tdiv t111 146096)))) 365)) 4)))) - (wrap64 (Int.tdiv (wrap64 (Int.tdiv (wrap64 ((wrap64 ((wrap64 (t111 - (wrap64 (Int.tdiv t111 1460)))) + (wrap64 (Int.tdiv t111 36524)))) - (wrap64 (Int.tdiv t111 146096)))) 365)) 100)))))))) + 2)) 153)) + 3), wrap64 ((wrap64 ((wrap64 (t111 - (wrap64 ((wrap64 ((wrap64 ((wrap64 (Int.tdiv (wrap64 ((wrap64 ((wrap64 (t111 - (wrap64 (Int.tdiv t111 1460)))) + (wrap64 (Int.tdiv t111 36524)))) - (wrap64 (Int.tdiv t111 146096)))) 365)) * 365)) + (wrap64 (Int.tdiv (wrap64 (Int.tdiv (wrap64 ((wrap64 ((wrap64 (t111 - (wrap64 (Int.tdiv t111 1460)))) + (wrap64 (Int.tdiv t111 36524)))) - (wrap64 (Int.tdiv t111 146096)))) 365)) 4)))) - (wrap64 (Int.tdiv (wrap64 (Int.tdiv (wrap64 ((wrap64 ((wrap64 (t111 - (wrap64 (Int.tdiv t111 1460)))) + (wrap64 (Int.tdiv t111 36524)))) - (wrap64 (Int.tdiv t111 146096)))) 365)) 100)))))) - (wrap64 (Int.tdiv (wrap64 ((wrap64 (153 * (wrap64 (Int.tdiv (wrap64 ((wrap64 (5 * (wrap64 (t111 - (wrap64 ((wrap64 ((wrap64 ((wrap64 (Int.tdiv (wrap64 ((wrap64 ((wrap64 (t111 - (wrap64 (Int.tdiv t111 1460)))) + (wrap64 (Int.tdiv t111 36524)))) - (wrap64 (Int.tdiv t111 146096)))) 365)) * 365)) + (wrap64 (Int.tdiv (wrap64 (Int.tdiv (wrap64 ((wrap64 ((wrap64 (t111 - (wrap64 (Int.tdiv t111 1460)))) + (wrap64 (Int.tdiv t111 36524)))) - (wrap64 (Int.tdiv t111 146096)))) 365)) 4)))) - (wrap64 (Int.tdiv (wrap64 (Int.tdiv (wrap64 ((wrap64 ((wrap64 (t111 - (wrap64 (Int.tdiv t111 1460)))) + (wrap64 (Int.tdiv t111 36524)))) - (wrap64 (Int.tdiv t111 146096)))) 365)) 100)))))))) + 2)) 153)))) + 2)) 5)))) + 1)))) = some (r1, r2, r3) := H
        have A6 := Aside0.mk A60
        clear A60
        by_cases c7 : (wrap64 (t111 - (wrap64 ((wrap64 ((wrap64 ((wrap64 (Int.tdiv (wrap64 ((wrap64 ((wrap64 (t111 - (wrap64 (Int.tdiv t111 1460)))) + (wrap64 (Int.tdiv t111 36524)))) - (wrap64 (Int.tdiv t111 146096)))) 365)) * 365)) + (wrap64 (Int.tdiv (wrap64 (Int.tdiv (wrap64 ((wrap64 ((wrap64 (t111 - (wrap64 (Int.tdiv t111 1460)))) + (wrap64 (Int.tdiv t111 36524)))) - (wrap64 (Int.tdiv t111 146096)))) 365)) 4)))) - (wrap64 (Int.tdiv (wrap64 (Int.tdiv (wrap64 ((wrap64 ((wrap64 (t111 - (wrap64 (Int.tdiv t111 1460)))) + (wrap64 (Int.tdiv t111 36524)))) - (wrap64 (Int.tdiv t111 146096)))) 365)) 100)))))) ≥ 306
        · rw [if_pos c7] at H
          have c7b0 : decide (306 ≤ (wrap64 (t111 - (wrap64 ((wrap64 ((wrap64 ((wrap64 (Int.tdiv (wrap64 ((wrap64 ((wrap64 (t111 - (wrap64 (Int.tdiv t111 1460)))) + (wrap64 (Int.tdiv t111 36524)))) - (wrap64 (Int.tdiv t111 146096)))) 365)) * 365)) + (wrap64 (Int.tdiv (wrap64 (Int.tdiv (wrap64 ((wrap64 ((wrap64 (t111 - (wrap64 (Int.tdiv t111 1460)))) + (wrap64 (Int.tdiv t111 36524)))) - (wrap64 (Int.tdiv t111 146096)))) 365)) 4)))) - (wrap64 (Int.tdiv (wrap64 (Int.tdiv (wrap64 ((wrap64 ((wrap64 (t111 - (wrap64 (Int.tdiv t111 1460)))) + (wrap64 (Int.tdiv t111 36524)))) - (wrap64 (Int.tdiv t111 146096)))) 365)) 100))))))) = true := decide_eq_true c7
          clear c7
          simp only [Option.some.injEq, Prod.mk.injEq] at H
          obtain ⟨rfl, rfl, rfl⟩ := H
          go_wp2_with (first | ((with_reducible refine gate_callee (f := 31) rfl ?_); refine goesL_ (some 20) rfl rfl Tryd.func31 (by kernel_rfl) rfl #[.int .i64 (wrap64 (a0 - 60)), .int .i64 146097] rfl (by (try simp only [List.map_toArray, List.map_cons, List.map_nil]); first | done | rfl | (simp only [List.length_drop, List.length_take]; rfl)) ?_; (with_reducible refine (ints_Floor.calls (wrap64 (a0 - 60)) 146097 t110 _ A5.out).mono ?_); rintro e w' ⟨rfl, ⟨nd, rfl⟩⟩; refine ⟨_, rfl, ?_⟩) | ((with_reducible refine gate_callee (f := 32) rfl ?_); refine goesL_ (some 23) rfl rfl Tryd.func32 (by kernel_rfl) rfl #[.int .i64 (wrap64 (a0 - 60)), .int .i64 146097] rfl (by (try simp only [List.map_toArray, List.map_cons, List.map_nil]); first | done | rfl | (simp only [List.length_drop, List.length_take]; rfl)) ?_; (with_reducible refine (ints_Mod.calls (wrap64 (a0 - 60)) 146097 t111 _ A6.out).mono ?_); rintro e w' ⟨rfl, ⟨nd, rfl⟩⟩; refine ⟨_, rfl, ?_⟩))
          go_ret3
          exact ⟨by first | rfl | (simp; done) | (simp [*]; done), by repeat (first | exact Drawn0.refl _ | apply Drawn0.step)⟩
        · rw [if_neg c7] at H
          have c7b0 : decide (306 ≤ (wrap64 (t111 - (wrap64 ((wrap64 ((wrap64 ((wrap64 (Int.tdiv (wrap64 ((wrap64 ((wrap64 (t111 - (wrap64 (Int.tdiv t111 1460)))) + (wrap64 (Int.tdiv t111 36524)))) - (wrap64 (Int.tdiv t111 146096)))) 365)) * 365)) + (wrap64 (Int.tdiv (wrap64 (Int.tdiv (wrap64 ((wrap64 ((wrap64 (t111 - (wrap64 (Int.tdiv t111 1460)))) + (wrap64 (Int.tdiv t111 36524)))) - (wrap64 (Int.tdiv t111 146096)))) 365)) 4)))) - (wrap64 (Int.tdiv (wrap64 (Int.tdiv (wrap64 ((wrap64 ((wrap64 (t111 - (wrap64 (Int.tdiv t111 1460)))) + (wrap64 (Int.tdiv t111 36524)))) - (wrap64 (Int.tdiv t111 146096)))) 365)) 100))))))) = false := decide_eq_false c7
          clear c7
          simp only [Option.some.injEq, Prod.mk.injEq] at H
          obtain ⟨rfl, rfl, rfl⟩ := H
          go_wp2_with (first | ((with_reducible refine gate_callee (f := 31) rfl ?_); refine goesL_ (some 20) rfl rfl Tryd.func31 (by kernel_rfl) rfl #[.int .i64 (wrap64 (a0 - 60)), .int .i64 146097] rfl (by (try simp only [List.map_toArray, List.map_cons, List.map_nil]); first | done | rfl | (simp only [List.length_drop, List.length_take]; rfl)) ?_; (with_reducible refine (ints_Floor.calls (wrap64 (a0 - 60)) 146097 t110 _ A5.out).mono ?_); rintro e w' ⟨rfl, ⟨nd, rfl⟩⟩; refine ⟨_, rfl, ?_⟩) | ((with_reducible refine gate_callee (f := 32) rfl ?_); refine goesL_ (some 23) rfl rfl Tryd.func32 (by kernel_rfl) rfl #[.int .i64 (wrap64 (a0 - 60)), .int .i64 146097] rfl (by (try simp only [List.map_toArray, List.map_cons, List.map_nil]); first | done | rfl | (simp only [List.length_drop, List.length_take]; rfl)) ?_; (with_reducible refine (ints_Mod.calls (wrap64 (a0 - 60)) 146097 t111 _ A6.out).mono ?_); rintro e w' ⟨rfl, ⟨nd, rfl⟩⟩; refine ⟨_, rfl, ?_⟩))
          go_ret3
          exact ⟨by first | rfl | (simp; done) | (simp [*]; done), by repeat (first | exact Drawn0.refl _ | apply Drawn0.step)⟩

-- NOT PRINTED: function 39 (unit_of)

/-! ### unit_find: function 34 -/
/-! unit.of -/
/-- The variables of a way of units of months: its span at block B, its two methods behind. -/
structure HasSpan (w : World) (B : Nat) (m f c : Int) : Prop where
  c0 : w.cell? ⟨B, 0, none⟩ = some (.int .i64 m)
  c1 : w.cell? ⟨B, 1, none⟩ = some (.int .i64 f)
  c2 : w.cell? ⟨B, 2, none⟩ = some (.int .i64 c)
  g0 : w.cell? ⟨B + 2, 0, none⟩ = some (.func (Fn.func 40) #[] #[])
  g1 : w.cell? ⟨B + 3, 0, none⟩ = some (.func (Fn.func 41) #[] #[])
theorem HasSpan.below {w w' : World} {B : Nat} {m f c : Int} (h : HasSpan w B m f c) (hb : Below w.heap.size w w') : HasSpan w' B m f c :=
  ⟨pw_cell_below hb h.c0, pw_cell_below hb h.c1, pw_cell_below hb h.c2, pw_cell_below hb h.g0, pw_cell_below hb h.g1⟩
theorem unit_of.calls (m f c : Int) (w : World) :
    Calls Tryd.prog 39 #[.agg #[.int .i64 m, .int .i64 f, .int .i64 c]] w fun e w' => e = .returned (.agg #[.int .i64 c, .func (Fn.func 42) #[] #[.pointer (some ⟨w.heap.size + 2, 0, none⟩), .pointer (some ⟨w.heap.size, 0, none⟩)], .func (Fn.func 43) #[] #[.pointer (some ⟨w.heap.size + 3, 0, none⟩), .pointer (some ⟨w.heap.size, 0, none⟩)]]) ∧ HasSpan w' w.heap.size m f c ∧ Below w.heap.size w w' := by
  go_enter Tryd.func39, Tryd.ntmps39
  go_wp2_with fail
  refine bodyPost_ret (v := .agg #[.int .i64 c, .func (Fn.func 42) #[] #[.pointer (some ⟨w.heap.size + 2, 0, none⟩), .pointer (some ⟨w.heap.size, 0, none⟩)], .func (Fn.func 43) #[] #[.pointer (some ⟨w.heap.size + 3, 0, none⟩), .pointer (some ⟨w.heap.size, 0, none⟩)]]) (by simp [results, Tryd.results39, go_sem]) rfl ⟨rfl, ⟨by simp [go_sem], by simp [go_sem], by simp [go_sem], by simp [go_sem], by simp [go_sem]⟩, ?_⟩
  exact (((((Below.refl _ _).alloc (Nat.le_refl _) _).alloc (by simp) _).alloc (by simp; omega) _).alloc (by simp; omega) _)

/-! unit.find -/
theorem HasSpan.setCell {w : World} {B : Nat} {m f c : Int} (h : HasSpan w B m f c) {b o : Nat} (hp : b < B) (u : Value) : HasSpan (w.setCell ⟨b, o, none⟩ u) B m f c :=
  ⟨(World.cell?_setCell_far _ _ _ _ (Nat.ne_of_lt hp)).trans h.c0, (World.cell?_setCell_far _ _ _ _ (Nat.ne_of_lt hp)).trans h.c1, (World.cell?_setCell_far _ _ _ _ (Nat.ne_of_lt hp)).trans h.c2,
    (World.cell?_setCell_far _ _ _ _ (Nat.ne_of_lt (Nat.lt_of_lt_of_le hp (Nat.le_add_right _ _)))).trans h.g0, (World.cell?_setCell_far _ _ _ _ (Nat.ne_of_lt (Nat.lt_of_lt_of_le hp (Nat.le_add_right _ _)))).trans h.g1⟩
theorem HasSpan.alloc {w : World} {B : Nat} {m f c : Int} (h : HasSpan w B m f c) (o : Obj) : HasSpan (w.alloc o) B m f c := h.below ((Below.refl _ _).alloc (Nat.le_refl _) _)
theorem unit_find.next {w w1 w2 : World} (h : Below w.heap.size w w1) (h2 : Below w1.heap.size w1 w2) : Below w.heap.size w w2 := h.trans (h2.mono h.size)
def unit_find.zero : Obj := Obj.cells #[.int .i64 0, .nilFunc, .nilFunc] 37
theorem unit_find.cell (w : World) (k : Nat) (hk : k < 3) : ∃ v, (w.alloc unit_find.zero).cell? ⟨w.heap.size, k, none⟩ = some v := by
  unfold unit_find.zero
  match k, hk with
  | 0, hk => exact ⟨_, by simp [go_sem]; rfl⟩
  | 1, hk => exact ⟨_, by simp [go_sem]; rfl⟩
  | 2, hk => exact ⟨_, by simp [go_sem]; rfl⟩
theorem unit_find.free (w : World) (k : Nat) (hk : k < 3) : (w.alloc unit_find.zero).frozen? ⟨w.heap.size, k, none⟩ = false := by
  unfold unit_find.zero
  match k, hk with
  | 0, hk => simp [go_sem]
  | 1, hk => simp [go_sem]
  | 2, hk => simp [go_sem]
set_option maxRecDepth 100000 in
set_option maxHeartbeats 2000000 in
theorem unit_find.calls1 (w : World) :
    Calls Tryd.prog 34 #[.int .i64 1] w fun e w' => ∃ B, e = .returned (.tuple #[.agg #[.int .i64 120000, .func (Fn.func 42) #[] #[.pointer (some ⟨B + 2, 0, none⟩), .pointer (some ⟨B, 0, none⟩)], .func (Fn.func 43) #[] #[.pointer (some ⟨B + 3, 0, none⟩), .pointer (some ⟨B, 0, none⟩)]], .bool true]) ∧ HasSpan w' B 1 0 120000 ∧ Below w.heap.size w w' := by
  go_enter Tryd.func34, Tryd.ntmps34
  go_wp2_with fail
  have z0 : Below w.heap.size w (w.alloc unit_find.zero) := (Below.refl _ _).alloc (Nat.le_refl _) _
  obtain ⟨v0, zc0⟩ := unit_find.cell w 0 (by decide)
  obtain ⟨v1, zc1⟩ := unit_find.cell w 1 (by decide)
  obtain ⟨v2, zc2⟩ := unit_find.cell w 2 (by decide)
  have zf0 := unit_find.free w 0 (by decide)
  have zf1 := unit_find.free w 1 (by decide)
  have zf2 := unit_find.free w 2 (by decide)
  have zs : w.heap.size < (w.alloc unit_find.zero).heap.size := by simp
  rw [show w.alloc (Obj.cells #[.int .i64 0, .nilFunc, .nilFunc] 37) = w.alloc unit_find.zero from rfl]
  generalize w.alloc unit_find.zero = wa at *
  refine (unit_of.calls _ _ _ _).mono ?_
  rintro e w1 ⟨rfl, s1, b1⟩
  have l1 := b1.size
  go_wp2_with fail
  refine (unit_of.calls _ _ _ _).mono ?_
  rintro e w2 ⟨rfl, s2, b2⟩
  have l2 := b2.size
  go_wp2_with fail
  refine (unit_of.calls _ _ _ _).mono ?_
  rintro e w3 ⟨rfl, s3, b3⟩
  have l3 := b3.size
  go_wp2_with fail
  refine (unit_of.calls _ _ _ _).mono ?_
  rintro e w4 ⟨rfl, s4, b4⟩
  have l4 := b4.size
  go_wp2_with fail
  refine (unit_of.calls _ _ _ _).mono ?_
  rintro e w5 ⟨rfl, s5, b5⟩
  have l5 := b5.size
  have b15 := unit_find.next (unit_find.next (unit_find.next (unit_find.next b1 b2) b3) b4) b5
  have Q := Lib.hid ((((s1.below b2).below b3).below b4).below b5)
  have c0 := (b15.cell (p := ⟨w.heap.size, 0, none⟩) zs).trans zc0
  have c1 := (b15.cell (p := ⟨w.heap.size, 1, none⟩) zs).trans zc1
  have c2 := (b15.cell (p := ⟨w.heap.size, 2, none⟩) zs).trans zc2
  have f0 := (b15.frozen (p := ⟨w.heap.size, 0, none⟩) zs).trans zf0
  have f1 := (b15.frozen (p := ⟨w.heap.size, 1, none⟩) zs).trans zf1
  have f2 := (b15.frozen (p := ⟨w.heap.size, 2, none⟩) zs).trans zf2
  have hz : w.heap.size < w5.heap.size := by omega
  have BB := z0.trans (b15.mono z0.size)
  clear zc0 zc1 zc2 zf0 zf1 zf2 s1 s2 s3 s4 s5 b1 b2 b3 b4 b5 b15 z0
  go_wp2_with fail
  refine bodyPost_ret (v := .tuple #[.agg #[.int .i64 120000, .func (Fn.func 42) #[] #[.pointer (some ⟨wa.heap.size + 2, 0, none⟩), .pointer (some ⟨wa.heap.size, 0, none⟩)], .func (Fn.func 43) #[] #[.pointer (some ⟨wa.heap.size + 3, 0, none⟩), .pointer (some ⟨wa.heap.size, 0, none⟩)]], .bool true]) (by simp [results, Tryd.results34, go_sem, c0, c1, c2, hz]) rfl ⟨_, rfl, ?_, ?_⟩
  · exact (((Q.out.setCell (by omega) _).setCell (by omega) _).setCell (by omega) _).alloc _
  · exact (((BB.setCell (Nat.le_refl _) _).setCell (Nat.le_refl _) _).setCell (Nat.le_refl _) _).alloc (by simp; omega) _
set_option maxRecDepth 100000 in
set_option maxHeartbeats 2000000 in
theorem unit_find.calls2 (w : World) :
    Calls Tryd.prog 34 #[.int .i64 2] w fun e w' => ∃ B, e = .returned (.tuple #[.agg #[.int .i64 40000, .func (Fn.func 42) #[] #[.pointer (some ⟨B + 2, 0, none⟩), .pointer (some ⟨B, 0, none⟩)], .func (Fn.func 43) #[] #[.pointer (some ⟨B + 3, 0, none⟩), .pointer (some ⟨B, 0, none⟩)]], .bool true]) ∧ HasSpan w' B 3 2 40000 ∧ Below w.heap.size w w' := by
  go_enter Tryd.func34, Tryd.ntmps34
  go_wp2_with fail
  have z0 : Below w.heap.size w (w.alloc unit_find.zero) := (Below.refl _ _).alloc (Nat.le_refl _) _
  obtain ⟨v0, zc0⟩ := unit_find.cell w 0 (by decide)
  obtain ⟨v1, zc1⟩ := unit_find.cell w 1 (by decide)
  obtain ⟨v2, zc2⟩ := unit_find.cell w 2 (by decide)
  have zf0 := unit_find.free w 0 (by decide)
  have zf1 := unit_find.free w 1 (by decide)
  have zf2 := unit_find.free w 2 (by decide)
  have zs : w.heap.size < (w.alloc unit_find.zero).heap.size := by simp
  rw [show w.alloc (Obj.cells #[.int .i64 0, .nilFunc, .nilFunc] 37) = w.alloc unit_find.zero from rfl]
  generalize w.alloc unit_find.zero = wa at *
  refine (unit_of.calls _ _ _ _).mono ?_
  rintro e w1 ⟨rfl, s1, b1⟩
  have l1 := b1.size
  go_wp2_with fail
  refine (unit_of.calls _ _ _ _).mono ?_
  rintro e w2 ⟨rfl, s2, b2⟩
  have l2 := b2.size
  go_wp2_with fail
  refine (unit_of.calls _ _ _ _).mono ?_
  rintro e w3 ⟨rfl, s3, b3⟩
  have l3 := b3.size
  go_wp2_with fail
  refine (unit_of.calls _ _ _ _).mono ?_
  rintro e w4 ⟨rfl, s4, b4⟩
  have l4 := b4.size
  go_wp2_with fail
  refine (unit_of.calls _ _ _ _).mono ?_
  rintro e w5 ⟨rfl, s5, b5⟩
  have l5 := b5.size
  have b15 := unit_find.next (unit_find.next (unit_find.next (unit_find.next b1 b2) b3) b4) b5
  have Q := Lib.hid (((s2.below b3).below b4).below b5)
  have c0 := (b15.cell (p := ⟨w.heap.size, 0, none⟩) zs).trans zc0
  have c1 := (b15.cell (p := ⟨w.heap.size, 1, none⟩) zs).trans zc1
  have c2 := (b15.cell (p := ⟨w.heap.size, 2, none⟩) zs).trans zc2
  have f0 := (b15.frozen (p := ⟨w.heap.size, 0, none⟩) zs).trans zf0
  have f1 := (b15.frozen (p := ⟨w.heap.size, 1, none⟩) zs).trans zf1
  have f2 := (b15.frozen (p := ⟨w.heap.size, 2, none⟩) zs).trans zf2
  have hz : w.heap.size < w5.heap.size := by omega
  have BB := z0.trans (b15.mono z0.size)
  clear zc0 zc1 zc2 zf0 zf1 zf2 s1 s2 s3 s4 s5 b1 b2 b3 b4 b5 b15 z0
  go_wp2_with fail
  refine bodyPost_ret (v := .tuple #[.agg #[.int .i64 40000, .func (Fn.func 42) #[] #[.pointer (some ⟨w1.heap.size + 2, 0, none⟩), .pointer (some ⟨w1.heap.size, 0, none⟩)], .func (Fn.func 43) #[] #[.pointer (some ⟨w1.heap.size + 3, 0, none⟩), .pointer (some ⟨w1.heap.size, 0, none⟩)]], .bool true]) (by simp [results, Tryd.results34, go_sem, c0, c1, c2, hz]) rfl ⟨_, rfl, ?_, ?_⟩
  · exact (((Q.out.setCell (by omega) _).setCell (by omega) _).setCell (by omega) _).alloc _
  · exact (((BB.setCell (Nat.le_refl _) _).setCell (Nat.le_refl _) _).setCell (Nat.le_refl _) _).alloc (by simp; omega) _
set_option maxRecDepth 100000 in
set_option maxHeartbeats 2000000 in
theorem unit_find.calls3 (w : World) :
    Calls Tryd.prog 34 #[.int .i64 3] w fun e w' => ∃ B, e = .returned (.tuple #[.agg #[.int .i64 10000, .func (Fn.func 42) #[] #[.pointer (some ⟨B + 2, 0, none⟩), .pointer (some ⟨B, 0, none⟩)], .func (Fn.func 43) #[] #[.pointer (some ⟨B + 3, 0, none⟩), .pointer (some ⟨B, 0, none⟩)]], .bool true]) ∧ HasSpan w' B 12 0 10000 ∧ Below w.heap.size w w' := by
  go_enter Tryd.func34, Tryd.ntmps34
  go_wp2_with fail
  have z0 : Below w.heap.size w (w.alloc unit_find.zero) := (Below.refl _ _).alloc (Nat.le_refl _) _
  obtain ⟨v0, zc0⟩ := unit_find.cell w 0 (by decide)
  obtain ⟨v1, zc1⟩ := unit_find.cell w 1 (by decide)
  obtain ⟨v2, zc2⟩ := unit_find.cell w 2 (by decide)
  have zf0 := unit_find.free w 0 (by decide)
  have zf1 := unit_find.free w 1 (by decide)
  have zf2 := unit_find.free w 2 (by decide)
  have zs : w.heap.size < (w.alloc unit_find.zero).heap.size := by simp
  rw [show w.alloc (Obj.cells #[.int .i64 0, .nilFunc, .nilFunc] 37) = w.alloc unit_find.zero from rfl]
  generalize w.alloc unit_find.zero = wa at *
  refine (unit_of.calls _ _ _ _).mono ?_
  rintro e w1 ⟨rfl, s1, b1⟩
  have l1 := b1.size
  go_wp2_with fail
  refine (unit_of.calls _ _ _ _).mono ?_
  rintro e w2 ⟨rfl, s2, b2⟩
  have l2 := b2.size
  go_wp2_with fail
  refine (unit_of.calls _ _ _ _).mono ?_
  rintro e w3 ⟨rfl, s3, b3⟩
  have l3 := b3.size
  go_wp2_with fail
  refine (unit_of.calls _ _ _ _).mono ?_
  rintro e w4 ⟨rfl, s4, b4⟩
  have l4 := b4.size
  go_wp2_with fail
  refine (unit_of.calls _ _ _ _).mono ?_
  rintro e w5 ⟨rfl, s5, b5⟩
  have l5 := b5.size
  have b15 := unit_find.next (unit_find.next (unit_find.next (unit_find.next b1 b2) b3) b4) b5
  have Q := Lib.hid ((s3.below b4).below b5)
  have c0 := (b15.cell (p := ⟨w.heap.size, 0, none⟩) zs).trans zc0
  have c1 := (b15.cell (p := ⟨w.heap.size, 1, none⟩) zs).trans zc1
  have c2 := (b15.cell (p := ⟨w.heap.size, 2, none⟩) zs).trans zc2
  have f0 := (b15.frozen (p := ⟨w.heap.size, 0, none⟩) zs).trans zf0
  have f1 := (b15.frozen (p := ⟨w.heap.size, 1, none⟩) zs).trans zf1
  have f2 := (b15.frozen (p := ⟨w.heap.size, 2, none⟩) zs).trans zf2
  have hz : w.heap.size < w5.heap.size := by omega
  have BB := z0.trans (b15.mono z0.size)
  clear zc0 zc1 zc2 zf0 zf1 zf2 s1 s2 s3 s4 s5 b1 b2 b3 b4 b5 b15 z0
  go_wp2_with fail
  refine bodyPost_ret (v := .tuple #[.agg #[.int .i64 10000, .func (Fn.func 42) #[] #[.pointer (some ⟨w2.heap.size + 2, 0, none⟩), .pointer (some ⟨w2.heap.size, 0, none⟩)], .func (Fn.func 43) #[] #[.pointer (some ⟨w2.heap.size + 3, 0, none⟩), .pointer (some ⟨w2.heap.size, 0, none⟩)]], .bool true]) (by simp [results, Tryd.results34, go_sem, c0, c1, c2, hz]) rfl ⟨_, rfl, ?_, ?_⟩
  · exact (((Q.out.setCell (by omega) _).setCell (by omega) _).setCell (by omega) _).alloc _
  · exact (((BB.setCell (Nat.le_refl _) _).setCell (Nat.le_refl _) _).setCell (Nat.le_refl _) _).alloc (by simp; omega) _
set_option maxRecDepth 100000 in
set_option maxHeartbeats 2000000 in
theorem unit_find.calls4 (w : World) :
    Calls Tryd.prog 34 #[.int .i64 4] w fun e w' => ∃ B, e = .returned (.tuple #[.agg #[.int .i64 1000, .func (Fn.func 42) #[] #[.pointer (some ⟨B + 2, 0, none⟩), .pointer (some ⟨B, 0, none⟩)], .func (Fn.func 43) #[] #[.pointer (some ⟨B + 3, 0, none⟩), .pointer (some ⟨B, 0, none⟩)]], .bool true]) ∧ HasSpan w' B 120 0 1000 ∧ Below w.heap.size w w' := by
  go_enter Tryd.func34, Tryd.ntmps34
  go_wp2_with fail
  have z0 : Below w.heap.size w (w.alloc unit_find.zero) := (Below.refl _ _).alloc (Nat.le_refl _) _
  obtain ⟨v0, zc0⟩ := unit_find.cell w 0 (by decide)
  obtain ⟨v1, zc1⟩ := unit_find.cell w 1 (by decide)
  obtain ⟨v2, zc2⟩ := unit_find.cell w 2 (by decide)
  have zf0 := unit_find.free w 0 (by decide)
  have zf1 := unit_find.free w 1 (by decide)
  have zf2 := unit_find.free w 2 (by decide)
  have zs : w.heap.size < (w.alloc unit_find.zero).heap.size := by simp
  rw [show w.alloc (Obj.cells #[.int .i64 0, .nilFunc, .nilFunc] 37) = w.alloc unit_find.zero from rfl]
  generalize w.alloc unit_find.zero = wa at *
  refine (unit_of.calls _ _ _ _).mono ?_
  rintro e w1 ⟨rfl, s1, b1⟩
  have l1 := b1.size
  go_wp2_with fail
  refine (unit_of.calls _ _ _ _).mono ?_
  rintro e w2 ⟨rfl, s2, b2⟩
  have l2 := b2.size
  go_wp2_with fail
  refine (unit_of.calls _ _ _ _).mono ?_
  rintro e w3 ⟨rfl, s3, b3⟩
  have l3 := b3.size
  go_wp2_with fail
  refine (unit_of.calls _ _ _ _).mono ?_
  rintro e w4 ⟨rfl, s4, b4⟩
  have l4 := b4.size
  go_wp2_with fail
  refine (unit_of.calls _ _ _ _).mono ?_
  rintro e w5 ⟨rfl, s5, b5⟩
  have l5 := b5.size
  have b15 := unit_find.next (unit_find.next (unit_find.next (unit_find.next b1 b2) b3) b4) b5
  have Q := Lib.hid (s4.below b5)
  have c0 := (b15.cell (p := ⟨w.heap.size, 0, none⟩) zs).trans zc0
  have c1 := (b15.cell (p := ⟨w.heap.size, 1, none⟩) zs).trans zc1
  have c2 := (b15.cell (p := ⟨w.heap.size, 2, none⟩) zs).trans zc2
  have f0 := (b15.frozen (p := ⟨w.heap.size, 0, none⟩) zs).trans zf0
  have f1 := (b15.frozen (p := ⟨w.heap.size, 1, none⟩) zs).trans zf1
  have f2 := (b15.frozen (p := ⟨w.heap.size, 2, none⟩) zs).trans zf2
  have hz : w.heap.size < w5.heap.size := by omega
  have BB := z0.trans (b15.mono z0.size)
  clear zc0 zc1 zc2 zf0 zf1 zf2 s1 s2 s3 s4 s5 b1 b2 b3 b4 b5 b15 z0
  go_wp2_with fail
  refine bodyPost_ret (v := .tuple #[.agg #[.int .i64 1000, .func (Fn.func 42) #[] #[.pointer (some ⟨w3.heap.size + 2, 0, none⟩), .pointer (some ⟨w3.heap.size, 0, none⟩)], .func (Fn.func 43) #[] #[.pointer (some ⟨w3.heap.size + 3, 0, none⟩), .pointer (some ⟨w3.heap.size, 0, none⟩)]], .bool true]) (by simp [results, Tryd.results34, go_sem, c0, c1, c2, hz]) rfl ⟨_, rfl, ?_, ?_⟩
  · exact (((Q.out.setCell (by omega) _).setCell (by omega) _).setCell (by omega) _).alloc _
  · exact (((BB.setCell (Nat.le_refl _) _).setCell (Nat.le_refl _) _).setCell (Nat.le_refl _) _).alloc (by simp; omega) _
set_option maxRecDepth 100000 in
set_option maxHeartbeats 2000000 in
theorem unit_find.calls5 (w : World) :
    Calls Tryd.prog 34 #[.int .i64 5] w fun e w' => ∃ B, e = .returned (.tuple #[.agg #[.int .i64 100, .func (Fn.func 42) #[] #[.pointer (some ⟨B + 2, 0, none⟩), .pointer (some ⟨B, 0, none⟩)], .func (Fn.func 43) #[] #[.pointer (some ⟨B + 3, 0, none⟩), .pointer (some ⟨B, 0, none⟩)]], .bool true]) ∧ HasSpan w' B 1200 0 100 ∧ Below w.heap.size w w' := by
  go_enter Tryd.func34, Tryd.ntmps34
  go_wp2_with fail
  have z0 : Below w.heap.size w (w.alloc unit_find.zero) := (Below.refl _ _).alloc (Nat.le_refl _) _
  obtain ⟨v0, zc0⟩ := unit_find.cell w 0 (by decide)
  obtain ⟨v1, zc1⟩ := unit_find.cell w 1 (by decide)
  obtain ⟨v2, zc2⟩ := unit_find.cell w 2 (by decide)
  have zf0 := unit_find.free w 0 (by decide)
  have zf1 := unit_find.free w 1 (by decide)
  have zf2 := unit_find.free w 2 (by decide)
  have zs : w.heap.size < (w.alloc unit_find.zero).heap.size := by simp
  rw [show w.alloc (Obj.cells #[.int .i64 0, .nilFunc, .nilFunc] 37) = w.alloc unit_find.zero from rfl]
  generalize w.alloc unit_find.zero = wa at *
  refine (unit_of.calls _ _ _ _).mono ?_
  rintro e w1 ⟨rfl, s1, b1⟩
  have l1 := b1.size
  go_wp2_with fail
  refine (unit_of.calls _ _ _ _).mono ?_
  rintro e w2 ⟨rfl, s2, b2⟩
  have l2 := b2.size
  go_wp2_with fail
  refine (unit_of.calls _ _ _ _).mono ?_
  rintro e w3 ⟨rfl, s3, b3⟩
  have l3 := b3.size
  go_wp2_with fail
  refine (unit_of.calls _ _ _ _).mono ?_
  rintro e w4 ⟨rfl, s4, b4⟩
  have l4 := b4.size
  go_wp2_with fail
  refine (unit_of.calls _ _ _ _).mono ?_
  rintro e w5 ⟨rfl, s5, b5⟩
  have l5 := b5.size
  have b15 := unit_find.next (unit_find.next (unit_find.next (unit_find.next b1 b2) b3) b4) b5
  have Q := Lib.hid s5
  have c0 := (b15.cell (p := ⟨w.heap.size, 0, none⟩) zs).trans zc0
  have c1 := (b15.cell (p := ⟨w.heap.size, 1, none⟩) zs).trans zc1
  have c2 := (b15.cell (p := ⟨w.heap.size, 2, none⟩) zs).trans zc2
  have f0 := (b15.frozen (p := ⟨w.heap.size, 0, none⟩) zs).trans zf0
  have f1 := (b15.frozen (p := ⟨w.heap.size, 1, none⟩) zs).trans zf1
  have f2 := (b15.frozen (p := ⟨w.heap.size, 2, none⟩) zs).trans zf2
  have hz : w.heap.size < w5.heap.size := by omega
  have BB := z0.trans (b15.mono z0.size)
  clear zc0 zc1 zc2 zf0 zf1 zf2 s1 s2 s3 s4 s5 b1 b2 b3 b4 b5 b15 z0
  go_wp2_with fail
  refine bodyPost_ret (v := .tuple #[.agg #[.int .i64 100, .func (Fn.func 42) #[] #[.pointer (some ⟨w4.heap.size + 2, 0, none⟩), .pointer (some ⟨w4.heap.size, 0, none⟩)], .func (Fn.func 43) #[] #[.pointer (some ⟨w4.heap.size + 3, 0, none⟩), .pointer (some ⟨w4.heap.size, 0, none⟩)]], .bool true]) (by simp [results, Tryd.results34, go_sem, c0, c1, c2, hz]) rfl ⟨_, rfl, ?_, ?_⟩
  · exact (((Q.out.setCell (by omega) _).setCell (by omega) _).setCell (by omega) _).alloc _
  · exact (((BB.setCell (Nat.le_refl _) _).setCell (Nat.le_refl _) _).setCell (Nat.le_refl _) _).alloc (by simp; omega) _
set_option maxRecDepth 100000 in
set_option maxHeartbeats 2000000 in
theorem unit_find.calls0 (w : World) :
    Calls Tryd.prog 34 #[.int .i64 0] w fun e w' => e = .returned (.tuple #[.agg #[.int .i64 3652425, .func (Fn.func 35) #[] #[], .func (Fn.func 37) #[] #[]], .bool true]) ∧ Below w.heap.size w w' := by
  go_enter Tryd.func34, Tryd.ntmps34
  go_wp2_with fail
  have z0 : Below w.heap.size w (w.alloc unit_find.zero) := (Below.refl _ _).alloc (Nat.le_refl _) _
  obtain ⟨v0, zc0⟩ := unit_find.cell w 0 (by decide)
  obtain ⟨v1, zc1⟩ := unit_find.cell w 1 (by decide)
  obtain ⟨v2, zc2⟩ := unit_find.cell w 2 (by decide)
  have zf0 := unit_find.free w 0 (by decide)
  have zf1 := unit_find.free w 1 (by decide)
  have zf2 := unit_find.free w 2 (by decide)
  have zs : w.heap.size < (w.alloc unit_find.zero).heap.size := by simp
  rw [show w.alloc (Obj.cells #[.int .i64 0, .nilFunc, .nilFunc] 37) = w.alloc unit_find.zero from rfl]
  generalize w.alloc unit_find.zero = wa at *
  refine (unit_of.calls _ _ _ _).mono ?_
  rintro e w1 ⟨rfl, s1, b1⟩
  have l1 := b1.size
  go_wp2_with fail
  refine (unit_of.calls _ _ _ _).mono ?_
  rintro e w2 ⟨rfl, s2, b2⟩
  have l2 := b2.size
  go_wp2_with fail
  refine (unit_of.calls _ _ _ _).mono ?_
  rintro e w3 ⟨rfl, s3, b3⟩
  have l3 := b3.size
  go_wp2_with fail
  refine (unit_of.calls _ _ _ _).mono ?_
  rintro e w4 ⟨rfl, s4, b4⟩
  have l4 := b4.size
  go_wp2_with fail
  refine (unit_of.calls _ _ _ _).mono ?_
  rintro e w5 ⟨rfl, s5, b5⟩
  have l5 := b5.size
  have b15 := unit_find.next (unit_find.next (unit_find.next (unit_find.next b1 b2) b3) b4) b5
  have c0 := (b15.cell (p := ⟨w.heap.size, 0, none⟩) zs).trans zc0
  have c1 := (b15.cell (p := ⟨w.heap.size, 1, none⟩) zs).trans zc1
  have c2 := (b15.cell (p := ⟨w.heap.size, 2, none⟩) zs).trans zc2
  have f0 := (b15.frozen (p := ⟨w.heap.size, 0, none⟩) zs).trans zf0
  have f1 := (b15.frozen (p := ⟨w.heap.size, 1, none⟩) zs).trans zf1
  have f2 := (b15.frozen (p := ⟨w.heap.size, 2, none⟩) zs).trans zf2
  have hz : w.heap.size < w5.heap.size := by omega
  have BB := z0.trans (b15.mono z0.size)
  clear zc0 zc1 zc2 zf0 zf1 zf2 s1 s2 s3 s4 s5 b1 b2 b3 b4 b5 b15 z0
  go_wp2_with fail
  refine bodyPost_ret (v := .tuple #[.agg #[.int .i64 3652425, .func (Fn.func 35) #[] #[], .func (Fn.func 37) #[] #[]], .bool true]) (by simp [results, Tryd.results34, go_sem, c0, c1, c2, hz]) rfl ⟨rfl, ?_⟩
  exact (((BB.setCell (Nat.le_refl _) _).setCell (Nat.le_refl _) _).setCell (Nat.le_refl _) _).alloc (by simp; omega) _
set_option maxRecDepth 100000 in
set_option maxHeartbeats 2000000 in
theorem unit_find.callsNo (kind : Int) (w : World) (h : kind < 0 ∨ 6 ≤ kind) :
    Calls Tryd.prog 34 #[.int .i64 kind] w fun e w' => e = .returned (.tuple #[.agg #[.int .i64 0, .nilFunc, .nilFunc], .bool false]) ∧ Below w.heap.size w w' := by
  rcases h with h | h
  · go_enter Tryd.func34, Tryd.ntmps34
    go_wp2_with fail
    have z0 : Below w.heap.size w (w.alloc unit_find.zero) := (Below.refl _ _).alloc (Nat.le_refl _) _
    obtain ⟨v0, zc0⟩ := unit_find.cell w 0 (by decide)
    obtain ⟨v1, zc1⟩ := unit_find.cell w 1 (by decide)
    obtain ⟨v2, zc2⟩ := unit_find.cell w 2 (by decide)
    have zf0 := unit_find.free w 0 (by decide)
    have zf1 := unit_find.free w 1 (by decide)
    have zf2 := unit_find.free w 2 (by decide)
    have zs : w.heap.size < (w.alloc unit_find.zero).heap.size := by simp
    rw [show w.alloc (Obj.cells #[.int .i64 0, .nilFunc, .nilFunc] 37) = w.alloc unit_find.zero from rfl]
    generalize w.alloc unit_find.zero = wa at *
    refine (unit_of.calls _ _ _ _).mono ?_
    rintro e w1 ⟨rfl, s1, b1⟩
    have l1 := b1.size
    go_wp2_with fail
    refine (unit_of.calls _ _ _ _).mono ?_
    rintro e w2 ⟨rfl, s2, b2⟩
    have l2 := b2.size
    go_wp2_with fail
    refine (unit_of.calls _ _ _ _).mono ?_
    rintro e w3 ⟨rfl, s3, b3⟩
    have l3 := b3.size
    go_wp2_with fail
    refine (unit_of.calls _ _ _ _).mono ?_
    rintro e w4 ⟨rfl, s4, b4⟩
    have l4 := b4.size
    go_wp2_with fail
    refine (unit_of.calls _ _ _ _).mono ?_
    rintro e w5 ⟨rfl, s5, b5⟩
    have l5 := b5.size
    have b15 := unit_find.next (unit_find.next (unit_find.next (unit_find.next b1 b2) b3) b4) b5
    have c0 := (b15.cell (p := ⟨w.heap.size, 0, none⟩) zs).trans zc0
    have c1 := (b15.cell (p := ⟨w.heap.size, 1, none⟩) zs).trans zc1
    have c2 := (b15.cell (p := ⟨w.heap.size, 2, none⟩) zs).trans zc2
    have f0 := (b15.frozen (p := ⟨w.heap.size, 0, none⟩) zs).trans zf0
    have f1 := (b15.frozen (p := ⟨w.heap.size, 1, none⟩) zs).trans zf1
    have f2 := (b15.frozen (p := ⟨w.heap.size, 2, none⟩) zs).trans zf2
    have hz : w.heap.size < w5.heap.size := by omega
    have BB := z0.trans (b15.mono z0.size)
    clear zc0 zc1 zc2 zf0 zf1 zf2 s1 s2 s3 s4 s5 b1 b2 b3 b4 b5 b15 z0
    go_wp2_with fail
    refine bodyPost_ret (v := .tuple #[.agg #[.int .i64 0, .nilFunc, .nilFunc], .bool false]) (by simp [results, Tryd.results34, go_sem, c0, c1, c2, hz]) rfl ⟨rfl, ?_⟩
    exact (((BB.setCell (Nat.le_refl _) _).setCell (Nat.le_refl _) _).setCell (Nat.le_refl _) _).alloc (by simp; omega) _
  · go_enter Tryd.func34, Tryd.ntmps34
    go_wp2_with fail
    have z0 : Below w.heap.size w (w.alloc unit_find.zero) := (Below.refl _ _).alloc (Nat.le_refl _) _
    obtain ⟨v0, zc0⟩ := unit_find.cell w 0 (by decide)
    obtain ⟨v1, zc1⟩ := unit_find.cell w 1 (by decide)
    obtain ⟨v2, zc2⟩ := unit_find.cell w 2 (by decide)
    have zf0 := unit_find.free w 0 (by decide)
    have zf1 := unit_find.free w 1 (by decide)
    have zf2 := unit_find.free w 2 (by decide)
    have zs : w.heap.size < (w.alloc unit_find.zero).heap.size := by simp
    rw [show w.alloc (Obj.cells #[.int .i64 0, .nilFunc, .nilFunc] 37) = w.alloc unit_find.zero from rfl]
    generalize w.alloc unit_find.zero = wa at *
    refine (unit_of.calls _ _ _ _).mono ?_
    rintro e w1 ⟨rfl, s1, b1⟩
    have l1 := b1.size
    go_wp2_with fail
    refine (unit_of.calls _ _ _ _).mono ?_
    rintro e w2 ⟨rfl, s2, b2⟩
    have l2 := b2.size
    go_wp2_with fail
    refine (unit_of.calls _ _ _ _).mono ?_
    rintro e w3 ⟨rfl, s3, b3⟩
    have l3 := b3.size
    go_wp2_with fail
    refine (unit_of.calls _ _ _ _).mono ?_
    rintro e w4 ⟨rfl, s4, b4⟩
    have l4 := b4.size
    go_wp2_with fail
    refine (unit_of.calls _ _ _ _).mono ?_
    rintro e w5 ⟨rfl, s5, b5⟩
    have l5 := b5.size
    have b15 := unit_find.next (unit_find.next (unit_find.next (unit_find.next b1 b2) b3) b4) b5
    have c0 := (b15.cell (p := ⟨w.heap.size, 0, none⟩) zs).trans zc0
    have c1 := (b15.cell (p := ⟨w.heap.size, 1, none⟩) zs).trans zc1
    have c2 := (b15.cell (p := ⟨w.heap.size, 2, none⟩) zs).trans zc2
    have f0 := (b15.frozen (p := ⟨w.heap.size, 0, none⟩) zs).trans zf0
    have f1 := (b15.frozen (p := ⟨w.heap.size, 1, none⟩) zs).trans zf1
    have f2 := (b15.frozen (p := ⟨w.heap.size, 2, none⟩) zs).trans zf2
    have hz : w.heap.size < w5.heap.size := by omega
    have BB := z0.trans (b15.mono z0.size)
    clear zc0 zc1 zc2 zf0 zf1 zf2 s1 s2 s3 s4 s5 b1 b2 b3 b4 b5 b15 z0
    go_wp2_with fail
    refine bodyPost_ret (v := .tuple #[.agg #[.int .i64 0, .nilFunc, .nilFunc], .bool false]) (by simp [results, Tryd.results34, go_sem, c0, c1, c2, hz]) rfl ⟨rfl, ?_⟩
    exact (((BB.setCell (Nat.le_refl _) _).setCell (Nat.le_refl _) _).setCell (Nat.le_refl _) _).alloc (by simp; omega) _

/-! begins, number -/
def unit_begins.f (m f i : Int) : Option Int := (civil_Number.f ((f + m * i) / 12) ((f + m * i) % 12 + 1) 1).bind fun t => some t.1
set_option maxHeartbeats 1000000 in
theorem unit_begins.calls (m f c i r : Int) (w : World) (h : unit_begins.f m f i = some r) (hp : 0 ≤ m * i ∧ m * i ≤ 1000000000 ∧ 0 ≤ f ∧ f ≤ 1000) (hT : LenTab w) :
    Calls Tryd.prog 40 #[.agg #[.int .i64 m, .int .i64 f, .int .i64 c], .int .i64 i] w fun e w' => e = .returned (.int .i64 r) ∧ Below w.heap.size w w' := by
  obtain ⟨⟨t1, t2⟩, ht, h⟩ := Option.bind_eq_some_iff.mp h
  obtain rfl := Option.some.inj h
  generalize hk : m * i = k at *
  obtain ⟨h1, h2, h3, h4⟩ := hp
  have HK := Lib.hid hk
  have HN := Lib.hid ht
  clear hk ht h
  have ew : IntKind.i64.wrap (m * i) = k := by rw [HK.out]; exact IntWalk.i64_in _ (by omega)
  have hb : Below w.heap.size w (w.alloc (Obj.cells #[.int .i64 m, .int .i64 f, .int .i64 c] 45)) := (Below.refl _ _).alloc (Nat.le_refl _) _
  have hT' := hT.below hb
  go_enter Tryd.func40, Tryd.ntmps40
  go_wp2_with fail
  refine (civil_Number.calls _ _ _ _ _ _ HN.out hT').mono ?_
  rintro e w1 ⟨rfl, ⟨n1, rfl⟩⟩
  go_wp2_with fail
  go_ret
  exact ⟨rfl, pw_below_drewN hb _⟩
def unit_monthly.f2 (day : Int) : Option Int := (civil_Date.f 2 day).bind fun t => if 0 ≤ t.1 ∧ t.1 ≤ 10000 ∧ 0 ≤ t.2.1 ∧ t.2.1 ≤ 12 then some (12 * t.1 + t.2.1 - 1) else none
theorem unit_monthly.calls2 (day r : Int) (w : World) (h : unit_monthly.f2 day = some r) :
    Calls Tryd.prog 44 #[.int .i64 day] w fun e w' => e = .returned (.int .i64 r) ∧ Drawn0 w w' := by
  obtain ⟨⟨t1, t2, t3⟩, ht, h⟩ := Option.bind_eq_some_iff.mp h
  split at h
  case isFalse => cases h
  rename_i hb
  obtain rfl := Option.some.inj h
  obtain ⟨b1, b2, b3, b4⟩ := hb
  simp only at b1 b2 b3 b4
  have HN := Lib.hid ht
  clear ht h
  go_enter Tryd.func44, Tryd.ntmps44
  go_wp2_with fail
  refine (civil_Date.calls _ _ _ _ _ _ HN.out).mono ?_
  rintro e w1 ⟨rfl, ⟨n1, rfl⟩⟩
  go_wp2_with fail
  go_ret
  exact ⟨rfl, ⟨_, rfl⟩⟩
theorem unit_monthly.ge {day r : Int} (h : unit_monthly.f2 day = some r) : -1 ≤ r ∧ r ≤ 200000 := by
  obtain ⟨⟨t1, t2, t3⟩, ht, h⟩ := Option.bind_eq_some_iff.mp h
  split at h
  case isFalse => cases h
  rename_i hb
  obtain rfl := Option.some.inj h
  simp only at hb ⊢
  omega
def unit_number.f (m f day : Int) : Option Int := (unit_monthly.f2 day).bind fun k => some (if k - f < 0 then -1 else (k - f) / m)
theorem unit_number.calls (m f c day r : Int) (w : World) (h : unit_number.f m f day = some r) (hp : 1 ≤ m ∧ m ≤ 10000 ∧ 0 ≤ f ∧ f ≤ 1000) :
    Calls Tryd.prog 41 #[.agg #[.int .i64 m, .int .i64 f, .int .i64 c], .int .i64 day] w fun e w' => e = .returned (.int .i64 r) ∧ Below w.heap.size w w' := by
  obtain ⟨k, ht, h⟩ := Option.bind_eq_some_iff.mp h
  have hk := unit_monthly.ge ht
  obtain rfl := Option.some.inj h
  obtain ⟨h1, h2, h3, h4⟩ := hp
  obtain ⟨k1, k2⟩ := hk
  have HN := Lib.hid ht
  clear ht h
  have hb : Below w.heap.size w (w.alloc (Obj.cells #[.int .i64 m, .int .i64 f, .int .i64 c] 45)) := (Below.refl _ _).alloc (Nat.le_refl _) _
  have m0 : (m == 0) = false := beq_eq_false_iff_ne.mpr (by omega)
  by_cases hlt : k - f < 0
  · rw [if_pos hlt]
    go_enter Tryd.func41, Tryd.ntmps41
    go_wp2_with fail
    go_quiet ((go_at_call 44; refine (unit_monthly.calls2 _ _ _ HN.out).mono ?_; rintro e w' ⟨rfl, ⟨nd, rfl⟩⟩; first | exact ⟨rfl, _, World.drewN_drewN _ _ _⟩ | exact ⟨rfl, _, rfl⟩))
    go_wp2_with fail
    go_ret
    exact ⟨rfl, pw_below_drewN hb _⟩
  · rw [if_neg hlt]
    go_enter Tryd.func41, Tryd.ntmps41
    go_wp2_with fail
    go_quiet ((go_at_call 44; refine (unit_monthly.calls2 _ _ _ HN.out).mono ?_; rintro e w' ⟨rfl, ⟨nd, rfl⟩⟩; first | exact ⟨rfl, _, World.drewN_drewN _ _ _⟩ | exact ⟨rfl, _, rfl⟩))
    go_wp2_with fail
    go_ret
    exact ⟨rfl, pw_below_drewN hb _⟩
/-! Count, First, Last, Of -/
def unit_tab (kind : Int) : Option (Int × Int × Int) := if kind = 1 then some (1, 0, 120000) else if kind = 2 then some (3, 2, 40000) else if kind = 3 then some (12, 0, 10000) else if kind = 4 then some (120, 0, 1000) else if kind = 5 then some (1200, 0, 100) else none
theorem unit_tab.cases {kind m f c : Int} (h : unit_tab kind = some (m, f, c)) : (kind = 1 ∧ m = 1 ∧ f = 0 ∧ c = 120000) ∨ (kind = 2 ∧ m = 3 ∧ f = 2 ∧ c = 40000) ∨ (kind = 3 ∧ m = 12 ∧ f = 0 ∧ c = 10000) ∨ (kind = 4 ∧ m = 120 ∧ f = 0 ∧ c = 1000) ∨ (kind = 5 ∧ m = 1200 ∧ f = 0 ∧ c = 100) := by
  unfold unit_tab at h
  repeat' (split at h)
  all_goals first | (simp at h; omega) | cases h
theorem unit_tab.none {kind : Int} (h : unit_tab kind = none) (h0 : kind ≠ 0) : kind < 0 ∨ 6 ≤ kind := by
  unfold unit_tab at h
  repeat' (split at h)
  all_goals first | omega | cases h
def WaySpan (w : World) (c m f : Int) (e : Ending) (w' : World) : Prop := ∃ B, e = .returned (.tuple #[.agg #[.int .i64 c, .func (Fn.func 42) #[] #[.pointer (some ⟨B + 2, 0, none⟩), .pointer (some ⟨B, 0, none⟩)], .func (Fn.func 43) #[] #[.pointer (some ⟨B + 3, 0, none⟩), .pointer (some ⟨B, 0, none⟩)]], .bool true]) ∧ HasSpan w' B m f c ∧ Below w.heap.size w w'
theorem unit_find.span {kind m f c : Int} (h : unit_tab kind = some (m, f, c)) (w : World) : Calls Tryd.prog 34 #[.int .i64 kind] w (WaySpan w c m f) := by
  rcases unit_tab.cases h with ⟨rfl, rfl, rfl, rfl⟩ | ⟨rfl, rfl, rfl, rfl⟩ | ⟨rfl, rfl, rfl, rfl⟩ | ⟨rfl, rfl, rfl, rfl⟩ | ⟨rfl, rfl, rfl, rfl⟩
  · exact unit_find.calls1 w
  · exact unit_find.calls2 w
  · exact unit_find.calls3 w
  · exact unit_find.calls4 w
  · exact unit_find.calls5 w
theorem unit_begins.cl (m f c i r : Int) (B : Nat) (w : World) (h : unit_begins.f m f i = some r) (hp : 0 ≤ m * i ∧ m * i ≤ 1000000000 ∧ 0 ≤ f ∧ f ≤ 1000) (hT : LenTab w) (hs : HasSpan w B m f c) :
    Calls Tryd.prog 42 #[.int .i64 i, .pointer (some ⟨B + 2, 0, none⟩), .pointer (some ⟨B, 0, none⟩)] w fun e w' => e = .returned (.int .i64 r) ∧ Below w.heap.size w w' := by
  have H := Lib.hid h
  have HP := Lib.hid hp
  obtain ⟨c0, c1, c2, g0, g1⟩ := hs
  clear h hp
  go_enter Tryd.func42, Tryd.ntmps42
  go_wp2_with fail
  refine (unit_begins.calls _ _ _ _ _ _ H.out HP.out hT).mono ?_
  rintro e w1 ⟨rfl, b1⟩
  go_wp2_with fail
  go_ret
  exact ⟨rfl, b1⟩
theorem unit_number.cl (m f c day r : Int) (B : Nat) (w : World) (h : unit_number.f m f day = some r) (hp : 1 ≤ m ∧ m ≤ 10000 ∧ 0 ≤ f ∧ f ≤ 1000) (hs : HasSpan w B m f c) :
    Calls Tryd.prog 43 #[.int .i64 day, .pointer (some ⟨B + 3, 0, none⟩), .pointer (some ⟨B, 0, none⟩)] w fun e w' => e = .returned (.int .i64 r) ∧ Below w.heap.size w w' := by
  have H := Lib.hid h
  have HP := Lib.hid hp
  obtain ⟨c0, c1, c2, g0, g1⟩ := hs
  clear h hp
  go_enter Tryd.func43, Tryd.ntmps43
  go_wp2_with fail
  refine (unit_number.calls _ _ _ _ _ _ H.out HP.out).mono ?_
  rintro e w1 ⟨rfl, b1⟩
  go_wp2_with fail
  go_ret
  exact ⟨rfl, b1⟩
theorem unit_begins.day (i : Int) (w : World) : Calls Tryd.prog 35 #[.int .i64 i] w fun e w' => e = .returned (.int .i64 i) ∧ Below w.heap.size w w' := by
  go_enter Tryd.func35, Tryd.ntmps35
  go_wp2_with go_in
  go_ret
  exact ⟨rfl, (Below.refl _ _).alloc (Nat.le_refl _) _⟩
theorem unit_number.day (i : Int) (w : World) : Calls Tryd.prog 37 #[.int .i64 i] w fun e w' => e = .returned (.int .i64 i) ∧ Below w.heap.size w w' := by
  go_enter Tryd.func37, Tryd.ntmps37
  go_wp2_with go_in
  go_ret
  exact ⟨rfl, (Below.refl _ _).alloc (Nat.le_refl _) _⟩
theorem unit_begins.fit {m f c i : Int} (ht : ∃ kind, unit_tab kind = some (m, f, c)) (h0 : 0 ≤ i) (h1 : i ≤ c) : 0 ≤ m * i ∧ m * i ≤ 1000000000 ∧ 0 ≤ f ∧ f ≤ 1000 := by
  obtain ⟨kind, ht⟩ := ht
  rcases unit_tab.cases ht with ⟨rfl, rfl, rfl, rfl⟩ | ⟨rfl, rfl, rfl, rfl⟩ | ⟨rfl, rfl, rfl, rfl⟩ | ⟨rfl, rfl, rfl, rfl⟩ | ⟨rfl, rfl, rfl, rfl⟩ <;> omega
theorem unit_tab.fit {kind m f c : Int} (ht : unit_tab kind = some (m, f, c)) : (1 ≤ m ∧ m ≤ 10000 ∧ 0 ≤ f ∧ f ≤ 1000) ∧ 100 ≤ c ∧ c ≤ 120000 := by
  rcases unit_tab.cases ht with ⟨rfl, rfl, rfl, rfl⟩ | ⟨rfl, rfl, rfl, rfl⟩ | ⟨rfl, rfl, rfl, rfl⟩ | ⟨rfl, rfl, rfl, rfl⟩ | ⟨rfl, rfl, rfl, rfl⟩ <;> omega

/-! ### unit_First: function 23 -/
def unit_First.f (kind i : Int) : Option (Int × Bool) := if kind = 0 then (if 0 ≤ i ∧ i < 3652425 then some (i, true) else some (0, false)) else match unit_tab kind with
  | some (m, f, c) => if 0 ≤ i ∧ i < c then (unit_begins.f m f i).bind fun t => some (t, true) else some (0, false)
  | none => some (0, false)
set_option maxHeartbeats 1000000 in
theorem unit_First.calls (a0 a1 r1 : Int) (r2 : Bool) (w : World) (h : unit_First.f a0 a1 = some (r1, r2)) (hT : LenTab w) :
    Calls Tryd.prog 23 #[.int .i64 a0, .int .i64 a1] w fun e w' => e = .returned (.tuple #[.int .i64 r1, .bool r2]) ∧ Below w.heap.size w w' := by
  unfold unit_First.f at h
  by_cases h0 : a0 = 0
  · rw [if_pos h0] at h
    subst h0
    by_cases hi : 0 ≤ a1 ∧ a1 < 3652425
    · rw [if_pos hi] at h
      simp only [Option.some.injEq, Prod.mk.injEq] at h
      obtain ⟨rfl, rfl⟩ := h
      obtain ⟨i0, i1⟩ := hi
      go_enter Tryd.func23, Tryd.ntmps23
      go_wp2_with fail
      refine (unit_find.calls0 _).mono ?_
      rintro e w1 ⟨rfl, b1⟩
      have s1 := b1.size
      go_wp2_with fail
      refine (unit_begins.day _ _).mono ?_
      rintro e w2 ⟨rfl, b2⟩
      go_wp2_with fail
      go_ret2
      exact ⟨rfl, (b1.alloc s1 _).trans (b2.mono (by simp; omega))⟩
    · rw [if_neg hi] at h
      simp only [Option.some.injEq, Prod.mk.injEq] at h
      obtain ⟨rfl, rfl⟩ := h
      by_cases i0 : a1 < 0
      all_goals
        (try have i1 : 3652425 ≤ a1 := by omega)
        clear hi
        go_enter Tryd.func23, Tryd.ntmps23
        go_wp2_with fail
        refine (unit_find.calls0 _).mono ?_
        rintro e w1 ⟨rfl, b1⟩
        have s1 := b1.size
        go_wp2_with fail
        go_ret2
        exact ⟨rfl, b1.alloc s1 _⟩
  · rw [if_neg h0] at h
    cases ht : unit_tab a0 with
    | none =>
      rw [ht] at h
      simp only [Option.some.injEq, Prod.mk.injEq] at h
      obtain ⟨rfl, rfl⟩ := h
      have hk := unit_tab.none ht h0
      clear ht h0
      go_enter Tryd.func23, Tryd.ntmps23
      go_wp2_with fail
      refine (unit_find.callsNo _ _ hk).mono ?_
      rintro e w1 ⟨rfl, b1⟩
      have s1 := b1.size
      go_wp2_with fail
      go_ret2
      exact ⟨rfl, b1.alloc s1 _⟩
    | some t =>
      obtain ⟨m, f, c⟩ := t
      rw [ht] at h
      simp only at h
      have HT := Lib.hid ht
      clear ht h0
      by_cases hi : 0 ≤ a1 ∧ a1 < c
      · rw [if_pos hi] at h
        obtain ⟨t, hb, h⟩ := Option.bind_eq_some_iff.mp h
        simp only [Option.some.injEq, Prod.mk.injEq] at h
        obtain ⟨rfl, rfl⟩ := h
        obtain ⟨i0, i1⟩ := hi
        have HB := Lib.hid hb
        clear hb
        go_enter Tryd.func23, Tryd.ntmps23
        go_wp2_with fail
        refine (unit_find.span HT.out _).mono ?_
        rintro e w1 ⟨B, rfl, hs, b1⟩
        have s1 := b1.size
        have hT1 := hT.below (b1.alloc s1 (Obj.cells #[.int .i64 c, .func (Fn.func 42) #[] #[.pointer (some ⟨B + 2, 0, none⟩), .pointer (some ⟨B, 0, none⟩)], .func (Fn.func 43) #[] #[.pointer (some ⟨B + 3, 0, none⟩), .pointer (some ⟨B, 0, none⟩)]] 37))
        go_wp2_with fail
        refine (unit_begins.cl _ _ _ _ _ _ _ HB.out (unit_begins.fit ⟨_, HT.out⟩ i0 (by omega)) hT1 (hs.alloc _)).mono ?_
        rintro e w2 ⟨rfl, b2⟩
        go_wp2_with fail
        go_ret2
        exact ⟨rfl, (b1.alloc s1 _).trans (b2.mono (by simp; omega))⟩
      · rw [if_neg hi] at h
        simp only [Option.some.injEq, Prod.mk.injEq] at h
        obtain ⟨rfl, rfl⟩ := h
        by_cases i0 : a1 < 0
        all_goals
          (try have i1 : c ≤ a1 := by omega)
          clear hi
          go_enter Tryd.func23, Tryd.ntmps23
          go_wp2_with fail
          refine (unit_find.span HT.out _).mono ?_
          rintro e w1 ⟨B, rfl, hs, b1⟩
          have s1 := b1.size
          go_wp2_with fail
          go_ret2
          exact ⟨rfl, b1.alloc s1 _⟩

/-! ### unit_Last: function 25 -/
def unit_Last.f (kind i : Int) : Option (Int × Bool) := if kind = 0 then (if 0 ≤ i ∧ i < 3652425 then some (i, true) else some (0, false)) else match unit_tab kind with
  | some (m, f, c) => if 0 ≤ i ∧ i < c then (if i = c - 1 then some (3652424, true) else (unit_begins.f m f (i + 1)).bind fun t => if 0 ≤ t ∧ t ≤ 10000000 then some (t - 1, true) else none) else some (0, false)
  | none => some (0, false)
set_option maxHeartbeats 1000000 in
theorem unit_Last.calls (a0 a1 r1 : Int) (r2 : Bool) (w : World) (h : unit_Last.f a0 a1 = some (r1, r2)) (hT : LenTab w) :
    Calls Tryd.prog 25 #[.int .i64 a0, .int .i64 a1] w fun e w' => e = .returned (.tuple #[.int .i64 r1, .bool r2]) ∧ Below w.heap.size w w' := by
  unfold unit_Last.f at h
  by_cases h0 : a0 = 0
  · rw [if_pos h0] at h
    subst h0
    by_cases hi : 0 ≤ a1 ∧ a1 < 3652425
    · rw [if_pos hi] at h
      simp only [Option.some.injEq, Prod.mk.injEq] at h
      obtain ⟨rfl, rfl⟩ := h
      obtain ⟨i0, i1⟩ := hi
      by_cases hl : a1 = 3652424
      · subst hl
        clear i0 i1
        go_enter Tryd.func25, Tryd.ntmps25
        go_wp2_with fail
        refine (unit_find.calls0 _).mono ?_
        rintro e w1 ⟨rfl, b1⟩
        have s1 := b1.size
        go_wp2_with fail
        go_ret2
        exact ⟨rfl, b1.alloc s1 _⟩
      · have hl' : (a1 == 3652424) = false := beq_eq_false_iff_ne.mpr hl
        have i2 : a1 < 3652424 := by omega
        clear i1 hl
        go_enter Tryd.func25, Tryd.ntmps25
        go_wp2_with fail
        refine (unit_find.calls0 _).mono ?_
        rintro e w1 ⟨rfl, b1⟩
        have s1 := b1.size
        go_wp2_with fail
        refine (unit_begins.day _ _).mono ?_
        rintro e w2 ⟨rfl, b2⟩
        go_wp2_with fail
        go_ret2
        exact ⟨by first | rfl | (rw [show a1 + 1 - 1 = a1 by omega]; rfl), (b1.alloc s1 _).trans (b2.mono (by simp; omega))⟩
    · rw [if_neg hi] at h
      simp only [Option.some.injEq, Prod.mk.injEq] at h
      obtain ⟨rfl, rfl⟩ := h
      by_cases i0 : a1 < 0
      all_goals
        (try have i1 : 3652425 ≤ a1 := by omega)
        clear hi
        go_enter Tryd.func25, Tryd.ntmps25
        go_wp2_with fail
        refine (unit_find.calls0 _).mono ?_
        rintro e w1 ⟨rfl, b1⟩
        have s1 := b1.size
        go_wp2_with fail
        go_ret2
        exact ⟨rfl, b1.alloc s1 _⟩
  · rw [if_neg h0] at h
    cases ht : unit_tab a0 with
    | none =>
      rw [ht] at h
      simp only [Option.some.injEq, Prod.mk.injEq] at h
      obtain ⟨rfl, rfl⟩ := h
      have hk := unit_tab.none ht h0
      clear ht h0
      go_enter Tryd.func25, Tryd.ntmps25
      go_wp2_with fail
      refine (unit_find.callsNo _ _ hk).mono ?_
      rintro e w1 ⟨rfl, b1⟩
      have s1 := b1.size
      go_wp2_with fail
      go_ret2
      exact ⟨rfl, b1.alloc s1 _⟩
    | some t =>
      obtain ⟨m, f, c⟩ := t
      rw [ht] at h
      simp only at h
      have HT := Lib.hid ht
      clear ht h0
      by_cases hi : 0 ≤ a1 ∧ a1 < c
      · rw [if_pos hi] at h
        obtain ⟨i0, i1⟩ := hi
        have HF := Lib.hid (unit_tab.fit HT.out)
        have c1 := HF.out.2.1
        have c2 := HF.out.2.2
        by_cases hl : a1 = c - 1
        · rw [if_pos hl] at h
          simp only [Option.some.injEq, Prod.mk.injEq] at h
          obtain ⟨rfl, rfl⟩ := h
          subst hl
          have hl' : ((c - 1) == (c - 1)) = true := beq_self_eq_true _
          clear hl' i0 i1
          have i0 : 0 ≤ c - 1 := by omega
          go_enter Tryd.func25, Tryd.ntmps25
          go_wp2_with fail
          refine (unit_find.span HT.out _).mono ?_
          rintro e w1 ⟨B, rfl, hs, b1⟩
          have s1 := b1.size
          go_wp2_with fail
          go_ret2
          exact ⟨rfl, b1.alloc s1 _⟩
        · rw [if_neg hl] at h
          obtain ⟨t, hb, h⟩ := Option.bind_eq_some_iff.mp h
          split at h
          case isFalse => cases h
          rename_i ht
          obtain ⟨t0, t1⟩ := ht
          simp only [Option.some.injEq, Prod.mk.injEq] at h
          obtain ⟨rfl, rfl⟩ := h
          have HB := Lib.hid hb
          have hl' : (a1 == c - 1) = false := beq_eq_false_iff_ne.mpr hl
          clear hb hl
          go_enter Tryd.func25, Tryd.ntmps25
          go_wp2_with fail
          refine (unit_find.span HT.out _).mono ?_
          rintro e w1 ⟨B, rfl, hs, b1⟩
          have s1 := b1.size
          have hT1 := hT.below (b1.alloc s1 (Obj.cells #[.int .i64 c, .func (Fn.func 42) #[] #[.pointer (some ⟨B + 2, 0, none⟩), .pointer (some ⟨B, 0, none⟩)], .func (Fn.func 43) #[] #[.pointer (some ⟨B + 3, 0, none⟩), .pointer (some ⟨B, 0, none⟩)]] 37))
          go_wp2_with fail
          refine (unit_begins.cl _ _ _ _ _ _ _ HB.out (unit_begins.fit ⟨_, HT.out⟩ (by omega) (by omega)) hT1 (hs.alloc _)).mono ?_
          rintro e w2 ⟨rfl, b2⟩
          go_wp2_with fail
          go_ret2
          exact ⟨rfl, (b1.alloc s1 _).trans (b2.mono (by simp; omega))⟩
      · rw [if_neg hi] at h
        simp only [Option.some.injEq, Prod.mk.injEq] at h
        obtain ⟨rfl, rfl⟩ := h
        by_cases i0 : a1 < 0
        all_goals
          (try have i1 : c ≤ a1 := by omega)
          clear hi
          go_enter Tryd.func25, Tryd.ntmps25
          go_wp2_with fail
          refine (unit_find.span HT.out _).mono ?_
          rintro e w1 ⟨B, rfl, hs, b1⟩
          have s1 := b1.size
          go_wp2_with fail
          go_ret2
          exact ⟨rfl, b1.alloc s1 _⟩


/-! ### unit_Of: function 27 -/
def unit_Of.f (kind day : Int) : Option (Int × Bool) := if 0 ≤ day ∧ day ≤ 3652424 then (if kind = 0 then some (day, true) else match unit_tab kind with
  | some (m, f, _) => (unit_number.f m f day).bind fun n => some (if n ≥ 0 then (n, true) else (0, false))
  | none => some (0, false)) else some (0, false)
set_option maxHeartbeats 1000000 in
theorem unit_Of.calls (a0 a1 r1 : Int) (r2 : Bool) (w : World) (h : unit_Of.f a0 a1 = some (r1, r2)) (hT : LenTab w) :
    Calls Tryd.prog 27 #[.int .i64 a0, .int .i64 a1] w fun e w' => e = .returned (.tuple #[.int .i64 r1, .bool r2]) ∧ Below w.heap.size w w' := by
  unfold unit_Of.f at h
  by_cases hi : 0 ≤ a1 ∧ a1 ≤ 3652424
  · rw [if_pos hi] at h
    obtain ⟨i0, i1⟩ := hi
    by_cases h0 : a0 = 0
    · rw [if_pos h0] at h
      subst h0
      simp only [Option.some.injEq, Prod.mk.injEq] at h
      obtain ⟨rfl, rfl⟩ := h
      go_enter Tryd.func27, Tryd.ntmps27
      go_wp2_with fail
      refine (unit_find.calls0 _).mono ?_
      rintro e w1 ⟨rfl, b1⟩
      have s1 := b1.size
      go_wp2_with fail
      refine (unit_number.day _ _).mono ?_
      rintro e w2 ⟨rfl, b2⟩
      go_wp2_with fail
      go_ret2
      exact ⟨by first | rfl | (rw [show mx a1 0 = a1 by unfold mx; rw [if_neg (by omega)]]; rfl), (b1.alloc s1 _).trans (b2.mono (by simp; omega))⟩
    · rw [if_neg h0] at h
      cases ht : unit_tab a0 with
      | none =>
        rw [ht] at h
        simp only [Option.some.injEq, Prod.mk.injEq] at h
        obtain ⟨rfl, rfl⟩ := h
        have hk := unit_tab.none ht h0
        clear ht h0
        go_enter Tryd.func27, Tryd.ntmps27
        go_wp2_with fail
        refine (unit_find.callsNo _ _ hk).mono ?_
        rintro e w1 ⟨rfl, b1⟩
        have s1 := b1.size
        go_wp2_with fail
        go_ret2
        exact ⟨rfl, b1.alloc s1 _⟩
      | some t =>
        obtain ⟨m, f, c⟩ := t
        rw [ht] at h
        simp only at h
        have HT := Lib.hid ht
        clear ht h0
        obtain ⟨n, hb, h⟩ := Option.bind_eq_some_iff.mp h
        have HB := Lib.hid hb
        have HF := Lib.hid (unit_tab.fit HT.out).1
        clear hb
        by_cases hn : n ≥ 0
        · rw [if_pos hn] at h
          simp only [Option.some.injEq, Prod.mk.injEq] at h
          obtain ⟨rfl, rfl⟩ := h
          go_enter Tryd.func27, Tryd.ntmps27
          go_wp2_with fail
          refine (unit_find.span HT.out _).mono ?_
          rintro e w1 ⟨B, rfl, hs, b1⟩
          have s1 := b1.size
          go_wp2_with fail
          refine (unit_number.cl _ _ _ _ _ _ _ HB.out HF.out (hs.alloc _)).mono ?_
          rintro e w2 ⟨rfl, b2⟩
          go_wp2_with fail
          go_ret2
          exact ⟨by first | rfl | (rw [show mx n 0 = n by unfold mx; rw [if_neg (by omega)]]; rfl), (b1.alloc s1 _).trans (b2.mono (by simp; omega))⟩
        · rw [if_neg hn] at h
          simp only [Option.some.injEq, Prod.mk.injEq] at h
          obtain ⟨rfl, rfl⟩ := h
          have hn' : decide (0 ≤ n) = false := decide_eq_false hn
          have hn'' : n < 0 := by omega
          go_enter Tryd.func27, Tryd.ntmps27
          go_wp2_with fail
          refine (unit_find.span HT.out _).mono ?_
          rintro e w1 ⟨B, rfl, hs, b1⟩
          have s1 := b1.size
          go_wp2_with fail
          refine (unit_number.cl _ _ _ _ _ _ _ HB.out HF.out (hs.alloc _)).mono ?_
          rintro e w2 ⟨rfl, b2⟩
          go_wp2_with fail
          go_ret2
          exact ⟨by first | rfl | (rw [hn']; rfl) | (rw [show mx n 0 = 0 by unfold mx; rw [if_pos (by omega)]]; rfl), (b1.alloc s1 _).trans (b2.mono (by simp; omega))⟩
  · rw [if_neg hi] at h
    simp only [Option.some.injEq, Prod.mk.injEq] at h
    obtain ⟨rfl, rfl⟩ := h
    by_cases i0 : a1 < 0
    all_goals
      (try have i1 : 3652424 < a1 := by omega)
      clear hi
      by_cases h0 : a0 = 0
    all_goals
      first
      | (subst h0
         go_enter Tryd.func27, Tryd.ntmps27
         go_wp2_with fail
         refine (unit_find.calls0 _).mono ?_
         rintro e w1 ⟨rfl, b1⟩
         have s1 := b1.size
         go_wp2_with fail
         go_ret2
         exact ⟨rfl, b1.alloc s1 _⟩)
      | (cases ht : unit_tab a0 with
         | none =>
           have hk := unit_tab.none ht h0
           clear ht h0
           go_enter Tryd.func27, Tryd.ntmps27
           go_wp2_with fail
           refine (unit_find.callsNo _ _ hk).mono ?_
           rintro e w1 ⟨rfl, b1⟩
           have s1 := b1.size
           go_wp2_with fail
           go_ret2
           exact ⟨rfl, b1.alloc s1 _⟩
         | some t =>
           obtain ⟨m, f, c⟩ := t
           have HT := Lib.hid ht
           clear ht h0
           go_enter Tryd.func27, Tryd.ntmps27
           go_wp2_with fail
           refine (unit_find.span HT.out _).mono ?_
           rintro e w1 ⟨B, rfl, hs, b1⟩
           have s1 := b1.size
           go_wp2_with fail
           go_ret2
           exact ⟨rfl, b1.alloc s1 _⟩)

/-! ### unit_Count: function 29 -/
def unit_Count.f (kind : Int) : Option Int := if kind = 0 then some 3652425 else match unit_tab kind with | some (_, _, c) => some c | none => some 0
theorem unit_Count.calls (a0 r : Int) (w : World) (h : unit_Count.f a0 = some r) (hT : LenTab w) :
    Calls Tryd.prog 29 #[.int .i64 a0] w fun e w' => e = .returned (.int .i64 r) ∧ Below w.heap.size w w' := by
  unfold unit_Count.f at h
  by_cases h0 : a0 = 0
  · rw [if_pos h0] at h
    obtain rfl := Option.some.inj h
    subst h0
    clear h
    go_enter Tryd.func29, Tryd.ntmps29
    go_wp2_with fail
    refine (unit_find.calls0 _).mono ?_
    rintro e w1 ⟨rfl, b1⟩
    have s1 := b1.size
    go_wp2_with fail
    go_ret
    exact ⟨rfl, b1.alloc s1 _⟩
  · rw [if_neg h0] at h
    cases ht : unit_tab a0 with
    | none =>
      rw [ht] at h
      obtain rfl := Option.some.inj h
      have hk := unit_tab.none ht h0
      clear h ht h0
      go_enter Tryd.func29, Tryd.ntmps29
      go_wp2_with fail
      refine (unit_find.callsNo _ _ hk).mono ?_
      rintro e w1 ⟨rfl, b1⟩
      have s1 := b1.size
      go_wp2_with fail
      go_ret
      exact ⟨rfl, b1.alloc s1 _⟩
    | some t =>
      obtain ⟨m, f, c⟩ := t
      rw [ht] at h
      obtain rfl := Option.some.inj h
      have HT := Lib.hid ht
      clear h ht h0
      go_enter Tryd.func29, Tryd.ntmps29
      go_wp2_with fail
      refine (unit_find.span HT.out _).mono ?_
      rintro e w1 ⟨B, rfl, hs, b1⟩
      have s1 := b1.size
      go_wp2_with fail
      go_ret
      exact ⟨rfl, b1.alloc s1 _⟩

/-! ### lustrumlaw03_awake: function 22 -/
def lustrumlaw03_awake.f  : Option (Bool) := (unit_First.f 2 7999).bind fun bt112 => ((unit_Last.f 2 7999).bind fun bt114 => ((unit_Of.f 4 730485).bind fun bt116 => (if bt112.2 = true then (if bt114.2 = true then (if bt112.1 = 730454 then (if bt114.1 = 730544 then (if bt116.2 = true then (if bt116.1 = 200 then ((unit_Count.f 1).bind fun t118 => (some (t118 == 120000))) else (some false)) else (some false)) else (some false)) else (some false)) else (some false)) else (some false))))
set_option maxHeartbeats 8000000 in
set_option maxRecDepth 100000 in
theorem lustrumlaw03_awake.calls  (r : Bool) (w : World) (h : lustrumlaw03_awake.f  = some r) (hT : LenTab w) :
    Calls Tryd.prog 22 #[] w fun e w' => e = .returned (.bool r) ∧ Below w.heap.size w w' := by
  have HB := Aside0.mk (Below.refl w.heap.size w)
  have H : ((unit_First.f 2 7999).bind fun bt112 => ((unit_Last.f 2 7999).bind fun bt114 => ((unit_Of.f 4 730485).bind fun bt116 => (if bt112.2 = true then (if bt114.2 = true then (if bt112.1 = 730454 then (if bt114.1 = 730544 then (if bt116.2 = true then (if bt116.1 = 200 then ((unit_Count.f 1).bind fun t118 => (some (t118 == 120000))) else (some false)) else (some false)) else (some false)) else (some false)) else (some false)) else (some false))))) = some r := h
  clear h
  replace H := Option.bind_eq_some_iff.mp H
  obtain ⟨⟨t112, t113⟩, A10, H⟩ := H
  replace H : ((unit_Last.f 2 7999).bind fun bt114 => ((unit_Of.f 4 730485).bind fun bt116 => (if t113 = true then (if bt114.2 = true then (if t112 = 730454 then (if bt114.1 = 730544 then (if bt116.2 = true then (if bt116.1 = 200 then ((unit_Count.f 1).bind fun t118 => (some (t118 == 120000))) else (some false)) else (some false)) else (some false)) else (some false)) else (some false)) else (some false)))) = some r := H
  have A1 := Aside0.mk A10
  clear A10
  replace H := Option.bind_eq_some_iff.mp H
  obtain ⟨⟨t114, t115⟩, A20, H⟩ := H
  replace H : ((unit_Of.f 4 730485).bind fun bt116 => (if t113 = true then (if t115 = true then (if t112 = 730454 then (if t114 = 730544 then (if bt116.2 = true then (if bt116.1 = 200 then ((unit_Count.f 1).bind fun t118 => (some (t118 == 120000))) else (some false)) else (some false)) else (some false)) else (some false)) else (some false)) else (some false))) = some r := H
  have A2 := Aside0.mk A20
  clear A20
  replace H := Option.bind_eq_some_iff.mp H
  obtain ⟨⟨t116, t117⟩, A30, H⟩ := H
  replace H : (if t113 = true then (if t115 = true then (if t112 = 730454 then (if t114 = 730544 then (if t117 = true then (if t116 = 200 then ((unit_Count.f 1).bind fun t118 => (some (t118 == 120000))) else (some false)) else (some false)) else (some false)) else (some false)) else (some false)) else (some false)) = some r := H
  have A3 := Aside0.mk A30
  clear A30
  by_cases c4 : t113 = true
  · subst c4
    have H1 : (if t115 = true then (if t112 = 730454 then (if t114 = 730544 then (if t117 = true then (if t116 = 200 then ((unit_Count.f 1).bind fun t118 => (some (t118 == 120000))) else (some false)) else (some false)) else (some false)) else (some false)) else (some false)) = some r := by rw [if_pos rfl] at H; exact H
    clear H
    have H := H1
    clear H1
    by_cases c5 : t115 = true
    · subst c5
      have H1 : (if t112 = 730454 then (if t114 = 730544 then (if t117 = true then (if t116 = 200 then ((unit_Count.f 1).bind fun t118 => (some (t118 == 120000))) else (some false)) else (some false)) else (some false)) else (some false)) = some r := by rw [if_pos rfl] at H; exact H
      clear H
      have H := H1
      clear H1
      by_cases c6 : t112 = 730454
      · rw [if_pos c6] at H
        have c6b0 : (t112 == 730454) = true := beq_iff_eq.mpr c6
        have c6b1 : (t112 != 730454) = false := bne_eq_false_iff_eq.mpr c6
        clear c6
        by_cases c7 : t114 = 730544
        · rw [if_pos c7] at H
          have c7b0 : (t114 == 730544) = true := beq_iff_eq.mpr c7
          have c7b1 : (t114 != 730544) = false := bne_eq_false_iff_eq.mpr c7
          clear c7
          by_cases c8 : t117 = true
          · subst c8
            have H1 : (if t116 = 200 then ((unit_Count.f 1).bind fun t118 => (some (t118 == 120000))) else (some false)) = some r := by rw [if_pos rfl] at H; exact H
            clear H
            have H := H1
            clear H1
            by_cases c9 : t116 = 200
            · rw [if_pos c9] at H
              have c9b0 : (t116 == 200) = true := beq_iff_eq.mpr c9
              have c9b1 : (t116 != 200) = false := bne_eq_false_iff_eq.mpr c9
              clear c9
              replace H := Option.bind_eq_some_iff.mp H
              obtain ⟨t118, A100, H⟩ := H
              replace H : (some (t118 == 120000)) = some r := H
              have A10 := Aside0.mk A100
              clear A100
              obtain rfl := Option.some.inj H
              go_enter Tryd.func22, Tryd.ntmps22
              go_wp2_with (first | ((with_reducible refine gate_callee (f := 23) rfl ?_); refine goesL_ (some 8) rfl rfl Tryd.func23 (by kernel_rfl) rfl #[.int .i64 2, .int .i64 7999] rfl (by (try simp only [List.map_toArray, List.map_cons, List.map_nil]); first | done | rfl | (simp only [List.length_drop, List.length_take]; rfl)) ?_; (with_reducible refine (unit_First.calls 2 7999 t112 true _ A1.out (by first | exact hT | ((repeat (first | exact hT | apply LenTab.drewN)); done) | (refine LenTab.below hT ?_; repeat (first | (with_reducible first | exact HB.out | apply below_alloc | apply pw_below_drewN | apply below_drew1) | exact HB.out)))).mono ?_); rintro e w11 ⟨rfl, hb⟩; refine ⟨_, rfl, ?_⟩; have n0_ := Aside0.mk (below_step (by repeat (first | (with_reducible first | exact HB.out | apply below_alloc | apply pw_below_drewN | apply below_drew1) | exact HB.out)) hb); clear HB; have HB := n0_; clear n0_; (try clear hb); (try clear hb2); (try clear hk); (try clear hi)) | ((with_reducible refine gate_callee (f := 25) rfl ?_); refine goesL_ (some 12) rfl rfl Tryd.func25 (by kernel_rfl) rfl #[.int .i64 2, .int .i64 7999] rfl (by (try simp only [List.map_toArray, List.map_cons, List.map_nil]); first | done | rfl | (simp only [List.length_drop, List.length_take]; rfl)) ?_; (with_reducible refine (unit_Last.calls 2 7999 t114 true _ A2.out (by first | exact hT | ((repeat (first | exact hT | apply LenTab.drewN)); done) | (refine LenTab.below hT ?_; repeat (first | (with_reducible first | exact HB.out | apply below_alloc | apply pw_below_drewN | apply below_drew1) | exact HB.out)))).mono ?_); rintro e w12 ⟨rfl, hb⟩; refine ⟨_, rfl, ?_⟩; have n0_ := Aside0.mk (below_step (by repeat (first | (with_reducible first | exact HB.out | apply below_alloc | apply pw_below_drewN | apply below_drew1) | exact HB.out)) hb); clear HB; have HB := n0_; clear n0_; (try clear hb); (try clear hb2); (try clear hk); (try clear hi)) | ((with_reducible refine gate_callee (f := 27) rfl ?_); refine goesL_ (some 16) rfl rfl Tryd.func27 (by kernel_rfl) rfl #[.int .i64 4, .int .i64 730485] rfl (by (try simp only [List.map_toArray, List.map_cons, List.map_nil]); first | done | rfl | (simp only [List.length_drop, List.length_take]; rfl)) ?_; (with_reducible refine (unit_Of.calls 4 730485 t116 true _ A3.out (by first | exact hT | ((repeat (first | exact hT | apply LenTab.drewN)); done) | (refine LenTab.below hT ?_; repeat (first | (with_reducible first | exact HB.out | apply below_alloc | apply pw_below_drewN | apply below_drew1) | exact HB.out)))).mono ?_); rintro e w13 ⟨rfl, hb⟩; refine ⟨_, rfl, ?_⟩; have n0_ := Aside0.mk (below_step (by repeat (first | (with_reducible first | exact HB.out | apply below_alloc | apply pw_below_drewN | apply below_drew1) | exact HB.out)) hb); clear HB; have HB := n0_; clear n0_; (try clear hb); (try clear hb2); (try clear hk); (try clear hi)) | (go_at_call 29; (with_reducible refine (unit_Count.calls 1 t118 _ A10.out (by first | exact hT | ((repeat (first | exact hT | apply LenTab.drewN)); done) | (refine LenTab.below hT ?_; repeat (first | (with_reducible first | exact HB.out | apply below_alloc | apply pw_below_drewN | apply below_drew1) | exact HB.out)))).mono ?_); rintro e w14 ⟨rfl, hb⟩; have n0_ := Aside0.mk (below_step (by repeat (first | (with_reducible first | exact HB.out | apply below_alloc | apply pw_below_drewN | apply below_drew1) | exact HB.out)) hb); clear HB; have HB := n0_; clear n0_; (try clear hb); (try clear hb2); (try clear hk); (try clear hi)))
              go_ret
              exact ⟨by first | rfl | (simp [errW_none, errW_some] <;> rfl) | (simp [*, errW_none, errW_some] <;> rfl), by repeat (first | (with_reducible first | exact HB.out | apply below_alloc | apply pw_below_drewN | apply below_drew1) | exact HB.out)⟩
            · rw [if_neg c9] at H
              have c9b0 : (t116 == 200) = false := beq_eq_false_iff_ne.mpr c9
              have c9b1 : (t116 != 200) = true := bne_iff_ne.mpr c9
              obtain rfl := Option.some.inj H
              go_enter Tryd.func22, Tryd.ntmps22
              go_wp2_with (first | ((with_reducible refine gate_callee (f := 23) rfl ?_); refine goesL_ (some 8) rfl rfl Tryd.func23 (by kernel_rfl) rfl #[.int .i64 2, .int .i64 7999] rfl (by (try simp only [List.map_toArray, List.map_cons, List.map_nil]); first | done | rfl | (simp only [List.length_drop, List.length_take]; rfl)) ?_; (with_reducible refine (unit_First.calls 2 7999 t112 true _ A1.out (by first | exact hT | ((repeat (first | exact hT | apply LenTab.drewN)); done) | (refine LenTab.below hT ?_; repeat (first | (with_reducible first | exact HB.out | apply below_alloc | apply pw_below_drewN | apply below_drew1) | exact HB.out)))).mono ?_); rintro e w15 ⟨rfl, hb⟩; refine ⟨_, rfl, ?_⟩; have n0_ := Aside0.mk (below_step (by repeat (first | (with_reducible first | exact HB.out | apply below_alloc | apply pw_below_drewN | apply below_drew1) | exact HB.out)) hb); clear HB; have HB := n0_; clear n0_; (try clear hb); (try clear hb2); (try clear hk); (try clear hi)) | ((with_reducible refine gate_callee (f := 25) rfl ?_); refine goesL_ (some 12) rfl rfl Tryd.func25 (by kernel_rfl) rfl #[.int .i64 2, .int .i64 7999] rfl (by (try simp only [List.map_toArray, List.map_cons, List.map_nil]); first | done | rfl | (simp only [List.length_drop, List.length_take]; rfl)) ?_; (with_reducible refine (unit_Last.calls 2 7999 t114 true _ A2.out (by first | exact hT | ((repeat (first | exact hT | apply LenTab.drewN)); done) | (refine LenTab.below hT ?_; repeat (first | (with_reducible first | exact HB.out | apply below_alloc | apply pw_below_drewN | apply below_drew1) | exact HB.out)))).mono ?_); rintro e w16 ⟨rfl, hb⟩; refine ⟨_, rfl, ?_⟩; have n0_ := Aside0.mk (below_step (by repeat (first | (with_reducible first | exact HB.out | apply below_alloc | apply pw_below_drewN | apply below_drew1) | exact HB.out)) hb); clear HB; have HB := n0_; clear n0_; (try clear hb); (try clear hb2); (try clear hk); (try clear hi)) | ((with_reducible refine gate_callee (f := 27) rfl ?_); refine goesL_ (some 16) rfl rfl Tryd.func27 (by kernel_rfl) rfl #[.int .i64 4, .int .i64 730485] rfl (by (try simp only [List.map_toArray, List.map_cons, List.map_nil]); first | done | rfl | (simp only [List.length_drop, List.length_take]; rfl)) ?_; (with_reducible refine (unit_Of.calls 4 730485 t116 true _ A3.out (by first | exact hT | ((repeat (first | exact hT | apply LenTab.drewN)); done) | (refine LenTab.below hT ?_; repeat (first | (with_reducible first | exact HB.out | apply below_alloc | apply pw_below_drewN | apply below_drew1) | exact HB.out)))).mono ?_); rintro e w17 ⟨rfl, hb⟩; refine ⟨_, rfl, ?_⟩; have n0_ := Aside0.mk (below_step (by repeat (first | (with_reducible first | exact HB.out | apply below_alloc | apply pw_below_drewN | apply below_drew1) | exact HB.out)) hb); clear HB; have HB := n0_; clear n0_; (try clear hb); (try clear hb2); (try clear hk); (try clear hi)))
              go_ret
              exact ⟨by first | rfl | (simp [errW_none, errW_some] <;> rfl) | (simp [*, errW_none, errW_some] <;> rfl), by repeat (first | (with_reducible first | exact HB.out | apply below_alloc | apply pw_below_drewN | apply below_drew1) | exact HB.out)⟩
          · replace c8 := Bool.eq_false_iff.mpr c8
            subst c8
            have H1 : (some false) = some r := by rw [if_neg (show ¬ (false = true) by decide)] at H; exact H
            clear H
            have H := H1
            clear H1
            obtain rfl := Option.some.inj H
            go_enter Tryd.func22, Tryd.ntmps22
            go_wp2_with (first | ((with_reducible refine gate_callee (f := 23) rfl ?_); refine goesL_ (some 8) rfl rfl Tryd.func23 (by kernel_rfl) rfl #[.int .i64 2, .int .i64 7999] rfl (by (try simp only [List.map_toArray, List.map_cons, List.map_nil]); first | done | rfl | (simp only [List.length_drop, List.length_take]; rfl)) ?_; (with_reducible refine (unit_First.calls 2 7999 t112 true _ A1.out (by first | exact hT | ((repeat (first | exact hT | apply LenTab.drewN)); done) | (refine LenTab.below hT ?_; repeat (first | (with_reducible first | exact HB.out | apply below_alloc | apply pw_below_drewN | apply below_drew1) | exact HB.out)))).mono ?_); rintro e w18 ⟨rfl, hb⟩; refine ⟨_, rfl, ?_⟩; have n0_ := Aside0.mk (below_step (by repeat (first | (with_reducible first | exact HB.out | apply below_alloc | apply pw_below_drewN | apply below_drew1) | exact HB.out)) hb); clear HB; have HB := n0_; clear n0_; (try clear hb); (try clear hb2); (try clear hk); (try clear hi)) | ((with_reducible refine gate_callee (f := 25) rfl ?_); refine goesL_ (some 12) rfl rfl Tryd.func25 (by kernel_rfl) rfl #[.int .i64 2, .int .i64 7999] rfl (by (try simp only [List.map_toArray, List.map_cons, List.map_nil]); first | done | rfl | (simp only [List.length_drop, List.length_take]; rfl)) ?_; (with_reducible refine (unit_Last.calls 2 7999 t114 true _ A2.out (by first | exact hT | ((repeat (first | exact hT | apply LenTab.drewN)); done) | (refine LenTab.below hT ?_; repeat (first | (with_reducible first | exact HB.out | apply below_alloc | apply pw_below_drewN | apply below_drew1) | exact HB.out)))).mono ?_); rintro e w19 ⟨rfl, hb⟩; refine ⟨_, rfl, ?_⟩; have n0_ := Aside0.mk (below_step (by repeat (first | (with_reducible first | exact HB.out | apply below_alloc | apply pw_below_drewN | apply below_drew1) | exact HB.out)) hb); clear HB; have HB := n0_; clear n0_; (try clear hb); (try clear hb2); (try clear hk); (try clear hi)) | ((with_reducible refine gate_callee (f := 27) rfl ?_); refine goesL_ (some 16) rfl rfl Tryd.func27 (by kernel_rfl) rfl #[.int .i64 4, .int .i64 730485] rfl (by (try simp only [List.map_toArray, List.map_cons, List.map_nil]); first | done | rfl | (simp only [List.length_drop, List.length_take]; rfl)) ?_; (with_reducible refine (unit_Of.calls 4 730485 t116 false _ A3.out (by first | exact hT | ((repeat (first | exact hT | apply LenTab.drewN)); done) | (refine LenTab.below hT ?_; repeat (first | (with_reducible first | exact HB.out | apply below_alloc | apply pw_below_drewN | apply below_drew1) | exact HB.out)))).mono ?_); rintro e w20 ⟨rfl, hb⟩; refine ⟨_, rfl, ?_⟩; have n0_ := Aside0.mk (below_step (by repeat (first | (with_reducible first | exact HB.out | apply below_alloc | apply pw_below_drewN | apply below_drew1) | exact HB.out)) hb); clear HB; have HB := n0_; clear n0_; (try clear hb); (try clear hb2); (try clear hk); (try clear hi)))
            go_ret
            exact ⟨by first | rfl | (simp [errW_none, errW_some] <;> rfl) | (simp [*, errW_none, errW_some] <;> rfl), by repeat (first | (with_reducible first | exact HB.out | apply below_alloc | apply pw_below_drewN | apply below_drew1) | exact HB.out)⟩
        · rw [if_neg c7] at H
          have c7b0 : (t114 == 730544) = false := beq_eq_false_iff_ne.mpr c7
          have c7b1 : (t114 != 730544) = true := bne_iff_ne.mpr c7
          obtain rfl := Option.some.inj H
          go_enter Tryd.func22, Tryd.ntmps22
          go_wp2_with (first | ((with_reducible refine gate_callee (f := 23) rfl ?_); refine goesL_ (some 8) rfl rfl Tryd.func23 (by kernel_rfl) rfl #[.int .i64 2, .int .i64 7999] rfl (by (try simp only [List.map_toArray, List.map_cons, List.map_nil]); first | done | rfl | (simp only [List.length_drop, List.length_take]; rfl)) ?_; (with_reducible refine (unit_First.calls 2 7999 t112 true _ A1.out (by first | exact hT | ((repeat (first | exact hT | apply LenTab.drewN)); done) | (refine LenTab.below hT ?_; repeat (first | (with_reducible first | exact HB.out | apply below_alloc | apply pw_below_drewN | apply below_drew1) | exact HB.out)))).mono ?_); rintro e w21 ⟨rfl, hb⟩; refine ⟨_, rfl, ?_⟩; have n0_ := Aside0.mk (below_step (by repeat (first | (with_reducible first | exact HB.out | apply below_alloc | apply pw_below_drewN | apply below_drew1) | exact HB.out)) hb); clear HB; have HB := n0_; clear n0_; (try clear hb); (try clear hb2); (try clear hk); (try clear hi)) | ((with_reducible refine gate_callee (f := 25) rfl ?_); refine goesL_ (some 12) rfl rfl Tryd.func25 (by kernel_rfl) rfl #[.int .i64 2, .int .i64 7999] rfl (by (try simp only [List.map_toArray, List.map_cons, List.map_nil]); first | done | rfl | (simp only [List.length_drop, List.length_take]; rfl)) ?_; (with_reducible refine (unit_Last.calls 2 7999 t114 true _ A2.out (by first | exact hT | ((repeat (first | exact hT | apply LenTab.drewN)); done) | (refine LenTab.below hT ?_; repeat (first | (with_reducible first | exact HB.out | apply below_alloc | apply pw_below_drewN | apply below_drew1) | exact HB.out)))).mono ?_); rintro e w22 ⟨rfl, hb⟩; refine ⟨_, rfl, ?_⟩; have n0_ := Aside0.mk (below_step (by repeat (first | (with_reducible first | exact HB.out | apply below_alloc | apply pw_below_drewN | apply below_drew1) | exact HB.out)) hb); clear HB; have HB := n0_; clear n0_; (try clear hb); (try clear hb2); (try clear hk); (try clear hi)) | ((with_reducible refine gate_callee (f := 27) rfl ?_); refine goesL_ (some 16) rfl rfl Tryd.func27 (by kernel_rfl) rfl #[.int .i64 4, .int .i64 730485] rfl (by (try simp only [List.map_toArray, List.map_cons, List.map_nil]); first | done | rfl | (simp only [List.length_drop, List.length_take]; rfl)) ?_; (with_reducible refine (unit_Of.calls 4 730485 t116 t117 _ A3.out (by first | exact hT | ((repeat (first | exact hT | apply LenTab.drewN)); done) | (refine LenTab.below hT ?_; repeat (first | (with_reducible first | exact HB.out | apply below_alloc | apply pw_below_drewN | apply below_drew1) | exact HB.out)))).mono ?_); rintro e w23 ⟨rfl, hb⟩; refine ⟨_, rfl, ?_⟩; have n0_ := Aside0.mk (below_step (by repeat (first | (with_reducible first | exact HB.out | apply below_alloc | apply pw_below_drewN | apply below_drew1) | exact HB.out)) hb); clear HB; have HB := n0_; clear n0_; (try clear hb); (try clear hb2); (try clear hk); (try clear hi)))
          go_ret
          exact ⟨by first | rfl | (simp [errW_none, errW_some] <;> rfl) | (simp [*, errW_none, errW_some] <;> rfl), by repeat (first | (with_reducible first | exact HB.out | apply below_alloc | apply pw_below_drewN | apply below_drew1) | exact HB.out)⟩
      · rw [if_neg c6] at H
        have c6b0 : (t112 == 730454) = false := beq_eq_false_iff_ne.mpr c6
        have c6b1 : (t112 != 730454) = true := bne_iff_ne.mpr c6
        obtain rfl := Option.some.inj H
        go_enter Tryd.func22, Tryd.ntmps22
        go_wp2_with (first | ((with_reducible refine gate_callee (f := 23) rfl ?_); refine goesL_ (some 8) rfl rfl Tryd.func23 (by kernel_rfl) rfl #[.int .i64 2, .int .i64 7999] rfl (by (try simp only [List.map_toArray, List.map_cons, List.map_nil]); first | done | rfl | (simp only [List.length_drop, List.length_take]; rfl)) ?_; (with_reducible refine (unit_First.calls 2 7999 t112 true _ A1.out (by first | exact hT | ((repeat (first | exact hT | apply LenTab.drewN)); done) | (refine LenTab.below hT ?_; repeat (first | (with_reducible first | exact HB.out | apply below_alloc | apply pw_below_drewN | apply below_drew1) | exact HB.out)))).mono ?_); rintro e w24 ⟨rfl, hb⟩; refine ⟨_, rfl, ?_⟩; have n0_ := Aside0.mk (below_step (by repeat (first | (with_reducible first | exact HB.out | apply below_alloc | apply pw_below_drewN | apply below_drew1) | exact HB.out)) hb); clear HB; have HB := n0_; clear n0_; (try clear hb); (try clear hb2); (try clear hk); (try clear hi)) | ((with_reducible refine gate_callee (f := 25) rfl ?_); refine goesL_ (some 12) rfl rfl Tryd.func25 (by kernel_rfl) rfl #[.int .i64 2, .int .i64 7999] rfl (by (try simp only [List.map_toArray, List.map_cons, List.map_nil]); first | done | rfl | (simp only [List.length_drop, List.length_take]; rfl)) ?_; (with_reducible refine (unit_Last.calls 2 7999 t114 true _ A2.out (by first | exact hT | ((repeat (first | exact hT | apply LenTab.drewN)); done) | (refine LenTab.below hT ?_; repeat (first | (with_reducible first | exact HB.out | apply below_alloc | apply pw_below_drewN | apply below_drew1) | exact HB.out)))).mono ?_); rintro e w25 ⟨rfl, hb⟩; refine ⟨_, rfl, ?_⟩; have n0_ := Aside0.mk (below_step (by repeat (first | (with_reducible first | exact HB.out | apply below_alloc | apply pw_below_drewN | apply below_drew1) | exact HB.out)) hb); clear HB; have HB := n0_; clear n0_; (try clear hb); (try clear hb2); (try clear hk); (try clear hi)) | ((with_reducible refine gate_callee (f := 27) rfl ?_); refine goesL_ (some 16) rfl rfl Tryd.func27 (by kernel_rfl) rfl #[.int .i64 4, .int .i64 730485] rfl (by (try simp only [List.map_toArray, List.map_cons, List.map_nil]); first | done | rfl | (simp only [List.length_drop, List.length_take]; rfl)) ?_; (with_reducible refine (unit_Of.calls 4 730485 t116 t117 _ A3.out (by first | exact hT | ((repeat (first | exact hT | apply LenTab.drewN)); done) | (refine LenTab.below hT ?_; repeat (first | (with_reducible first | exact HB.out | apply below_alloc | apply pw_below_drewN | apply below_drew1) | exact HB.out)))).mono ?_); rintro e w26 ⟨rfl, hb⟩; refine ⟨_, rfl, ?_⟩; have n0_ := Aside0.mk (below_step (by repeat (first | (with_reducible first | exact HB.out | apply below_alloc | apply pw_below_drewN | apply below_drew1) | exact HB.out)) hb); clear HB; have HB := n0_; clear n0_; (try clear hb); (try clear hb2); (try clear hk); (try clear hi)))
        go_ret
        exact ⟨by first | rfl | (simp [errW_none, errW_some] <;> rfl) | (simp [*, errW_none, errW_some] <;> rfl), by repeat (first | (with_reducible first | exact HB.out | apply below_alloc | apply pw_below_drewN | apply below_drew1) | exact HB.out)⟩
    · replace c5 := Bool.eq_false_iff.mpr c5
      subst c5
      have H1 : (some false) = some r := by rw [if_neg (show ¬ (false = true) by decide)] at H; exact H
      clear H
      have H := H1
      clear H1
      obtain rfl := Option.some.inj H
      go_enter Tryd.func22, Tryd.ntmps22
      go_wp2_with (first | ((with_reducible refine gate_callee (f := 23) rfl ?_); refine goesL_ (some 8) rfl rfl Tryd.func23 (by kernel_rfl) rfl #[.int .i64 2, .int .i64 7999] rfl (by (try simp only [List.map_toArray, List.map_cons, List.map_nil]); first | done | rfl | (simp only [List.length_drop, List.length_take]; rfl)) ?_; (with_reducible refine (unit_First.calls 2 7999 t112 true _ A1.out (by first | exact hT | ((repeat (first | exact hT | apply LenTab.drewN)); done) | (refine LenTab.below hT ?_; repeat (first | (with_reducible first | exact HB.out | apply below_alloc | apply pw_below_drewN | apply below_drew1) | exact HB.out)))).mono ?_); rintro e w27 ⟨rfl, hb⟩; refine ⟨_, rfl, ?_⟩; have n0_ := Aside0.mk (below_step (by repeat (first | (with_reducible first | exact HB.out | apply below_alloc | apply pw_below_drewN | apply below_drew1) | exact HB.out)) hb); clear HB; have HB := n0_; clear n0_; (try clear hb); (try clear hb2); (try clear hk); (try clear hi)) | ((with_reducible refine gate_callee (f := 25) rfl ?_); refine goesL_ (some 12) rfl rfl Tryd.func25 (by kernel_rfl) rfl #[.int .i64 2, .int .i64 7999] rfl (by (try simp only [List.map_toArray, List.map_cons, List.map_nil]); first | done | rfl | (simp only [List.length_drop, List.length_take]; rfl)) ?_; (with_reducible refine (unit_Last.calls 2 7999 t114 false _ A2.out (by first | exact hT | ((repeat (first | exact hT | apply LenTab.drewN)); done) | (refine LenTab.below hT ?_; repeat (first | (with_reducible first | exact HB.out | apply below_alloc | apply pw_below_drewN | apply below_drew1) | exact HB.out)))).mono ?_); rintro e w28 ⟨rfl, hb⟩; refine ⟨_, rfl, ?_⟩; have n0_ := Aside0.mk (below_step (by repeat (first | (with_reducible first | exact HB.out | apply below_alloc | apply pw_below_drewN | apply below_drew1) | exact HB.out)) hb); clear HB; have HB := n0_; clear n0_; (try clear hb); (try clear hb2); (try clear hk); (try clear hi)) | ((with_reducible refine gate_callee (f := 27) rfl ?_); refine goesL_ (some 16) rfl rfl Tryd.func27 (by kernel_rfl) rfl #[.int .i64 4, .int .i64 730485] rfl (by (try simp only [List.map_toArray, List.map_cons, List.map_nil]); first | done | rfl | (simp only [List.length_drop, List.length_take]; rfl)) ?_; (with_reducible refine (unit_Of.calls 4 730485 t116 t117 _ A3.out (by first | exact hT | ((repeat (first | exact hT | apply LenTab.drewN)); done) | (refine LenTab.below hT ?_; repeat (first | (with_reducible first | exact HB.out | apply below_alloc | apply pw_below_drewN | apply below_drew1) | exact HB.out)))).mono ?_); rintro e w29 ⟨rfl, hb⟩; refine ⟨_, rfl, ?_⟩; have n0_ := Aside0.mk (below_step (by repeat (first | (with_reducible first | exact HB.out | apply below_alloc | apply pw_below_drewN | apply below_drew1) | exact HB.out)) hb); clear HB; have HB := n0_; clear n0_; (try clear hb); (try clear hb2); (try clear hk); (try clear hi)))
      go_ret
      exact ⟨by first | rfl | (simp [errW_none, errW_some] <;> rfl) | (simp [*, errW_none, errW_some] <;> rfl), by repeat (first | (with_reducible first | exact HB.out | apply below_alloc | apply pw_below_drewN | apply below_drew1) | exact HB.out)⟩
  · replace c4 := Bool.eq_false_iff.mpr c4
    subst c4
    have H1 : (some false) = some r := by rw [if_neg (show ¬ (false = true) by decide)] at H; exact H
    clear H
    have H := H1
    clear H1
    obtain rfl := Option.some.inj H
    go_enter Tryd.func22, Tryd.ntmps22
    go_wp2_with (first | ((with_reducible refine gate_callee (f := 23) rfl ?_); refine goesL_ (some 8) rfl rfl Tryd.func23 (by kernel_rfl) rfl #[.int .i64 2, .int .i64 7999] rfl (by (try simp only [List.map_toArray, List.map_cons, List.map_nil]); first | done | rfl | (simp only [List.length_drop, List.length_take]; rfl)) ?_; (with_reducible refine (unit_First.calls 2 7999 t112 false _ A1.out (by first | exact hT | ((repeat (first | exact hT | apply LenTab.drewN)); done) | (refine LenTab.below hT ?_; repeat (first | (with_reducible first | exact HB.out | apply below_alloc | apply pw_below_drewN | apply below_drew1) | exact HB.out)))).mono ?_); rintro e w30 ⟨rfl, hb⟩; refine ⟨_, rfl, ?_⟩; have n0_ := Aside0.mk (below_step (by repeat (first | (with_reducible first | exact HB.out | apply below_alloc | apply pw_below_drewN | apply below_drew1) | exact HB.out)) hb); clear HB; have HB := n0_; clear n0_; (try clear hb); (try clear hb2); (try clear hk); (try clear hi)) | ((with_reducible refine gate_callee (f := 25) rfl ?_); refine goesL_ (some 12) rfl rfl Tryd.func25 (by kernel_rfl) rfl #[.int .i64 2, .int .i64 7999] rfl (by (try simp only [List.map_toArray, List.map_cons, List.map_nil]); first | done | rfl | (simp only [List.length_drop, List.length_take]; rfl)) ?_; (with_reducible refine (unit_Last.calls 2 7999 t114 t115 _ A2.out (by first | exact hT | ((repeat (first | exact hT | apply LenTab.drewN)); done) | (refine LenTab.below hT ?_; repeat (first | (with_reducible first | exact HB.out | apply below_alloc | apply pw_below_drewN | apply below_drew1) | exact HB.out)))).mono ?_); rintro e w31 ⟨rfl, hb⟩; refine ⟨_, rfl, ?_⟩; have n0_ := Aside0.mk (below_step (by repeat (first | (with_reducible first | exact HB.out | apply below_alloc | apply pw_below_drewN | apply below_drew1) | exact HB.out)) hb); clear HB; have HB := n0_; clear n0_; (try clear hb); (try clear hb2); (try clear hk); (try clear hi)) | ((with_reducible refine gate_callee (f := 27) rfl ?_); refine goesL_ (some 16) rfl rfl Tryd.func27 (by kernel_rfl) rfl #[.int .i64 4, .int .i64 730485] rfl (by (try simp only [List.map_toArray, List.map_cons, List.map_nil]); first | done | rfl | (simp only [List.length_drop, List.length_take]; rfl)) ?_; (with_reducible refine (unit_Of.calls 4 730485 t116 t117 _ A3.out (by first | exact hT | ((repeat (first | exact hT | apply LenTab.drewN)); done) | (refine LenTab.below hT ?_; repeat (first | (with_reducible first | exact HB.out | apply below_alloc | apply pw_below_drewN | apply below_drew1) | exact HB.out)))).mono ?_); rintro e w32 ⟨rfl, hb⟩; refine ⟨_, rfl, ?_⟩; have n0_ := Aside0.mk (below_step (by repeat (first | (with_reducible first | exact HB.out | apply below_alloc | apply pw_below_drewN | apply below_drew1) | exact HB.out)) hb); clear HB; have HB := n0_; clear n0_; (try clear hb); (try clear hb2); (try clear hk); (try clear hi)))
    go_ret
    exact ⟨by first | rfl | (simp [errW_none, errW_some] <;> rfl) | (simp [*, errW_none, errW_some] <;> rfl), by repeat (first | (with_reducible first | exact HB.out | apply below_alloc | apply pw_below_drewN | apply below_drew1) | exact HB.out)⟩

/-! ### lustrumref02_Leap: function 15 -/
def lustrumref02_Leap.f (a0 : Int) : Option (Bool) := if (Int.tmod a0 4) = 0 then (if (Int.tmod a0 100) = 0 then (some ((Int.tmod a0 400) == 0)) else (some true)) else (some ((Int.tmod a0 400) == 0))
set_option maxHeartbeats 8000000 in
set_option maxRecDepth 100000 in
theorem lustrumref02_Leap.calls (a0 : Int) (r : Bool) (w : World) (h : lustrumref02_Leap.f a0 = some r) :
    Calls Tryd.prog 15 #[.int .i64 a0] w fun e w' => e = .returned (.bool r) ∧ Drawn0 w w' := by
  have H : (if (Int.tmod a0 4) = 0 then (if (Int.tmod a0 100) = 0 then (some ((Int.tmod a0 400) == 0)) else (some true)) else (some ((Int.tmod a0 400) == 0))) = some r := h
  clear h
  by_cases c2 : (Int.tmod a0 4) = 0
  · rw [if_pos c2] at H
    have c2b0 : ((Int.tmod a0 4) == 0) = true := beq_iff_eq.mpr c2
    have c2b1 : ((Int.tmod a0 4) != 0) = false := bne_eq_false_iff_eq.mpr c2
    clear c2
    by_cases c3 : (Int.tmod a0 100) = 0
    · rw [if_pos c3] at H
      have c3b0 : ((Int.tmod a0 100) == 0) = true := beq_iff_eq.mpr c3
      have c3b1 : ((Int.tmod a0 100) != 0) = false := bne_eq_false_iff_eq.mpr c3
      clear c3
      obtain rfl := Option.some.inj H
      go_enter Tryd.func15, Tryd.ntmps15
      go_wp2
      go_ret
      exact ⟨by first | rfl | (simp; done) | (simp [*]; done), by repeat (first | exact Drawn0.refl _ | apply Drawn0.step)⟩
    · rw [if_neg c3] at H
      have c3b0 : ((Int.tmod a0 100) == 0) = false := beq_eq_false_iff_ne.mpr c3
      have c3b1 : ((Int.tmod a0 100) != 0) = true := bne_iff_ne.mpr c3
      obtain rfl := Option.some.inj H
      go_enter Tryd.func15, Tryd.ntmps15
      go_wp2
      go_ret
      exact ⟨by first | rfl | (simp; done) | (simp [*]; done), by repeat (first | exact Drawn0.refl _ | apply Drawn0.step)⟩
  · rw [if_neg c2] at H
    have c2b0 : ((Int.tmod a0 4) == 0) = false := beq_eq_false_iff_ne.mpr c2
    have c2b1 : ((Int.tmod a0 4) != 0) = true := bne_iff_ne.mpr c2
    obtain rfl := Option.some.inj H
    go_enter Tryd.func15, Tryd.ntmps15
    go_wp2
    go_ret
    exact ⟨by first | rfl | (simp; done) | (simp [*]; done), by repeat (first | exact Drawn0.refl _ | apply Drawn0.step)⟩

/-! ### lustrumref02_Days: function 17 -/
mutual
def lustrumref02_Days.j0 : Nat → Int → Int → Bool → Option (Int)
  | 0, _, _, _ => none
  | k + 1, x0, x5, x6 => if x6 = true then (some 31) else (if x5 = 4 then (lustrumref02_Days.j1 k x0 x5 (x5 == 4)) else (if x5 = 6 then (lustrumref02_Days.j1 k x0 x5 (x5 == 6)) else (if x5 = 9 then (lustrumref02_Days.j1 k x0 x5 (x5 == 9)) else (lustrumref02_Days.j1 k x0 x5 (x5 == 11)))))
def lustrumref02_Days.j1 : Nat → Int → Int → Bool → Option (Int)
  | 0, _, _, _ => none
  | k + 1, x0, x5, x14 => if x14 = true then (some 30) else (if x5 = 2 then ((lustrumref02_Leap.f x0).bind fun t119 => (if t119 = true then (some 29) else (some 28))) else (some 0))
end
def lustrumref02_Days.f (k : Nat) (a0 : Int) (a1 : Int) : Option (Int) := if a1 = 1 then (lustrumref02_Days.j0 k a0 a1 (a1 == 1)) else (if a1 = 3 then (lustrumref02_Days.j0 k a0 a1 (a1 == 3)) else (if a1 = 5 then (lustrumref02_Days.j0 k a0 a1 (a1 == 5)) else (if a1 = 7 then (lustrumref02_Days.j0 k a0 a1 (a1 == 7)) else (if a1 = 8 then (lustrumref02_Days.j0 k a0 a1 (a1 == 8)) else (if a1 = 10 then (lustrumref02_Days.j0 k a0 a1 (a1 == 10)) else (lustrumref02_Days.j0 k a0 a1 (a1 == 12)))))))
theorem lustrumref02_Days.mono_l : ∀ k, (∀ y0 y1 y2, LeO (lustrumref02_Days.j0 k y0 y1 y2) (lustrumref02_Days.j0 (k + 1) y0 y1 y2)) ∧ (∀ y0 y1 y2, LeO (lustrumref02_Days.j1 k y0 y1 y2) (lustrumref02_Days.j1 (k + 1) y0 y1 y2))
  | 0 => ⟨fun _ _ _ r h => by simp [lustrumref02_Days.j0] at h, fun _ _ _ r h => by simp [lustrumref02_Days.j1] at h⟩
  | k + 1 => by
    obtain ⟨ih0, ih1⟩ := lustrumref02_Days.mono_l k
    refine ⟨?_, ?_⟩
    · intro y0 y1 y2
      unfold lustrumref02_Days.j0
      repeat' first
      | (with_reducible exact ih0 _ _ _)
      | (with_reducible exact ih1 _ _ _)
      | (with_reducible exact LeO.refl _)
      | (with_reducible exact LeO.none _)
      | (with_reducible refine LeO.ite ?_ ?_)
      | (with_reducible refine LeO.bind ?_ (fun _ => ?_))
      | exact ih0 _ _ _
      | exact ih1 _ _ _
      | exact LeO.none _
      | refine LeO.ite ?_ ?_
      | refine LeO.bind ?_ (fun _ => ?_)
    · intro y0 y1 y2
      unfold lustrumref02_Days.j1
      repeat' first
      | (with_reducible exact ih0 _ _ _)
      | (with_reducible exact ih1 _ _ _)
      | (with_reducible exact LeO.refl _)
      | (with_reducible exact LeO.none _)
      | (with_reducible refine LeO.ite ?_ ?_)
      | (with_reducible refine LeO.bind ?_ (fun _ => ?_))
      | exact ih0 _ _ _
      | exact ih1 _ _ _
      | exact LeO.none _
      | refine LeO.ite ?_ ?_
      | refine LeO.bind ?_ (fun _ => ?_)
theorem lustrumref02_Days.mono : ∀ a0 a1 k, LeO (lustrumref02_Days.f k a0 a1) (lustrumref02_Days.f (k + 1) a0 a1) := by
  intro a0 a1 k
  obtain ⟨ih0, ih1⟩ := lustrumref02_Days.mono_l k
  unfold lustrumref02_Days.f
  repeat' first
      | (with_reducible exact ih0 _ _ _)
      | (with_reducible exact ih1 _ _ _)
      | (with_reducible exact LeO.refl _)
      | (with_reducible exact LeO.none _)
      | (with_reducible refine LeO.ite ?_ ?_)
      | (with_reducible refine LeO.bind ?_ (fun _ => ?_))
      | exact ih0 _ _ _
      | exact ih1 _ _ _
      | exact LeO.none _
      | refine LeO.ite ?_ ?_
      | refine LeO.bind ?_ (fun _ => ?_)
set_option maxHeartbeats 8000000 in
set_option maxRecDepth 100000 in
theorem lustrumref02_Days.calls (k : Nat) (a0 : Int) (a1 : Int) (r : Int) (w : World) (h : lustrumref02_Days.f k a0 a1 = some r) :
    Calls Tryd.prog 17 #[.int .i64 a0, .int .i64 a1] w fun e w' => e = .returned (.int .i64 r) ∧ Drawn0 w w' := by
  have H : (if a1 = 1 then (lustrumref02_Days.j0 k a0 a1 (a1 == 1)) else (if a1 = 3 then (lustrumref02_Days.j0 k a0 a1 (a1 == 3)) else (if a1 = 5 then (lustrumref02_Days.j0 k a0 a1 (a1 == 5)) else (if a1 = 7 then (lustrumref02_Days.j0 k a0 a1 (a1 == 7)) else (if a1 = 8 then (lustrumref02_Days.j0 k a0 a1 (a1 == 8)) else (if a1 = 10 then (lustrumref02_Days.j0 k a0 a1 (a1 == 10)) else (lustrumref02_Days.j0 k a0 a1 (a1 == 12)))))))) = some r := h
  clear h
  have HC3 := Aside0.mk H
  clear H
  go_enter Tryd.func17, Tryd.ntmps17
  go_upto_if 6 with (fail)
  go_cut [6] (fun v6 wc => ∃ (kq : Nat) (x6_2 : Bool), v6 = .bool x6_2 ∧ Aside0 (lustrumref02_Days.j0 kq a0 a1 x6_2 = some r) ∧ Aside0 (kq ≤ k) ∧ Drawn0 w wc)
  case first =>
    have H := HC3.out
    clear HC3
    by_cases c4 : a1 = 1
    · rw [if_pos c4] at H
      have c4b0 : (a1 == 1) = true := beq_iff_eq.mpr c4
      have c4b1 : (a1 != 1) = false := bne_eq_false_iff_eq.mpr c4
      clear c4
      (first | rw [c4b0] | (simp only [i64_w, i32_w]; rw [c4b0]) | skip)
      have H' := Aside0.mk H
      clear H
      go_wp2
      go_meet
      case rel => exact ⟨_, ((a1 == 1)), (by first | rfl | (simp; done) | (simp [*]; done)), H', ⟨by first | omega | exact Nat.le_refl _⟩, by repeat (first | exact Drawn0.refl _ | apply Drawn0.step)⟩
    · rw [if_neg c4] at H
      have c4b0 : (a1 == 1) = false := beq_eq_false_iff_ne.mpr c4
      have c4b1 : (a1 != 1) = true := bne_iff_ne.mpr c4
      (first | rw [c4b0] | (simp only [i64_w, i32_w]; rw [c4b0]) | skip)
      by_cases c5 : a1 = 3
      · rw [if_pos c5] at H
        have c5b0 : (a1 == 3) = true := beq_iff_eq.mpr c5
        have c5b1 : (a1 != 3) = false := bne_eq_false_iff_eq.mpr c5
        clear c5
        have H' := Aside0.mk H
        clear H
        go_wp2
        go_meet
        case rel => exact ⟨_, ((a1 == 3)), (by first | rfl | (simp; done) | (simp [*]; done)), H', ⟨by first | omega | exact Nat.le_refl _⟩, by repeat (first | exact Drawn0.refl _ | apply Drawn0.step)⟩
      · rw [if_neg c5] at H
        have c5b0 : (a1 == 3) = false := beq_eq_false_iff_ne.mpr c5
        have c5b1 : (a1 != 3) = true := bne_iff_ne.mpr c5
        by_cases c6 : a1 = 5
        · rw [if_pos c6] at H
          have c6b0 : (a1 == 5) = true := beq_iff_eq.mpr c6
          have c6b1 : (a1 != 5) = false := bne_eq_false_iff_eq.mpr c6
          clear c6
          have H' := Aside0.mk H
          clear H
          go_wp2
          go_meet
          case rel => exact ⟨_, ((a1 == 5)), (by first | rfl | (simp; done) | (simp [*]; done)), H', ⟨by first | omega | exact Nat.le_refl _⟩, by repeat (first | exact Drawn0.refl _ | apply Drawn0.step)⟩
        · rw [if_neg c6] at H
          have c6b0 : (a1 == 5) = false := beq_eq_false_iff_ne.mpr c6
          have c6b1 : (a1 != 5) = true := bne_iff_ne.mpr c6
          by_cases c7 : a1 = 7
          · rw [if_pos c7] at H
            have c7b0 : (a1 == 7) = true := beq_iff_eq.mpr c7
            have c7b1 : (a1 != 7) = false := bne_eq_false_iff_eq.mpr c7
            clear c7
            have H' := Aside0.mk H
            clear H
            go_wp2
            go_meet
            case rel => exact ⟨_, ((a1 == 7)), (by first | rfl | (simp; done) | (simp [*]; done)), H', ⟨by first | omega | exact Nat.le_refl _⟩, by repeat (first | exact Drawn0.refl _ | apply Drawn0.step)⟩
          · rw [if_neg c7] at H
            have c7b0 : (a1 == 7) = false := beq_eq_false_iff_ne.mpr c7
            have c7b1 : (a1 != 7) = true := bne_iff_ne.mpr c7
            by_cases c8 : a1 = 8
            · rw [if_pos c8] at H
              have c8b0 : (a1 == 8) = true := beq_iff_eq.mpr c8
              have c8b1 : (a1 != 8) = false := bne_eq_false_iff_eq.mpr c8
              clear c8
              have H' := Aside0.mk H
              clear H
              go_wp2
              go_meet
              case rel => exact ⟨_, ((a1 == 8)), (by first | rfl | (simp; done) | (simp [*]; done)), H', ⟨by first | omega | exact Nat.le_refl _⟩, by repeat (first | exact Drawn0.refl _ | apply Drawn0.step)⟩
            · rw [if_neg c8] at H
              have c8b0 : (a1 == 8) = false := beq_eq_false_iff_ne.mpr c8
              have c8b1 : (a1 != 8) = true := bne_iff_ne.mpr c8
              by_cases c9 : a1 = 10
              · rw [if_pos c9] at H
                have c9b0 : (a1 == 10) = true := beq_iff_eq.mpr c9
                have c9b1 : (a1 != 10) = false := bne_eq_false_iff_eq.mpr c9
                clear c9
                have H' := Aside0.mk H
                clear H
                go_wp2
                go_meet
                case rel => exact ⟨_, ((a1 == 10)), (by first | rfl | (simp; done) | (simp [*]; done)), H', ⟨by first | omega | exact Nat.le_refl _⟩, by repeat (first | exact Drawn0.refl _ | apply Drawn0.step)⟩
              · rw [if_neg c9] at H
                have c9b0 : (a1 == 10) = false := beq_eq_false_iff_ne.mpr c9
                have c9b1 : (a1 != 10) = true := bne_iff_ne.mpr c9
                have H' := Aside0.mk H
                clear H
                go_wp2
                go_meet
                case rel => exact ⟨_, ((a1 == 12)), (by first | rfl | (simp; done) | (simp [*]; done)), H', ⟨by first | omega | exact Nat.le_refl _⟩, by repeat (first | exact Drawn0.refl _ | apply Drawn0.step)⟩
  case rest =>
    clear HC3
    try clear c1
    try clear p2
    try clear c4
    try clear c4b0
    try clear c4b1
    try clear c5
    try clear c5b0
    try clear c5b1
    try clear c6
    try clear c6b0
    try clear c6b1
    try clear c7
    try clear c7b0
    try clear c7b1
    try clear c8
    try clear c8b0
    try clear c8b1
    try clear c9
    try clear c9b0
    try clear c9b1
    obtain ⟨kq, x6_2, rfl, HA, HJ2, ⟨mc2, rfl⟩⟩ := hcut
    cases kq with
    | zero => exact absurd HA.out (by simp [lustrumref02_Days.j0])
    | succ kj2 =>
      have H := HA.out
      clear HA
      simp only [lustrumref02_Days.j0] at H
      by_cases c10 : x6_2 = true
      · subst c10
        have H1 : (some 31) = some r := by rw [if_pos rfl] at H; exact H
        clear H
        have H := H1
        clear H1
        obtain rfl := Option.some.inj H
        go_wp2
        go_ret
        exact ⟨by first | rfl | (simp; done) | (simp [*]; done), by repeat (first | exact Drawn0.refl _ | apply Drawn0.step)⟩
      · replace c10 := Bool.eq_false_iff.mpr c10
        subst c10
        have H1 : (if a1 = 4 then (lustrumref02_Days.j1 kj2 a0 a1 (a1 == 4)) else (if a1 = 6 then (lustrumref02_Days.j1 kj2 a0 a1 (a1 == 6)) else (if a1 = 9 then (lustrumref02_Days.j1 kj2 a0 a1 (a1 == 9)) else (lustrumref02_Days.j1 kj2 a0 a1 (a1 == 11))))) = some r := by rw [if_neg (show ¬ (false = true) by decide)] at H; exact H
        clear H
        have H := H1
        clear H1
        have HC11 := Aside0.mk H
        clear H
        go_upto_if 14 with (fail)
        go_cut [14] (fun v14 wc => ∃ (kq : Nat) (x14_10 : Bool), v14 = .bool x14_10 ∧ Aside0 (lustrumref02_Days.j1 kq a0 a1 x14_10 = some r) ∧ Aside0 (kq ≤ kj2) ∧ Drawn0 w wc)
        case first =>
          have H := HC11.out
          clear HC11
          by_cases c12 : a1 = 4
          · rw [if_pos c12] at H
            have c12b0 : (a1 == 4) = true := beq_iff_eq.mpr c12
            have c12b1 : (a1 != 4) = false := bne_eq_false_iff_eq.mpr c12
            clear c12
            (first | rw [c12b0] | (simp only [i64_w, i32_w]; rw [c12b0]) | skip)
            have H' := Aside0.mk H
            clear H
            go_wp2
            go_meet
            case rel => exact ⟨_, ((a1 == 4)), (by first | rfl | (simp; done) | (simp [*]; done)), H', ⟨by have := HJ2.out; first | omega | exact Nat.le_refl _⟩, by repeat (first | exact Drawn0.refl _ | apply Drawn0.step)⟩
          · rw [if_neg c12] at H
            have c12b0 : (a1 == 4) = false := beq_eq_false_iff_ne.mpr c12
            have c12b1 : (a1 != 4) = true := bne_iff_ne.mpr c12
            (first | rw [c12b0] | (simp only [i64_w, i32_w]; rw [c12b0]) | skip)
            by_cases c13 : a1 = 6
            · rw [if_pos c13] at H
              have c13b0 : (a1 == 6) = true := beq_iff_eq.mpr c13
              have c13b1 : (a1 != 6) = false := bne_eq_false_iff_eq.mpr c13
              clear c13
              have H' := Aside0.mk H
              clear H
              go_wp2
              go_meet
              case rel => exact ⟨_, ((a1 == 6)), (by first | rfl | (simp; done) | (simp [*]; done)), H', ⟨by have := HJ2.out; first | omega | exact Nat.le_refl _⟩, by repeat (first | exact Drawn0.refl _ | apply Drawn0.step)⟩
            · rw [if_neg c13] at H
              have c13b0 : (a1 == 6) = false := beq_eq_false_iff_ne.mpr c13
              have c13b1 : (a1 != 6) = true := bne_iff_ne.mpr c13
              by_cases c14 : a1 = 9
              · rw [if_pos c14] at H
                have c14b0 : (a1 == 9) = true := beq_iff_eq.mpr c14
                have c14b1 : (a1 != 9) = false := bne_eq_false_iff_eq.mpr c14
                clear c14
                have H' := Aside0.mk H
                clear H
                go_wp2
                go_meet
                case rel => exact ⟨_, ((a1 == 9)), (by first | rfl | (simp; done) | (simp [*]; done)), H', ⟨by have := HJ2.out; first | omega | exact Nat.le_refl _⟩, by repeat (first | exact Drawn0.refl _ | apply Drawn0.step)⟩
              · rw [if_neg c14] at H
                have c14b0 : (a1 == 9) = false := beq_eq_false_iff_ne.mpr c14
                have c14b1 : (a1 != 9) = true := bne_iff_ne.mpr c14
                have H' := Aside0.mk H
                clear H
                go_wp2
                go_meet
                case rel => exact ⟨_, ((a1 == 11)), (by first | rfl | (simp; done) | (simp [*]; done)), H', ⟨by have := HJ2.out; first | omega | exact Nat.le_refl _⟩, by repeat (first | exact Drawn0.refl _ | apply Drawn0.step)⟩
        case rest =>
          clear HC11
          try clear c1
          try clear c2
          try clear p2
          try clear c4
          try clear c4b0
          try clear c4b1
          try clear c5
          try clear c5b0
          try clear c5b1
          try clear c6
          try clear c6b0
          try clear c6b1
          try clear c7
          try clear c7b0
          try clear c7b1
          try clear c8
          try clear c8b0
          try clear c8b1
          try clear c9
          try clear c9b0
          try clear c9b1
          try clear c10
          try clear c12
          try clear c12b0
          try clear c12b1
          try clear c13
          try clear c13b0
          try clear c13b1
          try clear c14
          try clear c14b0
          try clear c14b1
          try clear p2
          obtain ⟨kq, x14_10, rfl, HA, HJ10, ⟨mc10, rfl⟩⟩ := hcut
          cases kq with
          | zero => exact absurd HA.out (by simp [lustrumref02_Days.j1])
          | succ kj10 =>
            have H := HA.out
            clear HA
            simp only [lustrumref02_Days.j1] at H
            by_cases c15 : x14_10 = true
            · subst c15
              have H1 : (some 30) = some r := by rw [if_pos rfl] at H; exact H
              clear H
              have H := H1
              clear H1
              obtain rfl := Option.some.inj H
              go_wp2
              go_ret
              exact ⟨by first | rfl | (simp; done) | (simp [*]; done), by repeat (first | exact Drawn0.refl _ | apply Drawn0.step)⟩
            · replace c15 := Bool.eq_false_iff.mpr c15
              subst c15
              have H1 : (if a1 = 2 then ((lustrumref02_Leap.f a0).bind fun t119 => (if t119 = true then (some 29) else (some 28))) else (some 0)) = some r := by rw [if_neg (show ¬ (false = true) by decide)] at H; exact H
              clear H
              have H := H1
              clear H1
              by_cases c16 : a1 = 2
              · rw [if_pos c16] at H
                have c16b0 : (a1 == 2) = true := beq_iff_eq.mpr c16
                have c16b1 : (a1 != 2) = false := bne_eq_false_iff_eq.mpr c16
                clear c16
                replace H := Option.bind_eq_some_iff.mp H
                obtain ⟨t119, A170, H⟩ := H
                replace H : (if t119 = true then (some 29) else (some 28)) = some r := H
                have A17 := Aside0.mk A170
                clear A170
                by_cases c18 : t119 = true
                · subst c18
                  have H1 : (some 29) = some r := by rw [if_pos rfl] at H; exact H
                  clear H
                  have H := H1
                  clear H1
                  obtain rfl := Option.some.inj H
                  go_wp2_with (first | ((with_reducible refine gate_callee (f := 15) rfl ?_); refine goesL_ (some 22) rfl rfl Tryd.func15 (by kernel_rfl) rfl #[.int .i64 a0] rfl (by (try simp only [List.map_toArray, List.map_cons, List.map_nil]); first | done | rfl | (simp only [List.length_drop, List.length_take]; rfl)) ?_; (with_reducible refine (lustrumref02_Leap.calls a0 true _ A17.out).mono ?_); rintro e w' ⟨rfl, ⟨nd, rfl⟩⟩; refine ⟨_, rfl, ?_⟩))
                  go_ret
                  exact ⟨by first | rfl | (simp; done) | (simp [*]; done), by repeat (first | exact Drawn0.refl _ | apply Drawn0.step)⟩
                · replace c18 := Bool.eq_false_iff.mpr c18
                  subst c18
                  have H1 : (some 28) = some r := by rw [if_neg (show ¬ (false = true) by decide)] at H; exact H
                  clear H
                  have H := H1
                  clear H1
                  obtain rfl := Option.some.inj H
                  go_wp2_with (first | ((with_reducible refine gate_callee (f := 15) rfl ?_); refine goesL_ (some 22) rfl rfl Tryd.func15 (by kernel_rfl) rfl #[.int .i64 a0] rfl (by (try simp only [List.map_toArray, List.map_cons, List.map_nil]); first | done | rfl | (simp only [List.length_drop, List.length_take]; rfl)) ?_; (with_reducible refine (lustrumref02_Leap.calls a0 false _ A17.out).mono ?_); rintro e w' ⟨rfl, ⟨nd, rfl⟩⟩; refine ⟨_, rfl, ?_⟩))
                  go_ret
                  exact ⟨by first | rfl | (simp; done) | (simp [*]; done), by repeat (first | exact Drawn0.refl _ | apply Drawn0.step)⟩
              · rw [if_neg c16] at H
                have c16b0 : (a1 == 2) = false := beq_eq_false_iff_ne.mpr c16
                have c16b1 : (a1 != 2) = true := bne_iff_ne.mpr c16
                obtain rfl := Option.some.inj H
                go_wp2
                go_ret
                exact ⟨by first | rfl | (simp; done) | (simp [*]; done), by repeat (first | exact Drawn0.refl _ | apply Drawn0.step)⟩

/-! ### lustrumref02_Valid: function 19 -/
def lustrumref02_Valid.f (k : Nat) (a0 : Int) (a1 : Int) (a2 : Int) : Option (Bool) := if a0 ≥ 0 then (if a0 ≤ 9999 then (if a2 ≥ 1 then ((lustrumref02_Days.f k a0 a1).bind fun t120 => (some (decide (a2 ≤ t120)))) else (some false)) else (some false)) else (some false)
theorem lustrumref02_Valid.mono : ∀ a0 a1 a2 k, LeO (lustrumref02_Valid.f k a0 a1 a2) (lustrumref02_Valid.f (k + 1) a0 a1 a2) := by
  intro a0 a1 a2 k
  unfold lustrumref02_Valid.f
  repeat' first
      | (with_reducible exact lustrumref02_Days.mono _ _ _)
      | (with_reducible exact LeO.refl _)
      | (with_reducible exact LeO.none _)
      | (with_reducible refine LeO.ite ?_ ?_)
      | (with_reducible refine LeO.bind ?_ (fun _ => ?_))
      | exact lustrumref02_Days.mono _ _ _
      | exact LeO.none _
      | refine LeO.ite ?_ ?_
      | refine LeO.bind ?_ (fun _ => ?_)
set_option maxHeartbeats 8000000 in
set_option maxRecDepth 100000 in
theorem lustrumref02_Valid.calls (k : Nat) (a0 : Int) (a1 : Int) (a2 : Int) (r : Bool) (w : World) (h : lustrumref02_Valid.f k a0 a1 a2 = some r) :
    Calls Tryd.prog 19 #[.int .i64 a0, .int .i64 a1, .int .i64 a2] w fun e w' => e = .returned (.bool r) ∧ Drawn0 w w' := by
  have H : (if a0 ≥ 0 then (if a0 ≤ 9999 then (if a2 ≥ 1 then ((lustrumref02_Days.f k a0 a1).bind fun t120 => (some (decide (a2 ≤ t120)))) else (some false)) else (some false)) else (some false)) = some r := h
  clear h
  by_cases c4 : a0 ≥ 0
  · rw [if_pos c4] at H
    have c4b0 : decide (0 ≤ a0) = true := decide_eq_true c4
    clear c4
    by_cases c5 : a0 ≤ 9999
    · rw [if_pos c5] at H
      have c5b0 : decide (a0 ≤ 9999) = true := decide_eq_true c5
      clear c5
      by_cases c6 : a2 ≥ 1
      · rw [if_pos c6] at H
        have c6b0 : decide (1 ≤ a2) = true := decide_eq_true c6
        clear c6
        replace H := Option.bind_eq_some_iff.mp H
        obtain ⟨t120, A70, H⟩ := H
        replace H : (some (decide (a2 ≤ t120))) = some r := H
        have A7 := Aside0.mk A70
        clear A70
        obtain rfl := Option.some.inj H
        go_enter Tryd.func19, Tryd.ntmps19
        go_wp2_with (first | (go_at_call 17; (with_reducible refine (lustrumref02_Days.calls k a0 a1 t120 _ A7.out).mono ?_); rintro e w' ⟨rfl, ⟨nd, rfl⟩⟩))
        go_ret
        exact ⟨by first | rfl | (simp; done) | (simp [*]; done), by repeat (first | exact Drawn0.refl _ | apply Drawn0.step)⟩
      · rw [if_neg c6] at H
        have c6b0 : decide (1 ≤ a2) = false := decide_eq_false c6
        clear c6
        obtain rfl := Option.some.inj H
        go_enter Tryd.func19, Tryd.ntmps19
        go_wp2
        go_ret
        exact ⟨by first | rfl | (simp; done) | (simp [*]; done), by repeat (first | exact Drawn0.refl _ | apply Drawn0.step)⟩
    · rw [if_neg c5] at H
      have c5b0 : decide (a0 ≤ 9999) = false := decide_eq_false c5
      clear c5
      obtain rfl := Option.some.inj H
      go_enter Tryd.func19, Tryd.ntmps19
      go_wp2
      go_ret
      exact ⟨by first | rfl | (simp; done) | (simp [*]; done), by repeat (first | exact Drawn0.refl _ | apply Drawn0.step)⟩
  · rw [if_neg c4] at H
    have c4b0 : decide (0 ≤ a0) = false := decide_eq_false c4
    clear c4
    obtain rfl := Option.some.inj H
    go_enter Tryd.func19, Tryd.ntmps19
    go_wp2
    go_ret
    exact ⟨by first | rfl | (simp; done) | (simp [*]; done), by repeat (first | exact Drawn0.refl _ | apply Drawn0.step)⟩

/-! ### lustrumref02_start: function 33 -/
def lustrumref02_start.f (a0 : Int) : Option (Int) := some (wrap64 ((wrap64 ((wrap64 ((wrap64 (a0 * 365)) + (wrap64 (Int.tdiv (wrap64 (a0 + 3)) 4)))) - (wrap64 (Int.tdiv (wrap64 (a0 + 99)) 100)))) + (wrap64 (Int.tdiv (wrap64 (a0 + 399)) 400))))
set_option maxHeartbeats 8000000 in
set_option maxRecDepth 100000 in
theorem lustrumref02_start.calls (a0 : Int) (r : Int) (w : World) (h : lustrumref02_start.f a0 = some r) :
    Calls Tryd.prog 33 #[.int .i64 a0] w fun e w' => e = .returned (.int .i64 r) ∧ Drawn0 w w' := by
  have H : (some (wrap64 ((wrap64 ((wrap64 ((wrap64 (a0 * 365)) + (wrap64 (Int.tdiv (wrap64 (a0 + 3)) 4)))) - (wrap64 (Int.tdiv (wrap64 (a0 + 99)) 100)))) + (wrap64 (Int.tdiv (wrap64 (a0 + 399)) 400))))) = some r := h
  clear h
  obtain rfl := Option.some.inj H
  go_enter Tryd.func33, Tryd.ntmps33
  go_wp2
  go_ret
  exact ⟨by first | rfl | (simp; done) | (simp [*]; done), by repeat (first | exact Drawn0.refl _ | apply Drawn0.step)⟩

/-! ### lustrumref02_Number: function 11 -/
def lustrumref02_Number.l0 : Nat → Int → Int → Int → Int → Option (Int × Bool)
  | 0, _, _, _, _ => none
  | k + 1, x0, x1, x8, x9 => if x9 < x1 then ((lustrumref02_Days.f k x0 x9).bind fun t123 => (lustrumref02_Number.l0 k x0 x1 (wrap64 (x8 + t123)) (wrap64 (x9 + 1)))) else (some (x8, true))
def lustrumref02_Number.f (k : Nat) (a0 : Int) (a1 : Int) (a2 : Int) : Option (Int × Bool) := (lustrumref02_Valid.f k a0 a1 a2).bind fun t121 => (if t121 = true then ((lustrumref02_start.f a0).bind fun t122 => (lustrumref02_Number.l0 k a0 a1 (wrap64 ((wrap64 (t122 + a2)) - 1)) 1)) else (some (0, false)))
theorem lustrumref02_Number.mono_l : ∀ k, (∀ y0 y1 y2 y3, LeO (lustrumref02_Number.l0 k y0 y1 y2 y3) (lustrumref02_Number.l0 (k + 1) y0 y1 y2 y3))
  | 0 => fun _ _ _ _ r h => by simp [lustrumref02_Number.l0] at h
  | k + 1 => by
    have ih0 := lustrumref02_Number.mono_l k
    · intro y0 y1 y2 y3
      unfold lustrumref02_Number.l0
      repeat' first
      | (with_reducible exact ih0 _ _ _ _)
      | (with_reducible exact lustrumref02_Days.mono _ _ _)
      | (with_reducible exact lustrumref02_Valid.mono _ _ _ _)
      | (with_reducible exact LeO.refl _)
      | (with_reducible exact LeO.none _)
      | (with_reducible refine LeO.ite ?_ ?_)
      | (with_reducible refine LeO.bind ?_ (fun _ => ?_))
      | exact ih0 _ _ _ _
      | exact lustrumref02_Days.mono _ _ _
      | exact lustrumref02_Valid.mono _ _ _ _
      | exact LeO.none _
      | refine LeO.ite ?_ ?_
      | refine LeO.bind ?_ (fun _ => ?_)
theorem lustrumref02_Number.mono : ∀ a0 a1 a2 k, LeO (lustrumref02_Number.f k a0 a1 a2) (lustrumref02_Number.f (k + 1) a0 a1 a2) := by
  intro a0 a1 a2 k
  have ih0 := lustrumref02_Number.mono_l k
  unfold lustrumref02_Number.f
  repeat' first
      | (with_reducible exact ih0 _ _ _ _)
      | (with_reducible exact lustrumref02_Days.mono _ _ _)
      | (with_reducible exact lustrumref02_Valid.mono _ _ _ _)
      | (with_reducible exact LeO.refl _)
      | (with_reducible exact LeO.none _)
      | (with_reducible refine LeO.ite ?_ ?_)
      | (with_reducible refine LeO.bind ?_ (fun _ => ?_))
      | exact ih0 _ _ _ _
      | exact lustrumref02_Days.mono _ _ _
      | exact lustrumref02_Valid.mono _ _ _ _
      | exact LeO.none _
      | refine LeO.ite ?_ ?_
      | refine LeO.bind ?_ (fun _ => ?_)
set_option maxHeartbeats 8000000 in
set_option maxRecDepth 100000 in
theorem lustrumref02_Number.calls (k : Nat) (a0 : Int) (a1 : Int) (a2 : Int) (r1 : Int) (r2 : Bool) (w : World) (h : lustrumref02_Number.f k a0 a1 a2 = some (r1, r2)) :
    Calls Tryd.prog 11 #[.int .i64 a0, .int .i64 a1, .int .i64 a2] w fun e w' => e = .returned (.tuple #[.int .i64 r1, .bool r2]) ∧ Drawn0 w w' := by
  have H : ((lustrumref02_Valid.f k a0 a1 a2).bind fun t121 => (if t121 = true then ((lustrumref02_start.f a0).bind fun t122 => (lustrumref02_Number.l0 k a0 a1 (wrap64 ((wrap64 (t122 + a2)) - 1)) 1)) else (some (0, false)))) = some (r1, r2) := h
  clear h
  replace H := Option.bind_eq_some_iff.mp H
  obtain ⟨t121, A40, H⟩ := H
  replace H : (if t121 = true then ((lustrumref02_start.f a0).bind fun t122 => (lustrumref02_Number.l0 k a0 a1 (wrap64 ((wrap64 (t122 + a2)) - 1)) 1)) else (some (0, false))) = some (r1, r2) := H
  have A4 := Aside0.mk A40
  clear A40
  by_cases c5 : t121 = true
  · subst c5
    have H1 : ((lustrumref02_start.f a0).bind fun t122 => (lustrumref02_Number.l0 k a0 a1 (wrap64 ((wrap64 (t122 + a2)) - 1)) 1)) = some (r1, r2) := by rw [if_pos rfl] at H; exact H
    clear H
    have H := H1
    clear H1
    replace H := Option.bind_eq_some_iff.mp H
    obtain ⟨t122, A60, H⟩ := H
    replace H : (lustrumref02_Number.l0 k a0 a1 (wrap64 ((wrap64 (t122 + a2)) - 1)) 1) = some (r1, r2) := H
    have A6 := Aside0.mk A60
    clear A60
    have H' := Aside0.mk H
    clear H
    go_enter Tryd.func11, Tryd.ntmps11
    go_wp2_with (first | ((with_reducible refine gate_callee (f := 19) rfl ?_); refine goesL_ (some 13) rfl rfl Tryd.func19 (by kernel_rfl) rfl #[.int .i64 a0, .int .i64 a1, .int .i64 a2] rfl (by (try simp only [List.map_toArray, List.map_cons, List.map_nil]); first | done | rfl | (simp only [List.length_drop, List.length_take]; rfl)) ?_; (with_reducible refine (lustrumref02_Valid.calls k a0 a1 a2 true _ A4.out).mono ?_); rintro e w' ⟨rfl, ⟨nd, rfl⟩⟩; refine ⟨_, rfl, ?_⟩) | ((with_reducible refine gate_callee (f := 33) rfl ?_); refine goesL_ (some 16) rfl rfl Tryd.func33 (by kernel_rfl) rfl #[.int .i64 a0] rfl (by (try simp only [List.map_toArray, List.map_cons, List.map_nil]); first | done | rfl | (simp only [List.length_drop, List.length_take]; rfl)) ?_; (with_reducible refine (lustrumref02_start.calls a0 t122 _ A6.out).mono ?_); rintro e w' ⟨rfl, ⟨nd, rfl⟩⟩; refine ⟨_, rfl, ?_⟩))
    go_loopg [8, 9] k (fun kq v8 v9 w' => ∃ (x8_1 : Int) (x9_1 : Int), v8 = .int .i64 x8_1 ∧ v9 = .int .i64 x9_1 ∧ Aside0 (lustrumref02_Number.l0 kq a0 a1 x8_1 x9_1 = some (r1, r2)) ∧ Aside0 (kq ≤ k) ∧ Drawn0 w w')
    case atStart => exact ⟨(wrap64 ((wrap64 (t122 + a2)) - 1)), (1), (by first | rfl | (simp; done) | (simp [*]; done)), (by first | rfl | (simp; done) | (simp [*]; done)), H', ⟨Nat.le_refl _⟩, by repeat (first | exact Drawn0.refl _ | apply Drawn0.step)⟩
    case round =>
      clear H'
      try clear c1
      try clear p2
      try clear c3
      try clear c5
      try clear p6
      obtain ⟨x8_1, x9_1, rfl, rfl, HA, HK1, ⟨m1, rfl⟩⟩ := hrel
      cases gk with
      | zero => exact absurd HA.out (by simp [lustrumref02_Number.l0])
      | succ k1 =>
        have H := HA.out
        clear HA
        simp only [lustrumref02_Number.l0] at H
        by_cases c7 : x9_1 < a1
        · rw [if_pos c7] at H
          have c7b0 : decide (x9_1 < a1) = true := decide_eq_true c7
          clear c7
          replace H := Option.bind_eq_some_iff.mp H
          obtain ⟨t123, A80, H⟩ := H
          replace H : (lustrumref02_Number.l0 k1 a0 a1 (wrap64 (x8_1 + t123)) (wrap64 (x9_1 + 1))) = some (r1, r2) := H
          have A8 := Aside0.mk A80
          clear A80
          have H' := Aside0.mk H
          clear H
          go_wp2_with (first | ((with_reducible refine gate_callee (f := 17) rfl ?_); refine goesL_ (some 28) rfl rfl Tryd.func17 (by kernel_rfl) rfl #[.int .i64 a0, .int .i64 x9_1] rfl (by (try simp only [List.map_toArray, List.map_cons, List.map_nil]); first | done | rfl | (simp only [List.length_drop, List.length_take]; rfl)) ?_; (with_reducible refine (lustrumref02_Days.calls k1 a0 x9_1 t123 _ A8.out).mono ?_); rintro e w' ⟨rfl, ⟨nd, rfl⟩⟩; refine ⟨_, rfl, ?_⟩))
          go_roundg k1
          case measure => have := HK1.out; omega
          case rel => exact ⟨(wrap64 (x8_1 + t123)), (wrap64 (x9_1 + 1)), (by first | rfl | (simp; done) | (simp [*]; done)), (by first | rfl | (simp; done) | (simp [*]; done)), H', ⟨by have := HK1.out; omega⟩, by repeat (first | exact Drawn0.refl _ | apply Drawn0.step)⟩
        · rw [if_neg c7] at H
          have c7b0 : decide (x9_1 < a1) = false := decide_eq_false c7
          clear c7
          simp only [Option.some.injEq, Prod.mk.injEq] at H
          obtain ⟨rfl, rfl⟩ := H
          go_wp2
          go_ret2
          exact ⟨by first | rfl | (simp; done) | (simp [*]; done), by repeat (first | exact Drawn0.refl _ | apply Drawn0.step)⟩
  · replace c5 := Bool.eq_false_iff.mpr c5
    subst c5
    have H1 : (some (0, false)) = some (r1, r2) := by rw [if_neg (show ¬ (false = true) by decide)] at H; exact H
    clear H
    have H := H1
    clear H1
    simp only [Option.some.injEq, Prod.mk.injEq] at H
    obtain ⟨rfl, rfl⟩ := H
    go_enter Tryd.func11, Tryd.ntmps11
    go_wp2_with (first | ((with_reducible refine gate_callee (f := 19) rfl ?_); refine goesL_ (some 13) rfl rfl Tryd.func19 (by kernel_rfl) rfl #[.int .i64 a0, .int .i64 a1, .int .i64 a2] rfl (by (try simp only [List.map_toArray, List.map_cons, List.map_nil]); first | done | rfl | (simp only [List.length_drop, List.length_take]; rfl)) ?_; (with_reducible refine (lustrumref02_Valid.calls k a0 a1 a2 false _ A4.out).mono ?_); rintro e w' ⟨rfl, ⟨nd, rfl⟩⟩; refine ⟨_, rfl, ?_⟩))
    go_ret2
    exact ⟨by first | rfl | (simp; done) | (simp [*]; done), by repeat (first | exact Drawn0.refl _ | apply Drawn0.step)⟩

/-! ### lustrumref03_Count: function 30 -/
def lustrumref03_Count.f (a0 : Int) : Option (Int) := if a0 = 0 then (some 3652425) else (if a0 = 1 then (some 120000) else (if a0 = 2 then (some 40000) else (if a0 = 3 then (some 10000) else (if a0 = 4 then (some 1000) else (if a0 = 5 then (some 100) else (some 0))))))
set_option maxHeartbeats 8000000 in
set_option maxRecDepth 100000 in
theorem lustrumref03_Count.calls (a0 : Int) (r : Int) (w : World) (h : lustrumref03_Count.f a0 = some r) :
    Calls Tryd.prog 30 #[.int .i64 a0] w fun e w' => e = .returned (.int .i64 r) ∧ Drawn0 w w' := by
  have H : (if a0 = 0 then (some 3652425) else (if a0 = 1 then (some 120000) else (if a0 = 2 then (some 40000) else (if a0 = 3 then (some 10000) else (if a0 = 4 then (some 1000) else (if a0 = 5 then (some 100) else (some 0))))))) = some r := h
  clear h
  by_cases c2 : a0 = 0
  · rw [if_pos c2] at H
    have c2b0 : (a0 == 0) = true := beq_iff_eq.mpr c2
    have c2b1 : (a0 != 0) = false := bne_eq_false_iff_eq.mpr c2
    clear c2
    obtain rfl := Option.some.inj H
    go_enter Tryd.func30, Tryd.ntmps30
    go_wp2
    go_ret
    exact ⟨by first | rfl | (simp; done) | (simp [*]; done), by repeat (first | exact Drawn0.refl _ | apply Drawn0.step)⟩
  · rw [if_neg c2] at H
    have c2b0 : (a0 == 0) = false := beq_eq_false_iff_ne.mpr c2
    have c2b1 : (a0 != 0) = true := bne_iff_ne.mpr c2
    by_cases c3 : a0 = 1
    · rw [if_pos c3] at H
      have c3b0 : (a0 == 1) = true := beq_iff_eq.mpr c3
      have c3b1 : (a0 != 1) = false := bne_eq_false_iff_eq.mpr c3
      clear c3
      obtain rfl := Option.some.inj H
      go_enter Tryd.func30, Tryd.ntmps30
      go_wp2
      go_ret
      exact ⟨by first | rfl | (simp; done) | (simp [*]; done), by repeat (first | exact Drawn0.refl _ | apply Drawn0.step)⟩
    · rw [if_neg c3] at H
      have c3b0 : (a0 == 1) = false := beq_eq_false_iff_ne.mpr c3
      have c3b1 : (a0 != 1) = true := bne_iff_ne.mpr c3
      by_cases c4 : a0 = 2
      · rw [if_pos c4] at H
        have c4b0 : (a0 == 2) = true := beq_iff_eq.mpr c4
        have c4b1 : (a0 != 2) = false := bne_eq_false_iff_eq.mpr c4
        clear c4
        obtain rfl := Option.some.inj H
        go_enter Tryd.func30, Tryd.ntmps30
        go_wp2
        go_ret
        exact ⟨by first | rfl | (simp; done) | (simp [*]; done), by repeat (first | exact Drawn0.refl _ | apply Drawn0.step)⟩
      · rw [if_neg c4] at H
        have c4b0 : (a0 == 2) = false := beq_eq_false_iff_ne.mpr c4
        have c4b1 : (a0 != 2) = true := bne_iff_ne.mpr c4
        by_cases c5 : a0 = 3
        · rw [if_pos c5] at H
          have c5b0 : (a0 == 3) = true := beq_iff_eq.mpr c5
          have c5b1 : (a0 != 3) = false := bne_eq_false_iff_eq.mpr c5
          clear c5
          obtain rfl := Option.some.inj H
          go_enter Tryd.func30, Tryd.ntmps30
          go_wp2
          go_ret
          exact ⟨by first | rfl | (simp; done) | (simp [*]; done), by repeat (first | exact Drawn0.refl _ | apply Drawn0.step)⟩
        · rw [if_neg c5] at H
          have c5b0 : (a0 == 3) = false := beq_eq_false_iff_ne.mpr c5
          have c5b1 : (a0 != 3) = true := bne_iff_ne.mpr c5
          by_cases c6 : a0 = 4
          · rw [if_pos c6] at H
            have c6b0 : (a0 == 4) = true := beq_iff_eq.mpr c6
            have c6b1 : (a0 != 4) = false := bne_eq_false_iff_eq.mpr c6
            clear c6
            obtain rfl := Option.some.inj H
            go_enter Tryd.func30, Tryd.ntmps30
            go_wp2
            go_ret
            exact ⟨by first | rfl | (simp; done) | (simp [*]; done), by repeat (first | exact Drawn0.refl _ | apply Drawn0.step)⟩
          · rw [if_neg c6] at H
            have c6b0 : (a0 == 4) = false := beq_eq_false_iff_ne.mpr c6
            have c6b1 : (a0 != 4) = true := bne_iff_ne.mpr c6
            by_cases c7 : a0 = 5
            · rw [if_pos c7] at H
              have c7b0 : (a0 == 5) = true := beq_iff_eq.mpr c7
              have c7b1 : (a0 != 5) = false := bne_eq_false_iff_eq.mpr c7
              clear c7
              obtain rfl := Option.some.inj H
              go_enter Tryd.func30, Tryd.ntmps30
              go_wp2
              go_ret
              exact ⟨by first | rfl | (simp; done) | (simp [*]; done), by repeat (first | exact Drawn0.refl _ | apply Drawn0.step)⟩
            · rw [if_neg c7] at H
              have c7b0 : (a0 == 5) = false := beq_eq_false_iff_ne.mpr c7
              have c7b1 : (a0 != 5) = true := bne_iff_ne.mpr c7
              obtain rfl := Option.some.inj H
              go_enter Tryd.func30, Tryd.ntmps30
              go_wp2
              go_ret
              exact ⟨by first | rfl | (simp; done) | (simp [*]; done), by repeat (first | exact Drawn0.refl _ | apply Drawn0.step)⟩

/-! ### lustrumref03_First: function 24 -/
def lustrumref03_First.j0 : Nat → Int → Int → Bool → Option (Int × Bool)
  | 0, _, _, _ => none
  | k + 1, x0, x1, x13 => if x13 = true then (some (0, false)) else (if x0 = 0 then (some (x1, true)) else (if x0 = 1 then ((lustrumref02_Number.f k (wrap64 (Int.tdiv x1 12)) (wrap64 ((Int.tmod x1 12) + 1)) 1).bind fun bt125 => (some (bt125.1, bt125.2))) else (if x0 = 2 then ((lustrumref02_Number.f k (wrap64 (Int.tdiv x1 4)) (wrap64 ((wrap64 ((Int.tmod x1 4) * 3)) + 3)) 1).bind fun bt127 => (some (bt127.1, bt127.2))) else (if x0 = 3 then ((lustrumref02_Number.f k x1 1 1).bind fun bt129 => (some (bt129.1, bt129.2))) else (if x0 = 4 then ((lustrumref02_Number.f k (wrap64 (x1 * 10)) 1 1).bind fun bt131 => (some (bt131.1, bt131.2))) else ((lustrumref02_Number.f k (wrap64 (x1 * 100)) 1 1).bind fun bt133 => (some (bt133.1, bt133.2))))))))
def lustrumref03_First.f (k : Nat) (a0 : Int) (a1 : Int) : Option (Int × Bool) := if a1 < 0 then (lustrumref03_First.j0 k a0 a1 true) else ((lustrumref03_Count.f a0).bind fun t124 => (lustrumref03_First.j0 k a0 a1 (decide (a1 ≥ t124))))
theorem lustrumref03_First.mono_l : ∀ k, (∀ y0 y1 y2, LeO (lustrumref03_First.j0 k y0 y1 y2) (lustrumref03_First.j0 (k + 1) y0 y1 y2))
  | 0 => fun _ _ _ r h => by simp [lustrumref03_First.j0] at h
  | k + 1 => by
    have ih0 := lustrumref03_First.mono_l k
    · intro y0 y1 y2
      unfold lustrumref03_First.j0
      repeat' first
      | (with_reducible exact ih0 _ _ _)
      | (with_reducible exact lustrumref02_Number.mono _ _ _ _)
      | (with_reducible exact LeO.refl _)
      | (with_reducible exact LeO.none _)
      | (with_reducible refine LeO.ite ?_ ?_)
      | (with_reducible refine LeO.bind ?_ (fun _ => ?_))
      | exact ih0 _ _ _
      | exact lustrumref02_Number.mono _ _ _ _
      | exact LeO.none _
      | refine LeO.ite ?_ ?_
      | refine LeO.bind ?_ (fun _ => ?_)
theorem lustrumref03_First.mono : ∀ a0 a1 k, LeO (lustrumref03_First.f k a0 a1) (lustrumref03_First.f (k + 1) a0 a1) := by
  intro a0 a1 k
  have ih0 := lustrumref03_First.mono_l k
  unfold lustrumref03_First.f
  repeat' first
      | (with_reducible exact ih0 _ _ _)
      | (with_reducible exact lustrumref02_Number.mono _ _ _ _)
      | (with_reducible exact LeO.refl _)
      | (with_reducible exact LeO.none _)
      | (with_reducible refine LeO.ite ?_ ?_)
      | (with_reducible refine LeO.bind ?_ (fun _ => ?_))
      | exact ih0 _ _ _
      | exact lustrumref02_Number.mono _ _ _ _
      | exact LeO.none _
      | refine LeO.ite ?_ ?_
      | refine LeO.bind ?_ (fun _ => ?_)
set_option maxHeartbeats 8000000 in
set_option maxRecDepth 100000 in
theorem lustrumref03_First.calls (k : Nat) (a0 : Int) (a1 : Int) (r1 : Int) (r2 : Bool) (w : World) (h : lustrumref03_First.f k a0 a1 = some (r1, r2)) :
    Calls Tryd.prog 24 #[.int .i64 a0, .int .i64 a1] w fun e w' => e = .returned (.tuple #[.int .i64 r1, .bool r2]) ∧ Drawn0 w w' := by
  have H : (if a1 < 0 then (lustrumref03_First.j0 k a0 a1 true) else ((lustrumref03_Count.f a0).bind fun t124 => (lustrumref03_First.j0 k a0 a1 (decide (a1 ≥ t124))))) = some (r1, r2) := h
  clear h
  have HC3 := Aside0.mk H
  clear H
  go_enter Tryd.func24, Tryd.ntmps24
  go_upto_region 1 with (fail)
  go_cut [13] (fun v13 wc => ∃ (kq : Nat) (x13_2 : Bool), v13 = .bool x13_2 ∧ Aside0 (lustrumref03_First.j0 kq a0 a1 x13_2 = some (r1, r2)) ∧ Aside0 (kq ≤ k) ∧ Drawn0 w wc)
  case first =>
    have H := HC3.out
    clear HC3
    by_cases c4 : a1 < 0
    · rw [if_pos c4] at H
      have c4b0 : decide (a1 < 0) = true := decide_eq_true c4
      clear c4
      (first | rw [c4b0] | (simp only [i64_w, i32_w]; rw [c4b0]) | skip)
      have H' := Aside0.mk H
      clear H
      go_wp2
      go_meet
      case rel => exact ⟨_, (true), (by first | rfl | (simp; done) | (simp [*]; done)), H', ⟨by first | omega | exact Nat.le_refl _⟩, by repeat (first | exact Drawn0.refl _ | apply Drawn0.step)⟩
    · rw [if_neg c4] at H
      have c4b0 : decide (a1 < 0) = false := decide_eq_false c4
      clear c4
      (first | rw [c4b0] | (simp only [i64_w, i32_w]; rw [c4b0]) | skip)
      replace H := Option.bind_eq_some_iff.mp H
      obtain ⟨t124, A50, H⟩ := H
      replace H : (lustrumref03_First.j0 k a0 a1 (decide (a1 ≥ t124))) = some (r1, r2) := H
      have A5 := Aside0.mk A50
      clear A50
      have H' := Aside0.mk H
      clear H
      go_wp2_with (first | (go_at_call 30; (with_reducible refine (lustrumref03_Count.calls a0 t124 _ A5.out).mono ?_); rintro e w' ⟨rfl, ⟨nd, rfl⟩⟩))
      go_meet
      case rel => exact ⟨_, (decide (a1 ≥ t124)), (by first | rfl | (simp; done) | (simp [*]; done)), H', ⟨by first | omega | exact Nat.le_refl _⟩, by repeat (first | exact Drawn0.refl _ | apply Drawn0.step)⟩
  case rest =>
    clear HC3
    try clear c2
    try clear p2
    try clear c4
    try clear c4b0
    obtain ⟨kq, x13_2, rfl, HA, HJ2, ⟨mc2, rfl⟩⟩ := hcut
    cases kq with
    | zero => exact absurd HA.out (by simp [lustrumref03_First.j0])
    | succ kj2 =>
      have H := HA.out
      clear HA
      simp only [lustrumref03_First.j0] at H
      by_cases c6 : x13_2 = true
      · subst c6
        have H1 : (some (0, false)) = some (r1, r2) := by rw [if_pos rfl] at H; exact H
        clear H
        have H := H1
        clear H1
        simp only [Option.some.injEq, Prod.mk.injEq] at H
        obtain ⟨rfl, rfl⟩ := H
        go_wp2
        go_ret2
        exact ⟨by first | rfl | (simp; done) | (simp [*]; done), by repeat (first | exact Drawn0.refl _ | apply Drawn0.step)⟩
      · replace c6 := Bool.eq_false_iff.mpr c6
        subst c6
        have H1 : (if a0 = 0 then (some (a1, true)) else (if a0 = 1 then ((lustrumref02_Number.f kj2 (wrap64 (Int.tdiv a1 12)) (wrap64 ((Int.tmod a1 12) + 1)) 1).bind fun bt125 => (some (bt125.1, bt125.2))) else (if a0 = 2 then ((lustrumref02_Number.f kj2 (wrap64 (Int.tdiv a1 4)) (wrap64 ((wrap64 ((Int.tmod a1 4) * 3)) + 3)) 1).bind fun bt127 => (some (bt127.1, bt127.2))) else (if a0 = 3 then ((lustrumref02_Number.f kj2 a1 1 1).bind fun bt129 => (some (bt129.1, bt129.2))) else (if a0 = 4 then ((lustrumref02_Number.f kj2 (wrap64 (a1 * 10)) 1 1).bind fun bt131 => (some (bt131.1, bt131.2))) else ((lustrumref02_Number.f kj2 (wrap64 (a1 * 100)) 1 1).bind fun bt133 => (some (bt133.1, bt133.2)))))))) = some (r1, r2) := by rw [if_neg (show ¬ (false = true) by decide)] at H; exact H
        clear H
        have H := H1
        clear H1
        by_cases c7 : a0 = 0
        · rw [if_pos c7] at H
          have c7b0 : (a0 == 0) = true := beq_iff_eq.mpr c7
          have c7b1 : (a0 != 0) = false := bne_eq_false_iff_eq.mpr c7
          clear c7
          simp only [Option.some.injEq, Prod.mk.injEq] at H
          obtain ⟨rfl, rfl⟩ := H
          go_wp2
          go_ret2
          exact ⟨by first | rfl | (simp; done) | (simp [*]; done), by repeat (first | exact Drawn0.refl _ | apply Drawn0.step)⟩
        · rw [if_neg c7] at H
          have c7b0 : (a0 == 0) = false := beq_eq_false_iff_ne.mpr c7
          have c7b1 : (a0 != 0) = true := bne_iff_ne.mpr c7
          by_cases c8 : a0 = 1
          · rw [if_pos c8] at H
            have c8b0 : (a0 == 1) = true := beq_iff_eq.mpr c8
            have c8b1 : (a0 != 1) = false := bne_eq_false_iff_eq.mpr c8
            clear c8
            replace H := Option.bind_eq_some_iff.mp H
            obtain ⟨⟨t125, t126⟩, A90, H⟩ := H
            replace H : (some (t125, t126)) = some (r1, r2) := H
            have A9 := Aside0.mk A90
            clear A90
            simp only [Option.some.injEq, Prod.mk.injEq] at H
            obtain ⟨rfl, rfl⟩ := H
            go_wp2_with (first | ((with_reducible refine gate_callee (f := 11) rfl ?_); refine goesL_ (some 25) rfl rfl Tryd.func11 (by kernel_rfl) rfl #[.int .i64 (wrap64 (Int.tdiv a1 12)), .int .i64 (wrap64 ((Int.tmod a1 12) + 1)), .int .i64 1] rfl (by (try simp only [List.map_toArray, List.map_cons, List.map_nil]); first | done | rfl | (simp only [List.length_drop, List.length_take]; rfl)) ?_; (with_reducible refine (lustrumref02_Number.calls kj2 (wrap64 (Int.tdiv a1 12)) (wrap64 ((Int.tmod a1 12) + 1)) 1 t125 t126 _ A9.out).mono ?_); rintro e w' ⟨rfl, ⟨nd, rfl⟩⟩; refine ⟨_, rfl, ?_⟩))
            go_ret2
            exact ⟨by first | rfl | (simp; done) | (simp [*]; done), by repeat (first | exact Drawn0.refl _ | apply Drawn0.step)⟩
          · rw [if_neg c8] at H
            have c8b0 : (a0 == 1) = false := beq_eq_false_iff_ne.mpr c8
            have c8b1 : (a0 != 1) = true := bne_iff_ne.mpr c8
            by_cases c10 : a0 = 2
            · rw [if_pos c10] at H
              have c10b0 : (a0 == 2) = true := beq_iff_eq.mpr c10
              have c10b1 : (a0 != 2) = false := bne_eq_false_iff_eq.mpr c10
              clear c10
              replace H := Option.bind_eq_some_iff.mp H
              obtain ⟨⟨t127, t128⟩, A110, H⟩ := H
              replace H : (some (t127, t128)) = some (r1, r2) := H
              have A11 := Aside0.mk A110
              clear A110
              simp only [Option.some.injEq, Prod.mk.injEq] at H
              obtain ⟨rfl, rfl⟩ := H
              go_wp2_with (first | ((with_reducible refine gate_callee (f := 11) rfl ?_); refine goesL_ (some 36) rfl rfl Tryd.func11 (by kernel_rfl) rfl #[.int .i64 (wrap64 (Int.tdiv a1 4)), .int .i64 (wrap64 ((wrap64 ((Int.tmod a1 4) * 3)) + 3)), .int .i64 1] rfl (by (try simp only [List.map_toArray, List.map_cons, List.map_nil]); first | done | rfl | (simp only [List.length_drop, List.length_take]; rfl)) ?_; (with_reducible refine (lustrumref02_Number.calls kj2 (wrap64 (Int.tdiv a1 4)) (wrap64 ((wrap64 ((Int.tmod a1 4) * 3)) + 3)) 1 t127 t128 _ A11.out).mono ?_); rintro e w' ⟨rfl, ⟨nd, rfl⟩⟩; refine ⟨_, rfl, ?_⟩))
              go_ret2
              exact ⟨by first | rfl | (simp; done) | (simp [*]; done), by repeat (first | exact Drawn0.refl _ | apply Drawn0.step)⟩
            · rw [if_neg c10] at H
              have c10b0 : (a0 == 2) = false := beq_eq_false_iff_ne.mpr c10
              have c10b1 : (a0 != 2) = true := bne_iff_ne.mpr c10
              by_cases c12 : a0 = 3
              · rw [if_pos c12] at H
                have c12b0 : (a0 == 3) = true := beq_iff_eq.mpr c12
                have c12b1 : (a0 != 3) = false := bne_eq_false_iff_eq.mpr c12
                clear c12
                replace H := Option.bind_eq_some_iff.mp H
                obtain ⟨⟨t129, t130⟩, A130, H⟩ := H
                replace H : (some (t129, t130)) = some (r1, r2) := H
                have A13 := Aside0.mk A130
                clear A130
                simp only [Option.some.injEq, Prod.mk.injEq] at H
                obtain ⟨rfl, rfl⟩ := H
                go_wp2_with (first | ((with_reducible refine gate_callee (f := 11) rfl ?_); refine goesL_ (some 42) rfl rfl Tryd.func11 (by kernel_rfl) rfl #[.int .i64 a1, .int .i64 1, .int .i64 1] rfl (by (try simp only [List.map_toArray, List.map_cons, List.map_nil]); first | done | rfl | (simp only [List.length_drop, List.length_take]; rfl)) ?_; (with_reducible refine (lustrumref02_Number.calls kj2 a1 1 1 t129 t130 _ A13.out).mono ?_); rintro e w' ⟨rfl, ⟨nd, rfl⟩⟩; refine ⟨_, rfl, ?_⟩))
                go_ret2
                exact ⟨by first | rfl | (simp; done) | (simp [*]; done), by repeat (first | exact Drawn0.refl _ | apply Drawn0.step)⟩
              · rw [if_neg c12] at H
                have c12b0 : (a0 == 3) = false := beq_eq_false_iff_ne.mpr c12
                have c12b1 : (a0 != 3) = true := bne_iff_ne.mpr c12
                by_cases c14 : a0 = 4
                · rw [if_pos c14] at H
                  have c14b0 : (a0 == 4) = true := beq_iff_eq.mpr c14
                  have c14b1 : (a0 != 4) = false := bne_eq_false_iff_eq.mpr c14
                  clear c14
                  replace H := Option.bind_eq_some_iff.mp H
                  obtain ⟨⟨t131, t132⟩, A150, H⟩ := H
                  replace H : (some (t131, t132)) = some (r1, r2) := H
                  have A15 := Aside0.mk A150
                  clear A150
                  simp only [Option.some.injEq, Prod.mk.injEq] at H
                  obtain ⟨rfl, rfl⟩ := H
                  go_wp2_with (first | ((with_reducible refine gate_callee (f := 11) rfl ?_); refine goesL_ (some 49) rfl rfl Tryd.func11 (by kernel_rfl) rfl #[.int .i64 (wrap64 (a1 * 10)), .int .i64 1, .int .i64 1] rfl (by (try simp only [List.map_toArray, List.map_cons, List.map_nil]); first | done | rfl | (simp only [List.length_drop, List.length_take]; rfl)) ?_; (with_reducible refine (lustrumref02_Number.calls kj2 (wrap64 (a1 * 10)) 1 1 t131 t132 _ A15.out).mono ?_); rintro e w' ⟨rfl, ⟨nd, rfl⟩⟩; refine ⟨_, rfl, ?_⟩))
                  go_ret2
                  exact ⟨by first | rfl | (simp; done) | (simp [*]; done), by repeat (first | exact Drawn0.refl _ | apply Drawn0.step)⟩
                · rw [if_neg c14] at H
                  have c14b0 : (a0 == 4) = false := beq_eq_false_iff_ne.mpr c14
                  have c14b1 : (a0 != 4) = true := bne_iff_ne.mpr c14
                  replace H := Option.bind_eq_some_iff.mp H
                  obtain ⟨⟨t133, t134⟩, A160, H⟩ := H
                  replace H : (some (t133, t134)) = some (r1, r2) := H
                  have A16 := Aside0.mk A160
                  clear A160
                  simp only [Option.some.injEq, Prod.mk.injEq] at H
                  obtain ⟨rfl, rfl⟩ := H
                  go_wp2_with (first | ((with_reducible refine gate_callee (f := 11) rfl ?_); refine goesL_ (some 54) rfl rfl Tryd.func11 (by kernel_rfl) rfl #[.int .i64 (wrap64 (a1 * 100)), .int .i64 1, .int .i64 1] rfl (by (try simp only [List.map_toArray, List.map_cons, List.map_nil]); first | done | rfl | (simp only [List.length_drop, List.length_take]; rfl)) ?_; (with_reducible refine (lustrumref02_Number.calls kj2 (wrap64 (a1 * 100)) 1 1 t133 t134 _ A16.out).mono ?_); rintro e w' ⟨rfl, ⟨nd, rfl⟩⟩; refine ⟨_, rfl, ?_⟩))
                  go_ret2
                  exact ⟨by first | rfl | (simp; done) | (simp [*]; done), by repeat (first | exact Drawn0.refl _ | apply Drawn0.step)⟩

/-! ### lustrumref03_Last: function 26 -/
def lustrumref03_Last.j0 : Nat → Int → Int → Bool → Option (Int × Bool)
  | 0, _, _, _ => none
  | k + 1, x0, x1, x15 => if x15 = true then (some (0, false)) else ((lustrumref03_First.f k x0 (wrap64 (x1 + 1))).bind fun bt136 => (if bt136.2 = true then (some (wrap64 (bt136.1 - 1), true)) else (some (3652424, true))))
def lustrumref03_Last.f (k : Nat) (a0 : Int) (a1 : Int) : Option (Int × Bool) := if a1 < 0 then (lustrumref03_Last.j0 k a0 a1 true) else ((lustrumref03_Count.f a0).bind fun t135 => (lustrumref03_Last.j0 k a0 a1 (decide (a1 ≥ t135))))
theorem lustrumref03_Last.mono_l : ∀ k, (∀ y0 y1 y2, LeO (lustrumref03_Last.j0 k y0 y1 y2) (lustrumref03_Last.j0 (k + 1) y0 y1 y2))
  | 0 => fun _ _ _ r h => by simp [lustrumref03_Last.j0] at h
  | k + 1 => by
    have ih0 := lustrumref03_Last.mono_l k
    · intro y0 y1 y2
      unfold lustrumref03_Last.j0
      repeat' first
      | (with_reducible exact ih0 _ _ _)
      | (with_reducible exact lustrumref03_First.mono _ _ _)
      | (with_reducible exact LeO.refl _)
      | (with_reducible exact LeO.none _)
      | (with_reducible refine LeO.ite ?_ ?_)
      | (with_reducible refine LeO.bind ?_ (fun _ => ?_))
      | exact ih0 _ _ _
      | exact lustrumref03_First.mono _ _ _
      | exact LeO.none _
      | refine LeO.ite ?_ ?_
      | refine LeO.bind ?_ (fun _ => ?_)
theorem lustrumref03_Last.mono : ∀ a0 a1 k, LeO (lustrumref03_Last.f k a0 a1) (lustrumref03_Last.f (k + 1) a0 a1) := by
  intro a0 a1 k
  have ih0 := lustrumref03_Last.mono_l k
  unfold lustrumref03_Last.f
  repeat' first
      | (with_reducible exact ih0 _ _ _)
      | (with_reducible exact lustrumref03_First.mono _ _ _)
      | (with_reducible exact LeO.refl _)
      | (with_reducible exact LeO.none _)
      | (with_reducible refine LeO.ite ?_ ?_)
      | (with_reducible refine LeO.bind ?_ (fun _ => ?_))
      | exact ih0 _ _ _
      | exact lustrumref03_First.mono _ _ _
      | exact LeO.none _
      | refine LeO.ite ?_ ?_
      | refine LeO.bind ?_ (fun _ => ?_)
set_option maxHeartbeats 8000000 in
set_option maxRecDepth 100000 in
theorem lustrumref03_Last.calls (k : Nat) (a0 : Int) (a1 : Int) (r1 : Int) (r2 : Bool) (w : World) (h : lustrumref03_Last.f k a0 a1 = some (r1, r2)) :
    Calls Tryd.prog 26 #[.int .i64 a0, .int .i64 a1] w fun e w' => e = .returned (.tuple #[.int .i64 r1, .bool r2]) ∧ Drawn0 w w' := by
  have H : (if a1 < 0 then (lustrumref03_Last.j0 k a0 a1 true) else ((lustrumref03_Count.f a0).bind fun t135 => (lustrumref03_Last.j0 k a0 a1 (decide (a1 ≥ t135))))) = some (r1, r2) := h
  clear h
  have HC3 := Aside0.mk H
  clear H
  go_enter Tryd.func26, Tryd.ntmps26
  go_upto_region 1 with (fail)
  go_cut [15] (fun v15 wc => ∃ (kq : Nat) (x15_2 : Bool), v15 = .bool x15_2 ∧ Aside0 (lustrumref03_Last.j0 kq a0 a1 x15_2 = some (r1, r2)) ∧ Aside0 (kq ≤ k) ∧ Drawn0 w wc)
  case first =>
    have H := HC3.out
    clear HC3
    by_cases c4 : a1 < 0
    · rw [if_pos c4] at H
      have c4b0 : decide (a1 < 0) = true := decide_eq_true c4
      clear c4
      (first | rw [c4b0] | (simp only [i64_w, i32_w]; rw [c4b0]) | skip)
      have H' := Aside0.mk H
      clear H
      go_wp2
      go_meet
      case rel => exact ⟨_, (true), (by first | rfl | (simp; done) | (simp [*]; done)), H', ⟨by first | omega | exact Nat.le_refl _⟩, by repeat (first | exact Drawn0.refl _ | apply Drawn0.step)⟩
    · rw [if_neg c4] at H
      have c4b0 : decide (a1 < 0) = false := decide_eq_false c4
      clear c4
      (first | rw [c4b0] | (simp only [i64_w, i32_w]; rw [c4b0]) | skip)
      replace H := Option.bind_eq_some_iff.mp H
      obtain ⟨t135, A50, H⟩ := H
      replace H : (lustrumref03_Last.j0 k a0 a1 (decide (a1 ≥ t135))) = some (r1, r2) := H
      have A5 := Aside0.mk A50
      clear A50
      have H' := Aside0.mk H
      clear H
      go_wp2_with (first | (go_at_call 30; (with_reducible refine (lustrumref03_Count.calls a0 t135 _ A5.out).mono ?_); rintro e w' ⟨rfl, ⟨nd, rfl⟩⟩))
      go_meet
      case rel => exact ⟨_, (decide (a1 ≥ t135)), (by first | rfl | (simp; done) | (simp [*]; done)), H', ⟨by first | omega | exact Nat.le_refl _⟩, by repeat (first | exact Drawn0.refl _ | apply Drawn0.step)⟩
  case rest =>
    clear HC3
    try clear c2
    try clear p2
    try clear c4
    try clear c4b0
    obtain ⟨kq, x15_2, rfl, HA, HJ2, ⟨mc2, rfl⟩⟩ := hcut
    cases kq with
    | zero => exact absurd HA.out (by simp [lustrumref03_Last.j0])
    | succ kj2 =>
      have H := HA.out
      clear HA
      simp only [lustrumref03_Last.j0] at H
      by_cases c6 : x15_2 = true
      · subst c6
        have H1 : (some (0, false)) = some (r1, r2) := by rw [if_pos rfl] at H; exact H
        clear H
        have H := H1
        clear H1
        simp only [Option.some.injEq, Prod.mk.injEq] at H
        obtain ⟨rfl, rfl⟩ := H
        go_wp2
        go_ret2
        exact ⟨by first | rfl | (simp; done) | (simp [*]; done), by repeat (first | exact Drawn0.refl _ | apply Drawn0.step)⟩
      · replace c6 := Bool.eq_false_iff.mpr c6
        subst c6
        have H1 : ((lustrumref03_First.f kj2 a0 (wrap64 (a1 + 1))).bind fun bt136 => (if bt136.2 = true then (some (wrap64 (bt136.1 - 1), true)) else (some (3652424, true)))) = some (r1, r2) := by rw [if_neg (show ¬ (false = true) by decide)] at H; exact H
        clear H
        have H := H1
        clear H1
        replace H := Option.bind_eq_some_iff.mp H
        obtain ⟨⟨t136, t137⟩, A70, H⟩ := H
        replace H : (if t137 = true then (some (wrap64 (t136 - 1), true)) else (some (3652424, true))) = some (r1, r2) := H
        have A7 := Aside0.mk A70
        clear A70
        by_cases c8 : t137 = true
        · subst c8
          have H1 : (some (wrap64 (t136 - 1), true)) = some (r1, r2) := by rw [if_pos rfl] at H; exact H
          clear H
          have H := H1
          clear H1
          simp only [Option.some.injEq, Prod.mk.injEq] at H
          obtain ⟨rfl, rfl⟩ := H
          go_wp2_with (first | ((with_reducible refine gate_callee (f := 24) rfl ?_); refine goesL_ (some 20) rfl rfl Tryd.func24 (by kernel_rfl) rfl #[.int .i64 a0, .int .i64 (wrap64 (a1 + 1))] rfl (by (try simp only [List.map_toArray, List.map_cons, List.map_nil]); first | done | rfl | (simp only [List.length_drop, List.length_take]; rfl)) ?_; (with_reducible refine (lustrumref03_First.calls kj2 a0 (wrap64 (a1 + 1)) t136 true _ A7.out).mono ?_); rintro e w' ⟨rfl, ⟨nd, rfl⟩⟩; refine ⟨_, rfl, ?_⟩))
          go_ret2
          exact ⟨by first | rfl | (simp; done) | (simp [*]; done), by repeat (first | exact Drawn0.refl _ | apply Drawn0.step)⟩
        · replace c8 := Bool.eq_false_iff.mpr c8
          subst c8
          have H1 : (some (3652424, true)) = some (r1, r2) := by rw [if_neg (show ¬ (false = true) by decide)] at H; exact H
          clear H
          have H := H1
          clear H1
          simp only [Option.some.injEq, Prod.mk.injEq] at H
          obtain ⟨rfl, rfl⟩ := H
          go_wp2_with (first | ((with_reducible refine gate_callee (f := 24) rfl ?_); refine goesL_ (some 20) rfl rfl Tryd.func24 (by kernel_rfl) rfl #[.int .i64 a0, .int .i64 (wrap64 (a1 + 1))] rfl (by (try simp only [List.map_toArray, List.map_cons, List.map_nil]); first | done | rfl | (simp only [List.length_drop, List.length_take]; rfl)) ?_; (with_reducible refine (lustrumref03_First.calls kj2 a0 (wrap64 (a1 + 1)) t136 false _ A7.out).mono ?_); rintro e w' ⟨rfl, ⟨nd, rfl⟩⟩; refine ⟨_, rfl, ?_⟩))
          go_ret2
          exact ⟨by first | rfl | (simp; done) | (simp [*]; done), by repeat (first | exact Drawn0.refl _ | apply Drawn0.step)⟩

/-! ### lustrumref02_Date: function 13 -/
mutual
def lustrumref02_Date.j0 : Nat → Int → Bool → Option (Int × Int × Int)
  | 0, _, _ => none
  | k + 1, x0, x13 => if x13 = true then (some (0, 0, 0)) else (lustrumref02_Date.l0 k x0 (wrap64 (Int.tdiv x0 366)))
def lustrumref02_Date.l0 : Nat → Int → Int → Option (Int × Int × Int)
  | 0, _, _ => none
  | k + 1, x0, x5 => (lustrumref02_start.f (wrap64 (x5 + 1))).bind fun t138 => (if t138 ≤ x0 then (lustrumref02_Date.l0 k x0 (wrap64 (x5 + 1))) else ((lustrumref02_start.f x5).bind fun t139 => (lustrumref02_Date.l1 k x5 (wrap64 (x0 - t139)) 1)))
def lustrumref02_Date.l1 : Nat → Int → Int → Int → Option (Int × Int × Int)
  | 0, _, _, _ => none
  | k + 1, x5, x6, x7 => (lustrumref02_Days.f k x5 x7).bind fun t140 => (if x6 ≥ t140 then ((lustrumref02_Days.f k x5 x7).bind fun t141 => (lustrumref02_Date.l1 k x5 (wrap64 (x6 - t141)) (wrap64 (x7 + 1)))) else (some (x5, x7, wrap64 (x6 + 1))))
end
def lustrumref02_Date.f (k : Nat) (a0 : Int) : Option (Int × Int × Int) := if a0 < 0 then (lustrumref02_Date.j0 k a0 true) else (lustrumref02_Date.j0 k a0 (decide (a0 > 3652424)))
theorem lustrumref02_Date.mono_l : ∀ k, (∀ y0 y1, LeO (lustrumref02_Date.j0 k y0 y1) (lustrumref02_Date.j0 (k + 1) y0 y1)) ∧ (∀ y0 y1, LeO (lustrumref02_Date.l0 k y0 y1) (lustrumref02_Date.l0 (k + 1) y0 y1)) ∧ (∀ y0 y1 y2, LeO (lustrumref02_Date.l1 k y0 y1 y2) (lustrumref02_Date.l1 (k + 1) y0 y1 y2))
  | 0 => ⟨fun _ _ r h => by simp [lustrumref02_Date.j0] at h, fun _ _ r h => by simp [lustrumref02_Date.l0] at h, fun _ _ _ r h => by simp [lustrumref02_Date.l1] at h⟩
  | k + 1 => by
    obtain ⟨ih0, ih1, ih2⟩ := lustrumref02_Date.mono_l k
    refine ⟨?_, ?_, ?_⟩
    · intro y0 y1
      unfold lustrumref02_Date.j0
      repeat' first
      | (with_reducible exact ih0 _ _)
      | (with_reducible exact ih1 _ _)
      | (with_reducible exact ih2 _ _ _)
      | (with_reducible exact lustrumref02_Days.mono _ _ _)
      | (with_reducible exact LeO.refl _)
      | (with_reducible exact LeO.none _)
      | (with_reducible refine LeO.ite ?_ ?_)
      | (with_reducible refine LeO.bind ?_ (fun _ => ?_))
      | exact ih0 _ _
      | exact ih1 _ _
      | exact ih2 _ _ _
      | exact lustrumref02_Days.mono _ _ _
      | exact LeO.none _
      | refine LeO.ite ?_ ?_
      | refine LeO.bind ?_ (fun _ => ?_)
    · intro y0 y1
      unfold lustrumref02_Date.l0
      repeat' first
      | (with_reducible exact ih0 _ _)
      | (with_reducible exact ih1 _ _)
      | (with_reducible exact ih2 _ _ _)
      | (with_reducible exact lustrumref02_Days.mono _ _ _)
      | (with_reducible exact LeO.refl _)
      | (with_reducible exact LeO.none _)
      | (with_reducible refine LeO.ite ?_ ?_)
      | (with_reducible refine LeO.bind ?_ (fun _ => ?_))
      | exact ih0 _ _
      | exact ih1 _ _
      | exact ih2 _ _ _
      | exact lustrumref02_Days.mono _ _ _
      | exact LeO.none _
      | refine LeO.ite ?_ ?_
      | refine LeO.bind ?_ (fun _ => ?_)
    · intro y0 y1 y2
      unfold lustrumref02_Date.l1
      repeat' first
      | (with_reducible exact ih0 _ _)
      | (with_reducible exact ih1 _ _)
      | (with_reducible exact ih2 _ _ _)
      | (with_reducible exact lustrumref02_Days.mono _ _ _)
      | (with_reducible exact LeO.refl _)
      | (with_reducible exact LeO.none _)
      | (with_reducible refine LeO.ite ?_ ?_)
      | (with_reducible refine LeO.bind ?_ (fun _ => ?_))
      | exact ih0 _ _
      | exact ih1 _ _
      | exact ih2 _ _ _
      | exact lustrumref02_Days.mono _ _ _
      | exact LeO.none _
      | refine LeO.ite ?_ ?_
      | refine LeO.bind ?_ (fun _ => ?_)
theorem lustrumref02_Date.mono : ∀ a0 k, LeO (lustrumref02_Date.f k a0) (lustrumref02_Date.f (k + 1) a0) := by
  intro a0 k
  obtain ⟨ih0, ih1, ih2⟩ := lustrumref02_Date.mono_l k
  unfold lustrumref02_Date.f
  repeat' first
      | (with_reducible exact ih0 _ _)
      | (with_reducible exact ih1 _ _)
      | (with_reducible exact ih2 _ _ _)
      | (with_reducible exact lustrumref02_Days.mono _ _ _)
      | (with_reducible exact LeO.refl _)
      | (with_reducible exact LeO.none _)
      | (with_reducible refine LeO.ite ?_ ?_)
      | (with_reducible refine LeO.bind ?_ (fun _ => ?_))
      | exact ih0 _ _
      | exact ih1 _ _
      | exact ih2 _ _ _
      | exact lustrumref02_Days.mono _ _ _
      | exact LeO.none _
      | refine LeO.ite ?_ ?_
      | refine LeO.bind ?_ (fun _ => ?_)
set_option maxHeartbeats 8000000 in
set_option maxRecDepth 100000 in
theorem lustrumref02_Date.calls (k : Nat) (a0 : Int) (r1 : Int) (r2 : Int) (r3 : Int) (w : World) (h : lustrumref02_Date.f k a0 = some (r1, r2, r3)) :
    Calls Tryd.prog 13 #[.int .i64 a0] w fun e w' => e = .returned (.tuple #[.int .i64 r1, .int .i64 r2, .int .i64 r3]) ∧ Drawn0 w w' := by
  have H : (if a0 < 0 then (lustrumref02_Date.j0 k a0 true) else (lustrumref02_Date.j0 k a0 (decide (a0 > 3652424)))) = some (r1, r2, r3) := h
  clear h
  have HC2 := Aside0.mk H
  clear H
  go_enter Tryd.func13, Tryd.ntmps13
  go_upto_region 1 with (fail)
  go_cut [13] (fun v13 wc => ∃ (kq : Nat) (x13_1 : Bool), v13 = .bool x13_1 ∧ Aside0 (lustrumref02_Date.j0 kq a0 x13_1 = some (r1, r2, r3)) ∧ Aside0 (kq ≤ k) ∧ Drawn0 w wc)
  case first =>
    have H := HC2.out
    clear HC2
    by_cases c3 : a0 < 0
    · rw [if_pos c3] at H
      have c3b0 : decide (a0 < 0) = true := decide_eq_true c3
      clear c3
      (first | rw [c3b0] | (simp only [i64_w, i32_w]; rw [c3b0]) | skip)
      have H' := Aside0.mk H
      clear H
      go_wp2
      go_meet
      case rel => exact ⟨_, (true), (by first | rfl | (simp; done) | (simp [*]; done)), H', ⟨by first | omega | exact Nat.le_refl _⟩, by repeat (first | exact Drawn0.refl _ | apply Drawn0.step)⟩
    · rw [if_neg c3] at H
      have c3b0 : decide (a0 < 0) = false := decide_eq_false c3
      clear c3
      (first | rw [c3b0] | (simp only [i64_w, i32_w]; rw [c3b0]) | skip)
      have H' := Aside0.mk H
      clear H
      go_wp2
      go_meet
      case rel => exact ⟨_, (decide (a0 > 3652424)), (by first | rfl | (simp; done) | (simp [*]; done)), H', ⟨by first | omega | exact Nat.le_refl _⟩, by repeat (first | exact Drawn0.refl _ | apply Drawn0.step)⟩
  case rest =>
    clear HC2
    try clear c1
    try clear p2
    try clear c3
    try clear c3b0
    obtain ⟨kq, x13_1, rfl, HA, HJ1, ⟨mc1, rfl⟩⟩ := hcut
    cases kq with
    | zero => exact absurd HA.out (by simp [lustrumref02_Date.j0])
    | succ kj1 =>
      have H := HA.out
      clear HA
      simp only [lustrumref02_Date.j0] at H
      by_cases c4 : x13_1 = true
      · subst c4
        have H1 : (some (0, 0, 0)) = some (r1, r2, r3) := by rw [if_pos rfl] at H; exact H
        clear H
        have H := H1
        clear H1
        simp only [Option.some.injEq, Prod.mk.injEq] at H
        obtain ⟨rfl, rfl, rfl⟩ := H
        go_wp2
        go_ret3
        exact ⟨by first | rfl | (simp; done) | (simp [*]; done), by repeat (first | exact Drawn0.refl _ | apply Drawn0.step)⟩
      · replace c4 := Bool.eq_false_iff.mpr c4
        subst c4
        have H1 : (lustrumref02_Date.l0 kj1 a0 (wrap64 (Int.tdiv a0 366))) = some (r1, r2, r3) := by rw [if_neg (show ¬ (false = true) by decide)] at H; exact H
        clear H
        have H := H1
        clear H1
        have H' := Aside0.mk H
        clear H
        go_wp2
        go_loopg [5] kj1 (fun kq v5 w' => ∃ (x5_2 : Int), v5 = .int .i64 x5_2 ∧ Aside0 (lustrumref02_Date.l0 kq a0 x5_2 = some (r1, r2, r3)) ∧ Aside0 (kq ≤ kj1) ∧ Drawn0 w w')
        case atStart => exact ⟨(wrap64 (Int.tdiv a0 366)), (by first | rfl | (simp; done) | (simp [*]; done)), H', ⟨Nat.le_refl _⟩, by repeat (first | exact Drawn0.refl _ | apply Drawn0.step)⟩
        case round =>
          clear H'
          try clear c1
          try clear p2
          try clear c3
          try clear c3b0
          try clear c4
          try clear p2
          obtain ⟨x5_2, rfl, HA, HK2, ⟨m2, rfl⟩⟩ := hrel
          cases gk with
          | zero => exact absurd HA.out (by simp [lustrumref02_Date.l0])
          | succ k2 =>
            have H := HA.out
            clear HA
            simp only [lustrumref02_Date.l0] at H
            replace H := Option.bind_eq_some_iff.mp H
            obtain ⟨t138, A50, H⟩ := H
            replace H : (if t138 ≤ a0 then (lustrumref02_Date.l0 k2 a0 (wrap64 (x5_2 + 1))) else ((lustrumref02_start.f x5_2).bind fun t139 => (lustrumref02_Date.l1 k2 x5_2 (wrap64 (a0 - t139)) 1))) = some (r1, r2, r3) := H
            have A5 := Aside0.mk A50
            clear A50
            by_cases c6 : t138 ≤ a0
            · rw [if_pos c6] at H
              have c6b0 : decide (t138 ≤ a0) = true := decide_eq_true c6
              clear c6
              have H' := Aside0.mk H
              clear H
              go_wp2_with (first | ((with_reducible refine gate_callee (f := 33) rfl ?_); refine goesL_ (some 18) rfl rfl Tryd.func33 (by kernel_rfl) rfl #[.int .i64 (wrap64 (x5_2 + 1))] rfl (by (try simp only [List.map_toArray, List.map_cons, List.map_nil]); first | done | rfl | (simp only [List.length_drop, List.length_take]; rfl)) ?_; (with_reducible refine (lustrumref02_start.calls (wrap64 (x5_2 + 1)) t138 _ A5.out).mono ?_); rintro e w' ⟨rfl, ⟨nd, rfl⟩⟩; refine ⟨_, rfl, ?_⟩))
              go_roundg k2
              case measure => have := HJ1.out; have := HK2.out; omega
              case rel => exact ⟨(wrap64 (x5_2 + 1)), (by first | rfl | (simp; done) | (simp [*]; done)), H', ⟨by have := HJ1.out; have := HK2.out; omega⟩, by repeat (first | exact Drawn0.refl _ | apply Drawn0.step)⟩
            · rw [if_neg c6] at H
              have c6b0 : decide (t138 ≤ a0) = false := decide_eq_false c6
              clear c6
              replace H := Option.bind_eq_some_iff.mp H
              obtain ⟨t139, A70, H⟩ := H
              replace H : (lustrumref02_Date.l1 k2 x5_2 (wrap64 (a0 - t139)) 1) = some (r1, r2, r3) := H
              have A7 := Aside0.mk A70
              clear A70
              have H' := Aside0.mk H
              clear H
              go_wp2_with (first | ((with_reducible refine gate_callee (f := 33) rfl ?_); refine goesL_ (some 18) rfl rfl Tryd.func33 (by kernel_rfl) rfl #[.int .i64 (wrap64 (x5_2 + 1))] rfl (by (try simp only [List.map_toArray, List.map_cons, List.map_nil]); first | done | rfl | (simp only [List.length_drop, List.length_take]; rfl)) ?_; (with_reducible refine (lustrumref02_start.calls (wrap64 (x5_2 + 1)) t138 _ A5.out).mono ?_); rintro e w' ⟨rfl, ⟨nd, rfl⟩⟩; refine ⟨_, rfl, ?_⟩) | ((with_reducible refine gate_callee (f := 33) rfl ?_); refine goesL_ (some 25) rfl rfl Tryd.func33 (by kernel_rfl) rfl #[.int .i64 x5_2] rfl (by (try simp only [List.map_toArray, List.map_cons, List.map_nil]); first | done | rfl | (simp only [List.length_drop, List.length_take]; rfl)) ?_; (with_reducible refine (lustrumref02_start.calls x5_2 t139 _ A7.out).mono ?_); rintro e w' ⟨rfl, ⟨nd, rfl⟩⟩; refine ⟨_, rfl, ?_⟩))
              go_loopg [6, 7] k2 (fun kq v6 v7 w' => ∃ (x6_3 : Int) (x7_3 : Int), v6 = .int .i64 x6_3 ∧ v7 = .int .i64 x7_3 ∧ Aside0 (lustrumref02_Date.l1 kq x5_2 x6_3 x7_3 = some (r1, r2, r3)) ∧ Aside0 (kq ≤ k2) ∧ Drawn0 w w')
              case atStart => exact ⟨(wrap64 (a0 - t139)), (1), (by first | rfl | (simp; done) | (simp [*]; done)), (by first | rfl | (simp; done) | (simp [*]; done)), H', ⟨Nat.le_refl _⟩, by repeat (first | exact Drawn0.refl _ | apply Drawn0.step)⟩
              case round =>
                clear H'
                try clear c1
                try clear p2
                try clear c3
                try clear c3b0
                try clear c4
                try clear c6
                try clear c6b0
                try clear p6
                try clear p2
                obtain ⟨x6_3, x7_3, rfl, rfl, HA, HK3, ⟨m3, rfl⟩⟩ := hrel
                cases gk with
                | zero => exact absurd HA.out (by simp [lustrumref02_Date.l1])
                | succ k3 =>
                  have H := HA.out
                  clear HA
                  simp only [lustrumref02_Date.l1] at H
                  replace H := Option.bind_eq_some_iff.mp H
                  obtain ⟨t140, A80, H⟩ := H
                  replace H : (if x6_3 ≥ t140 then ((lustrumref02_Days.f k3 x5_2 x7_3).bind fun t141 => (lustrumref02_Date.l1 k3 x5_2 (wrap64 (x6_3 - t141)) (wrap64 (x7_3 + 1)))) else (some (x5_2, x7_3, wrap64 (x6_3 + 1)))) = some (r1, r2, r3) := H
                  have A8 := Aside0.mk A80
                  clear A80
                  by_cases c9 : x6_3 ≥ t140
                  · rw [if_pos c9] at H
                    have c9b0 : decide (t140 ≤ x6_3) = true := decide_eq_true c9
                    clear c9
                    replace H := Option.bind_eq_some_iff.mp H
                    obtain ⟨t141, A100, H⟩ := H
                    replace H : (lustrumref02_Date.l1 k3 x5_2 (wrap64 (x6_3 - t141)) (wrap64 (x7_3 + 1))) = some (r1, r2, r3) := H
                    have A10 := Aside0.mk A100
                    clear A100
                    have H' := Aside0.mk H
                    clear H
                    go_wp2_with (first | ((with_reducible refine gate_callee (f := 17) rfl ?_); refine goesL_ (some 30) rfl rfl Tryd.func17 (by kernel_rfl) rfl #[.int .i64 x5_2, .int .i64 x7_3] rfl (by (try simp only [List.map_toArray, List.map_cons, List.map_nil]); first | done | rfl | (simp only [List.length_drop, List.length_take]; rfl)) ?_; (with_reducible refine (lustrumref02_Days.calls k3 x5_2 x7_3 t140 _ A8.out).mono ?_); rintro e w' ⟨rfl, ⟨nd, rfl⟩⟩; refine ⟨_, rfl, ?_⟩) | ((with_reducible refine gate_callee (f := 17) rfl ?_); refine goesL_ (some 35) rfl rfl Tryd.func17 (by kernel_rfl) rfl #[.int .i64 x5_2, .int .i64 x7_3] rfl (by (try simp only [List.map_toArray, List.map_cons, List.map_nil]); first | done | rfl | (simp only [List.length_drop, List.length_take]; rfl)) ?_; (with_reducible refine (lustrumref02_Days.calls k3 x5_2 x7_3 t141 _ A10.out).mono ?_); rintro e w' ⟨rfl, ⟨nd, rfl⟩⟩; refine ⟨_, rfl, ?_⟩))
                    go_roundg k3
                    case measure => have := HJ1.out; have := HK2.out; have := HK3.out; omega
                    case rel => exact ⟨(wrap64 (x6_3 - t141)), (wrap64 (x7_3 + 1)), (by first | rfl | (simp; done) | (simp [*]; done)), (by first | rfl | (simp; done) | (simp [*]; done)), H', ⟨by have := HJ1.out; have := HK2.out; have := HK3.out; omega⟩, by repeat (first | exact Drawn0.refl _ | apply Drawn0.step)⟩
                  · rw [if_neg c9] at H
                    have c9b0 : decide (t140 ≤ x6_3) = false := decide_eq_false c9
                    clear c9
                    simp only [Option.some.injEq, Prod.mk.injEq] at H
                    obtain ⟨rfl, rfl, rfl⟩ := H
                    go_wp2_with (first | ((with_reducible refine gate_callee (f := 17) rfl ?_); refine goesL_ (some 30) rfl rfl Tryd.func17 (by kernel_rfl) rfl #[.int .i64 x5_2, .int .i64 x7_3] rfl (by (try simp only [List.map_toArray, List.map_cons, List.map_nil]); first | done | rfl | (simp only [List.length_drop, List.length_take]; rfl)) ?_; (with_reducible refine (lustrumref02_Days.calls k3 x5_2 x7_3 t140 _ A8.out).mono ?_); rintro e w' ⟨rfl, ⟨nd, rfl⟩⟩; refine ⟨_, rfl, ?_⟩))
                    go_ret3
                    exact ⟨by first | rfl | (simp; done) | (simp [*]; done), by repeat (first | exact Drawn0.refl _ | apply Drawn0.step)⟩

/-! ### lustrumref03_Of: function 28 -/
def lustrumref03_Of.f (k : Nat) (a0 : Int) (a1 : Int) : Option (Int × Bool) := (lustrumref02_Date.f k a1).bind fun bt142 => (if bt142.2.1 = 0 then (some (0, false)) else (if a0 = 0 then (some (a1, true)) else (if a0 = 1 then (some (wrap64 ((wrap64 ((wrap64 (bt142.1 * 12)) + bt142.2.1)) - 1), true)) else (if a0 = 2 then (some (mx (wrap64 ((wrap64 ((wrap64 (bt142.1 * 4)) + (wrap64 (Int.tdiv bt142.2.1 3)))) - 1)) 0, decide ((wrap64 ((wrap64 ((wrap64 (bt142.1 * 4)) + (wrap64 (Int.tdiv bt142.2.1 3)))) - 1)) ≥ 0))) else (if a0 = 3 then (some (bt142.1, true)) else (if a0 = 4 then (some (wrap64 (Int.tdiv bt142.1 10), true)) else (if a0 = 5 then (some (wrap64 (Int.tdiv bt142.1 100), true)) else (some (0, false)))))))))
theorem lustrumref03_Of.mono : ∀ a0 a1 k, LeO (lustrumref03_Of.f k a0 a1) (lustrumref03_Of.f (k + 1) a0 a1) := by
  intro a0 a1 k
  unfold lustrumref03_Of.f
  repeat' first
      | (with_reducible exact lustrumref02_Date.mono _ _)
      | (with_reducible exact LeO.refl _)
      | (with_reducible exact LeO.none _)
      | (with_reducible refine LeO.ite ?_ ?_)
      | (with_reducible refine LeO.bind ?_ (fun _ => ?_))
      | exact lustrumref02_Date.mono _ _
      | exact LeO.none _
      | refine LeO.ite ?_ ?_
      | refine LeO.bind ?_ (fun _ => ?_)
set_option maxHeartbeats 8000000 in
set_option maxRecDepth 100000 in
theorem lustrumref03_Of.calls (k : Nat) (a0 : Int) (a1 : Int) (r1 : Int) (r2 : Bool) (w : World) (h : lustrumref03_Of.f k a0 a1 = some (r1, r2)) :
    Calls Tryd.prog 28 #[.int .i64 a0, .int .i64 a1] w fun e w' => e = .returned (.tuple #[.int .i64 r1, .bool r2]) ∧ Below w.heap.size w w' := by
  have HB := Aside0.mk (Below.refl w.heap.size w)
  have H : ((lustrumref02_Date.f k a1).bind fun bt142 => (if bt142.2.1 = 0 then (some (0, false)) else (if a0 = 0 then (some (a1, true)) else (if a0 = 1 then (some (wrap64 ((wrap64 ((wrap64 (bt142.1 * 12)) + bt142.2.1)) - 1), true)) else (if a0 = 2 then (some (mx (wrap64 ((wrap64 ((wrap64 (bt142.1 * 4)) + (wrap64 (Int.tdiv bt142.2.1 3)))) - 1)) 0, decide ((wrap64 ((wrap64 ((wrap64 (bt142.1 * 4)) + (wrap64 (Int.tdiv bt142.2.1 3)))) - 1)) ≥ 0))) else (if a0 = 3 then (some (bt142.1, true)) else (if a0 = 4 then (some (wrap64 (Int.tdiv bt142.1 10), true)) else (if a0 = 5 then (some (wrap64 (Int.tdiv bt142.1 100), true)) else (some (0, false)))))))))) = some (r1, r2) := h
  clear h
  replace H := Option.bind_eq_some_iff.mp H
  obtain ⟨⟨t142, t143, t144⟩, A30, H⟩ := H
  replace H : (if t143 = 0 then (some (0, false)) else (if a0 = 0 then (some (a1, true)) else (if a0 = 1 then (some (wrap64 ((wrap64 ((wrap64 (t142 * 12)) + t143)) - 1), true)) else (if a0 = 2 then (some (mx (wrap64 ((wrap64 ((wrap64 (t142 * 4)) + (wrap64 (Int.tdiv t143 3)))) - 1)) 0, decide ((wrap64 ((wrap64 ((wrap64 (t142 * 4)) + (wrap64 (Int.tdiv t143 3)))) - 1)) ≥ 0))) else (if a0 = 3 then (some (t142, true)) else (if a0 = 4 then (some (wrap64 (Int.tdiv t142 10), true)) else (if a0 = 5 then (some (wrap64 (Int.tdiv t142 100), true)) else (some (0, false))))))))) = some (r1, r2) := H
  have A3 := Aside0.mk A30
  clear A30
  by_cases c4 : t143 = 0
  · rw [if_pos c4] at H
    have c4b0 : (t143 == 0) = true := beq_iff_eq.mpr c4
    have c4b1 : (t143 != 0) = false := bne_eq_false_iff_eq.mpr c4
    clear c4
    simp only [Option.some.injEq, Prod.mk.injEq] at H
    obtain ⟨rfl, rfl⟩ := H
    go_enter Tryd.func28, Tryd.ntmps28
    go_wp2_with (first | ((with_reducible refine gate_callee (f := 13) rfl ?_); refine goesL_ (some 12) rfl rfl Tryd.func13 (by kernel_rfl) rfl #[.int .i64 a1] rfl (by (try simp only [List.map_toArray, List.map_cons, List.map_nil]); first | done | rfl | (simp only [List.length_drop, List.length_take]; rfl)) ?_; (with_reducible refine (lustrumref02_Date.calls k a1 t142 t143 t144 _ A3.out).mono ?_); rintro e w' ⟨rfl, ⟨nd, rfl⟩⟩; refine ⟨_, rfl, ?_⟩))
    go_ret2
    exact ⟨by first | rfl | (simp [errW_none, errW_some] <;> rfl) | (simp [*, errW_none, errW_some] <;> rfl), by repeat (first | (with_reducible first | exact HB.out | apply below_alloc | apply pw_below_drewN | apply below_drew1) | exact HB.out)⟩
  · rw [if_neg c4] at H
    have c4b0 : (t143 == 0) = false := beq_eq_false_iff_ne.mpr c4
    have c4b1 : (t143 != 0) = true := bne_iff_ne.mpr c4
    by_cases c5 : a0 = 0
    · rw [if_pos c5] at H
      have c5b0 : (a0 == 0) = true := beq_iff_eq.mpr c5
      have c5b1 : (a0 != 0) = false := bne_eq_false_iff_eq.mpr c5
      clear c5
      simp only [Option.some.injEq, Prod.mk.injEq] at H
      obtain ⟨rfl, rfl⟩ := H
      go_enter Tryd.func28, Tryd.ntmps28
      go_wp2_with (first | ((with_reducible refine gate_callee (f := 13) rfl ?_); refine goesL_ (some 12) rfl rfl Tryd.func13 (by kernel_rfl) rfl #[.int .i64 a1] rfl (by (try simp only [List.map_toArray, List.map_cons, List.map_nil]); first | done | rfl | (simp only [List.length_drop, List.length_take]; rfl)) ?_; (with_reducible refine (lustrumref02_Date.calls k a1 t142 t143 t144 _ A3.out).mono ?_); rintro e w' ⟨rfl, ⟨nd, rfl⟩⟩; refine ⟨_, rfl, ?_⟩))
      go_ret2
      exact ⟨by first | rfl | (simp [errW_none, errW_some] <;> rfl) | (simp [*, errW_none, errW_some] <;> rfl), by repeat (first | (with_reducible first | exact HB.out | apply below_alloc | apply pw_below_drewN | apply below_drew1) | exact HB.out)⟩
    · rw [if_neg c5] at H
      have c5b0 : (a0 == 0) = false := beq_eq_false_iff_ne.mpr c5
      have c5b1 : (a0 != 0) = true := bne_iff_ne.mpr c5
      by_cases c6 : a0 = 1
      · rw [if_pos c6] at H
        have c6b0 : (a0 == 1) = true := beq_iff_eq.mpr c6
        have c6b1 : (a0 != 1) = false := bne_eq_false_iff_eq.mpr c6
        clear c6
        simp only [Option.some.injEq, Prod.mk.injEq] at H
        obtain ⟨rfl, rfl⟩ := H
        go_enter Tryd.func28, Tryd.ntmps28
        go_wp2_with (first | ((with_reducible refine gate_callee (f := 13) rfl ?_); refine goesL_ (some 12) rfl rfl Tryd.func13 (by kernel_rfl) rfl #[.int .i64 a1] rfl (by (try simp only [List.map_toArray, List.map_cons, List.map_nil]); first | done | rfl | (simp only [List.length_drop, List.length_take]; rfl)) ?_; (with_reducible refine (lustrumref02_Date.calls k a1 t142 t143 t144 _ A3.out).mono ?_); rintro e w' ⟨rfl, ⟨nd, rfl⟩⟩; refine ⟨_, rfl, ?_⟩))
        go_ret2
        exact ⟨by first | rfl | (simp [errW_none, errW_some] <;> rfl) | (simp [*, errW_none, errW_some] <;> rfl), by repeat (first | (with_reducible first | exact HB.out | apply below_alloc | apply pw_below_drewN | apply below_drew1) | exact HB.out)⟩
      · rw [if_neg c6] at H
        have c6b0 : (a0 == 1) = false := beq_eq_false_iff_ne.mpr c6
        have c6b1 : (a0 != 1) = true := bne_iff_ne.mpr c6
        by_cases c7 : a0 = 2
        · rw [if_pos c7] at H
          have c7b0 : (a0 == 2) = true := beq_iff_eq.mpr c7
          have c7b1 : (a0 != 2) = false := bne_eq_false_iff_eq.mpr c7
          clear c7
          obtain ⟨ji8, hji8⟩ : ∃ j_ : Int, (mx (wrap64 ((wrap64 ((wrap64 (t142 * 4)) + (wrap64 (Int.tdiv t143 3)))) - 1)) 0) = j_ := ⟨_, rfl⟩
          replace H : (some (ji8, decide ((wrap64 ((wrap64 ((wrap64 (t142 * 4)) + (wrap64 (Int.tdiv t143 3)))) - 1)) ≥ 0))) = some (r1, r2) := by first | (rw [hji8] at H; exact H) | (simp only [hji8] at H ⊢; exact H)
          (try rw [hji8] at A3)
          (try (have hji8l : 0 ≤ ji8 := by (rw [← hji8]; unfold mx; (repeat' split) <;> omega)))
          (try (have hji8m : 0 ≤ ji8 := by omega))
          have hji8_ : (if (wrap64 ((wrap64 ((wrap64 (t142 * 4)) + (wrap64 (Int.tdiv t143 3)))) - 1)) < 0 then 0 else (wrap64 ((wrap64 ((wrap64 (t142 * 4)) + (wrap64 (Int.tdiv t143 3)))) - 1))) = ji8 := hji8
          simp only [Option.some.injEq, Prod.mk.injEq] at H
          obtain ⟨rfl, rfl⟩ := H
          go_enter Tryd.func28, Tryd.ntmps28
          go_wp2_with (first | ((with_reducible refine gate_callee (f := 13) rfl ?_); refine goesL_ (some 12) rfl rfl Tryd.func13 (by kernel_rfl) rfl #[.int .i64 a1] rfl (by (try simp only [List.map_toArray, List.map_cons, List.map_nil]); first | done | rfl | (simp only [List.length_drop, List.length_take]; rfl)) ?_; (with_reducible refine (lustrumref02_Date.calls k a1 t142 t143 t144 _ A3.out).mono ?_); rintro e w' ⟨rfl, ⟨nd, rfl⟩⟩; refine ⟨_, rfl, ?_⟩))
          go_ret2
          exact ⟨by first | rfl | (simp [errW_none, errW_some] <;> rfl) | (simp only [← hji8]; first | rfl | (simp [errW_none, errW_some] <;> rfl)) | (simp [*, errW_none, errW_some] <;> rfl), by repeat (first | (with_reducible first | exact HB.out | apply below_alloc | apply pw_below_drewN | apply below_drew1) | exact HB.out)⟩
        · rw [if_neg c7] at H
          have c7b0 : (a0 == 2) = false := beq_eq_false_iff_ne.mpr c7
          have c7b1 : (a0 != 2) = true := bne_iff_ne.mpr c7
          by_cases c9 : a0 = 3
          · rw [if_pos c9] at H
            have c9b0 : (a0 == 3) = true := beq_iff_eq.mpr c9
            have c9b1 : (a0 != 3) = false := bne_eq_false_iff_eq.mpr c9
            clear c9
            simp only [Option.some.injEq, Prod.mk.injEq] at H
            obtain ⟨rfl, rfl⟩ := H
            go_enter Tryd.func28, Tryd.ntmps28
            go_wp2_with (first | ((with_reducible refine gate_callee (f := 13) rfl ?_); refine goesL_ (some 12) rfl rfl Tryd.func13 (by kernel_rfl) rfl #[.int .i64 a1] rfl (by (try simp only [List.map_toArray, List.map_cons, List.map_nil]); first | done | rfl | (simp only [List.length_drop, List.length_take]; rfl)) ?_; (with_reducible refine (lustrumref02_Date.calls k a1 t142 t143 t144 _ A3.out).mono ?_); rintro e w' ⟨rfl, ⟨nd, rfl⟩⟩; refine ⟨_, rfl, ?_⟩))
            go_ret2
            exact ⟨by first | rfl | (simp [errW_none, errW_some] <;> rfl) | (simp [*, errW_none, errW_some] <;> rfl), by repeat (first | (with_reducible first | exact HB.out | apply below_alloc | apply pw_below_drewN | apply below_drew1) | exact HB.out)⟩
          · rw [if_neg c9] at H
            have c9b0 : (a0 == 3) = false := beq_eq_false_iff_ne.mpr c9
            have c9b1 : (a0 != 3) = true := bne_iff_ne.mpr c9
            by_cases c10 : a0 = 4
            · rw [if_pos c10] at H
              have c10b0 : (a0 == 4) = true := beq_iff_eq.mpr c10
              have c10b1 : (a0 != 4) = false := bne_eq_false_iff_eq.mpr c10
              clear c10
              simp only [Option.some.injEq, Prod.mk.injEq] at H
              obtain ⟨rfl, rfl⟩ := H
              go_enter Tryd.func28, Tryd.ntmps28
              go_wp2_with (first | ((with_reducible refine gate_callee (f := 13) rfl ?_); refine goesL_ (some 12) rfl rfl Tryd.func13 (by kernel_rfl) rfl #[.int .i64 a1] rfl (by (try simp only [List.map_toArray, List.map_cons, List.map_nil]); first | done | rfl | (simp only [List.length_drop, List.length_take]; rfl)) ?_; (with_reducible refine (lustrumref02_Date.calls k a1 t142 t143 t144 _ A3.out).mono ?_); rintro e w' ⟨rfl, ⟨nd, rfl⟩⟩; refine ⟨_, rfl, ?_⟩))
              go_ret2
              exact ⟨by first | rfl | (simp [errW_none, errW_some] <;> rfl) | (simp [*, errW_none, errW_some] <;> rfl), by repeat (first | (with_reducible first | exact HB.out | apply below_alloc | apply pw_below_drewN | apply below_drew1) | exact HB.out)⟩
            · rw [if_neg c10] at H
              have c10b0 : (a0 == 4) = false := beq_eq_false_iff_ne.mpr c10
              have c10b1 : (a0 != 4) = true := bne_iff_ne.mpr c10
              by_cases c11 : a0 = 5
              · rw [if_pos c11] at H
                have c11b0 : (a0 == 5) = true := beq_iff_eq.mpr c11
                have c11b1 : (a0 != 5) = false := bne_eq_false_iff_eq.mpr c11
                clear c11
                simp only [Option.some.injEq, Prod.mk.injEq] at H
                obtain ⟨rfl, rfl⟩ := H
                go_enter Tryd.func28, Tryd.ntmps28
                go_wp2_with (first | ((with_reducible refine gate_callee (f := 13) rfl ?_); refine goesL_ (some 12) rfl rfl Tryd.func13 (by kernel_rfl) rfl #[.int .i64 a1] rfl (by (try simp only [List.map_toArray, List.map_cons, List.map_nil]); first | done | rfl | (simp only [List.length_drop, List.length_take]; rfl)) ?_; (with_reducible refine (lustrumref02_Date.calls k a1 t142 t143 t144 _ A3.out).mono ?_); rintro e w' ⟨rfl, ⟨nd, rfl⟩⟩; refine ⟨_, rfl, ?_⟩))
                go_ret2
                exact ⟨by first | rfl | (simp [errW_none, errW_some] <;> rfl) | (simp [*, errW_none, errW_some] <;> rfl), by repeat (first | (with_reducible first | exact HB.out | apply below_alloc | apply pw_below_drewN | apply below_drew1) | exact HB.out)⟩
              · rw [if_neg c11] at H
                have c11b0 : (a0 == 5) = false := beq_eq_false_iff_ne.mpr c11
                have c11b1 : (a0 != 5) = true := bne_iff_ne.mpr c11
                simp only [Option.some.injEq, Prod.mk.injEq] at H
                obtain ⟨rfl, rfl⟩ := H
                go_enter Tryd.func28, Tryd.ntmps28
                go_wp2_with (first | ((with_reducible refine gate_callee (f := 13) rfl ?_); refine goesL_ (some 12) rfl rfl Tryd.func13 (by kernel_rfl) rfl #[.int .i64 a1] rfl (by (try simp only [List.map_toArray, List.map_cons, List.map_nil]); first | done | rfl | (simp only [List.length_drop, List.length_take]; rfl)) ?_; (with_reducible refine (lustrumref02_Date.calls k a1 t142 t143 t144 _ A3.out).mono ?_); rintro e w' ⟨rfl, ⟨nd, rfl⟩⟩; refine ⟨_, rfl, ?_⟩))
                go_ret2
                exact ⟨by first | rfl | (simp [errW_none, errW_some] <;> rfl) | (simp [*, errW_none, errW_some] <;> rfl), by repeat (first | (with_reducible first | exact HB.out | apply below_alloc | apply pw_below_drewN | apply below_drew1) | exact HB.out)⟩

/-! ### lustrumlaw03_UnitIs: function 8 -/
def lustrumlaw03_UnitIs.f (k : Nat) (a0 : Int) (a1 : Int) (a2 : Int) : Option (Bool) := (lustrumlaw03_awake.f).bind fun t145 => ((unit_First.f a0 a1).bind fun bt146 => ((lustrumref03_First.f k a0 a1).bind fun bt148 => ((unit_Last.f a0 a1).bind fun bt150 => ((lustrumref03_Last.f k a0 a1).bind fun bt152 => ((unit_Of.f a0 a2).bind fun bt154 => ((lustrumref03_Of.f k a0 a2).bind fun bt156 => (if t145 = true then ((unit_Count.f a0).bind fun t158 => ((lustrumref03_Count.f a0).bind fun t159 => (if t158 = t159 then (if bt146.1 = bt148.1 then (if (bt146.2 == bt148.2) = true then (if bt150.1 = bt152.1 then (if (bt150.2 == bt152.2) = true then (if bt154.1 = bt156.1 then (some (bt154.2 == bt156.2)) else (some false)) else (some false)) else (some false)) else (some false)) else (some false)) else (some false)))) else (some false))))))))
theorem lustrumlaw03_UnitIs.mono : ∀ a0 a1 a2 k, LeO (lustrumlaw03_UnitIs.f k a0 a1 a2) (lustrumlaw03_UnitIs.f (k + 1) a0 a1 a2) := by
  intro a0 a1 a2 k
  unfold lustrumlaw03_UnitIs.f
  repeat' first
      | (with_reducible exact lustrumref03_First.mono _ _ _)
      | (with_reducible exact lustrumref03_Last.mono _ _ _)
      | (with_reducible exact lustrumref03_Of.mono _ _ _)
      | (with_reducible exact LeO.refl _)
      | (with_reducible exact LeO.none _)
      | (with_reducible refine LeO.ite ?_ ?_)
      | (with_reducible refine LeO.bind ?_ (fun _ => ?_))
      | exact lustrumref03_First.mono _ _ _
      | exact lustrumref03_Last.mono _ _ _
      | exact lustrumref03_Of.mono _ _ _
      | exact LeO.none _
      | refine LeO.ite ?_ ?_
      | refine LeO.bind ?_ (fun _ => ?_)
set_option maxHeartbeats 8000000 in
set_option maxRecDepth 100000 in
theorem lustrumlaw03_UnitIs.calls (k : Nat) (a0 : Int) (a1 : Int) (a2 : Int) (r : Bool) (w : World) (h : lustrumlaw03_UnitIs.f k a0 a1 a2 = some r) (hT : LenTab w) :
    Calls Tryd.prog 8 #[.int .i64 a0, .int .i64 a1, .int .i64 a2] w fun e w' => e = .returned (.bool r) ∧ Below w.heap.size w w' := by
  have HB := Aside0.mk (Below.refl w.heap.size w)
  have H : ((lustrumlaw03_awake.f).bind fun t145 => ((unit_First.f a0 a1).bind fun bt146 => ((lustrumref03_First.f k a0 a1).bind fun bt148 => ((unit_Last.f a0 a1).bind fun bt150 => ((lustrumref03_Last.f k a0 a1).bind fun bt152 => ((unit_Of.f a0 a2).bind fun bt154 => ((lustrumref03_Of.f k a0 a2).bind fun bt156 => (if t145 = true then ((unit_Count.f a0).bind fun t158 => ((lustrumref03_Count.f a0).bind fun t159 => (if t158 = t159 then (if bt146.1 = bt148.1 then (if (bt146.2 == bt148.2) = true then (if bt150.1 = bt152.1 then (if (bt150.2 == bt152.2) = true then (if bt154.1 = bt156.1 then (some (bt154.2 == bt156.2)) else (some false)) else (some false)) else (some false)) else (some false)) else (some false)) else (some false)))) else (some false))))))))) = some r := h
  clear h
  replace H := Option.bind_eq_some_iff.mp H
  obtain ⟨t145, A40, H⟩ := H
  replace H : ((unit_First.f a0 a1).bind fun bt146 => ((lustrumref03_First.f k a0 a1).bind fun bt148 => ((unit_Last.f a0 a1).bind fun bt150 => ((lustrumref03_Last.f k a0 a1).bind fun bt152 => ((unit_Of.f a0 a2).bind fun bt154 => ((lustrumref03_Of.f k a0 a2).bind fun bt156 => (if t145 = true then ((unit_Count.f a0).bind fun t158 => ((lustrumref03_Count.f a0).bind fun t159 => (if t158 = t159 then (if bt146.1 = bt148.1 then (if (bt146.2 == bt148.2) = true then (if bt150.1 = bt152.1 then (if (bt150.2 == bt152.2) = true then (if bt154.1 = bt156.1 then (some (bt154.2 == bt156.2)) else (some false)) else (some false)) else (some false)) else (some false)) else (some false)) else (some false)))) else (some false)))))))) = some r := H
  have A4 := Aside0.mk A40
  clear A40
  replace H := Option.bind_eq_some_iff.mp H
  obtain ⟨⟨t146, t147⟩, A50, H⟩ := H
  replace H : ((lustrumref03_First.f k a0 a1).bind fun bt148 => ((unit_Last.f a0 a1).bind fun bt150 => ((lustrumref03_Last.f k a0 a1).bind fun bt152 => ((unit_Of.f a0 a2).bind fun bt154 => ((lustrumref03_Of.f k a0 a2).bind fun bt156 => (if t145 = true then ((unit_Count.f a0).bind fun t158 => ((lustrumref03_Count.f a0).bind fun t159 => (if t158 = t159 then (if t146 = bt148.1 then (if (t147 == bt148.2) = true then (if bt150.1 = bt152.1 then (if (bt150.2 == bt152.2) = true then (if bt154.1 = bt156.1 then (some (bt154.2 == bt156.2)) else (some false)) else (some false)) else (some false)) else (some false)) else (some false)) else (some false)))) else (some false))))))) = some r := H
  have A5 := Aside0.mk A50
  clear A50
  replace H := Option.bind_eq_some_iff.mp H
  obtain ⟨⟨t148, t149⟩, A60, H⟩ := H
  replace H : ((unit_Last.f a0 a1).bind fun bt150 => ((lustrumref03_Last.f k a0 a1).bind fun bt152 => ((unit_Of.f a0 a2).bind fun bt154 => ((lustrumref03_Of.f k a0 a2).bind fun bt156 => (if t145 = true then ((unit_Count.f a0).bind fun t158 => ((lustrumref03_Count.f a0).bind fun t159 => (if t158 = t159 then (if t146 = t148 then (if (t147 == t149) = true then (if bt150.1 = bt152.1 then (if (bt150.2 == bt152.2) = true then (if bt154.1 = bt156.1 then (some (bt154.2 == bt156.2)) else (some false)) else (some false)) else (some false)) else (some false)) else (some false)) else (some false)))) else (some false)))))) = some r := H
  have A6 := Aside0.mk A60
  clear A60
  replace H := Option.bind_eq_some_iff.mp H
  obtain ⟨⟨t150, t151⟩, A70, H⟩ := H
  replace H : ((lustrumref03_Last.f k a0 a1).bind fun bt152 => ((unit_Of.f a0 a2).bind fun bt154 => ((lustrumref03_Of.f k a0 a2).bind fun bt156 => (if t145 = true then ((unit_Count.f a0).bind fun t158 => ((lustrumref03_Count.f a0).bind fun t159 => (if t158 = t159 then (if t146 = t148 then (if (t147 == t149) = true then (if t150 = bt152.1 then (if (t151 == bt152.2) = true then (if bt154.1 = bt156.1 then (some (bt154.2 == bt156.2)) else (some false)) else (some false)) else (some false)) else (some false)) else (some false)) else (some false)))) else (some false))))) = some r := H
  have A7 := Aside0.mk A70
  clear A70
  replace H := Option.bind_eq_some_iff.mp H
  obtain ⟨⟨t152, t153⟩, A80, H⟩ := H
  replace H : ((unit_Of.f a0 a2).bind fun bt154 => ((lustrumref03_Of.f k a0 a2).bind fun bt156 => (if t145 = true then ((unit_Count.f a0).bind fun t158 => ((lustrumref03_Count.f a0).bind fun t159 => (if t158 = t159 then (if t146 = t148 then (if (t147 == t149) = true then (if t150 = t152 then (if (t151 == t153) = true then (if bt154.1 = bt156.1 then (some (bt154.2 == bt156.2)) else (some false)) else (some false)) else (some false)) else (some false)) else (some false)) else (some false)))) else (some false)))) = some r := H
  have A8 := Aside0.mk A80
  clear A80
  replace H := Option.bind_eq_some_iff.mp H
  obtain ⟨⟨t154, t155⟩, A90, H⟩ := H
  replace H : ((lustrumref03_Of.f k a0 a2).bind fun bt156 => (if t145 = true then ((unit_Count.f a0).bind fun t158 => ((lustrumref03_Count.f a0).bind fun t159 => (if t158 = t159 then (if t146 = t148 then (if (t147 == t149) = true then (if t150 = t152 then (if (t151 == t153) = true then (if t154 = bt156.1 then (some (t155 == bt156.2)) else (some false)) else (some false)) else (some false)) else (some false)) else (some false)) else (some false)))) else (some false))) = some r := H
  have A9 := Aside0.mk A90
  clear A90
  replace H := Option.bind_eq_some_iff.mp H
  obtain ⟨⟨t156, t157⟩, A100, H⟩ := H
  replace H : (if t145 = true then ((unit_Count.f a0).bind fun t158 => ((lustrumref03_Count.f a0).bind fun t159 => (if t158 = t159 then (if t146 = t148 then (if (t147 == t149) = true then (if t150 = t152 then (if (t151 == t153) = true then (if t154 = t156 then (some (t155 == t157)) else (some false)) else (some false)) else (some false)) else (some false)) else (some false)) else (some false)))) else (some false)) = some r := H
  have A10 := Aside0.mk A100
  clear A100
  by_cases c11 : t145 = true
  · subst c11
    have H1 : ((unit_Count.f a0).bind fun t158 => ((lustrumref03_Count.f a0).bind fun t159 => (if t158 = t159 then (if t146 = t148 then (if (t147 == t149) = true then (if t150 = t152 then (if (t151 == t153) = true then (if t154 = t156 then (some (t155 == t157)) else (some false)) else (some false)) else (some false)) else (some false)) else (some false)) else (some false)))) = some r := by rw [if_pos rfl] at H; exact H
    clear H
    have H := H1
    clear H1
    replace H := Option.bind_eq_some_iff.mp H
    obtain ⟨t158, A120, H⟩ := H
    replace H : ((lustrumref03_Count.f a0).bind fun t159 => (if t158 = t159 then (if t146 = t148 then (if (t147 == t149) = true then (if t150 = t152 then (if (t151 == t153) = true then (if t154 = t156 then (some (t155 == t157)) else (some false)) else (some false)) else (some false)) else (some false)) else (some false)) else (some false))) = some r := H
    have A12 := Aside0.mk A120
    clear A120
    replace H := Option.bind_eq_some_iff.mp H
    obtain ⟨t159, A130, H⟩ := H
    replace H : (if t158 = t159 then (if t146 = t148 then (if (t147 == t149) = true then (if t150 = t152 then (if (t151 == t153) = true then (if t154 = t156 then (some (t155 == t157)) else (some false)) else (some false)) else (some false)) else (some false)) else (some false)) else (some false)) = some r := H
    have A13 := Aside0.mk A130
    clear A130
    by_cases c14 : t158 = t159
    · rw [if_pos c14] at H
      have c14b0 : (t158 == t159) = true := beq_iff_eq.mpr c14
      have c14b1 : (t158 != t159) = false := bne_eq_false_iff_eq.mpr c14
      clear c14
      by_cases c15 : t146 = t148
      · rw [if_pos c15] at H
        have c15b0 : (t146 == t148) = true := beq_iff_eq.mpr c15
        have c15b1 : (t146 != t148) = false := bne_eq_false_iff_eq.mpr c15
        clear c15
        by_cases c16 : (t147 == t149) = true
        · rw [if_pos c16] at H
          have c16b0 : (t147 == t149) = true := c16
          (try (have c16b1 : decide (t147 = t149) = true := by simpa using c16))
          (try (have c16b2 : (t147 == t149) = true := by simpa using c16))
          clear c16
          by_cases c17 : t150 = t152
          · rw [if_pos c17] at H
            have c17b0 : (t150 == t152) = true := beq_iff_eq.mpr c17
            have c17b1 : (t150 != t152) = false := bne_eq_false_iff_eq.mpr c17
            clear c17
            by_cases c18 : (t151 == t153) = true
            · rw [if_pos c18] at H
              have c18b0 : (t151 == t153) = true := c18
              (try (have c18b1 : decide (t151 = t153) = true := by simpa using c18))
              (try (have c18b2 : (t151 == t153) = true := by simpa using c18))
              clear c18
              by_cases c19 : t154 = t156
              · rw [if_pos c19] at H
                have c19b0 : (t154 == t156) = true := beq_iff_eq.mpr c19
                have c19b1 : (t154 != t156) = false := bne_eq_false_iff_eq.mpr c19
                clear c19
                obtain rfl := Option.some.inj H
                go_enter Tryd.func8, Tryd.ntmps8
                go_wp2_with (first | ((with_reducible refine gate_callee (f := 22) rfl ?_); refine goesL_ (some 20) rfl rfl Tryd.func22 (by kernel_rfl) rfl #[] rfl (by (try simp only [List.map_toArray, List.map_cons, List.map_nil]); first | done | rfl | (simp only [List.length_drop, List.length_take]; rfl)) ?_; (with_reducible refine (lustrumlaw03_awake.calls  true _ A4.out (by first | exact hT | ((repeat (first | exact hT | apply LenTab.drewN)); done) | (refine LenTab.below hT ?_; repeat (first | (with_reducible first | exact HB.out | apply below_alloc | apply pw_below_drewN | apply below_drew1) | exact HB.out)))).mono ?_); rintro e w20 ⟨rfl, hb⟩; refine ⟨_, rfl, ?_⟩; have n0_ := Aside0.mk (below_step (by repeat (first | (with_reducible first | exact HB.out | apply below_alloc | apply pw_below_drewN | apply below_drew1) | exact HB.out)) hb); clear HB; have HB := n0_; clear n0_; (try clear hb); (try clear hb2); (try clear hk); (try clear hi)) | ((with_reducible refine gate_callee (f := 23) rfl ?_); refine goesL_ (some 24) rfl rfl Tryd.func23 (by kernel_rfl) rfl #[.int .i64 a0, .int .i64 a1] rfl (by (try simp only [List.map_toArray, List.map_cons, List.map_nil]); first | done | rfl | (simp only [List.length_drop, List.length_take]; rfl)) ?_; (with_reducible refine (unit_First.calls a0 a1 t146 t147 _ A5.out (by first | exact hT | ((repeat (first | exact hT | apply LenTab.drewN)); done) | (refine LenTab.below hT ?_; repeat (first | (with_reducible first | exact HB.out | apply below_alloc | apply pw_below_drewN | apply below_drew1) | exact HB.out)))).mono ?_); rintro e w21 ⟨rfl, hb⟩; refine ⟨_, rfl, ?_⟩; have n0_ := Aside0.mk (below_step (by repeat (first | (with_reducible first | exact HB.out | apply below_alloc | apply pw_below_drewN | apply below_drew1) | exact HB.out)) hb); clear HB; have HB := n0_; clear n0_; (try clear hb); (try clear hb2); (try clear hk); (try clear hi)) | ((with_reducible refine gate_callee (f := 24) rfl ?_); refine goesL_ (some 30) rfl rfl Tryd.func24 (by kernel_rfl) rfl #[.int .i64 a0, .int .i64 a1] rfl (by (try simp only [List.map_toArray, List.map_cons, List.map_nil]); first | done | rfl | (simp only [List.length_drop, List.length_take]; rfl)) ?_; (with_reducible refine (lustrumref03_First.calls k a0 a1 t148 t149 _ A6.out).mono ?_); rintro e w' ⟨rfl, ⟨nd, rfl⟩⟩; refine ⟨_, rfl, ?_⟩) | ((with_reducible refine gate_callee (f := 25) rfl ?_); refine goesL_ (some 36) rfl rfl Tryd.func25 (by kernel_rfl) rfl #[.int .i64 a0, .int .i64 a1] rfl (by (try simp only [List.map_toArray, List.map_cons, List.map_nil]); first | done | rfl | (simp only [List.length_drop, List.length_take]; rfl)) ?_; (with_reducible refine (unit_Last.calls a0 a1 t150 t151 _ A7.out (by first | exact hT | ((repeat (first | exact hT | apply LenTab.drewN)); done) | (refine LenTab.below hT ?_; repeat (first | (with_reducible first | exact HB.out | apply below_alloc | apply pw_below_drewN | apply below_drew1) | exact HB.out)))).mono ?_); rintro e w22 ⟨rfl, hb⟩; refine ⟨_, rfl, ?_⟩; have n0_ := Aside0.mk (below_step (by repeat (first | (with_reducible first | exact HB.out | apply below_alloc | apply pw_below_drewN | apply below_drew1) | exact HB.out)) hb); clear HB; have HB := n0_; clear n0_; (try clear hb); (try clear hb2); (try clear hk); (try clear hi)) | ((with_reducible refine gate_callee (f := 26) rfl ?_); refine goesL_ (some 42) rfl rfl Tryd.func26 (by kernel_rfl) rfl #[.int .i64 a0, .int .i64 a1] rfl (by (try simp only [List.map_toArray, List.map_cons, List.map_nil]); first | done | rfl | (simp only [List.length_drop, List.length_take]; rfl)) ?_; (with_reducible refine (lustrumref03_Last.calls k a0 a1 t152 t153 _ A8.out).mono ?_); rintro e w' ⟨rfl, ⟨nd, rfl⟩⟩; refine ⟨_, rfl, ?_⟩) | ((with_reducible refine gate_callee (f := 27) rfl ?_); refine goesL_ (some 48) rfl rfl Tryd.func27 (by kernel_rfl) rfl #[.int .i64 a0, .int .i64 a2] rfl (by (try simp only [List.map_toArray, List.map_cons, List.map_nil]); first | done | rfl | (simp only [List.length_drop, List.length_take]; rfl)) ?_; (with_reducible refine (unit_Of.calls a0 a2 t154 t155 _ A9.out (by first | exact hT | ((repeat (first | exact hT | apply LenTab.drewN)); done) | (refine LenTab.below hT ?_; repeat (first | (with_reducible first | exact HB.out | apply below_alloc | apply pw_below_drewN | apply below_drew1) | exact HB.out)))).mono ?_); rintro e w23 ⟨rfl, hb⟩; refine ⟨_, rfl, ?_⟩; have n0_ := Aside0.mk (below_step (by repeat (first | (with_reducible first | exact HB.out | apply below_alloc | apply pw_below_drewN | apply below_drew1) | exact HB.out)) hb); clear HB; have HB := n0_; clear n0_; (try clear hb); (try clear hb2); (try clear hk); (try clear hi)) | ((with_reducible refine gate_callee (f := 28) rfl ?_); refine goesL_ (some 54) rfl rfl Tryd.func28 (by kernel_rfl) rfl #[.int .i64 a0, .int .i64 a2] rfl (by (try simp only [List.map_toArray, List.map_cons, List.map_nil]); first | done | rfl | (simp only [List.length_drop, List.length_take]; rfl)) ?_; (with_reducible refine (lustrumref03_Of.calls k a0 a2 t156 t157 _ A10.out).mono ?_); rintro e w24 ⟨rfl, hb⟩; refine ⟨_, rfl, ?_⟩; have n0_ := Aside0.mk (below_step (by repeat (first | (with_reducible first | exact HB.out | apply below_alloc | apply pw_below_drewN | apply below_drew1) | exact HB.out)) hb); clear HB; have HB := n0_; clear n0_; (try clear hb); (try clear hb2); (try clear hk); (try clear hi)) | (go_at_call 29; (with_reducible refine (unit_Count.calls a0 t158 _ A12.out (by first | exact hT | ((repeat (first | exact hT | apply LenTab.drewN)); done) | (refine LenTab.below hT ?_; repeat (first | (with_reducible first | exact HB.out | apply below_alloc | apply pw_below_drewN | apply below_drew1) | exact HB.out)))).mono ?_); rintro e w25 ⟨rfl, hb⟩; have n0_ := Aside0.mk (below_step (by repeat (first | (with_reducible first | exact HB.out | apply below_alloc | apply pw_below_drewN | apply below_drew1) | exact HB.out)) hb); clear HB; have HB := n0_; clear n0_; (try clear hb); (try clear hb2); (try clear hk); (try clear hi)) | (go_at_call 30; (with_reducible refine (lustrumref03_Count.calls a0 t159 _ A13.out).mono ?_); rintro e w' ⟨rfl, ⟨nd, rfl⟩⟩))
                go_ret
                exact ⟨by first | rfl | (simp [errW_none, errW_some] <;> rfl) | (simp [*, errW_none, errW_some] <;> rfl), by repeat (first | (with_reducible first | exact HB.out | apply below_alloc | apply pw_below_drewN | apply below_drew1) | exact HB.out)⟩
              · rw [if_neg c19] at H
                have c19b0 : (t154 == t156) = false := beq_eq_false_iff_ne.mpr c19
                have c19b1 : (t154 != t156) = true := bne_iff_ne.mpr c19
                obtain rfl := Option.some.inj H
                go_enter Tryd.func8, Tryd.ntmps8
                go_wp2_with (first | ((with_reducible refine gate_callee (f := 22) rfl ?_); refine goesL_ (some 20) rfl rfl Tryd.func22 (by kernel_rfl) rfl #[] rfl (by (try simp only [List.map_toArray, List.map_cons, List.map_nil]); first | done | rfl | (simp only [List.length_drop, List.length_take]; rfl)) ?_; (with_reducible refine (lustrumlaw03_awake.calls  true _ A4.out (by first | exact hT | ((repeat (first | exact hT | apply LenTab.drewN)); done) | (refine LenTab.below hT ?_; repeat (first | (with_reducible first | exact HB.out | apply below_alloc | apply pw_below_drewN | apply below_drew1) | exact HB.out)))).mono ?_); rintro e w26 ⟨rfl, hb⟩; refine ⟨_, rfl, ?_⟩; have n0_ := Aside0.mk (below_step (by repeat (first | (with_reducible first | exact HB.out | apply below_alloc | apply pw_below_drewN | apply below_drew1) | exact HB.out)) hb); clear HB; have HB := n0_; clear n0_; (try clear hb); (try clear hb2); (try clear hk); (try clear hi)) | ((with_reducible refine gate_callee (f := 23) rfl ?_); refine goesL_ (some 24) rfl rfl Tryd.func23 (by kernel_rfl) rfl #[.int .i64 a0, .int .i64 a1] rfl (by (try simp only [List.map_toArray, List.map_cons, List.map_nil]); first | done | rfl | (simp only [List.length_drop, List.length_take]; rfl)) ?_; (with_reducible refine (unit_First.calls a0 a1 t146 t147 _ A5.out (by first | exact hT | ((repeat (first | exact hT | apply LenTab.drewN)); done) | (refine LenTab.below hT ?_; repeat (first | (with_reducible first | exact HB.out | apply below_alloc | apply pw_below_drewN | apply below_drew1) | exact HB.out)))).mono ?_); rintro e w27 ⟨rfl, hb⟩; refine ⟨_, rfl, ?_⟩; have n0_ := Aside0.mk (below_step (by repeat (first | (with_reducible first | exact HB.out | apply below_alloc | apply pw_below_drewN | apply below_drew1) | exact HB.out)) hb); clear HB; have HB := n0_; clear n0_; (try clear hb); (try clear hb2); (try clear hk); (try clear hi)) | ((with_reducible refine gate_callee (f := 24) rfl ?_); refine goesL_ (some 30) rfl rfl Tryd.func24 (by kernel_rfl) rfl #[.int .i64 a0, .int .i64 a1] rfl (by (try simp only [List.map_toArray, List.map_cons, List.map_nil]); first | done | rfl | (simp only [List.length_drop, List.length_take]; rfl)) ?_; (with_reducible refine (lustrumref03_First.calls k a0 a1 t148 t149 _ A6.out).mono ?_); rintro e w' ⟨rfl, ⟨nd, rfl⟩⟩; refine ⟨_, rfl, ?_⟩) | ((with_reducible refine gate_callee (f := 25) rfl ?_); refine goesL_ (some 36) rfl rfl Tryd.func25 (by kernel_rfl) rfl #[.int .i64 a0, .int .i64 a1] rfl (by (try simp only [List.map_toArray, List.map_cons, List.map_nil]); first | done | rfl | (simp only [List.length_drop, List.length_take]; rfl)) ?_; (with_reducible refine (unit_Last.calls a0 a1 t150 t151 _ A7.out (by first | exact hT | ((repeat (first | exact hT | apply LenTab.drewN)); done) | (refine LenTab.below hT ?_; repeat (first | (with_reducible first | exact HB.out | apply below_alloc | apply pw_below_drewN | apply below_drew1) | exact HB.out)))).mono ?_); rintro e w28 ⟨rfl, hb⟩; refine ⟨_, rfl, ?_⟩; have n0_ := Aside0.mk (below_step (by repeat (first | (with_reducible first | exact HB.out | apply below_alloc | apply pw_below_drewN | apply below_drew1) | exact HB.out)) hb); clear HB; have HB := n0_; clear n0_; (try clear hb); (try clear hb2); (try clear hk); (try clear hi)) | ((with_reducible refine gate_callee (f := 26) rfl ?_); refine goesL_ (some 42) rfl rfl Tryd.func26 (by kernel_rfl) rfl #[.int .i64 a0, .int .i64 a1] rfl (by (try simp only [List.map_toArray, List.map_cons, List.map_nil]); first | done | rfl | (simp only [List.length_drop, List.length_take]; rfl)) ?_; (with_reducible refine (lustrumref03_Last.calls k a0 a1 t152 t153 _ A8.out).mono ?_); rintro e w' ⟨rfl, ⟨nd, rfl⟩⟩; refine ⟨_, rfl, ?_⟩) | ((with_reducible refine gate_callee (f := 27) rfl ?_); refine goesL_ (some 48) rfl rfl Tryd.func27 (by kernel_rfl) rfl #[.int .i64 a0, .int .i64 a2] rfl (by (try simp only [List.map_toArray, List.map_cons, List.map_nil]); first | done | rfl | (simp only [List.length_drop, List.length_take]; rfl)) ?_; (with_reducible refine (unit_Of.calls a0 a2 t154 t155 _ A9.out (by first | exact hT | ((repeat (first | exact hT | apply LenTab.drewN)); done) | (refine LenTab.below hT ?_; repeat (first | (with_reducible first | exact HB.out | apply below_alloc | apply pw_below_drewN | apply below_drew1) | exact HB.out)))).mono ?_); rintro e w29 ⟨rfl, hb⟩; refine ⟨_, rfl, ?_⟩; have n0_ := Aside0.mk (below_step (by repeat (first | (with_reducible first | exact HB.out | apply below_alloc | apply pw_below_drewN | apply below_drew1) | exact HB.out)) hb); clear HB; have HB := n0_; clear n0_; (try clear hb); (try clear hb2); (try clear hk); (try clear hi)) | ((with_reducible refine gate_callee (f := 28) rfl ?_); refine goesL_ (some 54) rfl rfl Tryd.func28 (by kernel_rfl) rfl #[.int .i64 a0, .int .i64 a2] rfl (by (try simp only [List.map_toArray, List.map_cons, List.map_nil]); first | done | rfl | (simp only [List.length_drop, List.length_take]; rfl)) ?_; (with_reducible refine (lustrumref03_Of.calls k a0 a2 t156 t157 _ A10.out).mono ?_); rintro e w30 ⟨rfl, hb⟩; refine ⟨_, rfl, ?_⟩; have n0_ := Aside0.mk (below_step (by repeat (first | (with_reducible first | exact HB.out | apply below_alloc | apply pw_below_drewN | apply below_drew1) | exact HB.out)) hb); clear HB; have HB := n0_; clear n0_; (try clear hb); (try clear hb2); (try clear hk); (try clear hi)) | (go_at_call 29; (with_reducible refine (unit_Count.calls a0 t158 _ A12.out (by first | exact hT | ((repeat (first | exact hT | apply LenTab.drewN)); done) | (refine LenTab.below hT ?_; repeat (first | (with_reducible first | exact HB.out | apply below_alloc | apply pw_below_drewN | apply below_drew1) | exact HB.out)))).mono ?_); rintro e w31 ⟨rfl, hb⟩; have n0_ := Aside0.mk (below_step (by repeat (first | (with_reducible first | exact HB.out | apply below_alloc | apply pw_below_drewN | apply below_drew1) | exact HB.out)) hb); clear HB; have HB := n0_; clear n0_; (try clear hb); (try clear hb2); (try clear hk); (try clear hi)) | (go_at_call 30; (with_reducible refine (lustrumref03_Count.calls a0 t159 _ A13.out).mono ?_); rintro e w' ⟨rfl, ⟨nd, rfl⟩⟩))
                go_ret
                exact ⟨by first | rfl | (simp [errW_none, errW_some] <;> rfl) | (simp [*, errW_none, errW_some] <;> rfl), by repeat (first | (with_reducible first | exact HB.out | apply below_alloc | apply pw_below_drewN | apply below_drew1) | exact HB.out)⟩
            · rw [if_neg c18] at H
              have c18b0 : (t151 == t153) = false := by simpa using c18
              (try (have c18b1 : decide (t151 = t153) = false := by simpa using c18))
              (try (have c18b2 : (t151 == t153) = false := by simpa using c18))
              (try (have c18b3 : ¬ (t151 = t153) := by simpa using c18))
              clear c18
              obtain rfl := Option.some.inj H
              go_enter Tryd.func8, Tryd.ntmps8
              go_wp2_with (first | ((with_reducible refine gate_callee (f := 22) rfl ?_); refine goesL_ (some 20) rfl rfl Tryd.func22 (by kernel_rfl) rfl #[] rfl (by (try simp only [List.map_toArray, List.map_cons, List.map_nil]); first | done | rfl | (simp only [List.length_drop, List.length_take]; rfl)) ?_; (with_reducible refine (lustrumlaw03_awake.calls  true _ A4.out (by first | exact hT | ((repeat (first | exact hT | apply LenTab.drewN)); done) | (refine LenTab.below hT ?_; repeat (first | (with_reducible first | exact HB.out | apply below_alloc | apply pw_below_drewN | apply below_drew1) | exact HB.out)))).mono ?_); rintro e w32 ⟨rfl, hb⟩; refine ⟨_, rfl, ?_⟩; have n0_ := Aside0.mk (below_step (by repeat (first | (with_reducible first | exact HB.out | apply below_alloc | apply pw_below_drewN | apply below_drew1) | exact HB.out)) hb); clear HB; have HB := n0_; clear n0_; (try clear hb); (try clear hb2); (try clear hk); (try clear hi)) | ((with_reducible refine gate_callee (f := 23) rfl ?_); refine goesL_ (some 24) rfl rfl Tryd.func23 (by kernel_rfl) rfl #[.int .i64 a0, .int .i64 a1] rfl (by (try simp only [List.map_toArray, List.map_cons, List.map_nil]); first | done | rfl | (simp only [List.length_drop, List.length_take]; rfl)) ?_; (with_reducible refine (unit_First.calls a0 a1 t146 t147 _ A5.out (by first | exact hT | ((repeat (first | exact hT | apply LenTab.drewN)); done) | (refine LenTab.below hT ?_; repeat (first | (with_reducible first | exact HB.out | apply below_alloc | apply pw_below_drewN | apply below_drew1) | exact HB.out)))).mono ?_); rintro e w33 ⟨rfl, hb⟩; refine ⟨_, rfl, ?_⟩; have n0_ := Aside0.mk (below_step (by repeat (first | (with_reducible first | exact HB.out | apply below_alloc | apply pw_below_drewN | apply below_drew1) | exact HB.out)) hb); clear HB; have HB := n0_; clear n0_; (try clear hb); (try clear hb2); (try clear hk); (try clear hi)) | ((with_reducible refine gate_callee (f := 24) rfl ?_); refine goesL_ (some 30) rfl rfl Tryd.func24 (by kernel_rfl) rfl #[.int .i64 a0, .int .i64 a1] rfl (by (try simp only [List.map_toArray, List.map_cons, List.map_nil]); first | done | rfl | (simp only [List.length_drop, List.length_take]; rfl)) ?_; (with_reducible refine (lustrumref03_First.calls k a0 a1 t148 t149 _ A6.out).mono ?_); rintro e w' ⟨rfl, ⟨nd, rfl⟩⟩; refine ⟨_, rfl, ?_⟩) | ((with_reducible refine gate_callee (f := 25) rfl ?_); refine goesL_ (some 36) rfl rfl Tryd.func25 (by kernel_rfl) rfl #[.int .i64 a0, .int .i64 a1] rfl (by (try simp only [List.map_toArray, List.map_cons, List.map_nil]); first | done | rfl | (simp only [List.length_drop, List.length_take]; rfl)) ?_; (with_reducible refine (unit_Last.calls a0 a1 t150 t151 _ A7.out (by first | exact hT | ((repeat (first | exact hT | apply LenTab.drewN)); done) | (refine LenTab.below hT ?_; repeat (first | (with_reducible first | exact HB.out | apply below_alloc | apply pw_below_drewN | apply below_drew1) | exact HB.out)))).mono ?_); rintro e w34 ⟨rfl, hb⟩; refine ⟨_, rfl, ?_⟩; have n0_ := Aside0.mk (below_step (by repeat (first | (with_reducible first | exact HB.out | apply below_alloc | apply pw_below_drewN | apply below_drew1) | exact HB.out)) hb); clear HB; have HB := n0_; clear n0_; (try clear hb); (try clear hb2); (try clear hk); (try clear hi)) | ((with_reducible refine gate_callee (f := 26) rfl ?_); refine goesL_ (some 42) rfl rfl Tryd.func26 (by kernel_rfl) rfl #[.int .i64 a0, .int .i64 a1] rfl (by (try simp only [List.map_toArray, List.map_cons, List.map_nil]); first | done | rfl | (simp only [List.length_drop, List.length_take]; rfl)) ?_; (with_reducible refine (lustrumref03_Last.calls k a0 a1 t152 t153 _ A8.out).mono ?_); rintro e w' ⟨rfl, ⟨nd, rfl⟩⟩; refine ⟨_, rfl, ?_⟩) | ((with_reducible refine gate_callee (f := 27) rfl ?_); refine goesL_ (some 48) rfl rfl Tryd.func27 (by kernel_rfl) rfl #[.int .i64 a0, .int .i64 a2] rfl (by (try simp only [List.map_toArray, List.map_cons, List.map_nil]); first | done | rfl | (simp only [List.length_drop, List.length_take]; rfl)) ?_; (with_reducible refine (unit_Of.calls a0 a2 t154 t155 _ A9.out (by first | exact hT | ((repeat (first | exact hT | apply LenTab.drewN)); done) | (refine LenTab.below hT ?_; repeat (first | (with_reducible first | exact HB.out | apply below_alloc | apply pw_below_drewN | apply below_drew1) | exact HB.out)))).mono ?_); rintro e w35 ⟨rfl, hb⟩; refine ⟨_, rfl, ?_⟩; have n0_ := Aside0.mk (below_step (by repeat (first | (with_reducible first | exact HB.out | apply below_alloc | apply pw_below_drewN | apply below_drew1) | exact HB.out)) hb); clear HB; have HB := n0_; clear n0_; (try clear hb); (try clear hb2); (try clear hk); (try clear hi)) | ((with_reducible refine gate_callee (f := 28) rfl ?_); refine goesL_ (some 54) rfl rfl Tryd.func28 (by kernel_rfl) rfl #[.int .i64 a0, .int .i64 a2] rfl (by (try simp only [List.map_toArray, List.map_cons, List.map_nil]); first | done | rfl | (simp only [List.length_drop, List.length_take]; rfl)) ?_; (with_reducible refine (lustrumref03_Of.calls k a0 a2 t156 t157 _ A10.out).mono ?_); rintro e w36 ⟨rfl, hb⟩; refine ⟨_, rfl, ?_⟩; have n0_ := Aside0.mk (below_step (by repeat (first | (with_reducible first | exact HB.out | apply below_alloc | apply pw_below_drewN | apply below_drew1) | exact HB.out)) hb); clear HB; have HB := n0_; clear n0_; (try clear hb); (try clear hb2); (try clear hk); (try clear hi)) | (go_at_call 29; (with_reducible refine (unit_Count.calls a0 t158 _ A12.out (by first | exact hT | ((repeat (first | exact hT | apply LenTab.drewN)); done) | (refine LenTab.below hT ?_; repeat (first | (with_reducible first | exact HB.out | apply below_alloc | apply pw_below_drewN | apply below_drew1) | exact HB.out)))).mono ?_); rintro e w37 ⟨rfl, hb⟩; have n0_ := Aside0.mk (below_step (by repeat (first | (with_reducible first | exact HB.out | apply below_alloc | apply pw_below_drewN | apply below_drew1) | exact HB.out)) hb); clear HB; have HB := n0_; clear n0_; (try clear hb); (try clear hb2); (try clear hk); (try clear hi)) | (go_at_call 30; (with_reducible refine (lustrumref03_Count.calls a0 t159 _ A13.out).mono ?_); rintro e w' ⟨rfl, ⟨nd, rfl⟩⟩))
              go_ret
              exact ⟨by first | rfl | (simp [errW_none, errW_some] <;> rfl) | (simp [*, errW_none, errW_some] <;> rfl), by repeat (first | (with_reducible first | exact HB.out | apply below_alloc | apply pw_below_drewN | apply below_drew1) | exact HB.out)⟩
          · rw [if_neg c17] at H
            have c17b0 : (t150 == t152) = false := beq_eq_false_iff_ne.mpr c17
            have c17b1 : (t150 != t152) = true := bne_iff_ne.mpr c17
            obtain rfl := Option.some.inj H
            go_enter Tryd.func8, Tryd.ntmps8
            go_wp2_with (first | ((with_reducible refine gate_callee (f := 22) rfl ?_); refine goesL_ (some 20) rfl rfl Tryd.func22 (by kernel_rfl) rfl #[] rfl (by (try simp only [List.map_toArray, List.map_cons, List.map_nil]); first | done | rfl | (simp only [List.length_drop, List.length_take]; rfl)) ?_; (with_reducible refine (lustrumlaw03_awake.calls  true _ A4.out (by first | exact hT | ((repeat (first | exact hT | apply LenTab.drewN)); done) | (refine LenTab.below hT ?_; repeat (first | (with_reducible first | exact HB.out | apply below_alloc | apply pw_below_drewN | apply below_drew1) | exact HB.out)))).mono ?_); rintro e w38 ⟨rfl, hb⟩; refine ⟨_, rfl, ?_⟩; have n0_ := Aside0.mk (below_step (by repeat (first | (with_reducible first | exact HB.out | apply below_alloc | apply pw_below_drewN | apply below_drew1) | exact HB.out)) hb); clear HB; have HB := n0_; clear n0_; (try clear hb); (try clear hb2); (try clear hk); (try clear hi)) | ((with_reducible refine gate_callee (f := 23) rfl ?_); refine goesL_ (some 24) rfl rfl Tryd.func23 (by kernel_rfl) rfl #[.int .i64 a0, .int .i64 a1] rfl (by (try simp only [List.map_toArray, List.map_cons, List.map_nil]); first | done | rfl | (simp only [List.length_drop, List.length_take]; rfl)) ?_; (with_reducible refine (unit_First.calls a0 a1 t146 t147 _ A5.out (by first | exact hT | ((repeat (first | exact hT | apply LenTab.drewN)); done) | (refine LenTab.below hT ?_; repeat (first | (with_reducible first | exact HB.out | apply below_alloc | apply pw_below_drewN | apply below_drew1) | exact HB.out)))).mono ?_); rintro e w39 ⟨rfl, hb⟩; refine ⟨_, rfl, ?_⟩; have n0_ := Aside0.mk (below_step (by repeat (first | (with_reducible first | exact HB.out | apply below_alloc | apply pw_below_drewN | apply below_drew1) | exact HB.out)) hb); clear HB; have HB := n0_; clear n0_; (try clear hb); (try clear hb2); (try clear hk); (try clear hi)) | ((with_reducible refine gate_callee (f := 24) rfl ?_); refine goesL_ (some 30) rfl rfl Tryd.func24 (by kernel_rfl) rfl #[.int .i64 a0, .int .i64 a1] rfl (by (try simp only [List.map_toArray, List.map_cons, List.map_nil]); first | done | rfl | (simp only [List.length_drop, List.length_take]; rfl)) ?_; (with_reducible refine (lustrumref03_First.calls k a0 a1 t148 t149 _ A6.out).mono ?_); rintro e w' ⟨rfl, ⟨nd, rfl⟩⟩; refine ⟨_, rfl, ?_⟩) | ((with_reducible refine gate_callee (f := 25) rfl ?_); refine goesL_ (some 36) rfl rfl Tryd.func25 (by kernel_rfl) rfl #[.int .i64 a0, .int .i64 a1] rfl (by (try simp only [List.map_toArray, List.map_cons, List.map_nil]); first | done | rfl | (simp only [List.length_drop, List.length_take]; rfl)) ?_; (with_reducible refine (unit_Last.calls a0 a1 t150 t151 _ A7.out (by first | exact hT | ((repeat (first | exact hT | apply LenTab.drewN)); done) | (refine LenTab.below hT ?_; repeat (first | (with_reducible first | exact HB.out | apply below_alloc | apply pw_below_drewN | apply below_drew1) | exact HB.out)))).mono ?_); rintro e w40 ⟨rfl, hb⟩; refine ⟨_, rfl, ?_⟩; have n0_ := Aside0.mk (below_step (by repeat (first | (with_reducible first | exact HB.out | apply below_alloc | apply pw_below_drewN | apply below_drew1) | exact HB.out)) hb); clear HB; have HB := n0_; clear n0_; (try clear hb); (try clear hb2); (try clear hk); (try clear hi)) | ((with_reducible refine gate_callee (f := 26) rfl ?_); refine goesL_ (some 42) rfl rfl Tryd.func26 (by kernel_rfl) rfl #[.int .i64 a0, .int .i64 a1] rfl (by (try simp only [List.map_toArray, List.map_cons, List.map_nil]); first | done | rfl | (simp only [List.length_drop, List.length_take]; rfl)) ?_; (with_reducible refine (lustrumref03_Last.calls k a0 a1 t152 t153 _ A8.out).mono ?_); rintro e w' ⟨rfl, ⟨nd, rfl⟩⟩; refine ⟨_, rfl, ?_⟩) | ((with_reducible refine gate_callee (f := 27) rfl ?_); refine goesL_ (some 48) rfl rfl Tryd.func27 (by kernel_rfl) rfl #[.int .i64 a0, .int .i64 a2] rfl (by (try simp only [List.map_toArray, List.map_cons, List.map_nil]); first | done | rfl | (simp only [List.length_drop, List.length_take]; rfl)) ?_; (with_reducible refine (unit_Of.calls a0 a2 t154 t155 _ A9.out (by first | exact hT | ((repeat (first | exact hT | apply LenTab.drewN)); done) | (refine LenTab.below hT ?_; repeat (first | (with_reducible first | exact HB.out | apply below_alloc | apply pw_below_drewN | apply below_drew1) | exact HB.out)))).mono ?_); rintro e w41 ⟨rfl, hb⟩; refine ⟨_, rfl, ?_⟩; have n0_ := Aside0.mk (below_step (by repeat (first | (with_reducible first | exact HB.out | apply below_alloc | apply pw_below_drewN | apply below_drew1) | exact HB.out)) hb); clear HB; have HB := n0_; clear n0_; (try clear hb); (try clear hb2); (try clear hk); (try clear hi)) | ((with_reducible refine gate_callee (f := 28) rfl ?_); refine goesL_ (some 54) rfl rfl Tryd.func28 (by kernel_rfl) rfl #[.int .i64 a0, .int .i64 a2] rfl (by (try simp only [List.map_toArray, List.map_cons, List.map_nil]); first | done | rfl | (simp only [List.length_drop, List.length_take]; rfl)) ?_; (with_reducible refine (lustrumref03_Of.calls k a0 a2 t156 t157 _ A10.out).mono ?_); rintro e w42 ⟨rfl, hb⟩; refine ⟨_, rfl, ?_⟩; have n0_ := Aside0.mk (below_step (by repeat (first | (with_reducible first | exact HB.out | apply below_alloc | apply pw_below_drewN | apply below_drew1) | exact HB.out)) hb); clear HB; have HB := n0_; clear n0_; (try clear hb); (try clear hb2); (try clear hk); (try clear hi)) | (go_at_call 29; (with_reducible refine (unit_Count.calls a0 t158 _ A12.out (by first | exact hT | ((repeat (first | exact hT | apply LenTab.drewN)); done) | (refine LenTab.below hT ?_; repeat (first | (with_reducible first | exact HB.out | apply below_alloc | apply pw_below_drewN | apply below_drew1) | exact HB.out)))).mono ?_); rintro e w43 ⟨rfl, hb⟩; have n0_ := Aside0.mk (below_step (by repeat (first | (with_reducible first | exact HB.out | apply below_alloc | apply pw_below_drewN | apply below_drew1) | exact HB.out)) hb); clear HB; have HB := n0_; clear n0_; (try clear hb); (try clear hb2); (try clear hk); (try clear hi)) | (go_at_call 30; (with_reducible refine (lustrumref03_Count.calls a0 t159 _ A13.out).mono ?_); rintro e w' ⟨rfl, ⟨nd, rfl⟩⟩))
            go_ret
            exact ⟨by first | rfl | (simp [errW_none, errW_some] <;> rfl) | (simp [*, errW_none, errW_some] <;> rfl), by repeat (first | (with_reducible first | exact HB.out | apply below_alloc | apply pw_below_drewN | apply below_drew1) | exact HB.out)⟩
        · rw [if_neg c16] at H
          have c16b0 : (t147 == t149) = false := by simpa using c16
          (try (have c16b1 : decide (t147 = t149) = false := by simpa using c16))
          (try (have c16b2 : (t147 == t149) = false := by simpa using c16))
          (try (have c16b3 : ¬ (t147 = t149) := by simpa using c16))
          clear c16
          obtain rfl := Option.some.inj H
          go_enter Tryd.func8, Tryd.ntmps8
          go_wp2_with (first | ((with_reducible refine gate_callee (f := 22) rfl ?_); refine goesL_ (some 20) rfl rfl Tryd.func22 (by kernel_rfl) rfl #[] rfl (by (try simp only [List.map_toArray, List.map_cons, List.map_nil]); first | done | rfl | (simp only [List.length_drop, List.length_take]; rfl)) ?_; (with_reducible refine (lustrumlaw03_awake.calls  true _ A4.out (by first | exact hT | ((repeat (first | exact hT | apply LenTab.drewN)); done) | (refine LenTab.below hT ?_; repeat (first | (with_reducible first | exact HB.out | apply below_alloc | apply pw_below_drewN | apply below_drew1) | exact HB.out)))).mono ?_); rintro e w44 ⟨rfl, hb⟩; refine ⟨_, rfl, ?_⟩; have n0_ := Aside0.mk (below_step (by repeat (first | (with_reducible first | exact HB.out | apply below_alloc | apply pw_below_drewN | apply below_drew1) | exact HB.out)) hb); clear HB; have HB := n0_; clear n0_; (try clear hb); (try clear hb2); (try clear hk); (try clear hi)) | ((with_reducible refine gate_callee (f := 23) rfl ?_); refine goesL_ (some 24) rfl rfl Tryd.func23 (by kernel_rfl) rfl #[.int .i64 a0, .int .i64 a1] rfl (by (try simp only [List.map_toArray, List.map_cons, List.map_nil]); first | done | rfl | (simp only [List.length_drop, List.length_take]; rfl)) ?_; (with_reducible refine (unit_First.calls a0 a1 t146 t147 _ A5.out (by first | exact hT | ((repeat (first | exact hT | apply LenTab.drewN)); done) | (refine LenTab.below hT ?_; repeat (first | (with_reducible first | exact HB.out | apply below_alloc | apply pw_below_drewN | apply below_drew1) | exact HB.out)))).mono ?_); rintro e w45 ⟨rfl, hb⟩; refine ⟨_, rfl, ?_⟩; have n0_ := Aside0.mk (below_step (by repeat (first | (with_reducible first | exact HB.out | apply below_alloc | apply pw_below_drewN | apply below_drew1) | exact HB.out)) hb); clear HB; have HB := n0_; clear n0_; (try clear hb); (try clear hb2); (try clear hk); (try clear hi)) | ((with_reducible refine gate_callee (f := 24) rfl ?_); refine goesL_ (some 30) rfl rfl Tryd.func24 (by kernel_rfl) rfl #[.int .i64 a0, .int .i64 a1] rfl (by (try simp only [List.map_toArray, List.map_cons, List.map_nil]); first | done | rfl | (simp only [List.length_drop, List.length_take]; rfl)) ?_; (with_reducible refine (lustrumref03_First.calls k a0 a1 t148 t149 _ A6.out).mono ?_); rintro e w' ⟨rfl, ⟨nd, rfl⟩⟩; refine ⟨_, rfl, ?_⟩) | ((with_reducible refine gate_callee (f := 25) rfl ?_); refine goesL_ (some 36) rfl rfl Tryd.func25 (by kernel_rfl) rfl #[.int .i64 a0, .int .i64 a1] rfl (by (try simp only [List.map_toArray, List.map_cons, List.map_nil]); first | done | rfl | (simp only [List.length_drop, List.length_take]; rfl)) ?_; (with_reducible refine (unit_Last.calls a0 a1 t150 t151 _ A7.out (by first | exact hT | ((repeat (first | exact hT | apply LenTab.drewN)); done) | (refine LenTab.below hT ?_; repeat (first | (with_reducible first | exact HB.out | apply below_alloc | apply pw_below_drewN | apply below_drew1) | exact HB.out)))).mono ?_); rintro e w46 ⟨rfl, hb⟩; refine ⟨_, rfl, ?_⟩; have n0_ := Aside0.mk (below_step (by repeat (first | (with_reducible first | exact HB.out | apply below_alloc | apply pw_below_drewN | apply below_drew1) | exact HB.out)) hb); clear HB; have HB := n0_; clear n0_; (try clear hb); (try clear hb2); (try clear hk); (try clear hi)) | ((with_reducible refine gate_callee (f := 26) rfl ?_); refine goesL_ (some 42) rfl rfl Tryd.func26 (by kernel_rfl) rfl #[.int .i64 a0, .int .i64 a1] rfl (by (try simp only [List.map_toArray, List.map_cons, List.map_nil]); first | done | rfl | (simp only [List.length_drop, List.length_take]; rfl)) ?_; (with_reducible refine (lustrumref03_Last.calls k a0 a1 t152 t153 _ A8.out).mono ?_); rintro e w' ⟨rfl, ⟨nd, rfl⟩⟩; refine ⟨_, rfl, ?_⟩) | ((with_reducible refine gate_callee (f := 27) rfl ?_); refine goesL_ (some 48) rfl rfl Tryd.func27 (by kernel_rfl) rfl #[.int .i64 a0, .int .i64 a2] rfl (by (try simp only [List.map_toArray, List.map_cons, List.map_nil]); first | done | rfl | (simp only [List.length_drop, List.length_take]; rfl)) ?_; (with_reducible refine (unit_Of.calls a0 a2 t154 t155 _ A9.out (by first | exact hT | ((repeat (first | exact hT | apply LenTab.drewN)); done) | (refine LenTab.below hT ?_; repeat (first | (with_reducible first | exact HB.out | apply below_alloc | apply pw_below_drewN | apply below_drew1) | exact HB.out)))).mono ?_); rintro e w47 ⟨rfl, hb⟩; refine ⟨_, rfl, ?_⟩; have n0_ := Aside0.mk (below_step (by repeat (first | (with_reducible first | exact HB.out | apply below_alloc | apply pw_below_drewN | apply below_drew1) | exact HB.out)) hb); clear HB; have HB := n0_; clear n0_; (try clear hb); (try clear hb2); (try clear hk); (try clear hi)) | ((with_reducible refine gate_callee (f := 28) rfl ?_); refine goesL_ (some 54) rfl rfl Tryd.func28 (by kernel_rfl) rfl #[.int .i64 a0, .int .i64 a2] rfl (by (try simp only [List.map_toArray, List.map_cons, List.map_nil]); first | done | rfl | (simp only [List.length_drop, List.length_take]; rfl)) ?_; (with_reducible refine (lustrumref03_Of.calls k a0 a2 t156 t157 _ A10.out).mono ?_); rintro e w48 ⟨rfl, hb⟩; refine ⟨_, rfl, ?_⟩; have n0_ := Aside0.mk (below_step (by repeat (first | (with_reducible first | exact HB.out | apply below_alloc | apply pw_below_drewN | apply below_drew1) | exact HB.out)) hb); clear HB; have HB := n0_; clear n0_; (try clear hb); (try clear hb2); (try clear hk); (try clear hi)) | (go_at_call 29; (with_reducible refine (unit_Count.calls a0 t158 _ A12.out (by first | exact hT | ((repeat (first | exact hT | apply LenTab.drewN)); done) | (refine LenTab.below hT ?_; repeat (first | (with_reducible first | exact HB.out | apply below_alloc | apply pw_below_drewN | apply below_drew1) | exact HB.out)))).mono ?_); rintro e w49 ⟨rfl, hb⟩; have n0_ := Aside0.mk (below_step (by repeat (first | (with_reducible first | exact HB.out | apply below_alloc | apply pw_below_drewN | apply below_drew1) | exact HB.out)) hb); clear HB; have HB := n0_; clear n0_; (try clear hb); (try clear hb2); (try clear hk); (try clear hi)) | (go_at_call 30; (with_reducible refine (lustrumref03_Count.calls a0 t159 _ A13.out).mono ?_); rintro e w' ⟨rfl, ⟨nd, rfl⟩⟩))
          go_ret
          exact ⟨by first | rfl | (simp [errW_none, errW_some] <;> rfl) | (simp [*, errW_none, errW_some] <;> rfl), by repeat (first | (with_reducible first | exact HB.out | apply below_alloc | apply pw_below_drewN | apply below_drew1) | exact HB.out)⟩
      · rw [if_neg c15] at H
        have c15b0 : (t146 == t148) = false := beq_eq_false_iff_ne.mpr c15
        have c15b1 : (t146 != t148) = true := bne_iff_ne.mpr c15
        obtain rfl := Option.some.inj H
        go_enter Tryd.func8, Tryd.ntmps8
        go_wp2_with (first | ((with_reducible refine gate_callee (f := 22) rfl ?_); refine goesL_ (some 20) rfl rfl Tryd.func22 (by kernel_rfl) rfl #[] rfl (by (try simp only [List.map_toArray, List.map_cons, List.map_nil]); first | done | rfl | (simp only [List.length_drop, List.length_take]; rfl)) ?_; (with_reducible refine (lustrumlaw03_awake.calls  true _ A4.out (by first | exact hT | ((repeat (first | exact hT | apply LenTab.drewN)); done) | (refine LenTab.below hT ?_; repeat (first | (with_reducible first | exact HB.out | apply below_alloc | apply pw_below_drewN | apply below_drew1) | exact HB.out)))).mono ?_); rintro e w50 ⟨rfl, hb⟩; refine ⟨_, rfl, ?_⟩; have n0_ := Aside0.mk (below_step (by repeat (first | (with_reducible first | exact HB.out | apply below_alloc | apply pw_below_drewN | apply below_drew1) | exact HB.out)) hb); clear HB; have HB := n0_; clear n0_; (try clear hb); (try clear hb2); (try clear hk); (try clear hi)) | ((with_reducible refine gate_callee (f := 23) rfl ?_); refine goesL_ (some 24) rfl rfl Tryd.func23 (by kernel_rfl) rfl #[.int .i64 a0, .int .i64 a1] rfl (by (try simp only [List.map_toArray, List.map_cons, List.map_nil]); first | done | rfl | (simp only [List.length_drop, List.length_take]; rfl)) ?_; (with_reducible refine (unit_First.calls a0 a1 t146 t147 _ A5.out (by first | exact hT | ((repeat (first | exact hT | apply LenTab.drewN)); done) | (refine LenTab.below hT ?_; repeat (first | (with_reducible first | exact HB.out | apply below_alloc | apply pw_below_drewN | apply below_drew1) | exact HB.out)))).mono ?_); rintro e w51 ⟨rfl, hb⟩; refine ⟨_, rfl, ?_⟩; have n0_ := Aside0.mk (below_step (by repeat (first | (with_reducible first | exact HB.out | apply below_alloc | apply pw_below_drewN | apply below_drew1) | exact HB.out)) hb); clear HB; have HB := n0_; clear n0_; (try clear hb); (try clear hb2); (try clear hk); (try clear hi)) | ((with_reducible refine gate_callee (f := 24) rfl ?_); refine goesL_ (some 30) rfl rfl Tryd.func24 (by kernel_rfl) rfl #[.int .i64 a0, .int .i64 a1] rfl (by (try simp only [List.map_toArray, List.map_cons, List.map_nil]); first | done | rfl | (simp only [List.length_drop, List.length_take]; rfl)) ?_; (with_reducible refine (lustrumref03_First.calls k a0 a1 t148 t149 _ A6.out).mono ?_); rintro e w' ⟨rfl, ⟨nd, rfl⟩⟩; refine ⟨_, rfl, ?_⟩) | ((with_reducible refine gate_callee (f := 25) rfl ?_); refine goesL_ (some 36) rfl rfl Tryd.func25 (by kernel_rfl) rfl #[.int .i64 a0, .int .i64 a1] rfl (by (try simp only [List.map_toArray, List.map_cons, List.map_nil]); first | done | rfl | (simp only [List.length_drop, List.length_take]; rfl)) ?_; (with_reducible refine (unit_Last.calls a0 a1 t150 t151 _ A7.out (by first | exact hT | ((repeat (first | exact hT | apply LenTab.drewN)); done) | (refine LenTab.below hT ?_; repeat (first | (with_reducible first | exact HB.out | apply below_alloc | apply pw_below_drewN | apply below_drew1) | exact HB.out)))).mono ?_); rintro e w52 ⟨rfl, hb⟩; refine ⟨_, rfl, ?_⟩; have n0_ := Aside0.mk (below_step (by repeat (first | (with_reducible first | exact HB.out | apply below_alloc | apply pw_below_drewN | apply below_drew1) | exact HB.out)) hb); clear HB; have HB := n0_; clear n0_; (try clear hb); (try clear hb2); (try clear hk); (try clear hi)) | ((with_reducible refine gate_callee (f := 26) rfl ?_); refine goesL_ (some 42) rfl rfl Tryd.func26 (by kernel_rfl) rfl #[.int .i64 a0, .int .i64 a1] rfl (by (try simp only [List.map_toArray, List.map_cons, List.map_nil]); first | done | rfl | (simp only [List.length_drop, List.length_take]; rfl)) ?_; (with_reducible refine (lustrumref03_Last.calls k a0 a1 t152 t153 _ A8.out).mono ?_); rintro e w' ⟨rfl, ⟨nd, rfl⟩⟩; refine ⟨_, rfl, ?_⟩) | ((with_reducible refine gate_callee (f := 27) rfl ?_); refine goesL_ (some 48) rfl rfl Tryd.func27 (by kernel_rfl) rfl #[.int .i64 a0, .int .i64 a2] rfl (by (try simp only [List.map_toArray, List.map_cons, List.map_nil]); first | done | rfl | (simp only [List.length_drop, List.length_take]; rfl)) ?_; (with_reducible refine (unit_Of.calls a0 a2 t154 t155 _ A9.out (by first | exact hT | ((repeat (first | exact hT | apply LenTab.drewN)); done) | (refine LenTab.below hT ?_; repeat (first | (with_reducible first | exact HB.out | apply below_alloc | apply pw_below_drewN | apply below_drew1) | exact HB.out)))).mono ?_); rintro e w53 ⟨rfl, hb⟩; refine ⟨_, rfl, ?_⟩; have n0_ := Aside0.mk (below_step (by repeat (first | (with_reducible first | exact HB.out | apply below_alloc | apply pw_below_drewN | apply below_drew1) | exact HB.out)) hb); clear HB; have HB := n0_; clear n0_; (try clear hb); (try clear hb2); (try clear hk); (try clear hi)) | ((with_reducible refine gate_callee (f := 28) rfl ?_); refine goesL_ (some 54) rfl rfl Tryd.func28 (by kernel_rfl) rfl #[.int .i64 a0, .int .i64 a2] rfl (by (try simp only [List.map_toArray, List.map_cons, List.map_nil]); first | done | rfl | (simp only [List.length_drop, List.length_take]; rfl)) ?_; (with_reducible refine (lustrumref03_Of.calls k a0 a2 t156 t157 _ A10.out).mono ?_); rintro e w54 ⟨rfl, hb⟩; refine ⟨_, rfl, ?_⟩; have n0_ := Aside0.mk (below_step (by repeat (first | (with_reducible first | exact HB.out | apply below_alloc | apply pw_below_drewN | apply below_drew1) | exact HB.out)) hb); clear HB; have HB := n0_; clear n0_; (try clear hb); (try clear hb2); (try clear hk); (try clear hi)) | (go_at_call 29; (with_reducible refine (unit_Count.calls a0 t158 _ A12.out (by first | exact hT | ((repeat (first | exact hT | apply LenTab.drewN)); done) | (refine LenTab.below hT ?_; repeat (first | (with_reducible first | exact HB.out | apply below_alloc | apply pw_below_drewN | apply below_drew1) | exact HB.out)))).mono ?_); rintro e w55 ⟨rfl, hb⟩; have n0_ := Aside0.mk (below_step (by repeat (first | (with_reducible first | exact HB.out | apply below_alloc | apply pw_below_drewN | apply below_drew1) | exact HB.out)) hb); clear HB; have HB := n0_; clear n0_; (try clear hb); (try clear hb2); (try clear hk); (try clear hi)) | (go_at_call 30; (with_reducible refine (lustrumref03_Count.calls a0 t159 _ A13.out).mono ?_); rintro e w' ⟨rfl, ⟨nd, rfl⟩⟩))
        go_ret
        exact ⟨by first | rfl | (simp [errW_none, errW_some] <;> rfl) | (simp [*, errW_none, errW_some] <;> rfl), by repeat (first | (with_reducible first | exact HB.out | apply below_alloc | apply pw_below_drewN | apply below_drew1) | exact HB.out)⟩
    · rw [if_neg c14] at H
      have c14b0 : (t158 == t159) = false := beq_eq_false_iff_ne.mpr c14
      have c14b1 : (t158 != t159) = true := bne_iff_ne.mpr c14
      obtain rfl := Option.some.inj H
      go_enter Tryd.func8, Tryd.ntmps8
      go_wp2_with (first | ((with_reducible refine gate_callee (f := 22) rfl ?_); refine goesL_ (some 20) rfl rfl Tryd.func22 (by kernel_rfl) rfl #[] rfl (by (try simp only [List.map_toArray, List.map_cons, List.map_nil]); first | done | rfl | (simp only [List.length_drop, List.length_take]; rfl)) ?_; (with_reducible refine (lustrumlaw03_awake.calls  true _ A4.out (by first | exact hT | ((repeat (first | exact hT | apply LenTab.drewN)); done) | (refine LenTab.below hT ?_; repeat (first | (with_reducible first | exact HB.out | apply below_alloc | apply pw_below_drewN | apply below_drew1) | exact HB.out)))).mono ?_); rintro e w56 ⟨rfl, hb⟩; refine ⟨_, rfl, ?_⟩; have n0_ := Aside0.mk (below_step (by repeat (first | (with_reducible first | exact HB.out | apply below_alloc | apply pw_below_drewN | apply below_drew1) | exact HB.out)) hb); clear HB; have HB := n0_; clear n0_; (try clear hb); (try clear hb2); (try clear hk); (try clear hi)) | ((with_reducible refine gate_callee (f := 23) rfl ?_); refine goesL_ (some 24) rfl rfl Tryd.func23 (by kernel_rfl) rfl #[.int .i64 a0, .int .i64 a1] rfl (by (try simp only [List.map_toArray, List.map_cons, List.map_nil]); first | done | rfl | (simp only [List.length_drop, List.length_take]; rfl)) ?_; (with_reducible refine (unit_First.calls a0 a1 t146 t147 _ A5.out (by first | exact hT | ((repeat (first | exact hT | apply LenTab.drewN)); done) | (refine LenTab.below hT ?_; repeat (first | (with_reducible first | exact HB.out | apply below_alloc | apply pw_below_drewN | apply below_drew1) | exact HB.out)))).mono ?_); rintro e w57 ⟨rfl, hb⟩; refine ⟨_, rfl, ?_⟩; have n0_ := Aside0.mk (below_step (by repeat (first | (with_reducible first | exact HB.out | apply below_alloc | apply pw_below_drewN | apply below_drew1) | exact HB.out)) hb); clear HB; have HB := n0_; clear n0_; (try clear hb); (try clear hb2); (try clear hk); (try clear hi)) | ((with_reducible refine gate_callee (f := 24) rfl ?_); refine goesL_ (some 30) rfl rfl Tryd.func24 (by kernel_rfl) rfl #[.int .i64 a0, .int .i64 a1] rfl (by (try simp only [List.map_toArray, List.map_cons, List.map_nil]); first | done | rfl | (simp only [List.length_drop, List.length_take]; rfl)) ?_; (with_reducible refine (lustrumref03_First.calls k a0 a1 t148 t149 _ A6.out).mono ?_); rintro e w' ⟨rfl, ⟨nd, rfl⟩⟩; refine ⟨_, rfl, ?_⟩) | ((with_reducible refine gate_callee (f := 25) rfl ?_); refine goesL_ (some 36) rfl rfl Tryd.func25 (by kernel_rfl) rfl #[.int .i64 a0, .int .i64 a1] rfl (by (try simp only [List.map_toArray, List.map_cons, List.map_nil]); first | done | rfl | (simp only [List.length_drop, List.length_take]; rfl)) ?_; (with_reducible refine (unit_Last.calls a0 a1 t150 t151 _ A7.out (by first | exact hT | ((repeat (first | exact hT | apply LenTab.drewN)); done) | (refine LenTab.below hT ?_; repeat (first | (with_reducible first | exact HB.out | apply below_alloc | apply pw_below_drewN | apply below_drew1) | exact HB.out)))).mono ?_); rintro e w58 ⟨rfl, hb⟩; refine ⟨_, rfl, ?_⟩; have n0_ := Aside0.mk (below_step (by repeat (first | (with_reducible first | exact HB.out | apply below_alloc | apply pw_below_drewN | apply below_drew1) | exact HB.out)) hb); clear HB; have HB := n0_; clear n0_; (try clear hb); (try clear hb2); (try clear hk); (try clear hi)) | ((with_reducible refine gate_callee (f := 26) rfl ?_); refine goesL_ (some 42) rfl rfl Tryd.func26 (by kernel_rfl) rfl #[.int .i64 a0, .int .i64 a1] rfl (by (try simp only [List.map_toArray, List.map_cons, List.map_nil]); first | done | rfl | (simp only [List.length_drop, List.length_take]; rfl)) ?_; (with_reducible refine (lustrumref03_Last.calls k a0 a1 t152 t153 _ A8.out).mono ?_); rintro e w' ⟨rfl, ⟨nd, rfl⟩⟩; refine ⟨_, rfl, ?_⟩) | ((with_reducible refine gate_callee (f := 27) rfl ?_); refine goesL_ (some 48) rfl rfl Tryd.func27 (by kernel_rfl) rfl #[.int .i64 a0, .int .i64 a2] rfl (by (try simp only [List.map_toArray, List.map_cons, List.map_nil]); first | done | rfl | (simp only [List.length_drop, List.length_take]; rfl)) ?_; (with_reducible refine (unit_Of.calls a0 a2 t154 t155 _ A9.out (by first | exact hT | ((repeat (first | exact hT | apply LenTab.drewN)); done) | (refine LenTab.below hT ?_; repeat (first | (with_reducible first | exact HB.out | apply below_alloc | apply pw_below_drewN | apply below_drew1) | exact HB.out)))).mono ?_); rintro e w59 ⟨rfl, hb⟩; refine ⟨_, rfl, ?_⟩; have n0_ := Aside0.mk (below_step (by repeat (first | (with_reducible first | exact HB.out | apply below_alloc | apply pw_below_drewN | apply below_drew1) | exact HB.out)) hb); clear HB; have HB := n0_; clear n0_; (try clear hb); (try clear hb2); (try clear hk); (try clear hi)) | ((with_reducible refine gate_callee (f := 28) rfl ?_); refine goesL_ (some 54) rfl rfl Tryd.func28 (by kernel_rfl) rfl #[.int .i64 a0, .int .i64 a2] rfl (by (try simp only [List.map_toArray, List.map_cons, List.map_nil]); first | done | rfl | (simp only [List.length_drop, List.length_take]; rfl)) ?_; (with_reducible refine (lustrumref03_Of.calls k a0 a2 t156 t157 _ A10.out).mono ?_); rintro e w60 ⟨rfl, hb⟩; refine ⟨_, rfl, ?_⟩; have n0_ := Aside0.mk (below_step (by repeat (first | (with_reducible first | exact HB.out | apply below_alloc | apply pw_below_drewN | apply below_drew1) | exact HB.out)) hb); clear HB; have HB := n0_; clear n0_; (try clear hb); (try clear hb2); (try clear hk); (try clear hi)) | (go_at_call 29; (with_reducible refine (unit_Count.calls a0 t158 _ A12.out (by first | exact hT | ((repeat (first | exact hT | apply LenTab.drewN)); done) | (refine LenTab.below hT ?_; repeat (first | (with_reducible first | exact HB.out | apply below_alloc | apply pw_below_drewN | apply below_drew1) | exact HB.out)))).mono ?_); rintro e w61 ⟨rfl, hb⟩; have n0_ := Aside0.mk (below_step (by repeat (first | (with_reducible first | exact HB.out | apply below_alloc | apply pw_below_drewN | apply below_drew1) | exact HB.out)) hb); clear HB; have HB := n0_; clear n0_; (try clear hb); (try clear hb2); (try clear hk); (try clear hi)) | (go_at_call 30; (with_reducible refine (lustrumref03_Count.calls a0 t159 _ A13.out).mono ?_); rintro e w' ⟨rfl, ⟨nd, rfl⟩⟩))
      go_ret
      exact ⟨by first | rfl | (simp [errW_none, errW_some] <;> rfl) | (simp [*, errW_none, errW_some] <;> rfl), by repeat (first | (with_reducible first | exact HB.out | apply below_alloc | apply pw_below_drewN | apply below_drew1) | exact HB.out)⟩
  · replace c11 := Bool.eq_false_iff.mpr c11
    subst c11
    have H1 : (some false) = some r := by rw [if_neg (show ¬ (false = true) by decide)] at H; exact H
    clear H
    have H := H1
    clear H1
    obtain rfl := Option.some.inj H
    go_enter Tryd.func8, Tryd.ntmps8
    go_wp2_with (first | ((with_reducible refine gate_callee (f := 22) rfl ?_); refine goesL_ (some 20) rfl rfl Tryd.func22 (by kernel_rfl) rfl #[] rfl (by (try simp only [List.map_toArray, List.map_cons, List.map_nil]); first | done | rfl | (simp only [List.length_drop, List.length_take]; rfl)) ?_; (with_reducible refine (lustrumlaw03_awake.calls  false _ A4.out (by first | exact hT | ((repeat (first | exact hT | apply LenTab.drewN)); done) | (refine LenTab.below hT ?_; repeat (first | (with_reducible first | exact HB.out | apply below_alloc | apply pw_below_drewN | apply below_drew1) | exact HB.out)))).mono ?_); rintro e w62 ⟨rfl, hb⟩; refine ⟨_, rfl, ?_⟩; have n0_ := Aside0.mk (below_step (by repeat (first | (with_reducible first | exact HB.out | apply below_alloc | apply pw_below_drewN | apply below_drew1) | exact HB.out)) hb); clear HB; have HB := n0_; clear n0_; (try clear hb); (try clear hb2); (try clear hk); (try clear hi)) | ((with_reducible refine gate_callee (f := 23) rfl ?_); refine goesL_ (some 24) rfl rfl Tryd.func23 (by kernel_rfl) rfl #[.int .i64 a0, .int .i64 a1] rfl (by (try simp only [List.map_toArray, List.map_cons, List.map_nil]); first | done | rfl | (simp only [List.length_drop, List.length_take]; rfl)) ?_; (with_reducible refine (unit_First.calls a0 a1 t146 t147 _ A5.out (by first | exact hT | ((repeat (first | exact hT | apply LenTab.drewN)); done) | (refine LenTab.below hT ?_; repeat (first | (with_reducible first | exact HB.out | apply below_alloc | apply pw_below_drewN | apply below_drew1) | exact HB.out)))).mono ?_); rintro e w63 ⟨rfl, hb⟩; refine ⟨_, rfl, ?_⟩; have n0_ := Aside0.mk (below_step (by repeat (first | (with_reducible first | exact HB.out | apply below_alloc | apply pw_below_drewN | apply below_drew1) | exact HB.out)) hb); clear HB; have HB := n0_; clear n0_; (try clear hb); (try clear hb2); (try clear hk); (try clear hi)) | ((with_reducible refine gate_callee (f := 24) rfl ?_); refine goesL_ (some 30) rfl rfl Tryd.func24 (by kernel_rfl) rfl #[.int .i64 a0, .int .i64 a1] rfl (by (try simp only [List.map_toArray, List.map_cons, List.map_nil]); first | done | rfl | (simp only [List.length_drop, List.length_take]; rfl)) ?_; (with_reducible refine (lustrumref03_First.calls k a0 a1 t148 t149 _ A6.out).mono ?_); rintro e w' ⟨rfl, ⟨nd, rfl⟩⟩; refine ⟨_, rfl, ?_⟩) | ((with_reducible refine gate_callee (f := 25) rfl ?_); refine goesL_ (some 36) rfl rfl Tryd.func25 (by kernel_rfl) rfl #[.int .i64 a0, .int .i64 a1] rfl (by (try simp only [List.map_toArray, List.map_cons, List.map_nil]); first | done | rfl | (simp only [List.length_drop, List.length_take]; rfl)) ?_; (with_reducible refine (unit_Last.calls a0 a1 t150 t151 _ A7.out (by first | exact hT | ((repeat (first | exact hT | apply LenTab.drewN)); done) | (refine LenTab.below hT ?_; repeat (first | (with_reducible first | exact HB.out | apply below_alloc | apply pw_below_drewN | apply below_drew1) | exact HB.out)))).mono ?_); rintro e w64 ⟨rfl, hb⟩; refine ⟨_, rfl, ?_⟩; have n0_ := Aside0.mk (below_step (by repeat (first | (with_reducible first | exact HB.out | apply below_alloc | apply pw_below_drewN | apply below_drew1) | exact HB.out)) hb); clear HB; have HB := n0_; clear n0_; (try clear hb); (try clear hb2); (try clear hk); (try clear hi)) | ((with_reducible refine gate_callee (f := 26) rfl ?_); refine goesL_ (some 42) rfl rfl Tryd.func26 (by kernel_rfl) rfl #[.int .i64 a0, .int .i64 a1] rfl (by (try simp only [List.map_toArray, List.map_cons, List.map_nil]); first | done | rfl | (simp only [List.length_drop, List.length_take]; rfl)) ?_; (with_reducible refine (lustrumref03_Last.calls k a0 a1 t152 t153 _ A8.out).mono ?_); rintro e w' ⟨rfl, ⟨nd, rfl⟩⟩; refine ⟨_, rfl, ?_⟩) | ((with_reducible refine gate_callee (f := 27) rfl ?_); refine goesL_ (some 48) rfl rfl Tryd.func27 (by kernel_rfl) rfl #[.int .i64 a0, .int .i64 a2] rfl (by (try simp only [List.map_toArray, List.map_cons, List.map_nil]); first | done | rfl | (simp only [List.length_drop, List.length_take]; rfl)) ?_; (with_reducible refine (unit_Of.calls a0 a2 t154 t155 _ A9.out (by first | exact hT | ((repeat (first | exact hT | apply LenTab.drewN)); done) | (refine LenTab.below hT ?_; repeat (first | (with_reducible first | exact HB.out | apply below_alloc | apply pw_below_drewN | apply below_drew1) | exact HB.out)))).mono ?_); rintro e w65 ⟨rfl, hb⟩; refine ⟨_, rfl, ?_⟩; have n0_ := Aside0.mk (below_step (by repeat (first | (with_reducible first | exact HB.out | apply below_alloc | apply pw_below_drewN | apply below_drew1) | exact HB.out)) hb); clear HB; have HB := n0_; clear n0_; (try clear hb); (try clear hb2); (try clear hk); (try clear hi)) | ((with_reducible refine gate_callee (f := 28) rfl ?_); refine goesL_ (some 54) rfl rfl Tryd.func28 (by kernel_rfl) rfl #[.int .i64 a0, .int .i64 a2] rfl (by (try simp only [List.map_toArray, List.map_cons, List.map_nil]); first | done | rfl | (simp only [List.length_drop, List.length_take]; rfl)) ?_; (with_reducible refine (lustrumref03_Of.calls k a0 a2 t156 t157 _ A10.out).mono ?_); rintro e w66 ⟨rfl, hb⟩; refine ⟨_, rfl, ?_⟩; have n0_ := Aside0.mk (below_step (by repeat (first | (with_reducible first | exact HB.out | apply below_alloc | apply pw_below_drewN | apply below_drew1) | exact HB.out)) hb); clear HB; have HB := n0_; clear n0_; (try clear hb); (try clear hb2); (try clear hk); (try clear hi)))
    go_ret
    exact ⟨by first | rfl | (simp [errW_none, errW_some] <;> rfl) | (simp [*, errW_none, errW_some] <;> rfl), by repeat (first | (with_reducible first | exact HB.out | apply below_alloc | apply pw_below_drewN | apply below_drew1) | exact HB.out)⟩

/-- THE ONE PURE STATEMENT of lustrumlaw03_UnitIs: yours. -/
def lustrumlaw03_UnitIs.Pure : Prop := ∀ (a0 : Int) (a1 : Int) (a2 : Int), (Lit.int .i64 a0).wf = true → (Lit.int .i64 a1).wf = true → (Lit.int .i64 a2).wf = true → ∃ k, lustrumlaw03_UnitIs.f k a0 a1 a2 = some true
theorem lustrumlaw03_UnitIs.walk (P : lustrumlaw03_UnitIs.Pure) (a0 : Int) (a1 : Int) (a2 : Int) (w : World) (w0 : (Lit.int .i64 a0).wf = true) (w1 : (Lit.int .i64 a1).wf = true) (w2 : (Lit.int .i64 a2).wf = true) (hT : LenTab w) :
    Calls Tryd.prog 8 #[.int .i64 a0, .int .i64 a1, .int .i64 a2] w fun e w' => e = .returned (.bool true) ∧ Below w.heap.size w w' := by
  obtain ⟨k, h⟩ := P a0 a1 a2 w0 w1 w2
  refine (lustrumlaw03_UnitIs.calls k a0 a1 a2 true w h hT).mono ?_
  rintro e w' ⟨rfl, hd⟩
  exact ⟨rfl, hd⟩

end Go.Proofs.YtbnlndiphflmpaaDoor.PU
