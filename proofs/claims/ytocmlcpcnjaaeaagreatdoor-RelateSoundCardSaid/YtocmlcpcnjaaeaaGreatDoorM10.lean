/- The calculus of the program's functions and their contracts, part 10. No condition of its own. -/
import Derived.Test.YtocmlcpcnjaaeaaGreatDoorM9


/- The document's answer for layer 20: what its functions answer. No condition of its own. -/
namespace Go.Proofs.YtocmlcpcnjaaeaaGreatDoor.V
open Go
set_option linter.unusedVariables false
set_option linter.unusedSimpArgs false
set_option linter.unusedSectionVars false

theorem clip_app (s t : Runs) (lo hi : Int) : clipF (s ++ t) lo hi = clipF s lo hi ++ clipF t lo hi := by unfold clipF; rw [List.filterMap_append]

theorem clip_none {s : Runs} {lo hi : Int} (h : ∀ r ∈ s, r.2 < lo ∨ hi < r.1) : clipF s lo hi = [] := by
  unfold clipF
  rw [List.filterMap_eq_nil_iff]
  intro r hr
  rw [if_neg]
  rcases h r hr with q | q <;> omega

theorem split_at : ∀ (s : Runs) (a m : Int), SaneFrom a s → ∃ s1 s2, s = s1 ++ s2 ∧ (∀ r ∈ s1, r.2 ≤ m) ∧ (∃ b, SaneFrom b s2) ∧ (s2 = [] ∨ ∃ y t, s2 = y :: t ∧ ∀ r ∈ t, m < r.1)
  | [], a, m, h => ⟨[], [], rfl, fun r hr => (by cases hr), ⟨a, h⟩, .inl rfl⟩
  | y :: t, a, m, h => by
    by_cases q : y.2 ≤ m
    · obtain ⟨s1, s2, e, h1, h2, h3⟩ := split_at t y.2 m h.2.2.2
      refine ⟨y :: s1, s2, by rw [e]; rfl, fun r hr => ?_, h2, h3⟩
      rcases List.mem_cons.1 hr with rfl | hr
      · exact q
      · exact h1 r hr
    · refine ⟨[], y :: t, rfl, fun r hr => (by cases hr), ⟨a, h⟩, .inr ⟨y, t, rfl, fun r hr => ?_⟩⟩
      have := (SaneFrom.lt h.2.2.2 r hr).1
      omega

theorem meet_len : ∀ {s : Runs} {a : Int} (t : Runs) {b : Int}, SaneFrom a s → SaneFrom b t → (meetF s t).length ≤ s.length + t.length
  | [], a, t, b, _, _ => by simp [meetF]
  | x :: s, a, t, b, hs, ht => by
    obtain ⟨t1, t2, rfl, h1, ⟨b2, h2⟩, h3⟩ := split_at t b x.2 ht
    have e : meetF s (t1 ++ t2) = meetF s t2 := by
      unfold meetF
      simp only [List.flatMap_def]
      congr 1
      refine List.map_congr_left fun y hy => ?_
      rw [clip_app, clip_none (s := t1) fun r hr => .inl (by have := (SaneFrom.lt hs.2.2.2 y hy).1; have := h1 r hr; omega), List.nil_append]
    have ih := meet_len (s := s) t2 hs.2.2.2 h2
    have hc : (clipF t2 x.1 x.2).length ≤ 1 := by
      rcases h3 with rfl | ⟨y, t, rfl, h3⟩
      · simp [clipF]
      · have : clipF (y :: t) x.1 x.2 = clipF [y] x.1 x.2 ++ clipF t x.1 x.2 := clip_app [y] t x.1 x.2
        rw [this, clip_none (s := t) fun r hr => .inr (h3 r hr), List.append_nil]
        exact clip_length [y] x.1 x.2
    have hc1 := clip_length t1 x.1 x.2
    have : meetF (x :: s) (t1 ++ t2) = clipF (t1 ++ t2) x.1 x.2 ++ meetF s (t1 ++ t2) := rfl
    rw [this, e, clip_app]
    simp only [List.length_append, List.length_cons]
    omega

theorem meet_R {a b : Runs} (ha : Sane a) (hb : Sane b) : MeetR a b (meetF a b) := ⟨meet_sane ha hb, meet_len b ha hb, fun n => mem_meet⟩

theorem ok_ref05_MeetS {a b : Runs} (hla : a.length ≤ 1000) (hlb : b.length ≤ 1000) (ha : Sane a) (hb : Sane b) : FnE bs n_lustrumref05_Meet ((Shape.pair (.slice sRun) (.slice sRun)).compsE (a, b)) (.slice sRun) (MeetR a b) := by
  have := ok_ref05_Meet (a := a) (b := b) hla hlb
  rw [make_self ha, make_self hb] at this
  exact this.mono fun r hr => by rw [hr]; exact meet_R ha hb

theorem ok_ref04_NextS {s : Runs} {n : Int} (hl : s.length ≤ 100000) (h : Sane s) : FnE bs n_lustrumref04_Next ((Shape.pair (.slice sRun) (.int .i64)).compsE (s, n)) (.tup (.pair (.int .i64) .bool)) (NextR s n) := by
  have := ok_ref04_Next (s := s) (n := n) hl
  rw [make_self h] at this
  exact this

theorem ok_ref04_Prev {s : Runs} {n : Int} (hl : s.length ≤ 100000) (h : Sane s) : FnE bs n_lustrumref04_Prev ((Shape.pair (.slice sRun) (.int .i64)).compsE (s, n)) (.tup (.pair (.int .i64) .bool)) (PrevR s n) := by
  refine ok_of (e_lustrumref04_Prev (s, n) _) rfl ?_
  unfold c_lustrumref04_Prev
  refine callP_eq (ok_ref04_As hl) ?_
  rw [make_self h]
  refine loopP_of (fun z : Int => ∃ k : Nat, z = (k : Int) - 1 ∧ k ≤ s.length ∧ ∀ (i : Nat) r, k ≤ i → s[i]? = some r → n < r.1) (fun z => (z + 1).toNat) ?_ ⟨s.length, by rw [w64_of (by omega)], Nat.le_refl _, fun i r h1 h2 => by have := (List.getElem?_eq_some_iff.1 h2).1; omega⟩
  rintro _ A ⟨k, rfl, hk, hi⟩ back
  refine cond_dec (fun h1 => ?_) fun h1 => ?_
  · have h1 : (0 : Int) ≤ (k : Int) - 1 := h1
    have hk' : k - 1 < s.length := by omega
    have e : (k : Int) - 1 = ((k - 1 : Nat) : Int) := by omega
    have hg := List.getElem?_eq_getElem hk'
    have hm := List.getElem_mem hk'
    generalize s[k - 1] = r at hg hm
    rw [e, toNat_ofNat, rd_of (s := sRun) hg]
    have hin : (0 : Int) ≤ ((k - 1 : Nat) : Int) ∧ ((k - 1 : Nat) : Int) < (s.length : Int) := by omega
    have hb := Sane.bounds h r hm
    refine ⟨hin, cond_dec (fun h2 => ⟨hin, .inr ⟨rfl, ?_, ?_, ?_⟩⟩) fun h2 => ?_⟩
    · have h2 : r.1 ≤ n := h2
      refine ⟨r, hm, ?_, ?_⟩ <;> dsimp only <;> unfold minI <;> split <;> omega
    · dsimp only; unfold minI; split <;> omega
    · rintro m ⟨q, hq, q1, q2⟩ hmn
      have h2 : r.1 ≤ n := h2
      obtain ⟨j, hj⟩ := List.getElem?_of_mem hq
      have hj1 : j < k := by
        by_cases hjk : k ≤ j
        · have := hi j q hjk hj; omega
        · omega
      have := sane_le h hj hg (by omega)
      dsimp only; unfold minI; split <;> omega
    · have h2 : ¬ r.1 ≤ n := h2
      rw [w64_of (by omega)]
      refine back _ ⟨k - 1, rfl, by omega, fun i q h3 h4 => ?_⟩ (by omega)
      by_cases e2 : i = k - 1
      · subst e2; rw [hg] at h4; cases h4; omega
      · exact hi i q (by omega) h4
  · have h1 : ¬ (0 : Int) ≤ (k : Int) - 1 := h1
    refine .inl ⟨rfl, fun m ⟨q, hq, q1, q2⟩ => ?_⟩
    obtain ⟨j, hj⟩ := List.getElem?_of_mem hq
    have := hi j q (by omega) hj
    omega

theorem ok_ref05_Shift1 {s : Runs} (hl : s.length ≤ 1000) (h : Within s 3652424) : FnE bs n_lustrumref05_Shift ((Shape.pair (.slice sRun) (.int .i64)).compsE (s, 1)) (.slice sRun) (fun r => Sane r ∧ r.length ≤ 1000 ∧ ∀ n, mem r n ↔ mem s (n - 1)) := by
  refine ok_of (e_lustrumref05_Shift (s, 1) _) rfl ?_
  unfold c_lustrumref05_Shift
  refine cond_dec (fun q => by exact absurd (show (2199023255552 : Int) < 1 from q) (by decide)) fun _ => cond_dec (fun q => by exact absurd (show (1 : Int) < -2199023255552 from q) (by decide)) fun _ => ?_
  refine callP_eq (ok_ref04_As (by dsimp only; omega)) ?_
  rw [make_self h.1]
  refine loopP_of (fun z : Unit × Int × Runs => ∃ j : Nat, z.2.1 = j ∧ j ≤ s.length ∧ z.2.2 = shiftF (s.take j) 1) (fun z => s.length - z.2.1.toNat) ?_ ⟨0, rfl, Nat.zero_le _, rfl⟩
  rintro ⟨u, _, acc⟩ A ⟨j, e1, hj, e2⟩ back
  dsimp only at e1 e2 ⊢
  subst e1
  subst e2
  refine cond_dec (fun h1 => ⟨⟨by omega, h1⟩, ⟨by omega, h1⟩, ?_⟩) fun h1 => ?_
  · have h1 : (j : Int) < s.length := h1
    have hj' : j < s.length := by omega
    have hg := List.getElem?_eq_getElem hj'
    have hb := Sane.bounds h.1 s[j] (List.getElem_mem hj')
    generalize s[j] = r at hg hb
    unfold Lim at hb
    rw [toNat_ofNat, rd_of (s := sRun) hg, w_succ (by omega), w64_of (n := r.1 + 1) (by omega), w64_of (n := r.2 + 1) (by omega)]
    have hsl : (shiftF (s.take j) 1).length = j := by unfold shiftF; rw [List.length_map, List.length_take]; omega
    refine ⟨?_, back ((), ((j + 1 : Nat) : Int), _) ⟨j + 1, rfl, hj', ?_⟩ (by dsimp only; omega)⟩
    · rw [hsl]; simp only [List.length_cons, List.length_nil]; omega
    · rw [List.take_add_one, hg]
      unfold shiftF
      rw [List.map_append]
      rfl
  · have hjl : j = s.length := by have h1 : ¬ (j : Int) < s.length := h1; omega
    subst hjl
    rw [List.take_length]
    refine callP_eq (ok_ref04_Make (by unfold shiftF; rw [List.length_map]; omega)) ⟨make_sane _, Nat.le_trans (make_length _) (by unfold shiftF; rw [List.length_map]; exact hl), fun n => ?_⟩
    rw [mem_make]
    unfold memL
    rw [mem_shift]
    constructor
    · exact fun q => q.2.2
    · intro q
      have := Within.bounds h q
      unfold Lim
      exact ⟨by omega, by omega, q⟩

theorem ok_ref18_Has {a r : Int} {P : Nat → Prop} (ha : IsMask a P) : FnE bs n_lustrumref18_Has ((Shape.pair (.int .i64) (.int .i64)).compsE (a, r)) .bool (fun b => b = true ↔ (0 ≤ r ∧ r ≤ 12 ∧ P r.toNat)) := by
  refine ok_of (e_lustrumref18_Has (a, r) _) rfl ?_
  unfold c_lustrumref18_Has
  refine cond_dec (fun h1 => cond_dec (fun h2 => ?_) fun h2 => ?_) fun h1 => ?_
  · have h1 : 0 ≤ r := h1
    have h2 : r ≤ 12 := h2
    obtain ⟨k, rfl⟩ := Int.eq_ofNat_of_zero_le h1
    rw [wrapU (by omega), toNat_ofNat]
    refine ⟨⟨h1, by show (k : Int) < 64; omega⟩, ?_⟩
    show decide _ = true ↔ _
    rw [decide_eq_true_iff]
    exact (ha.bit (k := k) (by omega)).trans ⟨fun q => ⟨h1, h2, q⟩, fun q => q.2.2⟩
  · have h2 : ¬ r ≤ 12 := h2
    exact ⟨fun q => (by cases q), fun q => (h2 q.2.1).elim⟩
  · have h1 : ¬ 0 ≤ r := h1
    exact ⟨fun q => (by cases q), fun q => (h1 q.1).elim⟩

theorem ok_ref18_Flip {a : Int} {P : Nat → Prop} (ha : IsMask a P) : FnE bs n_lustrumref18_Flip ((Shape.int .i64).compsE a) (.int .i64) (fun n => IsMask n (fun k => P (12 - k))) := by
  refine ok_of (e_lustrumref18_Flip a _) rfl ?_
  unfold c_lustrumref18_Flip
  refine loopP_of (fun z : Int × Int => ∃ k : Nat, z.2 = k ∧ k ≤ 13 ∧ IsMask z.1 (fun j => 12 - j < k ∧ P (12 - j))) (fun z => 13 - z.2.toNat) ?_ ⟨0, rfl, Nat.zero_le _, IsMask.zero.iff fun k _ => ⟨False.elim, fun q => by omega⟩⟩
  rintro ⟨mask, _⟩ A ⟨k, e1, hk, hm⟩ back
  dsimp only at e1 hm ⊢
  subst e1
  refine cond_dec (fun h1 => ?_) fun h1 => ?_
  · have h1 : (k : Int) ≤ 12 := h1
    have hk' : k < 13 := by omega
    have e12 : (12 : Int) - (k : Int) = ((12 - k : Nat) : Int) := by omega
    rw [w_succ (by omega), w64_of (n := 12 - (k : Int)) (by omega), e12, wrapU (by omega), toNat_ofNat]
    refine callP_of (ok_ref18_Has ha) fun b hb => ?_
    rw [toNat_ofNat] at hb
    refine cond_bool (fun q => ⟨⟨by omega, by show ((12 - k : Nat) : Int) < 64; omega⟩, ?_⟩) fun q => ?_
    · have hp := (hb.1 q).2.2
      refine back (_, ((k + 1 : Nat) : Int)) ⟨k + 1, rfl, hk', ?_⟩ (by dsimp only; omega)
      refine (hm.or (IsMask.one (k := 12 - k) (by omega))).iff fun i hi => ⟨?_, ?_⟩
      · rintro (q | rfl)
        · exact ⟨by omega, q.2⟩
        · refine ⟨by omega, ?_⟩
          rw [show 12 - (12 - k) = k by omega]; exact hp
      · rintro ⟨q1, q2⟩
        by_cases e : 12 - i = k
        · exact .inr (by omega)
        · exact .inl ⟨by omega, q2⟩
    · have hp : ¬ P k := fun hp => by rw [hb.2 ⟨by omega, h1, hp⟩] at q; cases q
      refine back (_, ((k + 1 : Nat) : Int)) ⟨k + 1, rfl, hk', ?_⟩ (by dsimp only; omega)
      refine hm.iff fun i hi => ⟨fun q => ⟨by omega, q.2⟩, fun q => ⟨?_, q.2⟩⟩
      by_cases e : 12 - i = k
      · exact absurd (e ▸ q.2) hp
      · omega
  · have h1 : ¬ (k : Int) ≤ 12 := h1
    exact hm.iff fun i hi => ⟨fun q => q.2, fun q => ⟨by omega, q⟩⟩

theorem ok_ref20_low {s : Runs} (h : s ≠ []) : FnE bs n_lustrumref20_low ((Shape.slice sRun).compsE s) (.int .i64) (· = loF s) := by
  refine ok_of (e_lustrumref20_low s _) rfl ?_
  unfold c_lustrumref20_low
  exact ⟨first_in h, rd_lo h⟩

theorem ok_ref20_high {s : Runs} (h : s ≠ []) (hl : s.length ≤ 1000000000) : FnE bs n_lustrumref20_high ((Shape.slice sRun).compsE s) (.int .i64) (· = hiF s) := by
  refine ok_of (e_lustrumref20_high s _) rfl ?_
  unfold c_lustrumref20_high
  exact ⟨last_in h hl, rd_hi h hl⟩

theorem ok_ref20_bit {k : Nat} {b : Bool} (hk : k ≤ 12) : FnE bs n_lustrumref20_bit ((Shape.pair (.int .i64) .bool).compsE ((k : Int), b)) (.int .i64) (fun n => IsMask n (fun j => j = k ∧ b = true)) := by
  refine ok_of (e_lustrumref20_bit ((k : Int), b) _) rfl ?_
  unfold c_lustrumref20_bit
  rw [wrapU (by omega), toNat_ofNat]
  refine cond_bool (fun h => ⟨⟨by omega, by show (k : Int) < 64; omega⟩, ?_⟩) fun h => ?_
  · have h : b = true := h
    exact (IsMask.one hk).iff fun j _ => ⟨fun q => ⟨q, h⟩, fun q => q.1⟩
  · have h : b = false := h
    exact IsMask.zero.iff fun j _ => ⟨False.elim, fun q => by have q2 := q.2; rw [h] at q2; cases q2⟩

/-- A bit that is a relation's. -/
theorem bit_of {k : Nat} {b : Bool} {P : Prop} (hk : k ≤ 12) (h : b = true ↔ P) {n : Int} (hn : IsMask n (fun j => j = k ∧ b = true)) : IsMask n (fun j => j = k ∧ P) :=
  hn.iff fun j _ => ⟨fun q => ⟨q.1, h.1 q.2⟩, fun q => ⟨q.1, h.2 q.2⟩⟩

/-- A view with few runs. -/
def Small (x : View) : Prop := x.2.1.length ≤ 400 ∧ x.2.2.length ≤ 400

section
variable {x y : View} (hx : VOK x) (hy : VOK y) (sx : Small x) (sy : Small y)
include hx hy sx sy

theorem ok_ref20_apart : FnE bs n_lustrumref20_apart ((Shape.pair sRelateView sRelateView).compsE (x, y)) (.int .i64) (fun n => IsMask n (fun k => (k = 0 ∧ Rel 0 x y) ∨ (k = 1 ∧ Rel 1 x y))) := by
  refine ok_of (e_lustrumref20_apart (x, y) _) rfl ?_
  unfold c_lustrumref20_apart
  have hb := Within.bounds hx.wb (mem_lo hx.wb.1 hx.nb)
  refine callP_eq (ok_ref20_low hx.nb) (callP_eq (ok_ref20_high hy.na (Nat.le_trans hy.la (by decide))) ?_)
  rw [w64_of (by dsimp only; omega)]
  refine callP_of (ok_ref20_bit (k := 0) (by decide)) fun a ha => ?_
  have ha := bit_of (P := Rel 0 x y) (by decide) (by rw [decide_eq_true_iff]; exact before_iff hx hy) ha
  refine callP_of (ok_ref05_Shift1 hx.lb hx.wb) fun s hs => ?_
  refine callP_of (ok_ref05_MeetS (a := s) (b := y.2.1) hs.2.1 hy.la hs.1 hy.wa.1) fun r hr => ?_
  refine callP_of (ok_ref20_bit (k := 1) (by decide)) fun b hb => ?_
  have hb := bit_of (P := Rel 1 x y) (by decide) (by
    rw [decide_eq_true_iff, pos_mem hr.1, ← meets_iff hx hy]
    constructor
    · rintro ⟨n, hn⟩
      have := (hr.2.2 n).1 hn
      exact ⟨n - 1, (hs.2.2 n).1 this.1, by rw [show n - 1 + 1 = n by omega]; exact this.2⟩
    · rintro ⟨n, h1, h2⟩
      exact ⟨n + 1, (hr.2.2 _).2 ⟨(hs.2.2 _).2 (by rw [show n + 1 - 1 = n by omega]; exact h1), h2⟩⟩) hb
  exact ha.or hb

theorem ok_ref20_overlaps (ex : x.1 = false) (ey : y.1 = false) : FnE bs n_lustrumref20_overlaps ((Shape.pair sRelateView sRelateView).compsE (x, y)) .bool (fun r => r = true ↔ Rel 2 x y) := by
  refine ok_of (e_lustrumref20_overlaps (x, y) _) rfl ?_
  unfold c_lustrumref20_overlaps
  refine callP_eq (ok_ref20_low hx.na) ?_
  have hb := Within.bounds hx.wa (mem_lo hx.wa.1 hx.na)
  have hb2 := Within.bounds hy.wb (mem_hi hy.wb.1 hy.nb)
  rw [w64_of (by dsimp only; omega)]
  refine callP_of (ok_ref04_NextS (s := y.2.1) (n := loF x.2.1 + 1) (Nat.le_trans hy.la (by decide)) hy.wa.1) fun r hr => ?_
  refine callP_eq (ok_ref20_high hy.nb (Nat.le_trans hy.lb (by decide))) ?_
  rw [w64_of (by dsimp only; omega)]
  refine callP_of (ok_ref04_Prev (s := x.2.2) (n := hiF y.2.2 - 1) (Nat.le_trans hx.lb (by decide)) hx.wb.1) fun w hw => ?_
  have key := overlaps_iff hx hy ex ey hr hw
  refine cond_bool (fun h1 => cond_bool (fun h2 => ?_) fun h2 => ?_) fun h1 => ?_
  · show decide _ = true ↔ _
    rw [decide_eq_true_iff, ← key]
    exact ⟨fun q => ⟨h1, h2, q⟩, fun q => q.2.2⟩
  · rw [← key]
    exact ⟨fun q => (by cases q), fun q => (by rw [h2] at q; cases q.2.1)⟩
  · rw [← key]
    exact ⟨fun q => (by cases q), fun q => (by rw [h1] at q; cases q.1)⟩

theorem ok_ref20_starts (ex : x.1 = false) (ey : y.1 = false) : FnE bs n_lustrumref20_starts ((Shape.pair sRelateView sRelateView).compsE (x, y)) .bool (fun r => r = true ↔ Rel 3 x y) := by
  refine ok_of (e_lustrumref20_starts (x, y) _) rfl ?_
  unfold c_lustrumref20_starts
  refine callP_of (ok_ref05_MeetS (a := x.2.1) (b := y.2.1) hx.la hy.la hx.wa.1 hy.wa.1) fun c hc => ?_
  refine cond_dec (fun e => ⟨fun q => (by cases q), fun q => (starts_no hx hy hc.2.2 (.inl (len_zero.1 e)) q).elim⟩) fun nc => ?_
  have nc : c ≠ [] := fun e => nc (len_zero.2 e)
  refine callP_eq (ok_ref20_low nc) (callP_of (ok_ref04_NextS (s := x.2.2) (n := loF c) (Nat.le_trans hx.lb (by decide)) hx.wb.1) fun r hr0 => ?_)
  have hr := first_next hx ex ((hc.2.2 _).1 (mem_lo hc.1 nc)).1 hr0
  refine cond_yes hr.1 (callP_eq (ok_ref20_high hy.nb (Nat.le_trans hy.lb (by decide))) ?_)
  show decide _ = true ↔ _
  rw [decide_eq_true_iff]
  exact starts_iff hx hy ey hc.1 nc hc.2.2 hr

theorem ok_ref20_during (ex : x.1 = false) (ey : y.1 = false) : FnE bs n_lustrumref20_during ((Shape.pair sRelateView sRelateView).compsE (x, y)) .bool (fun r => r = true ↔ Rel 4 x y) := by
  refine ok_of (e_lustrumref20_during (x, y) _) rfl ?_
  unfold c_lustrumref20_during
  refine callP_eq (ok_ref20_low hy.na) ?_
  have hb := Within.bounds hy.wa (mem_lo hy.wa.1 hy.na)
  rw [w64_of (by dsimp only; omega)]
  refine callP_of (ok_ref04_NextS (s := x.2.1) (n := loF y.2.1 + 1) (Nat.le_trans hx.la (by decide)) hx.wa.1) fun w hw => ?_
  refine cond_not (fun e => ⟨fun q => (by cases q), fun q => (during_no hx hy hw (.inl e) q).elim⟩) fun ew => ?_
  have hm : mem x.2.1 w.1 := by
    rcases hw with ⟨e, _⟩ | ⟨_, q, _⟩
    · rw [e] at ew; cases ew
    · exact q
  refine callP_of (ok_ref04_NextS (s := x.2.2) (n := w.1) (Nat.le_trans hx.lb (by decide)) hx.wb.1) fun r hr0 => ?_
  have hr := first_next hx ex hm hr0
  refine cond_yes hr.1 (callP_eq (ok_ref20_high hy.nb (Nat.le_trans hy.lb (by decide))) ?_)
  show decide _ = true ↔ _
  rw [decide_eq_true_iff]
  exact during_iff hx hy ey hw ew hr

theorem ok_ref20_finishes (ex : x.1 = false) (ey : y.1 = false) : FnE bs n_lustrumref20_finishes ((Shape.pair sRelateView sRelateView).compsE (x, y)) .bool (fun r => r = true ↔ Rel 5 x y) := by
  refine ok_of (e_lustrumref20_finishes (x, y) _) rfl ?_
  unfold c_lustrumref20_finishes
  refine callP_of (ok_ref05_MeetS (a := x.2.2) (b := y.2.2) hx.lb hy.lb hx.wb.1 hy.wb.1) fun c hc => ?_
  refine cond_dec (fun e => ⟨fun q => (by cases q), fun q => (finishes_no hx hy hc.2.2 (.inl (len_zero.1 e)) q).elim⟩) fun nc => ?_
  have nc : c ≠ [] := fun e => nc (len_zero.2 e)
  have hcl : c.length ≤ 1000000000 := by have := hc.2.1; have := hx.lb; have := hy.lb; omega
  refine callP_eq (ok_ref20_high nc hcl) (callP_of (ok_ref04_Prev (s := x.2.1) (n := hiF c) (Nat.le_trans hx.la (by decide)) hx.wa.1) fun r hr0 => ?_)
  have hr := last_prev hx ex ((hc.2.2 _).1 (mem_hi hc.1 nc)).1 hr0
  refine cond_yes hr.1 (callP_eq (ok_ref20_low hy.na) ?_)
  show decide _ = true ↔ _
  rw [decide_eq_true_iff]
  exact finishes_iff hx hy ey hc.1 nc hc.2.2 hr

theorem ok_ref20_equals (ex : x.1 = false) (ey : y.1 = false) : FnE bs n_lustrumref20_equals ((Shape.pair sRelateView sRelateView).compsE (x, y)) .bool (fun r => r = true ↔ Rel 6 x y) := by
  refine ok_of (e_lustrumref20_equals (x, y) _) rfl ?_
  unfold c_lustrumref20_equals
  refine callP_of (ok_ref05_MeetS (a := x.2.1) (b := y.2.1) hx.la hy.la hx.wa.1 hy.wa.1) fun s hs => ?_
  refine callP_of (ok_ref05_MeetS (a := x.2.2) (b := y.2.2) hx.lb hy.lb hx.wb.1 hy.wb.1) fun t ht => ?_
  have hsl : s.length ≤ 1000000000 := by have := hs.2.1; have := hx.la; have := hy.la; omega
  have htl : t.length ≤ 1000000000 := by have := ht.2.1; have := hx.lb; have := hy.lb; omega
  refine cond_dec (fun h1 => cond_dec (fun h2 => ?_) fun h2 => ?_) fun h1 => ?_
  · have ns : s ≠ [] := fun e => by subst e; exact absurd (show (0 : Int) < 0 from h1) (by decide)
    have nt : t ≠ [] := fun e => by subst e; exact absurd (show (0 : Int) < 0 from h2) (by decide)
    refine callP_eq (ok_ref20_low ns) (callP_eq (ok_ref20_high nt htl) ?_)
    show decide _ = true ↔ _
    rw [decide_eq_true_iff]
    exact equals_iff hx hy ex ey hs.1 ht.1 ns nt hs.2.2 ht.2.2
  · have nt : t = [] := len_zero.1 (by have h2 : ¬ (0 : Int) < t.length := h2; omega)
    exact ⟨fun q => (by cases q), fun q => (equals_no hx hy hs.2.2 ht.2.2 (.inr nt) q).elim⟩
  · have ns : s = [] := len_zero.1 (by have h1 : ¬ (0 : Int) < s.length := h1; omega)
    exact ⟨fun q => (by cases q), fun q => (equals_no hx hy hs.2.2 ht.2.2 (.inl ns) q).elim⟩

theorem ok_ref20_half (ex : x.1 = false) (ey : y.1 = false) : FnE bs n_lustrumref20_half ((Shape.pair sRelateView sRelateView).compsE (x, y)) (.int .i64) (fun n => IsMask n (fun k => k ≤ 6 ∧ Rel k x y)) := by
  refine ok_of (e_lustrumref20_half (x, y) _) rfl ?_
  unfold c_lustrumref20_half
  refine callP_of (ok_ref20_apart hx hy sx sy) fun a ha => ?_
  refine callP_of (ok_ref20_overlaps hx hy sx sy ex ey) fun b2 p2 => callP_of (ok_ref20_bit (k := 2) (by decide)) fun r2 h2 => ?_
  refine callP_of (ok_ref20_starts hx hy sx sy ex ey) fun b3 p3 => callP_of (ok_ref20_bit (k := 3) (by decide)) fun r3 h3 => ?_
  refine callP_of (ok_ref20_during hx hy sx sy ex ey) fun b4 p4 => callP_of (ok_ref20_bit (k := 4) (by decide)) fun r4 h4 => ?_
  refine callP_of (ok_ref20_finishes hx hy sx sy ex ey) fun b5 p5 => callP_of (ok_ref20_bit (k := 5) (by decide)) fun r5 h5 => ?_
  refine callP_of (ok_ref20_equals hx hy sx sy ex ey) fun b6 p6 => callP_of (ok_ref20_bit (k := 6) (by decide)) fun r6 h6 => ?_
  refine (((((ha.or (bit_of (by decide) p2 h2)).or (bit_of (by decide) p3 h3)).or (bit_of (by decide) p4 h4)).or (bit_of (by decide) p5 h5)).or (bit_of (by decide) p6 h6)).iff fun k hk => ⟨?_, ?_⟩
  · rintro ((((((⟨rfl, q⟩ | ⟨rfl, q⟩) | ⟨rfl, q⟩) | ⟨rfl, q⟩) | ⟨rfl, q⟩) | ⟨rfl, q⟩) | ⟨rfl, q⟩)
    all_goals exact ⟨by decide, q⟩
  · rintro ⟨q1, q⟩
    match k, q1, q with
    | 0, _, q => exact .inl (.inl (.inl (.inl (.inl (.inl ⟨rfl, q⟩)))))
    | 1, _, q => exact .inl (.inl (.inl (.inl (.inl (.inr ⟨rfl, q⟩)))))
    | 2, _, q => exact .inl (.inl (.inl (.inl (.inr ⟨rfl, q⟩))))
    | 3, _, q => exact .inl (.inl (.inl (.inr ⟨rfl, q⟩)))
    | 4, _, q => exact .inl (.inl (.inr ⟨rfl, q⟩))
    | 5, _, q => exact .inl (.inr ⟨rfl, q⟩)
    | 6, _, q => exact .inr ⟨rfl, q⟩
end
end Go.Proofs.YtocmlcpcnjaaeaaGreatDoor.V


/- The document's answer for layer 20: relations of families. No condition of its own. -/
namespace Go.Proofs.YtocmlcpcnjaaeaaGreatDoor.V
open Go
set_option linter.unusedVariables false
set_option linter.unusedSimpArgs false
set_option linter.unusedSectionVars false

theorem relV_lo {k : Nat} {x y : View} (h : k ≤ 6) : RelV k x y ↔ Rel k x y := by
  unfold RelV Rel relK
  simp only [if_pos h]

theorem relV_hi {k : Nat} {x y : View} (h : ¬ k ≤ 6) (hk : k ≤ 12) : RelV k x y ↔ Rel (12 - k) y x := by
  unfold RelV Rel relK
  simp only [if_neg h]
  exact ⟨fun ⟨p, q, h1, h2, h3⟩ => ⟨q, p, h2, h1, h3.2⟩, fun ⟨p, q, h1, h2, h3⟩ => ⟨q, p, h2, h1, hk, h3⟩⟩

theorem relV_flip {k : Nat} {x y : View} (hk : k ≤ 12) : RelV (12 - k) y x ↔ RelV k x y :=
  ⟨fun ⟨p, q, h1, h2, h3⟩ => ⟨q, p, h2, h1, (relK_flip hk).1 h3⟩, fun ⟨p, q, h1, h2, h3⟩ => ⟨q, p, h2, h1, (relK_flip hk).2 h3⟩⟩

theorem rel_single_no {j : Nat} {x y : View} (hx : VOK x) (hy : VOK y) (e : y.1 = true) (h : 2 ≤ j ∧ j ≤ 5) : ¬ Rel j x y := by
  rintro ⟨p, q, hp, hq, hr⟩
  have h1 := ((PV.single e).1 hq).1
  have h2 := (hx.pv hp).1
  obtain ⟨a, b⟩ := h
  match j, a, b, hr with
  | 2, _, _, hr => obtain ⟨_, _, _⟩ := hr; omega
  | 3, _, _, hr => obtain ⟨_, _⟩ := hr; omega
  | 4, _, _, hr => obtain ⟨_, _⟩ := hr; omega
  | 5, _, _, hr => obtain ⟨_, _⟩ := hr; omega

section
variable {x y : View} (hx : VOK x) (hy : VOK y) (sx : Small x) (sy : Small y)
include hx hy sx sy

/-- The masks of a view of single days, joined. -/
theorem single_join (ex : x.1 = true) {P : Nat → Prop} (h0 : P 0 ↔ Rel 0 x y) (h1 : P 1 ↔ Rel 1 x y) (h3 : P 3 ↔ Rel 3 x y) (h4 : P 4 ↔ Rel 4 x y) (h5 : P 5 ↔ Rel 5 x y) (h6 : P 6 ↔ Rel 6 x y) (h11 : P 11 ↔ Rel 1 y x) (h12 : P 12 ↔ Rel 0 y x)
    (hno : ∀ k, k = 2 ∨ k = 7 ∨ k = 8 ∨ k = 9 ∨ k = 10 → ¬ P k) : ∀ k, k ≤ 12 → (P k ↔ RelV k x y) := by
  intro k hk
  have no : ∀ j, 2 ≤ j ∧ j ≤ 5 → ¬ Rel j y x := fun j hj => rel_single_no hy hx ex hj
  match k, hk with
  | 0, _ => rw [relV_lo (by decide)]; exact h0
  | 1, _ => rw [relV_lo (by decide)]; exact h1
  | 2, _ => rw [relV_lo (by decide)]; exact ⟨fun q => (hno 2 (by decide) q).elim, fun q => (overlaps_no hx hy (.inl ex) q).elim⟩
  | 3, _ => rw [relV_lo (by decide)]; exact h3
  | 4, _ => rw [relV_lo (by decide)]; exact h4
  | 5, _ => rw [relV_lo (by decide)]; exact h5
  | 6, _ => rw [relV_lo (by decide)]; exact h6
  | 7, _ => rw [relV_hi (by decide) (by decide)]; exact ⟨fun q => (hno 7 (by decide) q).elim, fun q => (no 5 (by decide) q).elim⟩
  | 8, _ => rw [relV_hi (by decide) (by decide)]; exact ⟨fun q => (hno 8 (by decide) q).elim, fun q => (no 4 (by decide) q).elim⟩
  | 9, _ => rw [relV_hi (by decide) (by decide)]; exact ⟨fun q => (hno 9 (by decide) q).elim, fun q => (no 3 (by decide) q).elim⟩
  | 10, _ => rw [relV_hi (by decide) (by decide)]; exact ⟨fun q => (hno 10 (by decide) q).elim, fun q => (no 2 (by decide) q).elim⟩
  | 11, _ => rw [relV_hi (by decide) (by decide)]; exact h11
  | 12, _ => rw [relV_hi (by decide) (by decide)]; exact h12

theorem ok_ref20_single (ex : x.1 = true) (ey : y.1 = false) : FnE bs n_lustrumref20_single ((Shape.pair sRelateView sRelateView).compsE (x, y)) (.int .i64) (fun n => IsMask n (fun k => RelV k x y)) := by
  refine ok_of (e_lustrumref20_single (x, y) _) rfl ?_
  unfold c_lustrumref20_single
  have hxb := hx.one ex
  refine callP_of (ok_ref05_MeetS (a := x.2.1) (b := y.2.1) hx.la hy.la hx.wa.1 hy.wa.1) fun c hc => ?_
  refine callP_of (ok_ref05_MeetS (a := x.2.1) (b := y.2.2) hx.la hy.lb hx.wa.1 hy.wb.1) fun d hd => ?_
  have hcl : c.length ≤ 1000 := by have := hc.2.1; have := sx.1; have := sy.1; omega
  have hdl : d.length ≤ 1000 := by have := hd.2.1; have := sx.1; have := sy.2; omega
  have hdm : ∀ n, mem d n ↔ mem x.2.2 n ∧ mem y.2.2 n := fun n => by rw [hxb]; exact hd.2.2 n
  refine callP_eq (ok_ref20_low hy.na) ?_
  have hb := Within.bounds hy.wa (mem_lo hy.wa.1 hy.na)
  rw [w64_of (by dsimp only; omega)]
  refine callP_of (ok_ref04_NextS (s := x.2.1) (n := loF y.2.1 + 1) (Nat.le_trans hx.la (by decide)) hx.wa.1) fun w hw => ?_
  refine callP_of (ok_ref20_apart hx hy sx sy) fun r5 h5 => callP_of (ok_ref20_apart hy hx sy sx) fun r6 h6 => callP_of (ok_ref18_Flip h6) fun r7 h7 => ?_
  have s3 : ∀ {K : Int → Prop}, (∀ r, IsMask r (fun k => k = 3 ∧ Rel 3 x y) → K r) → cond (decide ((0 : Int) < (c.length : Int))) (callP bs n_lustrumref20_low (.slice sRun) (.int .i64) c (fun r8 => callP bs n_lustrumref20_high (.slice sRun) (.int .i64) y.2.2 (fun r9 => callP bs n_lustrumref20_bit (.pair (.int .i64) .bool) (.int .i64) ((3 : Int), (decide (r8 < r9))) K))) (callP bs n_lustrumref20_bit (.pair (.int .i64) .bool) (.int .i64) ((3 : Int), false) K) := fun {K} hK => by
    refine cond_dec (fun q => ?_) fun q => ?_
    · have nc : c ≠ [] := fun e => by subst e; exact absurd (show (0 : Int) < 0 from q) (by decide)
      refine callP_eq (ok_ref20_low nc) (callP_eq (ok_ref20_high hy.nb (Nat.le_trans hy.lb (by decide))) (callP_of (ok_ref20_bit (k := 3) (by decide)) fun r hr => hK r (bit_of (by decide) ?_ hr)))
      rw [decide_eq_true_iff]
      exact starts_iff hx hy ey hc.1 nc hc.2.2 (first_single ex ((hc.2.2 _).1 (mem_lo hc.1 nc)).1)
    · have nc : c = [] := len_zero.1 (by have q : ¬ (0 : Int) < c.length := q; omega)
      exact callP_of (ok_ref20_bit (k := 3) (by decide)) fun r hr => hK r (bit_of (by decide) ⟨fun q => (by cases q), fun q => (starts_no hx hy hc.2.2 (.inl nc) q).elim⟩ hr)
  have s4 : ∀ {K : Int → Prop}, (∀ r, IsMask r (fun k => k = 4 ∧ Rel 4 x y) → K r) → cond w.2 (callP bs n_lustrumref20_high (.slice sRun) (.int .i64) y.2.2 (fun r9 => callP bs n_lustrumref20_bit (.pair (.int .i64) .bool) (.int .i64) ((4 : Int), (decide (w.1 < r9))) K)) (callP bs n_lustrumref20_bit (.pair (.int .i64) .bool) (.int .i64) ((4 : Int), false) K) := fun {K} hK => by
    refine cond_bool (fun q => ?_) fun q => ?_
    · have hm : mem x.2.1 w.1 := by
        rcases hw with ⟨e, _⟩ | ⟨_, q2, _⟩
        · rw [e] at q; cases q
        · exact q2
      refine callP_eq (ok_ref20_high hy.nb (Nat.le_trans hy.lb (by decide))) (callP_of (ok_ref20_bit (k := 4) (by decide)) fun r hr => hK r (bit_of (by decide) ?_ hr))
      rw [decide_eq_true_iff]
      exact during_iff (r := (w.1, true)) hx hy ey hw q (first_single ex hm)
    · exact callP_of (ok_ref20_bit (k := 4) (by decide)) fun r hr => hK r (bit_of (by decide) ⟨fun q => (by cases q), fun q2 => (during_no hx hy hw (.inl q) q2).elim⟩ hr)
  have s5 : ∀ {K : Int → Prop}, (∀ r, IsMask r (fun k => k = 5 ∧ Rel 5 x y) → K r) → cond (decide ((0 : Int) < (d.length : Int))) (callP bs n_lustrumref20_high (.slice sRun) (.int .i64) d (fun r8 => callP bs n_lustrumref20_low (.slice sRun) (.int .i64) y.2.1 (fun r9 => callP bs n_lustrumref20_bit (.pair (.int .i64) .bool) (.int .i64) ((5 : Int), (decide (r9 < r8))) K))) (callP bs n_lustrumref20_bit (.pair (.int .i64) .bool) (.int .i64) ((5 : Int), false) K) := fun {K} hK => by
    refine cond_dec (fun q => ?_) fun q => ?_
    · have nd : d ≠ [] := fun e => by subst e; exact absurd (show (0 : Int) < 0 from q) (by decide)
      refine callP_eq (ok_ref20_high nd (by omega)) (callP_eq (ok_ref20_low hy.na) (callP_of (ok_ref20_bit (k := 5) (by decide)) fun r hr => hK r (bit_of (by decide) ?_ hr)))
      rw [decide_eq_true_iff]
      exact finishes_iff hx hy ey hd.1 nd hdm (last_single hx ex ((hdm _).1 (mem_hi hd.1 nd)).1)
    · have nd : d = [] := len_zero.1 (by have q : ¬ (0 : Int) < d.length := q; omega)
      exact callP_of (ok_ref20_bit (k := 5) (by decide)) fun r hr => hK r (bit_of (by decide) ⟨fun q => (by cases q), fun q => (finishes_no hx hy hdm (.inl nd) q).elim⟩ hr)
  have s6 : ∀ {K : Int → Prop}, (∀ r, IsMask r (fun k => k = 6 ∧ Rel 6 x y) → K r) → callP bs n_lustrumref05_Meet (.pair (.slice sRun) (.slice sRun)) (.slice sRun) (c, d) (fun r16 => callP bs n_lustrumref20_bit (.pair (.int .i64) .bool) (.int .i64) ((6 : Int), (decide ((0 : Int) < (r16.length : Int)))) K) := fun {K} hK => by
    refine callP_of (ok_ref05_MeetS hcl hdl hc.1 hd.1) fun t ht => callP_of (ok_ref20_bit (k := 6) (by decide)) fun r hr => hK r (bit_of (by decide) ?_ hr)
    rw [decide_eq_true_iff, pos_mem ht.1, ← equals_one hx hy (.inl ex) hc.2.2 hdm]
    exact ⟨fun ⟨n, h⟩ => ⟨n, (ht.2.2 n).1 h⟩, fun ⟨n, h⟩ => ⟨n, (ht.2.2 n).2 h⟩⟩
  have fin : ∀ {a b cc dd : Int}, IsMask a (fun k => k = 3 ∧ Rel 3 x y) → IsMask b (fun k => k = 4 ∧ Rel 4 x y) → IsMask cc (fun k => k = 5 ∧ Rel 5 x y) → IsMask dd (fun k => k = 6 ∧ Rel 6 x y) →
      IsMask (w64 ((BitVec.ofInt 64 (w64 ((BitVec.ofInt 64 (w64 ((BitVec.ofInt 64 (w64 ((BitVec.ofInt 64 (w64 ((BitVec.ofInt 64 r5 ||| BitVec.ofInt 64 r7).toNat : Int)) ||| BitVec.ofInt 64 a).toNat : Int)) ||| BitVec.ofInt 64 b).toNat : Int)) ||| BitVec.ofInt 64 cc).toNat : Int)) ||| BitVec.ofInt 64 dd).toNat : Int)) (fun k => RelV k x y) := fun {a b cc dd} ha hb hcc hdd => by
    refine (((((h5.or h7).or ha).or hb).or hcc).or hdd).iff (single_join hx hy sx sy ex ?_ ?_ ?_ ?_ ?_ ?_ ?_ ?_ ?_) <;> simp
  exact s3 fun r10 h10 => s4 fun r12 h12 => s5 fun r15 h15 => s6 fun r17 h17 => fin h10 h12 h15 h17

theorem ok_ref20_both : FnE bs n_lustrumref20_both ((Shape.pair sRelateView sRelateView).compsE (x, y)) (.int .i64) (fun n => IsMask n (fun k => RelV k x y)) := by
  refine ok_of (e_lustrumref20_both (x, y) _) rfl ?_
  unfold c_lustrumref20_both
  refine cond_bool (fun ex => cond_bool (fun ey => ?_) fun ey => cond_yes ex (callP_of (ok_ref20_single hx hy sx sy ex ey) fun r hr => hr)) fun ex => cond_no ex (cond_bool (fun ey => ?_) fun ey => ?_)
  · have ex : x.1 = true := ex
    have ey : y.1 = true := ey
    refine callP_of (ok_ref20_apart hx hy sx sy) fun r1 h1 => callP_of (ok_ref20_apart hy hx sy sx) fun r2 h2 => callP_of (ok_ref18_Flip h2) fun r3 h3 => ?_
    refine callP_of (ok_ref05_MeetS (a := x.2.1) (b := y.2.1) hx.la hy.la hx.wa.1 hy.wa.1) fun c hc => callP_of (ok_ref20_bit (k := 6) (by decide)) fun r4 h4 => ?_
    have hcm : ∀ n, mem c n ↔ mem x.2.2 n ∧ mem y.2.2 n := fun n => by rw [hx.one ex, hy.one ey]; exact hc.2.2 n
    have h4 := bit_of (P := Rel 6 x y) (by decide) (by
      rw [decide_eq_true_iff, pos_mem hc.1, ← equals_one hx hy (.inl ex) hc.2.2 hcm]
      exact ⟨fun ⟨n, h⟩ => ⟨n, h, h⟩, fun ⟨n, h, _⟩ => ⟨n, h⟩⟩) h4
    have no : ∀ j, 2 ≤ j ∧ j ≤ 5 → ¬ Rel j x y := fun j hj => rel_single_no hx hy ey hj
    refine ((h1.or h3).or h4).iff (single_join hx hy sx sy ex ?_ ?_ ?_ ?_ ?_ ?_ ?_ ?_ ?_)
    all_goals try simp
    · exact no 3 (by decide)
    · exact no 4 (by decide)
    · exact no 5 (by decide)
  · have ex : x.1 = false := ex
    have ey : y.1 = true := ey
    refine callP_of (ok_ref20_single hy hx sy sx ey ex) fun r hr => callP_of (ok_ref18_Flip hr) fun r2 h2 => ?_
    exact h2.iff fun k hk => relV_flip hk
  · have ex : x.1 = false := ex
    have ey : y.1 = false := ey
    refine callP_of (ok_ref20_half hx hy sx sy ex ey) fun a ha => callP_of (ok_ref20_half hy hx sy sx ey ex) fun b hb => callP_of (ok_ref18_Flip hb) fun c hc => ?_
    exact both_masks ha hc
end
end Go.Proofs.YtocmlcpcnjaaeaaGreatDoor.V


/- Layer 20's laws, the first four. No condition of its own. -/
namespace Go.Proofs.YtocmlcpcnjaaeaaGreatDoor.V
open Go
set_option linter.unusedVariables false
set_option linter.unusedSimpArgs false
set_option linter.unusedSectionVars false

theorem ok_ref20_parts {f : Leaf} (hla : f.2.2.1.length ≤ 1000) (hlb : f.2.2.2.length ≤ 1000) : FnE bs n_lustrumref20_parts (sApiLeaf.compsE f) (.slice sRelateView) (· = viewsF f) := by
  refine ok_of (e_lustrumref20_parts f _) rfl ?_
  unfold c_lustrumref20_parts viewsF
  refine callP_eq (ok_ref14_Tidy (f := f) (by omega) (by omega)) ?_
  unfold tidyF
  rcases ho : ofF f with _ | ⟨u, s⟩ | ⟨a, b⟩
  · exact cond_yes rfl rfl
  · obtain ⟨h1, h2, rfl, rfl, h5, h6, h7⟩ := of_units ho
    dsimp only
    generalize f.2.1 = u at h6 h7
    generalize f.2.2.1 = s at *
    refine cond_dec (fun e => absurd (len_zero.1 e) h5) fun _ => cond_no rfl (cond_dec (fun e => ?_) fun e => ?_)
    · have e : u = 0 := e
      show _ = _
      rw [if_pos e]
    · have e : ¬ u = 0 := e
      have hcnt := VCal.ucount_pos u
      have hcp : 0 ≤ VCal.ucount u - 1 := by
        have := Within.bounds h6 (mem_lo h6.1 h5)
        omega
      have hnl := nums_len h6 hcp
      rw [if_neg e]
      refine loopP_of (fun z : Unit × Int × List View => ∃ k : Nat, z.2.1 = k ∧ k ≤ s.length ∧ z.2.2 = (nums (s.take k)).map (unitV u)) (fun z => s.length - z.2.1.toNat) ?_ ⟨0, rfl, Nat.zero_le _, rfl⟩
      rintro ⟨_, _, acc⟩ A ⟨k, e1, hk, e2⟩ back
      dsimp only at e1 e2 ⊢
      subst e1
      subst e2
      have hacc := nums_take (s := s) k
      refine cond_dec (fun h1 => ⟨⟨by omega, h1⟩, ?_⟩) fun h1 => ?_
      · have h1 : (k : Int) < s.length := h1
        have hk' : k < s.length := by omega
        have hg := List.getElem?_eq_getElem hk'
        have hrs := Sane.bounds h6.1 s[k] (List.getElem_mem hk')
        have hrm : ∀ n, s[k].1 ≤ n → n ≤ s[k].2 → mem s n := fun n q1 q2 => ⟨s[k], List.getElem_mem hk', q1, q2⟩
        generalize s[k] = r at hg hrs hrm
        have hr1 := Within.bounds h6 (hrm r.1 (Int.le_refl _) hrs.2.1)
        have hr2 := Within.bounds h6 (hrm r.2 hrs.2.1 (Int.le_refl _))
        rw [toNat_ofNat, rd_of (s := sRun) hg, w_succ (by omega)]
        have hs : nums (s.take (k + 1)) = nums (s.take k) ++ upTo r.1 r.2 := by
          rw [List.take_add_one, hg, nums_app]
          simp [nums]
        refine loopP_of (fun z : Unit × Int × List View => ∃ j : Nat, z.2.1 = r.1 + j ∧ r.1 + j ≤ r.2 + 1 ∧ z.2.2 = (nums (s.take k)).map (unitV u) ++ ((List.range j).map fun (q : Nat) => unitV u (r.1 + (q : Int)))) (fun z => (r.2 + 1 - z.2.1).toNat) ?_ ⟨0, by simp, by simp only [Int.ofNat_zero]; omega, by simp⟩
        rintro ⟨_, _, acc⟩ A ⟨j, e1, hj, e2⟩ back2
        dsimp only at e1 e2 ⊢
        subst e1
        subst e2
        refine ⟨⟨by omega, h1⟩, cond_dec (fun h3 => ?_) fun h3 => ?_⟩
        · have h3 : r.1 + (j : Int) ≤ r.2 := h3
          refine callP_eq ok_ref03_First (callP_eq ok_ref03_Last ?_)
          unfold firstS lastS
          rw [if_pos (by omega), if_pos (by omega)]
          refine ⟨?_, ?_⟩
          · simp only [List.length_append, List.length_map, List.length_range, List.length_cons, List.length_nil]
            omega
          · rw [w64_of (by omega)]
            refine back2 ((), r.1 + (j : Int) + 1, _) ⟨j + 1, by dsimp only; omega, by omega, ?_⟩ (by dsimp only; omega)
            rw [List.range_succ, List.map_append, ← List.append_assoc]
            rfl
        · have h3 : ¬ r.1 + (j : Int) ≤ r.2 := h3
          refine back ((), ((k + 1 : Nat) : Int), _) ⟨k + 1, rfl, hk', ?_⟩ (by dsimp only; omega)
          rw [hs, List.map_append]
          dsimp only
          congr 1
          rw [upTo_range, List.map_map, show (r.2 + 1 - r.1).toNat = j by omega]
          rfl
      · have hkl : k = s.length := by have h1 : ¬ (k : Int) < s.length := h1; omega
        subst hkl
        rw [List.take_length]
        rfl
  · obtain ⟨sa, sb, na, nb, _⟩ := span_ends ho
    dsimp only
    refine cond_dec (fun e => absurd (len_zero.1 e) na) fun _ => cond_yes rfl rfl

theorem ok_ref20_Wide {l : List Leaf} (hl : FewL 1000 l) (hn : l.length ≤ 1000) : FnE bs n_lustrumref20_Wide ((Shape.slice sApiLeaf).compsE l) .bool (· = wideB l) := by
  refine ok_of (e_lustrumref20_Wide l _) rfl ?_
  unfold c_lustrumref20_Wide
  refine loopP_of (fun z : Int => ∃ k : Nat, z = k ∧ k ≤ l.length ∧ wideB (l.take k) = false) (fun z => l.length - z.toNat) ?_ ⟨0, rfl, Nat.zero_le _, rfl⟩
  rintro _ A ⟨k, rfl, hk, hw⟩ back
  refine cond_dec (fun h1 => ⟨⟨by omega, h1⟩, ?_⟩) fun h1 => ?_
  · have h1 : (k : Int) < l.length := h1
    have hk' : k < l.length := by omega
    have hg := List.getElem?_eq_getElem hk'
    have hf := hl.2 l[k] (List.getElem_mem hk')
    have hmem := List.getElem_mem hk'
    generalize l[k] = f at hg hf hmem
    have ht : l.take (k + 1) = l.take k ++ [f] := by rw [List.take_add_one, hg]; rfl
    rw [toNat_ofNat, rd_of (s := sApiLeaf) hg, w_succ (by omega)]
    refine callP_eq (ok_ref14_Starts (f := f) (by omega) (by omega)) ⟨⟨by omega, h1⟩, callP_eq (ok_ref14_Ends (f := f) (by omega) (by omega)) ?_⟩
    have wide : (startsL f).2 = false ∨ (endsL f).2 = false → wideB l = true := fun q => by
      unfold wideB
      rw [List.any_eq_true]
      refine ⟨f, hmem, ?_⟩
      rcases q with q | q <;> simp [q]
    refine cond_not (fun e => (wide (.inl e)).symm) fun es => cond_not (fun e => (wide (.inr e)).symm) fun ee => ?_
    refine back _ ⟨k + 1, rfl, hk', ?_⟩ (by omega)
    rw [ht, wide_app, hw]
    have es : (startsL f).2 = true := es
    have ee : (endsL f).2 = true := ee
    simp [wideB, es, ee]
  · have hkl : k = l.length := by have h1 : ¬ (k : Int) < l.length := h1; omega
    subst hkl
    rw [List.take_length] at hw
    exact hw.symm

theorem flat_len (l : List Leaf) : (l.flatMap viewsF).length ≤ l.length * 3652425 := by
  induction l with
  | nil => simp
  | cons f l ih =>
    rw [List.flatMap_cons, List.length_append, List.length_cons]
    have := views_len (f := f)
    omega

theorem ok_ref20_all {l : List Leaf} (hl : FewL 1000 l) (hn : l.length ≤ 1000) : FnE bs n_lustrumref20_all ((Shape.slice sApiLeaf).compsE l) (.slice sRelateView) (· = l.flatMap viewsF) := by
  refine ok_of (e_lustrumref20_all l _) rfl ?_
  unfold c_lustrumref20_all
  refine loopP_of (fun z : Unit × Int × List View => ∃ k : Nat, z.2.1 = k ∧ k ≤ l.length ∧ z.2.2 = (l.take k).flatMap viewsF) (fun z => l.length - z.2.1.toNat) ?_ ⟨0, rfl, Nat.zero_le _, rfl⟩
  rintro ⟨_, _, acc⟩ A ⟨k, e1, hk, e2⟩ back
  dsimp only at e1 e2 ⊢
  subst e1
  subst e2
  refine cond_dec (fun h1 => ⟨⟨by omega, h1⟩, ?_⟩) fun h1 => ?_
  · have h1 : (k : Int) < l.length := h1
    have hk' : k < l.length := by omega
    have hg := List.getElem?_eq_getElem hk'
    have hf := hl.2 l[k] (List.getElem_mem hk')
    generalize l[k] = f at hg hf
    have ht : l.take (k + 1) = l.take k ++ [f] := by rw [List.take_add_one, hg]; rfl
    rw [toNat_ofNat, rd_of (s := sApiLeaf) hg, w_succ (by omega)]
    refine callP_eq (ok_ref20_parts (f := f) hf.1 hf.2) ?_
    have hv := views_len (f := f)
    have hlen := flat_len (l.take k)
    have hlt : (l.take k).length ≤ 1000 := by rw [List.length_take]; omega
    have hkm : (l.take k).length * 3652425 ≤ 1000 * 3652425 := Nat.mul_le_mul_right _ hlt
    refine ⟨by omega, back ((), ((k + 1 : Nat) : Int), _) ⟨k + 1, rfl, hk', ?_⟩ (by dsimp only; omega)⟩
    rw [ht, List.flatMap_append]
    simp
  · have hkl : k = l.length := by have h1 : ¬ (k : Int) < l.length := h1; omega
    subst hkl
    rw [List.take_length]

theorem views_small {f : Leaf} (hla : f.2.2.1.length ≤ 400) (hlb : f.2.2.2.length ≤ 400) : ∀ x ∈ viewsF f, Small x := by
  intro x hx
  unfold viewsF at hx
  rcases ho : ofF f with _ | ⟨u, s⟩ | ⟨a, b⟩
  · rw [ho] at hx; cases hx
  · rw [ho] at hx
    obtain ⟨h1, h2, rfl, rfl, h5, h6, h7⟩ := of_units ho
    dsimp only at hx
    split at hx
    · cases List.mem_singleton.1 hx
      exact ⟨hla, hla⟩
    · obtain ⟨i, hi, rfl⟩ := List.mem_map.1 hx
      exact ⟨by simp, by simp⟩
  · rw [ho] at hx
    cases List.mem_singleton.1 hx
    have hl := span_lens ho
    exact ⟨Nat.le_trans hl.1 hla, Nat.le_trans hl.2 hlb⟩

theorem ok_ref20_Relations {l m : List Leaf} (hl : FewL 400 l) (hnl : l.length ≤ 1000) (hm : FewL 400 m) (hnm : m.length ≤ 1000) : FnE bs n_lustrumref20_Relations ((Shape.pair (.slice sApiLeaf) (.slice sApiLeaf)).compsE (l, m)) (.tup (.pair (.int .i64) (.int .i64))) (· = relF l m) := by
  have hl1 := hl.mono (m := 1000) (by decide)
  have hm1 := hm.mono (m := 1000) (by decide)
  refine ok_of (e_lustrumref20_Relations (l, m) _) rfl ?_
  unfold c_lustrumref20_Relations
  have hvl : ∀ x ∈ l.flatMap viewsF, VOK x ∧ Small x := fun x hx => by
    obtain ⟨f, hf, hxf⟩ := List.mem_flatMap.1 hx
    exact ⟨views_ok (hl1.2 f hf).1 (hl1.2 f hf).2 x hxf, views_small (hl.2 f hf).1 (hl.2 f hf).2 x hxf⟩
  have hvm : ∀ x ∈ m.flatMap viewsF, VOK x ∧ Small x := fun x hx => by
    obtain ⟨f, hf, hxf⟩ := List.mem_flatMap.1 hx
    exact ⟨views_ok (hm1.2 f hf).1 (hm1.2 f hf).2 x hxf, views_small (hm.2 f hf).1 (hm.2 f hf).2 x hxf⟩
  have hlX := flat_len l
  have hlY := flat_len m
  have hX0 : l.length * 3652425 ≤ 1000 * 3652425 := Nat.mul_le_mul_right _ hnl
  have hY0 : m.length * 3652425 ≤ 1000 * 3652425 := Nat.mul_le_mul_right _ hnm
  have key : ∀ n : Int, IsMask n (fun j => ∃ x ∈ l.flatMap viewsF, ∃ y ∈ m.flatMap viewsF, RelV j x y) → wideB l = false → wideB m = false → (n, (0 : Int)) = relF l m := fun n hn h1 h2 => by
    unfold relF
    rw [if_neg (by simp [h1, h2])]
    have : n = (relMask l m : Nat) := hn.ext (relMask_is hl1 hm1) fun k _ => by
      constructor
      · rintro ⟨x, hx, y, hy, p, q, hp, hq, h⟩
        exact ⟨p, q, any_views.2 ⟨x, hx, hp⟩, any_views.2 ⟨y, hy, hq⟩, h⟩
      · rintro ⟨p, q, hp, hq, h⟩
        obtain ⟨x, hx, hp⟩ := any_views.1 hp
        obtain ⟨y, hy, hq⟩ := any_views.1 hq
        exact ⟨x, hx, y, hy, p, q, hp, hq, h⟩
    rw [this]
  refine callP_eq (ok_ref20_Wide hl1 hnl) (cond_bool (fun hwl => ?_) fun hwl => callP_eq (ok_ref20_Wide hm1 hnm) (cond_bool (fun hwm => ?_) fun hwm => ?_))
  · show _ = relF l m
    unfold relF
    rw [if_pos (by simp [show wideB l = true from hwl])]
  · show _ = relF l m
    unfold relF
    rw [if_pos (by simp [show wideB m = true from hwm])]
  · refine callP_eq (ok_ref20_all hl1 hnl) (callP_eq (ok_ref20_all hm1 hnm) ?_)
    have key := fun n h => key n h hwl hwm
    generalize hX : l.flatMap viewsF = X at *
    generalize hY : m.flatMap viewsF = Y at *
    refine loopP_of (fun z : Int × Int => ∃ k : Nat, z.2 = k ∧ k ≤ X.length ∧ IsMask z.1 (fun j => ∃ x ∈ X.take k, ∃ y ∈ Y, RelV j x y)) (fun z => X.length - z.2.toNat) ?_ ⟨0, rfl, Nat.zero_le _, IsMask.zero.iff fun k _ => ⟨False.elim, fun ⟨x, hx, _⟩ => by cases hx⟩⟩
    rintro ⟨mask, _⟩ A ⟨k, e1, hk, hmask⟩ back
    dsimp only at e1 hmask ⊢
    subst e1
    refine cond_dec (fun h1 => ?_) fun h1 => ?_
    · have h1 : (k : Int) < X.length := h1
      have hk' : k < X.length := by omega
      have hg := List.getElem?_eq_getElem hk'
      have hx := hvl X[k] (List.getElem_mem hk')
      generalize X[k] = x at hg hx
      have ht : X.take (k + 1) = X.take k ++ [x] := by rw [List.take_add_one, hg]; rfl
      rw [toNat_ofNat, rd_of (s := sRelateView) hg, w_succ (by omega)]
      refine loopP_of (fun z : Int × Int => ∃ i : Nat, z.2 = i ∧ i ≤ Y.length ∧ IsMask z.1 (fun j => (∃ x ∈ X.take k, ∃ y ∈ Y, RelV j x y) ∨ ∃ y ∈ Y.take i, RelV j x y)) (fun z => Y.length - z.2.toNat) ?_ ⟨0, rfl, Nat.zero_le _, hmask.iff fun k _ => ⟨.inl, fun q => q.elim id fun ⟨x, hx, _⟩ => by cases hx⟩⟩
      rintro ⟨mask2, _⟩ A2 ⟨i, e1, hi, hmask2⟩ back2
      dsimp only at e1 hmask2 ⊢
      subst e1
      refine cond_dec (fun h2 => ⟨⟨by omega, h1⟩, ⟨by omega, h2⟩, ?_⟩) fun h2 => ?_
      · have h2 : (i : Int) < Y.length := h2
        have hi' : i < Y.length := by omega
        have hg2 := List.getElem?_eq_getElem hi'
        have hy := hvm Y[i] (List.getElem_mem hi')
        generalize Y[i] = y at hg2 hy
        have ht2 : Y.take (i + 1) = Y.take i ++ [y] := by rw [List.take_add_one, hg2]; rfl
        rw [toNat_ofNat, rd_of (s := sRelateView) hg2, w_succ (by omega)]
        refine callP_of (ok_ref20_both hx.1 hy.1 hx.2 hy.2) fun a ha => ?_
        refine back2 (_, ((i + 1 : Nat) : Int)) ⟨i + 1, rfl, hi', ?_⟩ (by dsimp only; omega)
        refine (hmask2.or ha).iff fun j _ => ?_
        rw [ht2]
        constructor
        · rintro ((q | ⟨y', hy', q⟩) | q)
          · exact .inl q
          · exact .inr ⟨y', List.mem_append_left _ hy', q⟩
          · exact .inr ⟨y, by simp, q⟩
        · rintro (q | ⟨y', hy', q⟩)
          · exact .inl (.inl q)
          · rcases List.mem_append.1 hy' with hy' | hy'
            · exact .inl (.inr ⟨y', hy', q⟩)
            · cases List.mem_singleton.1 hy'; exact .inr q
      · have hil : i = Y.length := by have h2 : ¬ (i : Int) < Y.length := h2; omega
        subst hil
        rw [List.take_length] at hmask2
        refine back (_, ((k + 1 : Nat) : Int)) ⟨k + 1, rfl, hk', ?_⟩ (by dsimp only; omega)
        refine hmask2.iff fun j _ => ?_
        rw [ht]
        constructor
        · rintro (⟨x', hx', q⟩ | q)
          · exact ⟨x', List.mem_append_left _ hx', q⟩
          · exact ⟨x, by simp, q⟩
        · rintro ⟨x', hx', q⟩
          rcases List.mem_append.1 hx' with hx' | hx'
          · exact .inl ⟨x', hx', q⟩
          · cases List.mem_singleton.1 hx'; exact .inr q
    · have hkl : k = X.length := by have h1 : ¬ (k : Int) < X.length := h1; omega
      subst hkl
      rw [List.take_length] at hmask
      exact key _ hmask

theorem ok_ref20_Can {l m : List Leaf} {r : Int} (hl : FewL 400 l) (hnl : l.length ≤ 1000) (hm : FewL 400 m) (hnm : m.length ≤ 1000) : FnE bs n_lustrumref20_Can ((Shape.pair (.slice sApiLeaf) (.pair (.slice sApiLeaf) (.int .i64))).compsE (l, m, r)) .bool (fun b => b = true ↔ (0 ≤ r ∧ r ≤ 12 ∧ relFM l m r.toNat)) := by
  refine ok_of (e_lustrumref20_Can (l, m, r) _) rfl ?_
  unfold c_lustrumref20_Can
  exact callP_eq (ok_ref20_Relations hl hnl hm hnm) (callP_of (ok_ref18_Has (relF_mask (hl.mono (by decide)) (hm.mono (by decide)))) fun b hb => hb)

theorem ok_ref20_Must {l m : List Leaf} {mask : Int} (hl : FewL 400 l) (hnl : l.length ≤ 1000) (hm : FewL 400 m) (hnm : m.length ≤ 1000) : FnE bs n_lustrumref20_Must ((Shape.pair (.slice sApiLeaf) (.pair (.slice sApiLeaf) (.int .i64))).compsE (l, m, mask)) .bool (fun b => b = true ↔ (¬ (relF l m).1 = 0 ∧ ∀ k, k ≤ 12 → relFM l m k → mbit mask k)) := by
  refine ok_of (e_lustrumref20_Must (l, m, mask) _) rfl ?_
  unfold c_lustrumref20_Must
  refine callP_eq (ok_ref20_Relations hl hnl hm hnm) ?_
  refine cond_bool (fun h1 => ?_) fun h1 => ?_
  · have h1 : ¬ (relF l m).1 = 0 := by simpa using h1
    show decide _ = true ↔ _
    rw [decide_eq_true_iff]
    have := (relF_mask (hl.mono (m := 1000) (by decide)) (hm.mono (m := 1000) (by decide))).and (mask := mask)
    exact this.trans ⟨fun q => ⟨h1, q⟩, fun q => q.2⟩
  · have h1 : (relF l m).1 = 0 := by simpa using h1
    exact ⟨fun q => (by cases q), fun q => (q.1 h1).elim⟩

theorem ok_ref04_CountT {s : Runs} (hl : s.length ≤ 100000) : FnE bs n_lustrumref04_Count ((Shape.slice sRun).compsE s) (.int .i64) (fun _ => True) := by
  refine ok_of (e_lustrumref04_Count s _) rfl ?_
  unfold c_lustrumref04_Count
  refine callP_eq (ok_ref04_As hl) ?_
  have hml := make_length s
  generalize makeF s = t at hml
  refine loopP_of (fun z : Int × Int => ∃ k : Nat, z.2 = k ∧ k ≤ t.length) (fun z => t.length - z.2.toNat) ?_ ⟨0, rfl, Nat.zero_le _⟩
  rintro ⟨n, _⟩ A ⟨k, e1, hk⟩ back
  dsimp only at e1 ⊢
  subst e1
  refine cond_dec (fun h1 => ⟨⟨by omega, h1⟩, ⟨by omega, h1⟩, ?_⟩) fun h1 => trivial
  have h1 : (k : Int) < t.length := h1
  rw [w_succ (by omega)]
  exact back (_, ((k + 1 : Nat) : Int)) ⟨k + 1, rfl, by omega⟩ (by dsimp only; omega)

theorem ok_ref20_UnitsT {l : List Leaf} (hl : FewL 1000 l) : FnE bs n_lustrumref20_Units ((Shape.slice sApiLeaf).compsE l) (.int .i64) (fun _ => True) := by
  refine ok_of (e_lustrumref20_Units l _) rfl ?_
  unfold c_lustrumref20_Units
  have hll := hl.1
  refine loopP_of (fun z : Int × Int => ∃ k : Nat, z.2 = k ∧ k ≤ l.length) (fun z => l.length - z.2.toNat) ?_ ⟨0, rfl, Nat.zero_le _⟩
  rintro ⟨n, _⟩ A ⟨k, e1, hk⟩ back
  dsimp only at e1 ⊢
  subst e1
  refine cond_dec (fun h1 => ⟨⟨by omega, h1⟩, ?_⟩) fun h1 => trivial
  have h1 : (k : Int) < l.length := h1
  have hk' : k < l.length := by omega
  have hg := List.getElem?_eq_getElem hk'
  have hf := hl.2 l[k] (List.getElem_mem hk')
  generalize l[k] = f at hg hf
  rw [toNat_ofNat, rd_of (s := sApiLeaf) hg, w_succ (by omega)]
  have nxt : ∀ n : Int, A (n, ((k + 1 : Nat) : Int)) := fun n => back (n, ((k + 1 : Nat) : Int)) ⟨k + 1, rfl, by omega⟩ (by dsimp only; omega)
  refine cond_bool (fun _ => ⟨⟨by omega, h1⟩, cond_bool (fun _ => ⟨⟨by omega, h1⟩, callP_of (ok_ref04_CountT (by omega)) fun r _ => nxt _⟩) fun _ => nxt _⟩) fun _ => nxt _

theorem ok_lustrumlaw20_few {l : List Leaf} (hl : l.length ≤ 9223372036854775807) : FnE bs n_lustrumlaw20_few ((Shape.slice sApiLeaf).compsE l) .bool (fun r => r = true → l.length ≤ 12 ∧ FewL 40 l) := by
  refine ok_of (e_lustrumlaw20_few l _) rfl ?_
  unfold c_lustrumlaw20_few
  refine callP_of (ok_lustrumref15_Few hl) fun r hr => cond_bool (fun h => ?_) fun h => fun q => by cases q
  exact callP_of (ok_ref20_UnitsT (few1000 (hr h).2)) fun _ _ _ => hr h

theorem ok_lustrumlaw20_months {lo hi : Int} : FnE bs n_lustrumlaw20_months ((Shape.pair (.int .i64) (.int .i64)).compsE (lo, hi)) (.slice sApiLeaf) (· = [(false, 1, [(lo, hi)], [])]) := ok_of (e_lustrumlaw20_months (lo, hi) _) rfl rfl

def exM (lo hi : Int) : List Leaf := [(false, 1, [(lo, hi)], [])]
theorem exM_few {lo hi : Int} : FewL 1000 (exM lo hi) := ⟨by simp [exM], fun f hf => by cases List.mem_singleton.1 hf; simp⟩
def exY : List Leaf := [(false, 3, [(1984, 1984)], [])]
theorem exY_few : FewL 1000 exY := ⟨by decide, fun f hf => by cases List.mem_singleton.1 hf; simp⟩
theorem ex_a : relF (exM 23808 23808) (exM 23809 23809) = (2, 0) := by decide +kernel
theorem ex_b : relF (exM 23808 23816) exY = (24, 0) := by decide +kernel
theorem ex_c : relF (exM 5 5) (exM 6 6) = (2, 0) := by decide +kernel

theorem IsMask.tb {m : Nat} {P : Nat → Prop} (h : IsMask (m : Int) P) {k : Nat} (hk : k ≤ 12) : P k ↔ m.testBit k = true := by
  obtain ⟨n, e, hn⟩ := h
  have : m = n := by omega
  subst this
  rw [hn k]
  exact ⟨fun q => ⟨hk, q⟩, fun q => q.2⟩

theorem ok_lustrumlaw20_awake : FnE bs n_lustrumlaw20_awake ((Shape.unit).compsE ()) .bool (· = true) := by
  refine ok_of (e_lustrumlaw20_awake _) rfl ?_
  unfold c_lustrumlaw20_awake
  refine callP_eq ok_lustrumlaw20_months (callP_eq ok_lustrumlaw20_months (callP_eq (ok_relate_Relations (l := exM 23808 23808) (m := exM 23809 23809) exM_few (by decide) exM_few (by decide)) (callP_eq ok_lustrumlaw20_months (callP_eq (ok_relate_Relations (l := exM 23808 23816) (m := exY) exM_few (by decide) exY_few (by decide)) ?_))))
  rw [ex_a, ex_b]
  have hmask : IsMask ((2 : Nat) : Int) (relFM (exM 5 5) (exM 6 6)) := by
    have := relF_mask (exM_few (lo := 5) (hi := 5)) (exM_few (lo := 6) (hi := 6))
    rw [ex_c] at this
    exact this
  refine cond_yes rfl (cond_yes rfl (cond_yes rfl (cond_yes rfl (callP_eq ok_lustrumlaw20_months (callP_eq ok_lustrumlaw20_months (callP_of (ok_relate_Can (l := exM 5 5) (m := exM 6 6) (r := 1) exM_few (by decide) exM_few (by decide)) fun b hb => cond_yes (hb.2 ⟨by decide, by decide, (hmask.tb (by decide)).2 rfl⟩) ?_))))))
  refine callP_eq ok_lustrumlaw20_months (callP_eq ok_lustrumlaw20_months (callP_of (ok_relate_Must (l := exM 5 5) (m := exM 6 6) (mask := 3) exM_few (by decide) exM_few (by decide)) fun b hb => hb.2 ⟨?_, fun k hk h => ?_⟩))
  · rw [ex_c]; decide
  · have := (hmask.tb hk).1 h
    rcases le12 hk with rfl | rfl | rfl | rfl | rfl | rfl | rfl | rfl | rfl | rfl | rfl | rfl | rfl <;> first | (exact absurd this (by decide)) | decide

theorem few400 {l : List Leaf} (h : FewL 40 l) : FewL 400 l := h.mono (by decide)

theorem ok_RelateIs (a : List Leaf × List Leaf × Int × Int) (hl : a.1.length ≤ 9223372036854775807) (hm : a.2.1.length ≤ 9223372036854775807) : FnE bs n_lustrumlaw20_RelateIs ((Shape.pair (.slice sApiLeaf) (.pair (.slice sApiLeaf) (.pair (.int .i64) (.int .i64)))).compsE a) .bool (· = true) := by
  obtain ⟨l, m, r, mask⟩ := a
  refine ok_of (e_lustrumlaw20_RelateIs (l, m, r, mask) _) rfl ?_
  unfold c_lustrumlaw20_RelateIs
  refine callP_eq ok_lustrumlaw20_awake (callP_of (ok_lustrumlaw20_few hl) fun x hx => cond_not (fun h => rfl) fun h => callP_of (ok_lustrumlaw20_few hm) fun y hy => cond_not (fun h => rfl) fun h2 => ?_)
  have hf := hx h
  have hg := hy h2
  have fl := few400 hf.2
  have fm := few400 hg.2
  have nl : l.length ≤ 1000 := Nat.le_trans hf.1 (by decide)
  have nm : m.length ≤ 1000 := Nat.le_trans hg.1 (by decide)
  have fl1 := few1000 hf.2
  have fm1 := few1000 hg.2
  refine callP_eq (ok_relate_Relations fl1 nl fm1 nm) (callP_eq (ok_ref20_Relations fl nl fm nm) (cond_yes rfl (cond_yes (decide_eq_true rfl) (cond_yes (decide_eq_true rfl) ?_))))
  refine callP_of (ok_relate_Can fl1 nl fm1 nm) fun b1 h1 => callP_of (ok_ref20_Can fl nl fm nm) fun b2 h2 => cond_yes (decide_eq_true (Bool.eq_iff_iff.2 (h1.trans h2.symm))) ?_
  exact callP_of (ok_relate_Must fl1 nl fm1 nm) fun b1 h1 => callP_of (ok_ref20_Must fl nl fm nm) fun b2 h2 => decide_eq_true (Bool.eq_iff_iff.2 (h1.trans h2.symm))
end Go.Proofs.YtocmlcpcnjaaeaaGreatDoor.V


/- Layer 20's laws RelateInverse, RelateMore, RelateMust, RelateWide. No condition of its own. -/
namespace Go.Proofs.YtocmlcpcnjaaeaaGreatDoor.V
open Go
set_option linter.unusedVariables false
set_option linter.unusedSimpArgs false
set_option linter.unusedSectionVars false

theorem ok_lustrumlaw20_none {l : List Leaf} (hl : FewL 1000 l) : FnE bs n_lustrumlaw20_none ((Shape.slice sApiLeaf).compsE l) .bool (fun r => r = true ↔ ¬ ∃ p, anyP l p) := by
  refine ok_of (e_lustrumlaw20_none l _) rfl ?_
  unfold c_lustrumlaw20_none
  have hll := hl.1
  refine loopP_of (fun z : Int => ∃ k : Nat, z = k ∧ k ≤ l.length ∧ ∀ (i : Nat) f, i < k → l[i]? = some f → ofF f = none) (fun z => l.length - z.toNat) ?_ ⟨0, rfl, Nat.zero_le _, fun i f h => by omega⟩
  rintro _ A ⟨k, rfl, hk, hi⟩ back
  refine cond_dec (fun h1 => ⟨⟨by omega, h1⟩, ?_⟩) fun h1 => ?_
  · have h1 : (k : Int) < l.length := h1
    have hk' : k < l.length := by omega
    have hg := List.getElem?_eq_getElem hk'
    generalize l[k] = f at hg
    have hfm := List.mem_of_getElem? hg
    have hf := hl.2 f hfm
    rw [toNat_ofNat, rd_of (s := sApiLeaf) hg, w_succ (by omega)]
    refine callP_eq (ok_leaf_Empty (f := f) (by omega) (by omega)) (cond_not (fun h => ?_) fun h => ?_)
    · refine ⟨fun q => (by cases q), fun q => absurd ?_ q⟩
      cases e : famPairs (ofF f) with
      | nil => rw [fam_some.1 e] at h; cases h
      | cons p t => exact ⟨p, f, hfm, by rw [e]; exact List.mem_cons_self⟩
    · refine back _ ⟨k + 1, rfl, hk', fun i g hik hg2 => ?_⟩ (by omega)
      by_cases e : i = k
      · subst e; rw [hg] at hg2; cases hg2; exact Option.isNone_iff_eq_none.1 h
      · exact hi i g (by omega) hg2
  · refine ⟨fun _ => ?_, fun _ => rfl⟩
    rintro ⟨p, f, hf, hh⟩
    obtain ⟨i, hi2⟩ := List.getElem?_of_mem hf
    have := (List.getElem?_eq_some_iff.1 hi2).1
    rw [hi i f (by have h1 : ¬ (k : Int) < l.length := h1; omega) hi2] at hh
    cases hh

theorem relFM_flip {l m : List Leaf} {k : Nat} (hk : k ≤ 12) : relFM m l k ↔ relFM l m (12 - k) := by
  unfold relFM
  rw [relM_flip hk, Bool.or_comm]

theorem relF_two (l m : List Leaf) : (relF l m).2 = if (wideB l || wideB m) = true then 8 else 0 := by
  unfold relF
  split <;> rfl

theorem relF_zero {l m : List Leaf} (hl : FewL 1000 l) (hm : FewL 1000 m) (hw : (wideB l || wideB m) = false) : (relF l m).1 = 0 ↔ ((¬ ∃ p, anyP l p) ∨ ¬ ∃ q, anyP m q) := by
  rw [(relF_mask hl hm).eq0]
  constructor
  · intro h
    by_cases h1 : ∃ p, anyP l p
    · refine .inr fun ⟨q, hq⟩ => ?_
      obtain ⟨p, hp⟩ := h1
      obtain ⟨k, hk⟩ := relK_some (any_le hl hp) (any_le hm hq)
      exact h k (relK_le hk) ⟨hw, p, q, hp, hq, hk⟩
    · exact .inl h1
  · rintro h k hk ⟨_, p, q, hp, hq, _⟩
    rcases h with h | h
    · exact h ⟨p, hp⟩
    · exact h ⟨q, hq⟩

theorem ok_RelateInverse (a : List Leaf × List Leaf) (hl : a.1.length ≤ 9223372036854775807) (hm : a.2.length ≤ 9223372036854775807) : FnE bs n_lustrumlaw20_RelateInverse ((Shape.pair (.slice sApiLeaf) (.slice sApiLeaf)).compsE a) .bool (· = true) := by
  obtain ⟨l, m⟩ := a
  refine ok_of (e_lustrumlaw20_RelateInverse (l, m) _) rfl ?_
  unfold c_lustrumlaw20_RelateInverse
  refine callP_eq ok_lustrumlaw20_awake (callP_of (ok_lustrumlaw20_few hl) fun x hx => cond_not (fun h => rfl) fun h => callP_of (ok_lustrumlaw20_few hm) fun y hy => cond_not (fun h => rfl) fun h2 => ?_)
  have hf := hx h
  have hg := hy h2
  have nl : l.length ≤ 1000 := Nat.le_trans hf.1 (by decide)
  have nm : m.length ≤ 1000 := Nat.le_trans hg.1 (by decide)
  have fl := few1000 hf.2
  have fm := few1000 hg.2
  refine callP_eq (ok_relate_Relations fl nl fm nm) (callP_eq (ok_relate_Relations fm nm fl nl) ?_)
  have e2 : (relF l m).2 = (relF m l).2 := by rw [relF_two, relF_two, Bool.or_comm]
  refine cond_no (by simp [e2]) (callP_of (ok_allen_Flip (relF_mask fl fm)) fun r6 h6 => ?_)
  have e1 : (relF m l).1 = r6 := (relF_mask fm fl).ext h6 fun k hk => relFM_flip hk
  have hb : 0 ≤ (relF l m).1 ∧ (relF l m).1 ≤ 8191 := (relF_mask fl fm).bd
  refine cond_no (by simp [e1]) (cond_no (decide_eq_false (show ¬ (relF l m).1 < 0 by omega)) (cond_no (decide_eq_false (show ¬ 8191 < (relF l m).1 by omega)) (cond_yes rfl ?_)))
  cases hw : (wideB l || wideB m)
  · have z2 : (relF l m).2 = 0 := by rw [relF_two, hw]; rfl
    have key := relF_zero fl fm hw
    refine cond_no (by simp [z2]) (cond_yes (by simp [z2]) ?_)
    refine callP_of (ok_lustrumlaw20_none fl) fun b1 h1 => cond_bool (fun q => ?_) fun q => callP_of (ok_lustrumlaw20_none fm) fun b2 h2 => ?_
    · have : (relF l m).1 = 0 := key.2 (.inl (h1.1 q))
      exact decide_eq_true (decide_eq_true this)
    · refine decide_eq_true (Bool.eq_iff_iff.2 ?_)
      rw [decide_eq_true_iff]
      refine key.trans ⟨fun q2 => ?_, fun q2 => .inr (h2.1 q2)⟩
      rcases q2 with q2 | q2
      · rw [h1.2 q2] at q; cases q
      · exact h2.2 q2
  · have z : relF l m = (0, 8) := by unfold relF; rw [if_pos hw]
    rw [z]
    exact cond_yes rfl (cond_yes rfl rfl)

theorem or3 (a b c : Bool) : (a || c) = true ∨ (b || c) = true → ((a || b) || c) = true := by cases a <;> cases b <;> cases c <;> simp
theorem or3' (a b c : Bool) : (a || c) = false → (b || c) = false → ((a || b) || c) = false := by cases a <;> cases b <;> cases c <;> simp

theorem ok_RelateMore (a : List Leaf × List Leaf × List Leaf) (hl : a.1.length ≤ 9223372036854775807) (hk : a.2.1.length ≤ 9223372036854775807) (hm : a.2.2.length ≤ 9223372036854775807) : FnE bs n_lustrumlaw20_RelateMore ((Shape.pair (.slice sApiLeaf) (.pair (.slice sApiLeaf) (.slice sApiLeaf))).compsE a) .bool (· = true) := by
  obtain ⟨l, k, m⟩ := a
  refine ok_of (e_lustrumlaw20_RelateMore (l, k, m) _) rfl ?_
  unfold c_lustrumlaw20_RelateMore
  refine callP_eq ok_lustrumlaw20_awake (callP_of (ok_lustrumlaw20_few hl) fun x hx => cond_not (fun h => rfl) fun h => callP_of (ok_lustrumlaw20_few hk) fun y hy => cond_not (fun h => rfl) fun h2 => callP_of (ok_lustrumlaw20_few hm) fun z hz => cond_not (fun h => rfl) fun h3 => ?_)
  have hf := hx h
  have hg := hy h2
  have he := hz h3
  have nl : l.length ≤ 1000 := Nat.le_trans hf.1 (by decide)
  have nk : k.length ≤ 1000 := Nat.le_trans hg.1 (by decide)
  have nm : m.length ≤ 1000 := Nat.le_trans he.1 (by decide)
  have fl := few1000 hf.2
  have fk := few1000 hg.2
  have fm := few1000 he.2
  have fb := few_append hf hg
  have nb : (l ++ k).length ≤ 1000 := by have h1 := hf.1; have h2 := hg.1; dsimp only at h1 h2; rw [List.length_append]; omega
  have l1 := hf.1
  have l2 := hg.1
  dsimp only at l1 l2 ⊢
  refine ⟨by simp only [List.length_nil]; omega, by simp only [List.nil_append]; omega, ?_⟩
  rw [List.nil_append]
  refine callP_eq (ok_relate_Relations fl nl fm nm) (callP_eq (ok_relate_Relations fk nk fm nm) (callP_eq (ok_relate_Relations fb nb fm nm) ?_))
  have w1 := relF_two l m
  have w2 := relF_two k m
  have w3 := relF_two (l ++ k) m
  rw [wide_app] at w3
  have wide : (wideB l || wideB m) = true ∨ (wideB k || wideB m) = true → relF (l ++ k) m = (0, 8) := fun q => by
    unfold relF
    rw [wide_app, if_pos (or3 _ _ _ q)]
  cases hw1 : (wideB l || wideB m)
  · rw [hw1] at w1
    refine cond_no (by rw [w1]; rfl) ?_
    cases hw2 : (wideB k || wideB m)
    · rw [hw2] at w2
      have hw3 : (wideB l || wideB k || wideB m) = false := or3' _ _ _ hw1 hw2
      rw [hw3] at w3
      refine cond_no (by rw [w2]; rfl) (cond_yes rfl (cond_yes (by rw [w3]; rfl) (decide_eq_true ?_)))
      refine (relF_mask fb fm).ext ((relF_mask fl fm).or (relF_mask fk fm)) fun j hj => ?_
      unfold relFM
      rw [wide_app, hw1, hw2, hw3]
      unfold relM
      constructor
      · rintro ⟨_, p, q, hp, hq, h⟩
        rcases any_append.1 hp with hp | hp
        · exact .inl ⟨rfl, p, q, hp, hq, h⟩
        · exact .inr ⟨rfl, p, q, hp, hq, h⟩
      · rintro (⟨_, p, q, hp, hq, h⟩ | ⟨_, p, q, hp, hq, h⟩)
        · exact ⟨rfl, p, q, any_append.2 (.inl hp), hq, h⟩
        · exact ⟨rfl, p, q, any_append.2 (.inr hp), hq, h⟩
    · rw [hw2] at w2
      rw [wide (.inr hw2)]
      exact cond_yes (by rw [w2]; rfl) (cond_yes rfl (cond_yes rfl rfl))
  · rw [hw1] at w1
    rw [wide (.inl hw1)]
    exact cond_yes (by rw [w1]; rfl) (cond_yes rfl (cond_yes rfl rfl))

theorem ok_RelateMust (a : List Leaf × List Leaf × Int) (hl : a.1.length ≤ 9223372036854775807) (hm : a.2.1.length ≤ 9223372036854775807) : FnE bs n_lustrumlaw20_RelateMust ((Shape.pair (.slice sApiLeaf) (.pair (.slice sApiLeaf) (.int .i64))).compsE a) .bool (· = true) := by
  obtain ⟨l, m, mask⟩ := a
  refine ok_of (e_lustrumlaw20_RelateMust (l, m, mask) _) rfl ?_
  unfold c_lustrumlaw20_RelateMust
  refine callP_eq ok_lustrumlaw20_awake (callP_of (ok_lustrumlaw20_few hl) fun x hx => cond_not (fun h => rfl) fun h => callP_of (ok_lustrumlaw20_few hm) fun y hy => cond_not (fun h => rfl) fun h2 => ?_)
  have hf := hx h
  have hg := hy h2
  have nl : l.length ≤ 1000 := Nat.le_trans hf.1 (by decide)
  have nm : m.length ≤ 1000 := Nat.le_trans hg.1 (by decide)
  have fl := few1000 hf.2
  have fm := few1000 hg.2
  refine callP_eq (ok_relate_Relations fl nl fm nm) ?_
  have hmask := relF_mask fl fm
  refine loopP_of (fun z : Bool × Bool × Int => ∃ k : Nat, z.2.2 = (k : Int) - 1 ∧ k ≤ 15 ∧ (z.2.1 = true ↔ ∃ j : Nat, j + 1 < k ∧ j ≤ 12 ∧ relFM l m j) ∧ (z.1 = true ↔ ∃ j : Nat, j + 1 < k ∧ j ≤ 12 ∧ relFM l m j ∧ ¬ mbit mask j)) (fun z => (14 - z.2.2).toNat) ?_
    ⟨0, by decide, by decide, ⟨fun q => (by cases q), fun ⟨j, q, _⟩ => (by omega)⟩, ⟨fun q => (by cases q), fun ⟨j, q, _⟩ => (by omega)⟩⟩
  rintro ⟨out, any, _⟩ A ⟨k, e1, hk, hany, hout⟩ back
  dsimp only at e1 hany hout ⊢
  subst e1
  refine cond_dec (fun h1 => callP_of (ok_relate_Can fl nl fm nm) fun r7 h7 => ?_) fun h1 => ?_
  · have h1 : (k : Int) - 1 ≤ 13 := h1
    have hw : w64 ((k : Int) - 1 + 1) = (k : Int) - 1 + 1 := w64_of (by omega)
    rw [hw]
    -- what a round does
    have nxt : ∀ out' any' : Bool, (any' = true ↔ any = true ∨ r7 = true) → (out' = true ↔ out = true ∨ (r7 = true ∧ ¬ mbit mask ((k : Int) - 1).toNat)) → A (out', any', (k : Int) - 1 + 1) := fun out' any' ha ho => by
      refine back (out', any', (k : Int) - 1 + 1) ⟨k + 1, by dsimp only; omega, by omega, ?_, ?_⟩ (by dsimp only; omega)
      · dsimp only
        rw [ha, hany, h7]
        constructor
        · rintro (⟨j, q1, q2, q3⟩ | ⟨q1, q2, q3⟩)
          · exact ⟨j, by omega, q2, q3⟩
          · exact ⟨((k : Int) - 1).toNat, by omega, by omega, q3⟩
        · rintro ⟨j, q1, q2, q3⟩
          by_cases e : j + 1 < k
          · exact .inl ⟨j, e, q2, q3⟩
          · have e : j = ((k : Int) - 1).toNat := by omega
            subst e
            exact .inr ⟨by omega, by omega, q3⟩
      · dsimp only
        rw [ho, hout, h7]
        constructor
        · rintro (⟨j, q1, q2, q3⟩ | ⟨⟨q1, q2, q3⟩, q4⟩)
          · exact ⟨j, by omega, q2, q3⟩
          · exact ⟨((k : Int) - 1).toNat, by omega, by omega, q3, q4⟩
        · rintro ⟨j, q1, q2, q3, q4⟩
          by_cases e : j + 1 < k
          · exact .inl ⟨j, e, q2, q3, q4⟩
          · have e : j = ((k : Int) - 1).toNat := by omega
            subst e
            exact .inr ⟨⟨by omega, by omega, q3⟩, q4⟩
    have hwr : 0 ≤ (k : Int) - 1 → (k : Int) - 1 ≤ 12 → IntKind.wrap .u64 (maxI ((k : Int) - 1) 0) = (((k : Int) - 1).toNat : Int) := fun q1 q2 => by
      have : maxI ((k : Int) - 1) 0 = (((k : Int) - 1).toNat : Int) := by unfold maxI; split <;> omega
      rw [this, wrapU (by omega)]
    have chunk : cond any (cond out (A (true, true, (k : Int) - 1 + 1)) (cond r7 (chk ((0 : Int) ≤ IntKind.wrap .u64 (maxI ((k : Int) - 1) 0) ∧ IntKind.wrap .u64 (maxI ((k : Int) - 1) 0) < (IntKind.bits .i64 : Int)) (A (decide (w64 ((BitVec.ofInt (IntKind.bits .i64) (Int.fdiv mask (2 ^ (IntKind.wrap .u64 (maxI ((k : Int) - 1) 0)).toNat)) &&& BitVec.ofInt (IntKind.bits .i64) 1).toNat : Int) = 0), true, (k : Int) - 1 + 1))) (A (false, true, (k : Int) - 1 + 1))))
        (cond out (A (true, r7, (k : Int) - 1 + 1)) (cond r7 (chk ((0 : Int) ≤ IntKind.wrap .u64 (maxI ((k : Int) - 1) 0) ∧ IntKind.wrap .u64 (maxI ((k : Int) - 1) 0) < (IntKind.bits .i64 : Int)) (A (decide (w64 ((BitVec.ofInt (IntKind.bits .i64) (Int.fdiv mask (2 ^ (IntKind.wrap .u64 (maxI ((k : Int) - 1) 0)).toNat)) &&& BitVec.ofInt (IntKind.bits .i64) 1).toNat : Int) = 0), r7, (k : Int) - 1 + 1))) (A (false, r7, (k : Int) - 1 + 1)))) := by
      have bit : r7 = true → (decide (w64 ((BitVec.ofInt (IntKind.bits .i64) (Int.fdiv mask (2 ^ (IntKind.wrap .u64 (maxI ((k : Int) - 1) 0)).toNat)) &&& BitVec.ofInt (IntKind.bits .i64) 1).toNat : Int) = 0) = true ↔ ¬ mbit mask ((k : Int) - 1).toNat) ∧ ((0 : Int) ≤ IntKind.wrap .u64 (maxI ((k : Int) - 1) 0) ∧ IntKind.wrap .u64 (maxI ((k : Int) - 1) 0) < (IntKind.bits .i64 : Int)) := fun q => by
        have q := h7.1 q
        rw [hwr q.1 q.2.1, decide_eq_true_iff, toNat_ofNat]
        exact ⟨bit_shift (by omega), by omega, by show (((k : Int) - 1).toNat : Int) < 64; omega⟩
      refine cond_bool (fun ha => cond_bool (fun ho => ?_) fun ho => cond_bool (fun hr => ⟨(bit hr).2, ?_⟩) fun hr => ?_) fun ha => cond_bool (fun ho => ?_) fun ho => cond_bool (fun hr => ⟨(bit hr).2, ?_⟩) fun hr => ?_
      · exact nxt _ _ (by simp [ha]) (by simp [ho])
      · exact nxt _ _ (by simp [ha]) (by rw [(bit hr).1]; simp [ho, hr])
      · exact nxt _ _ (by simp [ha]) (by simp [ho, hr])
      · exact nxt _ _ (by simp [ha]) (by simp [ho])
      · exact nxt _ _ (by simp [ha]) (by rw [(bit hr).1]; simp [ho, hr])
      · exact nxt _ _ (by simp [ha]) (by simp [ho, hr])
    refine cond_dec (fun q1 => cond_dec (fun q2 => ?_) fun q2 => ?_) fun q1 => ?_
    · have q1 : 0 ≤ (k : Int) - 1 := q1
      have q2 : (k : Int) - 1 ≤ 12 := q2
      have hb := hmask.bit (k := ((k : Int) - 1).toNat) (by omega)
      refine ⟨by rw [hwr q1 q2]; exact ⟨by omega, by show (((k : Int) - 1).toNat : Int) < 64; omega⟩, cond_no ?_ chunk⟩
      rw [Bool.not_eq_false', decide_eq_true_iff, Bool.eq_iff_iff, h7, decide_eq_true_iff, hwr q1 q2, toNat_ofNat]
      exact ⟨fun q => hb.2 q.2.2, fun q => ⟨q1, q2, hb.1 q⟩⟩
    · have q2 : ¬ (k : Int) - 1 ≤ 12 := q2
      have : r7 = false := by
        cases e : r7
        · rfl
        · exact absurd (h7.1 e).2.1 q2
      exact cond_no (by simp [this]) chunk
    · have q1 : ¬ 0 ≤ (k : Int) - 1 := q1
      have : r7 = false := by
        cases e : r7
        · rfl
        · exact absurd (h7.1 e).1 q1
      exact cond_no (by simp [this]) chunk
  · have h1 : ¬ (k : Int) - 1 ≤ 13 := h1
    have hk15 : k = 15 := by omega
    subst hk15
    refine cond_yes rfl (callP_of (ok_relate_Must fl nl fm nm) fun r8 h8 => ?_)
    have hz : (relF l m).1 = 0 ↔ ∀ j, j ≤ 12 → ¬ relFM l m j := hmask.eq0
    have hany' : any = true ↔ ¬ (relF l m).1 = 0 := by
      rw [hany, hz]
      constructor
      · rintro ⟨j, _, q2, q3⟩ q
        exact q j q2 q3
      · intro q
        refine Classical.byContradiction fun q2 => q fun j hj hp => q2 ⟨j, by omega, hj, hp⟩
    have last : decide (any = !decide ((relF l m).1 = 0)) = true := by
      refine decide_eq_true (Bool.eq_iff_iff.2 ?_)
      rw [hany']
      simp
    refine cond_bool (fun ha => ?_) fun ha => ?_
    · refine cond_yes (decide_eq_true (Bool.eq_iff_iff.2 ?_)) last
      rw [h8, Bool.not_eq_true', ← Bool.not_eq_true, hout]
      refine ⟨fun ⟨_, q⟩ ⟨j, _, q2, q3, q4⟩ => q4 (q j q2 q3), fun q => ⟨hany'.1 ha, fun j hj hp => ?_⟩⟩
      exact Classical.byContradiction fun q2 => q ⟨j, by omega, hj, hp, q2⟩
    · refine cond_yes (decide_eq_true ?_) last
      cases e : r8
      · rfl
      · have := hany'.2 (h8.1 e).1
        rw [this] at ha; cases ha

theorem wide_months : ∀ c : Fin 16, wideB (exM 0 (394 + (c.val : Int))) = decide ((400 : Int) < 395 + (c.val : Int)) := by decide +kernel

theorem ok_RelateWide (a : List Leaf × List Leaf × Int) (hl : a.1.length ≤ 9223372036854775807) (hm : a.2.1.length ≤ 9223372036854775807) : FnE bs n_lustrumlaw20_RelateWide ((Shape.pair (.slice sApiLeaf) (.pair (.slice sApiLeaf) (.int .i64))).compsE a) .bool (· = true) := by
  obtain ⟨l, m, n⟩ := a
  refine ok_of (e_lustrumlaw20_RelateWide (l, m, n) _) rfl ?_
  unfold c_lustrumlaw20_RelateWide
  refine callP_eq ok_lustrumlaw20_awake (callP_of (ok_lustrumlaw20_few hl) fun x hx => cond_not (fun h => rfl) fun h => callP_of (ok_lustrumlaw20_few hm) fun y hy => cond_not (fun h => rfl) fun h2 => ?_)
  have hf := hx h
  have hg := hy h2
  have nl : l.length ≤ 1000 := Nat.le_trans hf.1 (by decide)
  have nm : m.length ≤ 1000 := Nat.le_trans hg.1 (by decide)
  have fl := few1000 hf.2
  have fm := few1000 hg.2
  refine callP_eq (ok_relate_Relations fl nl fm nm) ?_
  have w1 := relF_two l m
  have one : ∀ f : Leaf, wideB [f] = (!(startsL f).2 || !(endsL f).2) := fun f => by simp [wideB]
  refine loopP_of (fun z : Bool × Int => ∃ k : Nat, z.2 = k ∧ k ≤ l.length ∧ z.1 = wideB (l.take k)) (fun z => l.length - z.2.toNat) ?_ ⟨0, rfl, Nat.zero_le _, rfl⟩
  rintro ⟨wd, _⟩ A ⟨k, e1, hk, e2⟩ back
  dsimp only at e1 e2 ⊢
  subst e1
  subst e2
  refine cond_dec (fun h1 => ⟨⟨by omega, h1⟩, ?_⟩) fun h1 => ?_
  · have h1 : (k : Int) < l.length := h1
    have hk' : k < l.length := by omega
    have hg := List.getElem?_eq_getElem hk'
    have hfl := fl.2 l[k] (List.getElem_mem hk')
    generalize l[k] = f at hg hfl
    have ht : l.take (k + 1) = l.take k ++ [f] := by rw [List.take_add_one, hg]; rfl
    rw [toNat_ofNat, rd_of (s := sApiLeaf) hg, w_succ (by omega)]
    refine callP_eq (ok_leaf_Starts (f := f) (by omega) (by omega)) ⟨⟨by omega, h1⟩, callP_eq (ok_leaf_Ends (f := f) (by omega) (by omega)) ?_⟩
    have nxt : ∀ b, b = wideB (l.take (k + 1)) → A (b, ((k + 1 : Nat) : Int)) := fun b hb => back (b, ((k + 1 : Nat) : Int)) ⟨k + 1, rfl, hk', hb⟩ (by dsimp only; omega)
    rw [ht, wide_app, one] at nxt
    refine cond_bool (fun q => nxt _ (by rw [show wideB (l.take k) = true from q]; rfl)) fun q => cond_not (fun q2 => nxt _ ?_) fun q2 => nxt _ ?_
    · have q : wideB (l.take k) = false := q
      have q2 : (startsL f).2 = false := q2
      simp [q, q2]
    · have q : wideB (l.take k) = false := q
      have q2 : (startsL f).2 = true := q2
      simp [q, q2]
  · have hkl : k = l.length := by have h1 : ¬ (k : Int) < l.length := h1; omega
    subst hkl
    rw [List.take_length]
    refine loopP_of (fun z : Bool × Int => ∃ k : Nat, z.2 = k ∧ k ≤ m.length ∧ z.1 = (wideB l || wideB (m.take k))) (fun z => m.length - z.2.toNat) ?_ ⟨0, rfl, Nat.zero_le _, by simp [wideB]⟩
    rintro ⟨wd, _⟩ A2 ⟨k, e1, hk, e2⟩ back2
    dsimp only at e1 e2 ⊢
    subst e1
    subst e2
    refine cond_dec (fun h1 => ⟨⟨by omega, h1⟩, ?_⟩) fun h1 => ?_
    · have h1 : (k : Int) < m.length := h1
      have hk' : k < m.length := by omega
      have hg := List.getElem?_eq_getElem hk'
      have hfl := fm.2 m[k] (List.getElem_mem hk')
      generalize m[k] = f at hg hfl
      have ht : m.take (k + 1) = m.take k ++ [f] := by rw [List.take_add_one, hg]; rfl
      rw [toNat_ofNat, rd_of (s := sApiLeaf) hg, w_succ (by omega)]
      refine callP_eq (ok_leaf_Starts (f := f) (by omega) (by omega)) ⟨⟨by omega, h1⟩, callP_eq (ok_leaf_Ends (f := f) (by omega) (by omega)) ?_⟩
      have nxt : ∀ b, b = (wideB l || wideB (m.take (k + 1))) → A2 (b, ((k + 1 : Nat) : Int)) := fun b hb => back2 (b, ((k + 1 : Nat) : Int)) ⟨k + 1, rfl, hk', hb⟩ (by dsimp only; omega)
      rw [ht, wide_app, one, ← Bool.or_assoc] at nxt
      refine cond_bool (fun q => nxt _ (by rw [show (wideB l || wideB (m.take k)) = true from q]; rfl)) fun q => cond_not (fun q2 => nxt _ ?_) fun q2 => nxt _ ?_
      · have q : (wideB l || wideB (m.take k)) = false := q
        have q2 : (startsL f).2 = false := q2
        rw [q, q2]; rfl
      · have q : (wideB l || wideB (m.take k)) = false := q
        have q2 : (startsL f).2 = true := q2
        rw [q, q2]; rfl
    · have hkl : k = m.length := by have h1 : ¬ (k : Int) < m.length := h1; omega
      subst hkl
      rw [List.take_length]
      have hc : (BitVec.ofInt (IntKind.bits .i64) n &&& BitVec.ofInt (IntKind.bits .i64) 15).toNat ≤ 15 := by
        rw [BitVec.toNat_and]
        exact Nat.and_le_right
      generalize (BitVec.ofInt (IntKind.bits .i64) n &&& BitVec.ofInt (IntKind.bits .i64) 15).toNat = c at hc
      rw [w64_of (n := (c : Int)) (by omega), w64_of (n := 395 + (c : Int)) (by omega), w64_of (n := 395 + (c : Int) - 1) (by omega)]
      refine callP_eq ok_lustrumlaw20_months ?_
      have hwm := wide_months ⟨c, by omega⟩
      dsimp only at hwm
      rw [show (395 : Int) + (c : Int) - 1 = 394 + (c : Int) by omega]
      refine callP_eq (ok_relate_Relations (l := exM 0 (394 + (c : Int))) exM_few (by simp [exM]) fm nm) (cond_yes rfl (cond_yes (decide_eq_true ?_) (cond_bool (fun q => rfl) fun q => decide_eq_true ?_)))
      · rw [w1]
        cases (wideB l || wideB m) <;> rfl
      · have q : (wideB l || wideB m) = false := q
        have qm : wideB m = false := (Bool.or_eq_false_iff.1 q).2
        rw [relF_two, qm, Bool.or_false, hwm]
        by_cases e : (400 : Int) < 395 + (c : Int)
        · rw [decide_eq_true e]; rfl
        · rw [decide_eq_false e]; rfl
end Go.Proofs.YtocmlcpcnjaaeaaGreatDoor.V


/- Layer 20's laws RelateAll and RelateSound. No condition of its own. -/
namespace Go.Proofs.YtocmlcpcnjaaeaaGreatDoor.V
open Go
set_option linter.unusedVariables false
set_option linter.unusedSimpArgs false
set_option linter.unusedSectionVars false

/-- What needs one table needs no more with two. -/
theorem up2 {f : FuncId} {args : List EV} {out : Shape} {R : out.Val → Prop} (h : FnE bs f args out R) : FnE bs2 f args out R :=
  ⟨h.1, fun m w us ht => h.2 m w us fun g l hg => ht g l (by
    have hg : tab g = some l := hg
    show tab2 g = some l
    unfold tab at hg
    split at hg
    · exact hg
    · cases hg)⟩

theorem of_tail {p q : Pr} (h1 : ¬ p.2 < q.1) (h2 : ¬ q.2 < p.1) {R : Int × Bool → Prop} (hR : R ((relC p q : Nat), true)) : (callP bs2 n_cmp_Compare (.pair (.int .i64) (.int .i64)) (.int .i64) (p.1, q.1) (fun r1 => (chk ((0 : Int) ≤ (w64 (r1 + (1 : Int))) ∧ (w64 (r1 + (1 : Int))) < (3 : Int)) (callP bs2 n_cmp_Compare (.pair (.int .i64) (.int .i64)) (.int .i64) (p.2, q.2) (fun r2 => (chk ((0 : Int) ≤ (w64 (r2 + (1 : Int))) ∧ (w64 (r2 + (1 : Int))) < (3 : Int)) (R ((([(([(2 : Int), (7 : Int), (8 : Int), (3 : Int), (6 : Int), (9 : Int), (4 : Int), (5 : Int), (10 : Int)] : List Int).getD (0 + (w64 (r1 + (1 : Int))).toNat * 3 + 0) 0), (([(2 : Int), (7 : Int), (8 : Int), (3 : Int), (6 : Int), (9 : Int), (4 : Int), (5 : Int), (10 : Int)] : List Int).getD (0 + (w64 (r1 + (1 : Int))).toNat * 3 + 1) 0), (([(2 : Int), (7 : Int), (8 : Int), (3 : Int), (6 : Int), (9 : Int), (4 : Int), (5 : Int), (10 : Int)] : List Int).getD (0 + (w64 (r1 + (1 : Int))).toNat * 3 + 2) 0)] : List Int).getD (0 + (w64 (r2 + (1 : Int))).toNat) 0), true)))))))) := by
  have e0 : ∀ n, n = relC p q → R ((n : Int), true) := fun n h => by rw [h]; exact hR
  have r : relC p q = (if p.1 < q.1 then (if p.2 < q.2 then 2 else if p.2 = q.2 then 7 else 8) else if p.1 = q.1 then (if p.2 < q.2 then 3 else if p.2 = q.2 then 6 else 9) else (if p.2 < q.2 then 4 else if p.2 = q.2 then 5 else 10)) := by
    unfold relC
    rw [if_neg (by omega), if_neg (by omega), if_neg (by omega), if_neg (by omega)]
  refine callP_eq (up2 ok_cmp_Compare) ?_
  have c3 : ∀ a b : Int, (cmpS a b = -1 ∧ a < b) ∨ (cmpS a b = 0 ∧ a = b) ∨ (cmpS a b = 1 ∧ b < a) := fun a b => by
    unfold cmpS
    split
    · exact .inl ⟨rfl, by assumption⟩
    · split
      · exact .inr (.inr ⟨rfl, by assumption⟩)
      · exact .inr (.inl ⟨rfl, by omega⟩)
  rcases c3 p.1 q.1 with ⟨e1, a1⟩ | ⟨e1, a1⟩ | ⟨e1, a1⟩ <;> rw [e1] <;> refine ⟨by decide, callP_eq (up2 ok_cmp_Compare) ?_⟩ <;>
  rcases c3 p.2 q.2 with ⟨e2, a2⟩ | ⟨e2, a2⟩ | ⟨e2, a2⟩ <;> rw [e2] <;> refine ⟨by decide, ?_⟩
  · exact e0 2 (by rw [r, if_pos a1, if_pos a2])
  · exact e0 7 (by rw [r, if_pos a1, if_neg (by omega), if_pos a2])
  · exact e0 8 (by rw [r, if_pos a1, if_neg (by omega), if_neg (by omega)])
  · exact e0 3 (by rw [r, if_neg (by omega), if_pos a1, if_pos a2])
  · exact e0 6 (by rw [r, if_neg (by omega), if_pos a1, if_neg (by omega), if_pos a2])
  · exact e0 9 (by rw [r, if_neg (by omega), if_pos a1, if_neg (by omega), if_neg (by omega)])
  · exact e0 4 (by rw [r, if_neg (by omega), if_neg (by omega), if_pos a2])
  · exact e0 5 (by rw [r, if_neg (by omega), if_neg (by omega), if_neg (by omega), if_pos a2])
  · exact e0 10 (by rw [r, if_neg (by omega), if_neg (by omega), if_neg (by omega), if_neg (by omega)])

theorem ok_allen_Of {p q : Pr} (hp : 0 ≤ p.1 ∧ p.1 ≤ p.2 ∧ p.2 ≤ 3652424) (hq : 0 ≤ q.1 ∧ q.1 ≤ q.2 ∧ q.2 ≤ 3652424) : FnE bs2 n_allen_Of ((Shape.pair sRun sRun).compsE (p, q)) (.tup (.pair (.int .i64) .bool)) (· = (((relC p q : Nat) : Int), true)) := by
  refine ok_of (e_allen_Of (p, q) _) rfl ?_
  unfold c_allen_Of
  dsimp only
  rw [w64_of (n := p.2 + 1) (by omega), w64_of (n := q.2 + 1) (by omega)]
  have e0 : ∀ n : Nat, n = relC p q → (((n : Int), true) : Int × Bool) = (((relC p q : Nat) : Int), true) := fun n h => by rw [h]
  refine cond_dec (fun h => absurd (show p.2 < p.1 from h) (by omega)) fun _ => cond_dec (fun h => absurd (show q.2 < q.1 from h) (by omega)) fun _ => ?_
  refine cond_dec (fun h1 => ?_) fun h1 => ?_
  · have h1 : p.2 < q.1 := h1
    refine cond_dec (fun h2 => ?_) fun h2 => cond_dec (fun _ => ?_) fun h3 => absurd h1 h3
    · have h2 : p.2 + 1 = q.1 := h2
      exact e0 1 (by unfold relC; rw [if_neg (by omega), if_pos h2])
    · have h2 : ¬ p.2 + 1 = q.1 := h2
      exact e0 0 (by unfold relC; rw [if_pos (by omega)])
  · have h1 : ¬ p.2 < q.1 := h1
    refine cond_dec (fun h => absurd h h1) fun _ => cond_dec (fun h2 => ?_) fun h2 => ?_
    · have h2 : q.2 < p.1 := h2
      refine cond_dec (fun h3 => ?_) fun h3 => cond_dec (fun _ => ?_) fun h4 => absurd h2 h4
      · have h3 : q.2 + 1 = p.1 := h3
        exact e0 11 (by unfold relC; rw [if_neg (by omega), if_neg (by omega), if_neg (by omega), if_pos h3])
      · have h3 : ¬ q.2 + 1 = p.1 := h3
        exact e0 12 (by unfold relC; rw [if_neg (by omega), if_neg (by omega), if_pos (by omega)])
    · have h2 : ¬ q.2 < p.1 := h2
      exact cond_dec (fun h => absurd h h2) fun _ => of_tail (R := fun r => r = (((relC p q : Nat) : Int), true)) h1 h2 rfl

theorem any_bd {l : List Leaf} (hl : FewL 1000 l) {p : Int × Int} (h : anyP l p) : 0 ≤ p.1 ∧ p.1 ≤ p.2 ∧ p.2 ≤ 3652424 := by
  obtain ⟨x, hx, hp⟩ := any_views.1 h
  obtain ⟨f, hf, hxf⟩ := List.mem_flatMap.1 hx
  have hv := views_ok (hl.2 f hf).1 (hl.2 f hf).2 x hxf
  have h1 := hv.pv hp
  have h2 := Within.bounds hv.wa h1.2.1
  have h3 := Within.bounds hv.wb h1.2.2
  omega

theorem has_any {l : List Leaf} {p : Int × Int} (h : ∃ f ∈ l, HasF f p) : anyP l p := by
  obtain ⟨f, hf, hh⟩ := h
  exact ⟨f, hf, fam_has hh⟩

open Classical in
theorem ok_RelateSound (a : List Leaf × List Leaf × (Int × Int) × (Int × Int)) (hl : a.1.length ≤ 9223372036854775807) (hm : a.2.1.length ≤ 9223372036854775807) : FnE bs2 n_lustrumlaw20_RelateSound ((Shape.pair (.slice sApiLeaf) (.pair (.slice sApiLeaf) (.pair sRun sRun))).compsE a) .bool (· = true) := by
  obtain ⟨l, m, p, q⟩ := a
  refine ok_of (e_lustrumlaw20_RelateSound (l, m, p, q) _) rfl ?_
  unfold c_lustrumlaw20_RelateSound
  refine callP_eq (up2 ok_lustrumlaw20_awake) (callP_of (up2 (ok_lustrumlaw20_few hl)) fun x hx => cond_not (fun h => rfl) fun h => callP_of (up2 (ok_lustrumlaw20_few hm)) fun y hy => cond_not (fun h => rfl) fun h2 => ?_)
  have hf := hx h
  have hg := hy h2
  have nl : l.length ≤ 1000 := Nat.le_trans hf.1 (by decide)
  have nm : m.length ≤ 1000 := Nat.le_trans hg.1 (by decide)
  have fl : FewL 1000 l := few1000 hf.2
  have fm : FewL 1000 m := few1000 hg.2
  refine callP_eq (up2 (ok_relate_Relations fl nl fm nm)) ?_
  have w1 := relF_two l m
  cases hw : (wideB l || wideB m)
  · rw [hw] at w1
    have w1 : (relF l m).2 = 0 := w1
    have ok1 : cond true (cond (decide ((relF l m).2 = (0 : Int))) (true = true) ((decide ((relF l m).1 = (0 : Int))) = true)) (false = true) := cond_yes rfl (cond_yes (decide_eq_true w1) rfl)
    refine cond_no (by rw [w1]; rfl) (callP_eq (up2 (ok_denote_Has (l := l) (p := p) fl)) (cond_not (fun _ => ok1) fun h3 => callP_eq (up2 (ok_denote_Has (l := m) (p := q) fm)) (cond_not (fun _ => ok1) fun h4 => ?_)))
    have hp := has_any (of_decide_eq_true h3)
    have hq := has_any (of_decide_eq_true h4)
    refine callP_eq (ok_allen_Of (any_bd fl hp) (any_bd fm hq)) (cond_yes rfl (cond_yes rfl ?_))
    have hle : relC p q ≤ 12 := relC_le (any_bd fl hp).2.1 (any_bd fm hq).2.1
    have hr : relFM l m (relC p q) := ⟨hw, p, q, hp, hq, relC_rel (any_bd fl hp).2.1 (any_bd fm hq).2.1⟩
    refine callP_of (up2 (ok_relate_Can (r := (relC p q : Nat)) fl nl fm nm)) fun b hb => cond_yes (hb.2 ⟨by omega, by omega, by rw [toNat_ofNat]; exact hr⟩) ?_
    rw [wrapU (a := relC p q) (by omega), toNat_ofNat]
    exact ⟨⟨by omega, by show ((relC p q : Nat) : Int) < 64; omega⟩, decide_eq_true (((relF_mask fl fm).bit hle).2 hr)⟩
  · have z : relF l m = (0, 8) := by unfold relF; rw [if_pos hw]
    rw [z]
    exact cond_yes rfl (cond_yes rfl (cond_no rfl rfl))
end Go.Proofs.YtocmlcpcnjaaeaaGreatDoor.V


/- Layer 20's law RelateAll. No condition of its own. -/
namespace Go.Proofs.YtocmlcpcnjaaeaaGreatDoor.V
open Go
set_option linter.unusedVariables false
set_option linter.unusedSimpArgs false
set_option linter.unusedSectionVars false

theorem sub_len : ∀ {l m : List Int}, l.Pairwise (· < ·) → (∀ x ∈ l, x ∈ m) → l.length ≤ m.length
  | [], m, _, _ => Nat.zero_le _
  | x :: l, m, h, k => by
    have h' := List.pairwise_cons.1 h
    have hx := k x (List.mem_cons_self ..)
    have := sub_len (l := l) (m := m.erase x) h'.2 fun y hy => by
      have hne : y ≠ x := fun e => by have := h'.1 y hy; omega
      exact (List.mem_erase_of_ne hne).2 (k y (List.mem_cons_of_mem _ hy))
    rw [List.length_erase_of_mem hx] at this
    have := List.length_pos_of_mem hx
    rw [List.length_cons]
    omega

theorem runs_len : ∀ {s : Runs}, (∀ r ∈ s, r.1 ≤ r.2) → s.length ≤ (nums s).length
  | [], _ => Nat.zero_le _
  | r :: s, h => by
    have h1 := h r (List.mem_cons_self ..)
    have := runs_len (s := s) fun q hq => h q (List.mem_cons_of_mem _ hq)
    have e : nums (r :: s) = upTo r.1 r.2 ++ nums s := rfl
    rw [e, upTo_cons h1, List.length_append, List.length_cons, List.length_cons]
    omega

theorem sane_len {s : Runs} (h : Sane s) : s.length ≤ (nums s).length := runs_len fun r hr => (Sane.bounds h r hr).2.1

theorem few_pairs {f : Leaf} (hla : f.2.2.1.length ≤ 1000) (hlb : f.2.2.2.length ≤ 1000) (h : (famPairs (ofF f)).length ≤ 200) : (startsL f).2 = true ∧ (endsL f).2 = true := by
  have hv := views_ok hla hlb
  have hp := fun p => (views_pairs (f := f) (p := p)).2
  unfold viewsF at hv hp
  unfold startsL endsL
  rcases ho : ofF f with _ | ⟨u, s⟩ | ⟨a, b⟩
  · exact ⟨rfl, rfl⟩
  · rw [ho] at h
    obtain ⟨h1, h2, rfl, rfl, h5, h6, h7⟩ := of_units ho
    have hn : (nums f.2.2.1).length ≤ 200 := by
      have h : (unitPairs f.2.1 f.2.2.1).length ≤ 200 := h
      unfold unitPairs at h
      rwa [List.length_map] at h
    have hl := sane_len h6.1
    have key : ∀ g, (marksF g f.2.1 f.2.2.1).2 = true := fun g => by
      unfold marksF
      rw [units_self h6]
      by_cases e : f.2.1 = 0
      · rw [if_pos e, if_neg (by omega)]
      · rw [if_neg e, if_neg (by omega)]
    exact ⟨key _, key _⟩
  · rw [ho] at h hv hp
    dsimp only at hv hp
    have v := hv _ (List.mem_singleton.2 rfl)
    have ha : (nums a).length ≤ 200 := by
      have := sub_len (l := nums a) (m := (famPairs (some (.inr (a, b)))).map (·.1)) (nums_sorted v.wa.1) fun x hx => List.mem_map.2 ⟨_, hp _ ⟨_, List.mem_singleton.2 rfl, v.start (mem_nums.1 hx)⟩, rfl⟩
      rw [List.length_map] at this
      omega
    have hb : (nums b).length ≤ 200 := by
      have := sub_len (l := nums b) (m := (famPairs (some (.inr (a, b)))).map (·.2)) (nums_sorted v.wb.1) fun x hx => List.mem_map.2 ⟨_, hp _ ⟨_, List.mem_singleton.2 rfl, v.fin (mem_nums.1 hx)⟩, rfl⟩
      rw [List.length_map] at this
      omega
    have la := sane_len v.wa.1
    have lb := sane_len v.wb.1
    dsimp only at la lb
    unfold knownF
    dsimp only
    rw [if_neg (by omega), if_neg (by omega)]
    exact ⟨rfl, rfl⟩

theorem ok_lustrumlaw20_pairs {l : List Leaf} (hl : FewL 1000 l) (hn : l.length ≤ 4) : FnE bs n_lustrumlaw20_pairs ((Shape.slice sApiLeaf).compsE l) (.tup (.pair (.slice sRun) .bool)) (fun r => r.2 = true → (r.1 = pairsL l ∧ wideB l = false ∧ (pairsL l).length ≤ 800)) := by
  refine ok_of (e_lustrumlaw20_pairs l _) rfl ?_
  unfold c_lustrumlaw20_pairs
  refine loopP_of (fun z : Unit × Int × List Pr => ∃ k : Nat, z.2.1 = k ∧ k ≤ l.length ∧ z.2.2 = pairsL (l.take k) ∧ wideB (l.take k) = false ∧ z.2.2.length ≤ k * 200) (fun z => l.length - z.2.1.toNat) ?_ ⟨0, rfl, Nat.zero_le _, rfl, rfl, Nat.zero_le _⟩
  rintro ⟨_, _, acc⟩ A ⟨k, e1, hk, e2, hw, hlen⟩ back
  dsimp only at e1 e2 hlen ⊢
  subst e1
  subst e2
  refine cond_dec (fun h1 => ⟨⟨by omega, h1⟩, ?_⟩) fun h1 => ?_
  · have h1 : (k : Int) < l.length := h1
    have hk' : k < l.length := by omega
    have hg := List.getElem?_eq_getElem hk'
    have hf := hl.2 l[k] (List.getElem_mem hk')
    generalize l[k] = f at hg hf
    have ht : l.take (k + 1) = l.take k ++ [f] := by rw [List.take_add_one, hg]; rfl
    rw [toNat_ofNat, rd_of (s := sApiLeaf) hg, w_succ (by omega)]
    refine callP_eq (ok_leaf_Pairs (f := f) (n := 201) (by omega) (by omega)) (cond_dec (fun h2 => fun q => by cases q) fun h2 => ?_)
    have h2 : ¬ (200 : Int) < ((pairsF f 201).length : Int) := h2
    have e : pairsF f 201 = (famPairs (ofF f)).take 201 := rfl
    have hfp : (famPairs (ofF f)).length ≤ 200 := by
      rw [e, List.length_take] at h2
      omega
    have e3 : pairsF f 201 = famPairs (ofF f) := by rw [e, List.take_of_length_le (by omega)]
    rw [e3]
    have hs := few_pairs hf.1 hf.2 hfp
    refine ⟨by omega, back ((), ((k + 1 : Nat) : Int), _) ⟨k + 1, rfl, hk', ?_, ?_, ?_⟩ (by dsimp only; omega)⟩
    · rw [ht]
      unfold pairsL
      rw [List.flatMap_append]
      simp
    · rw [ht, wide_app, hw]
      simp [wideB, hs.1, hs.2]
    · dsimp only
      rw [List.length_append]
      omega
  · have hkl : k = l.length := by have h1 : ¬ (k : Int) < l.length := h1; omega
    subst hkl
    rw [List.take_length] at hw hlen ⊢
    exact fun _ => ⟨rfl, hw, by omega⟩

theorem ok_RelateAll (a : List Leaf × List Leaf) (hl : a.1.length ≤ 9223372036854775807) (hm : a.2.length ≤ 9223372036854775807) : FnE bs2 n_lustrumlaw20_RelateAll ((Shape.pair (.slice sApiLeaf) (.slice sApiLeaf)).compsE a) .bool (· = true) := by
  obtain ⟨l, m⟩ := a
  refine ok_of (e_lustrumlaw20_RelateAll (l, m) _) rfl ?_
  unfold c_lustrumlaw20_RelateAll
  refine callP_eq (up2 ok_lustrumlaw20_awake) (callP_of (up2 (ok_lustrumlaw20_few hl)) fun x hx => cond_not (fun h => rfl) fun h => callP_of (up2 (ok_lustrumlaw20_few hm)) fun y hy => cond_not (fun h => rfl) fun h2 => cond_dec (fun _ => rfl) fun n4 => cond_dec (fun _ => rfl) fun m4 => ?_)
  have hf := hx h
  have hg := hy h2
  have n4 : ¬ (4 : Int) < l.length := n4
  have m4 : ¬ (4 : Int) < m.length := m4
  have nl : l.length ≤ 1000 := by omega
  have nm : m.length ≤ 1000 := by omega
  have fl : FewL 1000 l := few1000 hf.2
  have fm : FewL 1000 m := few1000 hg.2
  refine callP_of (up2 (ok_lustrumlaw20_pairs fl (by omega))) fun r4 h4 => callP_of (up2 (ok_lustrumlaw20_pairs fm (by omega))) fun r5 h5 => cond_not (fun _ => rfl) fun q4 => cond_not (fun _ => rfl) fun q5 => ?_
  obtain ⟨e4, w4, l4⟩ := h4 q4
  obtain ⟨e5, w5, l5⟩ := h5 q5
  obtain ⟨X, b4⟩ := r4
  obtain ⟨Y, b5⟩ := r5
  dsimp only at e4 e5 ⊢
  have hvX : ∀ p ∈ pairsL l, 0 ≤ p.1 ∧ p.1 ≤ p.2 ∧ p.2 ≤ 3652424 := fun p hp => any_bd fl (mem_pairsL.1 hp)
  have hvY : ∀ p ∈ pairsL m, 0 ≤ p.1 ∧ p.1 ≤ p.2 ∧ p.2 ≤ 3652424 := fun p hp => any_bd fm (mem_pairsL.1 hp)
  have key : ∀ n : Int, IsMask n (fun j => ∃ p ∈ pairsL l, ∃ q ∈ pairsL m, j = relC p q) → (relF l m).1 = n ∧ (relF l m).2 = 0 := fun n hn => by
    unfold relF
    rw [if_neg (by simp [w4, w5])]
    refine ⟨(relMask_is fl fm).ext hn fun k _ => ?_, rfl⟩
    constructor
    · rintro ⟨p, q, hp, hq, h⟩
      exact ⟨p, mem_pairsL.2 hp, q, mem_pairsL.2 hq, (relC_iff (any_le fl hp) (any_le fm hq)).1 h⟩
    · rintro ⟨p, hp, q, hq, h⟩
      have hp := mem_pairsL.1 hp
      have hq := mem_pairsL.1 hq
      exact ⟨p, q, hp, hq, (relC_iff (any_le fl hp) (any_le fm hq)).2 h⟩
  rw [← e4] at key hvX l4
  rw [← e5] at key hvY l5
  refine loopP_of (fun z : Int × Int => ∃ k : Nat, z.2 = k ∧ k ≤ X.length ∧ IsMask z.1 (fun j => ∃ p ∈ X.take k, ∃ q ∈ Y, j = relC p q)) (fun z => X.length - z.2.toNat) ?_ ⟨0, rfl, Nat.zero_le _, IsMask.zero.iff fun k _ => ⟨False.elim, fun ⟨x, hx, _⟩ => by cases hx⟩⟩
  rintro ⟨mask, _⟩ A ⟨k, e1, hk, hmask⟩ back
  dsimp only at e1 hmask ⊢
  subst e1
  refine cond_dec (fun h1 => ?_) fun h1 => ?_
  · have h1 : (k : Int) < X.length := h1
    have hk' : k < X.length := by omega
    have hg := List.getElem?_eq_getElem hk'
    have hx := hvX X[k] (List.getElem_mem hk')
    generalize X[k] = x at hg hx
    have ht : X.take (k + 1) = X.take k ++ [x] := by rw [List.take_add_one, hg]; rfl
    rw [toNat_ofNat, rd_of (s := sRun) hg, w_succ (by omega)]
    refine loopP_of (fun z : Int × Int => ∃ i : Nat, z.2 = i ∧ i ≤ Y.length ∧ IsMask z.1 (fun j => (∃ p ∈ X.take k, ∃ q ∈ Y, j = relC p q) ∨ ∃ q ∈ Y.take i, j = relC x q)) (fun z => Y.length - z.2.toNat) ?_ ⟨0, rfl, Nat.zero_le _, hmask.iff fun k _ => ⟨.inl, fun q => q.elim id fun ⟨x, hx, _⟩ => by cases hx⟩⟩
    rintro ⟨mask2, _⟩ A2 ⟨i, e1, hi, hmask2⟩ back2
    dsimp only at e1 hmask2 ⊢
    subst e1
    refine cond_dec (fun h2 => ⟨⟨by omega, h1⟩, ⟨by omega, h2⟩, ?_⟩) fun h2 => ?_
    · have h2 : (i : Int) < Y.length := h2
      have hi' : i < Y.length := by omega
      have hg2 := List.getElem?_eq_getElem hi'
      have hy := hvY Y[i] (List.getElem_mem hi')
      generalize Y[i] = y at hg2 hy
      have ht2 : Y.take (i + 1) = Y.take i ++ [y] := by rw [List.take_add_one, hg2]; rfl
      rw [toNat_ofNat, rd_of (s := sRun) hg2, w_succ (by omega)]
      refine callP_eq (ok_allen_Of (p := x) (q := y) hx hy) ?_
      have hle : relC x y ≤ 12 := relC_le hx.2.1 hy.2.1
      dsimp only
      rw [wrapU (a := relC x y) (by omega), toNat_ofNat]
      refine ⟨⟨by omega, by show ((relC x y : Nat) : Int) < 64; omega⟩, ?_⟩
      refine back2 (_, ((i + 1 : Nat) : Int)) ⟨i + 1, rfl, hi', ?_⟩ (by dsimp only; omega)
      refine (hmask2.or (IsMask.one hle)).iff fun j _ => ?_
      rw [ht2]
      constructor
      · rintro ((q | ⟨y', hy', q⟩) | q)
        · exact .inl q
        · exact .inr ⟨y', List.mem_append_left _ hy', q⟩
        · exact .inr ⟨y, by simp, q⟩
      · rintro (q | ⟨y', hy', q⟩)
        · exact .inl (.inl q)
        · rcases List.mem_append.1 hy' with hy' | hy'
          · exact .inl (.inr ⟨y', hy', q⟩)
          · cases List.mem_singleton.1 hy'; exact .inr q
    · have hil : i = Y.length := by have h2 : ¬ (i : Int) < Y.length := h2; omega
      subst hil
      rw [List.take_length] at hmask2
      refine back (_, ((k + 1 : Nat) : Int)) ⟨k + 1, rfl, hk', ?_⟩ (by dsimp only; omega)
      refine hmask2.iff fun j _ => ?_
      rw [ht]
      constructor
      · rintro (⟨x', hx', q⟩ | q)
        · exact ⟨x', List.mem_append_left _ hx', q⟩
        · exact ⟨x, by simp, q⟩
      · rintro ⟨x', hx', q⟩
        rcases List.mem_append.1 hx' with hx' | hx'
        · exact .inl ⟨x', hx', q⟩
        · cases List.mem_singleton.1 hx'; exact .inr q
  · have hkl : k = X.length := by have h1 : ¬ (k : Int) < X.length := h1; omega
    subst hkl
    rw [List.take_length] at hmask
    have hkey := key _ hmask
    exact callP_eq (up2 (ok_relate_Relations fl nl fm nm)) (cond_yes rfl (cond_yes (decide_eq_true hkey.2) (decide_eq_true hkey.1)))
end Go.Proofs.YtocmlcpcnjaaeaaGreatDoor.V

