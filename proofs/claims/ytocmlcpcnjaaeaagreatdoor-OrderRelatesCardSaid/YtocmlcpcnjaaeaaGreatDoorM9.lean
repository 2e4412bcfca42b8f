/- The calculus of the program's functions and their contracts, part 9. No condition of its own. -/
import Derived.Test.YtocmlcpcnjaaeaaGreatDoorM8


/- lustrumlaw14.LeafEnds as a condition on the program's functions. No condition of its own. -/
namespace Go.Proofs.YtocmlcpcnjaaeaaGreatDoor.V
open Go
set_option linter.unusedVariables false
set_option linter.unusedSimpArgs false

def knownF (s : Runs) : Runs × Bool := if 400 < s.length then ([], false) else (s, true)

theorem ok_leaf_known {s : Runs} (hl : s.length < 65536) (h : Sane s) : FnE bs n_leaf_known ((Shape.slice sRun).compsE s) (.tup (.pair (.slice sRun) .bool)) (· = knownF s) := by
  refine ok_of (e_leaf_known s _) rfl ?_
  unfold c_leaf_known knownF
  refine callP_eq (ok_sets_WideA hl) ?_
  rw [make_self h]
  exact cond_dec (fun q => (if_pos q).symm) fun q => (if_neg q).symm

/-- The days on which a leaf's pairs start, and end. -/
def startsL (f : Leaf) : Runs × Bool := match ofF f with
  | none => ([], true)
  | some (.inl (u, s)) => marksF VCal.ufirst u s
  | some (.inr (a, b)) => knownF a
def endsL (f : Leaf) : Runs × Bool := match ofF f with
  | none => ([], true)
  | some (.inl (u, s)) => marksF VCal.ulast u s
  | some (.inr (a, b)) => knownF b

theorem span_lens {f : Leaf} {a b : Runs} (h : ofF f = some (.inr (a, b))) : a.length ≤ f.2.2.1.length ∧ b.length ≤ f.2.2.2.length := by
  obtain ⟨_, _, _, _, _, _, _, rfl, rfl⟩ := of_span h
  exact ⟨clip_length _ _ _, clip_length _ _ _⟩

theorem ok_leaf_Starts {f : Leaf} (hla : f.2.2.1.length < 65536) (hlb : f.2.2.2.length < 65536) : FnE bs n_leaf_Starts (sApiLeaf.compsE f) (.tup (.pair (.slice sRun) .bool)) (· = startsL f) := by
  refine ok_of (e_leaf_Starts f _) rfl ?_
  unfold c_leaf_Starts startsL
  refine callP_eq (ok_leaf_of (by dsimp only; omega) (by dsimp only; omega)) ?_
  rw [show ((f.1, f.2.1, f.2.2.1, f.2.2.2) : Leaf) = f from rfl]
  rcases ho : ofF f with _ | ⟨u, s⟩ | ⟨a, b⟩
  · exact rfl
  · obtain ⟨h1, h2, rfl, rfl, h5, h6, h7⟩ := of_units ho
    exact callP_eq (ok_image_Starts hla) rfl
  · have hs := span_ends ho
    have hl := span_lens ho
    exact callP_eq (ok_leaf_known (by dsimp only; omega) hs.1) rfl

theorem ok_leaf_Ends {f : Leaf} (hla : f.2.2.1.length < 65536) (hlb : f.2.2.2.length < 65536) : FnE bs n_leaf_Ends (sApiLeaf.compsE f) (.tup (.pair (.slice sRun) .bool)) (· = endsL f) := by
  refine ok_of (e_leaf_Ends f _) rfl ?_
  unfold c_leaf_Ends endsL
  refine callP_eq (ok_leaf_of (by dsimp only; omega) (by dsimp only; omega)) ?_
  rw [show ((f.1, f.2.1, f.2.2.1, f.2.2.2) : Leaf) = f from rfl]
  rcases ho : ofF f with _ | ⟨u, s⟩ | ⟨a, b⟩
  · exact rfl
  · obtain ⟨h1, h2, rfl, rfl, h5, h6, h7⟩ := of_units ho
    exact callP_eq (ok_image_Ends hla) rfl
  · have hs := span_ends ho
    have hl := span_lens ho
    exact callP_eq (ok_leaf_known (by dsimp only; omega) hs.2.1) rfl

end Go.Proofs.YtocmlcpcnjaaeaaGreatDoor.V


/- The views of a family: plain facts. No program in sight. -/
namespace Go.Proofs.YtocmlcpcnjaaeaaGreatDoor.V
set_option linter.unusedVariables false
set_option linter.unusedSimpArgs false

/-- A family's views. -/
def viewsF (f : Leaf) : List View := match ofF f with
  | none => []
  | some (.inl (u, s)) => if u = 0 then [(true, s, s)] else (nums s).map fun i => (false, [(VCal.ufirst u i, VCal.ufirst u i)], [(VCal.ulast u i, VCal.ulast u i)])
  | some (.inr (a, b)) => [(false, a, b)]

theorem one_within {d : Int} (h : 0 ≤ d ∧ d ≤ 3652424) : Within [(d, d)] 3652424 := by
  refine ⟨⟨by dsimp only; omega, by dsimp only; omega, by unfold Lim; dsimp only; omega, trivial⟩, .inr ⟨by show 0 ≤ d; omega, by show d ≤ 3652424; omega⟩⟩

theorem views_ok {f : Leaf} (hla : f.2.2.1.length ≤ 1000) (hlb : f.2.2.2.length ≤ 1000) : ∀ x ∈ viewsF f, VOK x := by
  intro x hx
  unfold viewsF at hx
  rcases ho : ofF f with _ | ⟨u, s⟩ | ⟨a, b⟩
  · rw [ho] at hx; cases hx
  · rw [ho] at hx
    obtain ⟨h1, h2, rfl, rfl, h5, h6, h7⟩ := of_units ho
    dsimp only at hx
    split at hx
    · rename_i h0
      cases List.mem_singleton.1 hx
      rw [h0, VCal.ucount_0] at h6
      exact ⟨h6, h6, h5, h5, fun _ => rfl, Int.le_refl _, Int.le_refl _, hla, hla⟩
    · obtain ⟨i, hi, rfl⟩ := List.mem_map.1 hx
      have hb := Within.bounds h6 (mem_nums.1 hi)
      have hu := VCal.unit_in (kind := f.2.1) (i := i) (by omega) (by omega)
      exact ⟨one_within (by omega), one_within (by omega), by simp, by simp, fun e => (by cases e), hu.2.1, hu.2.1, (by simp), (by simp)⟩
  · rw [ho] at hx
    cases List.mem_singleton.1 hx
    obtain ⟨h1, h2, h3, h4, h5, h6, h7, e1, e2⟩ := of_span ho
    obtain ⟨sa, sb, na, nb, la, lb⟩ := span_ends ho
    have hl := span_lens ho
    have ba := Within.bounds h6 (mem_lo h6.1 h3)
    have bb := Within.bounds h7 (mem_hi h7.1 h4)
    have ia : ∀ n, mem a n → mem f.2.2.1 n ∧ 0 ≤ n ∧ n ≤ hiF f.2.2.2 := fun n hn => by rw [e1] at hn; exact mem_clip.1 hn
    have ib : ∀ n, mem b n → mem f.2.2.2 n ∧ loF f.2.2.1 ≤ n ∧ n ≤ 3652424 := fun n hn => by rw [e2] at hn; exact mem_clip.1 hn
    have lo := mem_lo sb nb
    have hi := mem_hi sa na
    have x1 := Within.bounds h6 (ia _ hi).1
    have x2 := Within.bounds h7 (ib _ lo).1
    have x3 := ia _ hi
    have x4 := ib _ lo
    have wa : Within a 3652424 := ⟨sa, .inr ⟨by omega, by omega⟩⟩
    have wb : Within b 3652424 := ⟨sb, .inr ⟨by omega, by omega⟩⟩
    exact ⟨wa, wb, na, nb, fun e => (by cases e), (by show loF a ≤ loF b; omega), (by show hiF a ≤ hiF b; omega), (by show a.length ≤ 1000; omega), (by show b.length ≤ 1000; omega)⟩

theorem mem_spanPairs {a b : Runs} {p : Int × Int} : p ∈ spanPairs a b ↔ p.1 ≤ p.2 ∧ mem a p.1 ∧ mem b p.2 := by
  unfold spanPairs
  simp only [List.mem_flatMap, List.mem_map, mem_nums, mem_upTo]
  constructor
  · rintro ⟨s, hs, r, hr, t, ⟨h1, h2⟩, rfl⟩
    exact ⟨by show s ≤ t; omega, hs, r, hr, by show r.1 ≤ t; omega, h2⟩
  · rintro ⟨h, hs, r, hr, h1, h2⟩
    exact ⟨p.1, hs, r, hr, p.2, ⟨by omega, h2⟩, rfl⟩

theorem mem_one {d n : Int} : mem [(d, d)] n ↔ n = d := by
  rw [mem_cons]
  constructor
  · rintro (h | h)
    · dsimp only at h; omega
    · exact (mem_nil h).elim
  · rintro rfl; exact .inl ⟨Int.le_refl _, Int.le_refl _⟩

theorem views_pairs {f : Leaf} {p : Int × Int} : p ∈ famPairs (ofF f) ↔ ∃ x ∈ viewsF f, PV x p := by
  unfold viewsF
  rcases ho : ofF f with _ | ⟨u, s⟩ | ⟨a, b⟩
  · simp [famPairs]
  · obtain ⟨h1, h2, rfl, rfl, h5, h6, h7⟩ := of_units ho
    dsimp only
    show p ∈ unitPairs f.2.1 f.2.2.1 ↔ _
    unfold unitPairs
    rw [List.mem_map]
    split
    · rename_i h0
      rw [h0] at h6 ⊢
      constructor
      · rintro ⟨i, hi, rfl⟩
        have hb := Within.bounds h6 (mem_nums.1 hi)
        have := day_unit (i := i) (by omega)
        refine ⟨_, List.mem_singleton.2 rfl, (PV.single rfl).2 ⟨?_, ?_⟩⟩
        · show VCal.ufirst 0 i = VCal.ulast 0 i
          rw [this.1, this.2]
        · show mem f.2.2.1 (VCal.ufirst 0 i)
          rw [this.1]; exact mem_nums.1 hi
      · rintro ⟨x, hx, hp⟩
        cases List.mem_singleton.1 hx
        have hp := (PV.single rfl).1 hp
        have hm : mem f.2.2.1 p.1 := hp.2
        have hb := Within.bounds h6 hm
        have := day_unit (i := p.1) (by omega)
        refine ⟨p.1, mem_nums.2 hm, Prod.ext this.1 ?_⟩
        show VCal.ulast 0 p.1 = p.2
        rw [this.2]; exact hp.1
    · constructor
      · rintro ⟨i, hi, rfl⟩
        have hb := Within.bounds h6 (mem_nums.1 hi)
        have hu := VCal.unit_in (kind := f.2.1) (i := i) (by omega) (by omega)
        exact ⟨_, List.mem_map.2 ⟨i, hi, rfl⟩, (PV.span rfl).2 ⟨by show VCal.ufirst _ _ ≤ VCal.ulast _ _; omega, mem_one.2 rfl, mem_one.2 rfl⟩⟩
      · rintro ⟨x, hx, hp⟩
        obtain ⟨i, hi, rfl⟩ := List.mem_map.1 hx
        have hp := (PV.span rfl).1 hp
        exact ⟨i, hi, Prod.ext (mem_one.1 hp.2.1).symm (mem_one.1 hp.2.2).symm⟩
  · show p ∈ spanPairs a b ↔ _
    rw [mem_spanPairs]
    constructor
    · intro h
      exact ⟨_, List.mem_singleton.2 rfl, (PV.span rfl).2 h⟩
    · rintro ⟨x, hx, hp⟩
      cases List.mem_singleton.1 hx
      exact (PV.span rfl).1 hp

theorem any_views {l : List Leaf} {p : Int × Int} : anyP l p ↔ ∃ x ∈ l.flatMap viewsF, PV x p := by
  unfold anyP
  simp only [List.mem_flatMap]
  constructor
  · rintro ⟨f, hf, hp⟩
    obtain ⟨x, hx, hv⟩ := views_pairs.1 hp
    exact ⟨x, ⟨f, hf, hx⟩, hv⟩
  · rintro ⟨x, ⟨f, hf, hx⟩, hv⟩
    exact ⟨f, hf, views_pairs.2 ⟨x, hx, hv⟩⟩

/-- The relations in which some pairs of two lists of families stand. -/
def relM (l m : List Leaf) (k : Nat) : Prop := ∃ p q, anyP l p ∧ anyP m q ∧ relK k p q

theorem any_le {l : List Leaf} (hl : FewL 1000 l) {p : Int × Int} (h : anyP l p) : p.1 ≤ p.2 := by
  obtain ⟨x, hx, hp⟩ := any_views.1 h
  obtain ⟨f, hf, hxf⟩ := List.mem_flatMap.1 hx
  exact ((views_ok (hl.2 f hf).1 (hl.2 f hf).2 x hxf).pv hp).1

/-- The relation in which two pairs stand. -/
def relC (p q : Pr) : Nat :=
  if p.2 + 1 < q.1 then 0 else if p.2 + 1 = q.1 then 1 else if q.2 + 1 < p.1 then 12 else if q.2 + 1 = p.1 then 11
  else if p.1 < q.1 then (if p.2 < q.2 then 2 else if p.2 = q.2 then 7 else 8)
  else if p.1 = q.1 then (if p.2 < q.2 then 3 else if p.2 = q.2 then 6 else 9)
  else (if p.2 < q.2 then 4 else if p.2 = q.2 then 5 else 10)

theorem relC_rel {p q : Pr} (hp : p.1 ≤ p.2) (hq : q.1 ≤ q.2) : relK (relC p q) p q := by
  unfold relC
  by_cases a0 : p.2 + 1 < q.1
  · rw [if_pos a0]; exact a0
  rw [if_neg a0]
  by_cases a1 : p.2 + 1 = q.1
  · rw [if_pos a1]; exact a1
  rw [if_neg a1]
  by_cases a2 : q.2 + 1 < p.1
  · rw [if_pos a2]; exact ⟨by decide, a2⟩
  rw [if_neg a2]
  by_cases a3 : q.2 + 1 = p.1
  · rw [if_pos a3]; exact ⟨by decide, a3⟩
  rw [if_neg a3]
  by_cases b : p.1 < q.1
  · rw [if_pos b]
    by_cases c : p.2 < q.2
    · rw [if_pos c]; exact ⟨b, by omega, c⟩
    rw [if_neg c]
    by_cases c' : p.2 = q.2
    · rw [if_pos c']; exact ⟨by decide, b, c'.symm⟩
    rw [if_neg c']; exact ⟨by decide, b, by omega⟩
  rw [if_neg b]
  by_cases b' : p.1 = q.1
  · rw [if_pos b']
    by_cases c : p.2 < q.2
    · rw [if_pos c]; exact ⟨b', c⟩
    rw [if_neg c]
    by_cases c' : p.2 = q.2
    · rw [if_pos c']; exact ⟨b', c'⟩
    rw [if_neg c']; exact ⟨by decide, b'.symm, by omega⟩
  rw [if_neg b']
  by_cases c : p.2 < q.2
  · rw [if_pos c]; exact ⟨by omega, c⟩
  rw [if_neg c]
  by_cases c' : p.2 = q.2
  · rw [if_pos c']; exact ⟨by omega, c'⟩
  rw [if_neg c']; exact ⟨by decide, by omega, by omega, by omega⟩

theorem relC_iff {p q : Pr} (hp : p.1 ≤ p.2) (hq : q.1 ≤ q.2) {k : Nat} : relK k p q ↔ k = relC p q :=
  ⟨fun h => relK_one hp hq h (relC_rel hp hq), fun h => h ▸ relC_rel hp hq⟩

def maskC (l : List Nat) : Nat := l.foldl (fun a k => a ||| 2 ^ k) 0

theorem foldl_or (l : List Nat) : ∀ a : Nat, ∀ k, (l.foldl (fun a k => a ||| 2 ^ k) a).testBit k = true ↔ a.testBit k = true ∨ k ∈ l := by
  induction l with
  | nil => intro a k; simp
  | cons x l ih =>
    intro a k
    rw [List.foldl_cons, ih, Nat.testBit_or, Bool.or_eq_true, Nat.testBit_two_pow, decide_eq_true_iff, List.mem_cons]
    constructor
    · rintro ((h | h) | h)
      · exact .inl h
      · exact .inr (.inl h.symm)
      · exact .inr (.inr h)
    · rintro (h | h | h)
      · exact .inl (.inl h)
      · exact .inl (.inr h.symm)
      · exact .inr h

theorem maskC_is {l : List Nat} (h : ∀ k ∈ l, k ≤ 12) : IsMask (maskC l : Nat) (· ∈ l) := ⟨_, rfl, fun k => by
  unfold maskC
  rw [foldl_or]
  simp only [Nat.zero_testBit, Bool.false_eq_true, false_or]
  exact ⟨fun q => ⟨h k q, q⟩, fun q => q.2⟩⟩

def pairsL (l : List Leaf) : List Pr := l.flatMap fun f => famPairs (ofF f)

theorem mem_pairsL {l : List Leaf} {p : Pr} : p ∈ pairsL l ↔ anyP l p := by
  unfold pairsL anyP
  rw [List.mem_flatMap]

def relMask (l m : List Leaf) : Nat := maskC ((pairsL l).flatMap fun p => (pairsL m).map fun q => relC p q)

theorem relMask_is {l m : List Leaf} (hl : FewL 1000 l) (hm : FewL 1000 m) : IsMask (relMask l m : Nat) (relM l m) := by
  have key : ∀ k, k ∈ ((pairsL l).flatMap fun p => (pairsL m).map fun q => relC p q) ↔ relM l m k := fun k => by
    rw [List.mem_flatMap]
    constructor
    · rintro ⟨p, hp, hk⟩
      obtain ⟨q, hq, e⟩ := List.mem_map.1 hk
      have hp := mem_pairsL.1 hp
      have hq := mem_pairsL.1 hq
      exact ⟨p, q, hp, hq, (relC_iff (any_le hl hp) (any_le hm hq)).2 e.symm⟩
    · rintro ⟨p, q, hp, hq, h⟩
      exact ⟨p, mem_pairsL.2 hp, List.mem_map.2 ⟨q, mem_pairsL.2 hq, ((relC_iff (any_le hl hp) (any_le hm hq)).1 h).symm⟩⟩
  refine IsMask.iff (maskC_is fun k hk => ?_) fun k _ => key k
  obtain ⟨p, q, _, _, h⟩ := (key k).1 hk
  exact relK_le h

/-- A family has too many starts or ends. -/
def wideB (l : List Leaf) : Bool := l.any fun f => !(startsL f).2 || !(endsL f).2

/-- What is told of two lists. -/
def relF (l m : List Leaf) : Int × Int := if (wideB l || wideB m) = true then (0, 8) else ((relMask l m : Nat), 0)

/-- The mask that is told. -/
def relFM (l m : List Leaf) (k : Nat) : Prop := (wideB l || wideB m) = false ∧ relM l m k

theorem relF_mask {l m : List Leaf} (hl : FewL 1000 l) (hm : FewL 1000 m) : IsMask (relF l m).1 (relFM l m) := by
  unfold relF relFM
  cases h : (wideB l || wideB m)
  · rw [if_neg (by simp)]
    exact (relMask_is hl hm).iff fun k _ => ⟨fun q => ⟨rfl, q⟩, fun q => q.2⟩
  · rw [if_pos rfl]
    exact IsMask.zero.iff fun k _ => ⟨False.elim, fun q => by cases q.1⟩
end Go.Proofs.YtocmlcpcnjaaeaaGreatDoor.V


/- Bits of any number: plain facts. No program in sight. -/
namespace Go.Proofs.YtocmlcpcnjaaeaaGreatDoor.V
set_option linter.unusedVariables false
set_option linter.unusedSimpArgs false

/-- A number's bit. -/
def mbit (mask : Int) (k : Nat) : Prop := (mask % 18446744073709551616) / 2 ^ k % 2 = 1
instance (mask : Int) (k : Nat) : Decidable (mbit mask k) := inferInstanceAs (Decidable (_ = _))

theorem lsb_mbit {mask : Int} {k : Nat} : (BitVec.ofInt 64 mask).getLsbD k = true ↔ mbit mask k := by
  unfold BitVec.getLsbD mbit
  rw [BitVec.toNat_ofInt, Nat.testBit_eq_decide_div_mod_eq, decide_eq_true_iff]
  have h0 : 0 ≤ mask % 18446744073709551616 := Int.emod_nonneg _ (by decide)
  obtain ⟨u, hu⟩ := Int.eq_ofNat_of_zero_le h0
  have e : (mask % ((2 ^ 64 : Nat) : Int)).toNat = u := by
    have : ((2 ^ 64 : Nat) : Int) = 18446744073709551616 := by decide
    rw [this, hu]; rfl
  rw [e, hu]
  have : ((u / 2 ^ k % 2 : Nat) : Int) = (u : Int) / 2 ^ k % 2 := by simp
  rw [← this]
  omega

/-- A mask without the bits of a number. -/
theorem IsMask.andNot {a mask : Int} {P : Nat → Prop} (ha : IsMask a P) : w64 ((BitVec.ofInt 64 a &&& ~~~ BitVec.ofInt 64 mask).toNat : Int) = 0 ↔ ∀ k, k ≤ 12 → P k → mbit mask k := by
  obtain ⟨m, rfl, hm⟩ := ha
  have h1 := IsMask.lt hm
  rw [ofInt_nat]
  have hle : (BitVec.ofNat 64 m &&& ~~~ BitVec.ofInt 64 mask).toNat ≤ m := by
    rw [BitVec.toNat_and, BitVec.toNat_ofNat, Nat.mod_eq_of_lt (by omega)]
    exact Nat.and_le_left
  rw [w64_of (by omega)]
  have e : ((BitVec.ofNat 64 m &&& ~~~ BitVec.ofInt 64 mask).toNat : Int) = 0 ↔ (BitVec.ofNat 64 m &&& ~~~ BitVec.ofInt 64 mask) = 0#64 := by
    constructor
    · intro h
      apply BitVec.eq_of_toNat_eq
      simp only [BitVec.toNat_ofNat]
      omega
    · intro h; rw [h]; rfl
  rw [e]
  constructor
  · intro h k hk hp
    have hb := (hm k).2 ⟨hk, hp⟩
    have := congrArg (fun x => x.getLsbD k) h
    simp only [BitVec.getLsbD_and, BitVec.getLsbD_not, BitVec.getLsbD_ofNat, BitVec.getLsbD_zero] at this
    rw [hb] at this
    refine lsb_mbit.1 ?_
    have h64 : k < 64 := by omega
    simpa [h64] using this
  · intro h
    apply BitVec.eq_of_getLsbD_eq
    intro i hi
    simp only [BitVec.getLsbD_and, BitVec.getLsbD_not, BitVec.getLsbD_ofNat, BitVec.getLsbD_zero]
    cases hb : m.testBit i
    · simp
    · have hq := (hm i).1 hb
      have := lsb_mbit.2 (h i hq.1 hq.2)
      simp [this]

theorem IsMask.and {a mask : Int} {P : Nat → Prop} (ha : IsMask a P) : w64 ((BitVec.ofInt 64 a &&& BitVec.ofInt 64 mask).toNat : Int) = a ↔ ∀ k, k ≤ 12 → P k → mbit mask k := by
  obtain ⟨m, rfl, hm⟩ := ha
  have h1 := IsMask.lt hm
  rw [ofInt_nat]
  have hle : (BitVec.ofNat 64 m &&& BitVec.ofInt 64 mask).toNat ≤ m := by
    rw [BitVec.toNat_and, BitVec.toNat_ofNat, Nat.mod_eq_of_lt (by omega)]
    exact Nat.and_le_left
  rw [w64_of (by omega)]
  have e : ((BitVec.ofNat 64 m &&& BitVec.ofInt 64 mask).toNat : Int) = (m : Int) ↔ (BitVec.ofNat 64 m &&& BitVec.ofInt 64 mask) = BitVec.ofNat 64 m := by
    constructor
    · intro h
      apply BitVec.eq_of_toNat_eq
      rw [BitVec.toNat_ofNat, Nat.mod_eq_of_lt (by omega)]
      omega
    · intro h; rw [h, BitVec.toNat_ofNat, Nat.mod_eq_of_lt (by omega)]
  rw [e]
  constructor
  · intro h k hk hp
    have hb := (hm k).2 ⟨hk, hp⟩
    have := congrArg (fun x => x.getLsbD k) h
    simp only [BitVec.getLsbD_and, BitVec.getLsbD_ofNat] at this
    rw [hb] at this
    refine lsb_mbit.1 ?_
    have h64 : k < 64 := by omega
    simpa [h64] using this
  · intro h
    apply BitVec.eq_of_getLsbD_eq
    intro i hi
    simp only [BitVec.getLsbD_and, BitVec.getLsbD_ofNat]
    cases hb : m.testBit i
    · simp
    · have hq := (hm i).1 hb
      have := lsb_mbit.2 (h i hq.1 hq.2)
      simp [this]
end Go.Proofs.YtocmlcpcnjaaeaaGreatDoor.V


/- Units within days, and that have one of some days, by the units of the first and the last day: plain facts. No program in sight. -/
namespace Go.Proofs.YtocmlcpcnjaaeaaGreatDoor.V
set_option linter.unusedVariables false
set_option linter.unusedSimpArgs false

end Go.Proofs.YtocmlcpcnjaaeaaGreatDoor.V


/- lustrumref07, and lustrumlaw07.ImageIs, as conditions on the program's functions. No condition of its own. -/
namespace Go.Proofs.YtocmlcpcnjaaeaaGreatDoor.V
open Go
set_option linter.unusedVariables false
set_option linter.unusedSimpArgs false

end Go.Proofs.YtocmlcpcnjaaeaaGreatDoor.V


/- lustrumlaw07.ImageIs as a condition on the program's functions. No condition of its own. -/
namespace Go.Proofs.YtocmlcpcnjaaeaaGreatDoor.V
open Go
set_option linter.unusedVariables false
set_option linter.unusedSimpArgs false

end Go.Proofs.YtocmlcpcnjaaeaaGreatDoor.V


/- The next numbers of a set, one by one; sets of sets' parts: plain facts. No program in sight. -/
namespace Go.Proofs.YtocmlcpcnjaaeaaGreatDoor.V
set_option linter.unusedVariables false
set_option linter.unusedSimpArgs false

end Go.Proofs.YtocmlcpcnjaaeaaGreatDoor.V


/- lustrumref04.Has, ref05.Union, ref14.Covers, ref17: their contracts. No condition of its own. -/
namespace Go.Proofs.YtocmlcpcnjaaeaaGreatDoor.V
open Go
set_option linter.unusedVariables false
set_option linter.unusedSimpArgs false

end Go.Proofs.YtocmlcpcnjaaeaaGreatDoor.V


/- lustrumref14, and lustrumlaw14.LeafIs: their conditions. No condition of its own. -/
namespace Go.Proofs.YtocmlcpcnjaaeaaGreatDoor.V
open Go
set_option linter.unusedVariables false
set_option linter.unusedSimpArgs false

end Go.Proofs.YtocmlcpcnjaaeaaGreatDoor.V


/- Package relate: what its functions on two views answer. No condition of its own. -/
namespace Go.Proofs.YtocmlcpcnjaaeaaGreatDoor.V
open Go
set_option linter.unusedVariables false
set_option linter.unusedSimpArgs false

theorem ok_relate_one {d : Int} : FnE bs n_relate_one ((Shape.int .i64).compsE d) (.slice sRun) (· = [(d, d)]) := ok_of (e_relate_one d _) rfl rfl

theorem ok_relate_least {s : Runs} (h : s ≠ []) : FnE bs n_relate_least ((Shape.slice sRun).compsE s) (.int .i64) (· = loF s) := by
  refine ok_of (e_relate_least s _) rfl ?_
  unfold c_relate_least
  exact ⟨first_in h, rd_lo h⟩

theorem ok_relate_greatest {s : Runs} (h : s ≠ []) (hl : s.length ≤ 1000000000) : FnE bs n_relate_greatest ((Shape.slice sRun).compsE s) (.int .i64) (· = hiF s) := by
  refine ok_of (e_relate_greatest s _) rfl ?_
  unfold c_relate_greatest
  exact ⟨last_in h hl, rd_hi h hl⟩

theorem ok_runs_PrevS {s : Runs} {n : Int} (hl : s.length < 65536) (h : Sane s) : FnE bs n_runs_Prev ((Shape.pair (.slice sRun) (.int .i64)).compsE (s, n)) (.tup (.pair (.int .i64) .bool)) (PrevR s n) := by
  have := ok_runs_PrevA (s := s) (n := n) hl
  rw [make_self h] at this
  exact this

theorem ok_relate_firstEnd {x : View} {s : Int} (h : VOK x) (k : mem x.2.1 s) : FnE bs n_relate_view_firstEnd ((Shape.pair sRelateView (.int .i64)).compsE (x, s)) (.tup (.pair (.int .i64) .bool)) (FirstR x s) := by
  refine ok_of (e_relate_view_firstEnd (x, s) _) rfl ?_
  unfold c_relate_view_firstEnd
  refine cond_bool (fun e => first_single e k) fun e => ?_
  exact callP_of (ok_runs_Next (s := x.2.2) (n := s) (Nat.le_trans h.lb (by decide)) h.wb.1) fun r hr => first_next h e k hr

theorem ok_relate_lastStart {x : View} {t : Int} (h : VOK x) (k : mem x.2.2 t) : FnE bs n_relate_view_lastStart ((Shape.pair sRelateView (.int .i64)).compsE (x, t)) (.tup (.pair (.int .i64) .bool)) (LastR x t) := by
  refine ok_of (e_relate_view_lastStart (x, t) _) rfl ?_
  unfold c_relate_view_lastStart
  refine cond_bool (fun e => last_single h e k) fun e => ?_
  exact callP_of (ok_runs_PrevS (s := x.2.1) (n := t) (Nat.lt_of_le_of_lt h.la (by decide)) h.wa.1) fun r hr => last_prev h e k hr

/-- A set, a number further on. -/
def shiftF (s : Runs) (k : Int) : Runs := s.map fun r => (r.1 + k, r.2 + k)

theorem mem_shift {s : Runs} {k n : Int} : mem (shiftF s k) n ↔ mem s (n - k) := by
  unfold mem shiftF
  simp only [List.mem_map]
  constructor
  · rintro ⟨_, ⟨r, hr, rfl⟩, h1, h2⟩
    exact ⟨r, hr, by dsimp only at h1; omega, by dsimp only at h2; omega⟩
  · rintro ⟨r, hr, h1, h2⟩
    exact ⟨_, ⟨r, hr, rfl⟩, by dsimp only; omega, by dsimp only; omega⟩

theorem ok_sets_moved {s : Runs} {k : Int} (hl : s.length ≤ 1000) (h : Sane s) (hk : 0 ≤ k ∧ k ≤ 1) : FnE bs n_sets_moved ((Shape.pair (.slice sRun) (.pair (.int .i64) (.int .i64))).compsE (s, k, k)) (.slice sRun) (· = makeF (shiftF s k)) := by
  refine ok_of (e_sets_moved (s, k, k) _) rfl ?_
  unfold c_sets_moved
  refine callP_eq (ok_sets_known (by dsimp only; omega) h) ?_
  refine loopP_of (fun z : Unit × Int × Runs => ∃ j : Nat, z.2.1 = j ∧ j ≤ s.length ∧ z.2.2 = shiftF (s.take j) k) (fun z => s.length - z.2.1.toNat) ?_ ⟨0, rfl, Nat.zero_le _, rfl⟩
  rintro ⟨u, _, acc⟩ A ⟨j, e1, hj, e2⟩ back
  dsimp only at e1 e2 ⊢
  subst e1
  subst e2
  refine cond_dec (fun h1 => ⟨⟨by omega, h1⟩, ?_⟩) fun h1 => ?_
  · have h1 : (j : Int) < s.length := h1
    have hj' : j < s.length := by omega
    have hg := List.getElem?_eq_getElem hj'
    have hb := Sane.bounds h s[j] (List.getElem_mem hj')
    generalize s[j] = r at hg hb
    unfold Lim at hb
    rw [toNat_ofNat, rd_of (s := sRun) hg, w_succ (by omega), w64_of (n := r.1 + k) (by omega), w64_of (n := r.2 + k) (by omega)]
    have hsl : (shiftF (s.take j) k).length = j := by unfold shiftF; rw [List.length_map, List.length_take]; omega
    refine ⟨?_, back ((), ((j + 1 : Nat) : Int), _) ⟨j + 1, rfl, hj', ?_⟩ (by dsimp only; omega)⟩
    · rw [hsl]; simp only [List.length_cons, List.length_nil]; omega
    · rw [List.take_add_one, hg]
      unfold shiftF
      rw [List.map_append]
      rfl
  · have hjl : j = s.length := by have h1 : ¬ (j : Int) < s.length := h1; omega
    subst hjl
    rw [List.take_length]
    exact callP_eq (ok_runs_Make (by unfold shiftF; rw [List.length_map]; omega)) rfl

theorem ok_sets_Shift1 {s : Runs} (hl : s.length ≤ 1000) (h : Within s 3652424) : FnE bs n_sets_Shift ((Shape.pair (.slice sRun) (.int .i64)).compsE (s, 1)) (.slice sRun) (fun r => Sane r ∧ r.length ≤ 1000 ∧ ∀ n, mem r n ↔ mem s (n - 1)) := by
  refine ok_of (e_sets_Shift (s, 1) _) rfl ?_
  unfold c_sets_Shift
  refine cond_dec (fun q => by exact absurd (show (2199023255552 : Int) < 1 from q) (by decide)) fun _ => cond_dec (fun q => by exact absurd (show (1 : Int) < -2199023255552 from q) (by decide)) fun _ => ?_
  refine callP_eq (ok_sets_moved hl h.1 (show (0 : Int) ≤ 1 ∧ (1 : Int) ≤ 1 by decide)) ⟨make_sane _, Nat.le_trans (make_length _) (by unfold shiftF; rw [List.length_map]; exact hl), fun n => ?_⟩
  rw [mem_make]
  unfold memL
  rw [mem_shift]
  constructor
  · exact fun q => q.2.2
  · intro q
    have := Within.bounds h q
    unfold Lim
    exact ⟨by omega, by omega, q⟩

theorem pos_mem {r : Runs} (h : Sane r) : (0 : Int) < (r.length : Int) ↔ ∃ n, mem r n := by
  constructor
  · intro q
    have hne : r ≠ [] := fun e => by subst e; simp at q
    exact ⟨_, mem_lo h hne⟩
  · rintro ⟨n, r', hr, _⟩
    have := List.length_pos_of_mem hr
    omega

section
variable {x y : View} (hx : VOK x) (hy : VOK y)
include hx hy

theorem ok_relate_before : FnE bs n_relate_view_before ((Shape.pair sRelateView sRelateView).compsE (x, y)) .bool (fun r => r = true ↔ Rel 0 x y) := by
  refine ok_of (e_relate_view_before (x, y) _) rfl ?_
  unfold c_relate_view_before
  refine callP_eq (ok_relate_least hx.nb) (callP_eq (ok_relate_greatest hy.na (Nat.le_trans hy.la (by decide))) ?_)
  have hb := Within.bounds hx.wb (mem_lo hx.wb.1 hx.nb)
  rw [w64_of (by dsimp only; omega)]
  show decide _ = true ↔ _
  rw [decide_eq_true_iff]
  exact before_iff hx hy

theorem ok_relate_meets : FnE bs n_relate_view_meets ((Shape.pair sRelateView sRelateView).compsE (x, y)) .bool (fun r => r = true ↔ Rel 1 x y) := by
  refine ok_of (e_relate_view_meets (x, y) _) rfl ?_
  unfold c_relate_view_meets
  refine callP_of (ok_sets_Shift1 hx.lb hx.wb) fun s hs => ?_
  refine callP_of (ok_sets_Meet (a := s) (b := y.2.1) (Nat.le_trans hs.2.1 (by decide)) (Nat.le_trans hy.la (by decide)) hs.1 hy.wa.1) fun r hr => ?_
  show decide _ = true ↔ _
  rw [decide_eq_true_iff, pos_mem hr.1, ← meets_iff hx hy]
  constructor
  · rintro ⟨n, hn⟩
    have := (hr.2.2 n).1 hn
    exact ⟨n - 1, (hs.2.2 n).1 this.1, by rw [show n - 1 + 1 = n by omega]; exact this.2⟩
  · rintro ⟨n, h1, h2⟩
    exact ⟨n + 1, (hr.2.2 _).2 ⟨(hs.2.2 _).2 (by rw [show n + 1 - 1 = n by omega]; exact h1), h2⟩⟩

theorem ok_relate_overlaps : FnE bs n_relate_view_overlaps ((Shape.pair sRelateView sRelateView).compsE (x, y)) .bool (fun r => r = true ↔ Rel 2 x y) := by
  refine ok_of (e_relate_view_overlaps (x, y) _) rfl ?_
  unfold c_relate_view_overlaps
  refine cond_bool (fun e => ⟨fun q => (by cases q), fun q => (overlaps_no hx hy (.inl e) q).elim⟩) fun ex => cond_bool (fun e => ⟨fun q => (by cases q), fun q => (overlaps_no hx hy (.inr e) q).elim⟩) fun ey => ?_
  refine callP_eq (ok_relate_least hx.na) ?_
  have hb := Within.bounds hx.wa (mem_lo hx.wa.1 hx.na)
  have hb2 := Within.bounds hy.wb (mem_hi hy.wb.1 hy.nb)
  rw [w64_of (by dsimp only; omega)]
  refine callP_of (ok_runs_Next (s := y.2.1) (n := loF x.2.1 + 1) (Nat.le_trans hy.la (by decide)) hy.wa.1) fun r hr => ?_
  refine callP_eq (ok_relate_greatest hy.nb (Nat.le_trans hy.lb (by decide))) ?_
  rw [w64_of (by dsimp only; omega)]
  refine callP_of (ok_runs_PrevS (s := x.2.2) (n := hiF y.2.2 - 1) (Nat.lt_of_le_of_lt hx.lb (by decide)) hx.wb.1) fun w hw => ?_
  have key := overlaps_iff hx hy ex ey hr hw
  refine cond_bool (fun h1 => cond_bool (fun h2 => ?_) fun h2 => ?_) fun h1 => ?_
  · show decide _ = true ↔ _
    rw [decide_eq_true_iff, ← key]
    exact ⟨fun q => ⟨h1, h2, q⟩, fun q => q.2.2⟩
  · rw [← key]
    exact ⟨fun q => (by cases q), fun q => (by rw [h2] at q; cases q.2.1)⟩
  · rw [← key]
    exact ⟨fun q => (by cases q), fun q => (by rw [h1] at q; cases q.1)⟩

theorem ok_relate_starts : FnE bs n_relate_view_starts ((Shape.pair sRelateView sRelateView).compsE (x, y)) .bool (fun r => r = true ↔ Rel 3 x y) := by
  refine ok_of (e_relate_view_starts (x, y) _) rfl ?_
  unfold c_relate_view_starts
  refine callP_of (ok_sets_Meet (a := x.2.1) (b := y.2.1) (Nat.le_trans hx.la (by decide)) (Nat.le_trans hy.la (by decide)) hx.wa.1 hy.wa.1) fun c hc => ?_
  refine cond_dec (fun e => ⟨fun q => (by cases q), fun q => (starts_no hx hy hc.2.2 (.inl (len_zero.1 e)) q).elim⟩) fun nc => cond_bool (fun e => ⟨fun q => (by cases q), fun q => (starts_no hx hy hc.2.2 (.inr e) q).elim⟩) fun ey => ?_
  have nc : c ≠ [] := fun e => nc (len_zero.2 e)
  refine callP_eq (ok_relate_least nc) (callP_of (ok_relate_firstEnd hx ((hc.2.2 _).1 (mem_lo hc.1 nc)).1) fun r hr => cond_yes hr.1 (callP_eq (ok_relate_greatest hy.nb (Nat.le_trans hy.lb (by decide))) ?_))
  show decide _ = true ↔ _
  rw [decide_eq_true_iff]
  exact starts_iff hx hy ey hc.1 nc hc.2.2 hr

theorem ok_relate_during : FnE bs n_relate_view_during ((Shape.pair sRelateView sRelateView).compsE (x, y)) .bool (fun r => r = true ↔ Rel 4 x y) := by
  refine ok_of (e_relate_view_during (x, y) _) rfl ?_
  unfold c_relate_view_during
  refine callP_eq (ok_relate_least hy.na) ?_
  have hb := Within.bounds hy.wa (mem_lo hy.wa.1 hy.na)
  rw [w64_of (by dsimp only; omega)]
  refine callP_of (ok_runs_Next (s := x.2.1) (n := loF y.2.1 + 1) (Nat.le_trans hx.la (by decide)) hx.wa.1) fun w hw => ?_
  refine cond_not (fun e => ⟨fun q => (by cases q), fun q => (during_no hx hy hw (.inl e) q).elim⟩) fun ew => cond_bool (fun e => ⟨fun q => (by cases q), fun q => (during_no hx hy hw (.inr e) q).elim⟩) fun ey => ?_
  have hm : mem x.2.1 w.1 := by
    rcases hw with ⟨e, _⟩ | ⟨_, q, _⟩
    · rw [e] at ew; cases ew
    · exact q
  refine callP_of (ok_relate_firstEnd hx hm) fun r hr => cond_yes hr.1 (callP_eq (ok_relate_greatest hy.nb (Nat.le_trans hy.lb (by decide))) ?_)
  show decide _ = true ↔ _
  rw [decide_eq_true_iff]
  exact during_iff hx hy ey hw ew hr

theorem ok_relate_finishes : FnE bs n_relate_view_finishes ((Shape.pair sRelateView sRelateView).compsE (x, y)) .bool (fun r => r = true ↔ Rel 5 x y) := by
  refine ok_of (e_relate_view_finishes (x, y) _) rfl ?_
  unfold c_relate_view_finishes
  refine callP_of (ok_sets_Meet (a := x.2.2) (b := y.2.2) (Nat.le_trans hx.lb (by decide)) (Nat.le_trans hy.lb (by decide)) hx.wb.1 hy.wb.1) fun c hc => ?_
  refine cond_dec (fun e => ⟨fun q => (by cases q), fun q => (finishes_no hx hy hc.2.2 (.inl (len_zero.1 e)) q).elim⟩) fun nc => cond_bool (fun e => ⟨fun q => (by cases q), fun q => (finishes_no hx hy hc.2.2 (.inr e) q).elim⟩) fun ey => ?_
  have nc : c ≠ [] := fun e => nc (len_zero.2 e)
  have hcl : c.length ≤ 1000000000 := by have := hc.2.1; have := hx.lb; have := hy.lb; omega
  refine callP_eq (ok_relate_greatest nc hcl) (callP_of (ok_relate_lastStart hx ((hc.2.2 _).1 (mem_hi hc.1 nc)).1) fun r hr => cond_yes hr.1 (callP_eq (ok_relate_least hy.na) ?_))
  show decide _ = true ↔ _
  rw [decide_eq_true_iff]
  exact finishes_iff hx hy ey hc.1 nc hc.2.2 hr

theorem ok_relate_equals : FnE bs n_relate_view_equals ((Shape.pair sRelateView sRelateView).compsE (x, y)) .bool (fun r => r = true ↔ Rel 6 x y) := by
  refine ok_of (e_relate_view_equals (x, y) _) rfl ?_
  unfold c_relate_view_equals
  refine callP_of (ok_sets_Meet (a := x.2.1) (b := y.2.1) (Nat.le_trans hx.la (by decide)) (Nat.le_trans hy.la (by decide)) hx.wa.1 hy.wa.1) fun s hs => ?_
  refine callP_of (ok_sets_Meet (a := x.2.2) (b := y.2.2) (Nat.le_trans hx.lb (by decide)) (Nat.le_trans hy.lb (by decide)) hx.wb.1 hy.wb.1) fun t ht => ?_
  have hsl : s.length ≤ 1000000000 := by have := hs.2.1; have := hx.la; have := hy.la; omega
  have htl : t.length ≤ 1000000000 := by have := ht.2.1; have := hx.lb; have := hy.lb; omega
  have one : (x.1 = true ∨ y.1 = true) → ∀ r, MeetR s t r → (decide ((0 : Int) < (r.length : Int)) = true ↔ Rel 6 x y) := fun e r hr => by
    rw [decide_eq_true_iff, pos_mem hr.1, ← equals_one hx hy e hs.2.2 ht.2.2]
    exact ⟨fun ⟨n, h⟩ => ⟨n, (hr.2.2 n).1 h⟩, fun ⟨n, h⟩ => ⟨n, (hr.2.2 n).2 h⟩⟩
  refine cond_bool (fun e => callP_of (ok_sets_Meet hsl htl hs.1 ht.1) fun r hr => one (.inl e) r hr) fun ex => cond_bool (fun e => callP_of (ok_sets_Meet hsl htl hs.1 ht.1) fun r hr => one (.inr e) r hr) fun ey => ?_
  refine cond_dec (fun h1 => cond_dec (fun h2 => ?_) fun h2 => ?_) fun h1 => ?_
  · have ns : s ≠ [] := fun e => by subst e; exact absurd (show (0 : Int) < 0 from h1) (by decide)
    have nt : t ≠ [] := fun e => by subst e; exact absurd (show (0 : Int) < 0 from h2) (by decide)
    refine callP_eq (ok_relate_least ns) (callP_eq (ok_relate_greatest nt htl) ?_)
    show decide _ = true ↔ _
    rw [decide_eq_true_iff]
    exact equals_iff hx hy ex ey hs.1 ht.1 ns nt hs.2.2 ht.2.2
  · have nt : t = [] := len_zero.1 (by have h2 : ¬ (0 : Int) < t.length := h2; omega)
    exact ⟨fun q => (by cases q), fun q => (equals_no hx hy hs.2.2 ht.2.2 (.inr nt) q).elim⟩
  · have ns : s = [] := len_zero.1 (by have h1 : ¬ (0 : Int) < s.length := h1; omega)
    exact ⟨fun q => (by cases q), fun q => (equals_no hx hy hs.2.2 ht.2.2 (.inl ns) q).elim⟩
end

open Classical in
/-- One of the first seven relations, as a function value. -/
noncomputable def gRel (k : Nat) : View × View → Option Bool := fun p => if VOK p.1 ∧ VOK p.2 then some (decide (Rel k p.1 p.2)) else none

def v0 : View := (true, [(0, 0)], [(0, 0)])
theorem v0_ok : VOK v0 := ⟨one_within (by decide), one_within (by decide), by simp [v0], by simp [v0], fun _ => rfl, Int.le_refl _, Int.le_refl _, by simp [v0], by simp [v0]⟩

open Classical in
theorem gRel_spec {f : FuncId} {k : Nat} (h : ∀ {x y : View}, VOK x → VOK y → FnE bs f ((Shape.pair sRelateView sRelateView).compsE (x, y)) .bool (fun r => r = true ↔ Rel k x y)) : CloSpec bs f [] [] (.pair sRelateView sRelateView) .bool (gRel k) := by
  refine ⟨(h v0_ok v0_ok).1, fun p r hr => ?_⟩
  obtain ⟨x, y⟩ := p
  rw [List.nil_append, List.append_nil]
  unfold gRel at hr
  dsimp only at hr
  split at hr
  · rename_i hv
    cases hr
    refine (h hv.1 hv.2).mono fun r hr => ?_
    show r = decide _
    rw [Bool.eq_iff_iff, hr, decide_eq_true_iff]
  · cases hr

open Classical in
theorem ok_relate_half {x y : View} (hx : VOK x) (hy : VOK y) : FnE bs n_relate_half ((Shape.pair sRelateView sRelateView).compsE (x, y)) (.int .i64) (fun n => IsMask n (fun k => k ≤ 6 ∧ Rel k x y)) := by
  refine ok_of (e_relate_half (x, y) _) rfl ?_
  unfold c_relate_half
  refine ⟨gRel 0, gRel_spec ok_relate_before, gRel 1, gRel_spec ok_relate_meets, gRel 2, gRel_spec ok_relate_overlaps, gRel 3, gRel_spec ok_relate_starts, gRel 4, gRel_spec ok_relate_during, gRel 5, gRel_spec ok_relate_finishes, gRel 6, gRel_spec ok_relate_equals, ?_⟩
  refine loopP_of (fun z : Int × Int => ∃ k : Nat, z.2 = k ∧ k ≤ 7 ∧ IsMask z.1 (fun j => j < k ∧ Rel j x y)) (fun z => 7 - z.2.toNat) ?_ ⟨0, rfl, Nat.zero_le _, IsMask.zero.iff fun k _ => ⟨False.elim, fun q => by omega⟩⟩
  rintro ⟨mask, _⟩ A ⟨k, e1, hk, hm⟩ back
  dsimp only at e1 hm ⊢
  subst e1
  refine cond_dec (fun h1 => ⟨⟨by omega, h1⟩, ?_⟩) fun h1 => ?_
  · have h1 : (k : Int) < 7 := h1
    have hk' : k < 7 := by omega
    rw [toNat_ofNat, w_succ (by omega)]
    have hrd : rd (.func (.pair sRelateView sRelateView) .bool) [gRel 0, gRel 1, gRel 2, gRel 3, gRel 4, gRel 5, gRel 6] k = gRel k := by
      match k, hk' with
      | 0, _ | 1, _ | 2, _ | 3, _ | 4, _ | 5, _ | 6, _ => rfl
    rw [hrd]
    refine gcall_eq (r := decide (Rel k x y)) (by unfold gRel; exact if_pos ⟨hx, hy⟩) ?_
    refine cond_bool (fun h2 => ⟨⟨by omega, by show (k : Int) < 64; omega⟩, ?_⟩) fun h2 => ?_
    · have h2 := of_decide_eq_true h2
      refine back (_, ((k + 1 : Nat) : Int)) ⟨k + 1, rfl, hk', ?_⟩ (by dsimp only; omega)
      refine (hm.or (IsMask.one (k := k) (by omega))).iff fun j _ => ⟨?_, ?_⟩
      · rintro (q | rfl)
        · exact ⟨by omega, q.2⟩
        · exact ⟨by omega, h2⟩
      · rintro ⟨q1, q2⟩
        by_cases e : j = k
        · exact .inr e
        · exact .inl ⟨by omega, q2⟩
    · have h2 := of_decide_eq_false h2
      refine back (_, ((k + 1 : Nat) : Int)) ⟨k + 1, rfl, hk', ?_⟩ (by dsimp only; omega)
      refine hm.iff fun j _ => ⟨fun q => ⟨by omega, q.2⟩, fun q => ⟨?_, q.2⟩⟩
      by_cases e : j = k
      · subst e; exact absurd q.2 h2
      · omega
  · have h1 : ¬ (k : Int) < 7 := h1
    exact hm.iff fun j _ => ⟨fun q => ⟨by omega, q.2⟩, fun q => ⟨by omega, q.2⟩⟩

theorem ok_allen_List {a : Int} {P : Nat → Prop} (ha : IsMask a P) : FnE bs n_allen_List ((Shape.int .i64).compsE a) (.slice (.int .i64)) (fun l => (∀ n, n ∈ l ↔ ∃ j : Nat, j ≤ 12 ∧ P j ∧ n = (j : Int)) ∧ l.length ≤ 13) := by
  refine ok_of (e_allen_List a _) rfl ?_
  unfold c_allen_List
  refine loopP_of (fun z : Unit × Int × List Int => ∃ k : Nat, z.2.1 = k ∧ k ≤ 13 ∧ (∀ n, n ∈ z.2.2 ↔ ∃ j : Nat, j < k ∧ P j ∧ n = (j : Int)) ∧ z.2.2.length ≤ k) (fun z => 13 - z.2.1.toNat) ?_ ⟨0, rfl, Nat.zero_le _, fun n => ⟨fun q => (by cases q), fun ⟨j, q, _⟩ => (by omega)⟩, Nat.zero_le _⟩
  rintro ⟨u, _, acc⟩ A ⟨k, e1, hk, hm, hlen⟩ back
  dsimp only at e1 hm hlen ⊢
  subst e1
  refine cond_dec (fun h1 => ⟨⟨by omega, by show (k : Int) < 64; omega⟩, ?_⟩) fun h1 => ?_
  · have h1 : (k : Int) < 13 := h1
    have hk' : k < 13 := by omega
    rw [toNat_ofNat, w_succ (by omega)]
    have hbit := ha.bit (k := k) (by omega)
    refine cond_dec (fun h2 => ⟨?_, ?_⟩) fun h2 => ?_
    · simp only [List.length_cons, List.length_nil]; omega
    · have h2 := hbit.1 h2
      refine back ((), ((k + 1 : Nat) : Int), _) ⟨k + 1, rfl, hk', fun n => ?_, ?_⟩ (by dsimp only; omega)
      · rw [List.mem_append, hm, List.mem_singleton]
        constructor
        · rintro (⟨j, q1, q2, q3⟩ | rfl)
          · exact ⟨j, by omega, q2, q3⟩
          · exact ⟨k, by omega, h2, rfl⟩
        · rintro ⟨j, q1, q2, q3⟩
          by_cases e : j = k
          · subst e; exact .inr q3
          · exact .inl ⟨j, by omega, q2, q3⟩
      · rw [List.length_append]; simp only [List.length_cons, List.length_nil]; omega
    · have h2 : ¬ P k := fun q => h2 (hbit.2 q)
      refine back ((), ((k + 1 : Nat) : Int), _) ⟨k + 1, rfl, hk', fun n => ?_, by dsimp only; omega⟩ (by dsimp only; omega)
      rw [hm]
      constructor
      · rintro ⟨j, q1, q2, q3⟩
        exact ⟨j, by omega, q2, q3⟩
      · rintro ⟨j, q1, q2, q3⟩
        by_cases e : j = k
        · subst e; exact absurd q2 h2
        · exact ⟨j, by omega, q2, q3⟩
  · have h1 : ¬ (k : Int) < 13 := h1
    refine ⟨fun n => ?_, by omega⟩
    rw [hm]
    exact ⟨fun ⟨j, q1, q2⟩ => ⟨j, by omega, q2⟩, fun ⟨j, q1, q2⟩ => ⟨j, by omega, q2⟩⟩

theorem ok_allen_Flip {a : Int} {P : Nat → Prop} (ha : IsMask a P) : FnE bs n_allen_Flip ((Shape.int .i64).compsE a) (.int .i64) (fun n => IsMask n (fun k => P (12 - k))) := by
  refine ok_of (e_allen_Flip a _) rfl ?_
  unfold c_allen_Flip
  refine callP_of (ok_allen_List ha) fun l hl => ?_
  obtain ⟨hmem, hlen⟩ := hl
  refine loopP_of (fun z : Int × Int => ∃ k : Nat, z.2 = k ∧ k ≤ l.length ∧ IsMask z.1 (fun j => (((12 - j : Nat) : Nat) : Int) ∈ l.take k)) (fun z => l.length - z.2.toNat) ?_ ⟨0, rfl, Nat.zero_le _, IsMask.zero.iff fun k _ => ⟨False.elim, fun q => by cases q⟩⟩
  rintro ⟨mask, _⟩ A ⟨k, e1, hk, hm⟩ back
  dsimp only at e1 hm ⊢
  subst e1
  refine cond_dec (fun h1 => ⟨⟨by omega, h1⟩, ?_⟩) fun h1 => ?_
  · have h1 : (k : Int) < l.length := h1
    have hk' : k < l.length := by omega
    have hg := List.getElem?_eq_getElem hk'
    obtain ⟨j, hj, hp, hn⟩ := (hmem l[k]).1 (List.getElem_mem hk')
    generalize l[k] = n at hg hn
    subst hn
    rw [toNat_ofNat, rd_of (s := .int .i64) hg, w_succ (by omega), w64_of (n := 12 - (j : Int)) (by omega)]
    have e12 : (12 : Int) - (j : Int) = ((12 - j : Nat) : Int) := by omega
    rw [e12, toNat_ofNat]
    refine ⟨⟨by omega, by show ((12 - j : Nat) : Int) < 64; omega⟩, back (_, ((k + 1 : Nat) : Int)) ⟨k + 1, rfl, hk', ?_⟩ (by dsimp only; omega)⟩
    refine (hm.or (IsMask.one (k := 12 - j) (by omega))).iff fun i hi => ?_
    rw [List.take_add_one, hg, Option.toList_some, List.mem_append, List.mem_singleton]
    exact ⟨fun q => q.imp id fun e => by omega, fun q => q.imp id fun e => by omega⟩
  · have hkl : k = l.length := by have h1 : ¬ (k : Int) < l.length := h1; omega
    subst hkl
    refine hm.iff fun i hi => ?_
    rw [List.take_length, hmem]
    constructor
    · rintro ⟨j, q1, q2, q3⟩
      have q3 : ((12 - i : Nat) : Int) = (j : Int) := q3
      have : 12 - i = j := by omega
      rw [this]; exact q2
    · intro q
      exact ⟨12 - i, by omega, q, rfl⟩
end Go.Proofs.YtocmlcpcnjaaeaaGreatDoor.V


/- Package relate: what its functions on families answer. No condition of its own. -/
namespace Go.Proofs.YtocmlcpcnjaaeaaGreatDoor.V
open Go
set_option linter.unusedVariables false
set_option linter.unusedSimpArgs false

theorem sorted_len : ∀ {l : List Int} {a m : Int}, l.Pairwise (· < ·) → (∀ x ∈ l, a ≤ x ∧ x ≤ m) → (l.length : Int) ≤ max 0 (m + 1 - a)
  | [], a, m, _, _ => by simp only [List.length_nil]; omega
  | x :: l, a, m, h, k => by
    have h' := List.pairwise_cons.1 h
    have hx := k x (List.mem_cons_self ..)
    have := sorted_len (a := x + 1) (m := m) h'.2 fun y hy => ⟨by have := h'.1 y hy; omega, (k y (List.mem_cons_of_mem _ hy)).2⟩
    rw [List.length_cons]
    omega

theorem nums_len {s : Runs} {m : Int} (h : Within s m) (hm : 0 ≤ m) : ((nums s).length : Int) ≤ m + 1 := by
  have := sorted_len (a := 0) (m := m) (nums_sorted h.1) fun x hx => by have := Within.bounds h (mem_nums.1 hx); omega
  omega

theorem nums_app (s t : Runs) : nums (s ++ t) = nums s ++ nums t := by unfold nums; rw [List.flatMap_append]

theorem nums_take {s : Runs} (k : Nat) : (nums (s.take k)).length ≤ (nums s).length := by
  conv => rhs; rw [← List.take_append_drop k s, nums_app, List.length_append]
  omega

theorem upTo_range {lo hi : Int} : upTo lo hi = (List.range (hi + 1 - lo).toNat).map fun (k : Nat) => lo + (k : Int) := rfl

/-- A unit's view. -/
def unitV (u i : Int) : View := (false, [(VCal.ufirst u i, VCal.ufirst u i)], [(VCal.ulast u i, VCal.ulast u i)])

theorem ok_relate_views {f : Leaf} (hla : f.2.2.1.length ≤ 1000) (hlb : f.2.2.2.length ≤ 1000) : FnE bs n_relate_views (sApiLeaf.compsE f) (.slice sRelateView) (· = viewsF f) := by
  refine ok_of (e_relate_views f _) rfl ?_
  unfold c_relate_views viewsF
  refine callP_eq (ok_leaf_Tidy (f := f) (by omega) (by omega)) ?_
  unfold tidyF
  rcases ho : ofF f with _ | ⟨u, s⟩ | ⟨a, b⟩
  · exact cond_yes rfl rfl
  · obtain ⟨h1, h2, rfl, rfl, h5, h6, h7⟩ := of_units ho
    dsimp only
    generalize f.2.1 = u at h6 h7
    generalize f.2.2.1 = s at *
    refine cond_dec (fun e => absurd (len_zero.1 e) h5) fun _ => cond_no rfl (cond_dec (fun e => ?_) fun e => ?_)
    · have e : u = 0 := e
      show _ = _
      rw [if_pos e]
    · have e : ¬ u = 0 := e
      have hcnt := VCal.ucount_pos u
      have hcp : 0 ≤ VCal.ucount u - 1 := by
        have := Within.bounds h6 (mem_lo h6.1 h5)
        omega
      have hnl := nums_len h6 hcp
      rw [if_neg e]
      refine loopP_of (fun z : Unit × Int × List View => ∃ k : Nat, z.2.1 = k ∧ k ≤ s.length ∧ z.2.2 = (nums (s.take k)).map (unitV u)) (fun z => s.length - z.2.1.toNat) ?_ ⟨0, rfl, Nat.zero_le _, rfl⟩
      rintro ⟨_, _, acc⟩ A ⟨k, e1, hk, e2⟩ back
      dsimp only at e1 e2 ⊢
      subst e1
      subst e2
      have hacc := nums_take (s := s) k
      refine cond_dec (fun h1 => ⟨⟨by omega, h1⟩, ?_⟩) fun h1 => ?_
      · have h1 : (k : Int) < s.length := h1
        have hk' : k < s.length := by omega
        have hg := List.getElem?_eq_getElem hk'
        have hrs := Sane.bounds h6.1 s[k] (List.getElem_mem hk')
        have hrm : ∀ n, s[k].1 ≤ n → n ≤ s[k].2 → mem s n := fun n q1 q2 => ⟨s[k], List.getElem_mem hk', q1, q2⟩
        generalize s[k] = r at hg hrs hrm
        have hr1 := Within.bounds h6 (hrm r.1 (Int.le_refl _) hrs.2.1)
        have hr2 := Within.bounds h6 (hrm r.2 hrs.2.1 (Int.le_refl _))
        rw [toNat_ofNat, rd_of (s := sRun) hg, w_succ (by omega)]
        have hs : nums (s.take (k + 1)) = nums (s.take k) ++ upTo r.1 r.2 := by
          rw [List.take_add_one, hg, nums_app]
          simp [nums]
        refine loopP_of (fun z : Unit × Int × List View => ∃ j : Nat, z.2.1 = r.1 + j ∧ r.1 + j ≤ r.2 + 1 ∧ z.2.2 = (nums (s.take k)).map (unitV u) ++ ((List.range j).map fun (q : Nat) => unitV u (r.1 + (q : Int)))) (fun z => (r.2 + 1 - z.2.1).toNat) ?_ ⟨0, by simp, by simp only [Int.ofNat_zero]; omega, by simp⟩
        rintro ⟨_, _, acc⟩ A ⟨j, e1, hj, e2⟩ back2
        dsimp only at e1 e2 ⊢
        subst e1
        subst e2
        refine cond_dec (fun h3 => ?_) fun h3 => ?_
        · have h3 : r.1 + (j : Int) ≤ r.2 := h3
          refine callP_eq ok_unit_First (callP_eq ok_unit_Last ?_)
          unfold firstS lastS
          rw [if_pos (by omega), if_pos (by omega)]
          refine callP_eq ok_relate_one (callP_eq ok_relate_one ⟨?_, ?_⟩)
          · simp only [List.length_append, List.length_map, List.length_range, List.length_cons, List.length_nil]
            omega
          · rw [w64_of (by omega)]
            refine back2 ((), r.1 + (j : Int) + 1, _) ⟨j + 1, by dsimp only; omega, by omega, ?_⟩ (by dsimp only; omega)
            rw [List.range_succ, List.map_append, ← List.append_assoc]
            rfl
        · have h3 : ¬ r.1 + (j : Int) ≤ r.2 := h3
          refine back ((), ((k + 1 : Nat) : Int), _) ⟨k + 1, rfl, hk', ?_⟩ (by dsimp only; omega)
          rw [hs, List.map_append]
          dsimp only
          congr 1
          rw [upTo_range, List.map_map, show (r.2 + 1 - r.1).toNat = j by omega]
          rfl
      · have hkl : k = s.length := by have h1 : ¬ (k : Int) < s.length := h1; omega
        subst hkl
        rw [List.take_length]
        rfl
  · obtain ⟨sa, sb, na, nb, _⟩ := span_ends ho
    dsimp only
    refine cond_dec (fun e => absurd (len_zero.1 e) na) fun _ => cond_yes rfl rfl

theorem views_len {f : Leaf} : (viewsF f).length ≤ 3652425 := by
  unfold viewsF
  rcases ho : ofF f with _ | ⟨u, s⟩ | ⟨a, b⟩
  · simp
  · obtain ⟨h1, h2, rfl, rfl, h5, h6, h7⟩ := of_units ho
    dsimp only
    split
    · simp
    · rw [List.length_map]
      have hcnt := VCal.ucount_pos f.2.1
      have := Within.bounds h6 (mem_lo h6.1 h5)
      have := nums_len h6 (by omega)
      omega
  · simp

def allV (l : List Leaf) : List View × Bool := if wideB l = true then ([], false) else (l.flatMap viewsF, true)

theorem wide_app (l m : List Leaf) : wideB (l ++ m) = (wideB l || wideB m) := by unfold wideB; rw [List.any_append]

theorem ok_relate_all {l : List Leaf} (hl : FewL 1000 l) (hn : l.length ≤ 1000) : FnE bs n_relate_all ((Shape.slice sApiLeaf).compsE l) (.tup (.pair (.slice sRelateView) .bool)) (· = allV l) := by
  refine ok_of (e_relate_all l _) rfl ?_
  unfold c_relate_all allV
  refine loopP_of (fun z : Unit × Int × List View => ∃ k : Nat, z.2.1 = k ∧ k ≤ l.length ∧ z.2.2 = (l.take k).flatMap viewsF ∧ wideB (l.take k) = false ∧ z.2.2.length ≤ k * 3652425) (fun z => l.length - z.2.1.toNat) ?_ ⟨0, rfl, Nat.zero_le _, rfl, rfl, Nat.zero_le _⟩
  rintro ⟨_, _, acc⟩ A ⟨k, e1, hk, e2, hw, hlen⟩ back
  dsimp only at e1 e2 hlen ⊢
  subst e1
  subst e2
  refine cond_dec (fun h1 => ⟨⟨by omega, h1⟩, ?_⟩) fun h1 => ?_
  · have h1 : (k : Int) < l.length := h1
    have hk' : k < l.length := by omega
    have hg := List.getElem?_eq_getElem hk'
    have hf := hl.2 l[k] (List.getElem_mem hk')
    have hmem := List.getElem_mem hk'
    generalize l[k] = f at hg hf hmem
    have ht : l.take (k + 1) = l.take k ++ [f] := by rw [List.take_add_one, hg]; rfl
    rw [toNat_ofNat, rd_of (s := sApiLeaf) hg, w_succ (by omega)]
    refine callP_eq (ok_leaf_Starts (f := f) (by omega) (by omega)) (callP_eq (ok_leaf_Ends (f := f) (by omega) (by omega)) ?_)
    have wide : (startsL f).2 = false ∨ (endsL f).2 = false → wideB l = true := fun q => by
      unfold wideB
      rw [List.any_eq_true]
      refine ⟨f, hmem, ?_⟩
      rcases q with q | q <;> simp [q]
    refine cond_not (fun e => (if_pos (wide (.inl e))).symm) fun es => cond_not (fun e => (if_pos (wide (.inr e))).symm) fun ee => ?_
    refine callP_eq (ok_relate_views (f := f) hf.1 hf.2) ?_
    have hv := views_len (f := f)
    have hkm : k * 3652425 ≤ 1000 * 3652425 := Nat.mul_le_mul_right _ (by omega)
    refine ⟨by omega, back ((), ((k + 1 : Nat) : Int), _) ⟨k + 1, rfl, hk', ?_, ?_, ?_⟩ (by dsimp only; omega)⟩
    · rw [ht, List.flatMap_append]
      simp
    · rw [ht, wide_app, hw]
      have es : (startsL f).2 = true := es
      have ee : (endsL f).2 = true := ee
      simp [wideB, es, ee]
    · dsimp only
      rw [List.length_append]
      omega
  · have hkl : k = l.length := by have h1 : ¬ (k : Int) < l.length := h1; omega
    subst hkl
    rw [List.take_length] at hw ⊢
    rw [if_neg (by simp [hw])]

/-- Some pairs of two views stand in a relation. -/
def RelV (k : Nat) (x y : View) : Prop := ∃ p q, PV x p ∧ PV y q ∧ relK k p q

theorem both_masks {x y : View} {a b : Int} (ha : IsMask a fun k => k ≤ 6 ∧ Rel k x y) (hb : IsMask b fun k => 12 - k ≤ 6 ∧ Rel (12 - k) y x) : IsMask (w64 ((BitVec.ofInt 64 a ||| BitVec.ofInt 64 b).toNat : Int)) fun k => RelV k x y := by
  refine (ha.or hb).iff fun k hk => ⟨?_, ?_⟩
  · rintro (⟨h1, p, q, hp, hq, h⟩ | ⟨h1, p, q, hp, hq, h⟩)
    · exact ⟨p, q, hp, hq, by unfold relK; rw [if_pos h1]; exact h⟩
    · refine ⟨q, p, hq, hp, ?_⟩
      have : relK (12 - k) p q := by unfold relK; rw [if_pos h1]; exact h
      exact (relK_flip hk).1 this
  · rintro ⟨p, q, hp, hq, h⟩
    by_cases h6 : k ≤ 6
    · unfold relK at h
      rw [if_pos h6] at h
      exact .inl ⟨h6, p, q, hp, hq, h⟩
    · unfold relK at h
      rw [if_neg h6] at h
      exact .inr ⟨by omega, q, p, hq, hp, h.2⟩

theorem ok_relate_Relations {l m : List Leaf} (hl : FewL 1000 l) (hnl : l.length ≤ 1000) (hm : FewL 1000 m) (hnm : m.length ≤ 1000) : FnE bs n_relate_Relations ((Shape.pair (.slice sApiLeaf) (.slice sApiLeaf)).compsE (l, m)) (.tup (.pair (.int .i64) (.int .i64))) (· = relF l m) := by
  refine ok_of (e_relate_Relations (l, m) _) rfl ?_
  unfold c_relate_Relations
  refine callP_eq (ok_relate_all hl hnl) (callP_eq (ok_relate_all hm hnm) ?_)
  have hvl : ∀ x ∈ l.flatMap viewsF, VOK x := fun x hx => by
    obtain ⟨f, hf, hxf⟩ := List.mem_flatMap.1 hx
    exact views_ok (hl.2 f hf).1 (hl.2 f hf).2 x hxf
  have hvm : ∀ x ∈ m.flatMap viewsF, VOK x := fun x hx => by
    obtain ⟨f, hf, hxf⟩ := List.mem_flatMap.1 hx
    exact views_ok (hm.2 f hf).1 (hm.2 f hf).2 x hxf
  have len : ∀ {l : List Leaf}, l.length ≤ 1000 → (l.flatMap viewsF).length ≤ 3652425000 := fun {l} hn => by
    have : ∀ l : List Leaf, (l.flatMap viewsF).length ≤ l.length * 3652425 := fun l => by
      induction l with
      | nil => simp
      | cons f l ih =>
        rw [List.flatMap_cons, List.length_append, List.length_cons]
        have := views_len (f := f)
        omega
    have := this l
    omega
  have key : ∀ n : Int, IsMask n (fun j => ∃ x ∈ l.flatMap viewsF, ∃ y ∈ m.flatMap viewsF, RelV j x y) → wideB l = false → wideB m = false → (n, (0 : Int)) = relF l m := fun n hn h1 h2 => by
    unfold relF
    rw [if_neg (by simp [h1, h2])]
    have : n = (relMask l m : Nat) := hn.ext (relMask_is hl hm) fun k _ => by
      constructor
      · rintro ⟨x, hx, y, hy, p, q, hp, hq, h⟩
        exact ⟨p, q, any_views.2 ⟨x, hx, hp⟩, any_views.2 ⟨y, hy, hq⟩, h⟩
      · rintro ⟨p, q, hp, hq, h⟩
        obtain ⟨x, hx, hp⟩ := any_views.1 hp
        obtain ⟨y, hy, hq⟩ := any_views.1 hq
        exact ⟨x, hx, y, hy, p, q, hp, hq, h⟩
    rw [this]
  have hlX := len hnl
  have hlY := len hnm
  unfold allV
  cases hwl : wideB l
  · rw [if_neg (by simp)]
    refine cond_not (fun e => by cases e) fun _ => ?_
    cases hwm : wideB m
    · rw [if_neg (by simp)]
      refine cond_not (fun e => by cases e) fun _ => ?_
      dsimp only
      have key := fun n h => key n h hwl hwm
      generalize hX : l.flatMap viewsF = X at *
      generalize hY : m.flatMap viewsF = Y at *
      refine loopP_of (fun z : Int × Int => ∃ k : Nat, z.2 = k ∧ k ≤ X.length ∧ IsMask z.1 (fun j => ∃ x ∈ X.take k, ∃ y ∈ Y, RelV j x y)) (fun z => X.length - z.2.toNat) ?_ ⟨0, rfl, Nat.zero_le _, IsMask.zero.iff fun k _ => ⟨False.elim, fun ⟨x, hx, _⟩ => by cases hx⟩⟩
      rintro ⟨mask, _⟩ A ⟨k, e1, hk, hmask⟩ back
      dsimp only at e1 hmask ⊢
      subst e1
      refine cond_dec (fun h1 => ⟨⟨by omega, h1⟩, ?_⟩) fun h1 => ?_
      · have h1 : (k : Int) < X.length := h1
        have hk' : k < X.length := by omega
        have hg := List.getElem?_eq_getElem hk'
        have hx := hvl X[k] (List.getElem_mem hk')
        generalize X[k] = x at hg hx
        have ht : X.take (k + 1) = X.take k ++ [x] := by rw [List.take_add_one, hg]; rfl
        rw [toNat_ofNat, rd_of (s := sRelateView) hg, w_succ (by omega)]
        refine loopP_of (fun z : Int × Int => ∃ i : Nat, z.2 = i ∧ i ≤ Y.length ∧ IsMask z.1 (fun j => (∃ x ∈ X.take k, ∃ y ∈ Y, RelV j x y) ∨ ∃ y ∈ Y.take i, RelV j x y)) (fun z => Y.length - z.2.toNat) ?_ ⟨0, rfl, Nat.zero_le _, hmask.iff fun k _ => ⟨.inl, fun q => q.elim id fun ⟨x, hx, _⟩ => by cases hx⟩⟩
        rintro ⟨mask2, _⟩ A2 ⟨i, e1, hi, hmask2⟩ back2
        dsimp only at e1 hmask2 ⊢
        subst e1
        refine cond_dec (fun h2 => ⟨⟨by omega, h2⟩, ?_⟩) fun h2 => ?_
        · have h2 : (i : Int) < Y.length := h2
          have hi' : i < Y.length := by omega
          have hg2 := List.getElem?_eq_getElem hi'
          have hy := hvm Y[i] (List.getElem_mem hi')
          generalize Y[i] = y at hg2 hy
          have ht2 : Y.take (i + 1) = Y.take i ++ [y] := by rw [List.take_add_one, hg2]; rfl
          rw [toNat_ofNat, rd_of (s := sRelateView) hg2, w_succ (by omega)]
          refine callP_of (ok_relate_half hx hy) fun a ha => callP_of (ok_relate_half hy hx) fun b hb => callP_of (ok_allen_Flip hb) fun c hc => ?_
          refine back2 (_, ((i + 1 : Nat) : Int)) ⟨i + 1, rfl, hi', ?_⟩ (by dsimp only; omega)
          refine (hmask2.or (both_masks ha hc)).iff fun j _ => ?_
          rw [ht2]
          constructor
          · rintro ((q | ⟨y', hy', q⟩) | q)
            · exact .inl q
            · exact .inr ⟨y', List.mem_append_left _ hy', q⟩
            · exact .inr ⟨y, by simp, q⟩
          · rintro (q | ⟨y', hy', q⟩)
            · exact .inl (.inl q)
            · rcases List.mem_append.1 hy' with hy' | hy'
              · exact .inl (.inr ⟨y', hy', q⟩)
              · cases List.mem_singleton.1 hy'; exact .inr q
        · have hil : i = Y.length := by have h2 : ¬ (i : Int) < Y.length := h2; omega
          subst hil
          rw [List.take_length] at hmask2
          refine back (_, ((k + 1 : Nat) : Int)) ⟨k + 1, rfl, hk', ?_⟩ (by dsimp only; omega)
          refine hmask2.iff fun j _ => ?_
          rw [ht]
          constructor
          · rintro (⟨x', hx', q⟩ | q)
            · exact ⟨x', List.mem_append_left _ hx', q⟩
            · exact ⟨x, by simp, q⟩
          · rintro ⟨x', hx', q⟩
            rcases List.mem_append.1 hx' with hx' | hx'
            · exact .inl ⟨x', hx', q⟩
            · cases List.mem_singleton.1 hx'; exact .inr q
      · have hkl : k = X.length := by have h1 : ¬ (k : Int) < X.length := h1; omega
        subst hkl
        rw [List.take_length] at hmask
        exact key _ hmask
    · rw [if_pos rfl]
      refine cond_not (fun _ => ?_) fun e => by cases e
      show _ = relF l m
      unfold relF
      rw [if_pos (by simp [hwm])]
  · rw [if_pos rfl]
    refine cond_not (fun _ => ?_) fun e => by cases e
    show _ = relF l m
    unfold relF
    rw [if_pos (by simp [hwl])]

theorem ok_relate_Can {l m : List Leaf} {r : Int} (hl : FewL 1000 l) (hnl : l.length ≤ 1000) (hm : FewL 1000 m) (hnm : m.length ≤ 1000) : FnE bs n_relate_Can ((Shape.pair (.slice sApiLeaf) (.pair (.slice sApiLeaf) (.int .i64))).compsE (l, m, r)) .bool (fun b => b = true ↔ (0 ≤ r ∧ r ≤ 12 ∧ relFM l m r.toNat)) := by
  refine ok_of (e_relate_Can (l, m, r) _) rfl ?_
  unfold c_relate_Can
  refine callP_eq (ok_relate_Relations hl hnl hm hnm) ?_
  refine cond_dec (fun h1 => cond_dec (fun h2 => ⟨⟨h1, ?_⟩, ?_⟩) fun h2 => ?_) fun h1 => ?_
  · have h2 : r ≤ 12 := h2
    show r < 64
    omega
  · have h1 : 0 ≤ r := h1
    have h2 : r ≤ 12 := h2
    show decide _ = true ↔ _
    rw [decide_eq_true_iff]
    have := (relF_mask hl hm).bit (k := r.toNat) (by omega)
    exact this.trans ⟨fun q => ⟨h1, h2, q⟩, fun q => q.2.2⟩
  · have h2 : ¬ r ≤ 12 := h2
    exact ⟨fun q => (by cases q), fun q => (h2 q.2.1).elim⟩
  · have h1 : ¬ 0 ≤ r := h1
    exact ⟨fun q => (by cases q), fun q => (h1 q.1).elim⟩

theorem ok_relate_Must {l m : List Leaf} {mask : Int} (hl : FewL 1000 l) (hnl : l.length ≤ 1000) (hm : FewL 1000 m) (hnm : m.length ≤ 1000) : FnE bs n_relate_Must ((Shape.pair (.slice sApiLeaf) (.pair (.slice sApiLeaf) (.int .i64))).compsE (l, m, mask)) .bool (fun b => b = true ↔ (¬ (relF l m).1 = 0 ∧ ∀ k, k ≤ 12 → relFM l m k → mbit mask k)) := by
  refine ok_of (e_relate_Must (l, m, mask) _) rfl ?_
  unfold c_relate_Must
  refine callP_eq (ok_relate_Relations hl hnl hm hnm) ?_
  refine cond_bool (fun h1 => ?_) fun h1 => ?_
  · have h1 : ¬ (relF l m).1 = 0 := by simpa using h1
    show decide _ = true ↔ _
    rw [decide_eq_true_iff]
    have := (relF_mask hl hm).andNot (mask := mask)
    exact this.trans ⟨fun q => ⟨h1, q⟩, fun q => q.2⟩
  · have h1 : (relF l m).1 = 0 := by simpa using h1
    exact ⟨fun q => (by cases q), fun q => (q.1 h1).elim⟩
end Go.Proofs.YtocmlcpcnjaaeaaGreatDoor.V


/- The document's answer for layer 20: what its functions answer. No condition of its own. -/
namespace Go.Proofs.YtocmlcpcnjaaeaaGreatDoor.V
open Go
set_option linter.unusedVariables false
set_option linter.unusedSimpArgs false
set_option linter.unusedSectionVars false

/-- A view with few runs. -/
def Small (x : View) : Prop := x.2.1.length ≤ 400 ∧ x.2.2.length ≤ 400

section
variable {x y : View} (hx : VOK x) (hy : VOK y) (sx : Small x) (sy : Small y)
include hx hy sx sy

end
end Go.Proofs.YtocmlcpcnjaaeaaGreatDoor.V


/- The document's answer for layer 20: relations of families. No condition of its own. -/
namespace Go.Proofs.YtocmlcpcnjaaeaaGreatDoor.V
open Go
set_option linter.unusedVariables false
set_option linter.unusedSimpArgs false
set_option linter.unusedSectionVars false

section
variable {x y : View} (hx : VOK x) (hy : VOK y) (sx : Small x) (sy : Small y)
include hx hy sx sy

end
end Go.Proofs.YtocmlcpcnjaaeaaGreatDoor.V


/- Layer 20's laws, the first four. No condition of its own. -/
namespace Go.Proofs.YtocmlcpcnjaaeaaGreatDoor.V
open Go
set_option linter.unusedVariables false
set_option linter.unusedSimpArgs false
set_option linter.unusedSectionVars false

theorem ok_ref04_CountT {s : Runs} (hl : s.length ≤ 100000) : FnE bs n_lustrumref04_Count ((Shape.slice sRun).compsE s) (.int .i64) (fun _ => True) := by
  refine ok_of (e_lustrumref04_Count s _) rfl ?_
  unfold c_lustrumref04_Count
  refine callP_eq (ok_ref04_As hl) ?_
  have hml := make_length s
  generalize makeF s = t at hml
  refine loopP_of (fun z : Int × Int => ∃ k : Nat, z.2 = k ∧ k ≤ t.length) (fun z => t.length - z.2.toNat) ?_ ⟨0, rfl, Nat.zero_le _⟩
  rintro ⟨n, _⟩ A ⟨k, e1, hk⟩ back
  dsimp only at e1 ⊢
  subst e1
  refine cond_dec (fun h1 => ⟨⟨by omega, h1⟩, ⟨by omega, h1⟩, ?_⟩) fun h1 => trivial
  have h1 : (k : Int) < t.length := h1
  rw [w_succ (by omega)]
  exact back (_, ((k + 1 : Nat) : Int)) ⟨k + 1, rfl, by omega⟩ (by dsimp only; omega)

theorem ok_ref20_UnitsT {l : List Leaf} (hl : FewL 1000 l) : FnE bs n_lustrumref20_Units ((Shape.slice sApiLeaf).compsE l) (.int .i64) (fun _ => True) := by
  refine ok_of (e_lustrumref20_Units l _) rfl ?_
  unfold c_lustrumref20_Units
  have hll := hl.1
  refine loopP_of (fun z : Int × Int => ∃ k : Nat, z.2 = k ∧ k ≤ l.length) (fun z => l.length - z.2.toNat) ?_ ⟨0, rfl, Nat.zero_le _⟩
  rintro ⟨n, _⟩ A ⟨k, e1, hk⟩ back
  dsimp only at e1 ⊢
  subst e1
  refine cond_dec (fun h1 => ⟨⟨by omega, h1⟩, ?_⟩) fun h1 => trivial
  have h1 : (k : Int) < l.length := h1
  have hk' : k < l.length := by omega
  have hg := List.getElem?_eq_getElem hk'
  have hf := hl.2 l[k] (List.getElem_mem hk')
  generalize l[k] = f at hg hf
  rw [toNat_ofNat, rd_of (s := sApiLeaf) hg, w_succ (by omega)]
  have nxt : ∀ n : Int, A (n, ((k + 1 : Nat) : Int)) := fun n => back (n, ((k + 1 : Nat) : Int)) ⟨k + 1, rfl, by omega⟩ (by dsimp only; omega)
  refine cond_bool (fun _ => ⟨⟨by omega, h1⟩, cond_bool (fun _ => ⟨⟨by omega, h1⟩, callP_of (ok_ref04_CountT (by omega)) fun r _ => nxt _⟩) fun _ => nxt _⟩) fun _ => nxt _

end Go.Proofs.YtocmlcpcnjaaeaaGreatDoor.V


/- Layer 20's laws RelateInverse, RelateMore, RelateMust, RelateWide. No condition of its own. -/
namespace Go.Proofs.YtocmlcpcnjaaeaaGreatDoor.V
open Go
set_option linter.unusedVariables false
set_option linter.unusedSimpArgs false
set_option linter.unusedSectionVars false

theorem relF_two (l m : List Leaf) : (relF l m).2 = if (wideB l || wideB m) = true then 8 else 0 := by
  unfold relF
  split <;> rfl

theorem relF_zero {l m : List Leaf} (hl : FewL 1000 l) (hm : FewL 1000 m) (hw : (wideB l || wideB m) = false) : (relF l m).1 = 0 ↔ ((¬ ∃ p, anyP l p) ∨ ¬ ∃ q, anyP m q) := by
  rw [(relF_mask hl hm).eq0]
  constructor
  · intro h
    by_cases h1 : ∃ p, anyP l p
    · refine .inr fun ⟨q, hq⟩ => ?_
      obtain ⟨p, hp⟩ := h1
      obtain ⟨k, hk⟩ := relK_some (any_le hl hp) (any_le hm hq)
      exact h k (relK_le hk) ⟨hw, p, q, hp, hq, hk⟩
    · exact .inl h1
  · rintro h k hk ⟨_, p, q, hp, hq, _⟩
    rcases h with h | h
    · exact h ⟨p, hp⟩
    · exact h ⟨q, hq⟩

end Go.Proofs.YtocmlcpcnjaaeaaGreatDoor.V


/- Layer 21's law OrderRelates. No condition of its own. -/
namespace Go.Proofs.YtocmlcpcnjaaeaaGreatDoor.V
open Go
set_option linter.unusedVariables false
set_option linter.unusedSimpArgs false
set_option linter.unusedSectionVars false

theorem ok_OrderRelates (a : List Leaf × List Leaf) (hl : a.1.length ≤ 9223372036854775807) (hm : a.2.length ≤ 9223372036854775807) : FnE bs n_lustrumlaw21_OrderRelates ((Shape.pair (.slice sApiLeaf) (.slice sApiLeaf)).compsE a) .bool (· = true) := by
  obtain ⟨l, m⟩ := a
  refine ok_of (e_lustrumlaw21_OrderRelates (l, m) _) rfl ?_
  unfold c_lustrumlaw21_OrderRelates
  refine callP_eq ok_lustrumlaw21_awake (callP_of (ok_lustrumref15_Few hl) fun x hx => cond_not (fun h => rfl) fun h => callP_of (ok_lustrumref15_Few hm) fun y hy => cond_not (fun h => rfl) fun h2 => ?_)
  have hf := hx h
  have hg := hy h2
  have nl : l.length ≤ 1000 := Nat.le_trans hf.1 (by decide)
  have nm : m.length ≤ 1000 := Nat.le_trans hg.1 (by decide)
  have fl : FewL 1000 l := few1000 hf.2
  have fm : FewL 1000 m := few1000 hg.2
  refine callP_of (ok_ref20_UnitsT fl) fun u1 _ => cond_dec (fun _ => rfl) fun _ => callP_of (ok_ref20_UnitsT fm) fun u2 _ => cond_dec (fun _ => rfl) fun _ => ?_
  refine callP_eq (ok_relate_Relations fl nl fm nm) (callP_eq (ok_order_Certainly fl fm) (callP_eq (ok_order_Possibly fl fm) ?_))
  have early : cond true (cond (decide ((certF (·.2.2.2) (·.1) l m).2 = (0 : Int))) (true = true) (cond (!(certF (·.2.2.2) (·.1) l m).1) ((!(certF (·.2.2.1) (·.2.1) l m).1) = true) (false = true))) (false = true) := by
    refine cond_yes rfl ?_
    unfold certF
    cases allF l with
    | none => exact cond_no rfl (cond_yes rfl rfl)
    | some p =>
      cases allF m with
      | none => exact cond_no rfl (cond_yes rfl rfl)
      | some q => exact cond_yes rfl rfl
  have w1 := relF_two l m
  cases hw : (wideB l || wideB m)
  · rw [hw] at w1
    have w1 : (relF l m).2 = 0 := w1
    refine cond_no (by rw [w1]; rfl) ?_
    cases e1 : allF l with
    | none =>
      have z : (certF (·.2.2.2) (·.1) l m).2 = 9 := by unfold certF; rw [e1]
      exact cond_yes (by rw [z]; rfl) early
    | some p =>
      cases e2 : allF m with
      | none =>
        have z : (certF (·.2.2.2) (·.1) l m).2 = 9 := by unfold certF; rw [e1, e2]
        exact cond_yes (by rw [z]; rfl) early
      | some q =>
        have c1 : certF (·.2.2.2) (·.1) l m = (decide (p.2.2.2 < q.1), 0) := by unfold certF; rw [e1, e2]
        have c2 : certF (·.2.2.1) (·.2.1) l m = (decide (p.2.2.1 < q.2.1), 0) := by unfold certF; rw [e1, e2]
        rw [c1, c2]
        refine cond_no rfl (cond_yes rfl (callP_of (ok_relate_Must (mask := 3) fl nl fm nm) fun r9 h9 => ?_))
        obtain ⟨_, ⟨pa, hpa, _⟩, _⟩ := all_bounds e1
        obtain ⟨_, ⟨qa, hqa, _⟩, _⟩ := all_bounds e2
        have rel : ∀ a b, anyP l a → anyP m b → (a.2 < b.1 ↔ (relK 0 a b ∨ relK 1 a b)) := fun a b ha hb => by
          constructor
          · intro h
            by_cases h' : a.2 + 1 < b.1
            · exact .inl h'
            · exact .inr (show a.2 + 1 = b.1 by omega)
          · rintro (h | h)
            · have h : a.2 + 1 < b.1 := h
              omega
            · have h : a.2 + 1 = b.1 := h
              omega
        have m9 : decide (p.2.2.2 < q.1) = r9 := by
          rw [Bool.eq_iff_iff, decide_eq_true_iff, h9, cert_iff e1 e2]
          constructor
          · intro h
            refine ⟨fun hz => ?_, fun k hk hr => ?_⟩
            · rcases (relF_zero fl fm hw).1 hz with z | z
              · exact z ⟨pa, hpa⟩
              · exact z ⟨qa, hqa⟩
            · obtain ⟨_, a, b, ha, hb, hr⟩ := hr
              rcases (rel a b ha hb).1 (h a b ha hb) with q0 | q0
              · rw [relK_one (any_le fl ha) (any_le fm hb) hr q0]; decide
              · rw [relK_one (any_le fl ha) (any_le fm hb) hr q0]; decide
          · rintro ⟨_, h⟩ a b ha hb
            obtain ⟨k, hk⟩ := relK_some (any_le fl ha) (any_le fm hb)
            have hb3 := h k (relK_le hk) ⟨hw, a, b, ha, hb, hk⟩
            have hle := relK_le hk
            have : k = 0 ∨ k = 1 := by
              rcases le12 hle with rfl | rfl | rfl | rfl | rfl | rfl | rfl | rfl | rfl | rfl | rfl | rfl | rfl <;> first | (exact .inl rfl) | (exact .inr rfl) | (exact absurd hb3 (by decide))
            rcases this with rfl | rfl
            · exact (rel a b ha hb).2 (.inl hk)
            · exact (rel a b ha hb).2 (.inr hk)
        refine cond_yes (decide_eq_true m9) (callP_of (ok_relate_Can (r := 0) fl nl fm nm) fun r10 h10 => ?_)
        have hn : decide (p.2.2.1 < q.2.1) = true ↔ (relFM l m 0 ∨ relFM l m 1) := by
          rw [decide_eq_true_iff, poss_iff e1 e2]
          constructor
          · rintro ⟨a, b, ha, hb, h⟩
            exact ((rel a b ha hb).1 h).imp (fun q0 => ⟨hw, a, b, ha, hb, q0⟩) fun q0 => ⟨hw, a, b, ha, hb, q0⟩
          · rintro (⟨_, a, b, ha, hb, h⟩ | ⟨_, a, b, ha, hb, h⟩)
            · exact ⟨a, b, ha, hb, (rel a b ha hb).2 (.inl h)⟩
            · exact ⟨a, b, ha, hb, (rel a b ha hb).2 (.inr h)⟩
        refine cond_bool (fun h0 => ?_) fun h0 => callP_of (ok_relate_Can (r := 1) fl nl fm nm) fun r11 h11 => ?_
        · exact decide_eq_true (hn.2 (.inl (h10.1 h0).2.2))
        · refine decide_eq_true (Bool.eq_iff_iff.2 (hn.trans ⟨?_, fun hr => .inr (h11.1 hr).2.2⟩))
          rintro (q0 | q0)
          · have := h10.2 ⟨by decide, by decide, q0⟩
            rw [h0] at this; cases this
          · exact h11.2 ⟨by decide, by decide, q0⟩
  · have z : relF l m = (0, 8) := by unfold relF; rw [if_pos hw]
    rw [z]
    exact cond_yes rfl early
end Go.Proofs.YtocmlcpcnjaaeaaGreatDoor.V

