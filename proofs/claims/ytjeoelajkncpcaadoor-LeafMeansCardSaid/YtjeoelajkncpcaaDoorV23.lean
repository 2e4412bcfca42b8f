/- ARGUMENTS: what a row's reading of an argument says, as a value of a shape. No condition of its own. -/
import Derived.Test.YtjeoelajkncpcaaDoorV22
import Derived.Carry
import Derived.ChangeArms
import Derived.OpenShut
import Derived.DataElems
namespace Go.Proofs.YtjeoelajkncpcaaDoor.V
open Go Go.RowKit
set_option linter.unusedVariables false
set_option linter.unusedSimpArgs false

/-- A type is laid out as a shape is; fields are laid out as a chain is. -/
def lay (P : Program) : Shape → (TypeId → Bool) × (List Field → Nat → Bool)
  | .bool => (fun t => match P.underlying t with
    | some .bool => true
    | _ => false, fun fs o => match fs with
    | [f] => Nat.beq f.offset o && Nat.beq (P.cellsOf f.type) 1 && (match P.underlying f.type with
      | some .bool => true
      | _ => false)
    | _ => false)
  | .int k => (fun t => match P.underlying t with
    | some (.int k') => k' == k
    | _ => false, fun fs o => match fs with
    | [f] => Nat.beq f.offset o && Nat.beq (P.cellsOf f.type) 1 && (match P.underlying f.type with
      | some (.int k') => k' == k
      | _ => false)
    | _ => false)
  | .slice s => (fun t => match P.underlying t with
    | some (.slice e) => Nat.beq (P.cellsOf e) s.size && Nat.ble 1 s.size && (lay P s).1 e
    | _ => false, fun fs o => match fs with
    | [f] => Nat.beq f.offset o && Nat.beq (P.cellsOf f.type) 1 && (match P.underlying f.type with
      | some (.slice e) => Nat.beq (P.cellsOf e) s.size && Nat.ble 1 s.size && (lay P s).1 e
      | _ => false)
    | _ => false)
  | .st s => (fun t => match P.underlying t with
    | some (.struct fs) => Nat.beq (P.cellsOf t) s.size && (lay P s).2 fs.toList 0
    | _ => false, fun fs o => match fs with
    | [f] => Nat.beq f.offset o && Nat.beq (P.cellsOf f.type) s.size && (match P.underlying f.type with
      | some (.struct fs) => Nat.beq (P.cellsOf f.type) s.size && (lay P s).2 fs.toList 0
      | _ => false)
    | _ => false)
  | .pair a b => (fun _ => false, fun fs o => match fs with
    | f :: r => Nat.beq f.offset o && Nat.beq (P.cellsOf f.type) a.size && (lay P a).1 f.type && (lay P b).2 r (o + a.size)
    | _ => false)
  | .unit => (fun _ => false, fun _ _ => false)
  | .tup _ => (fun _ => false, fun _ _ => false)
  | .func _ _ => (fun _ => false, fun _ _ => false)
  | .iface _ => (fun _ => false, fun _ _ => false)
  | .one _ _ => (fun _ => false, fun _ _ => false)
  | .alt _ _ _ => (fun _ => false, fun _ _ => false)

/-- Numbers are what their kinds hold, lists no longer than memory. -/
def okR : (s : Shape) → s.Val → Prop
  | .bool, _ => True
  | .int k, n => (Lit.int k n).wf = true
  | .slice s, xs => xs.length ≤ maxLen ∧ ∀ x ∈ xs, okR s x
  | .st f, x => okR f x
  | .unit, _ => True
  | .pair a b, x => okR a x.1 ∧ okR b x.2
  | .tup f, x => okR f x
  | .func _ _, _ => True
  | .iface _, _ => True
  | .one _ s, x => okR s x
  | .alt _ _ _, _ => True

/-- All memory, as memory that nobody writes. -/
def allM (w : World) : Mem := fun b o => w.cell? ⟨b, o, none⟩

theorem allM_holds (w : World) : Holds w (allM w) := fun _ _ _ h => h

theorem add_spot {w : World} {ad : Addr} {j : Nat} {v : Value} (h : w.cell? (ad.add j) = some v) (h0 : ∃ u, w.cell? ad = some u) : w.cell? ⟨ad.block, ad.off + j, none⟩ = some v := by
  obtain ⟨b, o, sp⟩ := ad
  have : sp = none := by
    obtain ⟨u, hu⟩ := h0
    unfold World.cell? at hu
    split at hu
    · cases sp with
      | none => rfl
      | some x => simp at hu
    · cases hu
  subst this
  rw [Addr.add_mid] at h
  exact h

section
variable {H : Type} {enc : TypeId × Value → H} {P : Program} {w : World} {base : Nat} {spare : Nat → Bool} {held : Bool}

theorem choose_list {α : Type} {Q : Nat → α → Prop} : ∀ (n : Nat), (∀ i, i < n → ∃ x, Q i x) → ∃ xs : List α, xs.length = n ∧ ∀ (i : Nat) x, xs[i]? = some x → Q i x
  | 0, _ => ⟨[], rfl, fun i x h => by simp at h⟩
  | n + 1, h => by
    obtain ⟨xs, h1, h2⟩ := choose_list n fun i hi => h i (by omega)
    obtain ⟨x, hx⟩ := h n (by omega)
    refine ⟨xs ++ [x], by simp [h1], fun i y hy => ?_⟩
    by_cases hi : i < n
    · rw [List.getElem?_append_left (by omega)] at hy; exact h2 i y hy
    · have : i = n := by
        have := (List.getElem?_eq_some_iff.1 hy).1
        simp [h1] at this; omega
      subst this
      rw [List.getElem?_append_right (by omega), h1, Nat.sub_self] at hy
      simp at hy; subst hy; exact hx

theorem open_rep (s : Shape) : (∀ (t : TypeId) (fuel : Nat) (cs : List Value) (x : DataW H × List MemPlace), (lay P s).1 t = true → DataW.trod enc P w base spare held fuel t cs = some x → ∃ y : s.Val, (Reps P s).C (allM w) y cs ∧ okR s y) ∧
    (∀ (fs : List Field) (o fuel : Nat) (cs : List Value), (lay P s).2 fs o = true → o + s.size ≤ cs.length → (∀ f ∈ fs, ∃ x, DataW.trod enc P w base spare held fuel f.type ((cs.drop f.offset).take (P.cellsOf f.type)) = some x) → ∃ y : s.Val, (Reps P s).C (allM w) y ((cs.drop o).take s.size) ∧ okR s y) := by
  have one : ∀ (s : Shape), (∀ (t : TypeId) (fuel : Nat) (cs : List Value) (x : DataW H × List MemPlace), (lay P s).1 t = true → DataW.trod enc P w base spare held fuel t cs = some x → ∃ y : s.Val, (Reps P s).C (allM w) y cs ∧ okR s y) →
      ∀ (f : Field) (o fuel : Nat) (cs : List Value), Nat.beq f.offset o = true → Nat.beq (P.cellsOf f.type) s.size = true → (lay P s).1 f.type = true → (∃ x, DataW.trod enc P w base spare held fuel f.type ((cs.drop f.offset).take (P.cellsOf f.type)) = some x) → ∃ y : s.Val, (Reps P s).C (allM w) y ((cs.drop o).take s.size) ∧ okR s y := by
    intro s h f o fuel cs h1 h2 h3 ⟨x, hx⟩
    have := h _ _ _ _ h3 hx
    rw [beq_eq h1, beq_eq h2] at this
    exact this
  have single : ∀ (s : Shape), (∀ fs o, (lay P s).2 fs o = true → ∃ f, fs = [f] ∧ Nat.beq f.offset o = true ∧ Nat.beq (P.cellsOf f.type) s.size = true ∧ (lay P s).1 f.type = true) → (∀ (t : TypeId) (fuel : Nat) (cs : List Value) (x : DataW H × List MemPlace), (lay P s).1 t = true → DataW.trod enc P w base spare held fuel t cs = some x → ∃ y : s.Val, (Reps P s).C (allM w) y cs ∧ okR s y) →
      (∀ (t : TypeId) (fuel : Nat) (cs : List Value) (x : DataW H × List MemPlace), (lay P s).1 t = true → DataW.trod enc P w base spare held fuel t cs = some x → ∃ y : s.Val, (Reps P s).C (allM w) y cs ∧ okR s y) ∧
      (∀ (fs : List Field) (o fuel : Nat) (cs : List Value), (lay P s).2 fs o = true → o + s.size ≤ cs.length → (∀ f ∈ fs, ∃ x, DataW.trod enc P w base spare held fuel f.type ((cs.drop f.offset).take (P.cellsOf f.type)) = some x) → ∃ y : s.Val, (Reps P s).C (allM w) y ((cs.drop o).take s.size) ∧ okR s y) := by
    intro s hs h
    refine ⟨h, fun fs o fuel cs hl _ hf => ?_⟩
    obtain ⟨f, rfl, h1, h2, h3⟩ := hs fs o hl
    exact one s h f o fuel cs h1 h2 h3 (hf f (by simp))
  induction s with
  | bool =>
    refine single .bool (fun fs o h => ?_) fun t fuel cs x h hx => ?_
    · unfold lay at h
      dsimp only at h
      split at h
      · simp only [Bool.and_eq_true] at h; exact ⟨_, rfl, h.1.1, h.1.2, h.2⟩
      · cases h
    · unfold lay at h
      dsimp only at h
      split at h
      · rename_i hu
        obtain ⟨b, rfl, _⟩ := DataW.trod_bool hu hx
        exact ⟨b, ⟨_, rfl, rfl⟩, trivial⟩
      · cases h
  | int k =>
    refine single (.int k) (fun fs o h => ?_) fun t fuel cs x h hx => ?_
    · unfold lay at h
      dsimp only at h
      split at h
      · simp only [Bool.and_eq_true] at h; exact ⟨_, rfl, h.1.1, h.1.2, h.2⟩
      · cases h
    · unfold lay at h
      dsimp only at h
      split at h
      · rename_i k' hu
        have hk : k' = k := by simpa using h
        subst hk
        obtain ⟨n, rfl, _, hw⟩ := DataW.trod_int hu hx
        exact ⟨n, ⟨_, rfl, rfl⟩, hw⟩
      · cases h
  | slice s ih =>
    refine single (.slice s) (fun fs o h => ?_) fun t fuel cs x h hx => ?_
    · unfold lay at h
      dsimp only at h
      split at h
      · simp only [Bool.and_eq_true] at h; exact ⟨_, rfl, h.1.1, h.1.2, h.2⟩
      · cases h
    · unfold lay at h
      dsimp only at h
      split at h
      · rename_i e hu
        simp only [Bool.and_eq_true] at h
        obtain ⟨⟨hsz, hpos⟩, hl⟩ := h
        have hsz := beq_eq hsz
        have hpos := ble_le hpos
        rcases DataW.trod_slice hu hx with ⟨rfl, _⟩ | ⟨a, len, cap, elems, rest, n, _, rfl, _, hb, hlc, hm, hlen, hel, _, _⟩
        · exact ⟨[], ⟨_, rfl, none, 0, rfl, .inl rfl⟩, Nat.zero_le _, fun x hx => by cases hx⟩
        · have each : ∀ i, i < len → ∃ y : s.Val, (∃ us, (Reps P s).C (allM w) y us ∧ us.length = s.size ∧ ∀ j, j < s.size → w.cell? ((a.add (i * s.size)).add j) = us[j]?) ∧ okR s y := by
            intro i hi
            have h1 := hel i hi
            rw [List.getElem?_eq_getElem (by omega), Option.bind_eq_some_iff] at h1
            obtain ⟨us, h2, h3⟩ := h1
            obtain ⟨_, h4, h5⟩ := World.cells?_some h2
            obtain ⟨y, h6, h7⟩ := ih.1 _ _ _ _ hl h3
            rw [hsz] at h4 h5
            exact ⟨y, ⟨us, h6, h4, h5⟩, h7⟩
          obtain ⟨xs, hxl, hxs⟩ := choose_list len each
          refine ⟨xs, ⟨_, rfl, some a, cap, by rw [hxl], ?_⟩, by rw [hxl]; omega, fun x hx => ?_⟩
          · cases xs with
            | nil => exact .inl rfl
            | cons x0 xs0 =>
              right
              obtain ⟨⟨us, q1, q2, q3⟩, _⟩ := hxs 0 x0 rfl
              have h0 : ∃ u, w.cell? a = some u := by
                have := q3 0 (by omega)
                rw [Nat.zero_mul] at this
                rw [show (a.add 0).add 0 = a from rfl] at this
                rw [List.getElem?_eq_getElem (by omega)] at this
                exact ⟨_, this⟩
              have ha : a = ⟨a.block, a.off, none⟩ := by
                obtain ⟨b, o, sp⟩ := a
                obtain ⟨u, hu⟩ := h0
                unfold World.cell? at hu
                split at hu
                · cases sp with
                  | none => rfl
                  | some z => simp at hu
                · cases hu
              refine ⟨a.block, a.off, by rw [← ha], fun i x hx => ?_⟩
              obtain ⟨⟨us, q1, q2, q3⟩, _⟩ := hxs i x hx
              refine ⟨us, q1, fun j u hj => ?_⟩
              have hjl := (List.getElem?_eq_some_iff.1 hj).1
              have := q3 j (by omega)
              rw [hj, Addr.add_add] at this
              have := add_spot this h0
              unfold allM
              rw [Nat.add_assoc]
              exact this
          · obtain ⟨i, hi⟩ := List.getElem?_of_mem hx
            exact (hxs i x hi).2
      · cases h
  | st f ih =>
    refine single (.st f) (fun fs o h => ?_) fun t fuel cs x h hx => ?_
    · unfold lay at h
      dsimp only at h
      split at h
      · simp only [Bool.and_eq_true] at h; exact ⟨_, rfl, h.1.1, h.1.2, h.2⟩
      · cases h
    · unfold lay at h
      dsimp only at h
      split at h
      · rename_i fs hu
        simp only [Bool.and_eq_true] at h
        have hsz := beq_eq h.1
        obtain ⟨xs, n, _, _, hl, hxl, hf⟩ := DataW.trod_struct hu hx
        have := ih.2 fs.toList 0 n cs h.2 (by omega) fun g hg => by
          obtain ⟨i, hi⟩ := List.getElem?_of_mem hg
          have hi' : fs[i]? = some g := by simpa using hi
          have := hf i g hi'
          have hlt := (Array.getElem?_eq_some_iff.1 hi').1
          rw [List.getElem?_eq_getElem (by omega)] at this
          exact ⟨_, this⟩
        rw [List.drop_zero, List.take_of_length_le (by omega)] at this
        exact this
      · cases h
  | pair a b iha ihb =>
    refine ⟨fun t fuel cs x h _ => by simp [lay] at h, fun fs o fuel cs h hl hf => ?_⟩
    unfold lay at h
    dsimp only at h
    split at h
    · rename_i f r
      simp only [Bool.and_eq_true] at h
      obtain ⟨⟨⟨h1, h2⟩, h3⟩, h4⟩ := h
      have hs : o + (a.size + b.size) ≤ cs.length := hl
      obtain ⟨y, y1, y2⟩ := one a iha.1 f o fuel cs h1 h2 h3 (hf f (by simp))
      obtain ⟨z, z1, z2⟩ := ihb.2 r (o + a.size) fuel cs h4 (by omega) fun g hg => hf g (by simp [hg])
      refine ⟨(y, z), ⟨_, _, ?_, y1, z1⟩, y2, z2⟩
      show (cs.drop o).take (a.size + b.size) = _
      rw [List.take_add, List.drop_drop]
    · cases h
  | _ => exact ⟨fun t fuel cs x h _ => by simp [lay] at h, fun fs o fuel cs h _ _ => by simp [lay] at h⟩

/-- An argument, as one value. -/
theorem open_arg {s : Shape} {t : TypeId} {v : Value} {d : DataW H} {ps : List MemPlace} {r : Go.Reach} {b0 : Nat} (hl : (lay P s).1 t = true) (hok : Value.okWide P w r b0 t v) (h : DataW.Trod enc P w base spare held t v d ps) : ∃ y : s.Val, (Reps P s).V (allM w) y v ∧ okR s y := by
  obtain ⟨fuel, hf⟩ := h
  obtain ⟨y, h1, h2⟩ := (open_rep s).1 t fuel _ _ hl hf
  refine ⟨y, ?_, h2⟩
  have cell : ∀ {u}, v.cells.toList = [u] → (∀ cs, v ≠ .agg cs) → v = u := by
    intro u hu hna
    cases v <;> first | exact absurd rfl (hna _) | simpa [Value.cells] using hu
  have nagg : (∀ fs, P.underlying t ≠ some (.struct fs)) → (∀ n e, P.underlying t ≠ some (.array n e)) → ∀ cs, v ≠ .agg cs := by
    intro n1 n2 cs e
    subst e
    unfold Value.okWide at hok
    split at hok
    · rename_i q; exact n1 _ q
    · rename_i q; exact n2 _ _ q
    · unfold Cell.okWide Cell.ok at hok
      split at hok <;> simp_all
  cases s with
  | bool =>
    obtain ⟨u, e, hu⟩ := h1
    simp only [lay] at hl
    split at hl
    · rename_i q
      exact (cell e (nagg (by rw [q]; intro _ z; cases z) (by rw [q]; intro _ _ z; cases z))) ▸ hu
    · cases hl
  | int k =>
    obtain ⟨u, e, hu⟩ := h1
    simp only [lay] at hl
    split at hl
    · rename_i q
      exact (cell e (nagg (by rw [q]; intro _ z; cases z) (by rw [q]; intro _ _ z; cases z))) ▸ hu
    · cases hl
  | slice s =>
    obtain ⟨u, e, hu⟩ := h1
    simp only [lay] at hl
    split at hl
    · rename_i q
      exact (cell e (nagg (by rw [q]; intro _ z; cases z) (by rw [q]; intro _ _ z; cases z))) ▸ hu
    · cases hl
  | st f =>
    simp only [lay] at hl
    split at hl
    · rename_i q
      unfold Value.okWide at hok
      rw [q] at hok
      obtain ⟨cs, e, _⟩ := hok
      subst e
      exact ⟨cs.toList, by simp, h1⟩
    · cases hl
  | _ => simp [lay] at hl
end
end Go.Proofs.YtjeoelajkncpcaaDoor.V
