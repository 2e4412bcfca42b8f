/- The calculus of the program's functions and their contracts, part 3. No condition of its own. -/
import Derived.Test.YtjeoelajkncpcaaDoorM2
import Derived.Scope
import Derived.Carry
import Derived.ChangeArms
import Derived.OpenShut
import Derived.DataElems
import Derived.Lib.LaidTab
import Derived.RowKit

/- Loops: the state at a round's head is as the condition says. No condition of its own. -/
namespace Go.Proofs.YtjeoelajkncpcaaDoor.V
open Go Go.RowKit
set_option linter.unusedVariables false
set_option linter.unusedSimpArgs false

/-- What a loop's rounds leave alone. -/
noncomputable def loopFx (fx : Fx) (hv W' : List Nat) (bk : List Cn) (st : St) (a : Act) : Fx :=
  { W := W', tmps := a.tmps, fe := fun i => cond (hv.contains i) none (match st.hp[i]?, bk[i]? with
      | some e, some k => some (e.lock, k)
      | _, _ => none), gh := J st.hp bk, n0 := fx.n0, keep := fx.keep }

/-- What is so of the parts of a round's head. -/
def HeadN (lv hv : List Nat) (sl : List Slot) : Prop := ∀ (j i : Nat), hv[j]? = some i → ∃ y, sl[lv.length + j]? = some (.n y) ∧ y.md = .own

section
variable {c : Cfg} {m0 : Mem} {w0 : World} {fx fx' : Fx} {m m1 m' : Mem} {bk bk' : List Cn} {st st' : St} {a a' : Act} {w w' : World}

theorem ownAll_spec {hp : List Ent} {hv : List Nat} (h : ownAll hp hv = true) {i : Nat} (hi : i ∈ hv) : ∃ x, hp[i]? = some x ∧ x.md = .own := by
  have := List.all_eq_true.1 h i hi
  split at this
  · rename_i x hx
    refine ⟨x, hx, ?_⟩
    cases hm : x.md with
    | own => rfl
    | lock => rw [hm] at this; cases this
    | froz => rw [hm] at this; cases this
  · cases this

theorem headN_mk {lv hv : List Nat} {hp0 : List Ent} {ap : List Nat} (ho : ownAll st.hp hv = true) (x : (shL (slotsOf hp0 ap st lv hv)).Val) : HeadN lv hv (mkL (slotsOf hp0 ap st lv hv) x) := by
  intro j i hj
  obtain ⟨e, he, hmd⟩ := ownAll_spec ho (List.mem_of_getElem? hj)
  have hs : (slotsOf hp0 ap st lv hv)[lv.length + j]? = some (.n (nrmN hp0 st.hp ap i e)) := by
    unfold slotsOf
    rw [List.getElem?_append_right (by simp)]
    simp [hj, he]
  obtain ⟨y, hy⟩ := mkL_get _ x hs
  cases e with
  | box o cs => exact ⟨_, hy, hmd⟩
  | row o v el s xs => exact ⟨_, hy, hmd⟩

theorem slots_own {lv hv : List Nat} {hp0 : List Ent} {ap : List Nat} (ho : ownAll st.hp hv = true) : ∀ s ∈ slotsOf hp0 ap st lv hv, s.ownN := by
  intro s hs
  unfold slotsOf at hs
  rcases List.mem_append.1 hs with h | h
  · obtain ⟨t, _, rfl⟩ := List.mem_map.1 h; trivial
  · obtain ⟨i, hi, rfl⟩ := List.mem_map.1 h
    obtain ⟨e, he, hmd⟩ := ownAll_spec ho hi
    rw [he]
    cases e <;> exact hmd

theorem headOf_get {lv hv W' : List Nat} {sl : List Slot} (i : Nat) : (headOf st lv hv W' sl).hp[i]? = (st.hp[i]?).map fun x => match getN hv (sl.drop lv.length) i with | some y => y | none => x.lock := by
  have := laidIn_get hv (sl.drop lv.length) 0 st.hp i
  rwa [Nat.zero_add] at this

theorem not_blt {a b : Nat} (h : a < b) : Nat.blt a b = true := Nat.ble_eq_true_of_le h

/-- THE HEAD: the state behind a round, or ahead of the loop, as that at a round's head. -/
theorem head_sat {lv hv W' : List Nat} {sl : List Slot} (S : Sat c m0 w0 fx m bk st a w) (S' : Sat c m1 w0 fx' m' bk' st' a' w') (hn0 : fx'.n0 = fx.n0) (hkp : fx'.keep = fx.keep) (hext : Mem.ext fx.n0 m m')
    (hW : ∀ d ∈ W', d < a.tmps.size) (hsz : a'.tmps.size = a.tmps.size) (htm : ∀ i, i ∉ W' → a'.tmps[i]? = a.tmps[i]?) (hgh : ∀ e u, J st.hp bk e u → J st'.hp bk' e u)
    (hfe : ∀ (i : Nat) e, i ∉ hv → st.hp[i]? = some e → (st'.hp[i]? = some e ∨ st'.hp[i]? = some e.lock) ∧ bk'[i]? = bk[i]?)
    (ho : ownAll st.hp hv = true) (hN : HeadN lv hv sl) (hsl : SWkL sl (slotsOf st.hp (apOf st lv hv) st' lv hv)) :
    Sat c m w0 (loopFx fx hv W' bk st a) m' (bk'.take st.hp.length) (headOf st lv hv W' sl) a' w' := by
  have hap : ∀ i, (apOf st lv hv).contains i = true → i ∈ hv := by
    intro i hi
    have := List.contains_iff_mem.1 hi
    unfold apOf at this
    have := (List.mem_filter.1 this).2
    simpa using this
  have hnap : ∀ i, i ∉ hv → (apOf st lv hv).contains i = false := by
    intro i hi
    cases hc : (apOf st lv hv).contains i with
    | false => rfl
    | true => exact absurd (hap i hc) hi
  have hlt : ∀ {i : Nat} {e : Ent}, st.hp[i]? = some e → i < st.hp.length := fun h => (List.getElem?_eq_some_iff.1 h).1
  have hbk : ∀ {i : Nat}, i < st.hp.length → (bk'.take st.hp.length)[i]? = bk'[i]? := fun h => by rw [List.getElem?_take]; simp [h]
  have hnone : ∀ {i : Nat}, getN hv (sl.drop lv.length) i = none → i ∉ hv := fun h => getN_none (fun j t hj => by
    obtain ⟨y, hy, _⟩ := hN j t hj
    exact ⟨y, by rw [List.getElem?_drop]; exact hy⟩) h
  -- blocks that do not vary
  have factA : ∀ {i : Nat} {e : Ent}, st.hp[i]? = some e → i ∉ hv → (headOf st lv hv W' sl).hp[i]? = some e.lock := by
    intro i e he hi
    rw [headOf_get, he]
    cases hg : getN hv (sl.drop lv.length) i with
    | none => rfl
    | some y => obtain ⟨j, h1, _⟩ := getN_spec hg; exact absurd (List.mem_of_getElem? h1) hi
  -- blocks that vary
  have factB : ∀ {i : Nat}, i ∈ hv → i < st.hp.length ∧ ∃ y x, (headOf st lv hv W' sl).hp[i]? = some y ∧ y.md = .own ∧ st'.hp[i]? = some x ∧ SWk (.n y) (.n (nrmN st.hp st'.hp (apOf st lv hv) i x)) := by
    intro i hi
    obtain ⟨e, he, _⟩ := ownAll_spec ho hi
    refine ⟨hlt he, ?_⟩
    cases hg : getN hv (sl.drop lv.length) i with
    | none => exact absurd hi (hnone hg)
    | some y =>
      obtain ⟨j, h1, h2⟩ := getN_spec hg
      rw [List.getElem?_drop] at h2
      obtain ⟨y', h3, h4⟩ := hN j i h1
      rw [h2] at h3
      cases h3
      obtain ⟨u, h5, h6⟩ := SWkL_get hsl h2
      unfold slotsOf at h5
      rw [List.getElem?_append_right (by simp)] at h5
      simp only [List.length_map, Nat.add_sub_cancel_left, List.getElem?_map, h1, Option.map_some, Option.some.injEq] at h5
      subst h5
      cases hx : st'.hp[i]? with
      | none =>
        rw [hx] at h6
        cases y with
        | box _ _ => obtain ⟨ds, q, _⟩ := h6; cases q
        | row _ _ _ _ _ => cases h6
      | some x =>
        rw [hx] at h6
        exact ⟨y, x, by rw [headOf_get, he, hg]; rfl, h4, rfl, h6⟩
  -- words behind the round, as words at the head
  have hJN : ∀ e u, (match e with
      | .box id off => id < st.hp.length ∧ J st'.hp bk' (.box id off) u
      | .row id ver => id < st.hp.length ∧ ∃ md v el s xs, st'.hp[id]? = some (.row md v el s xs) ∧ bk'[id]? = some (.row u) ∧ ver = nrmV st.hp (apOf st lv hv) id v
      | _ => False) → J (headOf st lv hv W' sl).hp (bk'.take st.hp.length) e u := by
    intro e u h
    cases e <;> try exact False.elim h
    case box id off =>
      obtain ⟨hid, md, cs, b, h1, h2, h3⟩ := h
      by_cases hi : id ∈ hv
      · obtain ⟨_, y, x, q1, q2, q3, q4⟩ := factB hi
        rw [h1] at q3; cases q3
        cases y with
        | row _ _ _ _ _ => cases q4
        | box md2 cs2 => exact ⟨md2, cs2, b, q1, by rw [hbk hid]; exact h2, h3⟩
      · have he := List.getElem?_eq_getElem hid
        have q1 := factA he hi
        obtain ⟨q2, q3⟩ := hfe _ _ hi he
        obtain ⟨md2, l1, _, _⟩ := (st.hp[id]).lock_eq
        have : ∃ md3, (st.hp[id]).lock = .box md3 cs := by
          rcases q2 with q | q
          · have e := Option.some.inj (h1.symm.trans q)
            exact ⟨md2, by rw [l1, ← e]; rfl⟩
          · exact ⟨md, (Option.some.inj (h1.symm.trans q)).symm⟩
        obtain ⟨md3, h4⟩ := this
        exact ⟨md3, cs, b, by rw [q1, h4], by rw [hbk hid]; exact h2, h3⟩
    case row id ver =>
      obtain ⟨hid, md, v, el, s, xs, h1, h2, h3⟩ := h
      by_cases hi : id ∈ hv
      · obtain ⟨_, y, x, q1, q2, q3, q4⟩ := factB hi
        rw [h1] at q3; cases q3
        cases y with
        | box _ _ => obtain ⟨ds, q, _⟩ := q4; cases q
        | row md2 v2 el2 s2 xs2 =>
          cases q4
          exact ⟨_, _, _, _, _, u, q1, by rw [hbk hid]; exact h2, by rw [h3]; exact Nat.le_refl _, fun _ => rfl⟩
      · have he := List.getElem?_eq_getElem hid
        have q1 := factA he hi
        obtain ⟨q2, q3⟩ := hfe _ _ hi he
        obtain ⟨md2, l1, _, _⟩ := (st.hp[id]).lock_eq
        have hv' : nrmV st.hp (apOf st lv hv) id v = v := by unfold nrmV; rw [hnap id hi]; rfl
        have : ∃ md3, (st.hp[id]).lock = .row md3 v el s xs := by
          rcases q2 with q | q
          · have e := Option.some.inj (h1.symm.trans q)
            exact ⟨md2, by rw [l1, ← e]; rfl⟩
          · exact ⟨md, (Option.some.inj (h1.symm.trans q)).symm⟩
        obtain ⟨md3, h4⟩ := this
        exact ⟨md3, v, el, s, xs, u, by rw [q1, h4], by rw [hbk hid]; exact h2, by rw [h3, hv']; exact Nat.le_refl _, fun _ => rfl⟩
  -- the loop's own words
  have hW0 : ∀ e u, (∃ u0, J st.hp bk e u0) → J st'.hp bk' e u → J (headOf st lv hv W' sl).hp (bk'.take st.hp.length) e u := by
    intro e u ⟨u0, h0⟩ h
    cases e <;> try exact False.elim h
    case box id off =>
      obtain ⟨md, cs, b, h1, _⟩ := h0
      exact hJN (.box id off) u ⟨hlt h1, h⟩
    case row id ver =>
      obtain ⟨md0, v0, el0, s0, xs0, cv0, p1, p2, p3, _⟩ := h0
      obtain ⟨md, v, el, s, xs, cv, h1, h2, h3, h4⟩ := h
      by_cases hi : id ∈ hv
      · obtain ⟨_, y, x, q1, q2, q3, q4⟩ := factB hi
        rw [h1] at q3; cases q3
        cases y with
        | box _ _ => obtain ⟨ds, q, _⟩ := q4; cases q
        | row md2 v2 el2 s2 xs2 =>
          cases q4
          cases hc : (apOf st lv hv).contains id with
          | true =>
            have hv' : nrmV st.hp (apOf st lv hv) id v = v0 + 1 := by unfold nrmV; rw [hc, p1]; rfl
            exact ⟨_, _, _, _, _, cv, q1, by rw [hbk (hlt p1)]; exact h2, by rw [hv']; omega, fun q => by rw [hv'] at q; omega⟩
          | false =>
            have hv' : nrmV st.hp (apOf st lv hv) id v = v := by unfold nrmV; rw [hc]; rfl
            exact ⟨_, _, _, _, _, cv, q1, by rw [hbk (hlt p1)]; exact h2, by rw [hv']; exact h3, fun q => h4 (by rw [hv'] at q; exact q)⟩
      · have q1 := factA p1 hi
        obtain ⟨q2, q3⟩ := hfe _ _ hi p1
        have hvv : v = v0 := by
          rcases q2 with q | q
          · rw [h1] at q; cases q; rfl
          · rw [h1] at q
            obtain ⟨md2, l1, _, _⟩ := (Ent.row md0 v0 el0 s0 xs0).lock_eq
            rw [l1] at q; cases q; rfl
        obtain ⟨md2, l1, _, _⟩ := (Ent.row md0 v0 el0 s0 xs0).lock_eq
        exact ⟨md2, v0, el0, s0, xs0, cv, by rw [q1, l1]; rfl, by rw [hbk (hlt p1)]; exact h2, p3, fun q => h4 (by rw [hvv]; exact q)⟩
    case rp id ver kk off =>
      obtain ⟨md0, v0, el0, s0, xs0, cv0, p1, p2, p3, _⟩ := h0
      obtain ⟨md, v, el, s, xs, cv, h1, h2, h3, h4⟩ := h
      by_cases hi : id ∈ hv
      · obtain ⟨_, y, x, q1, q2, q3, q4⟩ := factB hi
        rw [h1] at q3; cases q3
        cases y with
        | box _ _ => obtain ⟨ds, q, _⟩ := q4; cases q
        | row md2 v2 el2 s2 xs2 =>
          cases q4
          cases hc : (apOf st lv hv).contains id with
          | true =>
            have hv' : nrmV st.hp (apOf st lv hv) id v = v0 + 1 := by unfold nrmV; rw [hc, p1]; rfl
            exact ⟨_, _, _, _, _, cv, q1, by rw [hbk (hlt p1)]; exact h2, by rw [hv']; omega, fun q => by rw [hv'] at q; omega⟩
          | false =>
            have hv' : nrmV st.hp (apOf st lv hv) id v = v := by unfold nrmV; rw [hc]; rfl
            exact ⟨_, _, _, _, _, cv, q1, by rw [hbk (hlt p1)]; exact h2, by rw [hv']; exact h3, fun q => h4 (by rw [hv'] at q; exact q)⟩
      · have q1 := factA p1 hi
        obtain ⟨q2, q3⟩ := hfe _ _ hi p1
        obtain ⟨md2, l1, _, _⟩ := (Ent.row md0 v0 el0 s0 xs0).lock_eq
        rcases q2 with q | q
        · rw [h1] at q; cases q
          exact ⟨md2, _, _, _, _, cv, by rw [q1, l1]; rfl, by rw [hbk (hlt p1)]; exact h2, h3, h4⟩
        · rw [h1] at q
          rw [l1] at q; cases q
          exact ⟨_, _, _, _, _, cv, by rw [q1, l1]; rfl, by rw [hbk (hlt p1)]; exact h2, h3, h4⟩
  -- what was found behind the round, as it is known at the head
  have hnrm : ∀ {v : EV} {u : Value}, Rep c.P m' v (J st'.hp bk') u → Rep c.P m' (nrmE st.hp st'.hp (apOf st lv hv) v) (J (headOf st lv hv W' sl).hp (bk'.take st.hp.length)) u := by
    intro v u h
    refine sub_rep (F := fun _ => True) (Mem.le_refl m') (fun id ver u _ hJ => ?_) (fun id off u _ hJ => ?_) v h (fun _ _ => trivial)
    · obtain ⟨md, vv, e, s, xs, cv, h1, h2, h3, h4⟩ := hJ
      cases hl : Nat.blt id st.hp.length with
      | false => simp only [cond_false]; trivial
      | true =>
        simp only [cond_true, h1]
        cases hb : Nat.beq vv ver with
        | false => simp only [cond_false]; trivial
        | true =>
          simp only [cond_true]
          have hvv := beq_eq hb
          have hu := h4 hvv.symm
          subst hu
          exact hJN (.row id _) u ⟨Nat.le_of_ble_eq_true hl, md, vv, e, s, xs, h1, h2, by rw [hvv]⟩
    · cases hl : Nat.blt id st.hp.length with
      | false => simp only [cond_false]; trivial
      | true =>
        simp only [cond_true]
        exact hJN (.box id off) u ⟨Nat.le_of_ble_eq_true hl, hJ⟩
  have hnrmL : ∀ {vs : List EV} {us : List Value}, RepL c.P m' vs (J st'.hp bk') us → RepL c.P m' (vs.map (nrmE st.hp st'.hp (apOf st lv hv))) (J (headOf st lv hv W' sl).hp (bk'.take st.hp.length)) us := by
    intro vs
    induction vs with
    | nil => intro us h; exact RepL_nil.2 (RepL_nil.1 h)
    | cons v r ih =>
      intro us h
      obtain ⟨u, us', e1, e2, e3⟩ := RepL_cons.1 h
      exact RepL_cons.2 ⟨u, us', e1, hnrm e2, ih e3⟩
  have hold : ∀ e u, J st.hp bk e u → J (headOf st lv hv W' sl).hp (bk'.take st.hp.length) e u := fun e u h => hW0 e u ⟨u, h⟩ (hgh e u h)
  have hex : ∀ i, i < st.hp.length → ∃ x, st'.hp[i]? = some x := by
    intro i hi
    by_cases h : i ∈ hv
    · obtain ⟨_, y, x, _, _, q, _⟩ := factB h; exact ⟨x, q⟩
    · rcases (hfe _ _ h (List.getElem?_eq_getElem hi)).1 with q | q <;> exact ⟨_, q⟩
  have hle : st.hp.length ≤ bk'.length := by
    rw [S'.len]
    rcases Nat.eq_zero_or_pos st.hp.length with q | q
    · omega
    · obtain ⟨x, hx⟩ := hex (st.hp.length - 1) (by omega)
      have := (List.getElem?_eq_some_iff.1 hx).1
      omega
  have hdl : (headOf st lv hv W' sl).hp.length = st.hp.length := laidIn_length _ _ _ _
  refine { hold := S'.hold, tab := S'.tab, ext := hext, below := by show Below fx.n0 w0 w'; rw [← hn0]; exact S'.below, base := S.base, keep := fun b hb => (by
    have k := S'.keep b (by rw [hkp]; exact hb)
    refine ⟨k.1, k.2.1, fun i hi => k.2.2 i ?_⟩
    rw [List.getElem?_take] at hi
    split at hi
    · exact hi
    · cases hi), len := by rw [hdl, List.length_take]; omega, ents := fun i e he => ?_, apart := fun i j b hi hj => ?_, env := fun i => ?_, defers := S'.defers, fix := ⟨hsz, htm, hW, fun i e k hk => ?_⟩, gh := hold }
  · have hi : i < st.hp.length := by rw [← hdl]; exact (List.getElem?_eq_some_iff.1 he).1
    by_cases h : i ∈ hv
    · obtain ⟨_, y, x, q1, q2, q3, q4⟩ := factB h
      rw [q1] at he; cases he
      obtain ⟨k, hk, hs⟩ := S'.ents i x q3
      rw [hn0] at hs
      refine ⟨k, by rw [hbk hi]; exact hk, ?_⟩
      cases x with
      | box md cs =>
        cases k with
        | row v => exact hs.elim
        | box b =>
          obtain ⟨us, T, h1, h2, h3, h4, h5⟩ := hs
          cases e with
          | row _ _ _ _ _ => cases q4
          | box md2 cs2 =>
            obtain ⟨ds, d1, d2⟩ := q4
            cases d1
            obtain rfl : md2 = .own := q2
            exact ⟨us, T, h1, WkL_rep d2 (hnrmL h2), h3, (fun q => by cases q), fun _ => h5 (fun q => by cases q)⟩
      | row md v el s xs =>
        cases k with
        | box b => exact hs.elim
        | row cv =>
          obtain ⟨cs, h1, h2, h3, h4⟩ := hs
          cases e with
          | box _ _ => obtain ⟨ds, q, _⟩ := q4; cases q
          | row md2 v2 el2 s2 xs2 =>
            cases q4
            obtain rfl : md2 = .own := q2
            exact ⟨cs, h1, h2, h3, h4⟩
    · have he0 := List.getElem?_eq_getElem hi
      rw [factA he0 h] at he; cases he
      obtain ⟨q2, q3⟩ := hfe _ _ h he0
      obtain ⟨k0, hk0, hs0⟩ := S.ents i _ he0
      obtain ⟨md2, l1, l2, l3⟩ := (st.hp[i]).lock_eq
      have main : ∀ x, st'.hp[i]? = some x → (∃ md, x = (st.hp[i]).setMd md ∧ (md = .froz ↔ (st.hp[i]).md = .froz)) → ∃ k, (bk'.take st.hp.length)[i]? = some k ∧ SatEnt c.P m' fx.n0 w' (J (headOf st lv hv W' sl).hp (bk'.take st.hp.length)) (st.hp[i]).lock k := by
        intro x hx ⟨md, hmd, hf⟩
        obtain ⟨k, hk, hs⟩ := S'.ents i x hx
        rw [hn0] at hs
        refine ⟨k, by rw [hbk hi]; exact hk, ?_⟩
        rw [l1]
        subst hmd
        have := SatEnt_setMd (md := md2) (by rw [Ent.md_setMd, l3, hf]) hs
        rw [Ent.setMd_setMd] at this
        have hkk : k0 = k := by rw [hk0, hk] at q3; exact (Option.some.inj q3).symm
        rw [hkk] at hs0
        generalize st.hp[i] = x0 at this hs0
        cases x0 with
        | box md cs =>
          cases k with
          | row v => exact this.elim
          | box b =>
            obtain ⟨us, T, h1, h2, h3, h4, h5⟩ := this
            obtain ⟨us0, _, _, h20, _⟩ := hs0
            exact ⟨us, T, h1, RepL_words hW0 cs h20 h2, h3, h4, h5⟩
        | row md v el s xs =>
          cases k with
          | box b => exact this.elim
          | row cv => exact this
      rcases q2 with q | q
      · exact main _ q ⟨(st.hp[i]).md, (Ent.setMd_md _).symm, Iff.rfl⟩
      · exact main _ q ⟨md2, l1, l3⟩
  · have g : ∀ {i b : Nat}, ((bk'.take st.hp.length)[i]?).bind Cn.blk = some b → (bk'[i]?).bind Cn.blk = some b := fun {i b} h => by
      rw [List.getElem?_take] at h
      split at h
      · exact h
      · cases h
    exact S'.apart i j b (g hi) (g hj)
  · show Rep c.P m' (match getE lv sl i with | some v => v | none => cond (W'.contains i) .bot (st.env i)) _ _
    cases hg : getE lv sl i with
    | some v =>
      obtain ⟨j, h1, h2⟩ := getE_spec hg
      obtain ⟨u, h3, h4⟩ := SWkL_get hsl h2
      unfold slotsOf at h3
      have hj : j < lv.length := (List.getElem?_eq_some_iff.1 h1).1
      rw [List.getElem?_append_left (by simpa using hj)] at h3
      simp only [List.getElem?_map, h1, Option.map_some, Option.some.injEq] at h3
      subst h3
      have hn := hnrm (S'.env i)
      rcases h4 with q | q | ⟨cs, ds, q1, q2, q3⟩
      · rw [q]; trivial
      · cases q; exact hn
      · rw [q1]
        have q2 : nrmE st.hp st'.hp (apOf st lv hv) (st'.env i) = .agg ds := by injection q2
        rw [q2] at hn
        obtain ⟨us, e1, e2⟩ := hn
        exact ⟨us, e1, WkL_rep q3 e2⟩
    | none =>
      cases hc : W'.contains i with
      | true => trivial
      | false =>
        have hi : i ∉ W' := fun h => by rw [List.contains_iff_mem.2 h] at hc; cases hc
        show Rep c.P m' (st.env i) _ (a'.tmps.getD i undef)
        have : a'.tmps.getD i undef = a.tmps.getD i undef := by
          simp only [Array.getD_eq_getD_getElem?, htm i hi]
        rw [this]
        exact Rep_mono hext.1 _ hold (S.env i)
  · unfold loopFx at hk
    dsimp only at hk
    cases hc : hv.contains i with
    | true => rw [hc] at hk; cases hk
    | false =>
      rw [hc] at hk
      simp only [cond_false] at hk
      have hi : i ∉ hv := fun h => by rw [List.contains_iff_mem.2 h] at hc; cases hc
      split at hk
      · rename_i e0 k0 he hk0
        cases hk
        exact ⟨e0.lock_ne, factA he hi, by rw [hbk (hlt he), (hfe _ _ hi he).2]; exact hk0⟩
      · cases hk

/-- Behind a loop. -/
theorem exit_sat {hv W' : List Nat} (S : Sat c m0 w0 fx m bk st a w) (hW : ∀ d ∈ W', d ∈ fx.W) (ho : ownAll st.hp hv = true) (S' : Sat c m w0 (loopFx fx hv W' bk st a) m' bk' st' a' w') :
    Sat c m0 w0 fx m' bk' { st' with hp := unlock st.hp st'.hp } a' w' := by
  have hal : Alike st'.hp (unlock st.hp st'.hp) := by
    refine ⟨unlock_length _ _, fun i x hx => ?_⟩
    rw [unlock_get, hx]
    simp only [Option.map_some]
    split
    · rename_i y hy
      cases hb : y.md.isOwn && x.md.isLock with
      | true => exact ⟨.own, rfl⟩
      | false => exact ⟨x.md, by rw [Ent.setMd_md]; rfl⟩
    · exact ⟨x.md, by rw [Ent.setMd_md]⟩
  have hJ : ∀ e u, J st'.hp bk' e u → J (unlock st.hp st'.hp) bk' e u := fun e u => J_alike hal
  refine { hold := S'.hold, tab := S'.tab, ext := Mem.ext_trans S.ext S'.ext, below := S'.below, base := S.base, keep := S'.keep, len := by rw [S'.len]; exact (unlock_length _ _).symm, ents := fun i e he => ?_, apart := S'.apart, env := fun i => Rep_mono (Mem.le_refl _) _ hJ (S'.env i), defers := S'.defers, fix := ⟨S'.fix.1.trans S.fix.1, fun i hi => (S'.fix.2.1 i (fun h => hi (hW i h))).trans (S.fix.2.1 i hi), S.fix.2.2.1, fun i e k hk => ?_⟩, gh := fun e u h => hJ e u (S'.gh e u (S.gh e u h)) }
  · dsimp only at he
    rw [unlock_get] at he
    cases hx : st'.hp[i]? with
    | none => rw [hx] at he; cases he
    | some x =>
      rw [hx] at he
      simp only [Option.map_some, Option.some.injEq] at he
      obtain ⟨k, hk, hs⟩ := S'.ents i x hx
      have hs' := hs.mono (Mem.le_refl m') hJ (fun b _ => rfl) (fun _ _ _ h => h)
      refine ⟨k, hk, ?_⟩
      subst he
      split
      · rename_i y hy
        cases hb : y.md.isOwn && x.md.isLock with
        | true =>
          simp only [Bool.and_eq_true] at hb
          refine SatEnt_setMd ⟨(fun q => by cases q), (fun q => ?_)⟩ hs'
          rw [q] at hb; cases hb.2
        | false => exact hs'
      · exact hs'
  · obtain ⟨q1, q2, q3⟩ := S.fix.2.2.2 i e k hk
    have hi : i ∉ hv := fun h => by
      obtain ⟨x, hx, hm⟩ := ownAll_spec ho h
      rw [q2] at hx; cases hx
      exact q1 hm
    have hc : hv.contains i = false := by
      cases h : hv.contains i with
      | false => rfl
      | true => exact absurd (List.contains_iff_mem.1 h) hi
    obtain ⟨p1, p2, p3⟩ := S'.fix.2.2.2 i e.lock k (by unfold loopFx; dsimp only; rw [hc, q2, q3]; rfl)
    refine ⟨q1, ?_, p3⟩
    dsimp only
    rw [Ent.lock_of e q1] at p2
    rw [unlock_get, p2, q2]
    have : e.md.isOwn = false := by
      cases hm : e.md with
      | own => exact absurd hm q1
      | lock => rfl
      | froz => rfl
    simp only [Option.map_some, this, Bool.false_and, cond_false]
end
end Go.Proofs.YtjeoelajkncpcaaDoor.V

/- CODE: what the condition says of it, it does. No condition of its own. -/
namespace Go.Proofs.YtjeoelajkncpcaaDoor.V
open Go Go.RowKit
set_option linter.unusedVariables false
set_option linter.unusedSimpArgs false

open Classical in
/-- A loop, by a number that grows less. -/
theorem wp_loop_n {P : Program} {Q : Exit → Act → World → Prop} {c : Code} (R : Nat → Act → World → Prop) (round : ∀ n a w, R n a w → c.wp P (Exit.then (fun a' w' => ∃ n', n' < n ∧ R n' a' w') Q) a w)
    {n : Nat} {a : Act} {w : World} (h : R n a w) : (Code.loop c).wp P Q a w := by
  have key : ∀ n a w, R n a w → ∀ (b : Frame) (k : List Item) (cs : List Frame), ∃ e a' w', Q e a' w' ∧ Arrives P (lone (b.at a (.code c :: .inLoop c :: k)) cs w) b k cs e a' w' := by
    intro n
    induction n using Nat.strongRecOn with
    | _ n ih =>
      intro a w hR b k cs
      obtain ⟨e, a₁, w₁, hq, harr⟩ := round n a w hR b (.inLoop c :: k) cs
      cases e with
      | normal =>
        obtain ⟨n', hlt, hR'⟩ := hq
        obtain ⟨e₂, a₂, w₂, hq₂, harr₂⟩ := ih n' hlt a₁ w₁ hR' b k cs
        exact ⟨e₂, a₂, w₂, hq₂, .of_steps (Steps.trans harr (.one step_inLoop)) harr₂⟩
      | exit id => exact ⟨_, a₁, w₁, hq, .pass (x := .inLoop c) rfl (fun _ _ => .inl (by simp)) harr⟩
      | goto l => exact ⟨_, a₁, w₁, hq, .pass (x := .inLoop c) rfl (fun _ _ => .inl (by simp)) harr⟩
      | ret => exact ⟨_, a₁, w₁, hq, .pass (x := .inLoop c) rfl (fun _ _ => .inl (by simp)) harr⟩
      | panic ch => exact ⟨_, a₁, w₁, hq, .pass (x := .inLoop c) rfl (fun _ _ => .inl (by simp)) harr⟩
      | outgrown => exact ⟨_, a₁, w₁, hq, .pass (x := .inLoop c) rfl (fun _ _ => .inl (by simp)) harr⟩
  intro b k cs
  obtain ⟨e, a', w', hq, harr⟩ := key n a w h b k cs
  exact ⟨e, a', w', hq, .of_steps (.one step_loop) harr⟩

section
variable {c : Cfg} {w0 : World}

theorem Reach.mono {m0 : Mem} {fx : Fx} {K K' : St → Prop} {a : Act} {w : World} (h : ∀ st, K st → K' st) : Reach c m0 w0 fx K a w → Reach c m0 w0 fx K' a w
  | ⟨st, m, bk, k, S⟩ => ⟨st, m, bk, h st k, S⟩

theorem loop_sound {b : Code} {m0 : Mem} {fx : Fx} {m : Mem} {bk : List Cn} {st : St} {a : Act} {w : World} {lv hv : List Nat} {K : Ex → St → Prop}
    (ih : ∀ {m0 : Mem} {fx : Fx} {m : Mem} {bk : List Cn} {st : St} {a : Act} {w : World} {K : Ex → St → Prop}, Sat c m0 w0 fx m bk st a w → c.vc b fx.W st K → b.wp c.P (Post c m0 w0 fx K) a w)
    (S : Sat c m0 w0 fx m bk st a w) (hW : ∀ d ∈ b.dsts', d ∈ fx.W) (ho : ownAll st.hp hv = true) (k : Cfg.loopV lv hv b.dsts' st (fun st' back => c.vc b b.dsts' st' back) K) : (Code.loop b).wp c.P (Post c m0 w0 fx K) a w := by
  obtain ⟨n, k⟩ := k
  have hWa : ∀ d ∈ b.dsts', d < a.tmps.size := fun d hd => by rw [S.fix.1]; exact S.fix.2.2.1 d (hW d hd)
  have rd : ∀ {st2 : St} {x : (shL (slotsOf st.hp (apOf st lv hv) st lv hv)).Val}, HeadN lv hv (mkL (slotsOf st.hp (apOf st lv hv) st lv hv) x) := headN_mk ho _
  refine wp_loop_n (fun n a' w' => ∃ x m' bk', loopN (fun x back => c.vc b b.dsts' (headOf st lv hv b.dsts' (mkL (slotsOf st.hp (apOf st lv hv) st lv hv) x)) fun e st' => match e with
      | .normal => matL (slotsOf st.hp (apOf st lv hv) st lv hv) (slotsOf st.hp (apOf st lv hv) st' lv hv) back
      | .ret => K .ret { st' with hp := unlock st.hp st'.hp }
      | .exit id => K (.exit id) { st' with hp := unlock st.hp st'.hp }) n x ∧
      Sat c m w0 (loopFx fx hv b.dsts' bk st a) m' bk' (headOf st lv hv b.dsts' (mkL (slotsOf st.hp (apOf st lv hv) st lv hv) x)) a' w') ?_ (n := n) ⟨_, m, _, k, head_sat S S rfl rfl (Mem.ext_refl _ m) hWa rfl (fun _ _ => rfl) (fun _ _ h => h) (fun i e _ he => ⟨.inl he, rfl⟩) ho (rd (st2 := st)) (mkL_self _ (slots_own ho))⟩
  intro n a' w' ⟨x, m', bk', hl, S1⟩
  cases n with
  | zero => exact hl.elim
  | succ n =>
    refine wp_mono (ih S1 hl) fun e a2 w2 h => ?_
    cases e with
    | normal =>
      obtain ⟨st2, m2, bk2, k2, S2⟩ := h
      obtain ⟨y, hy, hs⟩ := matL_spec _ _ k2
      refine ⟨n, Nat.lt_succ_self n, y, m2, _, hy, head_sat S S2 rfl rfl S2.ext hWa S2.fix.1 S2.fix.2.1 S2.gh (fun i e hi he => ?_) ho (rd (st2 := st2)) hs⟩
      obtain ⟨k0, hk0, _⟩ := S.ents i e he
      have hc : hv.contains i = false := by
        cases h : hv.contains i with
        | false => rfl
        | true => exact absurd (List.contains_iff_mem.1 h) hi
      obtain ⟨_, p2, p3⟩ := S2.fix.2.2.2 i e.lock k0 (by unfold loopFx; dsimp only; rw [hc, he, hk0]; rfl)
      exact ⟨.inr p2, by rw [p3, hk0]⟩
    | ret =>
      obtain ⟨st2, m2, bk2, k2, S2⟩ := h
      exact ⟨_, m2, bk2, k2, exit_sat S hW ho S2⟩
    | exit id =>
      obtain ⟨st2, m2, bk2, k2, S2⟩ := h
      exact ⟨_, m2, bk2, k2, exit_sat S hW ho S2⟩
    | goto l => exact h.elim
    | panic ch => exact h.elim
    | outgrown => exact h.elim

/-- THE CONDITION IS SOUND. -/
theorem vc_sound (H : HanOK c) (b : Code) : ∀ {m0 : Mem} {fx : Fx} {m : Mem} {bk : List Cn} {st : St} {a : Act} {w : World} {K : Ex → St → Prop}, Sat c m0 w0 fx m bk st a w → c.vc b fx.W st K → b.wp c.P (Post c m0 w0 fx K) a w := by
  induction b with
  | skip => intro m0 fx m bk st a w K S k; exact wp_skip ⟨st, m, bk, k, S⟩
  | label l => intro m0 fx m bk st a w K S k; exact wp_label ⟨st, m, bk, k, S⟩
  | ret => intro m0 fx m bk st a w K S k; exact wp_ret ⟨st, m, bk, k, S⟩
  | exit id => intro m0 fx m bk st a w K S k; exact wp_exit ⟨st, m, bk, k, S⟩
  | region id ops draw =>
    intro m0 fx m bk st a w K S k
    cases draw with
    | false => exact region_sound H S k
    | true =>
      obtain ⟨hok, k⟩ := cond_true' (show cond (c.drawOK ops) _ False from k)
      exact draw_sound H S hok k
  | seq x y ihx ihy =>
    intro m0 fx m bk st a w K S k
    refine wp_seq (wp_mono (ihx S k) fun e a' w' h => ?_)
    cases e with
    | normal => obtain ⟨st2, m2, bk2, k2, S2⟩ := h; exact ihy S2 k2
    | ret => exact h
    | exit id => exact h
    | goto l => exact h.elim
    | panic ch => exact h.elim
    | outgrown => exact h.elim
  | cond x p q ihp ihq =>
    intro m0 fx m bk st a w K S k
    have hx := ev_sound S x
    unfold Cfg.vc at k
    split at k
    · rename_i z he
      rw [he] at hx
      have hz : a.eval x = .bool z := hx
      cases z with
      | true => exact wp_cond hz (ihp S k)
      | false => exact wp_cond hz (ihq S k)
    · exact k.elim
  | block id b ih =>
    intro m0 fx m bk st a w K S k
    refine wp_block (wp_mono (ih S k) fun e a' w' h => ?_)
    cases e with
    | normal => exact h
    | ret => exact h
    | exit j =>
      show if j = id then _ else _
      by_cases hj : j = id
      · rw [if_pos hj]
        refine h.mono fun st k => ?_
        rcases cond_spec k with ⟨_, k⟩ | ⟨hb, _⟩
        · exact k
        · subst hj; rw [Nat.beq_refl] at hb; cases hb
      · rw [if_neg hj]
        refine h.mono fun st k => ?_
        rcases cond_spec k with ⟨hb, _⟩ | ⟨_, k⟩
        · exact absurd (beq_eq hb) hj
        · exact k
    | goto l => exact h.elim
    | panic ch => exact h.elim
    | outgrown => exact h.elim
  | scope b ih =>
    intro m0 fx m bk st a w K S k
    refine wp_scope_straight (wp_mono (ih S k) fun e a' w' h => ?_)
    cases e with
    | goto l => exact h.elim
    | _ => exact h
  | loop b ih =>
    intro m0 fx m bk st a w K S k
    obtain ⟨hb, k⟩ := cond_true' (show cond _ _ False from k)
    simp only [Bool.and_eq_true] at hb
    refine loop_sound ih (S.freeze hb.2) (fun d hd => ?_) hb.1.2 k
    have := List.all_eq_true.1 hb.1.1 d hd
    simpa using this
  | _ => intro m0 fx m bk st a w K S k; exact False.elim k
end
end Go.Proofs.YtjeoelajkncpcaaDoor.V

/- FUNCTIONS: a function whose condition holds keeps its contract. No condition of its own. -/
namespace Go.Proofs.YtjeoelajkncpcaaDoor.V
open Go Go.RowKit
set_option linter.unusedVariables false
set_option linter.unusedSimpArgs false

section
variable {c : Cfg} {m0 : Mem} {w0 : World} {fx : Fx} {m : Mem} {bk : List Cn} {st : St} {a : Act} {w : World}

def resOf (tmps : Array Value) : ResultVar → Sem Value
  | .tmp t => pure (tmps.getD t undef)
  | .cell a t => do loadVar t (← asAddr (tmps.getD a undef))

theorem res_sound (S : Sat c m0 w0 fx m bk st a w) : ∀ (l : List ResultVar) {K : List EV → Prop}, c.resK st l K → ∃ vs us, K vs ∧ RepL c.P m vs (J st.hp bk) us ∧ (l.mapM (resOf a.tmps)).run c.P w = .ok us w
  | [], K, k => ⟨[], [], k, RepL_nil.2 rfl, by simp⟩
  | .tmp t :: r, K, k => by
    obtain ⟨vs, us, h1, h2, h3⟩ := res_sound S r (show c.resK st r fun vs => K (st.env t :: vs) from k)
    refine ⟨_, _, h1, RepL_cons.2 ⟨_, _, rfl, S.env t, h2⟩, ?_⟩
    simp only [List.mapM_cons, resOf, Sem.run_bind, Sem.run_pure, Result.andThen_ok, h3]
  | .cell ad t :: r, K, k => by
    obtain ⟨cs, off, b, o, us, k1, e1, e2, e3⟩ := ptK_sound S (S.env ad) (show Cfg.ptK st (st.env ad) (fun cs off => c.ldK t cs off fun v => c.resK st r fun vs => K (v :: vs)) from k)
    obtain ⟨v, u, k2, l2, l3⟩ := ldK_sound (b := b) (o := o) k1 e2
    have hl := l3 w (e3 w (fun _ _ _ => rfl) S.hold)
    obtain ⟨vs, us', h1, h2, h3⟩ := res_sound S r k2
    refine ⟨_, _, h1, RepL_cons.2 ⟨_, _, rfl, l2, h2⟩, ?_⟩
    have hl' : (loadVar t ⟨b, o + off, none⟩).run c.P w = .ok u w := by
      have : (Instr.loadAt t (.pointer (some ⟨b, o + off, none⟩))) = loadVar t ⟨b, o + off, none⟩ := by simp [Instr.loadAt, Instr.sureAddr]
      rw [← this]; exact hl
    simp only [List.mapM_cons, resOf, Sem.run_bind, e1, asAddr, Sem.run_pure, Result.andThen_ok, hl', h3]

theorem ret_sound (S : Sat c m0 w0 fx m bk st a w) {fn : Func} {out : Shape} {R : out.Val → Prop} (k : c.retK fn out st R) :
    ∃ v, (results fn a.tmps).run c.P w = .ok v w ∧ ∃ r, R r ∧ (Reps c.P out).V (frzM m w (blks bk fun i => ∃ x, st.hp[i]? = some x)) r v := by
  obtain ⟨vs, us, h1, h2, h3⟩ := res_sound S _ k
  have hr : (results fn a.tmps).run c.P w = .ok (if h : us.toArray.size = 1 then us.toArray[0] else .tuple us.toArray) w := by
    have hm : (fn.results.mapM (resOf a.tmps)).run c.P w = .ok us.toArray w := by
      rw [Array.mapM_eq_mapM_toList]
      simp only [map_eq_pure_bind, Sem.run_bind, h3, Result.andThen_ok, Sem.run_pure]
    have he : results fn a.tmps = (do let vs ← fn.results.mapM (resOf a.tmps); pure (if h : vs.size = 1 then vs[0] else .tuple vs)) := by
      unfold results
      congr 1
    rw [he]
    simp only [Sem.run_bind, hm, Result.andThen_ok, Sem.run_pure]
  refine ⟨_, hr, ?_⟩
  have hF := frz_all S
  have hm := frzM_le S (blks bk fun i => ∃ x, st.hp[i]? = some x)
  have ht := S.tab.mono hm
  split at h1
  · rename_i v
    obtain ⟨u, us', e1, e2, e3⟩ := RepL_cons.1 h2
    rw [RepL_nil.1 e3] at e1
    subst e1
    obtain ⟨x, k1, k2⟩ := (dec_sound hF hm ht out).1 _ _ _ e2 (ids_ok v e2) h1
    exact ⟨x, k1, by simpa using k2⟩
  · rename_i hne
    split at h1
    · rename_i f R
      obtain ⟨x, k1, k2⟩ := decS_sound hF hm ht f _ _ _ h2 (idsL_ok _ h2) h1
      refine ⟨x, k1, us, ?_, k2⟩
      have hlen := RepL_length h2
      have : ¬ us.toArray.size = 1 := by
        intro h
        simp only [List.size_toArray] at h
        rw [hlen] at h
        obtain ⟨v, hv⟩ := List.length_eq_one_iff.1 h
        exact hne v hv
      rw [dif_neg this]
    · exact h1.elim
end

/-- THE CONTRACT, out of the condition. -/
theorem fn_sound {c : Cfg} (H : HanOK c) {f : FuncId} {args : List EV} {out : Shape} {R : out.Val → Prop} (k : c.fnK f args out R) : FnE c.toBase f args out R := by
  unfold Cfg.fnK at k
  split at k
  · rename_i fn hf
    split at k
    · rename_i b hb
      obtain ⟨hc, k⟩ := cond_true' k
      simp only [Bool.and_eq_true, Bool.not_eq_true'] at hc
      refine ⟨⟨fn, b, hf, hb, hc.2⟩, fun m w us ht hh hargs => calls_of_wp hf hb ?_⟩
      have hsz : ∀ d ∈ b.dsts', d < (us.toArray ++ Array.replicate (fn.ntmps - us.toArray.size) undef).size := by
        intro d hd
        have := List.all_eq_true.1 hc.1 d hd
        have h1 : d < fn.ntmps := Nat.le_of_ble_eq_true this
        simp only [Array.size_append, Array.size_replicate, List.size_toArray]
        omega
      have S : Sat c m w { W := b.dsts', tmps := us.toArray ++ Array.replicate (fn.ntmps - us.toArray.size) undef, fe := fun _ => none, gh := fun _ _ => False, n0 := w.heap.size, keep := fun _ => False } m [] { env := fun i => (args[i]?).getD .bot, hp := [] }
          { tmps := us.toArray ++ Array.replicate (fn.ntmps - us.toArray.size) undef, defers := [] } w := by
        refine { hold := hh, tab := ht, ext := Mem.ext_refl _ m, below := Below.refl _ w, len := rfl, ents := fun i e he => by simp at he, apart := fun i j b hi => by simp at hi, env := fun i => ?_, defers := rfl, fix := ⟨rfl, fun _ _ => rfl, hsz, fun i e k hk => by cases hk⟩, gh := fun _ _ h => h.elim, base := Nat.le_refl _, keep := fun _ h => h.elim }
        show Rep c.P m ((args[i]?).getD .bot) (J [] []) ((us.toArray ++ Array.replicate (fn.ntmps - us.toArray.size) undef).getD i undef)
        cases hv : args[i]? with
        | none => trivial
        | some v =>
          obtain ⟨u, h1, h2⟩ := RepL_get hargs hv
          have hi := (List.getElem?_eq_some_iff.1 h1).1
          have : (us.toArray ++ Array.replicate (fn.ntmps - us.toArray.size) undef).getD i undef = u := by
            rw [Array.getD_eq_getD_getElem?, Array.getElem?_append_left (by simpa using hi)]
            simp [h1]
          show Rep c.P m v (J [] []) ((us.toArray ++ Array.replicate (fn.ntmps - us.toArray.size) undef).getD i undef)
          rw [this]
          exact Rep_mono (Mem.le_refl m) v (fun _ _ q => q.elim) h2
      have fin : ∀ {st2 : St} {m2 : Mem} {bk2 : List Cn} {a2 : Act} {w2 : World} {fx2 : Fx}, fx2.n0 = w.heap.size → c.retK fn out st2 R → Sat c m w fx2 m2 bk2 st2 a2 w2 → a2.defers = [] ∧ ∃ v, (results fn a2.tmps).run c.P w2 = .ok v w2 ∧ PostOf (fun m v => ∃ r, R r ∧ (Reps c.P out).V m r v) m w (.returned v) w2 := by
        intro st2 m2 bk2 a2 w2 fx2 hn k2 S2
        have he := S2.ext
        have hb := S2.below
        have hf := frzM_ext S2 (fun i => ∃ x, st2.hp[i]? = some x)
        rw [hn] at he hb hf
        obtain ⟨v, h1, h2⟩ := ret_sound S2 k2
        exact ⟨S2.defers, v, h1, v, _, rfl, Mem.ext_trans he hf, frzM_holds S2 _, hb, h2⟩
      refine wp_mono (vc_sound H b S k) fun e a2 w2 h => ?_
      cases e with
      | normal => obtain ⟨st2, m2, bk2, k2, S2⟩ := h; exact fin rfl k2 S2
      | ret => obtain ⟨st2, m2, bk2, k2, S2⟩ := h; exact fin rfl k2 S2
      | exit id => obtain ⟨st2, m2, bk2, k2, S2⟩ := h; exact k2.elim
      | goto l => exact h.elim
      | panic ch => exact h.elim
      | outgrown => exact h.elim
    · exact k.elim
  · exact k.elim
end Go.Proofs.YtjeoelajkncpcaaDoor.V

/- ARGUMENTS: what a row's reading of an argument says, as a value of a shape. No condition of its own. -/
namespace Go.Proofs.YtjeoelajkncpcaaDoor.V
open Go Go.RowKit
set_option linter.unusedVariables false
set_option linter.unusedSimpArgs false

/-- A type is laid out as a shape is; fields are laid out as a chain is. -/
def lay (P : Program) : Shape → (TypeId → Bool) × (List Field → Nat → Bool)
  | .bool => (fun t => match P.underlying t with
    | some .bool => true
    | _ => false, fun fs o => match fs with
    | [f] => Nat.beq f.offset o && Nat.beq (P.cellsOf f.type) 1 && (match P.underlying f.type with
      | some .bool => true
      | _ => false)
    | _ => false)
  | .int k => (fun t => match P.underlying t with
    | some (.int k') => k' == k
    | _ => false, fun fs o => match fs with
    | [f] => Nat.beq f.offset o && Nat.beq (P.cellsOf f.type) 1 && (match P.underlying f.type with
      | some (.int k') => k' == k
      | _ => false)
    | _ => false)
  | .slice s => (fun t => match P.underlying t with
    | some (.slice e) => Nat.beq (P.cellsOf e) s.size && Nat.ble 1 s.size && (lay P s).1 e
    | _ => false, fun fs o => match fs with
    | [f] => Nat.beq f.offset o && Nat.beq (P.cellsOf f.type) 1 && (match P.underlying f.type with
      | some (.slice e) => Nat.beq (P.cellsOf e) s.size && Nat.ble 1 s.size && (lay P s).1 e
      | _ => false)
    | _ => false)
  | .st s => (fun t => match P.underlying t with
    | some (.struct fs) => Nat.beq (P.cellsOf t) s.size && (lay P s).2 fs.toList 0
    | _ => false, fun fs o => match fs with
    | [f] => Nat.beq f.offset o && Nat.beq (P.cellsOf f.type) s.size && (match P.underlying f.type with
      | some (.struct fs) => Nat.beq (P.cellsOf f.type) s.size && (lay P s).2 fs.toList 0
      | _ => false)
    | _ => false)
  | .pair a b => (fun _ => false, fun fs o => match fs with
    | f :: r => Nat.beq f.offset o && Nat.beq (P.cellsOf f.type) a.size && (lay P a).1 f.type && (lay P b).2 r (o + a.size)
    | _ => false)
  | .unit => (fun _ => false, fun _ _ => false)
  | .tup _ => (fun _ => false, fun _ _ => false)
  | .func _ _ => (fun _ => false, fun _ _ => false)
  | .iface _ => (fun _ => false, fun _ _ => false)
  | .one _ _ => (fun _ => false, fun _ _ => false)
  | .alt _ _ _ => (fun _ => false, fun _ _ => false)

/-- Numbers are what their kinds hold, lists no longer than memory. -/
def okR : (s : Shape) → s.Val → Prop
  | .bool, _ => True
  | .int k, n => (Lit.int k n).wf = true
  | .slice s, xs => xs.length ≤ maxLen ∧ ∀ x ∈ xs, okR s x
  | .st f, x => okR f x
  | .unit, _ => True
  | .pair a b, x => okR a x.1 ∧ okR b x.2
  | .tup f, x => okR f x
  | .func _ _, _ => True
  | .iface _, _ => True
  | .one _ s, x => okR s x
  | .alt _ _ _, _ => True

/-- All memory, as memory that nobody writes. -/
def allM (w : World) : Mem := fun b o => w.cell? ⟨b, o, none⟩

theorem allM_holds (w : World) : Holds w (allM w) := fun _ _ _ h => h

theorem add_spot {w : World} {ad : Addr} {j : Nat} {v : Value} (h : w.cell? (ad.add j) = some v) (h0 : ∃ u, w.cell? ad = some u) : w.cell? ⟨ad.block, ad.off + j, none⟩ = some v := by
  obtain ⟨b, o, sp⟩ := ad
  have : sp = none := by
    obtain ⟨u, hu⟩ := h0
    unfold World.cell? at hu
    split at hu
    · cases sp with
      | none => rfl
      | some x => simp at hu
    · cases hu
  subst this
  rw [Addr.add_mid] at h
  exact h

section
variable {H : Type} {enc : TypeId × Value → H} {P : Program} {w : World} {base : Nat} {spare : Nat → Bool} {held : Bool}

theorem choose_list {α : Type} {Q : Nat → α → Prop} : ∀ (n : Nat), (∀ i, i < n → ∃ x, Q i x) → ∃ xs : List α, xs.length = n ∧ ∀ (i : Nat) x, xs[i]? = some x → Q i x
  | 0, _ => ⟨[], rfl, fun i x h => by simp at h⟩
  | n + 1, h => by
    obtain ⟨xs, h1, h2⟩ := choose_list n fun i hi => h i (by omega)
    obtain ⟨x, hx⟩ := h n (by omega)
    refine ⟨xs ++ [x], by simp [h1], fun i y hy => ?_⟩
    by_cases hi : i < n
    · rw [List.getElem?_append_left (by omega)] at hy; exact h2 i y hy
    · have : i = n := by
        have := (List.getElem?_eq_some_iff.1 hy).1
        simp [h1] at this; omega
      subst this
      rw [List.getElem?_append_right (by omega), h1, Nat.sub_self] at hy
      simp at hy; subst hy; exact hx

theorem open_rep (s : Shape) : (∀ (t : TypeId) (fuel : Nat) (cs : List Value) (x : DataW H × List MemPlace), (lay P s).1 t = true → DataW.trod enc P w base spare held fuel t cs = some x → ∃ y : s.Val, (Reps P s).C (allM w) y cs ∧ okR s y) ∧
    (∀ (fs : List Field) (o fuel : Nat) (cs : List Value), (lay P s).2 fs o = true → o + s.size ≤ cs.length → (∀ f ∈ fs, ∃ x, DataW.trod enc P w base spare held fuel f.type ((cs.drop f.offset).take (P.cellsOf f.type)) = some x) → ∃ y : s.Val, (Reps P s).C (allM w) y ((cs.drop o).take s.size) ∧ okR s y) := by
  have one : ∀ (s : Shape), (∀ (t : TypeId) (fuel : Nat) (cs : List Value) (x : DataW H × List MemPlace), (lay P s).1 t = true → DataW.trod enc P w base spare held fuel t cs = some x → ∃ y : s.Val, (Reps P s).C (allM w) y cs ∧ okR s y) →
      ∀ (f : Field) (o fuel : Nat) (cs : List Value), Nat.beq f.offset o = true → Nat.beq (P.cellsOf f.type) s.size = true → (lay P s).1 f.type = true → (∃ x, DataW.trod enc P w base spare held fuel f.type ((cs.drop f.offset).take (P.cellsOf f.type)) = some x) → ∃ y : s.Val, (Reps P s).C (allM w) y ((cs.drop o).take s.size) ∧ okR s y := by
    intro s h f o fuel cs h1 h2 h3 ⟨x, hx⟩
    have := h _ _ _ _ h3 hx
    rw [beq_eq h1, beq_eq h2] at this
    exact this
  have single : ∀ (s : Shape), (∀ fs o, (lay P s).2 fs o = true → ∃ f, fs = [f] ∧ Nat.beq f.offset o = true ∧ Nat.beq (P.cellsOf f.type) s.size = true ∧ (lay P s).1 f.type = true) → (∀ (t : TypeId) (fuel : Nat) (cs : List Value) (x : DataW H × List MemPlace), (lay P s).1 t = true → DataW.trod enc P w base spare held fuel t cs = some x → ∃ y : s.Val, (Reps P s).C (allM w) y cs ∧ okR s y) →
      (∀ (t : TypeId) (fuel : Nat) (cs : List Value) (x : DataW H × List MemPlace), (lay P s).1 t = true → DataW.trod enc P w base spare held fuel t cs = some x → ∃ y : s.Val, (Reps P s).C (allM w) y cs ∧ okR s y) ∧
      (∀ (fs : List Field) (o fuel : Nat) (cs : List Value), (lay P s).2 fs o = true → o + s.size ≤ cs.length → (∀ f ∈ fs, ∃ x, DataW.trod enc P w base spare held fuel f.type ((cs.drop f.offset).take (P.cellsOf f.type)) = some x) → ∃ y : s.Val, (Reps P s).C (allM w) y ((cs.drop o).take s.size) ∧ okR s y) := by
    intro s hs h
    refine ⟨h, fun fs o fuel cs hl _ hf => ?_⟩
    obtain ⟨f, rfl, h1, h2, h3⟩ := hs fs o hl
    exact one s h f o fuel cs h1 h2 h3 (hf f (by simp))
  induction s with
  | bool =>
    refine single .bool (fun fs o h => ?_) fun t fuel cs x h hx => ?_
    · unfold lay at h
      dsimp only at h
      split at h
      · simp only [Bool.and_eq_true] at h; exact ⟨_, rfl, h.1.1, h.1.2, h.2⟩
      · cases h
    · unfold lay at h
      dsimp only at h
      split at h
      · rename_i hu
        obtain ⟨b, rfl, _⟩ := DataW.trod_bool hu hx
        exact ⟨b, ⟨_, rfl, rfl⟩, trivial⟩
      · cases h
  | int k =>
    refine single (.int k) (fun fs o h => ?_) fun t fuel cs x h hx => ?_
    · unfold lay at h
      dsimp only at h
      split at h
      · simp only [Bool.and_eq_true] at h; exact ⟨_, rfl, h.1.1, h.1.2, h.2⟩
      · cases h
    · unfold lay at h
      dsimp only at h
      split at h
      · rename_i k' hu
        have hk : k' = k := by simpa using h
        subst hk
        obtain ⟨n, rfl, _, hw⟩ := DataW.trod_int hu hx
        exact ⟨n, ⟨_, rfl, rfl⟩, hw⟩
      · cases h
  | slice s ih =>
    refine single (.slice s) (fun fs o h => ?_) fun t fuel cs x h hx => ?_
    · unfold lay at h
      dsimp only at h
      split at h
      · simp only [Bool.and_eq_true] at h; exact ⟨_, rfl, h.1.1, h.1.2, h.2⟩
      · cases h
    · unfold lay at h
      dsimp only at h
      split at h
      · rename_i e hu
        simp only [Bool.and_eq_true] at h
        obtain ⟨⟨hsz, hpos⟩, hl⟩ := h
        have hsz := beq_eq hsz
        have hpos := ble_le hpos
        rcases DataW.trod_slice hu hx with ⟨rfl, _⟩ | ⟨a, len, cap, elems, rest, n, _, rfl, _, hb, hlc, hm, hlen, hel, _, _⟩
        · exact ⟨[], ⟨_, rfl, none, 0, rfl, .inl rfl⟩, Nat.zero_le _, fun x hx => by cases hx⟩
        · have each : ∀ i, i < len → ∃ y : s.Val, (∃ us, (Reps P s).C (allM w) y us ∧ us.length = s.size ∧ ∀ j, j < s.size → w.cell? ((a.add (i * s.size)).add j) = us[j]?) ∧ okR s y := by
            intro i hi
            have h1 := hel i hi
            rw [List.getElem?_eq_getElem (by omega), Option.bind_eq_some_iff] at h1
            obtain ⟨us, h2, h3⟩ := h1
            obtain ⟨_, h4, h5⟩ := World.cells?_some h2
            obtain ⟨y, h6, h7⟩ := ih.1 _ _ _ _ hl h3
            rw [hsz] at h4 h5
            exact ⟨y, ⟨us, h6, h4, h5⟩, h7⟩
          obtain ⟨xs, hxl, hxs⟩ := choose_list len each
          refine ⟨xs, ⟨_, rfl, some a, cap, by rw [hxl], ?_⟩, by rw [hxl]; omega, fun x hx => ?_⟩
          · cases xs with
            | nil => exact .inl rfl
            | cons x0 xs0 =>
              right
              obtain ⟨⟨us, q1, q2, q3⟩, _⟩ := hxs 0 x0 rfl
              have h0 : ∃ u, w.cell? a = some u := by
                have := q3 0 (by omega)
                rw [Nat.zero_mul] at this
                rw [show (a.add 0).add 0 = a from rfl] at this
                rw [List.getElem?_eq_getElem (by omega)] at this
                exact ⟨_, this⟩
              have ha : a = ⟨a.block, a.off, none⟩ := by
                obtain ⟨b, o, sp⟩ := a
                obtain ⟨u, hu⟩ := h0
                unfold World.cell? at hu
                split at hu
                · cases sp with
                  | none => rfl
                  | some z => simp at hu
                · cases hu
              refine ⟨a.block, a.off, by rw [← ha], fun i x hx => ?_⟩
              obtain ⟨⟨us, q1, q2, q3⟩, _⟩ := hxs i x hx
              refine ⟨us, q1, fun j u hj => ?_⟩
              have hjl := (List.getElem?_eq_some_iff.1 hj).1
              have := q3 j (by omega)
              rw [hj, Addr.add_add] at this
              have := add_spot this h0
              unfold allM
              rw [Nat.add_assoc]
              exact this
          · obtain ⟨i, hi⟩ := List.getElem?_of_mem hx
            exact (hxs i x hi).2
      · cases h
  | st f ih =>
    refine single (.st f) (fun fs o h => ?_) fun t fuel cs x h hx => ?_
    · unfold lay at h
      dsimp only at h
      split at h
      · simp only [Bool.and_eq_true] at h; exact ⟨_, rfl, h.1.1, h.1.2, h.2⟩
      · cases h
    · unfold lay at h
      dsimp only at h
      split at h
      · rename_i fs hu
        simp only [Bool.and_eq_true] at h
        have hsz := beq_eq h.1
        obtain ⟨xs, n, _, _, hl, hxl, hf⟩ := DataW.trod_struct hu hx
        have := ih.2 fs.toList 0 n cs h.2 (by omega) fun g hg => by
          obtain ⟨i, hi⟩ := List.getElem?_of_mem hg
          have hi' : fs[i]? = some g := by simpa using hi
          have := hf i g hi'
          have hlt := (Array.getElem?_eq_some_iff.1 hi').1
          rw [List.getElem?_eq_getElem (by omega)] at this
          exact ⟨_, this⟩
        rw [List.drop_zero, List.take_of_length_le (by omega)] at this
        exact this
      · cases h
  | pair a b iha ihb =>
    refine ⟨fun t fuel cs x h _ => by simp [lay] at h, fun fs o fuel cs h hl hf => ?_⟩
    unfold lay at h
    dsimp only at h
    split at h
    · rename_i f r
      simp only [Bool.and_eq_true] at h
      obtain ⟨⟨⟨h1, h2⟩, h3⟩, h4⟩ := h
      have hs : o + (a.size + b.size) ≤ cs.length := hl
      obtain ⟨y, y1, y2⟩ := one a iha.1 f o fuel cs h1 h2 h3 (hf f (by simp))
      obtain ⟨z, z1, z2⟩ := ihb.2 r (o + a.size) fuel cs h4 (by omega) fun g hg => hf g (by simp [hg])
      refine ⟨(y, z), ⟨_, _, ?_, y1, z1⟩, y2, z2⟩
      show (cs.drop o).take (a.size + b.size) = _
      rw [List.take_add, List.drop_drop]
    · cases h
  | _ => exact ⟨fun t fuel cs x h _ => by simp [lay] at h, fun fs o fuel cs h _ _ => by simp [lay] at h⟩

/-- An argument, as one value. -/
theorem open_arg {s : Shape} {t : TypeId} {v : Value} {d : DataW H} {ps : List MemPlace} {r : Go.Reach} {b0 : Nat} (hl : (lay P s).1 t = true) (hok : Value.okWide P w r b0 t v) (h : DataW.Trod enc P w base spare held t v d ps) : ∃ y : s.Val, (Reps P s).V (allM w) y v ∧ okR s y := by
  obtain ⟨fuel, hf⟩ := h
  obtain ⟨y, h1, h2⟩ := (open_rep s).1 t fuel _ _ hl hf
  refine ⟨y, ?_, h2⟩
  have cell : ∀ {u}, v.cells.toList = [u] → (∀ cs, v ≠ .agg cs) → v = u := by
    intro u hu hna
    cases v <;> first | exact absurd rfl (hna _) | simpa [Value.cells] using hu
  have nagg : (∀ fs, P.underlying t ≠ some (.struct fs)) → (∀ n e, P.underlying t ≠ some (.array n e)) → ∀ cs, v ≠ .agg cs := by
    intro n1 n2 cs e
    subst e
    unfold Value.okWide at hok
    split at hok
    · rename_i q; exact n1 _ q
    · rename_i q; exact n2 _ _ q
    · unfold Cell.okWide Cell.ok at hok
      split at hok <;> simp_all
  cases s with
  | bool =>
    obtain ⟨u, e, hu⟩ := h1
    simp only [lay] at hl
    split at hl
    · rename_i q
      exact (cell e (nagg (by rw [q]; intro _ z; cases z) (by rw [q]; intro _ _ z; cases z))) ▸ hu
    · cases hl
  | int k =>
    obtain ⟨u, e, hu⟩ := h1
    simp only [lay] at hl
    split at hl
    · rename_i q
      exact (cell e (nagg (by rw [q]; intro _ z; cases z) (by rw [q]; intro _ _ z; cases z))) ▸ hu
    · cases hl
  | slice s =>
    obtain ⟨u, e, hu⟩ := h1
    simp only [lay] at hl
    split at hl
    · rename_i q
      exact (cell e (nagg (by rw [q]; intro _ z; cases z) (by rw [q]; intro _ _ z; cases z))) ▸ hu
    · cases hl
  | st f =>
    simp only [lay] at hl
    split at hl
    · rename_i q
      unfold Value.okWide at hok
      rw [q] at hok
      obtain ⟨cs, e, _⟩ := hok
      subst e
      exact ⟨cs.toList, by simp, h1⟩
    · cases hl
  | _ => simp [lay] at hl
end
end Go.Proofs.YtjeoelajkncpcaaDoor.V

/- Rows: a contract that always answers true, as a row's post. No condition of its own. -/
namespace Go.Proofs.YtjeoelajkncpcaaDoor.V
open Go Go.RowKit
set_option linter.unusedVariables false
set_option linter.unusedSimpArgs false

/-- A chain of arguments, out of each of them. -/
theorem args_pair {P : Program} {a b : Shape} {m : Mem} {x : a.Val} {y : b.Val} {u : Value} {r : List Value} (h : (Reps P a).V m x u) (k : (Reps P b).A m y r) : (Reps P (.pair a b)).A m (x, y) (u :: r) := ⟨u, r, rfl, h, k⟩

theorem args_last {P : Program} {s : Shape} {t : TypeId} (hl : (lay P s).1 t = true) {m : Mem} {x : s.Val} {u : Value} (h : (Reps P s).V m x u) : (Reps P s).A m x [u] := by
  cases s with
  | bool => exact ⟨u, rfl, h⟩
  | int k => exact ⟨u, rfl, h⟩
  | slice s => exact ⟨u, rfl, h⟩
  | st f => obtain ⟨cs, e, h⟩ := h; exact ⟨cs, by rw [e], h⟩
  | _ => simp [lay] at hl

theorem tab_ok {P : Program} {W : World} {l : List Int} (h : Lib.TabIs P W "lustrum/civil.lengths" .i64 l) (hg : P.globalNamed "lustrum/civil.lengths" = some 0) {tab : Nat → Option (List Int)} (ht : ∀ g l', tab g = some l' → g = 0 ∧ l' = l) : TabOK tab (allM W) := by
  intro g l' hgl i n hi
  obtain ⟨rfl, rfl⟩ := ht g l' hgl
  have hlt := (List.getElem?_eq_some_iff.1 hi).1
  have := h.cell hg i hlt
  unfold allM
  rw [this]
  simp [List.getD_eq_getElem?_getD, hi]

/-- A law's contract, called. -/
theorem row_call {c : Base} {f : FuncId} {ins : Shape} {x : ins.Val} {W : World} {us : List Value} (h : FnE c f (ins.compsE x) .bool (· = true)) (ht : TabOK c.tab (allM W)) (ha : (Reps c.P ins).A (allM W) x us) : Calls c.P f us.toArray W fun e W' => e = .returned (.bool true) ∧ Below W.heap.size W W' :=
  (h.2 (allM W) W us ht (allM_holds W) (RepL_comps ins pureJ ha)).mono fun e W' ⟨v, m', h1, h2, h3, h4, r, h5, h6⟩ => by
    subst h5
    have : v = .bool true := h6
    subst this
    exact ⟨h1, h4⟩
end Go.Proofs.YtjeoelajkncpcaaDoor.V

/- Functions that write a block of their caller's: contracts, and their calls. No condition of its own. -/
namespace Go.Proofs.YtjeoelajkncpcaaDoor.V
open Go Go.RowKit
set_option linter.unusedVariables false
set_option linter.unusedSimpArgs false

/-- A list with something at a place more, and less. -/
def insAt {α : Type} : Nat → α → List α → List α
  | 0, a, l => a :: l
  | n + 1, a, x :: l => x :: insAt n a l
  | _ + 1, a, [] => [a]

def dropAt {α : Type} : Nat → List α → List α
  | _, [] => []
  | 0, _ :: l => l
  | n + 1, x :: l => x :: dropAt n l

def scalar : EV → Bool
  | .p .bool _ => true
  | .p (.int _) _ => true
  | _ => false

/-- A block of the call's own, of numbers and bools alone, at version 0. -/
def Ent.plain : Ent → Bool
  | .box md cs => md.isOwn && cs.all scalar
  | .row md v _ s _ => md.isOwn && Nat.beq v 0 && s.flat

/-- A block with other contents. -/
def Ent.fill : (e : Ent) → (Slot.n e).sh.Val → Ent
  | .box o cs, x => .box o (mkC cs x)
  | .row o v el s _, xs => .row o v el s xs

/-- THE CONTRACT of a function that may write one block of its caller's, and answers with numbers and bools. -/
def FnM (c : Base) (f : FuncId) (args : List EV) (e : Ent) (out : Shape) (R : out.Val → (Slot.n e).sh.Val → Prop) : Prop :=
  Callable c.P f ∧ e.plain = true ∧ out.flat = true ∧ ∀ m w us k, TabOK c.tab m → Holds w m → SatEnt c.P m 0 w pureJ e k → RepL c.P m args (J [e] [k]) us →
    Calls c.P f us.toArray w fun x w' => ∃ v r y, x = .returned v ∧ R r y ∧ (Reps c.P out).V m r v ∧ SatEnt c.P m 0 w' pureJ (e.fill y) k ∧ Below 0 w w' ∧ ∀ b, b < w.heap.size → k.blk ≠ some b → w'.heap[b]? = w.heap[b]?

/-- The condition of such a contract. -/
def Cfg.fnM (c : Cfg) (f : FuncId) (args : List EV) (e : Ent) (out : Shape) (R : out.Val → (Slot.n e).sh.Val → Prop) : Prop :=
  match c.P.funcs[f]? with
  | some fn => match fn.body with
    | some b => cond (b.dsts'.all (fun d => Nat.blt d fn.ntmps) && !(fn.name == "runtime.NumGoroutine") && out.flat && e.plain) (c.vc b b.dsts' { env := fun i => (args[i]?).getD .bot, hp := [e] } fun x st => match x with
      | .normal => c.retK fn out st fun r => match st.hp with
        | e' :: _ => Slot.mat (.n e) (.n e') (R r)
        | [] => False
      | .ret => c.retK fn out st fun r => match st.hp with
        | e' :: _ => Slot.mat (.n e) (.n e') (R r)
        | [] => False
      | .exit _ => False) False
    | none => False
  | none => False

/-- A call of such a function. -/
def callMP (c : Base) (f : FuncId) (n : Nat) (e : Ent) (w : EV) (ins out : Shape) (x : ins.Val) (K : out.Val → (Slot.n e).sh.Val → Prop) : Prop :=
  ∃ R, FnM c f (insAt n w (ins.compsE x)) e out R ∧ ∀ r y, R r y → K r y

/-- Nothing that these blocks name is outside of them. -/
def closedIds (hp : List Ent) (l : List Nat) : Bool := l.all fun i => match hp[i]? with
  | some e => e.ids.all (l.contains ·)
  | none => false

def Cfg.callM (c : Cfg) (f : FuncId) (n : Nat) (args : List EV) (hp : List Ent) (K : EV → List Ent → Prop) : Prop :=
  match c.P.funcs[f]? with
  | some fn => match allS ((dropAt n fn.params.toList).map (c.shp deep)), allS (fn.resultTypes.toList.map (c.shp deep)) with
    | some ins, some outs => cond (Nat.beq fn.nfree 0 && closedIds hp (closeIds hp (EV.idsL (dropAt n args)))) (match args[n]? with
      | some (.row id ver) => cond ((closeIds hp (EV.idsL (dropAt n args))).contains id) False (match hp[id]? with
        | some (.row .own v e s xs) => cond (Nat.beq v ver) (decS c { env := fun _ => .bot, hp := hp } (seqS ins) (dropAt n args) fun x =>
            callMP c.toBase f n (.row .own 0 e s xs) (.row 0 0) (seqS ins) (outS outs) x fun r ys => chk (List.length ys = xs.length) (K ((outS outs).enc r) (hp.set id (.row .own v e s ys)))) False
        | _ => False)
      | some (.box id 0) => cond ((closeIds hp (EV.idsL (dropAt n args))).contains id) False (match hp[id]? with
        | some (.box .own cs) => decS c { env := fun _ => .bot, hp := hp } (seqS ins) (dropAt n args) fun x =>
            callMP c.toBase f n (.box .own cs) (.box 0 0) (seqS ins) (outS outs) x fun r y => K ((outS outs).enc r) (hp.set id (.box .own (mkC cs y)))
        | _ => False)
      | _ => False) False
    | _, _ => False
  | none => False

section
theorem dropAt_get {α : Type} : ∀ (n : Nat) (l : List α) (a : α), l[n]? = some a → insAt n a (dropAt n l) = l
  | 0, x :: l, a, h => by simp at h; subst h; rfl
  | n + 1, x :: l, a, h => by simp at h; simp only [dropAt, insAt]; rw [dropAt_get n l a h]
  | _, [], a, h => by simp at h

theorem RepL_dropAt {P : Program} {m : Mem} {J : EV → Value → Prop} : ∀ (n : Nat) {cs : List EV} {us : List Value}, RepL P m cs J us → RepL P m (dropAt n cs) J (dropAt n us)
  | n, [], us, h => by rw [RepL_nil.1 h]; cases n <;> exact RepL_nil.2 rfl
  | 0, c :: cs, us, h => by obtain ⟨u, us', rfl, _, h2⟩ := RepL_cons.1 h; exact h2
  | n + 1, c :: cs, us, h => by obtain ⟨u, us', rfl, h1, h2⟩ := RepL_cons.1 h; exact RepL_cons.2 ⟨_, _, rfl, h1, RepL_dropAt n h2⟩

theorem RepL_insAt {P : Program} {m : Mem} {J : EV → Value → Prop} {v : EV} {u : Value} (hv : Rep P m v J u) : ∀ (n : Nat) {cs : List EV} {us : List Value}, RepL P m cs J us → RepL P m (insAt n v cs) J (insAt n u us)
  | 0, cs, us, h => RepL_cons.2 ⟨_, _, rfl, hv, h⟩
  | n + 1, [], us, h => by rw [RepL_nil.1 h]; exact RepL_cons.2 ⟨_, _, rfl, hv, RepL_nil.2 rfl⟩
  | n + 1, c :: cs, us, h => by obtain ⟨u', us', rfl, h1, h2⟩ := RepL_cons.1 h; exact RepL_cons.2 ⟨_, _, rfl, h1, RepL_insAt hv n h2⟩

theorem idsL_dropAt : ∀ (n : Nat) (l : List EV) (i : Nat), i ∈ EV.idsL (dropAt n l) → i ∈ EV.idsL l
  | n, [], i, h => by cases n <;> exact h
  | 0, c :: l, i, h => by simp only [EV.idsL, List.mem_append]; exact .inr h
  | n + 1, c :: l, i, h => by
    simp only [dropAt, EV.idsL, List.mem_append] at h ⊢
    exact h.imp id (idsL_dropAt n l i)

/-- What numbers and bools represent asks nothing of memory. -/
theorem RepL_scalar {P : Program} {m m' : Mem} {J J' : EV → Value → Prop} : ∀ {cs : List EV} {us : List Value}, cs.all scalar = true → RepL P m cs J us → RepL P m' cs J' us
  | [], us, _, h => RepL_nil.2 (RepL_nil.1 h)
  | c :: cs, us, hs, h => by
    obtain ⟨u, us', rfl, h1, h2⟩ := RepL_cons.1 h
    simp only [List.all_cons, Bool.and_eq_true] at hs
    refine RepL_cons.2 ⟨_, _, rfl, ?_, RepL_scalar hs.2 h2⟩
    have hc := hs.1
    unfold scalar at hc
    split at hc
    · exact h1
    · exact h1
    · cases hc

theorem RowRep_flat {P : Program} {m m' : Mem} {s : Shape} (hf : s.flat = true) : ∀ {xs : List s.Val} {cs : List Value}, RowRep P m s xs cs → RowRep P m' s xs cs
  | [], _, k => k
  | _ :: _, _, ⟨c, r, e, h1, h2⟩ => ⟨c, r, e, (flat_V s hf).1 _ _ h1, RowRep_flat hf h2⟩

theorem mkC_scalar : ∀ (cs : List EV) (x : (shC cs).Val), cs.all scalar = true → (mkC cs x).all scalar = true
  | [], _, _ => rfl
  | [v], x, h => by
    simp only [List.all_cons, List.all_nil, Bool.and_true] at h
    simp only [mkC, List.all_cons, List.all_nil, Bool.and_true]
    unfold scalar at h
    split at h
    · rfl
    · rfl
    · cases h
  | v :: w :: r, x, h => by
    have h' : scalar v = true ∧ (w :: r).all scalar = true := by simpa using h
    have : (mkC (v :: w :: r) x) = v.mk' x.1 :: mkC (w :: r) x.2 := rfl
    rw [this, List.all_cons, mkC_scalar (w :: r) x.2 h'.2, Bool.and_true]
    have h1 := h'.1
    unfold scalar at h1
    split at h1
    · rfl
    · rfl
    · cases h1

theorem WkL_scalar : ∀ {cs ds : List EV}, cs.all scalar = true → WkL cs ds → cs = ds
  | [], [], _, _ => rfl
  | [], _ :: _, _, h => h.elim
  | _ :: _, [], _, h => h.elim
  | c :: cs, d :: ds, hs, ⟨h1, h2⟩ => by
    simp only [List.all_cons, Bool.and_eq_true] at hs
    rcases h1 with h1 | h1
    · subst h1; exact absurd hs.1 (by simp [scalar])
    · rw [h1, WkL_scalar hs.2 h2]

theorem isOwn_eq {md : Md} (h : md.isOwn = true) : md = .own := by cases md <;> first | rfl | cases h

/-- A block that is plain lies in memory whatever else is known. -/
theorem SatEnt.plain {P : Program} {m m' : Mem} {n0 n0' : Nat} {w : World} {JJ JJ' : EV → Value → Prop} {e : Ent} {k : Cn} (hp : e.plain = true) (hn : ∀ b, k.blk = some b → n0' ≤ b) (hm : ∀ b, k.blk = some b → ∀ o, m' b o = none) (h : SatEnt P m n0 w JJ e k) : SatEnt P m' n0' w JJ' e k := by
  cases e with
  | box md cs =>
    cases k with
    | row v => exact h.elim
    | box b =>
      simp only [Ent.plain, Bool.and_eq_true] at hp
      have := isOwn_eq hp.1
      subst this
      obtain ⟨us, T, h1, h2, h3, h4, h5⟩ := h
      exact ⟨us, T, h1, RepL_scalar hp.2 h2, hn b rfl, (fun q => by cases q), fun _ => hm b rfl⟩
  | row md v el s xs =>
    cases k with
    | box b => exact h.elim
    | row cv =>
      simp only [Ent.plain, Bool.and_eq_true] at hp
      have := isOwn_eq hp.1.1
      subst this
      obtain ⟨cs, h1, h2, h3, h4⟩ := h
      refine ⟨cs, RowRep_flat hp.2 h1, ⟨h2.1, ?_⟩, (fun q => by cases q), fun _ g hg => hm g hg⟩
      rcases h2.2 with q | ⟨g, cap, cur, e1, e2, e3⟩
      · exact .inl q
      · exact .inr ⟨g, cap, cur, e1, hn g (by rw [e1]; rfl), e3⟩

theorem SatEnt.unknown {P : Program} {m : Mem} {n0 : Nat} {w : World} {JJ : EV → Value → Prop} {e : Ent} {k : Cn} (hp : e.md ≠ .froz) (h : SatEnt P m n0 w JJ e k) : ∀ b, k.blk = some b → ∀ o, m b o = none := by
  cases e with
  | box md cs =>
    cases k with
    | row v => exact h.elim
    | box b' => obtain ⟨us, T, _, _, _, _, h5⟩ := h; intro b hb; cases hb; exact h5 hp
  | row md v el s xs =>
    cases k with
    | box b => exact h.elim
    | row cv => obtain ⟨cs, _, _, _, h4⟩ := h; exact h4 hp

theorem Ent.plain_own {e : Ent} (h : e.plain = true) : e.md = .own := by
  cases e with
  | box md cs => simp only [Ent.plain, Bool.and_eq_true] at h; exact isOwn_eq h.1
  | row md v el s xs => simp only [Ent.plain, Bool.and_eq_true] at h; exact isOwn_eq h.1.1

theorem Ent.plain_fill {e : Ent} (h : e.plain = true) (y : (Slot.n e).sh.Val) : (e.fill y).plain = true := by
  cases e with
  | box md cs =>
    simp only [Ent.plain, Bool.and_eq_true, Ent.fill] at h ⊢
    exact ⟨h.1, mkC_scalar cs y h.2⟩
  | row md v el s xs => exact h
end

/-- THE CONTRACT, out of the condition. -/
theorem fnM_sound {c : Cfg} (H : HanOK c) {f : FuncId} {args : List EV} {e : Ent} {out : Shape} {R : out.Val → (Slot.n e).sh.Val → Prop} (k : c.fnM f args e out R) : FnM c.toBase f args e out R := by
  unfold Cfg.fnM at k
  split at k
  · rename_i fn hf
    split at k
    · rename_i b hb
      obtain ⟨hc, k⟩ := cond_true' k
      simp only [Bool.and_eq_true, Bool.not_eq_true'] at hc
      obtain ⟨⟨⟨hc1, hc2⟩, hfl⟩, hpl⟩ := hc
      refine ⟨⟨fn, b, hf, hb, hc2⟩, hpl, hfl, fun m w us kk ht hh hent hargs => calls_of_wp hf hb ?_⟩
      have hsz : ∀ d ∈ b.dsts', d < (us.toArray ++ Array.replicate (fn.ntmps - us.toArray.size) undef).size := by
        intro d hd
        have := List.all_eq_true.1 hc1 d hd
        have h1 : d < fn.ntmps := Nat.le_of_ble_eq_true this
        simp only [Array.size_append, Array.size_replicate, List.size_toArray]
        omega
      have hown := Ent.plain_own hpl
      have hunk := hent.unknown (by rw [hown]; intro q; cases q)
      have S : Sat c m w { W := b.dsts', tmps := us.toArray ++ Array.replicate (fn.ntmps - us.toArray.size) undef, fe := fun _ => none, gh := fun e0 u => J [e] [kk] e0 u, n0 := 0, keep := fun b => b < w.heap.size ∧ kk.blk ≠ some b } m [kk] { env := fun i => (args[i]?).getD .bot, hp := [e] }
          { tmps := us.toArray ++ Array.replicate (fn.ntmps - us.toArray.size) undef, defers := [] } w := by
        refine { hold := hh, tab := ht, ext := Mem.ext_refl _ m, below := Below.refl _ w, len := rfl, ents := fun i e' he => ?_, apart := fun i j b hi hj => ?_, env := fun i => ?_, defers := rfl, fix := ⟨rfl, fun _ _ => rfl, hsz, fun i e k hk => by cases hk⟩, gh := fun _ _ h => h, base := Nat.zero_le _, keep := fun b hb => ⟨hb.1, rfl, fun i hi => ?_⟩ }
        · cases i with
          | zero => simp at he; subst he; exact ⟨kk, rfl, SatEnt.plain hpl (fun _ _ => Nat.zero_le _) hunk hent⟩
          | succ i => simp at he
        · cases i with
          | zero => cases j with
            | zero => rfl
            | succ j => simp at hj
          | succ i => simp at hi
        · show Rep c.P m ((args[i]?).getD .bot) (J [e] [kk]) ((us.toArray ++ Array.replicate (fn.ntmps - us.toArray.size) undef).getD i undef)
          cases hv : args[i]? with
          | none => trivial
          | some v =>
            obtain ⟨u, h1, h2⟩ := RepL_get hargs hv
            have hi := (List.getElem?_eq_some_iff.1 h1).1
            have : (us.toArray ++ Array.replicate (fn.ntmps - us.toArray.size) undef).getD i undef = u := by
              rw [Array.getD_eq_getD_getElem?, Array.getElem?_append_left (by simpa using hi)]
              simp [h1]
            show Rep c.P m v (J [e] [kk]) ((us.toArray ++ Array.replicate (fn.ntmps - us.toArray.size) undef).getD i undef)
            rw [this]
            exact h2
        · cases i with
          | zero => exact hb.2 (by simpa using hi)
          | succ i => simp at hi
      have fin : ∀ {st2 : St} {m2 : Mem} {bk2 : List Cn} {a2 : Act} {w2 : World}, c.retK fn out st2 (fun r => match st2.hp with
            | e' :: _ => Slot.mat (.n e) (.n e') (R r)
            | [] => False) → Sat c m w { W := b.dsts', tmps := us.toArray ++ Array.replicate (fn.ntmps - us.toArray.size) undef, fe := fun _ => none, gh := fun e0 u => J [e] [kk] e0 u, n0 := 0, keep := fun b => b < w.heap.size ∧ kk.blk ≠ some b } m2 bk2 st2 a2 w2 →
          a2.defers = [] ∧ ∃ v, (results fn a2.tmps).run c.P w2 = .ok v w2 ∧ ∃ v' r y, Ending.returned v = .returned v' ∧ R r y ∧ (Reps c.P out).V m r v' ∧ SatEnt c.P m 0 w2 pureJ (e.fill y) kk ∧ Below 0 w w2 ∧ ∀ b, b < w.heap.size → kk.blk ≠ some b → w2.heap[b]? = w.heap[b]? := by
        intro st2 m2 bk2 a2 w2 k2 S2
        obtain ⟨v, h1, r, h2, h3⟩ := ret_sound S2 k2
        refine ⟨S2.defers, v, h1, v, r, ?_⟩
        split at h2
        · rename_i e' tl hhp
          obtain ⟨y, hy, hs⟩ := Slot.mat_spec (.n e) (.n e') h2
          refine ⟨y, rfl, hy, (flat_V out hfl).2.2 _ _ h3, ?_, S2.below, fun b hb hne => (S2.keep b ⟨hb, hne⟩).2.1⟩
          have h0 : st2.hp[0]? = some e' := by rw [hhp]; rfl
          obtain ⟨k', hk', hse⟩ := S2.ents 0 e' h0
          have heq : e' = e.fill y ∧ k' = kk := by
            cases e with
            | box md cs =>
              cases kk with
              | row v => exact hent.elim
              | box b' =>
                obtain ⟨ds, e1, e2⟩ := hs
                cases e1
                simp only [Ent.plain, Bool.and_eq_true] at hpl
                have := WkL_scalar (mkC_scalar cs y hpl.2) e2
                subst this
                refine ⟨by rw [isOwn_eq hpl.1]; rfl, ?_⟩
                obtain ⟨md2, cs2, b2, q1, q2, q3⟩ := S2.gh (.box 0 0) (.pointer (some ⟨b', 0, none⟩)) ⟨md, cs, b', rfl, rfl, rfl⟩
                rw [hk'] at q2
                cases q2
                cases q3
                rfl
            | row md v el s xs =>
              cases kk with
              | box b => exact hent.elim
              | row cv =>
                have e1 : Slot.n e' = .n (.row .own v el s y) := hs
                cases e1
                simp only [Ent.plain, Bool.and_eq_true] at hpl
                have hv0 := beq_eq hpl.1.2
                refine ⟨by rw [isOwn_eq hpl.1.1]; rfl, ?_⟩
                obtain ⟨md2, v2, el2, s2, xs2, cv2, q1, q2, q3, q4⟩ := S2.gh (.row 0 0) cv ⟨md, v, el, s, xs, cv, rfl, rfl, Nat.zero_le _, fun _ => rfl⟩
                rw [h0] at q1
                cases q1
                rw [hk'] at q2
                cases q2
                rw [q4 hv0.symm]
          rw [heq.1, heq.2] at hse
          exact SatEnt.plain (Ent.plain_fill hpl y) (fun _ _ => Nat.zero_le _) hunk hse
        · exact h2.elim
      refine wp_mono (vc_sound H b S k) fun e a2 w2 h => ?_
      cases e with
      | normal => obtain ⟨st2, m2, bk2, k2, S2⟩ := h; exact fin k2 S2
      | ret => obtain ⟨st2, m2, bk2, k2, S2⟩ := h; exact fin k2 S2
      | exit id => obtain ⟨st2, m2, bk2, k2, S2⟩ := h; exact k2.elim
      | goto l => exact h.elim
      | panic ch => exact h.elim
      | outgrown => exact h.elim
    · exact k.elim
  · exact k.elim

theorem FnM.mono {c : Base} {f : FuncId} {args : List EV} {e : Ent} {out : Shape} {R R' : out.Val → (Slot.n e).sh.Val → Prop} (h : FnM c f args e out R) (k : ∀ r y, R r y → R' r y) : FnM c f args e out R' :=
  ⟨h.1, h.2.1, h.2.2.1, fun m w us kk h1 h2 h3 h4 => (h.2.2.2 m w us kk h1 h2 h3 h4).mono fun x w' ⟨v, r, y, q1, q2, q3⟩ => ⟨v, r, y, q1, k r y q2, q3⟩⟩

section
variable {c : Cfg} {m0 : Mem} {w0 : World} {fx : Fx} {m : Mem} {bk : List Cn} {st : St} {a : Act} {w : World}

/-- A call that writes one block of the caller's. -/
theorem callMP_sound (S : Sat c m0 w0 fx m bk st a w) {f : FuncId} {n id : Nat} {args : List EV} {us : List Value} {ins out : Shape} {e eC : Ent} {wv wc : EV} {k : Cn} {K : out.Val → (Slot.n e).sh.Val → Prop} {K' : EV → List Ent → Prop} {up : (Slot.n e).sh.Val → Ent} {ok : (Slot.n e).sh.Val → Prop}
    (hargs : RepL c.P m args (J st.hp bk) us) (hn : args[n]? = some wc) (he : st.hp[id]? = some eC) (hk : bk[id]? = some k) (hown : eC.md = .own)
    (hcl : closedIds st.hp (closeIds st.hp (EV.idsL (dropAt n args))) = true) (hid : (closeIds st.hp (EV.idsL (dropAt n args))).contains id = false)
    (hW : ∀ u, Rep c.P m wc (J st.hp bk) u → Rep c.P (frzM m w (blks bk (· ∈ closeIds st.hp (EV.idsL (dropAt n args))))) wv (J [e] [k]) u)
    (hin : ∀ m', e.plain = true → SatEnt c.P m fx.n0 w (J st.hp bk) eC k → (∀ b, k.blk = some b → ∀ o, m' b o = none) → SatEnt c.P m' 0 w pureJ e k)
    (hout : ∀ w' y, e.plain = true → (∀ b, k.blk = some b → fx.n0 ≤ b) → (∀ b, k.blk = some b → ∀ o, m b o = none) → SatEnt c.P (frzM m w (blks bk (· ∈ closeIds st.hp (EV.idsL (dropAt n args))))) 0 w' pureJ (e.fill y) k → SatEnt c.P m fx.n0 w' (J (st.hp.set id (up y)) (bk.set id k)) (up y) k)
    (hJ : ∀ y ev u, ok y → J st.hp bk ev u → J (st.hp.set id (up y)) (bk.set id k) ev u)
    (hK : ∀ r y, K r y → ok y ∧ K' (out.enc r) (st.hp.set id (up y)))
    (kk : decS c { env := fun _ => .bot, hp := st.hp } ins (dropAt n args) fun x => callMP c.toBase f n e wv ins out x K) :
    Callable c.P f ∧ Calls c.P f us.toArray w (fun e w' => ∃ u, e = .returned u ∧ Res c m0 w0 fx st a K' u w') := by
  obtain ⟨k0, hk0, hent⟩ := S.ents id eC he
  rw [hk] at hk0; cases hk0
  have S' : Sat c m0 w0 fx m bk { env := fun _ => .bot, hp := st.hp } a w := { S with env := fun _ => trivial }
  have hF := frz_ok S' (· ∈ closeIds st.hp (EV.idsL (dropAt n args))) fun i hi => by
    have := List.all_eq_true.1 hcl i hi
    split at this
    · rename_i x hx
      exact ⟨x, hx, fun j hj => by simpa using List.all_eq_true.1 this j hj⟩
    · cases this
  have hle := frzM_le S (blks bk (· ∈ closeIds st.hp (EV.idsL (dropAt n args))))
  have hd := RepL_dropAt n hargs
  obtain ⟨x, ⟨R, hM, hR⟩, hA⟩ := decS_sound hF hle (S.tab.mono hle) ins _ _ _ hd (fun i hi => closeIds_mem hi) kk
  refine ⟨hM.1, ?_⟩
  have hunk := hent.unknown (by rw [hown]; intro q; cases q)
  have hid' : id ∉ closeIds st.hp (EV.idsL (dropAt n args)) := fun q => by
    rw [List.contains_iff_mem.2 q] at hid; cases hid
  have hunk' : ∀ b, k.blk = some b → ∀ o, frzM m w (blks bk (· ∈ closeIds st.hp (EV.idsL (dropAt n args)))) b o = none := by
    intro b hb o
    unfold frzM
    rw [if_neg]
    · exact hunk b hb o
    · rintro ⟨j, hj, hjb⟩
      exact hid' (S.apart j id b hjb (by rw [hk]; exact hb) ▸ hj)
  obtain ⟨u, hu, hru⟩ := RepL_get hargs hn
  have hus : insAt n u (dropAt n us) = us := dropAt_get n us u hu
  have hA' := RepL_insAt (hW u hru) n (RepL_comps _ (J [e] [k]) hA)
  rw [hus] at hA'
  refine (hM.2.2.2 _ w us k (S.tab.mono hle) (frzM_holds S _) (hin _ hM.2.1 hent hunk') hA').mono fun ex w' ⟨v, r, y, e1, e2, e3, e4, e5, e6⟩ => ?_
  obtain ⟨hok, hKK⟩ := hK r y (hR r y e2)
  refine ⟨v, e1, out.enc r, st.hp.set id (up y), m, bk.set id k, hKK, ?_, Rep_enc out _ ((flat_V out hM.2.2.1).2.2 _ _ e3)⟩
  have hlt := fun b (hb : k.blk = some b) => hent.lt hb
  refine S.update he hown hk ?_ e5.size (fun b hb hne => e6 b hb hne) (fun b hb => .inl hb) (fun ev u h => hJ y ev u hok h) (hout w' y hM.2.1 (fun b hb => (hlt b hb).1) hunk e4)
  refine S.below.trans ⟨e5.os, e5.tape, e5.output, e5.size, fun b hb => ?_⟩
  refine e6 b (Nat.lt_of_lt_of_le hb S.n0le) fun q => ?_
  have := (hlt b q).1
  omega

theorem callM_sound (S : Sat c m0 w0 fx m bk st a w) {f : FuncId} {n : Nat} {args : List EV} {us : List Value} {K : EV → List Ent → Prop} (hargs : RepL c.P m args (J st.hp bk) us) (kk : c.callM f n args st.hp K) :
    Callable c.P f ∧ Calls c.P f us.toArray w (fun e w' => ∃ u, e = .returned u ∧ Res c m0 w0 fx st a K u w') := by
  unfold Cfg.callM at kk
  split at kk
  · rename_i fn hf
    split at kk
    · rename_i ins outs hi ho
      obtain ⟨hb, kk⟩ := cond_true' kk
      simp only [Bool.and_eq_true] at hb
      split at kk
      · rename_i id ver hn
        rcases cond_spec kk with ⟨_, kk⟩ | ⟨hid, k1⟩
        · exact kk.elim
        · split at k1
          · rename_i v e s xs he
            obtain ⟨hv, k2⟩ := cond_true' k1
            have hv := beq_eq hv
            subst hv
            obtain ⟨k, hk, hent⟩ := S.ents id _ he
            cases k with
            | box b => exact hent.elim
            | row cv =>
              refine callMP_sound (e := .row .own 0 e s xs) S (wv := .row 0 0) (up := fun ys => .row .own v e s ys) (ok := fun ys => List.length ys = xs.length) hargs hn he hk rfl hb.2 hid ?_ ?_ ?_ ?_ (fun r y h => h) k2
              · intro u hu
                obtain ⟨md, v', e', s', xs', cv', h1, h2, h3, h4⟩ := hu
                rw [he] at h1; cases h1
                rw [hk] at h2; cases h2
                exact ⟨.own, 0, e, s, xs, cv, rfl, rfl, Nat.le_refl _, fun _ => h4 rfl⟩
              · intro m' hp h hm'
                exact SatEnt.plain (e := .row .own 0 e s xs) hp (fun _ _ => Nat.zero_le _) hm' (show SatEnt c.P m fx.n0 w (J st.hp bk) (.row .own 0 e s xs) (.row cv) from h)
              · intro w' y hp hnn hm h
                have := SatEnt.plain (m' := m) (n0' := fx.n0) (JJ' := J (st.hp.set id (.row .own v e s y)) (bk.set id (.row cv))) (Ent.plain_fill hp y) hnn hm h
                exact this
              · intro y ev u hl hJ
                exact J_set_row he hk hl ev u hJ
          · exact k1.elim
      · rename_i id hn
        rcases cond_spec kk with ⟨_, kk⟩ | ⟨hid, kk⟩
        · exact kk.elim
        · split at kk
          · rename_i cs he
            obtain ⟨k, hk, hent⟩ := S.ents id _ he
            cases k with
            | row cv => exact hent.elim
            | box b =>
              refine callMP_sound (e := .box .own cs) S (wv := .box 0 0) (up := fun y => .box .own (mkC cs y)) (ok := fun _ => True) hargs hn he hk rfl hb.2 hid ?_ ?_ ?_ ?_ (fun r y h => ⟨trivial, h⟩) kk
              · intro u hu
                obtain ⟨md, cs', b', h1, h2, h3⟩ := hu
                rw [he] at h1; cases h1
                rw [hk] at h2; cases h2
                exact ⟨.own, cs, b, rfl, rfl, h3⟩
              · intro m' hp h hm'
                exact SatEnt.plain hp (fun _ _ => Nat.zero_le _) hm' h
              · intro w' y hp hnn hm h
                exact SatEnt.plain (Ent.plain_fill hp y) hnn hm h
              · intro y ev u _ hJ
                exact J_set_box he hk ev u hJ
          · exact kk.elim
      · exact kk.elim
    · exact kk.elim
  · exact kk.elim
end
end Go.Proofs.YtjeoelajkncpcaaDoor.V

/- Calls that are walked in their callee's own code. No condition of its own. -/
namespace Go.Proofs.YtjeoelajkncpcaaDoor.V
open Go Go.RowKit
set_option linter.unusedVariables false
set_option linter.unusedSimpArgs false

def retV : List EV → EV
  | [v] => v
  | vs => .tup vs

/-- A call, walked in the callee's code, over the caller's blocks. -/
def Cfg.inlK (c : Cfg) (f : FuncId) (args : List EV) (hp : List Ent) (K : EV → List Ent → Prop) : Prop :=
  match c.P.funcs[f]? with
  | some fn => match fn.body with
    | some b => cond (b.dsts'.all (fun d => Nat.blt d fn.ntmps) && !(fn.name == "runtime.NumGoroutine")) (c.vc b b.dsts' { env := fun i => (args[i]?).getD .bot, hp := hp } fun x st => match x with
      | .normal => c.resK st fn.results.toList fun vs => K (retV vs) st.hp
      | .ret => c.resK st fn.results.toList fun vs => K (retV vs) st.hp
      | .exit _ => False) False
    | none => False
  | none => False

theorem Sat.onBase {c c' : Cfg} (h : c'.toBase = c.toBase) {m0 : Mem} {w0 : World} {fx : Fx} {m : Mem} {bk : List Cn} {st : St} {a : Act} {w : World} (S : Sat c m0 w0 fx m bk st a w) : Sat c' m0 w0 fx m bk st a w := by
  obtain ⟨b, _, _, _, _⟩ := c
  obtain ⟨b', _, _, _, _⟩ := c'
  have h : b' = b := h
  subst h
  exact { hold := S.hold, tab := S.tab, ext := S.ext, below := S.below, len := S.len, ents := S.ents, apart := S.apart, env := S.env, defers := S.defers, fix := S.fix, gh := S.gh, base := S.base, keep := S.keep }

section
variable {c : Cfg} {m0 : Mem} {w0 : World} {fx : Fx} {m : Mem} {bk : List Cn} {st : St} {a : Act} {w : World}

theorem retV_rep {P : Program} {m : Mem} {JJ : EV → Value → Prop} {vs : List EV} {us : List Value} (h : RepL P m vs JJ us) : Rep P m (retV vs) JJ (if h : us.toArray.size = 1 then us.toArray[0] else .tuple us.toArray) := by
  have hl := RepL_length h
  match vs, us, h, hl with
  | [v], us, h, _ =>
    obtain ⟨u, us', rfl, h1, h2⟩ := RepL_cons.1 h
    rw [RepL_nil.1 h2]
    exact h1
  | [], us, h, _ => rw [RepL_nil.1 h]; exact ⟨[], rfl, RepL_nil.2 rfl⟩
  | v :: x :: r, us, h, hl =>
    have : ¬ us.toArray.size = 1 := by simp only [List.size_toArray]; simp at hl; omega
    rw [dif_neg this]
    exact ⟨us, rfl, h⟩

theorem results_run (S : Sat c m0 w0 fx m bk st a w) {fn : Func} {K : List EV → Prop} (k : c.resK st fn.results.toList K) :
    ∃ vs us, K vs ∧ RepL c.P m vs (J st.hp bk) us ∧ (results fn a.tmps).run c.P w = .ok (if h : us.toArray.size = 1 then us.toArray[0] else .tuple us.toArray) w := by
  obtain ⟨vs, us, h1, h2, h3⟩ := res_sound S _ k
  refine ⟨vs, us, h1, h2, ?_⟩
  have hm : (fn.results.mapM (resOf a.tmps)).run c.P w = .ok us.toArray w := by
    rw [Array.mapM_eq_mapM_toList]
    simp only [map_eq_pure_bind, Sem.run_bind, h3, Result.andThen_ok, Sem.run_pure]
  have he : results fn a.tmps = (do let vs ← fn.results.mapM (resOf a.tmps); pure (if h : vs.size = 1 then vs[0] else .tuple vs)) := by
    unfold results
    congr 1
  rw [he]
  simp only [Sem.run_bind, hm, Result.andThen_ok, Sem.run_pure]

theorem inl_own (H : HanOK c) (S : Sat c m0 w0 fx m bk st a w) {f : FuncId} {args : List EV} {us : List Value} {K : EV → List Ent → Prop} (hargs : RepL c.P m args (J st.hp bk) us) (k : c.inlK f args st.hp K) :
    Callable c.P f ∧ Calls c.P f us.toArray w (fun e w' => ∃ u, e = .returned u ∧ ∃ e2 hp2 m2 bk2, K e2 hp2 ∧ Mem.ext fx.n0 m m2 ∧ (∀ ev u, J st.hp bk ev u → J hp2 bk2 ev u) ∧ Rep c.P m2 e2 (J hp2 bk2) u ∧ Sat c m0 w0 fx m2 bk2 { st with hp := hp2 } a w') := by
  unfold Cfg.inlK at k
  split at k
  · rename_i fn hf
    split at k
    · rename_i b hb
      obtain ⟨hc, k⟩ := cond_true' k
      simp only [Bool.and_eq_true, Bool.not_eq_true'] at hc
      refine ⟨⟨fn, b, hf, hb, hc.2⟩, calls_of_wp hf hb ?_⟩
      have hsz : ∀ d ∈ b.dsts', d < (us.toArray ++ Array.replicate (fn.ntmps - us.toArray.size) undef).size := by
        intro d hd
        have := List.all_eq_true.1 hc.1 d hd
        have h1 : d < fn.ntmps := Nat.le_of_ble_eq_true this
        simp only [Array.size_append, Array.size_replicate, List.size_toArray]
        omega
      have S1 : Sat c m w0 { W := b.dsts', tmps := us.toArray ++ Array.replicate (fn.ntmps - us.toArray.size) undef, fe := fx.fe, gh := J st.hp bk, n0 := fx.n0, keep := fx.keep } m bk { env := fun i => (args[i]?).getD .bot, hp := st.hp }
          { tmps := us.toArray ++ Array.replicate (fn.ntmps - us.toArray.size) undef, defers := [] } w := by
        refine { hold := S.hold, tab := S.tab, ext := Mem.ext_refl _ m, below := S.below, len := S.len, ents := S.ents, apart := S.apart, env := fun i => ?_, defers := rfl, fix := ⟨rfl, fun _ _ => rfl, hsz, S.fix.2.2.2⟩, gh := fun _ _ h => h, base := S.base, keep := S.keep }
        show Rep c.P m ((args[i]?).getD .bot) (J st.hp bk) ((us.toArray ++ Array.replicate (fn.ntmps - us.toArray.size) undef).getD i undef)
        cases hv : args[i]? with
        | none => trivial
        | some v =>
          obtain ⟨u, h1, h2⟩ := RepL_get hargs hv
          have hi := (List.getElem?_eq_some_iff.1 h1).1
          have : (us.toArray ++ Array.replicate (fn.ntmps - us.toArray.size) undef).getD i undef = u := by
            rw [Array.getD_eq_getD_getElem?, Array.getElem?_append_left (by simpa using hi)]
            simp [h1]
          show Rep c.P m v (J st.hp bk) ((us.toArray ++ Array.replicate (fn.ntmps - us.toArray.size) undef).getD i undef)
          rw [this]
          exact h2
      have fin : ∀ {st2 : St} {m2 : Mem} {bk2 : List Cn} {a2 : Act} {w2 : World}, c.resK st2 fn.results.toList (fun vs => K (retV vs) st2.hp) → Sat c m w0 { W := b.dsts', tmps := us.toArray ++ Array.replicate (fn.ntmps - us.toArray.size) undef, fe := fx.fe, gh := J st.hp bk, n0 := fx.n0, keep := fx.keep } m2 bk2 st2 a2 w2 →
          a2.defers = [] ∧ ∃ v, (results fn a2.tmps).run c.P w2 = .ok v w2 ∧ ∃ u, Ending.returned v = .returned u ∧ ∃ e2 hp2 m2 bk2, K e2 hp2 ∧ Mem.ext fx.n0 m m2 ∧ (∀ ev u, J st.hp bk ev u → J hp2 bk2 ev u) ∧ Rep c.P m2 e2 (J hp2 bk2) u ∧ Sat c m0 w0 fx m2 bk2 { st with hp := hp2 } a w2 := by
        intro st2 m2 bk2 a2 w2 k2 S2
        obtain ⟨vs, us2, h1, h2, h3⟩ := results_run S2 k2
        refine ⟨S2.defers, _, h3, _, rfl, retV vs, st2.hp, m2, bk2, h1, S2.ext, S2.gh, retV_rep h2, ?_⟩
        exact { hold := S2.hold, tab := S2.tab, ext := Mem.ext_trans S.ext S2.ext, below := S2.below, len := S2.len, ents := S2.ents, apart := S2.apart, env := fun i => Rep_mono S2.ext.1 _ S2.gh (S.env i), defers := S.defers, fix := ⟨S.fix.1, S.fix.2.1, S.fix.2.2.1, S2.fix.2.2.2⟩, gh := fun e u h => S2.gh e u (S.gh e u h), base := S.base, keep := S2.keep }
      refine wp_mono (vc_sound H b S1 k) fun e a2 w2 h => ?_
      cases e with
      | normal => obtain ⟨st2, m2, bk2, k2, S2⟩ := h; exact fin k2 S2
      | ret => obtain ⟨st2, m2, bk2, k2, S2⟩ := h; exact fin k2 S2
      | exit id => obtain ⟨st2, m2, bk2, k2, S2⟩ := h; exact k2.elim
      | goto l => exact h.elim
      | panic ch => exact h.elim
      | outgrown => exact h.elim
    · exact k.elim
  · exact k.elim

theorem inlK_sound {c' : Cfg} (hc : c'.toBase = c.toBase) (H : HanOK c') (S : Sat c m0 w0 fx m bk st a w) {f : FuncId} {args : List EV} {us : List Value} {K : EV → List Ent → Prop} (hargs : RepL c.P m args (J st.hp bk) us) (k : c'.inlK f args st.hp K) :
    Callable c.P f ∧ Calls c.P f us.toArray w (fun e w' => ∃ u, e = .returned u ∧ Res c m0 w0 fx st a K u w') := by
  have hP : c'.P = c.P := congrArg Base.P hc
  have h := inl_own H (S.onBase hc) (f := f) (args := args) (us := us) (K := K) (by rw [hP]; exact hargs) k
  rw [hP] at h
  refine ⟨h.1, h.2.mono fun e w' ⟨u, h1, e2, hp2, m2, bk2, h2, h3, h4, h5, h6⟩ => ⟨u, h1, e2, hp2, m2, bk2, h2, h6.onBase hc.symm, h5⟩⟩
end

/-- A call that lays a new row without elements, with room. -/
def Base.growK (B : Base) (e : TypeId) (s : Shape) (args : List EV) (hp : List Ent) (K : EV → List Ent → Prop) : Prop :=
  match args with
  | [d, .p (.int .i64) n] => cond (isNil d) (chk ((0 : Int) ≤ n ∧ Int.toNat n * B.P.bytesOf e ≤ 140737488355328) (K (.row hp.length 0) (hp ++ [.row .own 0 e s []]))) False
  | _ => False

/-- What such a function does. -/
def FnGrow (B : Base) (f : FuncId) (e : TypeId) (s : Shape) : Prop :=
  Callable B.P f ∧ ∀ (n : Int) (w : World), 0 ≤ n → n.toNat * B.P.bytesOf e ≤ 140737488355328 → Calls B.P f #[.slice none 0 0, .int .i64 n] w fun x w' => ∃ cv, x = .returned cv ∧ w'.ownsRow w.heap.size e s.size cv 0 [] ∧ Below w.heap.size w w' ∧ ∀ b, cv.ownBlock = some b → w.heap.size ≤ b

theorem growK_sound {c : Cfg} {m0 : Mem} {w0 : World} {fx : Fx} {m : Mem} {bk : List Cn} {st : St} {a : Act} {w : World} (S : Sat c m0 w0 fx m bk st a w) {f : FuncId} {e : TypeId} {s : Shape} (hF : FnGrow c.toBase f e s) {args : List EV} {us : List Value} {K : EV → List Ent → Prop} (hargs : RepL c.P m args (J st.hp bk) us) (k : c.toBase.growK e s args st.hp K) :
    Callable c.P f ∧ Calls c.P f us.toArray w (fun e w' => ∃ u, e = .returned u ∧ Res c m0 w0 fx st a K u w') := by
  unfold Base.growK at k
  split at k
  · rename_i d n
    obtain ⟨hn, k⟩ := cond_true' k
    obtain ⟨⟨h0, h1⟩, k⟩ := k
    obtain ⟨u, us1, rfl, r1, r2⟩ := RepL_cons.1 hargs
    obtain ⟨u2, us2, rfl, r3, r4⟩ := RepL_cons.1 r2
    rw [RepL_nil.1 r4]
    have hd := isNil_spec r1 hn
    subst hd
    have hu2 : u2 = .int .i64 n := r3
    subst hu2
    refine ⟨hF.1, (hF.2 n w h0 h1).mono fun x w' ⟨cv, e1, e2, e3, e4⟩ => ⟨cv, e1, ?_⟩⟩
    have ho : w'.ownsRow fx.n0 e s.size cv ([] : List s.Val).length [] := by
      refine ⟨e2.1, ?_⟩
      rcases e2.2 with q | ⟨g, cap, cur, q1, q2, q3⟩
      · exact .inl q
      · exact .inr ⟨g, cap, cur, q1, Nat.le_trans S.n0le q2, q3⟩
    exact (new_row S (xs := []) (cs := []) e s (S.below.trans (e3.mono S.n0le)) (fun b hb => e3.block b hb) rfl ho e4 k e3.size).1
  · exact k.elim

/-- Handlers of a list of functions: by a contract that may write one block; by the callee's own code; a new row. -/
inductive Han where
  | mut (n : Nat)
  | inl (c : Cfg)
  | grow (e : TypeId) (s : Shape)

def hanL (B : Base) : List (FuncId × Han) → FuncId → Option (List EV → List Ent → (EV → List Ent → Prop) → Prop)
  | [], _ => none
  | (g, .mut n) :: r, f => cond (Nat.beq g f) (some fun args hp K => Cfg.callM { toBase := B, lv := fun _ => ([], [], []), rows := [] } f n args hp K) (hanL B r f)
  | (g, .inl c) :: r, f => cond (Nat.beq g f) (some fun args hp K => c.inlK f args hp K) (hanL B r f)
  | (g, .grow e s) :: r, f => cond (Nat.beq g f) (some fun args hp K => B.growK e s args hp K) (hanL B r f)

def hanGood (B : Base) : List (FuncId × Han) → Prop
  | [] => True
  | (_, .mut _) :: r => hanGood B r
  | (_, .inl c) :: r => c.toBase = B ∧ HanOK c ∧ hanGood B r
  | (g, .grow e s) :: r => FnGrow B g e s ∧ hanGood B r

theorem hanL_ok {c : Cfg} : ∀ (l : List (FuncId × Han)), hanGood c.toBase l → ∀ {f : FuncId} {h : List EV → List Ent → (EV → List Ent → Prop) → Prop}, hanL c.toBase l f = some h → ∀ {m0 : Mem} {w0 : World} {fx : Fx} {m : Mem} {bk : List Cn} {st : St} {a : Act} {w : World}, Sat c m0 w0 fx m bk st a w →
    ∀ {args : List EV} {us : List Value} {K : EV → List Ent → Prop}, RepL c.P m args (J st.hp bk) us → h args st.hp K → Callable c.P f ∧ Calls c.P f us.toArray w (fun e w' => ∃ u, e = .returned u ∧ Res c m0 w0 fx st a K u w')
  | [], _, f, h, hh, m0, w0, fx, m, bk, st, a, w, S, args, us, K, hargs, k => by cases hh
  | (g, .mut n) :: r, hg, f, h, hh, m0, w0, fx, m, bk, st, a, w, S, args, us, K, hargs, k => by
    unfold hanL at hh
    cases hb : Nat.beq g f with
    | false => rw [hb] at hh; exact hanL_ok r hg hh S hargs k
    | true =>
      rw [hb] at hh
      cases hh
      have h := callM_sound (Sat.onBase (c' := { toBase := c.toBase, lv := fun _ => ([], [], []), rows := [] }) (c := c) rfl S) hargs k
      exact ⟨h.1, h.2.mono fun e w' ⟨u, h1, e2, hp2, m2, bk2, h2, h3, h4⟩ => ⟨u, h1, e2, hp2, m2, bk2, h2, Sat.onBase (c' := c) (c := { toBase := c.toBase, lv := fun _ => ([], [], []), rows := [] }) rfl h3, h4⟩⟩
  | (g, .inl c') :: r, hg, f, h, hh, m0, w0, fx, m, bk, st, a, w, S, args, us, K, hargs, k => by
    unfold hanL at hh
    cases hb : Nat.beq g f with
    | false => rw [hb] at hh; exact hanL_ok r hg.2.2 hh S hargs k
    | true =>
      rw [hb] at hh
      cases hh
      exact inlK_sound hg.1 hg.2.1 S hargs k
  | (g, .grow e s) :: r, hg, f, h, hh, m0, w0, fx, m, bk, st, a, w, S, args, us, K, hargs, k => by
    unfold hanL at hh
    cases hb : Nat.beq g f with
    | false => rw [hb] at hh; exact hanL_ok r hg.2 hh S hargs k
    | true =>
      rw [hb] at hh
      cases hh
      have := beq_eq hb
      subst this
      exact growK_sound S hg.1 hargs k

theorem HanOK.ofList {c : Cfg} (l : List (FuncId × Han)) (h1 : c.han = hanL c.toBase l) (h2 : c.hni = fun _ => Option.none) (hg : hanGood c.toBase l) : HanOK c :=
  ⟨fun {f h} e => (by rw [h1] at e; exact fun {_ _ _ _ _ _ _ _} S {_ _ _} ha k => hanL_ok l hg e S ha k), fun {f h} e => (by rw [h2] at e; cases e)⟩
end Go.Proofs.YtjeoelajkncpcaaDoor.V

/- Plain facts about the calendar: dates and their numbers lead to each other, in their order. No program in sight. -/
set_option linter.unusedVariables false
namespace Go.Proofs.YtjeoelajkncpcaaDoor.VCal

def Leap (y : Int) : Prop := y % 400 = 0 ∨ (y % 4 = 0 ∧ y % 100 ≠ 0)
instance (y : Int) : Decidable (Leap y) := by unfold Leap; exact inferInstance
def lens : Nat → Int
  | 1 => 31 | 2 => 28 | 3 => 31 | 4 => 30 | 5 => 31 | 6 => 30 | 7 => 31 | 8 => 31 | 9 => 30 | 10 => 31 | 11 => 30 | 12 => 31 | _ => 0
def mlen (y m : Int) : Int := if m < 1 then 0 else if m > 12 then 0 else if m = 2 then (if Leap y then 29 else 28) else lens m.toNat
def Valid (y m d : Int) : Prop := 0 ≤ y ∧ y ≤ 9999 ∧ 1 ≤ d ∧ d ≤ mlen y m
instance (y m d : Int) : Decidable (Valid y m d) := by unfold Valid; exact inferInstance
/-- The number of a day, years counted from March on. -/
def num (y m d : Int) : Int :=
  if m < 3 then 365 * (y - 1) + (y - 1) / 4 - (y - 1) / 100 + (y - 1) / 400 + (153 * (m + 9) + 2) / 5 + d + 59
  else 365 * y + y / 4 - y / 100 + y / 400 + (153 * (m - 3) + 2) / 5 + d + 59
/-- Days ahead of a year. -/
def start (y : Int) : Int := 365 * y + (y + 3) / 4 - (y + 99) / 100 + (y + 399) / 400
def cum (y m : Int) : Int := num y m 1 - start y

theorem months {m : Int} (h1 : 1 ≤ m) (h2 : m ≤ 12) : m = 1 ∨ m = 2 ∨ m = 3 ∨ m = 4 ∨ m = 5 ∨ m = 6 ∨ m = 7 ∨ m = 8 ∨ m = 9 ∨ m = 10 ∨ m = 11 ∨ m = 12 := by omega
theorem mlen_out {y m : Int} (h : ¬ (1 ≤ m ∧ m ≤ 12)) : mlen y m = 0 := by
  unfold mlen; split
  · rfl
  · split
    · rfl
    · omega
theorem valid_month {y m d : Int} (h : Valid y m d) : 1 ≤ m ∧ m ≤ 12 := by
  obtain ⟨_, _, h1, h2⟩ := h
  apply Classical.byContradiction
  intro hn
  rw [mlen_out hn] at h2
  omega
theorem mlen_1 (y : Int) : mlen y 1 = 31 := rfl
theorem mlen_2 (y : Int) : mlen y 2 = if Leap y then 29 else 28 := rfl
theorem mlen_3 (y : Int) : mlen y 3 = 31 := rfl
theorem mlen_4 (y : Int) : mlen y 4 = 30 := rfl
theorem mlen_5 (y : Int) : mlen y 5 = 31 := rfl
theorem mlen_6 (y : Int) : mlen y 6 = 30 := rfl
theorem mlen_7 (y : Int) : mlen y 7 = 31 := rfl
theorem mlen_8 (y : Int) : mlen y 8 = 31 := rfl
theorem mlen_9 (y : Int) : mlen y 9 = 30 := rfl
theorem mlen_10 (y : Int) : mlen y 10 = 31 := rfl
theorem mlen_11 (y : Int) : mlen y 11 = 30 := rfl
theorem mlen_12 (y : Int) : mlen y 12 = 31 := rfl
theorem mlen_pos {y m : Int} (h1 : 1 ≤ m) (h2 : m ≤ 12) : 28 ≤ mlen y m ∧ mlen y m ≤ 31 := by
  rcases months h1 h2 with rfl | rfl | rfl | rfl | rfl | rfl | rfl | rfl | rfl | rfl | rfl | rfl
  · rw [mlen_1]; omega
  · rw [mlen_2]; split <;> omega
  · rw [mlen_3]; omega
  · rw [mlen_4]; omega
  · rw [mlen_5]; omega
  · rw [mlen_6]; omega
  · rw [mlen_7]; omega
  · rw [mlen_8]; omega
  · rw [mlen_9]; omega
  · rw [mlen_10]; omega
  · rw [mlen_11]; omega
  · rw [mlen_12]; omega
/-- The first of January's number. -/
theorem num_jan (y : Int) : num y 1 1 = start y := by
  unfold num start
  rw [if_pos (by omega)]
  omega
theorem start_succ (y : Int) : start (y + 1) = start y + if Leap y then 366 else 365 := by
  by_cases h : Leap y
  · rw [if_pos h]; unfold Leap at h; unfold start; omega
  · rw [if_neg h]; unfold Leap at h; unfold start; omega
/-- A month behind another. -/
theorem num_month {y m : Int} (h1 : 1 ≤ m) (h2 : m ≤ 11) : num y (m + 1) 1 = num y m 1 + mlen y m := by
  rcases months h1 (show m ≤ 12 by omega) with rfl | rfl | rfl | rfl | rfl | rfl | rfl | rfl | rfl | rfl | rfl | rfl
  · rw [mlen_1]; unfold num; rw [if_pos (by omega), if_pos (by omega)]; omega
  · rw [mlen_2]; unfold num; rw [if_neg (by omega), if_pos (by omega)]
    by_cases h : Leap y
    · rw [if_pos h]; unfold Leap at h; omega
    · rw [if_neg h]; unfold Leap at h; omega
  · rw [mlen_3]; unfold num; rw [if_neg (by omega), if_neg (by omega)]; omega
  · rw [mlen_4]; unfold num; rw [if_neg (by omega), if_neg (by omega)]; omega
  · rw [mlen_5]; unfold num; rw [if_neg (by omega), if_neg (by omega)]; omega
  · rw [mlen_6]; unfold num; rw [if_neg (by omega), if_neg (by omega)]; omega
  · rw [mlen_7]; unfold num; rw [if_neg (by omega), if_neg (by omega)]; omega
  · rw [mlen_8]; unfold num; rw [if_neg (by omega), if_neg (by omega)]; omega
  · rw [mlen_9]; unfold num; rw [if_neg (by omega), if_neg (by omega)]; omega
  · rw [mlen_10]; unfold num; rw [if_neg (by omega), if_neg (by omega)]; omega
  · rw [mlen_11]; unfold num; rw [if_neg (by omega), if_neg (by omega)]; omega
  · omega
theorem num_december (y : Int) : num (y + 1) 1 1 = num y 12 1 + 31 := by
  unfold num
  rw [if_pos (by omega), if_neg (by omega)]
  omega
theorem num_day (y m d : Int) : num y m d = num y m 1 + d - 1 := by
  unfold num; split <;> omega
theorem num_mono_month {y m : Int} (h1 : 1 ≤ m) (k : Nat) : m + k ≤ 12 → num y m 1 + 28 * k ≤ num y (m + k) 1 := by
  induction k with
  | zero => intro _; simp
  | succ k ih =>
    intro h
    have := ih (by omega)
    have e := num_month (y := y) (m := m + k) (by omega) (by omega)
    have l := mlen_pos (y := y) (m := m + k) (by omega) (by omega)
    rw [show m + ((k + 1 : Nat) : Int) = m + k + 1 by omega, e]
    omega
theorem num_in_year {y m d : Int} (h1 : 1 ≤ m) (h2 : m ≤ 12) (h3 : 1 ≤ d) (h4 : d ≤ mlen y m) : start y ≤ num y m d ∧ num y m d < start (y + 1) := by
  rw [num_day]
  constructor
  · have := num_mono_month (y := y) (m := 1) (by omega) (m - 1).toNat (by omega)
    rw [show (1 : Int) + ((m - 1).toNat : Int) = m by omega, num_jan] at this
    omega
  · rw [← num_jan, num_december]
    by_cases e : m = 12
    · subst e; rw [mlen_12] at h4; omega
    · have := num_mono_month (y := y) (m := m + 1) (by omega) (11 - m).toNat (by omega)
      rw [show m + 1 + ((11 - m).toNat : Int) = 12 by omega, num_month h1 (by omega)] at this
      omega
theorem start_mono {a b : Int} (h : a < b) : start (a + 1) ≤ start b := by
  unfold start; omega
theorem start_0 : start 0 = 0 := by decide
theorem start_10000 : start 10000 = 3652425 := by decide
theorem num_bounds {y m d : Int} (h : Valid y m d) : 0 ≤ num y m d ∧ num y m d ≤ 3652424 := by
  have hm := valid_month h
  obtain ⟨h0, h1, h2, h3⟩ := h
  have hy := num_in_year hm.1 hm.2 h2 h3
  have := start_0
  have := start_10000
  have a : start 0 ≤ start y := by
    by_cases e : y = 0
    · subst e; omega
    · have := start_mono (show 0 < y by omega); have := start_succ 0; split at this <;> omega
  have b : start (y + 1) ≤ start 10000 := by
    by_cases e : y = 9999
    · subst e; exact Int.le_refl _
    · exact start_mono (show y < 10000 by omega)
  omega
/-- DATES ARE IN THE ORDER OF THEIR NUMBERS. -/
def Before (y m d y' m' d' : Int) : Prop := y < y' ∨ (y = y' ∧ (m < m' ∨ (m = m' ∧ d < d')))
theorem num_lt {y m d y' m' d' : Int} (h : Valid y m d) (h' : Valid y' m' d') (hb : Before y m d y' m' d') : num y m d < num y' m' d' := by
  have hm := valid_month h
  have hm' := valid_month h'
  obtain ⟨h0, h1, h2, h3⟩ := h
  obtain ⟨g0, g1, g2, g3⟩ := h'
  rcases hb with hb | ⟨rfl, hb | ⟨rfl, hb⟩⟩
  · have a := num_in_year hm.1 hm.2 h2 h3
    have b := num_in_year hm'.1 hm'.2 g2 g3
    have := start_mono hb
    omega
  · rw [num_day y m d, num_day y m' d']
    have e := num_month (y := y) hm.1 (show m ≤ 11 by omega)
    have := num_mono_month (y := y) (m := m + 1) (by omega) (m' - m - 1).toNat (by omega)
    rw [show m + 1 + ((m' - m - 1).toNat : Int) = m' by omega] at this
    omega
  · rw [num_day y m d, num_day y m d']
    omega
theorem trichotomy (y m d y' m' d' : Int) : Before y m d y' m' d' ∨ (y = y' ∧ m = m' ∧ d = d') ∨ Before y' m' d' y m d := by
  unfold Before; omega
theorem num_inj {y m d y' m' d' : Int} (h : Valid y m d) (h' : Valid y' m' d') (e : num y m d = num y' m' d') : y = y' ∧ m = m' ∧ d = d' := by
  rcases trichotomy y m d y' m' d' with hb | he | hb
  · have := num_lt h h' hb; omega
  · exact he
  · have := num_lt h' h hb; omega
theorem lt_num {y m d y' m' d' : Int} (h : Valid y m d) (h' : Valid y' m' d') : num y m d < num y' m' d' ↔ Before y m d y' m' d' := by
  constructor
  · intro hl
    rcases trichotomy y m d y' m' d' with hb | ⟨rfl, rfl, rfl⟩ | hb
    · exact hb
    · omega
    · have := num_lt h' h hb; omega
  · exact num_lt h h'

/-- The days of four hundred years, counted from March on: the year of the four hundred in which a day is. -/
theorem of_year (c q r day : Int) (hc : 0 ≤ c ∧ c ≤ 3) (hq : 0 ≤ q ∧ q ≤ 24) (hr : 0 ≤ r ∧ r ≤ 3) (hd : 0 ≤ day ∧ day ≤ 365) (hl : day = 365 → r = 3 ∧ (q < 24 ∨ c = 3)) :
    let x := 36524 * c + 1461 * q + 365 * r + day
    (x - x / 1460 + x / 36524 - x / 146096) / 365 = 100 * c + 4 * q + r := by
  intro x
  have h1 : x / 36524 - x / 146096 = c := by
    show (36524 * c + 1461 * q + 365 * r + day) / 36524 - (36524 * c + 1461 * q + 365 * r + day) / 146096 = c
    by_cases hlast : c = 3 ∧ q = 24 ∧ r = 3 ∧ day = 365
    · obtain ⟨rfl, rfl, rfl, rfl⟩ := hlast; decide
    · have hb : 1461 * q + 365 * r + day ≤ 36523 := by omega
      have e1 : (36524 * c + 1461 * q + 365 * r + day) / 36524 = c := by omega
      have e2 : (36524 * c + 1461 * q + 365 * r + day) / 146096 = 0 := by omega
      omega
  have h2 : x / 1460 = 25 * c + q + (24 * c + q + 365 * r + day) / 1460 := by
    show (36524 * c + 1461 * q + 365 * r + day) / 1460 = _
    omega
  have h3 : x - x / 1460 + x / 36524 - x / 146096 = 365 * (100 * c + 4 * q + r) + (day - (24 * c + q + 365 * r + day) / 1460) := by
    have : x = 36524 * c + 1461 * q + 365 * r + day := rfl
    omega
  rw [h3]
  omega
theorem split_400 (x : Int) (h : 0 ≤ x ∧ x < 146097) : ∃ c q r day : Int, (0 ≤ c ∧ c ≤ 3) ∧ (0 ≤ q ∧ q ≤ 24) ∧ (0 ≤ r ∧ r ≤ 3) ∧ (0 ≤ day ∧ day ≤ 365) ∧ (day = 365 → r = 3 ∧ (q < 24 ∨ c = 3)) ∧ x = 36524 * c + 1461 * q + 365 * r + day := by
  obtain ⟨c, x1, hc, hx1, hxl, rfl⟩ : ∃ c x1 : Int, (0 ≤ c ∧ c ≤ 3) ∧ (0 ≤ x1 ∧ x1 ≤ 36524) ∧ (x1 = 36524 → c = 3) ∧ x = 36524 * c + x1 := by
    by_cases e : x = 146096
    · exact ⟨3, 36524, by omega, by omega, by omega, by omega⟩
    · exact ⟨x / 36524, x % 36524, by omega, by omega, by omega, by omega⟩
  obtain ⟨q, x2, hq, hx2, hxl2, rfl⟩ : ∃ q x2 : Int, (0 ≤ q ∧ q ≤ 24) ∧ (0 ≤ x2 ∧ x2 ≤ 1460) ∧ (x2 = 1460 → q < 24 ∨ c = 3) ∧ x1 = 1461 * q + x2 :=
    ⟨x1 / 1461, x1 % 1461, by omega, by omega, by omega, by omega⟩
  by_cases e : x2 = 1460
  · exact ⟨c, q, 3, 365, hc, hq, by omega, by omega, fun _ => ⟨rfl, hxl2 e⟩, by omega⟩
  · exact ⟨c, q, x2 / 365, x2 % 365, hc, hq, by omega, by omega, by omega, by omega⟩
/-- A number's date, as the program reckons it: era, year of the four hundred, day of the year from March on, month. -/
def dateOf (n : Int) : Int × Int × Int :=
  let era := (n - 60) / 146097
  let x := (n - 60) % 146097
  let o := (x - x / 1460 + x / 36524 - x / 146096) / 365
  let day := x - (o * 365 + o / 4 - o / 100)
  let k := (5 * day + 2) / 153
  let d := day - (153 * k + 2) / 5 + 1
  let y := era * 400 + o
  if day ≥ 306 then (y + 1, k - 9, d) else (y, k + 3, d)
theorem months_of_year (day : Int) (h : 0 ≤ day ∧ day ≤ 365) : ∃ k d : Int, (5 * day + 2) / 153 = k ∧ day - (153 * k + 2) / 5 + 1 = d ∧ 1 ≤ d ∧ (0 ≤ k ∧ k ≤ 11) ∧ (day ≥ 306 ↔ k ≥ 10) ∧
    ((k = 0 ∧ d ≤ 31) ∨ (k = 1 ∧ d ≤ 30) ∨ (k = 2 ∧ d ≤ 31) ∨ (k = 3 ∧ d ≤ 30) ∨ (k = 4 ∧ d ≤ 31) ∨ (k = 5 ∧ d ≤ 31) ∨ (k = 6 ∧ d ≤ 30) ∨ (k = 7 ∧ d ≤ 31) ∨ (k = 8 ∧ d ≤ 30) ∨ (k = 9 ∧ d ≤ 31) ∨ (k = 10 ∧ d ≤ 31) ∨ (k = 11 ∧ d ≤ 29 ∧ (d = 29 → day = 365))) := by
  refine ⟨_, _, rfl, rfl, ?_, ?_, ?_, ?_⟩
  · omega
  · omega
  · omega
  · obtain ⟨k, hk⟩ : ∃ k, k = (5 * day + 2) / 153 := ⟨_, rfl⟩
    have : 0 ≤ k ∧ k ≤ 11 := by omega
    rw [← hk]
    have : k = 0 ∨ k = 1 ∨ k = 2 ∨ k = 3 ∨ k = 4 ∨ k = 5 ∨ k = 6 ∨ k = 7 ∨ k = 8 ∨ k = 9 ∨ k = 10 ∨ k = 11 := by omega
    rcases this with rfl | rfl | rfl | rfl | rfl | rfl | rfl | rfl | rfl | rfl | rfl | rfl <;> omega
theorem of_divs (c q r : Int) (hc : 0 ≤ c ∧ c ≤ 3) (hq : 0 ≤ q ∧ q ≤ 24) (hr : 0 ≤ r ∧ r ≤ 3) : (100 * c + 4 * q + r) / 4 = 25 * c + q ∧ (100 * c + 4 * q + r) / 100 = c := by omega
theorem year_divs (era c q r y : Int) (hc : 0 ≤ c ∧ c ≤ 3) (hq : 0 ≤ q ∧ q ≤ 24) (hr : 0 ≤ r ∧ r ≤ 3) (hy : y = era * 400 + (100 * c + 4 * q + r)) : y / 4 = 100 * era + 25 * c + q ∧ y / 100 = 4 * era + c ∧ y / 400 = era := by omega
theorem leap_of (era c q y : Int) (hc : 0 ≤ c ∧ c ≤ 3) (hq : 0 ≤ q ∧ q ≤ 24) (hl : q < 24 ∨ c = 3) (hy : y = era * 400 + (100 * c + 4 * q + 3) + 1) : Leap y := by unfold Leap; omega
theorem num_of (era c q r k d y n : Int) (hc : 0 ≤ c ∧ c ≤ 3) (hq : 0 ≤ q ∧ q ≤ 24) (hr : 0 ≤ r ∧ r ≤ 3) (hy : y = era * 400 + (100 * c + 4 * q + r))
    (hn : n = 146097 * era + (36524 * c + 1461 * q + 365 * r + ((153 * k + 2) / 5 + d - 1)) + 60) : 365 * y + y / 4 - y / 100 + y / 400 + (153 * k + 2) / 5 + d + 59 = n := by
  obtain ⟨h1, h2, h3⟩ := year_divs era c q r y hc hq hr hy
  rw [h1, h2, h3]
  generalize (153 * k + 2) / 5 = z at *
  omega
/-- A NUMBER's DATE IS A DATE, AND ITS NUMBER LEADS BACK. -/
theorem date_num {n : Int} (h : 0 ≤ n ∧ n ≤ 3652424) : Valid (dateOf n).1 (dateOf n).2.1 (dateOf n).2.2 ∧ num (dateOf n).1 (dateOf n).2.1 (dateOf n).2.2 = n := by
  obtain ⟨c, q, r, day, hc, hq, hr, hd, hl, hx⟩ := split_400 ((n - 60) % 146097) (by omega)
  have ho := of_year c q r day hc hq hr hd hl
  simp only [← hx] at ho
  obtain ⟨k, d, hk, hdd, hd1, hk1, hki, hcase⟩ := months_of_year day hd
  have hera : -1 ≤ (n - 60) / 146097 ∧ (n - 60) / 146097 ≤ 24 := by omega
  have hn : n = 146097 * ((n - 60) / 146097) + (36524 * c + 1461 * q + 365 * r + day) + 60 := by omega
  obtain ⟨hv1, hv2⟩ := of_divs c q r hc hq hr
  have hday : (n - 60) % 146097 - ((100 * c + 4 * q + r) * 365 + (100 * c + 4 * q + r) / 4 - (100 * c + 4 * q + r) / 100) = day := by rw [hv1, hv2]; omega
  have e : dateOf n = if day ≥ 306 then ((n - 60) / 146097 * 400 + (100 * c + 4 * q + r) + 1, k - 9, d) else ((n - 60) / 146097 * 400 + (100 * c + 4 * q + r), k + 3, d) := by
    unfold dateOf
    simp only [ho, hday, hk, hdd]
  rw [e]
  generalize (n - 60) / 146097 = era at *
  clear e hx ho hday hv1 hv2 hk
  have hdk : day = (153 * k + 2) / 5 + d - 1 := by omega
  clear hdd
  have hn' : n = 146097 * era + (36524 * c + 1461 * q + 365 * r + ((153 * k + 2) / 5 + d - 1)) + 60 := by rw [← hdk]; exact hn
  by_cases hj : day ≥ 306
  · have hk10 := hki.mp hj
    rw [if_pos hj]
    have hm : (k = 10 ∧ d ≤ 31) ∨ (k = 11 ∧ d ≤ 29 ∧ (d = 29 → day = 365)) := by omega
    clear hcase hki
    constructor
    · refine ⟨?_, ?_, hd1, ?_⟩
      · show 0 ≤ era * 400 + (100 * c + 4 * q + r) + 1
        clear hn' hdk hm
        omega
      · show era * 400 + (100 * c + 4 * q + r) + 1 ≤ 9999
        clear hn' hdk hm
        omega
      · show d ≤ mlen (era * 400 + (100 * c + 4 * q + r) + 1) (k - 9)
        rcases hm with ⟨rfl, hm⟩ | ⟨rfl, hm, hm'⟩
        · show d ≤ mlen _ 1; rw [mlen_1]; exact hm
        · show d ≤ mlen _ 2; rw [mlen_2]
          by_cases hL : Leap (era * 400 + (100 * c + 4 * q + r) + 1)
          · rw [if_pos hL]; exact hm
          · rw [if_neg hL]
            have hne : d ≠ 29 := by
              intro z
              obtain ⟨z1, z2⟩ := hl (hm' z)
              subst z1
              exact hL (leap_of era c q _ hc hq z2 rfl)
            clear hn' hn hdk hm' hL hl
            omega
    · show num (era * 400 + (100 * c + 4 * q + r) + 1) (k - 9) d = n
      unfold num
      rw [if_pos (show k - 9 < 3 by clear hn' hn hdk hm; omega), show era * 400 + (100 * c + 4 * q + r) + 1 - 1 = era * 400 + (100 * c + 4 * q + r) by omega, show k - 9 + 9 = k by omega]
      exact num_of era c q r k d _ n hc hq hr rfl hn'
  · have hk10 : ¬ k ≥ 10 := fun z => hj (hki.mpr z)
    rw [if_neg hj]
    constructor
    · refine ⟨?_, ?_, hd1, ?_⟩
      · show 0 ≤ era * 400 + (100 * c + 4 * q + r)
        clear hn' hdk hcase hki hk10
        omega
      · show era * 400 + (100 * c + 4 * q + r) ≤ 9999
        clear hn' hdk hcase hki hk10
        omega
      · show d ≤ mlen (era * 400 + (100 * c + 4 * q + r)) (k + 3)
        clear hn' hn hdk hl hki
        rcases hcase with ⟨rfl, z⟩ | ⟨rfl, z⟩ | ⟨rfl, z⟩ | ⟨rfl, z⟩ | ⟨rfl, z⟩ | ⟨rfl, z⟩ | ⟨rfl, z⟩ | ⟨rfl, z⟩ | ⟨rfl, z⟩ | ⟨rfl, z⟩ | ⟨rfl, z⟩ | ⟨rfl, z, _⟩
        all_goals first | exact z | (exfalso; omega)
    · show num (era * 400 + (100 * c + 4 * q + r)) (k + 3) d = n
      unfold num
      rw [if_neg (show ¬ k + 3 < 3 by clear hn' hn hdk hcase; omega), show k + 3 - 3 = k by omega]
      exact num_of era c q r k d _ n hc hq hr rfl hn'
theorem date_of_num {y m d : Int} (h : Valid y m d) : dateOf (num y m d) = (y, m, d) := by
  obtain ⟨hv, e⟩ := date_num (num_bounds h)
  obtain ⟨e1, e2, e3⟩ := num_inj hv h e
  exact Prod.ext e1 (Prod.ext e2 e3)
end Go.Proofs.YtjeoelajkncpcaaDoor.VCal

/- Plain facts about months and the units made of them: each unit is the days from its first month's first one up to the next unit's. No program in sight. -/
set_option linter.unusedVariables false
namespace Go.Proofs.YtjeoelajkncpcaaDoor.VCal

def mfirst (k : Int) : Int := num (k / 12) (k % 12 + 1) 1
def mon (n : Int) : Int := 12 * (dateOf n).1 + (dateOf n).2.1 - 1
theorem mfirst_succ {k : Int} (h : 0 ≤ k) : mfirst (k + 1) = mfirst k + mlen (k / 12) (k % 12 + 1) := by
  unfold mfirst
  by_cases e : k % 12 = 11
  · rw [show (k + 1) / 12 = k / 12 + 1 by omega, show (k + 1) % 12 + 1 = 1 by omega, e, num_december]
    rfl
  · rw [show (k + 1) / 12 = k / 12 by omega, show (k + 1) % 12 + 1 = k % 12 + 1 + 1 by omega, num_month (by omega) (by omega)]
theorem mfirst_step {k : Int} (h : 0 ≤ k) : mfirst k + 28 ≤ mfirst (k + 1) ∧ mfirst (k + 1) ≤ mfirst k + 31 := by
  rw [mfirst_succ h]
  have := mlen_pos (y := k / 12) (m := k % 12 + 1) (by omega) (by omega)
  omega
theorem mfirst_add {k : Int} (h : 0 ≤ k) (j : Nat) : mfirst k + 28 * j ≤ mfirst (k + j) := by
  induction j with
  | zero => simp
  | succ j ih =>
    have := mfirst_step (k := k + j) (by omega)
    rw [show k + ((j + 1 : Nat) : Int) = k + j + 1 by omega]
    omega
theorem mfirst_mono {a b : Int} (h : 0 ≤ a) (hab : a ≤ b) : mfirst a ≤ mfirst b := by
  have := mfirst_add h (b - a).toNat
  rw [show a + ((b - a).toNat : Int) = b by omega] at this
  omega
theorem mfirst_lt {a b : Int} (h : 0 ≤ a) (hab : a < b) : mfirst a + 28 ≤ mfirst b := by
  have := mfirst_add h (b - a).toNat
  rw [show a + ((b - a).toNat : Int) = b by omega] at this
  omega
theorem mfirst_0 : mfirst 0 = 0 := by decide
theorem mfirst_120000 : mfirst 120000 = 3652425 := by decide
theorem mon_spec {n : Int} (h : 0 ≤ n ∧ n ≤ 3652424) : (0 ≤ mon n ∧ mon n < 120000) ∧ mfirst (mon n) ≤ n ∧ n < mfirst (mon n + 1) := by
  obtain ⟨v, e⟩ := date_num h
  have hm := valid_month v
  obtain ⟨v0, v1, v2, v3⟩ := v
  have hd : (mon n) / 12 = (dateOf n).1 ∧ (mon n) % 12 + 1 = (dateOf n).2.1 := by unfold mon; omega
  have hp : 0 ≤ mon n ∧ mon n < 120000 := by unfold mon; omega
  have hf : mfirst (mon n) = num (dateOf n).1 (dateOf n).2.1 1 := by unfold mfirst; rw [hd.1, hd.2]
  have hs := mfirst_succ hp.1
  rw [hd.1, hd.2] at hs
  have := num_day (dateOf n).1 (dateOf n).2.1 (dateOf n).2.2
  exact ⟨hp, by omega, by omega⟩
theorem le_mon {n k : Int} (h : 0 ≤ n ∧ n ≤ 3652424) (hk : 0 ≤ k) : mfirst k ≤ n ↔ k ≤ mon n := by
  obtain ⟨h0, h1, h2⟩ := mon_spec h
  constructor
  · intro hl
    apply Classical.byContradiction
    intro hn
    have := mfirst_mono (a := mon n + 1) (b := k) (by omega) (by omega)
    omega
  · intro hl
    have := mfirst_mono hk hl
    omega
theorem mfirst_bounds {k : Int} (h : 0 ≤ k ∧ k < 120000) : 0 ≤ mfirst k ∧ mfirst k ≤ 3652424 := by
  have := mfirst_mono (a := 0) (b := k) (by omega) h.1
  have := mfirst_lt h.1 h.2
  rw [mfirst_0] at *
  rw [mfirst_120000] at *
  omega
theorem mon_mfirst {k : Int} (h : 0 ≤ k ∧ k < 120000) : mon (mfirst k) = k := by
  have hb := mfirst_bounds h
  have h1 := (le_mon hb h.1).mp (Int.le_refl _)
  have h2 : ¬ k + 1 ≤ mon (mfirst k) := by
    intro z
    have := (le_mon hb (by omega)).mpr z
    have := mfirst_step h.1
    omega
  omega
theorem valid_first {k : Int} (h : 0 ≤ k ∧ k < 120000) : Valid (k / 12) (k % 12 + 1) 1 := by
  have := mlen_pos (y := k / 12) (m := k % 12 + 1) (by omega) (by omega)
  exact ⟨by omega, by omega, by omega, by omega⟩

/-- Kinds of units: how many months each, the first one's month, how many units. -/
def tab (kind : Int) : Option (Int × Int × Int) := if kind = 1 then some (1, 0, 120000) else if kind = 2 then some (3, 2, 40000) else if kind = 3 then some (12, 0, 10000) else if kind = 4 then some (120, 0, 1000) else if kind = 5 then some (1200, 0, 100) else none
theorem tab_cases {kind m f c : Int} (h : tab kind = some (m, f, c)) : (kind = 1 ∧ m = 1 ∧ f = 0 ∧ c = 120000) ∨ (kind = 2 ∧ m = 3 ∧ f = 2 ∧ c = 40000) ∨ (kind = 3 ∧ m = 12 ∧ f = 0 ∧ c = 10000) ∨ (kind = 4 ∧ m = 120 ∧ f = 0 ∧ c = 1000) ∨ (kind = 5 ∧ m = 1200 ∧ f = 0 ∧ c = 100) := by
  unfold tab at h
  repeat' (split at h)
  all_goals first | (simp at h; omega) | cases h
def ucount (kind : Int) : Int := if kind = 0 then 3652425 else match tab kind with | some (_, _, c) => c | none => 0
def ufirst (kind i : Int) : Int := if kind = 0 then i else match tab kind with | some (m, f, _) => mfirst (f + m * i) | none => 0
def ulast (kind i : Int) : Int := if i = ucount kind - 1 then 3652424 else ufirst kind (i + 1) - 1
/-- The unit in which a day is, if there is one. -/
def uof (kind day : Int) : Option Int := if 0 ≤ day ∧ day ≤ 3652424 then (if kind = 0 then some day else match tab kind with | some (m, f, _) => if mon day - f < 0 then none else some ((mon day - f) / m) | none => none) else none
theorem ucount_0 : ucount 0 = 3652425 := rfl
theorem ucount_pos (kind : Int) : 0 ≤ ucount kind ∧ ucount kind ≤ 3652425 := by
  unfold ucount
  split
  · omega
  · split
    · rename_i m f c h; have := tab_cases h; omega
    · omega
theorem tab_fit {kind m f c i : Int} (h : tab kind = some (m, f, c)) (h0 : 0 ≤ i) (h1 : i < c) : 0 ≤ f + m * i ∧ f + m * i < 120000 ∧ (i < c - 1 → f + m * (i + 1) < 120000) ∧ (i = c - 1 → 120000 ≤ f + m * (i + 1)) := by
  rcases tab_cases h with ⟨rfl, rfl, rfl, rfl⟩ | ⟨rfl, rfl, rfl, rfl⟩ | ⟨rfl, rfl, rfl, rfl⟩ | ⟨rfl, rfl, rfl, rfl⟩ | ⟨rfl, rfl, rfl, rfl⟩ <;> omega
theorem uof_some {kind day n : Int} : uof kind day = some n ↔ (0 ≤ n ∧ n < ucount kind ∧ ufirst kind n ≤ day ∧ day ≤ ulast kind n) := by
  unfold uof ulast
  by_cases h0 : kind = 0
  · subst h0
    have e : ∀ i, ufirst 0 i = i := fun i => rfl
    rw [ucount_0, e, e]
    simp only [if_true]
    by_cases hd : 0 ≤ day ∧ day ≤ 3652424
    · rw [if_pos hd]
      constructor
      · intro h; obtain rfl := Option.some.inj h; refine ⟨by omega, by omega, by omega, ?_⟩; split <;> omega
      · rintro ⟨a, b, c, d⟩; congr 1; split at d <;> omega
    · rw [if_neg hd]
      constructor
      · intro h; cases h
      · rintro ⟨a, b, c, d⟩; exfalso; split at d <;> omega
  · rw [if_neg h0]
    cases ht : tab kind with
    | none =>
      have hc : ucount kind = 0 := by unfold ucount; rw [if_neg h0, ht]
      constructor
      · intro h; split at h <;> cases h
      · rintro ⟨a, b, _⟩; omega
    | some t =>
      obtain ⟨m, f, c⟩ := t
      have hc : ucount kind = c := by unfold ucount; rw [if_neg h0, ht]
      have hu : ∀ i, ufirst kind i = mfirst (f + m * i) := by intro i; unfold ufirst; rw [if_neg h0, ht]
      have hm : 1 ≤ m ∧ 0 ≤ f := by have := tab_cases ht; omega
      rw [hc, hu, hu]
      by_cases hd : 0 ≤ day ∧ day ≤ 3652424
      · rw [if_pos hd]
        obtain ⟨hb, hl, hg⟩ := mon_spec hd
        constructor
        · intro h
          simp only at h
          split at h
          · cases h
          · rename_i hf
            obtain rfl := Option.some.inj h
            have q1 := Int.mul_ediv_self_le (x := mon day - f) (k := m) (by omega)
            have q2 := Int.lt_mul_ediv_self_add (x := mon day - f) (k := m) (by omega)
            have q0 := Int.ediv_nonneg (a := mon day - f) (b := m) (by omega) (by omega)
            generalize (mon day - f) / m = n at *
            have hn : n < c := by rcases tab_cases ht with ⟨_, rfl, rfl, rfl⟩ | ⟨_, rfl, rfl, rfl⟩ | ⟨_, rfl, rfl, rfl⟩ | ⟨_, rfl, rfl, rfl⟩ | ⟨_, rfl, rfl, rfl⟩ <;> omega
            refine ⟨q0, hn, (le_mon hd (by have := tab_fit ht q0 hn; omega)).mpr (by omega), ?_⟩
            split
            · omega
            · have hk := tab_fit ht q0 hn
              have : ¬ f + m * (n + 1) ≤ mon day := by rw [Int.mul_add, Int.mul_one]; omega
              have : ¬ mfirst (f + m * (n + 1)) ≤ day := fun z => this ((le_mon hd (by rw [Int.mul_add, Int.mul_one]; omega)).mp z)
              omega
        · rintro ⟨n0, n1, n2, n3⟩
          have hk := tab_fit ht n0 n1
          have a1 := (le_mon hd hk.1).mp n2
          have a2 : mon day < f + m * (n + 1) := by
            by_cases e : n = c - 1
            · have := hk.2.2.2 e; omega
            · rw [if_neg e] at n3
              have hp : 0 ≤ f + m * (n + 1) := by rw [Int.mul_add, Int.mul_one]; omega
              have : ¬ f + m * (n + 1) ≤ mon day := fun z => by have := (le_mon hd hp).mpr z; omega
              omega
          simp only
          have : 0 ≤ m * n := Int.mul_nonneg (by omega) n0
          rw [if_neg (by omega)]
          congr 1
          rw [Int.ediv_eq_iff_of_pos (by omega)]
          rw [Int.mul_add, Int.mul_one] at a2
          rw [Int.mul_comm] at this
          constructor
          · rw [Int.mul_comm]; omega
          · rw [Int.mul_comm n m]; omega
      · rw [if_neg hd]
        constructor
        · intro h; cases h
        · rintro ⟨n0, n1, n2, n3⟩
          exfalso
          have hk := tab_fit ht n0 n1
          have b := mfirst_bounds ⟨hk.1, hk.2.1⟩
          split at n3
          · omega
          · have b' := mfirst_bounds (k := f + m * (n + 1)) ⟨by rw [Int.mul_add, Int.mul_one]; omega, hk.2.2.1 (by omega)⟩
            omega
theorem unit_in {kind i : Int} (h0 : 0 ≤ i) (h1 : i < ucount kind) : 0 ≤ ufirst kind i ∧ ufirst kind i ≤ ulast kind i ∧ ulast kind i ≤ 3652424 := by
  unfold ulast
  by_cases hk : kind = 0
  · subst hk
    have e : ∀ i, ufirst 0 i = i := fun i => rfl
    rw [ucount_0] at h1 ⊢
    rw [e, e]
    split <;> omega
  · cases ht : tab kind with
    | none => have hc : ucount kind = 0 := by unfold ucount; rw [if_neg hk, ht]
              omega
    | some t =>
      obtain ⟨m, f, c⟩ := t
      have hc : ucount kind = c := by unfold ucount; rw [if_neg hk, ht]
      have hu : ∀ i, ufirst kind i = mfirst (f + m * i) := by intro i; unfold ufirst; rw [if_neg hk, ht]
      have hm : 1 ≤ m ∧ 0 ≤ f := by have := tab_cases ht; omega
      rw [hc] at h1 ⊢
      rw [hu, hu]
      have hf := tab_fit ht h0 h1
      have b := mfirst_bounds ⟨hf.1, hf.2.1⟩
      split
      · omega
      · have b' := mfirst_bounds (k := f + m * (i + 1)) ⟨by rw [Int.mul_add, Int.mul_one]; omega, hf.2.2.1 (by omega)⟩
        have := mfirst_lt (a := f + m * i) (b := f + m * (i + 1)) hf.1 (by rw [Int.mul_add, Int.mul_one]; omega)
        omega
theorem ulast_next {kind i : Int} (h1 : i < ucount kind - 1) : ufirst kind (i + 1) = ulast kind i + 1 := by
  unfold ulast
  rw [if_neg (by omega)]
  omega
theorem ulast_last {kind : Int} : ulast kind (ucount kind - 1) = 3652424 := by
  unfold ulast
  rw [if_pos rfl]
end Go.Proofs.YtjeoelajkncpcaaDoor.VCal

/- Sets of whole numbers as runs: plain facts. No program in sight. -/
namespace Go.Proofs.YtjeoelajkncpcaaDoor.V
set_option linter.unusedVariables false
set_option linter.unusedSimpArgs false

abbrev Lim : Int := 1099511627776
abbrev Runs := List (Int × Int)

/-- A number is in one of the runs. -/
def mem (s : Runs) (n : Int) : Prop := ∃ r ∈ s, r.1 ≤ n ∧ n ≤ r.2

instance (s : Runs) (n : Int) : Decidable (mem s n) := inferInstanceAs (Decidable (∃ r ∈ s, r.1 ≤ n ∧ n ≤ r.2))

def SaneFrom : Int → Runs → Prop
  | _, [] => True
  | last, r :: s => r.1 ≤ r.2 ∧ last + 2 ≤ r.1 ∧ r.2 ≤ Lim ∧ SaneFrom r.2 s

def decSane : (last : Int) → (s : Runs) → Decidable (SaneFrom last s)
  | _, [] => isTrue trivial
  | last, r :: s => match decSane r.2 s with
    | isTrue h => if h1 : r.1 ≤ r.2 ∧ last + 2 ≤ r.1 ∧ r.2 ≤ Lim then isTrue ⟨h1.1, h1.2.1, h1.2.2, h⟩ else isFalse fun k => h1 ⟨k.1, k.2.1, k.2.2.1⟩
    | isFalse h => isFalse fun k => h k.2.2.2

instance (last : Int) (s : Runs) : Decidable (SaneFrom last s) := decSane last s

/-- Is it a set? -/
def Sane (s : Runs) : Prop := SaneFrom (-1099511627778) s
instance (s : Runs) : Decidable (Sane s) := inferInstanceAs (Decidable (SaneFrom _ s))

theorem SaneFrom.mono : ∀ {s : Runs} {a b : Int}, SaneFrom a s → b ≤ a → SaneFrom b s
  | [], _, _, _, _ => trivial
  | r :: s, a, b, h, k => ⟨h.1, by have := h.2.1; omega, h.2.2.1, h.2.2.2⟩

theorem SaneFrom.lt : ∀ {s : Runs} {a : Int}, SaneFrom a s → ∀ r ∈ s, a + 2 ≤ r.1 ∧ r.1 ≤ r.2 ∧ r.2 ≤ Lim
  | [], _, _, r, hr => by cases hr
  | q :: s, a, h, r, hr => by
    rcases List.mem_cons.1 hr with e | e
    · subst e; exact ⟨h.2.1, h.1, h.2.2.1⟩
    · have := SaneFrom.lt h.2.2.2 r e
      have := h.1; have := h.2.1
      omega

theorem Sane.bounds {s : Runs} (h : Sane s) : ∀ r ∈ s, -Lim ≤ r.1 ∧ r.1 ≤ r.2 ∧ r.2 ≤ Lim := fun r hr => by
  have := SaneFrom.lt h r hr
  unfold Lim at *
  omega

theorem SaneFrom.get : ∀ {s : Runs} {a : Int}, SaneFrom a s → ∀ (i j : Nat) (r q : Int × Int), s[i]? = some r → s[j]? = some q → i < j → r.2 + 2 ≤ q.1
  | [], _, _, i, _, _, _, hi, _, _ => by simp at hi
  | x :: s, a, h, 0, j + 1, r, q, hi, hj, _ => by
    simp at hi hj
    subst hi
    exact (SaneFrom.lt h.2.2.2 q (List.mem_of_getElem? hj)).1
  | x :: s, a, h, i + 1, j + 1, r, q, hi, hj, hl => SaneFrom.get h.2.2.2 i j r q (by simpa using hi) (by simpa using hj) (by omega)
  | x :: s, a, h, i, 0, r, q, hi, hj, hl => by omega

theorem SaneFrom.mem_gt {s : Runs} {a n : Int} (h : SaneFrom a s) (k : mem s n) : a + 2 ≤ n := by
  obtain ⟨r, hr, h1, h2⟩ := k
  have := SaneFrom.lt h r hr
  omega

theorem mem_nil {n : Int} : ¬ mem [] n := fun ⟨r, hr, _⟩ => by cases hr
theorem mem_cons {r : Int × Int} {s : Runs} {n : Int} : mem (r :: s) n ↔ (r.1 ≤ n ∧ n ≤ r.2) ∨ mem s n := by
  constructor
  · rintro ⟨q, hq, h⟩
    rcases List.mem_cons.1 hq with e | e
    · subst e; exact .inl h
    · exact .inr ⟨q, e, h⟩
  · rintro (h | ⟨q, hq, h⟩)
    · exact ⟨r, List.mem_cons_self .., h⟩
    · exact ⟨q, List.mem_cons_of_mem _ hq, h⟩
theorem mem_append {s t : Runs} {n : Int} : mem (s ++ t) n ↔ mem s n ∨ mem t n := by
  constructor
  · rintro ⟨q, hq, h⟩
    rcases List.mem_append.1 hq with e | e
    · exact .inl ⟨q, e, h⟩
    · exact .inr ⟨q, e, h⟩
  · rintro (⟨q, hq, h⟩ | ⟨q, hq, h⟩)
    · exact ⟨q, List.mem_append_left _ hq, h⟩
    · exact ⟨q, List.mem_append_right _ hq, h⟩

/-- Two sets with the same members are one. -/
theorem sane_ext : ∀ {s t : Runs} {a b : Int}, SaneFrom a s → SaneFrom b t → (∀ n, mem s n ↔ mem t n) → s = t
  | [], [], _, _, _, _, _ => rfl
  | [], r :: t, _, _, _, h, k => (mem_nil ((k r.1).2 (mem_cons.2 (.inl ⟨Int.le_refl _, h.1⟩)))).elim
  | r :: s, [], _, _, h, _, k => (mem_nil ((k r.1).1 (mem_cons.2 (.inl ⟨Int.le_refl _, h.1⟩)))).elim
  | r :: s, q :: t, a, b, h, h', k => by
    have hs := fun n (hn : mem s n) => SaneFrom.mem_gt h.2.2.2 hn
    have ht := fun n (hn : mem t n) => SaneFrom.mem_gt h'.2.2.2 hn
    have hr := h.1
    have hq := h'.1
    have e1 : r.1 = q.1 := by
      rcases mem_cons.1 ((k r.1).1 (mem_cons.2 (.inl ⟨Int.le_refl _, hr⟩))) with x | x
      · rcases mem_cons.1 ((k q.1).2 (mem_cons.2 (.inl ⟨Int.le_refl _, hq⟩))) with y | y
        · omega
        · have := hs _ y; omega
      · have := ht _ x
        rcases mem_cons.1 ((k q.1).2 (mem_cons.2 (.inl ⟨Int.le_refl _, hq⟩))) with y | y
        · omega
        · have := hs _ y; omega
    have e2 : r.2 = q.2 := by
      have a1 : ¬ r.2 < q.2 := fun hl => by
        rcases mem_cons.1 ((k (r.2 + 1)).2 (mem_cons.2 (.inl ⟨by omega, by omega⟩))) with x | x
        · omega
        · have := hs _ x; omega
      have a2 : ¬ q.2 < r.2 := fun hl => by
        rcases mem_cons.1 ((k (q.2 + 1)).1 (mem_cons.2 (.inl ⟨by omega, by omega⟩))) with x | x
        · omega
        · have := ht _ x; omega
      omega
    have e : r = q := Prod.ext e1 e2
    subst e
    refine congrArg (r :: ·) (sane_ext h.2.2.2 h'.2.2.2 fun n => ?_)
    constructor
    · intro hn
      rcases mem_cons.1 ((k n).1 (mem_cons.2 (.inr hn))) with x | x
      · have := hs _ hn; omega
      · exact x
    · intro hn
      rcases mem_cons.1 ((k n).2 (mem_cons.2 (.inr hn))) with x | x
      · have := ht _ hn; omega
      · exact x

theorem SaneFrom.append : ∀ {s : Runs} {a : Int} {r : Int × Int}, SaneFrom a s → r.1 ≤ r.2 → r.2 ≤ Lim → a + 2 ≤ r.1 → (∀ q ∈ s, q.2 + 2 ≤ r.1) → SaneFrom a (s ++ [r])
  | [], a, r, _, h1, h2, h3, _ => ⟨h1, h3, h2, trivial⟩
  | x :: s, a, r, h, h1, h2, h3, h4 => ⟨h.1, h.2.1, h.2.2.1, SaneFrom.append h.2.2.2 h1 h2 (h4 x (List.mem_cons_self ..)) fun q hq => h4 q (List.mem_cons_of_mem _ hq)⟩
end Go.Proofs.YtjeoelajkncpcaaDoor.V

/- Sets' first and last numbers, sets within bounds, leaves: plain facts. No program in sight. -/
namespace Go.Proofs.YtjeoelajkncpcaaDoor.V
set_option linter.unusedVariables false
set_option linter.unusedSimpArgs false

def loF (s : Runs) : Int := (s.getD 0 (0, 0)).1
def hiF (s : Runs) : Int := (s.getD (s.length - 1) (0, 0)).2

theorem loF_cons (r : Int × Int) (s : Runs) : loF (r :: s) = r.1 := rfl

theorem hiF_get {s : Runs} (h : s ≠ []) : ∃ r, s[s.length - 1]? = some r ∧ hiF s = r.2 := by
  have hl : s.length - 1 < s.length := by have := List.length_pos_iff.2 h; omega
  refine ⟨_, List.getElem?_eq_getElem hl, ?_⟩
  unfold hiF
  rw [List.getD_eq_getElem?_getD, List.getElem?_eq_getElem hl]
  rfl

theorem loF_get {s : Runs} (h : s ≠ []) : ∃ r, s[0]? = some r ∧ loF s = r.1 := by
  cases s with
  | nil => exact absurd rfl h
  | cons r s => exact ⟨r, rfl, rfl⟩

theorem sane_le {s : Runs} (h : Sane s) {i j : Nat} {r q : Int × Int} (hi : s[i]? = some r) (hj : s[j]? = some q) (hl : i ≤ j) : r.1 ≤ q.1 ∧ r.2 ≤ q.2 := by
  rcases Nat.lt_or_eq_of_le hl with e | e
  · have := SaneFrom.get h i j r q hi hj e
    have h1 := (SaneFrom.lt h q (List.mem_of_getElem? hj)).2.1
    have h2 := (SaneFrom.lt h r (List.mem_of_getElem? hi)).2.1
    omega
  · subst e; rw [hi] at hj; cases hj; exact ⟨Int.le_refl _, Int.le_refl _⟩

/-- All of a set's numbers are from its first to its last one. -/
theorem mem_between {s : Runs} (h : Sane s) {n : Int} (hn : mem s n) : loF s ≤ n ∧ n ≤ hiF s := by
  obtain ⟨r, hr, h1, h2⟩ := hn
  obtain ⟨i, hi⟩ := List.getElem?_of_mem hr
  have hne : s ≠ [] := List.ne_nil_of_mem hr
  obtain ⟨a, ha, ea⟩ := loF_get hne
  obtain ⟨b, hb, eb⟩ := hiF_get hne
  have hl := (List.getElem?_eq_some_iff.1 hi).1
  have := sane_le h ha hi (Nat.zero_le _)
  have := sane_le h hi hb (by omega)
  omega

theorem mem_lo {s : Runs} (h : Sane s) (hne : s ≠ []) : mem s (loF s) := by
  obtain ⟨a, ha, ea⟩ := loF_get hne
  have hm := List.mem_of_getElem? ha
  have := (SaneFrom.lt h a hm).2.1
  exact ⟨a, hm, by omega, by omega⟩

theorem mem_hi {s : Runs} (h : Sane s) (hne : s ≠ []) : mem s (hiF s) := by
  obtain ⟨a, ha, ea⟩ := hiF_get hne
  have hm := List.mem_of_getElem? ha
  have := (SaneFrom.lt h a hm).2.1
  exact ⟨a, hm, by omega, by omega⟩

theorem lo_le_hi {s : Runs} (h : Sane s) (hne : s ≠ []) : loF s ≤ hiF s := (mem_between h (mem_lo h hne)).2

theorem sane_nil {s : Runs} (h : Sane s) (k : ∀ n, ¬ mem s n) : s = [] := by
  cases s with
  | nil => rfl
  | cons r t => exact absurd (mem_cons.2 (.inl ⟨Int.le_refl _, h.1⟩)) (k r.1)

/-- What is within bounds. -/
def clipF (s : Runs) (lo hi : Int) : Runs := s.filterMap fun r => if max r.1 lo ≤ min r.2 hi then some (max r.1 lo, min r.2 hi) else none

theorem mem_clip {s : Runs} {lo hi n : Int} : mem (clipF s lo hi) n ↔ mem s n ∧ lo ≤ n ∧ n ≤ hi := by
  unfold clipF
  constructor
  · rintro ⟨r, hr, h1, h2⟩
    obtain ⟨q, hq, e⟩ := List.mem_filterMap.1 hr
    split at e
    · cases e
      dsimp only at h1 h2
      exact ⟨⟨q, hq, by omega, by omega⟩, by omega, by omega⟩
    · cases e
  · rintro ⟨⟨q, hq, h1, h2⟩, h3, h4⟩
    refine ⟨(max q.1 lo, min q.2 hi), List.mem_filterMap.2 ⟨q, hq, if_pos (by omega)⟩, ?_, ?_⟩ <;> dsimp only <;> omega

theorem clip_from : ∀ {s : Runs} {a b lo hi : Int}, SaneFrom a s → b ≤ a → SaneFrom b (clipF s lo hi)
  | [], _, _, _, _, _, _ => trivial
  | r :: s, a, b, lo, hi, h, hb => by
    have h1 := h.1
    have h2 := h.2.1
    have h3 := h.2.2.1
    unfold clipF
    rw [List.filterMap_cons]
    split
    · rename_i e
      exact clip_from h.2.2.2 (by omega)
    · rename_i q e
      split at e
      · cases e
        refine ⟨by assumption, by dsimp only; omega, by dsimp only; omega, clip_from h.2.2.2 (by dsimp only; omega)⟩
      · cases e

theorem sane_clip {s : Runs} {lo hi : Int} (h : Sane s) : Sane (clipF s lo hi) := clip_from h (Int.le_refl _)

theorem clip_length (s : Runs) (lo hi : Int) : (clipF s lo hi).length ≤ s.length := List.length_filterMap_le _ _

/-! ### Leaves -/

abbrev Leaf := Bool × Int × Runs × Runs

/-- A set of numbers up to one. -/
def Within (s : Runs) (most : Int) : Prop := Sane s ∧ (s = [] ∨ (0 ≤ loF s ∧ hiF s ≤ most))
instance (s : Runs) (m : Int) : Decidable (Within s m) := inferInstanceAs (Decidable (_ ∧ _))

theorem Within.bounds {s : Runs} {m : Int} (h : Within s m) {n : Int} (hn : mem s n) : 0 ≤ n ∧ n ≤ m := by
  have := mem_between h.1 hn
  rcases h.2 with e | e
  · subst e; exact (mem_nil hn).elim
  · omega

def LeafSane (f : Leaf) : Prop := if f.1 = true then f.2.1 = 0 ∧ Within f.2.2.1 3652424 ∧ Within f.2.2.2 3652424 else (0 ≤ f.2.1 ∧ f.2.1 ≤ 5) ∧ Within f.2.2.1 (VCal.ucount f.2.1 - 1) ∧ f.2.2.2 = []
instance (f : Leaf) : Decidable (LeafSane f) := by unfold LeafSane; exact inferInstance

abbrev Family := Option ((Int × Runs) ⊕ (Runs × Runs))

/-- A leaf's family. -/
def ofF (f : Leaf) : Family :=
  if ¬ LeafSane f ∨ f.2.2.1 = [] then none
  else if f.1 = false then some (.inl (f.2.1, f.2.2.1))
  else if f.2.2.2 = [] ∨ hiF f.2.2.2 < loF f.2.2.1 then none
  else some (.inr (clipF f.2.2.1 0 (hiF f.2.2.2), clipF f.2.2.2 (loF f.2.2.1) 3652424))

theorem of_units {f : Leaf} {u : Int} {s : Runs} (h : ofF f = some (.inl (u, s))) : f.1 = false ∧ LeafSane f ∧ u = f.2.1 ∧ s = f.2.2.1 ∧ s ≠ [] ∧ Within s (VCal.ucount u - 1) ∧ (0 ≤ u ∧ u ≤ 5) := by
  unfold ofF at h
  split at h
  · cases h
  · rename_i q
    rw [not_or, Decidable.not_not] at q
    split at h
    · rename_i e
      cases h
      have hs := q.1
      unfold LeafSane at hs
      rw [if_neg (by rw [e]; decide)] at hs
      exact ⟨e, q.1, rfl, rfl, q.2, hs.2.1, hs.1⟩
    · split at h <;> cases h

theorem of_span {f : Leaf} {a b : Runs} (h : ofF f = some (.inr (a, b))) : f.1 = true ∧ LeafSane f ∧ f.2.2.1 ≠ [] ∧ f.2.2.2 ≠ [] ∧ loF f.2.2.1 ≤ hiF f.2.2.2 ∧ Within f.2.2.1 3652424 ∧ Within f.2.2.2 3652424 ∧ a = clipF f.2.2.1 0 (hiF f.2.2.2) ∧ b = clipF f.2.2.2 (loF f.2.2.1) 3652424 := by
  unfold ofF at h
  split at h
  · cases h
  · rename_i q
    rw [not_or, Decidable.not_not] at q
    split at h
    · cases h
    · rename_i e
      split at h
      · cases h
      · rename_i e2
        cases h
        rw [not_or] at e2
        have hs := q.1
        have e1 : f.1 = true := by simpa using e
        unfold LeafSane at hs
        rw [if_pos e1] at hs
        exact ⟨e1, q.1, q.2, e2.1, by omega, hs.2.1, hs.2.2, rfl, rfl⟩

/-- The first start and the last end of a span that has pairs. -/
theorem span_ends {f : Leaf} {a b : Runs} (h : ofF f = some (.inr (a, b))) : Sane a ∧ Sane b ∧ a ≠ [] ∧ b ≠ [] ∧ loF a = loF f.2.2.1 ∧ hiF b = hiF f.2.2.2 := by
  obtain ⟨h1, h2, h3, h4, h5, h6, h7, rfl, rfl⟩ := of_span h
  have b1 := Within.bounds h6 (mem_lo h6.1 h3)
  have b2 := Within.bounds h7 (mem_hi h7.1 h4)
  have ma : mem (clipF f.2.2.1 0 (hiF f.2.2.2)) (loF f.2.2.1) := mem_clip.2 ⟨mem_lo h6.1 h3, b1.1, h5⟩
  have mb : mem (clipF f.2.2.2 (loF f.2.2.1) 3652424) (hiF f.2.2.2) := mem_clip.2 ⟨mem_hi h7.1 h4, h5, b2.2⟩
  have na : clipF f.2.2.1 0 (hiF f.2.2.2) ≠ [] := fun e => by rw [e] at ma; exact mem_nil ma
  have nb : clipF f.2.2.2 (loF f.2.2.1) 3652424 ≠ [] := fun e => by rw [e] at mb; exact mem_nil mb
  have sa := sane_clip (lo := 0) (hi := hiF f.2.2.2) h6.1
  have sb := sane_clip (lo := loF f.2.2.1) (hi := 3652424) h7.1
  refine ⟨sa, sb, na, nb, ?_, ?_⟩
  · have := mem_between sa ma
    have := mem_between h6.1 (mem_clip.1 (mem_lo sa na)).1
    omega
  · have := mem_between sb mb
    have := mem_between h7.1 (mem_clip.1 (mem_hi sb nb)).1
    omega

/-- Is a pair one of a leaf's? -/
def HasF (f : Leaf) (p : Int × Int) : Prop := match ofF f with
  | none => False
  | some (.inl (u, s)) => ∃ i, VCal.uof u p.1 = some i ∧ mem s i ∧ p = (VCal.ufirst u i, VCal.ulast u i)
  | some (.inr (a, b)) => p.1 ≤ p.2 ∧ mem a p.1 ∧ mem b p.2
end Go.Proofs.YtjeoelajkncpcaaDoor.V

/- The numbers of a set, and the pairs of a family, as lists: plain facts. No program in sight. -/
namespace Go.Proofs.YtjeoelajkncpcaaDoor.V
set_option linter.unusedVariables false
set_option linter.unusedSimpArgs false

/-- The numbers from one to another. -/
def upTo (lo hi : Int) : List Int := (List.range (hi + 1 - lo).toNat).map fun (k : Nat) => lo + (k : Int)

theorem upTo_nil {lo hi : Int} (h : hi < lo) : upTo lo hi = [] := by
  unfold upTo
  rw [show (hi + 1 - lo).toNat = 0 by omega]; rfl

theorem upTo_cons {lo hi : Int} (h : lo ≤ hi) : upTo lo hi = lo :: upTo (lo + 1) hi := by
  unfold upTo
  rw [show (hi + 1 - lo).toNat = (hi + 1 - (lo + 1)).toNat + 1 by omega, List.range_succ_eq_map, List.map_cons, List.map_map]
  congr 1
  · simp
  · apply List.map_congr_left
    intro k _
    simp only [Function.comp]
    omega

theorem mem_upTo {lo hi n : Int} : n ∈ upTo lo hi ↔ lo ≤ n ∧ n ≤ hi := by
  unfold upTo
  rw [List.mem_map]
  constructor
  · rintro ⟨k, hk, rfl⟩
    have := List.mem_range.1 hk
    omega
  · intro h
    exact ⟨(n - lo).toNat, List.mem_range.2 (by omega), by omega⟩

def nums (s : Runs) : List Int := s.flatMap fun r => upTo r.1 r.2

theorem mem_nums {s : Runs} {n : Int} : n ∈ nums s ↔ mem s n := by
  unfold nums mem
  rw [List.mem_flatMap]
  constructor
  · rintro ⟨r, hr, h⟩; exact ⟨r, hr, mem_upTo.1 h⟩
  · rintro ⟨r, hr, h⟩; exact ⟨r, hr, mem_upTo.2 h⟩

/-- A family's pairs, all of them. -/
def unitPairs (u : Int) (s : Runs) : List (Int × Int) := (nums s).map fun i => (VCal.ufirst u i, VCal.ulast u i)
def spanPairs (a b : Runs) : List (Int × Int) := (nums a).flatMap fun s => b.flatMap fun r => (upTo (max r.1 s) r.2).map fun t => (s, t)

def famPairs : Family → List (Int × Int)
  | none => []
  | some (.inl (u, s)) => unitPairs u s
  | some (.inr (a, b)) => spanPairs a b

/-- The first pairs. -/
def pairsF (f : Leaf) (n : Int) : List (Int × Int) := (famPairs (ofF f)).take (min n 1000).toNat

/-- A list that is being filled from another one, up to a length: 'rest' is what is still to come. -/
def Fill (all : List (Int × Int)) (n : Int) (out rest : List (Int × Int)) : Prop := (out.length : Int) ≤ max n 0 ∧ ∃ q, all = out ++ q ∧ ((out.length : Int) < n → q = rest)

theorem Fill.done {all out : List (Int × Int)} {n : Int} (h : Fill all n out []) : out = all.take n.toNat := by
  obtain ⟨h1, q, h2, h3⟩ := h
  by_cases hl : (out.length : Int) < n
  · have := h3 hl
    subst this
    rw [h2, List.append_nil, List.take_of_length_le (by omega)]
  · rw [h2, List.take_append_of_le_length (by omega), List.take_of_length_le (by omega)]

theorem Fill.step {all out rest : List (Int × Int)} {n : Int} {p : Int × Int} (h : Fill all n out (p :: rest)) (hl : (out.length : Int) < n) : Fill all n (out ++ [p]) rest := by
  obtain ⟨h1, q, h2, h3⟩ := h
  have := h3 hl
  subst this
  exact ⟨by simp; omega, rest, by rw [h2]; simp, fun _ => rfl⟩

theorem Fill.full {all out rest rest' : List (Int × Int)} {n : Int} (h : Fill all n out rest) (hl : ¬ (out.length : Int) < n) : Fill all n out rest' := by
  obtain ⟨h1, q, h2, h3⟩ := h
  exact ⟨h1, q, h2, fun k => absurd k hl⟩

theorem Fill.start {all : List (Int × Int)} {n : Int} : Fill all n [] all := ⟨by simp; omega, all, rfl, fun _ => rfl⟩

def CoversF (f : Leaf) (d : Int) : Prop := match ofF f with
  | none => False
  | some (.inl (u, s)) => ∃ i, VCal.uof u d = some i ∧ mem s i
  | some (.inr (a, b)) => loF a ≤ d ∧ d ≤ hiF b

/-- What a leaf that may be has. -/
theorem has_span {f : Leaf} {p : Int × Int} (h : LeafSane f) (hs : f.1 = true) : HasF f p ↔ (p.1 ≤ p.2 ∧ mem f.2.2.1 p.1 ∧ mem f.2.2.2 p.2) := by
  have h' := h
  unfold LeafSane at h'
  rw [if_pos hs] at h'
  obtain ⟨_, ha, hb⟩ := h'
  unfold HasF ofF
  by_cases ea : f.2.2.1 = []
  · rw [if_pos (.inr ea), ea]
    exact ⟨False.elim, fun q => (mem_nil q.2.1).elim⟩
  · rw [if_neg (by simp [h, ea]), if_neg (by simp [hs])]
    by_cases eb : f.2.2.2 = []
    · rw [if_pos (.inl eb), eb]
      exact ⟨False.elim, fun q => (mem_nil q.2.2).elim⟩
    · by_cases el : hiF f.2.2.2 < loF f.2.2.1
      · rw [if_pos (.inr el)]
        refine ⟨False.elim, fun ⟨q1, q2, q3⟩ => ?_⟩
        have := mem_between ha.1 q2
        have := mem_between hb.1 q3
        omega
      · rw [if_neg (by simp [eb, el])]
        dsimp only
        rw [mem_clip, mem_clip]
        constructor
        · rintro ⟨q1, q2, q3⟩; exact ⟨q1, q2.1, q3.1⟩
        · rintro ⟨q1, q2, q3⟩
          have := mem_between ha.1 q2
          have := mem_between hb.1 q3
          have := Within.bounds ha q2
          have := Within.bounds hb q3
          exact ⟨q1, ⟨q2, by omega, by omega⟩, ⟨q3, by omega, by omega⟩⟩

theorem has_units {f : Leaf} {p : Int × Int} (h : LeafSane f) (hs : f.1 = false) : HasF f p ↔ ∃ i, VCal.uof f.2.1 p.1 = some i ∧ mem f.2.2.1 i ∧ p = (VCal.ufirst f.2.1 i, VCal.ulast f.2.1 i) := by
  unfold HasF ofF
  by_cases ea : f.2.2.1 = []
  · rw [if_pos (.inr ea), ea]
    exact ⟨False.elim, fun ⟨i, _, q, _⟩ => (mem_nil q).elim⟩
  · rw [if_neg (by simp [h, ea]), if_pos hs]
end Go.Proofs.YtjeoelajkncpcaaDoor.V

/- Families' pairs, in their order: plain facts. No program in sight. -/
namespace Go.Proofs.YtjeoelajkncpcaaDoor.V
set_option linter.unusedVariables false
set_option linter.unusedSimpArgs false

/-- A pair is ahead of another. -/
def ltP (p q : Int × Int) : Prop := p.1 < q.1 ∨ (p.1 = q.1 ∧ p.2 < q.2)
instance (p q : Int × Int) : Decidable (ltP p q) := inferInstanceAs (Decidable (_ ∨ _))

theorem upTo_sorted (lo hi : Int) : (upTo lo hi).Pairwise (· < ·) := by
  unfold upTo
  rw [List.pairwise_map]
  exact List.pairwise_lt_range.imp fun h => by omega

theorem sane_sorted : ∀ {s : Runs} {a : Int}, SaneFrom a s → s.Pairwise (fun r q => r.2 < q.1)
  | [], _, _ => .nil
  | r :: s, a, h => .cons (fun q hq => by have := (SaneFrom.lt h.2.2.2 q hq).1; omega) (sane_sorted h.2.2.2)

theorem nums_sorted {s : Runs} (h : Sane s) : (nums s).Pairwise (· < ·) := by
  unfold nums
  rw [List.pairwise_flatMap]
  refine ⟨fun r _ => upTo_sorted _ _, (sane_sorted h).imp fun hr x hx y hy => ?_⟩
  have := mem_upTo.1 hx
  have := mem_upTo.1 hy
  omega

theorem ufirst_lt {u i j : Int} (h0 : 0 ≤ i) (hij : i < j) (hj : j < VCal.ucount u) : VCal.ulast u i < VCal.ufirst u j := by
  have h1 := VCal.unit_in (kind := u) (i := j) (by omega) hj
  have h2 := VCal.unit_in (kind := u) (i := i) h0 (by omega)
  have key : ∀ d, VCal.ufirst u j ≤ d → d ≤ VCal.ulast u j → ¬ (VCal.ufirst u i ≤ d ∧ d ≤ VCal.ulast u i) := fun d d1 d2 ⟨d3, d4⟩ => by
    have e1 := VCal.uof_some.2 (show 0 ≤ j ∧ j < VCal.ucount u ∧ VCal.ufirst u j ≤ d ∧ d ≤ VCal.ulast u j from ⟨by omega, hj, d1, d2⟩)
    have e2 := VCal.uof_some.2 (show 0 ≤ i ∧ i < VCal.ucount u ∧ VCal.ufirst u i ≤ d ∧ d ≤ VCal.ulast u i from ⟨h0, by omega, d3, d4⟩)
    rw [e1] at e2
    cases e2
    omega
  have step : ∀ (n : Nat) (i : Int), 0 ≤ i → i + n + 1 < VCal.ucount u → VCal.ulast u i < VCal.ufirst u (i + n + 1) := by
    intro n
    induction n with
    | zero =>
      intro i hi hl
      have := VCal.ulast_next (kind := u) (i := i) (by omega)
      rw [show i + (0 : Nat) + 1 = i + 1 by omega]
      omega
    | succ n ih =>
      intro i hi hl
      have a1 := ih i hi (by omega)
      have a2 := VCal.ulast_next (kind := u) (i := i + n + 1) (by omega)
      have a3 := VCal.unit_in (kind := u) (i := i + n + 1) (by omega) (by omega)
      rw [show i + ((n + 1 : Nat) : Int) + 1 = i + n + 1 + 1 by omega]
      omega
  obtain ⟨n, hn⟩ := Int.eq_ofNat_of_zero_le (show 0 ≤ j - i - 1 by omega)
  have := step n i h0 (by omega)
  rwa [show i + (n : Int) + 1 = j by omega] at this

theorem unitPairs_sorted {u : Int} {s : Runs} (h : Within s (VCal.ucount u - 1)) : (unitPairs u s).Pairwise ltP := by
  unfold unitPairs
  rw [List.pairwise_map]
  refine List.Pairwise.imp_of_mem ?_ (nums_sorted h.1)
  intro i j hi hj hij
  have b1 := Within.bounds h (mem_nums.1 hi)
  have b2 := Within.bounds h (mem_nums.1 hj)
  have := ufirst_lt (u := u) (i := i) (j := j) (by omega) hij (by omega)
  have := VCal.unit_in (kind := u) (i := i) (by omega) (by omega)
  exact .inl (by dsimp only; omega)

theorem spanPairs_sorted {a b : Runs} (ha : Sane a) (hb : Sane b) : (spanPairs a b).Pairwise ltP := by
  unfold spanPairs
  rw [List.pairwise_flatMap]
  refine ⟨fun s _ => ?_, (nums_sorted ha).imp fun hst x hx y hy => ?_⟩
  · rw [List.pairwise_flatMap]
    refine ⟨fun r _ => ?_, (sane_sorted hb).imp fun hr x hx y hy => ?_⟩
    · rw [List.pairwise_map]
      exact (upTo_sorted _ _).imp fun h => .inr ⟨rfl, h⟩
    · obtain ⟨t, ht, rfl⟩ := List.mem_map.1 hx
      obtain ⟨v, hv, rfl⟩ := List.mem_map.1 hy
      have := mem_upTo.1 ht
      have := mem_upTo.1 hv
      exact .inr ⟨rfl, by dsimp only; omega⟩
  · obtain ⟨r, _, h⟩ := List.mem_flatMap.1 hx
    obtain ⟨t, _, rfl⟩ := List.mem_map.1 h
    obtain ⟨r, _, h⟩ := List.mem_flatMap.1 hy
    obtain ⟨v, _, rfl⟩ := List.mem_map.1 h
    exact .inl hst

theorem fam_sorted (f : Leaf) : (famPairs (ofF f)).Pairwise ltP := by
  rcases ho : ofF f with _ | ⟨u, s⟩ | ⟨a, b⟩
  · exact .nil
  · obtain ⟨h1, h2, h3, h4, h5, h6, h7⟩ := of_units ho
    exact unitPairs_sorted h6
  · obtain ⟨sa, sb, _⟩ := span_ends ho
    exact spanPairs_sorted sa sb

theorem fam_has {f : Leaf} {p : Int × Int} (h : HasF f p) : p ∈ famPairs (ofF f) := by
  unfold HasF at h
  rcases ho : ofF f with _ | ⟨u, s⟩ | ⟨a, b⟩
  · rw [ho] at h; exact h.elim
  · rw [ho] at h
    obtain ⟨i, hi, hm, e⟩ := h
    exact List.mem_map.2 ⟨i, mem_nums.2 hm, e.symm⟩
  · rw [ho] at h
    obtain ⟨h1, h2, r, hr, h3, h4⟩ := h
    exact List.mem_flatMap.2 ⟨p.1, mem_nums.2 h2, List.mem_flatMap.2 ⟨r, hr, List.mem_map.2 ⟨p.2, mem_upTo.2 ⟨by omega, h4⟩, rfl⟩⟩⟩

theorem nums_ne {s : Runs} (h : Sane s) (hn : s ≠ []) : nums s ≠ [] := fun e => by
  have := mem_nums.2 (mem_lo h hn)
  rw [e] at this
  cases this

theorem fam_some {f : Leaf} : famPairs (ofF f) = [] ↔ ofF f = none := by
  rcases ho : ofF f with _ | ⟨u, s⟩ | ⟨a, b⟩
  · exact ⟨fun _ => rfl, fun _ => rfl⟩
  · obtain ⟨h1, h2, h3, h4, h5, h6, h7⟩ := of_units ho
    refine ⟨fun e => ?_, fun e => by cases e⟩
    exact absurd (List.map_eq_nil_iff.1 e) (nums_ne h6.1 h5)
  · refine ⟨fun e => ?_, fun e => by cases e⟩
    exfalso
    obtain ⟨h1, h2, h3, h4, h5, h6, h7, e1, e2⟩ := of_span ho
    obtain ⟨sa, sb, na, nb, l1, l2⟩ := span_ends ho
    obtain ⟨r, hr, q⟩ := hiF_get nb
    have hrm := List.mem_of_getElem? hr
    have hrb := (SaneFrom.lt sb r hrm).2.1
    have : (loF a, hiF b) ∈ famPairs (some (.inr (a, b))) := List.mem_flatMap.2 ⟨loF a, mem_nums.2 (mem_lo sa na), List.mem_flatMap.2 ⟨r, hrm, List.mem_map.2 ⟨hiF b, mem_upTo.2 ⟨by omega, by omega⟩, rfl⟩⟩⟩
    rw [e] at this
    cases this
end Go.Proofs.YtjeoelajkncpcaaDoor.V

/- Swaps within a part of a list, and what is sorted: plain laws. No condition of its own. -/
namespace Go.Proofs.YtjeoelajkncpcaaDoor.V
open Go
set_option linter.unusedVariables false
set_option linter.unusedSimpArgs false

abbrev PR := Int × Int

/-- The element at a place. -/
def el (xs : List PR) (k : Nat) : PR := xs.getD k (0, 0)
/-- Its key. -/
def ky (xs : List PR) (k : Nat) : Int := (el xs k).1
/-- Two places' elements change places. -/
def sw (xs : List PR) (i j : Nat) : List PR := (xs.set i (el xs j)).set j (el xs i)

theorem sw_length (xs : List PR) (i j : Nat) : (sw xs i j).length = xs.length := by simp [sw]

theorem el_get {xs : List PR} {k : Nat} (h : k < xs.length) : xs[k]? = some (el xs k) := by
  unfold el
  rw [List.getD_eq_getElem?_getD, List.getElem?_eq_getElem h]
  rfl

theorem el_set {xs : List PR} {i k : Nat} {v : PR} (h : i < xs.length) : el (xs.set i v) k = if k = i then v else el xs k := by
  unfold el
  rw [List.getD_eq_getElem?_getD, List.getD_eq_getElem?_getD, List.getElem?_set]
  by_cases e : i = k
  · subst e; simp [h]
  · rw [if_neg e, if_neg (Ne.symm e)]

theorem el_sw {xs : List PR} {i j k : Nat} (hi : i < xs.length) (hj : j < xs.length) : el (sw xs i j) k = if k = j then el xs i else if k = i then el xs j else el xs k := by
  unfold sw
  rw [el_set (by simpa using hj), el_set hi]

theorem ky_sw {xs : List PR} {i j k : Nat} (hi : i < xs.length) (hj : j < xs.length) : ky (sw xs i j) k = if k = j then ky xs i else if k = i then ky xs j else ky xs k := by
  unfold ky
  rw [el_sw hi hj]
  split
  · rfl
  · split <;> rfl

theorem sw_perm {xs : List PR} {i j : Nat} (hi : i < xs.length) (hj : j < xs.length) : (sw xs i j).Perm xs := by
  rw [List.perm_iff_count]
  intro a
  have h1 := List.count_set (a := el xs j) (b := a) hi
  have h2 := List.count_set (a := el xs i) (b := a) (l := xs.set i (el xs j)) (i := j) (by simpa using hj)
  unfold sw
  rw [h2, h1]
  have e1 : xs[i] = el xs i := by have := el_get hi; rw [List.getElem?_eq_getElem hi] at this; exact Option.some.inj this
  have e2 : (xs.set i (el xs j))[j]'(by simpa using hj) = if j = i then el xs j else el xs j := by
    rw [List.getElem_set]
    have e3 : xs[j] = el xs j := by have := el_get hj; rw [List.getElem?_eq_getElem hj] at this; exact Option.some.inj this
    by_cases e : i = j
    · simp [e]
    · rw [if_neg e, e3]; simp
  rw [e2, e1, ite_self]
  have hpos : el xs i = a → 1 ≤ xs.count a := fun e => by
    subst e
    exact List.count_pos_iff.2 (List.mem_of_getElem? (el_get hi))
  by_cases p : el xs i = a <;> by_cases q : el xs j = a
  · have := hpos p; simp [p, q]; omega
  · have := hpos p; simp [p, q]; omega
  · simp [p, q]
  · simp [p, q]

/-- Swaps within a part. -/
inductive Sw (a b : Nat) (xs : List PR) : List PR → Prop
  | refl : Sw a b xs xs
  | step {ys : List PR} (i j : Nat) : Sw a b xs ys → a ≤ i → i < b → a ≤ j → j < b → b ≤ xs.length → Sw a b xs (sw ys i j)

section
variable {a b : Nat} {xs ys zs : List PR}

theorem Sw.length (h : Sw a b xs ys) : ys.length = xs.length := by
  induction h with
  | refl => rfl
  | step i j h _ _ _ _ _ ih => rw [sw_length, ih]

theorem Sw.perm (h : Sw a b xs ys) : ys.Perm xs := by
  induction h with
  | refl => exact List.Perm.refl _
  | step i j h h1 h2 h3 h4 h5 ih => exact (sw_perm (by rw [h.length]; omega) (by rw [h.length]; omega)).trans ih

theorem Sw.outside (h : Sw a b xs ys) {k : Nat} (hk : k < a ∨ b ≤ k) : el ys k = el xs k := by
  induction h with
  | refl => rfl
  | step i j h h1 h2 h3 h4 h5 ih =>
    rw [el_sw (by rw [h.length]; omega) (by rw [h.length]; omega), if_neg (by omega), if_neg (by omega), ih]

theorem Sw.each (h : Sw a b xs ys) {P : PR → Prop} (hP : ∀ k, a ≤ k → k < b → P (el xs k)) : ∀ k, a ≤ k → k < b → P (el ys k) := by
  induction h with
  | refl => exact hP
  | step i j h h1 h2 h3 h4 h5 ih =>
    intro k hk hk2
    rw [el_sw (by rw [h.length]; omega) (by rw [h.length]; omega)]
    split
    · exact ih i h1 h2
    · split
      · exact ih j h3 h4
      · exact ih k hk hk2

theorem Sw.trans (h : Sw a b xs ys) (k : Sw a b ys zs) : Sw a b xs zs := by
  induction k with
  | refl => exact h
  | step i j k h1 h2 h3 h4 h5 ih => exact .step i j ih h1 h2 h3 h4 (by rw [← h.length]; exact h5)

theorem Sw.wider {a' b' : Nat} (h : Sw a b xs ys) (ha : a' ≤ a) (hb : b ≤ b') (hl : b' ≤ xs.length) : Sw a' b' xs ys := by
  induction h with
  | refl => exact .refl
  | step i j h h1 h2 h3 h4 h5 ih => exact .step i j ih (by omega) (by omega) (by omega) (by omega) hl
end

/-- Keys rise, from one place up to another. -/
def Srt (xs : List PR) (a b : Nat) : Prop := ∀ i j, a ≤ i → i < j → j < b → ky xs i ≤ ky xs j

theorem Srt.small {xs : List PR} {a b : Nat} (h : b ≤ a + 1) : Srt xs a b := fun i j h1 h2 h3 => by omega

theorem Srt.of_step {xs : List PR} {a b : Nat} (h : ∀ i, a ≤ i → i + 1 < b → ky xs i ≤ ky xs (i + 1)) : Srt xs a b := by
  intro i j h1 h2 h3
  induction j with
  | zero => omega
  | succ j ih =>
    rcases Nat.lt_or_eq_of_le (Nat.le_of_lt_succ h2) with q | q
    · exact Int.le_trans (ih q (by omega)) (h j (by omega) h3)
    · subst q; exact h i h1 h3

/-- A heap below a node: children from a node on are no greater than their parents. -/
def Heap (xs : List PR) (first hi lo : Nat) : Prop := ∀ p c, lo ≤ p → (c = 2 * p + 1 ∨ c = 2 * p + 2) → c < hi → ky xs (first + c) ≤ ky xs (first + p)

theorem Heap.top {xs : List PR} {first hi : Nat} (h : Heap xs first hi 0) : ∀ c, c < hi → ky xs (first + c) ≤ ky xs first := by
  intro c
  induction c using Nat.strongRecOn with
  | _ c ih =>
    intro hc
    cases c with
    | zero => exact Int.le_refl _
    | succ c =>
      have h1 := ih (c / 2) (by omega) (by omega)
      have h2 := h (c / 2) (c + 1) (Nat.zero_le _) (by omega) hc
      exact Int.le_trans h2 h1

/-- A window: what is left and right of it is sorted, and apart from what is in it. -/
structure Win (a b lo hi : Nat) (ys : List PR) : Prop where
  s1 : Srt ys a lo
  s2 : Srt ys hi b
  c1 : ∀ p q, a ≤ p → p < lo → lo ≤ q → q < b → ky ys p ≤ ky ys q
  c2 : ∀ p q, a ≤ p → p < hi → hi ≤ q → q < b → ky ys p ≤ ky ys q

section
variable {a b lo hi : Nat} {ys zs : List PR}

theorem Win.start : Win a b a b ys := ⟨Srt.small (by omega), Srt.small (by omega), fun p q h1 h2 => by omega, fun p q h1 h2 h3 h4 => by omega⟩

theorem Win.done (h : Win a b lo hi ys) (hs : Srt ys lo hi) : Srt ys a b := by
  intro p q h1 h2 h3
  by_cases e1 : q < lo
  · exact h.s1 p q h1 h2 e1
  · by_cases e2 : p < lo
    · exact h.c1 p q h1 e2 (by omega) h3
    · by_cases e3 : q < hi
      · exact hs p q (by omega) h2 e3
      · by_cases e4 : p < hi
        · exact h.c2 p q h1 e4 (by omega) h3
        · exact h.s2 p q (by omega) h2 h3

theorem Sw.kyout (h : Sw a b ys zs) {k : Nat} (hk : k < a ∨ b ≤ k) : ky zs k = ky ys k := by unfold ky; rw [h.outside hk]

theorem Win.sw (h : Win a b lo hi ys) (hs : Sw lo hi ys zs) (h0 : a ≤ lo) (h1 : hi ≤ b) : Win a b lo hi zs := by
  refine ⟨fun p q q1 q2 q3 => ?_, fun p q q1 q2 q3 => ?_, fun p q q1 q2 q3 q4 => ?_, fun p q q1 q2 q3 q4 => ?_⟩
  · rw [hs.kyout (.inl (by omega)), hs.kyout (.inl (by omega))]; exact h.s1 p q q1 q2 q3
  · rw [hs.kyout (.inr (by omega)), hs.kyout (.inr (by omega))]; exact h.s2 p q q1 q2 q3
  · rw [hs.kyout (.inl (by omega))]
    by_cases e : q < hi
    · exact hs.each (P := fun x => ky ys p ≤ x.1) (fun k k1 k2 => h.c1 p k q1 q2 k1 (by omega)) q q3 e
    · rw [hs.kyout (.inr (by omega))]; exact h.c1 p q q1 q2 q3 q4
  · rw [hs.kyout (k := q) (.inr (by omega))]
    by_cases e : p < lo
    · rw [hs.kyout (.inl e)]; exact h.c2 p q q1 q2 q3 q4
    · exact hs.each (P := fun x => x.1 ≤ ky ys q) (fun k k1 k2 => h.c2 k q (by omega) k2 q3 q4) p (by omega) q2

theorem Win.cutL {m : Nat} (h : Win a b lo hi ys) (h0 : a ≤ lo) (h1 : lo ≤ m) (h2 : m ≤ hi) (hs : Srt ys lo m) (hc : ∀ p q, lo ≤ p → p < m → m ≤ q → q < hi → ky ys p ≤ ky ys q) (hb : hi ≤ b) : Win a b m hi ys := by
  refine ⟨fun p q q1 q2 q3 => ?_, h.s2, fun p q q1 q2 q3 q4 => ?_, h.c2⟩
  · by_cases e : q < lo
    · exact h.s1 p q q1 q2 e
    · by_cases e2 : p < lo
      · exact h.c1 p q q1 e2 (by omega) (by omega)
      · exact hs p q (by omega) q2 q3
  · by_cases e : p < lo
    · exact h.c1 p q q1 e (by omega) q4
    · by_cases e2 : q < hi
      · exact hc p q (by omega) q2 q3 e2
      · exact h.c2 p q q1 (by omega) (by omega) q4

theorem Win.cutR {m : Nat} (h : Win a b lo hi ys) (h0 : a ≤ lo) (h1 : lo ≤ m) (h2 : m ≤ hi) (hs : Srt ys m hi) (hc : ∀ p q, lo ≤ p → p < m → m ≤ q → q < hi → ky ys p ≤ ky ys q) (hb : hi ≤ b) : Win a b lo m ys := by
  refine ⟨h.s1, fun p q q1 q2 q3 => ?_, h.c1, fun p q q1 q2 q3 q4 => ?_⟩
  · by_cases e : q < hi
    · exact hs p q q1 q2 e
    · by_cases e2 : p < hi
      · exact h.c2 p q (by omega) e2 (by omega) q3
      · exact h.s2 p q (by omega) q2 q3
  · by_cases e : q < hi
    · by_cases e2 : p < lo
      · exact h.c1 p q q1 e2 (by omega) q4
      · exact hc p q (by omega) q2 q3 e
    · exact h.c2 p q q1 (by omega) (by omega) q4

/-- What lies behind a place is no less than what lies ahead of the part. -/
def Pre (xs : List PR) (a b : Nat) : Prop := a = 0 ∨ ∀ k, a ≤ k → k < b → ky xs (a - 1) ≤ ky xs k

theorem Pre.sw {xs : List PR} (h : Pre xs a b) (hs : Sw a b xs ys) : Pre ys a b := by
  rcases h with h | h
  · exact .inl h
  · by_cases e : a = 0
    · exact .inl e
    · refine .inr ?_
      rw [hs.kyout (.inl (by omega))]
      exact hs.each (P := fun x => ky xs (a - 1) ≤ x.1) h
end
end Go.Proofs.YtjeoelajkncpcaaDoor.V

