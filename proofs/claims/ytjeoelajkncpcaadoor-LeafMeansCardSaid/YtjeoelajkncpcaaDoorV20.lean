/- Loops: the state at a round's head is as the condition says. No condition of its own. -/
import Derived.Test.YtjeoelajkncpcaaDoorV19
import Derived.Scope
namespace Go.Proofs.YtjeoelajkncpcaaDoor.V
open Go Go.RowKit
set_option linter.unusedVariables false
set_option linter.unusedSimpArgs false

/-- What a loop's rounds leave alone. -/
noncomputable def loopFx (fx : Fx) (hv W' : List Nat) (bk : List Cn) (st : St) (a : Act) : Fx :=
  { W := W', tmps := a.tmps, fe := fun i => cond (hv.contains i) none (match st.hp[i]?, bk[i]? with
      | some e, some k => some (e.lock, k)
      | _, _ => none), gh := J st.hp bk, n0 := fx.n0, keep := fx.keep }

/-- What is so of the parts of a round's head. -/
def HeadN (lv hv : List Nat) (sl : List Slot) : Prop := ∀ (j i : Nat), hv[j]? = some i → ∃ y, sl[lv.length + j]? = some (.n y) ∧ y.md = .own

section
variable {c : Cfg} {m0 : Mem} {w0 : World} {fx fx' : Fx} {m m1 m' : Mem} {bk bk' : List Cn} {st st' : St} {a a' : Act} {w w' : World}

theorem ownAll_spec {hp : List Ent} {hv : List Nat} (h : ownAll hp hv = true) {i : Nat} (hi : i ∈ hv) : ∃ x, hp[i]? = some x ∧ x.md = .own := by
  have := List.all_eq_true.1 h i hi
  split at this
  · rename_i x hx
    refine ⟨x, hx, ?_⟩
    cases hm : x.md with
    | own => rfl
    | lock => rw [hm] at this; cases this
    | froz => rw [hm] at this; cases this
  · cases this

theorem headN_mk {lv hv : List Nat} {hp0 : List Ent} {ap : List Nat} (ho : ownAll st.hp hv = true) (x : (shL (slotsOf hp0 ap st lv hv)).Val) : HeadN lv hv (mkL (slotsOf hp0 ap st lv hv) x) := by
  intro j i hj
  obtain ⟨e, he, hmd⟩ := ownAll_spec ho (List.mem_of_getElem? hj)
  have hs : (slotsOf hp0 ap st lv hv)[lv.length + j]? = some (.n (nrmN hp0 st.hp ap i e)) := by
    unfold slotsOf
    rw [List.getElem?_append_right (by simp)]
    simp [hj, he]
  obtain ⟨y, hy⟩ := mkL_get _ x hs
  cases e with
  | box o cs => exact ⟨_, hy, hmd⟩
  | row o v el s xs => exact ⟨_, hy, hmd⟩

theorem slots_own {lv hv : List Nat} {hp0 : List Ent} {ap : List Nat} (ho : ownAll st.hp hv = true) : ∀ s ∈ slotsOf hp0 ap st lv hv, s.ownN := by
  intro s hs
  unfold slotsOf at hs
  rcases List.mem_append.1 hs with h | h
  · obtain ⟨t, _, rfl⟩ := List.mem_map.1 h; trivial
  · obtain ⟨i, hi, rfl⟩ := List.mem_map.1 h
    obtain ⟨e, he, hmd⟩ := ownAll_spec ho hi
    rw [he]
    cases e <;> exact hmd

theorem headOf_get {lv hv W' : List Nat} {sl : List Slot} (i : Nat) : (headOf st lv hv W' sl).hp[i]? = (st.hp[i]?).map fun x => match getN hv (sl.drop lv.length) i with | some y => y | none => x.lock := by
  have := laidIn_get hv (sl.drop lv.length) 0 st.hp i
  rwa [Nat.zero_add] at this

theorem not_blt {a b : Nat} (h : a < b) : Nat.blt a b = true := Nat.ble_eq_true_of_le h

/-- THE HEAD: the state behind a round, or ahead of the loop, as that at a round's head. -/
theorem head_sat {lv hv W' : List Nat} {sl : List Slot} (S : Sat c m0 w0 fx m bk st a w) (S' : Sat c m1 w0 fx' m' bk' st' a' w') (hn0 : fx'.n0 = fx.n0) (hkp : fx'.keep = fx.keep) (hext : Mem.ext fx.n0 m m')
    (hW : ∀ d ∈ W', d < a.tmps.size) (hsz : a'.tmps.size = a.tmps.size) (htm : ∀ i, i ∉ W' → a'.tmps[i]? = a.tmps[i]?) (hgh : ∀ e u, J st.hp bk e u → J st'.hp bk' e u)
    (hfe : ∀ (i : Nat) e, i ∉ hv → st.hp[i]? = some e → (st'.hp[i]? = some e ∨ st'.hp[i]? = some e.lock) ∧ bk'[i]? = bk[i]?)
    (ho : ownAll st.hp hv = true) (hN : HeadN lv hv sl) (hsl : SWkL sl (slotsOf st.hp (apOf st lv hv) st' lv hv)) :
    Sat c m w0 (loopFx fx hv W' bk st a) m' (bk'.take st.hp.length) (headOf st lv hv W' sl) a' w' := by
  have hap : ∀ i, (apOf st lv hv).contains i = true → i ∈ hv := by
    intro i hi
    have := List.contains_iff_mem.1 hi
    unfold apOf at this
    have := (List.mem_filter.1 this).2
    simpa using this
  have hnap : ∀ i, i ∉ hv → (apOf st lv hv).contains i = false := by
    intro i hi
    cases hc : (apOf st lv hv).contains i with
    | false => rfl
    | true => exact absurd (hap i hc) hi
  have hlt : ∀ {i : Nat} {e : Ent}, st.hp[i]? = some e → i < st.hp.length := fun h => (List.getElem?_eq_some_iff.1 h).1
  have hbk : ∀ {i : Nat}, i < st.hp.length → (bk'.take st.hp.length)[i]? = bk'[i]? := fun h => by rw [List.getElem?_take]; simp [h]
  have hnone : ∀ {i : Nat}, getN hv (sl.drop lv.length) i = none → i ∉ hv := fun h => getN_none (fun j t hj => by
    obtain ⟨y, hy, _⟩ := hN j t hj
    exact ⟨y, by rw [List.getElem?_drop]; exact hy⟩) h
  -- blocks that do not vary
  have factA : ∀ {i : Nat} {e : Ent}, st.hp[i]? = some e → i ∉ hv → (headOf st lv hv W' sl).hp[i]? = some e.lock := by
    intro i e he hi
    rw [headOf_get, he]
    cases hg : getN hv (sl.drop lv.length) i with
    | none => rfl
    | some y => obtain ⟨j, h1, _⟩ := getN_spec hg; exact absurd (List.mem_of_getElem? h1) hi
  -- blocks that vary
  have factB : ∀ {i : Nat}, i ∈ hv → i < st.hp.length ∧ ∃ y x, (headOf st lv hv W' sl).hp[i]? = some y ∧ y.md = .own ∧ st'.hp[i]? = some x ∧ SWk (.n y) (.n (nrmN st.hp st'.hp (apOf st lv hv) i x)) := by
    intro i hi
    obtain ⟨e, he, _⟩ := ownAll_spec ho hi
    refine ⟨hlt he, ?_⟩
    cases hg : getN hv (sl.drop lv.length) i with
    | none => exact absurd hi (hnone hg)
    | some y =>
      obtain ⟨j, h1, h2⟩ := getN_spec hg
      rw [List.getElem?_drop] at h2
      obtain ⟨y', h3, h4⟩ := hN j i h1
      rw [h2] at h3
      cases h3
      obtain ⟨u, h5, h6⟩ := SWkL_get hsl h2
      unfold slotsOf at h5
      rw [List.getElem?_append_right (by simp)] at h5
      simp only [List.length_map, Nat.add_sub_cancel_left, List.getElem?_map, h1, Option.map_some, Option.some.injEq] at h5
      subst h5
      cases hx : st'.hp[i]? with
      | none =>
        rw [hx] at h6
        cases y with
        | box _ _ => obtain ⟨ds, q, _⟩ := h6; cases q
        | row _ _ _ _ _ => cases h6
      | some x =>
        rw [hx] at h6
        exact ⟨y, x, by rw [headOf_get, he, hg]; rfl, h4, rfl, h6⟩
  -- words behind the round, as words at the head
  have hJN : ∀ e u, (match e with
      | .box id off => id < st.hp.length ∧ J st'.hp bk' (.box id off) u
      | .row id ver => id < st.hp.length ∧ ∃ md v el s xs, st'.hp[id]? = some (.row md v el s xs) ∧ bk'[id]? = some (.row u) ∧ ver = nrmV st.hp (apOf st lv hv) id v
      | _ => False) → J (headOf st lv hv W' sl).hp (bk'.take st.hp.length) e u := by
    intro e u h
    cases e <;> try exact False.elim h
    case box id off =>
      obtain ⟨hid, md, cs, b, h1, h2, h3⟩ := h
      by_cases hi : id ∈ hv
      · obtain ⟨_, y, x, q1, q2, q3, q4⟩ := factB hi
        rw [h1] at q3; cases q3
        cases y with
        | row _ _ _ _ _ => cases q4
        | box md2 cs2 => exact ⟨md2, cs2, b, q1, by rw [hbk hid]; exact h2, h3⟩
      · have he := List.getElem?_eq_getElem hid
        have q1 := factA he hi
        obtain ⟨q2, q3⟩ := hfe _ _ hi he
        obtain ⟨md2, l1, _, _⟩ := (st.hp[id]).lock_eq
        have : ∃ md3, (st.hp[id]).lock = .box md3 cs := by
          rcases q2 with q | q
          · have e := Option.some.inj (h1.symm.trans q)
            exact ⟨md2, by rw [l1, ← e]; rfl⟩
          · exact ⟨md, (Option.some.inj (h1.symm.trans q)).symm⟩
        obtain ⟨md3, h4⟩ := this
        exact ⟨md3, cs, b, by rw [q1, h4], by rw [hbk hid]; exact h2, h3⟩
    case row id ver =>
      obtain ⟨hid, md, v, el, s, xs, h1, h2, h3⟩ := h
      by_cases hi : id ∈ hv
      · obtain ⟨_, y, x, q1, q2, q3, q4⟩ := factB hi
        rw [h1] at q3; cases q3
        cases y with
        | box _ _ => obtain ⟨ds, q, _⟩ := q4; cases q
        | row md2 v2 el2 s2 xs2 =>
          cases q4
          exact ⟨_, _, _, _, _, u, q1, by rw [hbk hid]; exact h2, by rw [h3]; exact Nat.le_refl _, fun _ => rfl⟩
      · have he := List.getElem?_eq_getElem hid
        have q1 := factA he hi
        obtain ⟨q2, q3⟩ := hfe _ _ hi he
        obtain ⟨md2, l1, _, _⟩ := (st.hp[id]).lock_eq
        have hv' : nrmV st.hp (apOf st lv hv) id v = v := by unfold nrmV; rw [hnap id hi]; rfl
        have : ∃ md3, (st.hp[id]).lock = .row md3 v el s xs := by
          rcases q2 with q | q
          · have e := Option.some.inj (h1.symm.trans q)
            exact ⟨md2, by rw [l1, ← e]; rfl⟩
          · exact ⟨md, (Option.some.inj (h1.symm.trans q)).symm⟩
        obtain ⟨md3, h4⟩ := this
        exact ⟨md3, v, el, s, xs, u, by rw [q1, h4], by rw [hbk hid]; exact h2, by rw [h3, hv']; exact Nat.le_refl _, fun _ => rfl⟩
  -- the loop's own words
  have hW0 : ∀ e u, (∃ u0, J st.hp bk e u0) → J st'.hp bk' e u → J (headOf st lv hv W' sl).hp (bk'.take st.hp.length) e u := by
    intro e u ⟨u0, h0⟩ h
    cases e <;> try exact False.elim h
    case box id off =>
      obtain ⟨md, cs, b, h1, _⟩ := h0
      exact hJN (.box id off) u ⟨hlt h1, h⟩
    case row id ver =>
      obtain ⟨md0, v0, el0, s0, xs0, cv0, p1, p2, p3, _⟩ := h0
      obtain ⟨md, v, el, s, xs, cv, h1, h2, h3, h4⟩ := h
      by_cases hi : id ∈ hv
      · obtain ⟨_, y, x, q1, q2, q3, q4⟩ := factB hi
        rw [h1] at q3; cases q3
        cases y with
        | box _ _ => obtain ⟨ds, q, _⟩ := q4; cases q
        | row md2 v2 el2 s2 xs2 =>
          cases q4
          cases hc : (apOf st lv hv).contains id with
          | true =>
            have hv' : nrmV st.hp (apOf st lv hv) id v = v0 + 1 := by unfold nrmV; rw [hc, p1]; rfl
            exact ⟨_, _, _, _, _, cv, q1, by rw [hbk (hlt p1)]; exact h2, by rw [hv']; omega, fun q => by rw [hv'] at q; omega⟩
          | false =>
            have hv' : nrmV st.hp (apOf st lv hv) id v = v := by unfold nrmV; rw [hc]; rfl
            exact ⟨_, _, _, _, _, cv, q1, by rw [hbk (hlt p1)]; exact h2, by rw [hv']; exact h3, fun q => h4 (by rw [hv'] at q; exact q)⟩
      · have q1 := factA p1 hi
        obtain ⟨q2, q3⟩ := hfe _ _ hi p1
        have hvv : v = v0 := by
          rcases q2 with q | q
          · rw [h1] at q; cases q; rfl
          · rw [h1] at q
            obtain ⟨md2, l1, _, _⟩ := (Ent.row md0 v0 el0 s0 xs0).lock_eq
            rw [l1] at q; cases q; rfl
        obtain ⟨md2, l1, _, _⟩ := (Ent.row md0 v0 el0 s0 xs0).lock_eq
        exact ⟨md2, v0, el0, s0, xs0, cv, by rw [q1, l1]; rfl, by rw [hbk (hlt p1)]; exact h2, p3, fun q => h4 (by rw [hvv]; exact q)⟩
    case rp id ver kk off =>
      obtain ⟨md0, v0, el0, s0, xs0, cv0, p1, p2, p3, _⟩ := h0
      obtain ⟨md, v, el, s, xs, cv, h1, h2, h3, h4⟩ := h
      by_cases hi : id ∈ hv
      · obtain ⟨_, y, x, q1, q2, q3, q4⟩ := factB hi
        rw [h1] at q3; cases q3
        cases y with
        | box _ _ => obtain ⟨ds, q, _⟩ := q4; cases q
        | row md2 v2 el2 s2 xs2 =>
          cases q4
          cases hc : (apOf st lv hv).contains id with
          | true =>
            have hv' : nrmV st.hp (apOf st lv hv) id v = v0 + 1 := by unfold nrmV; rw [hc, p1]; rfl
            exact ⟨_, _, _, _, _, cv, q1, by rw [hbk (hlt p1)]; exact h2, by rw [hv']; omega, fun q => by rw [hv'] at q; omega⟩
          | false =>
            have hv' : nrmV st.hp (apOf st lv hv) id v = v := by unfold nrmV; rw [hc]; rfl
            exact ⟨_, _, _, _, _, cv, q1, by rw [hbk (hlt p1)]; exact h2, by rw [hv']; exact h3, fun q => h4 (by rw [hv'] at q; exact q)⟩
      · have q1 := factA p1 hi
        obtain ⟨q2, q3⟩ := hfe _ _ hi p1
        obtain ⟨md2, l1, _, _⟩ := (Ent.row md0 v0 el0 s0 xs0).lock_eq
        rcases q2 with q | q
        · rw [h1] at q; cases q
          exact ⟨md2, _, _, _, _, cv, by rw [q1, l1]; rfl, by rw [hbk (hlt p1)]; exact h2, h3, h4⟩
        · rw [h1] at q
          rw [l1] at q; cases q
          exact ⟨_, _, _, _, _, cv, by rw [q1, l1]; rfl, by rw [hbk (hlt p1)]; exact h2, h3, h4⟩
  -- what was found behind the round, as it is known at the head
  have hnrm : ∀ {v : EV} {u : Value}, Rep c.P m' v (J st'.hp bk') u → Rep c.P m' (nrmE st.hp st'.hp (apOf st lv hv) v) (J (headOf st lv hv W' sl).hp (bk'.take st.hp.length)) u := by
    intro v u h
    refine sub_rep (F := fun _ => True) (Mem.le_refl m') (fun id ver u _ hJ => ?_) (fun id off u _ hJ => ?_) v h (fun _ _ => trivial)
    · obtain ⟨md, vv, e, s, xs, cv, h1, h2, h3, h4⟩ := hJ
      cases hl : Nat.blt id st.hp.length with
      | false => simp only [cond_false]; trivial
      | true =>
        simp only [cond_true, h1]
        cases hb : Nat.beq vv ver with
        | false => simp only [cond_false]; trivial
        | true =>
          simp only [cond_true]
          have hvv := beq_eq hb
          have hu := h4 hvv.symm
          subst hu
          exact hJN (.row id _) u ⟨Nat.le_of_ble_eq_true hl, md, vv, e, s, xs, h1, h2, by rw [hvv]⟩
    · cases hl : Nat.blt id st.hp.length with
      | false => simp only [cond_false]; trivial
      | true =>
        simp only [cond_true]
        exact hJN (.box id off) u ⟨Nat.le_of_ble_eq_true hl, hJ⟩
  have hnrmL : ∀ {vs : List EV} {us : List Value}, RepL c.P m' vs (J st'.hp bk') us → RepL c.P m' (vs.map (nrmE st.hp st'.hp (apOf st lv hv))) (J (headOf st lv hv W' sl).hp (bk'.take st.hp.length)) us := by
    intro vs
    induction vs with
    | nil => intro us h; exact RepL_nil.2 (RepL_nil.1 h)
    | cons v r ih =>
      intro us h
      obtain ⟨u, us', e1, e2, e3⟩ := RepL_cons.1 h
      exact RepL_cons.2 ⟨u, us', e1, hnrm e2, ih e3⟩
  have hold : ∀ e u, J st.hp bk e u → J (headOf st lv hv W' sl).hp (bk'.take st.hp.length) e u := fun e u h => hW0 e u ⟨u, h⟩ (hgh e u h)
  have hex : ∀ i, i < st.hp.length → ∃ x, st'.hp[i]? = some x := by
    intro i hi
    by_cases h : i ∈ hv
    · obtain ⟨_, y, x, _, _, q, _⟩ := factB h; exact ⟨x, q⟩
    · rcases (hfe _ _ h (List.getElem?_eq_getElem hi)).1 with q | q <;> exact ⟨_, q⟩
  have hle : st.hp.length ≤ bk'.length := by
    rw [S'.len]
    rcases Nat.eq_zero_or_pos st.hp.length with q | q
    · omega
    · obtain ⟨x, hx⟩ := hex (st.hp.length - 1) (by omega)
      have := (List.getElem?_eq_some_iff.1 hx).1
      omega
  have hdl : (headOf st lv hv W' sl).hp.length = st.hp.length := laidIn_length _ _ _ _
  refine { hold := S'.hold, tab := S'.tab, ext := hext, below := by show Below fx.n0 w0 w'; rw [← hn0]; exact S'.below, base := S.base, keep := fun b hb => (by
    have k := S'.keep b (by rw [hkp]; exact hb)
    refine ⟨k.1, k.2.1, fun i hi => k.2.2 i ?_⟩
    rw [List.getElem?_take] at hi
    split at hi
    · exact hi
    · cases hi), len := by rw [hdl, List.length_take]; omega, ents := fun i e he => ?_, apart := fun i j b hi hj => ?_, env := fun i => ?_, defers := S'.defers, fix := ⟨hsz, htm, hW, fun i e k hk => ?_⟩, gh := hold }
  · have hi : i < st.hp.length := by rw [← hdl]; exact (List.getElem?_eq_some_iff.1 he).1
    by_cases h : i ∈ hv
    · obtain ⟨_, y, x, q1, q2, q3, q4⟩ := factB h
      rw [q1] at he; cases he
      obtain ⟨k, hk, hs⟩ := S'.ents i x q3
      rw [hn0] at hs
      refine ⟨k, by rw [hbk hi]; exact hk, ?_⟩
      cases x with
      | box md cs =>
        cases k with
        | row v => exact hs.elim
        | box b =>
          obtain ⟨us, T, h1, h2, h3, h4, h5⟩ := hs
          cases e with
          | row _ _ _ _ _ => cases q4
          | box md2 cs2 =>
            obtain ⟨ds, d1, d2⟩ := q4
            cases d1
            obtain rfl : md2 = .own := q2
            exact ⟨us, T, h1, WkL_rep d2 (hnrmL h2), h3, (fun q => by cases q), fun _ => h5 (fun q => by cases q)⟩
      | row md v el s xs =>
        cases k with
        | box b => exact hs.elim
        | row cv =>
          obtain ⟨cs, h1, h2, h3, h4⟩ := hs
          cases e with
          | box _ _ => obtain ⟨ds, q, _⟩ := q4; cases q
          | row md2 v2 el2 s2 xs2 =>
            cases q4
            obtain rfl : md2 = .own := q2
            exact ⟨cs, h1, h2, h3, h4⟩
    · have he0 := List.getElem?_eq_getElem hi
      rw [factA he0 h] at he; cases he
      obtain ⟨q2, q3⟩ := hfe _ _ h he0
      obtain ⟨k0, hk0, hs0⟩ := S.ents i _ he0
      obtain ⟨md2, l1, l2, l3⟩ := (st.hp[i]).lock_eq
      have main : ∀ x, st'.hp[i]? = some x → (∃ md, x = (st.hp[i]).setMd md ∧ (md = .froz ↔ (st.hp[i]).md = .froz)) → ∃ k, (bk'.take st.hp.length)[i]? = some k ∧ SatEnt c.P m' fx.n0 w' (J (headOf st lv hv W' sl).hp (bk'.take st.hp.length)) (st.hp[i]).lock k := by
        intro x hx ⟨md, hmd, hf⟩
        obtain ⟨k, hk, hs⟩ := S'.ents i x hx
        rw [hn0] at hs
        refine ⟨k, by rw [hbk hi]; exact hk, ?_⟩
        rw [l1]
        subst hmd
        have := SatEnt_setMd (md := md2) (by rw [Ent.md_setMd, l3, hf]) hs
        rw [Ent.setMd_setMd] at this
        have hkk : k0 = k := by rw [hk0, hk] at q3; exact (Option.some.inj q3).symm
        rw [hkk] at hs0
        generalize st.hp[i] = x0 at this hs0
        cases x0 with
        | box md cs =>
          cases k with
          | row v => exact this.elim
          | box b =>
            obtain ⟨us, T, h1, h2, h3, h4, h5⟩ := this
            obtain ⟨us0, _, _, h20, _⟩ := hs0
            exact ⟨us, T, h1, RepL_words hW0 cs h20 h2, h3, h4, h5⟩
        | row md v el s xs =>
          cases k with
          | box b => exact this.elim
          | row cv => exact this
      rcases q2 with q | q
      · exact main _ q ⟨(st.hp[i]).md, (Ent.setMd_md _).symm, Iff.rfl⟩
      · exact main _ q ⟨md2, l1, l3⟩
  · have g : ∀ {i b : Nat}, ((bk'.take st.hp.length)[i]?).bind Cn.blk = some b → (bk'[i]?).bind Cn.blk = some b := fun {i b} h => by
      rw [List.getElem?_take] at h
      split at h
      · exact h
      · cases h
    exact S'.apart i j b (g hi) (g hj)
  · show Rep c.P m' (match getE lv sl i with | some v => v | none => cond (W'.contains i) .bot (st.env i)) _ _
    cases hg : getE lv sl i with
    | some v =>
      obtain ⟨j, h1, h2⟩ := getE_spec hg
      obtain ⟨u, h3, h4⟩ := SWkL_get hsl h2
      unfold slotsOf at h3
      have hj : j < lv.length := (List.getElem?_eq_some_iff.1 h1).1
      rw [List.getElem?_append_left (by simpa using hj)] at h3
      simp only [List.getElem?_map, h1, Option.map_some, Option.some.injEq] at h3
      subst h3
      have hn := hnrm (S'.env i)
      rcases h4 with q | q | ⟨cs, ds, q1, q2, q3⟩
      · rw [q]; trivial
      · cases q; exact hn
      · rw [q1]
        have q2 : nrmE st.hp st'.hp (apOf st lv hv) (st'.env i) = .agg ds := by injection q2
        rw [q2] at hn
        obtain ⟨us, e1, e2⟩ := hn
        exact ⟨us, e1, WkL_rep q3 e2⟩
    | none =>
      cases hc : W'.contains i with
      | true => trivial
      | false =>
        have hi : i ∉ W' := fun h => by rw [List.contains_iff_mem.2 h] at hc; cases hc
        show Rep c.P m' (st.env i) _ (a'.tmps.getD i undef)
        have : a'.tmps.getD i undef = a.tmps.getD i undef := by
          simp only [Array.getD_eq_getD_getElem?, htm i hi]
        rw [this]
        exact Rep_mono hext.1 _ hold (S.env i)
  · unfold loopFx at hk
    dsimp only at hk
    cases hc : hv.contains i with
    | true => rw [hc] at hk; cases hk
    | false =>
      rw [hc] at hk
      simp only [cond_false] at hk
      have hi : i ∉ hv := fun h => by rw [List.contains_iff_mem.2 h] at hc; cases hc
      split at hk
      · rename_i e0 k0 he hk0
        cases hk
        exact ⟨e0.lock_ne, factA he hi, by rw [hbk (hlt he), (hfe _ _ hi he).2]; exact hk0⟩
      · cases hk

/-- Behind a loop. -/
theorem exit_sat {hv W' : List Nat} (S : Sat c m0 w0 fx m bk st a w) (hW : ∀ d ∈ W', d ∈ fx.W) (ho : ownAll st.hp hv = true) (S' : Sat c m w0 (loopFx fx hv W' bk st a) m' bk' st' a' w') :
    Sat c m0 w0 fx m' bk' { st' with hp := unlock st.hp st'.hp } a' w' := by
  have hal : Alike st'.hp (unlock st.hp st'.hp) := by
    refine ⟨unlock_length _ _, fun i x hx => ?_⟩
    rw [unlock_get, hx]
    simp only [Option.map_some]
    split
    · rename_i y hy
      cases hb : y.md.isOwn && x.md.isLock with
      | true => exact ⟨.own, rfl⟩
      | false => exact ⟨x.md, by rw [Ent.setMd_md]; rfl⟩
    · exact ⟨x.md, by rw [Ent.setMd_md]⟩
  have hJ : ∀ e u, J st'.hp bk' e u → J (unlock st.hp st'.hp) bk' e u := fun e u => J_alike hal
  refine { hold := S'.hold, tab := S'.tab, ext := Mem.ext_trans S.ext S'.ext, below := S'.below, base := S.base, keep := S'.keep, len := by rw [S'.len]; exact (unlock_length _ _).symm, ents := fun i e he => ?_, apart := S'.apart, env := fun i => Rep_mono (Mem.le_refl _) _ hJ (S'.env i), defers := S'.defers, fix := ⟨S'.fix.1.trans S.fix.1, fun i hi => (S'.fix.2.1 i (fun h => hi (hW i h))).trans (S.fix.2.1 i hi), S.fix.2.2.1, fun i e k hk => ?_⟩, gh := fun e u h => hJ e u (S'.gh e u (S.gh e u h)) }
  · dsimp only at he
    rw [unlock_get] at he
    cases hx : st'.hp[i]? with
    | none => rw [hx] at he; cases he
    | some x =>
      rw [hx] at he
      simp only [Option.map_some, Option.some.injEq] at he
      obtain ⟨k, hk, hs⟩ := S'.ents i x hx
      have hs' := hs.mono (Mem.le_refl m') hJ (fun b _ => rfl) (fun _ _ _ h => h)
      refine ⟨k, hk, ?_⟩
      subst he
      split
      · rename_i y hy
        cases hb : y.md.isOwn && x.md.isLock with
        | true =>
          simp only [Bool.and_eq_true] at hb
          refine SatEnt_setMd ⟨(fun q => by cases q), (fun q => ?_)⟩ hs'
          rw [q] at hb; cases hb.2
        | false => exact hs'
      · exact hs'
  · obtain ⟨q1, q2, q3⟩ := S.fix.2.2.2 i e k hk
    have hi : i ∉ hv := fun h => by
      obtain ⟨x, hx, hm⟩ := ownAll_spec ho h
      rw [q2] at hx; cases hx
      exact q1 hm
    have hc : hv.contains i = false := by
      cases h : hv.contains i with
      | false => rfl
      | true => exact absurd (List.contains_iff_mem.1 h) hi
    obtain ⟨p1, p2, p3⟩ := S'.fix.2.2.2 i e.lock k (by unfold loopFx; dsimp only; rw [hc, q2, q3]; rfl)
    refine ⟨q1, ?_, p3⟩
    dsimp only
    rw [Ent.lock_of e q1] at p2
    rw [unlock_get, p2, q2]
    have : e.md.isOwn = false := by
      cases hm : e.md with
      | own => exact absurd hm q1
      | lock => rfl
      | froz => rfl
    simp only [Option.map_some, this, Bool.false_and, cond_false]
end
end Go.Proofs.YtjeoelajkncpcaaDoor.V
