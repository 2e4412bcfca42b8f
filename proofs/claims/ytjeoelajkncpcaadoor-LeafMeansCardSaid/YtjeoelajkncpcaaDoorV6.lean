/- An abstract value read as one of a shape: it is one. No condition of its own. -/
import Derived.Test.YtjeoelajkncpcaaDoorV5
namespace Go.Proofs.YtjeoelajkncpcaaDoor.V
open Go Go.RowKit
set_option linter.unusedVariables false

theorem castK_spec {a b : Shape} {x : a.Val} {K : b.Val → Prop} (h : castK a b x K) : ∃ e : a = b, K (e ▸ x) := by
  unfold castK at h
  split at h
  · rename_i e; exact ⟨e, h⟩
  · exact h.elim

section
variable {c : Cfg} {st : St} {m m' : Mem} {bk : List Cn} {F : Nat → Prop}

theorem slK_sound (hF : FrzOK c.P m m' st.hp bk F) (hm : m.le m') {v : EV} {u : Value} {K : (s : Shape) → List s.Val → Prop} (h : Rep c.P m v (J st.hp bk) u) (hi : ∀ i ∈ v.ids, F i) (k : slK st v K) :
    ∃ s xs, K s xs ∧ (Reps c.P (.slice s)).V m' xs u := by
  unfold slK at k
  split at k
  · exact ⟨_, _, k, Reps.V_mono hm h⟩
  · rename_i s
    refine ⟨_, _, k, ?_⟩
    rw [show u = .slice none 0 0 from h]
    exact ⟨none, 0, rfl, .inl rfl⟩
  · rename_i id ver
    split at k
    · rename_i md v e s xs he
      cases hb : Nat.beq v ver
      · rw [hb] at k; exact k.elim
      · rw [hb] at k
        exact ⟨_, _, k, hF.row hm (hi id (by simp [EV.ids])) he (Nat.eq_of_beq_eq_true hb).symm h⟩
    · exact k.elim
  · exact k.elim

theorem isNil_spec {v : EV} {u : Value} {JJ : EV → Value → Prop} (h : Rep c.P m v JJ u) (k : isNil v = true) : u = .slice none 0 0 := by
  unfold isNil at k
  split at k
  · exact h
  · exact h
  · cases k

theorem nil_V (s : Shape) : (Reps c.P (.slice s)).V m' ([] : List s.Val) (.slice none 0 0) := ⟨none, 0, rfl, .inl rfl⟩

theorem slice_sound (hF : FrzOK c.P m m' st.hp bk F) (hm : m.le m') {v : EV} {u : Value} {s : Shape} {K : List s.Val → Prop} (h : Rep c.P m v (J st.hp bk) u) (hi : ∀ i ∈ v.ids, F i)
    (k : cond (isNil v) (K []) (slK st v fun s' xs => castK (.slice s') (.slice s) xs K)) : ∃ xs, K xs ∧ (Reps c.P (.slice s)).V m' xs u := by
  cases hn : isNil v
  · rw [hn] at k
    obtain ⟨s', xs, k1, k2⟩ := slK_sound hF hm h hi k
    obtain ⟨e, k3⟩ := castK_spec k1
    cases e
    exact ⟨xs, k3, k2⟩
  · rw [hn] at k
    refine ⟨[], k, ?_⟩
    rw [isNil_spec h hn]
    exact nil_V s

theorem clo_sound (hF : FrzOK c.P m m' st.hp bk F) (hm : m.le m') (ht : TabOK c.tab m') {f : FuncId} {a b : List EV} {u : Value} {i o : Shape} {K : (i.Val → Option o.Val) → Prop}
    (h : Rep c.P m (.clo (.func f) a b) (J st.hp bk) u) (hi : ∀ i ∈ (EV.clo (.func f) a b).ids, F i) (k : cloP c.toBase f (a.map (frz st.hp 3)) (b.map (frz st.hp 3)) i o K) :
    ∃ g, K g ∧ (Reps c.P (.func i o)).V m' g u := by
  obtain ⟨g, ⟨hc, hs⟩, hK⟩ := k
  obtain ⟨xs, ys, hu, h1, h2⟩ := h
  have h1' := map_frz_rep (n := 3) (fun v u => frz_rep hF hm 3 v) h1 (fun i q => hi i (by simp [EV.ids, q]))
  have h2' := map_frz_rep (n := 3) (fun v u => frz_rep hF hm 3 v) h2 (fun i q => hi i (by simp [EV.ids, q]))
  refine ⟨g, hK, .inr ⟨f, xs.toArray, ys.toArray, hu, hc, fun m2 w x us r hm2 hw hA hg => ?_⟩⟩
  have := (hs x r hg).2 m2 w (xs ++ us ++ ys) (ht.mono hm2) hw (RepL_append (RepL_append (RepL_mono hm2 _ (fun _ _ q => q) h1') (RepL_comps i pureJ hA)) (RepL_mono hm2 _ (fun _ _ q => q) h2'))
  have e : (xs ++ us ++ ys).toArray = xs.toArray ++ us.toArray ++ ys.toArray := by simp
  rw [e] at this
  exact this.mono fun e w' q => q.mono fun m v ⟨r', hr, hv⟩ => by subst hr; exact hv

theorem dec_sound (hF : FrzOK c.P m m' st.hp bk F) (hm : m.le m') (ht : TabOK c.tab m') (s : Shape) :
    (∀ v u K, Rep c.P m v (J st.hp bk) u → (∀ i ∈ v.ids, F i) → decV c st s v K → ∃ x, K x ∧ (Reps c.P s).V m' x u) ∧
    (∀ cs us K, RepL c.P m cs (J st.hp bk) us → (∀ i ∈ EV.idsL cs, F i) → decC c st s cs K →
      ∃ x r us1 us2, K x r ∧ us = us1 ++ us2 ∧ (Reps c.P s).C m' x us1 ∧ RepL c.P m r (J st.hp bk) us2 ∧ ∀ i ∈ EV.idsL r, F i) ∧
    (∀ t v u K, Rep c.P m v (J st.hp bk) u → (∀ i ∈ v.ids, F i) → decA c st s t v K → ∃ x, K x ∧ (Reps c.P s).I m' t x u) := by
  have idsc : ∀ {v : EV} {r : List EV}, (∀ i ∈ EV.idsL (v :: r), F i) → (∀ i ∈ v.ids, F i) ∧ ∀ i ∈ EV.idsL r, F i := fun h => ⟨fun i hi => h i (by simp [EV.idsL, hi]), fun i hi => h i (by simp [EV.idsL, hi])⟩
  induction s with
  | bool =>
    refine ⟨fun v u K h hi k => ?_, fun cs us K h hi k => ?_, fun t v u K h hi k => by simp only [decA] at k⟩
    · simp only [decV] at k
      split at k
      · exact ⟨_, k, h⟩
      · exact k.elim
    · simp only [decC] at k
      split at k
      · obtain ⟨u, us', rfl, h1, h2⟩ := RepL_cons.1 h
        exact ⟨_, _, [u], us', k, rfl, ⟨u, rfl, h1⟩, h2, (idsc hi).2⟩
      · exact k.elim
  | int q =>
    refine ⟨fun v u K h hi k => ?_, fun cs us K h hi k => ?_, fun t v u K h hi k => by simp only [decA] at k⟩
    · simp only [decV] at k
      split at k
      · split at k
        · rename_i e; subst e; exact ⟨_, k, h⟩
        · exact k.elim
      · exact k.elim
    · simp only [decC] at k
      split at k
      · obtain ⟨u, us', rfl, h1, h2⟩ := RepL_cons.1 h
        split at k
        · rename_i e; subst e; exact ⟨_, _, [u], us', k, rfl, ⟨u, rfl, h1⟩, h2, (idsc hi).2⟩
        · exact k.elim
      · exact k.elim
  | slice s ih =>
    refine ⟨fun v u K h hi k => ?_, fun cs us K h hi k => ?_, fun t v u K h hi k => by simp only [decA] at k⟩
    · simp only [decV] at k
      exact slice_sound hF hm h hi k
    · simp only [decC] at k
      split at k
      · obtain ⟨u, us', rfl, h1, h2⟩ := RepL_cons.1 h
        obtain ⟨xs, k1, k2⟩ := slice_sound (K := fun x => K x _) hF hm h1 (idsc hi).1 k
        exact ⟨_, _, [u], us', k1, rfl, ⟨u, rfl, k2⟩, h2, (idsc hi).2⟩
      · exact k.elim
  | st f ih =>
    refine ⟨fun v u K h hi k => ?_, fun cs us K h hi k => ?_, fun t v u K h hi k => by simp only [decA] at k⟩
    · simp only [decV] at k
      split at k
      · obtain ⟨us, hu, h1⟩ := h
        obtain ⟨x, r, us1, us2, k1, k2, k3, k4, _⟩ := ih.2.1 _ us _ h1 hi k
        split at k1
        · rw [RepL_nil.1 k4, List.append_nil] at k2
          subst k2
          exact ⟨x, k1, us, hu, k3⟩
        · exact k1.elim
      · exact k.elim
    · simp only [decC] at k
      exact ih.2.1 _ _ _ h hi k
  | unit =>
    refine ⟨fun v u K h hi k => by simp only [decV] at k, fun cs us K h hi k => ?_, fun t v u K h hi k => by simp only [decA] at k⟩
    simp only [decC] at k
    exact ⟨(), cs, [], us, k, rfl, rfl, h, hi⟩
  | pair a b iha ihb =>
    refine ⟨fun v u K h hi k => by simp only [decV] at k, fun cs us K h hi k => ?_, fun t v u K h hi k => by simp only [decA] at k⟩
    simp only [decC] at k
    obtain ⟨x, r, us1, us2, k1, rfl, k3, k4, k5⟩ := iha.2.1 _ _ _ h hi k
    obtain ⟨y, r', us3, us4, l1, rfl, l3, l4, l5⟩ := ihb.2.1 _ _ _ k4 k5 k1
    exact ⟨(x, y), r', us1 ++ us3, us4, l1, by simp, ⟨us1, us3, rfl, k3, l3⟩, l4, l5⟩
  | tup f ih => exact ⟨fun v u K h hi k => by simp only [decV] at k, fun cs us K h hi k => by simp only [decC] at k, fun t v u K h hi k => by simp only [decA] at k⟩
  | func i o ihi iho =>
    refine ⟨fun v u K h hi k => ?_, fun cs us K h hi k => ?_, fun t v u K h hi k => by simp only [decA] at k⟩
    · simp only [decV] at k
      split at k
      · obtain ⟨e, k2⟩ := castK_spec k
        subst e
        exact ⟨_, k2, Reps.V_mono hm h⟩
      · exact clo_sound hF hm ht h hi k
      · exact ⟨_, k, .inl ⟨h, fun _ => rfl⟩⟩
      · exact k.elim
    · simp only [decC] at k
      split at k
      · obtain ⟨u, us', rfl, h1, h2⟩ := RepL_cons.1 h
        obtain ⟨e, k2⟩ := castK_spec k
        subst e
        exact ⟨_, _, [u], us', k2, rfl, ⟨u, rfl, Reps.V_mono hm h1⟩, h2, (idsc hi).2⟩
      · obtain ⟨u, us', rfl, h1, h2⟩ := RepL_cons.1 h
        obtain ⟨g, k1, k2⟩ := clo_sound (K := fun x => K x _) hF hm ht h1 (idsc hi).1 k
        exact ⟨g, _, [u], us', k1, rfl, ⟨u, rfl, k2⟩, h2, (idsc hi).2⟩
      · obtain ⟨u, us', rfl, h1, h2⟩ := RepL_cons.1 h
        exact ⟨_, _, [u], us', k, rfl, ⟨u, rfl, .inl ⟨h1, fun _ => rfl⟩⟩, h2, (idsc hi).2⟩
      · exact k.elim
  | iface a ih =>
    refine ⟨fun v u K h hi k => ?_, fun cs us K h hi k => ?_, fun t v u K h hi k => by simp only [decA] at k⟩
    · simp only [decV] at k
      split at k
      · obtain ⟨e, k2⟩ := castK_spec k
        subst e
        exact ⟨_, k2, Reps.V_mono hm h⟩
      · exact ⟨none, k, h⟩
      · obtain ⟨x, hu, h1⟩ := h
        obtain ⟨y, k1, k2⟩ := ih.2.2 _ _ _ _ h1 hi k
        exact ⟨some y, k1, _, x, hu, k2⟩
      · exact k.elim
    · simp only [decC] at k
      split at k
      · obtain ⟨u, us', rfl, h1, h2⟩ := RepL_cons.1 h
        obtain ⟨e, k2⟩ := castK_spec k
        subst e
        exact ⟨_, _, [u], us', k2, rfl, ⟨u, rfl, Reps.V_mono hm h1⟩, h2, (idsc hi).2⟩
      · obtain ⟨u, us', rfl, h1, h2⟩ := RepL_cons.1 h
        exact ⟨none, _, [u], us', k, rfl, ⟨u, rfl, h1⟩, h2, (idsc hi).2⟩
      · obtain ⟨u, us', rfl, h1, h2⟩ := RepL_cons.1 h
        obtain ⟨x, hu, h3⟩ := h1
        obtain ⟨y, k1, k2⟩ := ih.2.2 _ _ _ (fun y => K (some y) _) h3 (idsc hi).1 k
        exact ⟨some y, _, [u], us', k1, rfl, ⟨u, rfl, _, x, hu, k2⟩, h2, (idsc hi).2⟩
      · exact k.elim
  | one t s ih =>
    refine ⟨fun v u K h hi k => by simp only [decV] at k, fun cs us K h hi k => by simp only [decC] at k, fun t' v u K h hi k => ?_⟩
    simp only [decA] at k
    cases hb : Nat.beq t t'
    · rw [hb] at k; exact k.elim
    · rw [hb] at k
      obtain ⟨x, k1, k2⟩ := ih.1 _ _ _ h hi k
      exact ⟨x, k1, (Nat.eq_of_beq_eq_true hb).symm, k2⟩
  | alt t s r ihs ihr =>
    refine ⟨fun v u K h hi k => by simp only [decV] at k, fun cs us K h hi k => by simp only [decC] at k, fun t' v u K h hi k => ?_⟩
    simp only [decA] at k
    cases hb : Nat.beq t t'
    · rw [hb] at k
      obtain ⟨x, k1, k2⟩ := ihr.2.2 _ _ _ _ h hi k
      exact ⟨.inr x, k1, k2⟩
    · rw [hb] at k
      obtain ⟨x, k1, k2⟩ := ihs.1 _ _ _ h hi k
      exact ⟨.inl x, k1, (Nat.eq_of_beq_eq_true hb).symm, k2⟩

theorem decS_sound (hF : FrzOK c.P m m' st.hp bk F) (hm : m.le m') (ht : TabOK c.tab m') : ∀ (s : Shape) (vs : List EV) (us : List Value) (K : s.Val → Prop), RepL c.P m vs (J st.hp bk) us → (∀ i ∈ EV.idsL vs, F i) →
    decS c st s vs K → ∃ x, K x ∧ (Reps c.P s).A m' x us := by
  have one : ∀ (s : Shape) (v : EV) (us : List Value) (K : s.Val → Prop), RepL c.P m [v] (J st.hp bk) us → (∀ i ∈ EV.idsL [v], F i) → decV c st s v K → ∃ x u, K x ∧ us = [u] ∧ (Reps c.P s).V m' x u := by
    intro s v us K h hi k
    obtain ⟨u, us', rfl, h1, h2⟩ := RepL_cons.1 h
    rw [RepL_nil.1 h2]
    obtain ⟨x, k1, k2⟩ := (dec_sound hF hm ht s).1 _ _ _ h1 (fun i q => hi i (by simp [EV.idsL, q])) k
    exact ⟨x, u, k1, rfl, k2⟩
  intro s
  induction s with
  | pair a b iha ihb =>
    intro vs us K h hi k
    cases vs with
    | nil => simp only [decS] at k
    | cons v r =>
      simp only [decS] at k
      obtain ⟨u, us', rfl, h1, h2⟩ := RepL_cons.1 h
      obtain ⟨x, k1, k2⟩ := (dec_sound hF hm ht a).1 _ _ _ h1 (fun i q => hi i (by simp [EV.idsL, q])) k
      obtain ⟨y, l1, l2⟩ := ihb _ _ _ h2 (fun i q => hi i (by simp [EV.idsL, q])) k1
      exact ⟨(x, y), l1, u, us', rfl, k2, l2⟩
  | unit =>
    intro vs us K h hi k
    cases vs with
    | nil => simp only [decS] at k; exact ⟨(), k, RepL_nil.1 h⟩
    | cons v r => cases r <;> simp only [decS, decV] at k
  | bool | int _ | slice _ _ | func _ _ _ _ | iface _ _ =>
    intro vs us K h hi k
    match vs, k with
    | [], k => simp only [decS] at k
    | [v], k =>
      simp only [decS] at k
      obtain ⟨x, u, k1, rfl, k2⟩ := one _ _ _ _ h hi k
      exact ⟨x, k1, u, rfl, k2⟩
    | _ :: _ :: _, k => simp only [decS] at k
  | st f _ =>
    intro vs us K h hi k
    match vs, k with
    | [], k => simp only [decS] at k
    | [v], k =>
      simp only [decS] at k
      obtain ⟨x, u, k1, rfl, cs, e, k2⟩ := one _ _ _ _ h hi k
      exact ⟨x, k1, cs, by rw [e], k2⟩
    | _ :: _ :: _, k => simp only [decS] at k
  | tup _ _ | one _ _ _ | alt _ _ _ _ _ =>
    intro vs us K h hi k
    match vs, k with
    | [], k => simp only [decS] at k
    | [v], k => simp only [decS, decV] at k
    | _ :: _ :: _, k => simp only [decS] at k

theorem decE_sound (hF : FrzOK c.P m m' st.hp bk F) (hm : m.le m') (ht : TabOK c.tab m') (s : Shape) : ∀ (vs : List EV) (us : List Value) (K : List s.Val → Prop), RepL c.P m vs (J st.hp bk) us → (∀ i ∈ EV.idsL vs, F i) →
    decE c st s vs K → ∃ xs, K xs ∧ xs.length = us.length ∧ ∀ (i : Nat) x, xs[i]? = some x → ∃ u, us[i]? = some u ∧ (Reps c.P s).V m' x u
  | [], us, K, h, hi, k => by
    rw [RepL_nil.1 h]
    exact ⟨[], k, rfl, fun i x q => by simp at q⟩
  | v :: r, us, K, h, hi, k => by
    simp only [decE] at k
    obtain ⟨u, us', rfl, h1, h2⟩ := RepL_cons.1 h
    obtain ⟨x, k1, k2⟩ := (dec_sound hF hm ht s).1 _ _ _ h1 (fun i q => hi i (by simp [EV.idsL, q])) k
    obtain ⟨xs, l1, l2, l3⟩ := decE_sound hF hm ht s r us' _ h2 (fun i q => hi i (by simp [EV.idsL, q])) k1
    refine ⟨x :: xs, l1, by simp [l2], fun i y hy => ?_⟩
    cases i with
    | zero => simp at hy; subst hy; exact ⟨u, rfl, k2⟩
    | succ i => simp at hy; obtain ⟨u', q1, q2⟩ := l3 i y hy; exact ⟨u', by simpa using q1, q2⟩
end
end Go.Proofs.YtjeoelajkncpcaaDoor.V
