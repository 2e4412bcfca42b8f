/- Regions that draw their order. No condition of its own. -/
import Derived.Test.YtjeoelajkncpcaaDoorV17
namespace Go.Proofs.YtjeoelajkncpcaaDoor.V
open Go Go.RowKit
set_option linter.unusedVariables false
set_option linter.unusedSimpArgs false

/-- What a listed operation waits for is listed. -/
def DC (ops : Array Oper) (listed : Array Bool) : Prop := ∀ (k : Nat) (o : Oper), ops[k]? = some o → listed.getD k false = true → ∀ e ∈ o.after, Region.binds .any e = true → listed.getD e.on false = true

theorem DC_init (ops : Array Oper) (n : Nat) : DC ops (Array.replicate n false) := by
  intro k o _ h
  rw [Array.getD_eq_getD_getElem?, Array.getElem?_replicate] at h
  split at h <;> cases h

theorem unlisted {ops : Array Oper} {listed : Array Bool} {i : Nat} (h : i ∈ Region.ready .any ops listed) : listed.getD i false = false := by
  have h0 := (mem_ready.1 h).1
  rcases Nat.lt_or_ge i listed.size with q | q
  · simp [q] at h0 ⊢; exact h0
  · simp [Array.getElem?_eq_none q] at h0

theorem DC.set {ops : Array Oper} {listed : Array Bool} (h : DC ops listed) {j : Nat} (hj : j ∈ Region.ready .any ops listed) : DC ops (listed.setIfInBounds j true) := by
  intro k o ho hk e he hb
  by_cases hjk : j = k
  · subst hjk
    obtain ⟨_, o', ho', hall⟩ := mem_ready.1 hj
    rw [ho] at ho'; cases ho'
    exact getD_set_true (hall e he hb)
  · rw [getD_set_ne false hjk] at hk
    exact getD_set_true (h k o ho hk e he hb)

theorem waits_mem {ops : Array Oper} {k i : Nat} (h : i ∈ waits ops k) : ∃ o e, ops[k]? = some o ∧ e ∈ o.after ∧ Region.binds .any e = true ∧ e.on = i := by
  unfold waits at h
  split at h
  · rename_i o ho
    obtain ⟨e, he, hi⟩ := List.mem_map.1 h
    obtain ⟨h1, h2⟩ := List.mem_filter.1 he
    exact ⟨o, e, ho, Array.mem_toList_iff.1 h1, h2, hi⟩
  · cases h

theorem down_listed {ops : Array Oper} {listed : Array Bool} (h : DC ops listed) {j : Nat} (hj : j ∈ Region.ready .any ops listed) : ∀ (n : Nat) (l : List Nat), (∀ k ∈ l, k = j ∨ listed.getD k false = true) → ∀ k ∈ down ops n l, k = j ∨ listed.getD k false = true
  | 0, l, hl => hl
  | n + 1, l, hl => by
    unfold down
    cases hc : l.contains n with
    | false => exact down_listed h hj n l hl
    | true =>
      simp only [cond_true]
      refine down_listed h hj n _ fun k hk => ?_
      rcases List.mem_append.1 hk with hk | hk
      · obtain ⟨o, e, ho, he, hb, rfl⟩ := waits_mem hk
        right
        rcases hl n (by simpa using hc) with q | q
        · subst q
          obtain ⟨_, o', ho', hall⟩ := mem_ready.1 hj
          rw [ho] at ho'; cases ho'
          exact hall e he hb
        · exact h n o ho q e he hb
      · exact hl k hk

theorem opAt_some {ops : Array Oper} {i : Nat} {p : Op → Bool} (h : opAt ops i p = true) : ∃ o, ops[i]? = some o ∧ p o.op = true := by
  unfold opAt at h
  split at h
  · rename_i o ho; exact ⟨o, ho, h⟩
  · cases h

theorem writer_load {o : Op} (h1 : isWriter o = true) (h2 : isLoad o = true) : False := by
  unfold isLoad at h2
  split at h2
  · cases h1
  · cases h2

/-- When a writer may come up every load has come up. -/
theorem loads_listed {ops : Array Oper} {listed : Array Bool} (hw : writersOK ops = true) (h : DC ops listed) {j : Nat} (hj : j ∈ Region.ready .any ops listed) (hjw : opAt ops j isWriter = true) {i : Nat} (hi : opAt ops i isLoad = true) : listed.getD i false = true := by
  have hlt : ∀ {k : Nat} {p : Op → Bool}, opAt ops k p = true → k < ops.size := fun hk => by
    obtain ⟨o, ho, _⟩ := opAt_some hk
    exact (Array.getElem?_eq_some_iff.1 ho).1
  have h1 := List.all_eq_true.1 hw j (List.mem_range.2 (hlt hjw))
  rw [hjw] at h1
  simp only [Bool.not_true, Bool.false_or] at h1
  have h2 := List.all_eq_true.1 h1 i (List.mem_range.2 (hlt hi))
  rw [hi] at h2
  simp only [Bool.not_true, Bool.false_or] at h2
  have h3 := down_listed h hj ops.size [j] (fun k hk => .inl (by simpa using hk)) i (by simpa using h2)
  rcases h3 with q | q
  · subst q
    obtain ⟨o, ho, h4⟩ := opAt_some hjw
    obtain ⟨o', ho', h5⟩ := opAt_some hi
    rw [ho] at ho'; cases ho'
    exact (writer_load h4 h5).elim
  · exact q

section
variable {P : Program} {ops : Array Oper} {Q : Exit → Act → World → Prop}

/-- Whatever order is picked: S holds behind every operation up to the first writer. -/
def wpG (P : Program) (ops : Array Oper) (Q : Exit → Act → World → Prop) (S : World → Prop) : Nat → Array Bool → Act → World → Prop
  | 0, listed, a, w => Region.ready .any ops listed = [] ∧ Q .normal a w
  | fuel + 1, listed, a, w =>
    (Region.ready .any ops listed = [] → Q .normal a w) ∧
    ∀ i ∈ Region.ready .any ops listed, wpOp P ops Q i (fun a' w' => (opAt ops i isWriter = true ∧ wpAny P .any ops Q fuel (listed.setIfInBounds i true) a' w') ∨ (opAt ops i isWriter = false ∧ S w' ∧ wpG P ops Q S fuel (listed.setIfInBounds i true) a' w')) a w

theorem wpAny_of_G {S : World → Prop} : ∀ (fuel : Nat) (listed : Array Bool) (a : Act) (w : World), wpG P ops Q S fuel listed a w → wpAny P .any ops Q fuel listed a w
  | 0, _, _, _, h => h
  | fuel + 1, _, _, _, h => ⟨h.1, fun i hi => wpOp_mono (fun a' w' h' => by
      rcases h' with ⟨_, h'⟩ | ⟨_, _, h'⟩
      · exact h'
      · exact wpAny_of_G fuel _ a' w' h') (h.2 i hi)⟩

theorem wpG_mono {S S' : World → Prop} (hS : ∀ w, S w → S' w) : ∀ (fuel : Nat) (listed : Array Bool) (a : Act) (w : World), wpG P ops Q S fuel listed a w → wpG P ops Q S' fuel listed a w
  | 0, _, _, _, h => h
  | fuel + 1, _, _, _, h => ⟨h.1, fun i hi => wpOp_mono (fun a' w' h' => h'.imp id fun ⟨h1, h2, h3⟩ => ⟨h1, hS _ h2, wpG_mono hS fuel _ a' w' h3⟩) (h.2 i hi)⟩

theorem wpG_first {S : World → Prop} {i : Nat} {oi : Oper} {v : Value} (hi : ops[i]? = some oi) (hsel : ∀ (j : Nat) (o : Oper) cs b, ops[j]? = some o → o.op ≠ .select cs b)
    (hQ : ∀ c a w, Q (.panic c) (a.put oi.dst v) w → Q (.panic c) a w) (hw : writersOK ops = true) (hnw : isWriter oi.op = false) :
    ∀ (fuel : Nat) (listed : Array Bool) (a : Act) (w : World), DC ops listed →
      (∀ j oj, ops[j]? = some oj → j ≠ i → listed.getD j true = false → (∀ e ∈ oj.after, Region.binds .any e = true → e.on ≠ i) → oi.apart ops oj = true) →
      i ∈ Region.ready .any ops listed → YieldsIf P ops (fun w => isLoad oi.op = true → S w) oi v a → S w →
      wpG P ops Q S fuel (listed.setIfInBounds i true) (a.put oi.dst v) w → wpG P ops Q S (fuel + 1) listed a w := by
  have hwi : opAt ops i isWriter = false := by unfold opAt; rw [hi]; exact hnw
  intro fuel
  induction fuel with
  | zero =>
    intro listed a w _ _ hr hy hS H
    refine ⟨fun h => (by rw [h] at hr; cases hr), fun j hj => ?_⟩
    by_cases hji : j = i
    · subst hji; exact hy.wpOp hi (fun _ => hS) (.inr ⟨hwi, hS, H⟩)
    · have := ready_mono hj hji
      rw [H.1] at this
      cases this
  | succ fuel ih =>
    intro listed a w hD hfree hr hy hS H
    refine ⟨fun h => (by rw [h] at hr; cases hr), fun j hj => ?_⟩
    by_cases hji : j = i
    · subst hji; exact hy.wpOp hi (fun _ => hS) (.inr ⟨hwi, hS, H⟩)
    · have h1 := H.2 j (ready_mono hj hji)
      obtain ⟨hjun, oj, hoj, hall⟩ := mem_ready.1 hj
      have hnot : ∀ e ∈ oj.after, Region.binds .any e = true → e.on ≠ i := fun e he hb heq => by
        have h1 := hall e he hb
        have h0 := (mem_ready.1 hr).1
        rw [heq] at h1
        rcases Nat.lt_or_ge i listed.size with h' | h'
        · simp [h'] at h0 h1; rw [h0] at h1; cases h1
        · simp [Array.getElem?_eq_none h'] at h1
      have h2 := wpOp_putIf hoj (hfree j oj hoj hji hjun hnot) (fun cs b => hsel i oi cs b hi) (fun cs b => hsel j oj cs b hoj) hQ hy h1
      have hfree' : ∀ k ok, ops[k]? = some ok → k ≠ i → (listed.setIfInBounds j true).getD k true = false →
          (∀ e ∈ ok.after, Region.binds .any e = true → e.on ≠ i) → oi.apart ops ok = true := fun k ok hk hki hun hno => by
        refine hfree k ok hk hki ?_ hno
        by_cases hjk : j = k
        · subst hjk; exact hjun
        · rw [getD_set_ne true hjk] at hun; exact hun
      refine wpOp_mono (fun a' w' h3 => ?_) h2
      obtain ⟨hy', h3⟩ := h3
      rcases h3 with ⟨hjw, h3⟩ | ⟨hjw, h3, h4⟩
      · refine .inl ⟨hjw, ?_⟩
        rw [Array.setIfInBounds_comm _ _ (Ne.symm hji)] at h3
        have hnl : isLoad oi.op = false := by
          cases hl : isLoad oi.op with
          | false => rfl
          | true =>
            have h5 := loads_listed hw hD hj hjw (i := i) (by unfold opAt; rw [hi]; exact hl)
            rw [unlisted hr] at h5
            cases h5
        refine wpAny_first hi hsel hQ fuel _ a' w' hfree' (ready_mono hr (Ne.symm hji)) ?_ h3
        exact hy'.imp (fun ⟨p, q⟩ => ⟨p, fun w => q w (fun e => by rw [hnl] at e; cases e)⟩) id
      · refine .inr ⟨hjw, h3, ih (listed.setIfInBounds j true) a' w' (hD.set hj) hfree' (ready_mono hr (Ne.symm hji)) hy' h3 ?_⟩
        rw [Array.setIfInBounds_comm _ _ hji]
        exact h4
end

section
variable {c : Cfg} {m0 : Mem} {w0 : World} {fx : Fx}

/-- A quiet operation of a region: what it yields, and how the condition goes on. -/
theorem quiet_at {m : Mem} {bk : List Cn} {st : St} {a : Act} {w : World} (S : Sat c m0 w0 fx m bk st a w) {ops : Array Oper} {o : Oper} (hq : isQuiet o.op = true) (hr : (c.rowOf o).isNone = true) {K : St → Prop} (k : c.opK fx.W ops o st K) :
    ∃ v st', K st' ∧ Sat c m0 w0 fx m bk st' (a.put o.dst v) w ∧ YieldsIf c.P ops (fun w' => isLoad o.op = true → Same bk w w' ∧ Holds w' m) o v a := by
  obtain ⟨hd, h⟩ := guard_sound S k
  rcases h with ⟨h1, st', S', k⟩ | ⟨h1, st', S', k⟩
  · unfold Cfg.runK at k
    split at k
    · rename_i e s he; rw [he] at hr; cases hr
    · split at k
      · rename_i s hs
        refine ⟨.slice none 0 0, _, k, S'.put hd rfl, .inl ⟨h1, fun w' _ => ?_⟩⟩
        rcases nilOf_spec hs with he | he <;> rw [execOp, he] <;> rfl
      · rw [hq] at k
        simp only [cond_true] at k
        obtain ⟨v, u, k1, k2, k3⟩ := quiet_sound S' o k
        exact ⟨u, _, k1, S'.put hd k2, .inl ⟨h1, k3⟩⟩
  · exact ⟨undef, _, k, S'.put hd rfl, .inr ⟨h1, rfl⟩⟩

theorem quietAt_spec {ops : Array Oper} {i : Nat} (h : c.quietAt ops i = true) : ∃ o, ops[i]? = some o ∧ isQuiet o.op = true ∧ (c.rowOf o).isNone = true := by
  unfold Cfg.quietAt at h
  split at h
  · rename_i o ho
    simp only [Bool.and_eq_true] at h
    exact ⟨o, ho, h.1, h.2⟩
  · cases h

theorem quiet_writer {o : Op} (h : isQuiet o = true) : isWriter o = false := by
  unfold isWriter
  split
  · cases h
  · cases h
  · rfl

theorem allK_mem {F : Nat → Prop} : ∀ {l : List Nat}, allK F l → ∀ i ∈ l, F i
  | [], _, _, h => by cases h
  | [j], h, i, hi => by simp at hi; subst hi; exact h
  | j :: k :: r, h, i, hi => by
    rcases List.mem_cons.1 hi with q | q
    · subst q; exact h.1
    · exact allK_mem (l := k :: r) h.2 i q

variable {ops : Array Oper} {K : Ex → St → Prop}

theorem wpOp_of {P : Program} {i : Nat} {o : Oper} {Q : Exit → Act → World → Prop} {next : Act → World → Prop} {a : Act} {w : World} (hi : ops[i]? = some o) (h : OpWp P ops o a w next Q) : wpOp P ops Q i next a w := by
  unfold wpOp
  simp only [hi]
  rcases h with ⟨h1, h2⟩ | ⟨h1, h2⟩
  · rw [if_pos h1]; exact .inl h2
  · rw [if_neg (by rw [h1]; exact Bool.false_ne_true)]; exact h2

/-- Behind the first writer: whatever is taken ahead yields in every world. -/
theorem draw2_sound (hs : Region.noSelect ops = true) : ∀ (n : Nat) (listed : Array Bool) {m : Mem} {bk : List Cn} {st : St} {a : Act} {w : World}, Sat c m0 w0 fx m bk st a w → (∀ i, opAt ops i isLoad = true → listed.getD i false = true) → c.drawK fx.W ops n listed st (K .normal) → wpAny c.P .any ops (Post c m0 w0 fx K) n listed a w
  | 0, listed, m, bk, st, a, w, S, hL, k => by
    unfold Cfg.drawK at k
    split at k
    · rename_i hr; exact ⟨hr, st, m, bk, k, S⟩
    · exact k.elim
  | n + 1, listed, m, bk, st, a, w, S, hL, k => by
    unfold Cfg.drawK at k
    have hL' : ∀ i j, opAt ops i isLoad = true → (listed.setIfInBounds j true).getD i false = true := fun i j h => getD_set_true (hL i h)
    split at k
    · rename_i i hf
      have hmem := List.mem_of_find?_eq_some hf
      have hp := List.find?_some hf
      simp only [Bool.and_eq_true] at hp
      obtain ⟨o, ho, hq, hr⟩ := quietAt_spec hp.1
      rw [ho] at k
      dsimp only at k
      obtain ⟨v, st', k1, S1, hy⟩ := quiet_at S hq hr k
      have hnl : isLoad o.op = false := by
        cases hl : isLoad o.op with
        | false => rfl
        | true =>
          have h5 := hL i (by unfold opAt; rw [ho]; exact hl)
          rw [unlisted hmem] at h5
          cases h5
      refine wpAny_first ho (Region.noSelect_spec hs) (fun _ _ _ q => q.elim) n listed a w (Region.free_spec ho hp.2) hmem ?_ (draw2_sound hs n _ S1 (fun i h => hL' i _ h) k1)
      exact hy.imp (fun ⟨p, q⟩ => ⟨p, fun w => q w (fun e => by rw [hnl] at e; cases e)⟩) id
    · split at k
      · exact k.elim
      · rename_i rs hne
        refine ⟨fun h => absurd h hne, fun i hi => ?_⟩
        have ki := allK_mem k i hi
        obtain ⟨_, o, ho, _⟩ := mem_ready.1 hi
        rw [ho] at ki
        dsimp only at ki
        exact wpOp_of ho (op_sound S ki fun a' w' ⟨st', m', bk', k', S'⟩ _ => draw2_sound hs n _ S' (fun i h => hL' i _ h) k')

theorem Sat.same_of_kept {m : Mem} {bk : List Cn} {st : St} {a : Act} {w w' : World} (S : Sat c m0 w0 fx m bk st a w) (h : Kept w w') : Same bk w w' ∧ Holds w' m :=
  ⟨fun i b hb => h.2 b (S.blk_lt hb).2, fun b o v hm => by rw [← S.hold b o v hm]; exact World.cell?_of_block (h.2 b (S.mem_lt hm))⟩

theorem draw1_sound (hs : Region.noSelect ops = true) (hw : writersOK ops = true) : ∀ (n : Nat) (listed : Array Bool) {m : Mem} {bk : List Cn} {st : St} {a : Act} {w : World}, Sat c m0 w0 fx m bk st a w → DC ops listed → c.drawK fx.W ops n listed st (K .normal) → wpG c.P ops (Post c m0 w0 fx K) (Kept w) n listed a w
  | 0, listed, m, bk, st, a, w, S, hD, k => by
    unfold Cfg.drawK at k
    split at k
    · rename_i hr; exact ⟨hr, st, m, bk, k, S⟩
    · exact k.elim
  | n + 1, listed, m, bk, st, a, w, S, hD, k => by
    unfold Cfg.drawK at k
    split at k
    · rename_i i hf
      have hmem := List.mem_of_find?_eq_some hf
      have hp := List.find?_some hf
      simp only [Bool.and_eq_true] at hp
      obtain ⟨o, ho, hq, hr⟩ := quietAt_spec hp.1
      rw [ho] at k
      dsimp only at k
      obtain ⟨v, st', k1, S1, hy⟩ := quiet_at S hq hr k
      refine wpG_first ho (Region.noSelect_spec hs) (fun _ _ _ q => q.elim) hw (quiet_writer hq) n listed a w hD (Region.free_spec ho hp.2) hmem ?_ (Kept.refl w) (draw1_sound hs hw n _ S1 (hD.set hmem) k1)
      exact hy.imp (fun ⟨p, q⟩ => ⟨p, fun w' e => q w' (fun l => S.same_of_kept (e l))⟩) id
    · split at k
      · exact k.elim
      · rename_i rs hne
        refine ⟨fun h => absurd h hne, fun i hi => ?_⟩
        have ki := allK_mem k i hi
        obtain ⟨_, o, ho, _⟩ := mem_ready.1 hi
        rw [ho] at ki
        dsimp only at ki
        refine wpOp_of ho (op_sound S ki fun a' w' ⟨st', m', bk', k', S'⟩ hk => ?_)
        cases hjw : isWriter o.op with
        | true =>
          have hjw' : opAt ops i isWriter = true := by unfold opAt; rw [ho]; exact hjw
          exact .inl ⟨hjw', draw2_sound hs n _ S' (fun j h => getD_set_true (loads_listed hw hD hi hjw' h)) k'⟩
        | false =>
          have hjw' : opAt ops i isWriter = false := by unfold opAt; rw [ho]; exact hjw
          exact .inr ⟨hjw', hk hjw, wpG_mono (fun w'' h => (hk hjw).trans h) _ _ _ _ (draw1_sound hs hw n _ S' (hD.set hi) k')⟩

theorem draw_sound {m : Mem} {bk : List Cn} {st : St} {a : Act} {w : World} (S : Sat c m0 w0 fx m bk st a w) {id : Nat} (hok : c.drawOK ops = true) (k : c.drawK fx.W ops ops.size (Array.replicate ops.size false) st (K .normal)) :
    (Code.region id ops true).wp c.P (Post c m0 w0 fx K) a w := by
  unfold Cfg.drawOK at hok
  simp only [Bool.and_eq_true] at hok
  exact wp_region_any hok.1.1 (wpAny_of_G _ _ _ _ (draw1_sound hok.1.2 hok.2 _ _ S.drew (DC_init _ _) k))
end
end Go.Proofs.YtjeoelajkncpcaaDoor.V
