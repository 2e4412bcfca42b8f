/- CODE: what the condition says of it, it does. No condition of its own. -/
import Derived.Test.YtjeoelajkncpcaaDoorV20
namespace Go.Proofs.YtjeoelajkncpcaaDoor.V
open Go Go.RowKit
set_option linter.unusedVariables false
set_option linter.unusedSimpArgs false

open Classical in
/-- A loop, by a number that grows less. -/
theorem wp_loop_n {P : Program} {Q : Exit → Act → World → Prop} {c : Code} (R : Nat → Act → World → Prop) (round : ∀ n a w, R n a w → c.wp P (Exit.then (fun a' w' => ∃ n', n' < n ∧ R n' a' w') Q) a w)
    {n : Nat} {a : Act} {w : World} (h : R n a w) : (Code.loop c).wp P Q a w := by
  have key : ∀ n a w, R n a w → ∀ (b : Frame) (k : List Item) (cs : List Frame), ∃ e a' w', Q e a' w' ∧ Arrives P (lone (b.at a (.code c :: .inLoop c :: k)) cs w) b k cs e a' w' := by
    intro n
    induction n using Nat.strongRecOn with
    | _ n ih =>
      intro a w hR b k cs
      obtain ⟨e, a₁, w₁, hq, harr⟩ := round n a w hR b (.inLoop c :: k) cs
      cases e with
      | normal =>
        obtain ⟨n', hlt, hR'⟩ := hq
        obtain ⟨e₂, a₂, w₂, hq₂, harr₂⟩ := ih n' hlt a₁ w₁ hR' b k cs
        exact ⟨e₂, a₂, w₂, hq₂, .of_steps (Steps.trans harr (.one step_inLoop)) harr₂⟩
      | exit id => exact ⟨_, a₁, w₁, hq, .pass (x := .inLoop c) rfl (fun _ _ => .inl (by simp)) harr⟩
      | goto l => exact ⟨_, a₁, w₁, hq, .pass (x := .inLoop c) rfl (fun _ _ => .inl (by simp)) harr⟩
      | ret => exact ⟨_, a₁, w₁, hq, .pass (x := .inLoop c) rfl (fun _ _ => .inl (by simp)) harr⟩
      | panic ch => exact ⟨_, a₁, w₁, hq, .pass (x := .inLoop c) rfl (fun _ _ => .inl (by simp)) harr⟩
      | outgrown => exact ⟨_, a₁, w₁, hq, .pass (x := .inLoop c) rfl (fun _ _ => .inl (by simp)) harr⟩
  intro b k cs
  obtain ⟨e, a', w', hq, harr⟩ := key n a w h b k cs
  exact ⟨e, a', w', hq, .of_steps (.one step_loop) harr⟩

section
variable {c : Cfg} {w0 : World}

theorem Reach.mono {m0 : Mem} {fx : Fx} {K K' : St → Prop} {a : Act} {w : World} (h : ∀ st, K st → K' st) : Reach c m0 w0 fx K a w → Reach c m0 w0 fx K' a w
  | ⟨st, m, bk, k, S⟩ => ⟨st, m, bk, h st k, S⟩

theorem loop_sound {b : Code} {m0 : Mem} {fx : Fx} {m : Mem} {bk : List Cn} {st : St} {a : Act} {w : World} {lv hv : List Nat} {K : Ex → St → Prop}
    (ih : ∀ {m0 : Mem} {fx : Fx} {m : Mem} {bk : List Cn} {st : St} {a : Act} {w : World} {K : Ex → St → Prop}, Sat c m0 w0 fx m bk st a w → c.vc b fx.W st K → b.wp c.P (Post c m0 w0 fx K) a w)
    (S : Sat c m0 w0 fx m bk st a w) (hW : ∀ d ∈ b.dsts', d ∈ fx.W) (ho : ownAll st.hp hv = true) (k : Cfg.loopV lv hv b.dsts' st (fun st' back => c.vc b b.dsts' st' back) K) : (Code.loop b).wp c.P (Post c m0 w0 fx K) a w := by
  obtain ⟨n, k⟩ := k
  have hWa : ∀ d ∈ b.dsts', d < a.tmps.size := fun d hd => by rw [S.fix.1]; exact S.fix.2.2.1 d (hW d hd)
  have rd : ∀ {st2 : St} {x : (shL (slotsOf st.hp (apOf st lv hv) st lv hv)).Val}, HeadN lv hv (mkL (slotsOf st.hp (apOf st lv hv) st lv hv) x) := headN_mk ho _
  refine wp_loop_n (fun n a' w' => ∃ x m' bk', loopN (fun x back => c.vc b b.dsts' (headOf st lv hv b.dsts' (mkL (slotsOf st.hp (apOf st lv hv) st lv hv) x)) fun e st' => match e with
      | .normal => matL (slotsOf st.hp (apOf st lv hv) st lv hv) (slotsOf st.hp (apOf st lv hv) st' lv hv) back
      | .ret => K .ret { st' with hp := unlock st.hp st'.hp }
      | .exit id => K (.exit id) { st' with hp := unlock st.hp st'.hp }) n x ∧
      Sat c m w0 (loopFx fx hv b.dsts' bk st a) m' bk' (headOf st lv hv b.dsts' (mkL (slotsOf st.hp (apOf st lv hv) st lv hv) x)) a' w') ?_ (n := n) ⟨_, m, _, k, head_sat S S rfl rfl (Mem.ext_refl _ m) hWa rfl (fun _ _ => rfl) (fun _ _ h => h) (fun i e _ he => ⟨.inl he, rfl⟩) ho (rd (st2 := st)) (mkL_self _ (slots_own ho))⟩
  intro n a' w' ⟨x, m', bk', hl, S1⟩
  cases n with
  | zero => exact hl.elim
  | succ n =>
    refine wp_mono (ih S1 hl) fun e a2 w2 h => ?_
    cases e with
    | normal =>
      obtain ⟨st2, m2, bk2, k2, S2⟩ := h
      obtain ⟨y, hy, hs⟩ := matL_spec _ _ k2
      refine ⟨n, Nat.lt_succ_self n, y, m2, _, hy, head_sat S S2 rfl rfl S2.ext hWa S2.fix.1 S2.fix.2.1 S2.gh (fun i e hi he => ?_) ho (rd (st2 := st2)) hs⟩
      obtain ⟨k0, hk0, _⟩ := S.ents i e he
      have hc : hv.contains i = false := by
        cases h : hv.contains i with
        | false => rfl
        | true => exact absurd (List.contains_iff_mem.1 h) hi
      obtain ⟨_, p2, p3⟩ := S2.fix.2.2.2 i e.lock k0 (by unfold loopFx; dsimp only; rw [hc, he, hk0]; rfl)
      exact ⟨.inr p2, by rw [p3, hk0]⟩
    | ret =>
      obtain ⟨st2, m2, bk2, k2, S2⟩ := h
      exact ⟨_, m2, bk2, k2, exit_sat S hW ho S2⟩
    | exit id =>
      obtain ⟨st2, m2, bk2, k2, S2⟩ := h
      exact ⟨_, m2, bk2, k2, exit_sat S hW ho S2⟩
    | goto l => exact h.elim
    | panic ch => exact h.elim
    | outgrown => exact h.elim

/-- THE CONDITION IS SOUND. -/
theorem vc_sound (b : Code) : ∀ {m0 : Mem} {fx : Fx} {m : Mem} {bk : List Cn} {st : St} {a : Act} {w : World} {K : Ex → St → Prop}, Sat c m0 w0 fx m bk st a w → c.vc b fx.W st K → b.wp c.P (Post c m0 w0 fx K) a w := by
  induction b with
  | skip => intro m0 fx m bk st a w K S k; exact wp_skip ⟨st, m, bk, k, S⟩
  | label l => intro m0 fx m bk st a w K S k; exact wp_label ⟨st, m, bk, k, S⟩
  | ret => intro m0 fx m bk st a w K S k; exact wp_ret ⟨st, m, bk, k, S⟩
  | exit id => intro m0 fx m bk st a w K S k; exact wp_exit ⟨st, m, bk, k, S⟩
  | region id ops draw =>
    intro m0 fx m bk st a w K S k
    cases draw with
    | false => exact region_sound S k
    | true =>
      obtain ⟨hok, k⟩ := cond_true' (show cond (c.drawOK ops) _ False from k)
      exact draw_sound S hok k
  | seq x y ihx ihy =>
    intro m0 fx m bk st a w K S k
    refine wp_seq (wp_mono (ihx S k) fun e a' w' h => ?_)
    cases e with
    | normal => obtain ⟨st2, m2, bk2, k2, S2⟩ := h; exact ihy S2 k2
    | ret => exact h
    | exit id => exact h
    | goto l => exact h.elim
    | panic ch => exact h.elim
    | outgrown => exact h.elim
  | cond x p q ihp ihq =>
    intro m0 fx m bk st a w K S k
    have hx := ev_sound S x
    unfold Cfg.vc at k
    split at k
    · rename_i z he
      rw [he] at hx
      have hz : a.eval x = .bool z := hx
      cases z with
      | true => exact wp_cond hz (ihp S k)
      | false => exact wp_cond hz (ihq S k)
    · exact k.elim
  | block id b ih =>
    intro m0 fx m bk st a w K S k
    refine wp_block (wp_mono (ih S k) fun e a' w' h => ?_)
    cases e with
    | normal => exact h
    | ret => exact h
    | exit j =>
      show if j = id then _ else _
      by_cases hj : j = id
      · rw [if_pos hj]
        refine h.mono fun st k => ?_
        rcases cond_spec k with ⟨_, k⟩ | ⟨hb, _⟩
        · exact k
        · subst hj; rw [Nat.beq_refl] at hb; cases hb
      · rw [if_neg hj]
        refine h.mono fun st k => ?_
        rcases cond_spec k with ⟨hb, _⟩ | ⟨_, k⟩
        · exact absurd (beq_eq hb) hj
        · exact k
    | goto l => exact h.elim
    | panic ch => exact h.elim
    | outgrown => exact h.elim
  | scope b ih =>
    intro m0 fx m bk st a w K S k
    refine wp_scope_straight (wp_mono (ih S k) fun e a' w' h => ?_)
    cases e with
    | goto l => exact h.elim
    | _ => exact h
  | loop b ih =>
    intro m0 fx m bk st a w K S k
    obtain ⟨hb, k⟩ := cond_true' (show cond _ _ False from k)
    simp only [Bool.and_eq_true] at hb
    refine loop_sound ih (S.freeze hb.2) (fun d hd => ?_) hb.1.2 k
    have := List.all_eq_true.1 hb.1.1 d hd
    simpa using this
  | _ => intro m0 fx m bk st a w K S k; exact False.elim k
end
end Go.Proofs.YtjeoelajkncpcaaDoor.V
