/- FUNCTIONS: a function whose condition holds keeps its contract. No condition of its own. -/
import Derived.Test.YtjeoelajkncpcaaDoorV21
namespace Go.Proofs.YtjeoelajkncpcaaDoor.V
open Go Go.RowKit
set_option linter.unusedVariables false
set_option linter.unusedSimpArgs false

section
variable {c : Cfg} {m0 : Mem} {w0 : World} {fx : Fx} {m : Mem} {bk : List Cn} {st : St} {a : Act} {w : World}

def resOf (tmps : Array Value) : ResultVar → Sem Value
  | .tmp t => pure (tmps.getD t undef)
  | .cell a t => do loadVar t (← asAddr (tmps.getD a undef))

theorem res_sound (S : Sat c m0 w0 fx m bk st a w) : ∀ (l : List ResultVar) {K : List EV → Prop}, c.resK st l K → ∃ vs us, K vs ∧ RepL c.P m vs (J st.hp bk) us ∧ (l.mapM (resOf a.tmps)).run c.P w = .ok us w
  | [], K, k => ⟨[], [], k, RepL_nil.2 rfl, by simp⟩
  | .tmp t :: r, K, k => by
    obtain ⟨vs, us, h1, h2, h3⟩ := res_sound S r (show c.resK st r fun vs => K (st.env t :: vs) from k)
    refine ⟨_, _, h1, RepL_cons.2 ⟨_, _, rfl, S.env t, h2⟩, ?_⟩
    simp only [List.mapM_cons, resOf, Sem.run_bind, Sem.run_pure, Result.andThen_ok, h3]
  | .cell ad t :: r, K, k => by
    obtain ⟨cs, off, b, o, us, k1, e1, e2, e3⟩ := ptK_sound S (S.env ad) (show Cfg.ptK st (st.env ad) (fun cs off => c.ldK t cs off fun v => c.resK st r fun vs => K (v :: vs)) from k)
    obtain ⟨v, u, k2, l2, l3⟩ := ldK_sound (b := b) (o := o) k1 e2
    have hl := l3 w (e3 w (fun _ _ _ => rfl) S.hold)
    obtain ⟨vs, us', h1, h2, h3⟩ := res_sound S r k2
    refine ⟨_, _, h1, RepL_cons.2 ⟨_, _, rfl, l2, h2⟩, ?_⟩
    have hl' : (loadVar t ⟨b, o + off, none⟩).run c.P w = .ok u w := by
      have : (Instr.loadAt t (.pointer (some ⟨b, o + off, none⟩))) = loadVar t ⟨b, o + off, none⟩ := by simp [Instr.loadAt, Instr.sureAddr]
      rw [← this]; exact hl
    simp only [List.mapM_cons, resOf, Sem.run_bind, e1, asAddr, Sem.run_pure, Result.andThen_ok, hl', h3]

theorem ret_sound (S : Sat c m0 w0 fx m bk st a w) {fn : Func} {out : Shape} {R : out.Val → Prop} (k : c.retK fn out st R) :
    ∃ v, (results fn a.tmps).run c.P w = .ok v w ∧ ∃ r, R r ∧ (Reps c.P out).V (frzM m w (blks bk fun i => ∃ x, st.hp[i]? = some x)) r v := by
  obtain ⟨vs, us, h1, h2, h3⟩ := res_sound S _ k
  have hr : (results fn a.tmps).run c.P w = .ok (if h : us.toArray.size = 1 then us.toArray[0] else .tuple us.toArray) w := by
    have hm : (fn.results.mapM (resOf a.tmps)).run c.P w = .ok us.toArray w := by
      rw [Array.mapM_eq_mapM_toList]
      simp only [map_eq_pure_bind, Sem.run_bind, h3, Result.andThen_ok, Sem.run_pure]
    have he : results fn a.tmps = (do let vs ← fn.results.mapM (resOf a.tmps); pure (if h : vs.size = 1 then vs[0] else .tuple vs)) := by
      unfold results
      congr 1
    rw [he]
    simp only [Sem.run_bind, hm, Result.andThen_ok, Sem.run_pure]
  refine ⟨_, hr, ?_⟩
  have hF := frz_all S
  have hm := frzM_le S (blks bk fun i => ∃ x, st.hp[i]? = some x)
  have ht := S.tab.mono hm
  split at h1
  · rename_i v
    obtain ⟨u, us', e1, e2, e3⟩ := RepL_cons.1 h2
    rw [RepL_nil.1 e3] at e1
    subst e1
    obtain ⟨x, k1, k2⟩ := (dec_sound hF hm ht out).1 _ _ _ e2 (ids_ok v e2) h1
    exact ⟨x, k1, by simpa using k2⟩
  · rename_i hne
    split at h1
    · rename_i f R
      obtain ⟨x, k1, k2⟩ := decS_sound hF hm ht f _ _ _ h2 (idsL_ok _ h2) h1
      refine ⟨x, k1, us, ?_, k2⟩
      have hlen := RepL_length h2
      have : ¬ us.toArray.size = 1 := by
        intro h
        simp only [List.size_toArray] at h
        rw [hlen] at h
        obtain ⟨v, hv⟩ := List.length_eq_one_iff.1 h
        exact hne v hv
      rw [dif_neg this]
    · exact h1.elim
end

/-- THE CONTRACT, out of the condition. -/
theorem fn_sound {c : Cfg} {f : FuncId} {args : List EV} {out : Shape} {R : out.Val → Prop} (k : c.fnK f args out R) : FnE c.toBase f args out R := by
  unfold Cfg.fnK at k
  split at k
  · rename_i fn hf
    split at k
    · rename_i b hb
      obtain ⟨hc, k⟩ := cond_true' k
      simp only [Bool.and_eq_true, Bool.not_eq_true'] at hc
      refine ⟨⟨fn, b, hf, hb, hc.2⟩, fun m w us ht hh hargs => calls_of_wp hf hb ?_⟩
      have hsz : ∀ d ∈ b.dsts', d < (us.toArray ++ Array.replicate (fn.ntmps - us.toArray.size) undef).size := by
        intro d hd
        have := List.all_eq_true.1 hc.1 d hd
        have h1 : d < fn.ntmps := Nat.le_of_ble_eq_true this
        simp only [Array.size_append, Array.size_replicate, List.size_toArray]
        omega
      have S : Sat c m w { W := b.dsts', tmps := us.toArray ++ Array.replicate (fn.ntmps - us.toArray.size) undef, fe := fun _ => none, gh := fun _ _ => False, n0 := w.heap.size, keep := fun _ => False } m [] { env := fun i => (args[i]?).getD .bot, hp := [] }
          { tmps := us.toArray ++ Array.replicate (fn.ntmps - us.toArray.size) undef, defers := [] } w := by
        refine { hold := hh, tab := ht, ext := Mem.ext_refl _ m, below := Below.refl _ w, len := rfl, ents := fun i e he => by simp at he, apart := fun i j b hi => by simp at hi, env := fun i => ?_, defers := rfl, fix := ⟨rfl, fun _ _ => rfl, hsz, fun i e k hk => by cases hk⟩, gh := fun _ _ h => h.elim, base := Nat.le_refl _, keep := fun _ h => h.elim }
        show Rep c.P m ((args[i]?).getD .bot) (J [] []) ((us.toArray ++ Array.replicate (fn.ntmps - us.toArray.size) undef).getD i undef)
        cases hv : args[i]? with
        | none => trivial
        | some v =>
          obtain ⟨u, h1, h2⟩ := RepL_get hargs hv
          have hi := (List.getElem?_eq_some_iff.1 h1).1
          have : (us.toArray ++ Array.replicate (fn.ntmps - us.toArray.size) undef).getD i undef = u := by
            rw [Array.getD_eq_getD_getElem?, Array.getElem?_append_left (by simpa using hi)]
            simp [h1]
          show Rep c.P m v (J [] []) ((us.toArray ++ Array.replicate (fn.ntmps - us.toArray.size) undef).getD i undef)
          rw [this]
          exact Rep_mono (Mem.le_refl m) v (fun _ _ q => q.elim) h2
      have fin : ∀ {st2 : St} {m2 : Mem} {bk2 : List Cn} {a2 : Act} {w2 : World} {fx2 : Fx}, fx2.n0 = w.heap.size → c.retK fn out st2 R → Sat c m w fx2 m2 bk2 st2 a2 w2 → a2.defers = [] ∧ ∃ v, (results fn a2.tmps).run c.P w2 = .ok v w2 ∧ PostOf (fun m v => ∃ r, R r ∧ (Reps c.P out).V m r v) m w (.returned v) w2 := by
        intro st2 m2 bk2 a2 w2 fx2 hn k2 S2
        have he := S2.ext
        have hb := S2.below
        have hf := frzM_ext S2 (fun i => ∃ x, st2.hp[i]? = some x)
        rw [hn] at he hb hf
        obtain ⟨v, h1, h2⟩ := ret_sound S2 k2
        exact ⟨S2.defers, v, h1, v, _, rfl, Mem.ext_trans he hf, frzM_holds S2 _, hb, h2⟩
      refine wp_mono (vc_sound b S k) fun e a2 w2 h => ?_
      cases e with
      | normal => obtain ⟨st2, m2, bk2, k2, S2⟩ := h; exact fin rfl k2 S2
      | ret => obtain ⟨st2, m2, bk2, k2, S2⟩ := h; exact fin rfl k2 S2
      | exit id => obtain ⟨st2, m2, bk2, k2, S2⟩ := h; exact k2.elim
      | goto l => exact h.elim
      | panic ch => exact h.elim
      | outgrown => exact h.elim
    · exact k.elim
  · exact k.elim
end Go.Proofs.YtjeoelajkncpcaaDoor.V
