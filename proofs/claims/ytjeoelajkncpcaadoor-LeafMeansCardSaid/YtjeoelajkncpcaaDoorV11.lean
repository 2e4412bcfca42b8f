/- Quiet operations: every one that the condition lets through does what it says. No condition of its own. -/
import Derived.Test.YtjeoelajkncpcaaDoorV10
namespace Go.Proofs.YtjeoelajkncpcaaDoor.V
open Go Go.RowKit
set_option linter.unusedVariables false
set_option linter.unusedSimpArgs false

section
variable {c : Cfg} {m0 : Mem} {w0 : World} {fx : Fx} {m : Mem} {bk : List Cn} {st : St} {a : Act} {w : World}

theorem map_toArray {α β : Type} (f : α → β) (x : Array α) : x.map f = (x.toList.map f).toArray := by
  rw [← Array.toList_map, Array.toArray_toList]

/-- What is so of a quiet operation, as the machine carries it out. -/
def YldN (ld : Bool) (c : Cfg) (m : Mem) (bk : List Cn) (st : St) (w : World) (K : EV → Prop) (s : Sem Next) : Prop :=
  ∃ v u, K v ∧ Rep c.P m v (J st.hp bk) u ∧ ∀ w', (ld = true → Same bk w w' ∧ Holds w' m) → s.run c.P w' = .ok (.value u) w'

theorem Yld.next {ld : Bool} {K : EV → Prop} {s : Sem Value} (h : Yld ld c m bk st w K s) : YldN ld c m bk st w K (do pure (.value (← s))) := by
  obtain ⟨v, u, h1, h2, h3⟩ := h
  exact ⟨v, u, h1, h2, fun w' hw => by simp only [Sem.run_bind, h3 w' hw, Result.andThen_ok, Sem.run_pure]⟩

theorem run_makeInterface' {P : Program} {t : TypeId} {d : TypeDesc} {x : Value} (w : World) (hu : P.underlying t = some d) (hd : ∀ ms, d ≠ .interface ms) : (Instr.makeInterface t x).run P w = .ok (.iface t x) w := by
  cases d <;> first | exact absurd rfl (hd _) | simp [Instr.makeInterface, run_underlying hu]

/-- A type assertion with two results. -/
theorem altK_sound {t : TypeId} {K : EV → Prop} {B : Prop} {JJ : EV → Value → Prop} : ∀ (s : Shape) (x : s.Val) (t' : Nat) (u : Value), (Reps c.P s).I m t' x u → altK s x t K B → (t' = t ∧ ∃ v, K v ∧ Rep c.P m v JJ u) ∨ (t' ≠ t ∧ B)
  | .one t0 s, x, t', u, h, k => by
    obtain ⟨e, h⟩ := h
    subst e
    simp only [altK] at k
    rcases cond_spec k with ⟨hb, k⟩ | ⟨hb, k⟩
    · exact .inl ⟨beq_eq hb, _, k, Rep_enc0 s JJ h⟩
    · exact .inr ⟨fun e => by subst e; simp at hb, k⟩
  | .alt t0 s r, x, t', u, h, k => by
    simp only [altK] at k
    cases x with
    | inl y =>
      obtain ⟨e, h⟩ := h
      subst e
      rcases cond_spec k with ⟨hb, k⟩ | ⟨hb, k⟩
      · exact .inl ⟨beq_eq hb, _, k, Rep_enc0 s JJ h⟩
      · exact .inr ⟨fun e => by subst e; simp at hb, k⟩
    | inr y => exact altK_sound r y t' u h k
  | .bool, _, _, _, _, k => k.elim
  | .int _, _, _, _, _, k => k.elim
  | .slice _, _, _, _, _, k => k.elim
  | .st _, _, _, _, _, k => k.elim
  | .unit, _, _, _, _, k => k.elim
  | .pair _ _, _, _, _, _, k => k.elim
  | .tup _, _, _, _, _, k => k.elim
  | .func _ _, _, _, _, _, k => k.elim
  | .iface _, _, _, _, _, k => k.elim

theorem run_assert_ok {P : Program} {t xt : TypeId} {d : TypeDesc} {v : Value} (w : World) (hu : P.underlying t = some d) (hd : ∀ ms, d ≠ .interface ms) (ok : Bool) :
    (Instr.typeAssert (.iface t v) xt t ok).run P w = .ok (if ok = true then .tuple #[v, .bool true] else v) w := by
  cases d <;> first | exact absurd rfl (hd _) | (cases ok <;> simp [Instr.typeAssert, run_underlying hu])

theorem run_assert_no {P : Program} {t t' xt : TypeId} {d : TypeDesc} {v z : Value} (w : World) (hu : P.underlying t = some d) (hd : ∀ ms, d ≠ .interface ms) (hn : t' ≠ t) (hz : (zeroValue t).run P w = .ok z w) :
    (Instr.typeAssert (.iface t' v) xt t true).run P w = .ok (.tuple #[z, .bool false]) w := by
  cases d <;> first | exact absurd rfl (hd _) | simp [Instr.typeAssert, run_underlying hu, hn, hz]

theorem run_assert_nil {P : Program} {t xt : TypeId} {d : TypeDesc} {z : Value} (w : World) (hu : P.underlying t = some d) (hd : ∀ ms, d ≠ .interface ms) (hz : (zeroValue t).run P w = .ok z w) :
    (Instr.typeAssert .nilIface xt t true).run P w = .ok (.tuple #[z, .bool false]) w := by
  cases d <;> first | exact absurd rfl (hd _) | simp [Instr.typeAssert, run_underlying hu, hz]

theorem pair_rep {v : EV} {u : Value} {b : Bool} {JJ : EV → Value → Prop} (h : Rep c.P m v JJ u) : Rep c.P m (.tup [v, .p .bool b]) JJ (.tuple #[u, .bool b]) :=
  ⟨[u, .bool b], rfl, RepL_cons.2 ⟨_, _, rfl, h, RepL_cons.2 ⟨_, _, rfl, rfl, RepL_nil.2 rfl⟩⟩⟩

theorem mxE_sound {f : Int → Int → Int} {g : Value → Value → Sem Value} (hg : ∀ k p q (w : World), (g (.int k p) (.int k q)).run c.P w = .ok (.int k (f p q)) w) {JJ : EV → Value → Prop} : ∀ (r : List EV) (us : List Value) (v : EV) (u : Value) (K : EV → Prop),
    Rep c.P m v JJ u → RepL c.P m r JJ us → mxE f v r K → ∃ e q, K e ∧ Rep c.P m e JJ q ∧ ∀ w : World, (us.foldlM g u).run c.P w = .ok q w
  | [], us, v, u, K, h, hr, k => by
    rw [RepL_nil.1 hr]
    simp only [mxE] at k
    exact ⟨v, u, k, h, fun w => rfl⟩
  | x :: r, us, v, u, K, h, hr, k => by
    obtain ⟨u2, us', rfl, h1, h2⟩ := RepL_cons.1 hr
    have hs : ∃ kk p q, v = .p (.int kk) p ∧ x = .p (.int kk) q ∧ mxE f (.p (.int kk) (f p q)) r K := by
      cases v with
      | p s p' =>
        cases s with
        | int k1 =>
          cases x with
          | p s' q' =>
            cases s' with
            | int k2 =>
              simp only [mxE] at k
              split at k
              · rename_i e; subst e; exact ⟨_, _, _, rfl, rfl, k⟩
              · simp [mxE] at k
            | _ => simp [mxE] at k
          | _ => simp [mxE] at k
        | _ => simp [mxE] at k
      | _ => simp [mxE] at k
    obtain ⟨kk, p, q, rfl, rfl, k2⟩ := hs
    obtain rfl : u = .int kk p := h
    obtain rfl : u2 = .int kk q := h1
    obtain ⟨e, s, l1, l2, l3⟩ := mxE_sound hg r us' (.p (.int kk) (f p q)) (.int kk (f p q)) K rfl h2 k2
    exact ⟨e, s, l1, l2, fun w => by simp only [List.foldlM_cons, Sem.run_bind, hg, Result.andThen_ok, l3 w]⟩

theorem quiet_sound (S : Sat c m0 w0 fx m bk st a w) (o : Oper) {K : EV → Prop} (k : c.quiet o.op st K) : YldN (isLoad o.op) c m bk st w K (execOp a.eval o) := by
  obtain ⟨dst, op, type, pos, after, guard⟩ := o
  dsimp only at k
  cases op with
  | move x => exact ⟨_, _, k, ev_sound S x, fun w' _ => by simp [execOp]⟩
  | assign x => exact ⟨_, _, k, ev_sound S x, fun w' _ => by simp [execOp]⟩
  | pick b x y =>
    have hb := ev_sound S b
    simp only [Cfg.quiet] at k
    split at k
    · rename_i z he
      rw [he] at hb
      have hb' : a.eval b = .bool z := hb
      obtain ⟨v, k1, k2⟩ := pickK_sound k (ev_sound S x) (ev_sound S y)
      exact ⟨v, _, k1, k2, fun w' _ => by simp [execOp, hb', asBool]⟩
    · exact k.elim
  | load t x => exact (load_sound S (ev_sound S x) k).next
  | fieldAddr s x f =>
    simp only [Cfg.quiet] at k
    split at k
    · rename_i fs hu
      split at k
      · rename_i fd hf
        obtain ⟨hb, k⟩ := cond_true' k
        simp only [Bool.and_eq_true] at hb
        exact (field_sound (ev_sound S x) hu hf hb.1 (ble_le hb.2) k).next
      · exact k.elim
    · exact k.elim
  | field t x f =>
    have hx := ev_sound S x
    simp only [Cfg.quiet] at k
    split at k
    · rename_i cs fs he hu
      rw [he] at hx
      obtain ⟨us, e1, e2⟩ := hx
      split at k
      · rename_i fd hf
        obtain ⟨v, q, k1, k2, k3⟩ := part_sound k e2
        refine ⟨v, q, k1, k2, fun w' _ => ?_⟩
        simp [execOp, Instr.field, run_underlying hu, hf, e1, asAgg, k3 w']
      · exact k.elim
    · exact k.elim
  | indexAddr t x i => exact (indexAddr_sound S k).next
  | index t x i =>
    have hx := ev_sound S x
    have hi := ev_sound S i
    simp only [Cfg.quiet] at k
    split at k
    · rename_i kk n len e cs hn hu he
      rw [hn] at hi
      rw [he] at hx
      have hi' : a.eval i = .int kk n := hi
      obtain ⟨us, e1, e2⟩ := hx
      split at k
      · rename_i l k2 hl hue
        obtain ⟨hb, ⟨h0, h1⟩, k⟩ := cond_true' k
        simp only [Bool.and_eq_true] at hb
        have h0' : (0 : Int) ≤ n := h0
        have h1' : n < (len : Int) := h1
        have hsz : c.P.cellsOf e = 1 := beq_eq hb.1
        have hlen : len = cs.length := beq_eq hb.2
        have hus := intsOf_spec hl e2
        have hll : l.length = cs.length := by rw [← RepL_length e2, hus, List.length_map]
        have hlt : n.toNat < l.length := by have := lt_help (off := 0) h0' h1' (q := l.length) (by omega); simpa using this
        refine ⟨_, .int .i64 (l.getD n.toNat 0), k, rfl, fun w' _ => ?_⟩
        have hagg : (isAgg e).run c.P w' = .ok false w' := by simp [isAgg, run_underlying hue]
        have hg : us.toArray[n.toNat * c.P.cellsOf e]? = some (.int .i64 (l.getD n.toNat 0)) := by
          rw [hsz, Nat.mul_one, hus]
          simp only [List.getElem?_toArray, List.getElem?_map, List.getElem?_eq_getElem hlt, List.getD_eq_getElem?_getD]
          rfl
        have hp := run_part hagg hg
        simp only [execOp, Sem.run_bind, Instr.index, hi', asIntOf, Sem.run_pure, Result.andThen_ok, run_underlying hu, e1, Sem.run_ite, if_pos (And.intro h0' h1'), run_sizeOf' w' (show 1 ≤ c.P.cellsOf e by omega), hp]
      · exact k.elim
    · exact k.elim
  | extract t i =>
    have hx := ev_sound S t
    simp only [Cfg.quiet] at k
    split at k
    · rename_i vs he
      rw [he] at hx
      obtain ⟨us, e1, e2⟩ := hx
      unfold atK at k
      split at k
      · rename_i v hv
        obtain ⟨u, q1, q2⟩ := RepL_get e2 hv
        refine ⟨v, u, k, q2, fun w' _ => ?_⟩
        simp [execOp, Instr.extract, e1, q1]
      · exact k.elim
    · exact k.elim
  | binOp op t x y yt =>
    obtain ⟨v, u, k1, k2, k3⟩ := bin_sound k (ev_sound S x) (ev_sound S y) x
    refine ⟨v, u, k1, k2, fun w' _ => ?_⟩
    have := k3 w'
    simp only [execOp, Sem.run_bind] at this ⊢
    rw [this]
    simp
  | unOp op t x =>
    have hx := ev_sound S x
    simp only [Cfg.quiet] at k
    split at k
    · rename_i p he
      rw [he] at hx
      have hx' : a.eval x = .bool p := hx
      exact ⟨_, _, k, rfl, fun w' _ => by simp [execOp, hx', Op.unary]⟩
    · rename_i kk n he
      rw [he] at hx
      have hx' : a.eval x = .int kk n := hx
      exact ⟨_, _, k, rfl, fun w' _ => by simp [execOp, hx', Op.unary, Op.intArith]⟩
    · rename_i kk n he
      rw [he] at hx
      have hx' : a.eval x = .int kk n := hx
      exact ⟨_, _, k, rfl, fun w' _ => by simp [execOp, hx', Op.unary, Op.intBits]⟩
    · exact k.elim
  | convert q d x =>
    have hx := ev_sound S x
    simp only [Cfg.quiet] at k
    split at k
    · rename_i k1 k2 n hu he
      rw [he] at hx
      have hx' : a.eval x = .int k2 n := hx
      obtain ⟨hb, k⟩ := cond_true' k
      obtain ⟨dq, hq⟩ := Option.isSome_iff_exists.1 hb
      exact ⟨_, _, k, rfl, fun w' _ => by simp [execOp, convert, run_underlying hq, run_underlying hu, hx', Conv.intToInt]⟩
    · exact k.elim
  | build t parts =>
    simp only [Cfg.quiet] at k
    split at k
    · rename_i f d hs hu
      obtain ⟨hb, k⟩ := cond_true' k
      simp only [Bool.and_eq_true] at hb
      obtain ⟨z, hz, hzr, _⟩ := zeroOK_sound (m := m) (J st.hp bk) hb.1
      have hlen : (parts.toList.map fun q => (q.1, c.ev st q.2)).length = (parts.toList.map fun q => (q.1, a.eval q.2)).length := by simp
      have hval : ∀ (j : Nat) i v, (parts.toList.map fun q => (q.1, c.ev st q.2))[j]? = some (i, v) → ∃ u, (parts.toList.map fun q => (q.1, a.eval q.2))[j]? = some (i, u) ∧ Rep c.P m v (J st.hp bk) u := by
        intro j i v hj
        rw [List.getElem?_map] at hj
        cases hq : parts.toList[j]? with
        | none => rw [hq] at hj; cases hj
        | some q =>
          rw [hq] at hj
          simp only [Option.map_some, Option.some.injEq, Prod.mk.injEq] at hj
          obtain ⟨rfl, rfl⟩ := hj
          exact ⟨a.eval q.2, by rw [List.getElem?_map, hq]; rfl, ev_sound S q.2⟩
      have main : ∀ (pl : Nat → Option (Nat × Nat)), (∀ i off n, c.place t i = some (off, n) → pl i = some (off, n)) → ∃ cs' us', K (.agg cs') ∧ RepL c.P m cs' (J st.hp bk) us'.toList ∧ Instr.fill pl z.cells (parts.toList.map fun q => (q.1, a.eval q.2)) = some us' :=
        fun pl hpl => fill_sound S hpl _ _ _ _ _ hlen hval hzr k
      have hmap : (parts.map fun q => (q.1, a.eval q.2)).toList = parts.toList.map fun q => (q.1, a.eval q.2) := by simp
      have fin : ∀ us', (∃ cs', K (.agg cs') ∧ RepL c.P m cs' (J st.hp bk) us'.toList) → c.P.built t (parts.toList.map fun q => (q.1, a.eval q.2)) = some us' → YldN false c m bk st w K (execOp a.eval ⟨dst, .build t parts, type, pos, after, guard⟩) := by
        intro us' ⟨cs', k1, k2⟩ hbt
        refine ⟨_, .agg us', k1, ⟨us'.toList, by simp, k2⟩, fun w' _ => ?_⟩
        have := run_build (P := c.P) w' t (parts.map fun q => (q.1, a.eval q.2)) us' (by rw [hmap]; exact hbt)
        simp only [execOp, Sem.run_bind, this, Result.andThen_ok, Sem.run_pure]
      cases hi : c.P.info? t with
      | none => rw [hi] at hz; cases hz
      | some it =>
        rw [hi] at hz
        simp only [Option.bind_some] at hz
        have hp := hb.2
        cases d with
        | struct fs =>
          have hall : ∀ f ∈ fs.toList, ∃ j, c.P.info? f.type = some j := by
            unfold Cfg.partsOK at hp
            rw [hu] at hp
            exact fun f hf => Option.isSome_iff_exists.1 (List.all_eq_true.1 hp f hf)
          have hm : ∃ places, fs.toList.mapM (fun f => (c.P.info? f.type).map fun i => (f.offset, i.size)) = some places ∧ ∀ (i : Nat) (f : Field) j, fs.toList[i]? = some f → c.P.info? f.type = some j → places[i]? = some (f.offset, j.size) := by
            clear hu hval hlen main fin hmap hp k
            generalize fs.toList = l at hall
            induction l with
            | nil => exact ⟨[], rfl, fun i f j h => by simp at h⟩
            | cons f l ih =>
              obtain ⟨j, hj⟩ := hall f (by simp)
              obtain ⟨pl, h1, h2⟩ := ih (fun f hf => hall f (by simp [hf]))
              refine ⟨(f.offset, j.size) :: pl, by simp [List.mapM_cons, hj, h1], fun i g j' hg hj' => ?_⟩
              cases i with
              | zero => simp at hg; subst hg; rw [hj] at hj'; cases hj'; rfl
              | succ i => simp at hg; simpa using h2 i g j' hg hj'
          obtain ⟨places, hp1, hp2⟩ := hm
          obtain ⟨cs', us', k1, k2, k3⟩ := main (places.toArray[·]?) (fun i off n hq => by
            rcases place_sound hq hp with ⟨fs', f, j, q1, q2, q3, rfl, rfl⟩ | ⟨len, e, j, q1, _⟩
            · rw [hu] at q1; cases q1
              simpa using hp2 i f j (by simpa using q2) q3
            · rw [hu] at q1; cases q1)
          exact fin us' ⟨cs', k1, k2⟩ (by simp only [Program.built, hi, hu, hz, hp1, k3])
        | array len e =>
          have he : ∃ j, c.P.info? e = some j := by
            unfold Cfg.partsOK at hp
            rw [hu] at hp
            exact Option.isSome_iff_exists.1 hp
          obtain ⟨ie, hie⟩ := he
          obtain ⟨cs', us', k1, k2, k3⟩ := main (fun i => some (i * ie.size, ie.size)) (fun i off n hq => by
            rcases place_sound hq hp with ⟨fs', f, j, q1, _⟩ | ⟨len, e', j, q1, q2, rfl, rfl⟩
            · rw [hu] at q1; cases q1
            · rw [hu] at q1; cases q1
              rw [hie] at q2; cases q2; rfl)
          exact fin us' ⟨cs', k1, k2⟩ (by simp only [Program.built, hi, hu, hz, hie, k3])
        | _ => unfold Cfg.partsOK at hp; rw [hu] at hp; cases hp
    · exact k.elim
  | makeFunc fn x y =>
    refine ⟨_, .func fn (x.map a.eval) (y.map a.eval), k, ⟨x.toList.map a.eval, y.toList.map a.eval, by rw [map_toArray, map_toArray], evs_sound S _, evs_sound S _⟩, fun w' _ => by simp [execOp, Instr.makeFunc]⟩
  | makeInterface t x =>
    simp only [Cfg.quiet] at k
    split at k
    · exact k.elim
    · rename_i d hn hu
      refine ⟨_, .iface t (a.eval x), k, ⟨_, rfl, ev_sound S x⟩, fun w' _ => ?_⟩
      simp only [execOp, Sem.run_bind, run_makeInterface' w' hu (fun ms e => hn ms e), Result.andThen_ok, Sem.run_pure]
    · exact k.elim
  | nilCheck x =>
    have hx := ev_sound S x
    simp only [Cfg.quiet] at k
    split at k
    · rename_i id o he
      rw [he] at hx
      have h' := hx
      obtain ⟨md, cs, b, _, _, e⟩ := h'
      exact ⟨_, _, k, hx, fun w' _ => by simp [execOp, e]⟩
    · rename_i cs o he
      rw [he] at hx
      have h' := hx
      obtain ⟨b, o', us, e, _⟩ := h'
      exact ⟨_, _, k, hx, fun w' _ => by simp [execOp, e]⟩
    · rename_i f p q he
      rw [he] at hx
      have h' := hx
      obtain ⟨xs, ys, e, _⟩ := h'
      exact ⟨_, _, k, hx, fun w' _ => by simp [execOp, e]⟩
    · rename_i al y he
      rw [he] at hx
      cases y with
      | none => exact k.elim
      | some y =>
        have h' := hx
        obtain ⟨t, v, e, _⟩ := h'
        exact ⟨_, _, k, hx, fun w' _ => by simp [execOp, e]⟩
    · rename_i t v he
      rw [he] at hx
      have h' := hx
      obtain ⟨q, e, _⟩ := h'
      exact ⟨_, _, k, hx, fun w' _ => by simp [execOp, e]⟩
    · exact k.elim
  | typeAssert x xt t ok =>
    have hx := ev_sound S x
    simp only [Cfg.quiet] at k
    split at k
    · exact k.elim
    · rename_i d s hn hu hs
      have hd : ∀ ms, d ≠ .interface ms := fun ms e => hn ms e
      replace k := cond_true' k
      obtain ⟨hz, k⟩ := k
      obtain ⟨z, z1, _, z2⟩ := zeroOK_sound (m := m) (J st.hp bk) hz
      split at k
      · rename_i al y he
        rw [he] at hx
        cases y with
        | none =>
          have e : a.eval x = .nilIface := hx
          exact ⟨_, _, k, pair_rep z2, fun w' _ => by simp only [execOp, Sem.run_bind, e, run_assert_nil w' hu hd (run_zeroValue z1 w'), Result.andThen_ok, Sem.run_pure]⟩
        | some y =>
          obtain ⟨t', v, e, hI⟩ := hx
          rcases altK_sound (JJ := J st.hp bk) al y t' v hI k with ⟨rfl, v', k1, k2⟩ | ⟨hne, k⟩
          · exact ⟨_, _, k1, pair_rep k2, fun w' _ => by simp only [execOp, Sem.run_bind, e, run_assert_ok w' hu hd, Result.andThen_ok, Sem.run_pure, if_true]⟩
          · exact ⟨_, _, k, pair_rep z2, fun w' _ => by simp only [execOp, Sem.run_bind, e, run_assert_no w' hu hd hne (run_zeroValue z1 w'), Result.andThen_ok, Sem.run_pure]⟩
      · rename_i t' v he
        rw [he] at hx
        obtain ⟨q, e, hq⟩ := hx
        rcases cond_spec k with ⟨hb, k2⟩ | ⟨hb, k2⟩
        · obtain rfl := beq_eq hb
          exact ⟨_, _, k2, pair_rep hq, fun w' _ => by simp only [execOp, Sem.run_bind, e, run_assert_ok w' hu hd, Result.andThen_ok, Sem.run_pure, if_true]⟩
        · have hne : t' ≠ t := fun e => by rw [e] at hb; simp at hb
          exact ⟨_, _, k2, pair_rep z2, fun w' _ => by simp only [execOp, Sem.run_bind, e, run_assert_no w' hu hd hne (run_zeroValue z1 w'), Result.andThen_ok, Sem.run_pure]⟩
      · rename_i t' v he
        rw [he] at hx
        obtain ⟨q, e, hq⟩ := hx
        obtain ⟨hb, k2⟩ := cond_true' k
        obtain rfl := beq_eq hb
        exact ⟨_, _, k2, hq, fun w' _ => by simp only [execOp, Sem.run_bind, e, run_assert_ok w' hu hd, Result.andThen_ok, Sem.run_pure, Bool.false_eq_true, if_false]⟩
      · rename_i he
        rw [he] at hx
        have e : a.eval x = .nilIface := hx
        exact ⟨_, _, k, pair_rep z2, fun w' _ => by simp only [execOp, Sem.run_bind, e, run_assert_nil w' hu hd (run_zeroValue z1 w'), Result.andThen_ok, Sem.run_pure]⟩
      · exact k.elim
    · exact k.elim
  | call cl =>
    obtain ⟨callee, args, argTypes⟩ := cl
    cases callee with
    | value f => exact k.elim
    | invoke r nm => exact k.elim
    | builtin b =>
      simp only [Cfg.quiet] at k
      have hargs := evs_sound S args.toList
      have hmap : args.map a.eval = (args.toList.map a.eval).toArray := map_toArray _ _
      split at k
      · rename_i x e hx ht
        rw [hx] at hargs
        obtain ⟨u, us', e1, r1, r2⟩ := RepL_cons.1 hargs
        rw [RepL_nil.1 r2] at e1
        obtain ⟨s, xs, base, cap, k1, hu⟩ := slK_len S r1 k
        refine ⟨_, .int .i64 (xs.length : Int), k1, rfl, fun w' _ => ?_⟩
        cases ha : argTypes[0]? with
        | none => rw [ha] at ht; cases ht
        | some t =>
          rw [ha] at ht
          simp only [Option.bind_some] at ht
          simp [execOp, resolve, invoke, builtin, Builtin.len_, ha, hmap, e1, hu, run_underlying ht, goInt]
      · rename_i x e hx ht
        rw [hx] at hargs
        obtain ⟨u, us', e1, r1, r2⟩ := RepL_cons.1 hargs
        rw [RepL_nil.1 r2] at e1
        obtain ⟨hb, k⟩ := cond_true' k
        have hu := isNil_spec r1 hb
        refine ⟨_, .int .i64 0, k, rfl, fun w' _ => ?_⟩
        cases ha : argTypes[0]? with
        | none => rw [ha] at ht; cases ht
        | some t =>
          rw [ha] at ht
          simp only [Option.bind_some] at ht
          simp [execOp, resolve, invoke, builtin, Builtin.cap_, ha, hmap, e1, hu, run_underlying ht, goInt]
      · rename_i x r hx
        rw [hx] at hargs
        obtain ⟨u, us', e1, r1, r2⟩ := RepL_cons.1 hargs
        obtain ⟨e, q, l1, l2, l3⟩ := mxE_sound (g := Builtin.max2) (f := maxI) (fun k p q w => by simp [Builtin.max2, maxI]) r us' x u K r1 r2 k
        exact ⟨e, q, l1, l2, fun w' _ => by simp [execOp, resolve, invoke, builtin, Builtin.max_, hmap, e1, l3 w']⟩
      · rename_i x r hx
        rw [hx] at hargs
        obtain ⟨u, us', e1, r1, r2⟩ := RepL_cons.1 hargs
        obtain ⟨e, q, l1, l2, l3⟩ := mxE_sound (g := Builtin.min2) (f := minI) (fun k p q w => by simp [Builtin.min2, minI]) r us' x u K r1 r2 k
        exact ⟨e, q, l1, l2, fun w' _ => by simp [execOp, resolve, invoke, builtin, Builtin.min_, hmap, e1, l3 w']⟩
      · exact k.elim
  | _ => exact k.elim
end
end Go.Proofs.YtjeoelajkncpcaaDoor.V
