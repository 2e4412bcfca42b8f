/- Quiet operations: what the condition says of them they do. No condition of its own. -/
import Derived.Test.YtjeoelajkncpcaaDoorV6
import Derived.ChangeKeysEq
import Derived.Deep.MidRow
import Derived.Laws.Build
import Derived.Laws.Small
namespace Go.Proofs.YtjeoelajkncpcaaDoor.V
open Go Go.RowKit
set_option linter.unusedVariables false
set_option linter.unusedSimpArgs false

/-- What is left alone: of the temporaries all but W; some blocks; what was known of the abstract heap's words; all memory below n0, and what is to be kept. -/
structure Fx where
  W : List Nat
  tmps : Array Value
  fe : Nat → Option (Ent × Cn)
  gh : EV → Value → Prop
  n0 : Nat
  keep : Nat → Prop

def Fx.ok (fx : Fx) (a : Act) (hp : List Ent) (bk : List Cn) : Prop :=
  a.tmps.size = fx.tmps.size ∧ (∀ i, i ∉ fx.W → a.tmps[i]? = fx.tmps[i]?) ∧ (∀ d ∈ fx.W, d < fx.tmps.size) ∧ ∀ (i : Nat) (e : Ent) (k : Cn), fx.fe i = some (e, k) → e.md ≠ .own ∧ hp[i]? = some e ∧ bk[i]? = some k

/-- The model's state is as the abstract one says. -/
structure Sat (c : Cfg) (m0 : Mem) (w0 : World) (fx : Fx) (m : Mem) (bk : List Cn) (st : St) (a : Act) (w : World) : Prop where
  hold : Holds w m
  tab : TabOK c.tab m
  ext : Mem.ext fx.n0 m0 m
  below : Below fx.n0 w0 w
  len : bk.length = st.hp.length
  ents : ∀ (i : Nat) (e : Ent), st.hp[i]? = some e → ∃ k, bk[i]? = some k ∧ SatEnt c.P m fx.n0 w (J st.hp bk) e k
  apart : ∀ (i j b : Nat), (bk[i]?).bind Cn.blk = some b → (bk[j]?).bind Cn.blk = some b → i = j
  env : ∀ i, Rep c.P m (st.env i) (J st.hp bk) (a.tmps.getD i undef)
  defers : a.defers = []
  fix : fx.ok a st.hp bk
  gh : ∀ e u, fx.gh e u → J st.hp bk e u
  base : fx.n0 ≤ w0.heap.size
  keep : ∀ b, fx.keep b → b < w0.heap.size ∧ w.heap[b]? = w0.heap[b]? ∧ ∀ i : Nat, (bk[i]?).bind Cn.blk ≠ some b

theorem Sat.n0le {c : Cfg} {m0 : Mem} {w0 : World} {fx : Fx} {m : Mem} {bk : List Cn} {st : St} {a : Act} {w : World} (S : Sat c m0 w0 fx m bk st a w) : fx.n0 ≤ w.heap.size := Nat.le_trans S.base S.below.size

/-- The blocks that are held are as they were. -/
def Same (bk : List Cn) (w w' : World) : Prop := ∀ (i b : Nat), (bk[i]?).bind Cn.blk = some b → w'.heap[b]? = w.heap[b]?

theorem cond_spec {b : Bool} {A B : Prop} (h : cond b A B) : (b = true ∧ A) ∨ (b = false ∧ B) := by cases b <;> simp_all
theorem cond_true' {b : Bool} {A : Prop} (h : cond b A False) : b = true ∧ A := by cases b <;> simp_all

theorem add_none (b o n : Nat) : (⟨b, o, none⟩ : Addr).add n = ⟨b, o + n, none⟩ := Addr.add_mid b o n

section
variable {c : Cfg} {m0 : Mem} {w0 : World} {fx : Fx} {m : Mem} {bk : List Cn} {st : St} {a : Act} {w : World}

theorem cst_rep {P : Program} (v : Value) (JJ : EV → Value → Prop) : Rep P m (cst v) JJ v := by
  cases v <;> exact rfl

theorem RepL_ints {P : Program} (JJ : EV → Value → Prop) : ∀ (l : List Int), RepL P m (l.map fun n => .p (.int .i64) n) JJ (l.map fun n => .int .i64 n)
  | [] => RepL_nil.2 rfl
  | n :: l => RepL_cons.2 ⟨_, _, rfl, rfl, RepL_ints JJ l⟩

theorem ev_sound (S : Sat c m0 w0 fx m bk st a w) (x : Operand) : Rep c.P m (c.ev st x) (J st.hp bk) (a.eval x) := by
  cases x with
  | tmp t => exact S.env t
  | const v => exact cst_rep v _
  | global g =>
    simp only [Cfg.ev]
    split
    · rename_i l hl
      refine ⟨g, 0, l.map fun n => .int .i64 n, rfl, RepL_ints _ l, fun j v hj => ?_⟩
      rw [List.getElem?_map] at hj
      cases hn : l[j]? with
      | none => rw [hn] at hj; cases hj
      | some n =>
        rw [hn] at hj
        rw [Nat.zero_add, S.tab g l hl j n hn]
        exact hj
    · trivial
  | func f => exact ⟨[], [], rfl, RepL_nil.2 rfl, RepL_nil.2 rfl⟩

theorem evs_sound (S : Sat c m0 w0 fx m bk st a w) : ∀ xs : List Operand, RepL c.P m (xs.map (c.ev st)) (J st.hp bk) (xs.map a.eval)
  | [] => RepL_nil.2 rfl
  | x :: r => RepL_cons.2 ⟨_, _, rfl, ev_sound S x, evs_sound S r⟩

/-- A cell of a block that is held. -/
theorem cell_of {w' : World} {b : Nat} {us : Array Value} {T : TypeId} (h : w'.heap[b]? = some (.cells us T (0, 0))) (j : Nat) (v : Value) (hj : us.toList[j]? = some v) : w'.cell? ⟨b, j, none⟩ = some v := by
  simp only [World.cell?, h]
  simpa using hj

theorem Sat.same_of (S : Sat c m0 w0 fx m bk st a w) {w' : World} (hs : Same bk w w') {i : Nat} {k : Cn} {b : Nat} (h1 : bk[i]? = some k) (h2 : k.blk = some b) : w'.heap[b]? = w.heap[b]? :=
  hs i b (by rw [h1]; exact h2)

/-- A pointer's cells, in every world that is alike. -/
theorem ptK_sound (S : Sat c m0 w0 fx m bk st a w) {x : EV} {u : Value} {K : List EV → Nat → Prop} (h : Rep c.P m x (J st.hp bk) u) (k : Cfg.ptK st x K) :
    ∃ cs off b o us, K cs off ∧ u = .pointer (some ⟨b, o + off, none⟩) ∧ RepL c.P m cs (J st.hp bk) us ∧
      ∀ w', Same bk w w' → Holds w' m → ∀ j v, us[j]? = some v → w'.cell? ⟨b, o + j, none⟩ = some v := by
  unfold Cfg.ptK at k
  split at k
  · rename_i cs off
    obtain ⟨b, o, us, e1, e2, e3⟩ := h
    exact ⟨cs, off, b, o, us, k, e1, RepL_mono (Mem.le_refl m) cs (fun _ _ q => q.elim) e2, fun w' _ hh j v hj => hh _ _ _ (e3 j v hj)⟩
  · rename_i id off
    obtain ⟨md, cs, b, h1, h2, h3⟩ := h
    simp only [h1] at k
    obtain ⟨q, q1, q2⟩ := S.ents id _ h1
    rw [h2] at q1; cases q1
    obtain ⟨us, T, e1, e2, _⟩ := q2
    refine ⟨cs, off, b, 0, us.toList, k, by rw [Nat.zero_add]; exact h3, e2, fun w' hs _ j v hj => ?_⟩
    rw [Nat.zero_add]
    exact cell_of ((S.same_of hs h2 rfl).trans e1) j v hj
  · rename_i id ver kk off
    split at k
    · rename_i md v e s xs he
      obtain ⟨hb, k2⟩ := cond_true' k
      have hv := (Nat.eq_of_beq_eq_true hb).symm
      obtain ⟨md', v', e', s', xs', cv, h1, h2, h3, h4⟩ := h
      rw [he] at h1; cases h1
      obtain ⟨g, n, cap, h5, h6, h7⟩ := h4 hv
      subst h5
      obtain ⟨q, q1, q2⟩ := S.ents id _ he
      rw [h2] at q1; cases q1
      obtain ⟨cs, r1, r2, _⟩ := q2
      have hx : xs[kk]? = some (rd s xs kk) := by
        unfold rd
        rw [List.getD_eq_getElem?_getD, List.getElem?_eq_getElem h7]
        rfl
      obtain ⟨d, d1, d2⟩ := RowRep_get r1 hx
      refine ⟨_, off, g, kk * s.size, d, k2, h6, RepL_cells s _ d1, fun w' hs _ j v hj => ?_⟩
      rcases r2.2 with ⟨hn, _⟩ | ⟨g', cap', cur, e1, e2, e3, e4, e5, e6, e7⟩
      · cases hn
      · simp only [Value.slice.injEq, Option.some.injEq, Addr.mk.injEq, and_true, true_and] at e1
        obtain ⟨rfl, _, _⟩ := e1
        refine cell_of ((S.same_of hs h2 rfl).trans e3) _ _ ?_
        have hj' := hj
        rw [← d2, List.getElem?_take] at hj'
        split at hj'
        · rw [List.getElem?_drop, ← e7, List.getElem?_take] at hj'
          split at hj'
          · exact hj'
          · cases hj'
        · cases hj'
    · exact k.elim
  · exact k.elim

theorem ble_le {a b : Nat} (h : Nat.ble a b = true) : a ≤ b := Nat.le_of_ble_eq_true h

theorem cellsOf_pos {P : Program} {t : TypeId} (h : 1 ≤ P.cellsOf t) : ∃ i, P.info? t = some i ∧ i.size = P.cellsOf t := by
  unfold Program.cellsOf at *
  cases hi : P.info? t with
  | none => simp [hi] at h
  | some i => exact ⟨i, rfl, by simp⟩

/-- What a load reads, out of cells that are there. -/
theorem ldK_sound {t : TypeId} {cs : List EV} {off : Nat} {K : EV → Prop} {us : List Value} {JJ : EV → Value → Prop} {b o : Nat} (k : c.ldK t cs off K) (h : RepL c.P m cs JJ us) :
    ∃ v u, K v ∧ Rep c.P m v JJ u ∧ ∀ w' : World, (∀ j v, us[j]? = some v → w'.cell? ⟨b, o + j, none⟩ = some v) → (Instr.loadAt t (.pointer (some ⟨b, o + off, none⟩))).run c.P w' = .ok u w' := by
  have agg : ∀ d, c.P.underlying t = some d → d.isRow = true → off + c.sizeOf t ≤ cs.length → K (.agg ((cs.drop off).take (c.sizeOf t))) →
      ∃ v u, K v ∧ Rep c.P m v JJ u ∧ ∀ w' : World, (∀ j v, us[j]? = some v → w'.cell? ⟨b, o + j, none⟩ = some v) → (Instr.loadAt t (.pointer (some ⟨b, o + off, none⟩))).run c.P w' = .ok u w' := by
    intro d hu hd hl k
    have hlen := RepL_length h
    refine ⟨_, .agg ((us.drop off).take (c.sizeOf t)).toArray, k, ⟨_, rfl, RepL_take _ (RepL_drop _ h)⟩, fun w' hw => ?_⟩
    obtain ⟨i, hi⟩ := info_of_underlying hu
    have hsz : (c.P.info? t).map (·.size) = some ((us.drop off).take (c.sizeOf t)).length := by
      rw [List.length_take, List.length_drop, Nat.min_eq_left (by omega), hi]
      simp [Cfg.sizeOf, Program.cellsOf, hi]
    refine run_loadAt_mid w' b (o + off) t _ d (fun j v hj => ?_) hu hd hsz
    rw [List.getElem?_take] at hj
    split at hj
    · rw [List.getElem?_drop] at hj
      rw [Nat.add_assoc]
      exact hw _ _ hj
    · cases hj
  unfold Cfg.ldK at k
  split at k
  · rename_i hu; obtain ⟨hb, k⟩ := cond_true' k; exact agg _ hu rfl (ble_le hb) k
  · rename_i hu; obtain ⟨hb, k⟩ := cond_true' k; exact agg _ hu rfl (ble_le hb) k
  · rename_i d hn1 hn2 hu
    unfold atK at k
    split at k
    · rename_i v hv
      obtain ⟨u, hu1, hu2⟩ := RepL_get h hv
      refine ⟨v, u, k, hu2, fun w' hw => ?_⟩
      have hc := hw _ _ hu1
      have hagg : (isAgg t).run c.P w' = .ok false w' := by
        simp only [isAgg, Sem.run_bind, run_underlying hu, Result.andThen_ok]
        cases d <;> first | rfl | exact absurd hu (hn1 _) | exact absurd hu (hn2 _ _)
      simp only [Instr.loadAt, Instr.sureAddr, Sem.run_bind, Sem.run_pure, Result.andThen_ok, loadVar, hagg, Bool.false_eq_true, if_false, run_load, hc]
    · exact k.elim
  · exact k.elim

theorem fwd_sound {x : EV} {u : Value} (n : Nat) (h : Rep c.P m x (J st.hp bk) u) (hp : isPt st x = true) : ∃ b o, u = .pointer (some ⟨b, o, none⟩) ∧ Rep c.P m (x.fwd n) (J st.hp bk) (.pointer (some ⟨b, o + n, none⟩)) := by
  cases x <;> simp only [isPt, Bool.false_eq_true] at hp
  case ip cs off =>
    obtain ⟨b, o, us, e1, e2, e3⟩ := h
    exact ⟨b, o + off, e1, b, o, us, by rw [Nat.add_assoc], e2, e3⟩
  case box id off =>
    obtain ⟨md, cs, b, h1, h2, h3⟩ := h
    exact ⟨b, off, h3, md, cs, b, h1, h2, rfl⟩
  case rp id ver k off =>
    obtain ⟨md, v, e, s, xs, cv, h1, h2, h3, h4⟩ := h
    simp only [h1] at hp
    obtain ⟨g, n', cap, h5, h6, h7⟩ := h4 (Nat.eq_of_beq_eq_true hp).symm
    exact ⟨g, k * s.size + off, h6, md, v, e, s, xs, cv, h1, h2, h3, fun _ => ⟨g, n', cap, h5, by rw [Nat.add_assoc], h7⟩⟩

/-- A slice, as a value: in every world that is alike. -/
theorem intsOf_spec {k : IntKind} : ∀ {cs : List EV} {l : List Int} {us : List Value} {JJ : EV → Value → Prop}, intsOf k cs = some l → RepL c.P m cs JJ us → us = l.map fun n => .int k n
  | [], l, us, JJ, h, r => by
    simp only [intsOf, Option.some.injEq] at h
    subst h
    rw [RepL_nil.1 r]; rfl
  | v :: cs, l, us, JJ, h, r => by
    obtain ⟨u, us', rfl, h1, h2⟩ := RepL_cons.1 r
    cases v with
    | p s x =>
      cases s with
      | int k' =>
        simp only [intsOf] at h
        split at h
        · rename_i e
          subst e
          cases hr : intsOf k' cs with
          | none => rw [hr] at h; cases h
          | some q =>
            rw [hr] at h
            simp only [Option.map_some, Option.some.injEq] at h
            subst h
            rw [intsOf_spec hr h2, show u = .int k' x from h1]
            rfl
        · cases h
      | _ => simp [intsOf] at h
    | _ => simp [intsOf] at h
end
end Go.Proofs.YtjeoelajkncpcaaDoor.V
