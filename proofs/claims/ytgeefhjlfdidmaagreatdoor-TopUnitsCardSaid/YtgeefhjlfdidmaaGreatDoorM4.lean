/- The calculus of the program's functions and their contracts, part 4. No condition of its own. -/
import Derived.Test.YtgeefhjlfdidmaaGreatDoorM3
import Derived.RowKit


/- A range over a function: the condition of its loop, and that it is sound. No condition of its own. -/
namespace Go.Proofs.YtgeefhjlfdidmaaGreatDoor.V
open Go Go.RowKit
set_option linter.unusedVariables false
set_option linter.unusedSimpArgs false

/-- What a round keeps for the iterator: memory that is known; what lies at or beyond a number, is of no type of T, and is cells. -/
def KpR (m : Mem) (B : Nat) (T : TypeId → Bool) (W W' : World) : Prop :=
  (Holds W m → Holds W' m) ∧ W.heap.size ≤ W'.heap.size ∧ ∀ (k : Nat) (cs : Array Value) (t : TypeId) (fz : Nat × Nat), B ≤ k → T t = false → W.heap[k]? = some (.cells cs t fz) → W'.heap[k]? = some (.cells cs t fz)

theorem KpR.refl (m : Mem) (B : Nat) (T : TypeId → Bool) (W : World) : KpR m B T W W := ⟨id, Nat.le_refl _, fun _ _ _ _ _ _ h => h⟩
theorem KpR.trans {m : Mem} {B : Nat} {T : TypeId → Bool} {A C D : World} (h : KpR m B T A C) (k : KpR m B T C D) : KpR m B T A D :=
  ⟨fun q => k.1 (h.1 q), Nat.le_trans h.2.1 k.2.1, fun i cs t fz hb ht q => k.2.2 i cs t fz hb ht (h.2.2 i cs t fz hb ht q)⟩

theorem cell_obj {w : World} {ad : Addr} {v : Value} (h : w.cell? ad = some v) : ∃ o : Obj, w.heap[ad.block]? = some o ∧ o.isCells = true := by
  unfold World.cell? at h
  split at h
  · rename_i o ho
    exact ⟨_, ho, rfl⟩
  · cases h

theorem KpR.other {m : Mem} {B : Nat} {T : TypeId → Bool} (W : World) (l : Nat) (o o' : Obj) (h : W.heap[l]? = some o) (hc : o.isCells = false) : KpR m B T W (W.putObj l o') := by
  have ot : ∀ k, k ≠ l → (W.putObj l o').heap[k]? = W.heap[k]? := fun k hk => World.putObj_heap_other hk
  refine ⟨fun q b off v hm => ?_, by simp [World.putObj], fun k cs t fz _ _ hk => ?_⟩
  · have h1 := q b off v hm
    obtain ⟨ob, h2, h3⟩ := cell_obj h1
    have hne : b ≠ l := fun e => by
      subst e
      rw [h] at h2
      cases h2
      rw [hc] at h3
      cases h3
    exact (World.cell?_of_block (a := ⟨b, off, none⟩) (ot b hne)).trans h1
  · have hne : k ≠ l := fun e => by
      subst e
      rw [h] at hk
      cases hk
      cases hc
    rw [ot k hne]; exact hk

/-- What a round is handed: a value of a list, as the model has it. -/
abbrev Handed (P : Program) (m : Mem) (s : Shape) (xs : List s.Val) := { p : s.Val × Value // (Reps P s).V m p.1 p.2 ∧ p.1 ∈ xs }

/-- AN ITERATOR's CONTRACT: called with what these abstract values represent, it hands on a list's values one by one. -/
def IterE (B : Base) (f : FuncId) (lb : List EV) (s : Shape) (T : TypeId → Bool) (xs : List s.Val) : Prop :=
  Callable B.P f ∧ ∀ m w us, TabOK B.tab m → Holds w m → RepL B.P m lb pureJ us →
    SeqStopsK (α := Handed B.P m s xs) Fence.wide 3 B.P f us.toArray (fun p => #[p.1.2]) (KpR m w.heap.size T) (fun ys => ys.map (·.1.1) = xs) (fun _ => True) xs.length w

def itP (B : Base) (f : FuncId) (lb : List EV) (s : Shape) (T : TypeId → Bool) (K : List s.Val → Prop) : Prop := ∃ xs, IterE B f lb s T xs ∧ K xs

/-- Rounds over a list's values, by what is so when some have come. -/
def rangeP {S α : Type} (F : α → S → (S → Prop) → Prop) (G : S → Prop) (xs : List α) (s : S) : Prop :=
  ∃ Inv : List α → S → Prop, Inv [] s ∧ (∀ pre x s, x ∈ xs → pre.length < xs.length → Inv pre s → F x s (Inv (pre ++ [x]))) ∧ ∀ s, Inv xs s → G s

/-- The types of the rows that a loop varies. -/
def rowTypes (hp : List Ent) (hv : List Nat) (t : TypeId) : Bool := hv.any fun i => match hp[i]? with
  | some (.row _ _ e _ _) => Nat.beq e t
  | _ => false

/-- No iterator over a string. -/
def noIter (hp : List Ent) : Bool := hp.all fun e => match e with
  | .box _ _ => true
  | .row _ _ _ _ _ => true
  | .iter _ _ _ => false

theorem noIter_spec {hp : List Ent} (h : noIter hp = true) {i : Nat} {md : Md} {s : ByteArray} {p : Int} (hi : hp[i]? = some (.iter md s p)) : False := by
  have := List.all_eq_true.1 h _ (List.mem_of_getElem? hi)
  cases this

/-- Each box that a loop varies is named by a temporary that its rounds do not write; no iterator lies there. -/
def boxesNamed (st : St) (nm W' hv : List Nat) : Bool := noIter st.hp && hv.all fun i => match st.hp[i]? with
  | some (.box _ _) => nm.any fun t => !W'.contains t && (match st.env t with
    | .box j 0 => Nat.beq j i
    | _ => false)
  | some (.row _ _ _ _ _) => true
  | some (.iter _ _ _) => false
  | none => false

/-- The assignment at a round's head: of one temporary. -/
def asgOf : Code → Option (Nat × Nat)
  | .region _ ops false => match ops.toList with
    | [o] => match o.dst, o.op, o.guard with
      | some t, .assign (.tmp q), none => some (t, q)
      | _, _, _ => none
    | _ => none
  | _ => none

def rdKey (b : Code) : Nat := b.firstRegion' + 2000
def rdW (ps : Array Tmp) (asg bd : Code) : List Nat := ps.toList ++ asg.dsts' ++ bd.dsts'

/-- The loop's condition, its blocks frozen. -/
def Cfg.rangeV (c : Cfg) (hv W' : List Nat) (p t : Nat) (bd : Code) (st : St) (xs : List c.rs.Val) (K : St → Prop) : Prop :=
  rangeP (fun x y back => c.vc bd W' (St.put (St.put (headOf st [] hv W' (mkL (slotsOf st.hp (apOf st [] hv) st [] hv) y)) (some p) (.p c.rs x)) (some t) (.p c.rs x)) fun e st' => match e with
      | .normal => matL (slotsOf st.hp (apOf st [] hv) st [] hv) (slotsOf st.hp (apOf st [] hv) st' [] hv) back
      | _ => False)
    (fun y => K { headOf st [] hv W' (mkL (slotsOf st.hp (apOf st [] hv) st [] hv) y) with hp := unlock st.hp (headOf st [] hv W' (mkL (slotsOf st.hp (apOf st [] hv) st [] hv) y)).hp })
    xs (lfL (slotsOf st.hp (apOf st [] hv) st [] hv))

def Cfg.rangeK (c : Cfg) (g : Operand) (ps : Array Tmp) (asg bd : Code) (W : List Nat) (st : St) (K : St → Prop) : Prop :=
  match c.ev st g, ps.toList, asgOf asg with
  | .clo (.func f) [] b, [p], some (t, q) =>
    cond (shutIds st.hp (c.lv (rdKey bd)).2.2 && (EV.idsL b).all ((c.lv (rdKey bd)).2.2.contains ·) && ownAll (frzH (c.lv (rdKey bd)).2.2 0 st.hp) (c.lv (rdKey bd)).2.1 && (rdW ps asg bd).all (W.contains ·) && (rdW ps asg bd).contains t && Nat.beq q p && bd.rdOK && boxesNamed { st with hp := frzH (c.lv (rdKey bd)).2.2 0 st.hp } (c.lv (rdKey bd)).1 (rdW ps asg bd) (c.lv (rdKey bd)).2.1)
      (itP c.toBase f (b.map (frz st.hp 3)) c.rs (rowTypes st.hp (c.lv (rdKey bd)).2.1) fun xs => c.rangeV (c.lv (rdKey bd)).2.1 (rdW ps asg bd) p t bd { st with hp := frzH (c.lv (rdKey bd)).2.2 0 st.hp } xs K) False
  | _, _, _ => False

section
variable {c : Cfg} {m0 : Mem} {w0 : World} {fx : Fx} {m : Mem} {bk : List Cn} {st : St} {a : Act} {w : World}

theorem SatEnt.cells {P : Program} {n0 : Nat} {JJ : EV → Value → Prop} {e : Ent} {k : Cn} (h : SatEnt P m n0 w JJ e k) (hni : ∀ md s p, e ≠ .iter md s p) {b : Nat} (hb : k.blk = some b) : ∃ cs t, w.heap[b]? = some (.cells cs t (0, 0)) ∧ (∀ md v el s xs, e = .row md v el s xs → t = el) := by
  cases e with
  | box md cs =>
    cases k with
    | row v => exact h.elim
    | box b' =>
      cases hb
      obtain ⟨us, T, h1, _⟩ := h
      exact ⟨us, T, h1, fun _ _ _ _ _ e => (by cases e)⟩
  | row md v el s xs =>
    cases k with
    | box b' => exact h.elim
    | row cv =>
      obtain ⟨cs, _, ho, _⟩ := h
      rcases ho.2 with ⟨e1, _⟩ | ⟨g, cap, cur, e1, _, h1, _⟩
      · subst e1; cases hb
      · subst e1
        cases hb
        exact ⟨cur, el, h1, fun _ _ _ _ _ e => (by cases e; rfl)⟩
  | iter md s p => exact absurd rfl (hni md s p)

theorem SatEnt.obj {P : Program} {n0 : Nat} {JJ : EV → Value → Prop} {e : Ent} {k : Cn} (h : SatEnt P m n0 w JJ e k) {b : Nat} (hb : k.blk = some b) : ∃ o, w.heap[b]? = some o ∧ ((∃ cs t, o = .cells cs t (0, 0)) ∨ ∃ s n, o = .stringIter s n) := by
  cases e with
  | box md cs =>
    obtain ⟨cs, t, h1, _⟩ := h.cells (fun _ _ _ q => by cases q) hb
    exact ⟨_, h1, .inl ⟨_, _, rfl⟩⟩
  | row md v el s xs =>
    obtain ⟨cs, t, h1, _⟩ := h.cells (fun _ _ _ q => by cases q) hb
    exact ⟨_, h1, .inl ⟨_, _, rfl⟩⟩
  | iter md s p =>
    cases k with
    | row v => exact h.elim
    | box b' =>
      cases hb
      obtain ⟨_, ⟨n, _, h1⟩, _⟩ := h
      exact ⟨_, h1, .inr ⟨_, _, rfl⟩⟩

theorem noIter_head {hv W' : List Nat} (hn : noIter st.hp = true) {y : (shL (slotsOf st.hp (apOf st [] hv) st [] hv)).Val} {i : Nat} {md : Md} {s : ByteArray} {p : Int} (hi : (headOf st [] hv W' (mkL (slotsOf st.hp (apOf st [] hv) st [] hv) y)).hp[i]? = some (.iter md s p)) : False := by
  rw [headOf_get] at hi
  obtain ⟨x, hx, he⟩ := Option.map_eq_some_iff.1 hi
  have hxn : ∀ md s p, x ≠ .iter md s p := fun md s p q => noIter_spec hn (hx.trans (by rw [q]))
  cases hg : getN hv ((mkL (slotsOf st.hp (apOf st [] hv) st [] hv) y).drop ([] : List Nat).length) i with
  | none =>
    rw [hg] at he
    have e2 : x.lock = .iter md s p := he
    obtain ⟨md2, l1, _, _⟩ := x.lock_eq
    rw [l1] at e2
    cases x with
    | box _ _ => cases e2
    | row _ _ _ _ _ => cases e2
    | iter _ _ _ => exact hxn _ _ _ rfl
  | some z =>
    rw [hg] at he
    have e2 : z = .iter md s p := he
    subst e2
    obtain ⟨j, g1, g2⟩ := getN_spec hg
    rw [List.getElem?_drop] at g2
    have hs : (slotsOf st.hp (apOf st [] hv) st [] hv)[j]? = some (.n (nrmN st.hp st.hp (apOf st [] hv) i x)) := by
      unfold slotsOf
      rw [List.map_nil, List.nil_append, List.getElem?_map, g1]
      simp only [Option.map_some, hx]
    obtain ⟨y', hy'⟩ := mkL_get _ y hs
    rw [show ([] : List Nat).length + j = j from Nat.zero_add j, hy'] at g2
    cases x with
    | box _ _ => cases g2
    | row _ _ _ _ _ => cases g2
    | iter _ _ _ => exact hxn _ _ _ rfl

/-- What is no cells, and lies where nothing is told of, may turn. -/
theorem Sat.move (S : Sat c m0 w0 fx m bk st a w) {w' : World} (hb : Below fx.n0 w0 w') (hc : ∀ (b : Nat) (o : Obj), w.heap[b]? = some o → o.isCells = true → w'.heap[b]? = some o) (hk : ∀ b, fx.keep b → b < w0.heap.size → w'.heap[b]? = w.heap[b]?)
    (hit : ∀ (i : Nat) (b : Nat) md s p (n : Nat), st.hp[i]? = some (.iter md s p) → bk[i]? = some (.box b) → w.heap[b]? = some (.stringIter s n) → w'.heap[b]? = w.heap[b]?) : Sat c m0 w0 fx m bk st a w' := by
  refine { S with hold := fun b o v h => ?_, below := hb, ents := fun i e he => ?_, keep := fun b hb => ?_ }
  · have h1 := S.hold b o v h
    obtain ⟨ob, h2, h3⟩ := cell_obj h1
    exact (World.cell?_of_block (a := ⟨b, o, none⟩) ((hc b ob h2 h3).trans h2.symm)).trans h1
  · obtain ⟨k, h1, h2⟩ := S.ents i e he
    refine ⟨k, h1, SatEnt.mono (Mem.le_refl m) (fun _ _ q => q) (fun b hb => ?_) (fun _ _ _ q => q) h2⟩
    cases e with
    | iter md s p =>
      cases k with
      | row v => exact h2.elim
      | box b' =>
        cases hb
        obtain ⟨_, ⟨n, _, h3⟩, _⟩ := h2
        exact hit i b md s p n he h1 h3
    | box md cs =>
      obtain ⟨cs, t, h3, _⟩ := h2.cells (fun _ _ _ q => by cases q) hb
      exact (hc b _ h3 rfl).trans h3.symm
    | row md v el s xs =>
      obtain ⟨cs, t, h3, _⟩ := h2.cells (fun _ _ _ q => by cases q) hb
      exact (hc b _ h3 rfl).trans h3.symm
  · obtain ⟨k1, k2, k3⟩ := S.keep b hb
    exact ⟨k1, (hk b hb k1).trans k2, k3⟩

/-- A block that an entry holds at a round's head is a row of a type that varies, or lies below the loop's start. -/
theorem head_block {hv W' nm : List Nat} {y : (shL (slotsOf st.hp (apOf st [] hv) st [] hv)).Val} {m' : Mem} {bk' : List Cn} {W : World} (S : Sat c m0 w0 fx m bk st a w) (SH : Sat c m w0 (loopFx fx hv W' bk st a) m' bk' (headOf st [] hv W' (mkL (slotsOf st.hp (apOf st [] hv) st [] hv) y)) a W)
    (hn : boxesNamed st nm W' hv = true) {i k : Nat} (hi : (bk'[i]?).bind Cn.blk = some k) (hk : w.heap.size ≤ k) {cs : Array Value} {t : TypeId} {fz : Nat × Nat} (ho : W.heap[k]? = some (.cells cs t fz)) : rowTypes st.hp hv t = true := by
  obtain ⟨kk, h1, h2⟩ := Option.bind_eq_some_iff.1 hi
  have hil : i < (headOf st [] hv W' (mkL (slotsOf st.hp (apOf st [] hv) st [] hv) y)).hp.length := by rw [← SH.len]; exact (List.getElem?_eq_some_iff.1 h1).1
  obtain ⟨e, he⟩ : ∃ e, (headOf st [] hv W' (mkL (slotsOf st.hp (apOf st [] hv) st [] hv) y)).hp[i]? = some e := ⟨_, List.getElem?_eq_getElem hil⟩
  obtain ⟨k1, q1, q2⟩ := SH.ents i e he
  rw [h1] at q1
  cases q1
  have hn0 : noIter st.hp = true := (Bool.and_eq_true_iff.1 hn).1
  obtain ⟨cs', t', q3, q4⟩ := q2.cells (fun md s p q => noIter_head hn0 (he.trans (by rw [q]))) h2
  rw [ho] at q3
  cases q3
  have he' := he
  rw [headOf_get] at he'
  obtain ⟨x, hx, he'⟩ := Option.map_eq_some_iff.1 he'
  obtain ⟨k0, hk0, hs0⟩ := S.ents i x hx
  by_cases hh : i ∈ hv
  · cases x with
    | row md v el s xs =>
      have : t = el := by
        cases hg : getN hv ((mkL (slotsOf st.hp (apOf st [] hv) st [] hv) y).drop ([] : List Nat).length) i with
        | none =>
          rw [hg] at he'
          have e2 : Ent.lock (.row md v el s xs) = e := he'
          obtain ⟨md2, l1, _, _⟩ := (Ent.row md v el s xs).lock_eq
          exact q4 md2 v el s xs (by rw [← e2, l1]; rfl)
        | some z =>
          rw [hg] at he'
          have e2 : z = e := he'
          subst e2
          obtain ⟨j, g1, g2⟩ := getN_spec hg
          rw [List.getElem?_drop] at g2
          have hs : (slotsOf st.hp (apOf st [] hv) st [] hv)[j]? = some (.n (nrmN st.hp st.hp (apOf st [] hv) i (.row md v el s xs))) := by
            unfold slotsOf
            rw [List.map_nil, List.nil_append, List.getElem?_map, g1]
            simp only [Option.map_some, hx]
          obtain ⟨y', hy'⟩ := mkL_get _ y hs
          rw [show ([] : List Nat).length + j = j from Nat.zero_add j, hy'] at g2
          exact q4 _ _ el s y' (by cases g2; rfl)
      subst this
      exact List.any_eq_true.2 ⟨i, hh, by rw [hx]; exact Nat.beq_refl t⟩
    | box md cs0 =>
      have hb := List.all_eq_true.1 (Bool.and_eq_true_iff.1 hn).2 i hh
      rw [hx] at hb
      obtain ⟨tm, _, hb⟩ := List.any_eq_true.1 hb
      simp only [Bool.and_eq_true, Bool.not_eq_true'] at hb
      obtain ⟨hw, hb⟩ := hb
      split at hb
      · rename_i j hj
        have hji : j = i := beq_eq hb
        subst hji
        have r1 := S.env tm
        have r2 := SH.env tm
        have r3 : (headOf st [] hv W' (mkL (slotsOf st.hp (apOf st [] hv) st [] hv) y)).env tm = .box j 0 := by
          unfold headOf
          simp only [getE, hw, cond_false, hj]
        rw [hj] at r1
        rw [r3] at r2
        obtain ⟨_, b1, _, _, b2, b3⟩ := r1
        obtain ⟨_, b4, _, _, b5, b6⟩ := r2
        rw [b3] at b6
        cases b6
        rw [h1] at b5
        cases b5
        cases h2
        rw [b2] at hk0
        cases hk0
        have := (hs0.lt (b := k) rfl).2
        omega
      · cases hb
    | iter md s p => exact (noIter_spec hn0 hx).elim
  · have hf := SH.fix.2.2.2 i x.lock k0 (by unfold loopFx; dsimp only; rw [show hv.contains i = false from by cases h : hv.contains i with | false => rfl | true => exact absurd (List.contains_iff_mem.1 h) hh, hx, hk0]; rfl)
    rw [h1] at hf
    have e3 := Option.some.inj hf.2.2
    subst e3
    have := (hs0.lt h2).2
    omega
end
end Go.Proofs.YtgeefhjlfdidmaaGreatDoor.V


/- A range over a function: its condition is sound; functions that hold one. No condition of its own. -/
namespace Go.Proofs.YtgeefhjlfdidmaaGreatDoor.V
open Go Go.RowKit
set_option linter.unusedVariables false
set_option linter.unusedSimpArgs false

section
variable {c : Cfg} {m0 : Mem} {w0 : World} {fx : Fx} {m : Mem} {bk : List Cn} {st : St} {a : Act} {w : World}

/-- A round's frame: what is handed lies in two temporaries. -/
theorem round_sat {W' : List Nat} {stH : St} {m' : Mem} {bk' : List Cn} {W : World} {fe : Nat → Option (Ent × Cn)} {gh : EV → Value → Prop} {kp : Nat → Prop} {df : List Deferred} (SH : Sat c m0 w0 { W := W', tmps := a.tmps, fe := fe, gh := gh, n0 := fx.n0, keep := kp, dfr := df } m' bk' stH a W) {p t : Nat} (hp : p ∈ W') (ht : t ∈ W') {s : Shape} {x : s.Val} {v : Value} (hv : (Reps c.P s).V m' x v) :
    Sat c m' W { W := W', tmps := a.tmps, fe := fe, gh := J stH.hp bk', n0 := fx.n0, keep := fun b => b < W.heap.size ∧ ∀ i : Nat, (bk'[i]?).bind Cn.blk ≠ some b, dfr := [] } m' bk' (St.put (St.put stH (some p) (.p s x)) (some t) (.p s x)) { tmps := (a.tmps.setIfInBounds p v).setIfInBounds t v, defers := [] } W := by
  have hlt : ∀ d ∈ W', d < a.tmps.size := SH.fix.2.2.1
  refine { hold := SH.hold, tab := SH.tab, ext := Mem.ext_refl _ _, below := Below.refl _ _, len := SH.len, ents := SH.ents, apart := SH.apart, env := fun i => ?_, defers := rfl, fix := ⟨by simp, fun i hi => ?_, hlt, SH.fix.2.2.2⟩, gh := fun _ _ h => h, base := SH.n0le, keep := fun b hb => ⟨hb.1, rfl, hb.2⟩ }
  · show Rep c.P m' (cond (Nat.beq i t) (.p s x) (cond (Nat.beq i p) (.p s x) (stH.env i))) (J stH.hp bk') (((a.tmps.setIfInBounds p v).setIfInBounds t v).getD i undef)
    by_cases e1 : i = t
    · subst e1
      have : ((a.tmps.setIfInBounds p v).setIfInBounds i v).getD i undef = v := by simp [hlt i ht]
      rw [this, Nat.beq_refl]
      exact hv
    · have n1 : Nat.beq i t = false := by cases h : Nat.beq i t with | false => rfl | true => exact absurd (beq_eq h) e1
      rw [n1]
      by_cases e2 : i = p
      · subst e2
        have : ((a.tmps.setIfInBounds i v).setIfInBounds t v).getD i undef = v := by simp [hlt i hp, Ne.symm e1]
        rw [this, Nat.beq_refl]
        exact hv
      · have n2 : Nat.beq i p = false := by cases h : Nat.beq i p with | false => rfl | true => exact absurd (beq_eq h) e2
        rw [n2]
        have : ((a.tmps.setIfInBounds p v).setIfInBounds t v).getD i undef = a.tmps.getD i undef := by simp [Ne.symm e1, Ne.symm e2]
        rw [this]
        exact SH.env i
  · have e1 : t ≠ i := fun e => hi (e ▸ ht)
    have e2 : p ≠ i := fun e => hi (e ▸ hp)
    simp [e1, e2]

/-- Behind a round: the caller's activation, over what the round has left. -/
theorem round_back {W' : List Nat} {stH st2 : St} {m' m2 : Mem} {bk' bk2 : List Cn} {W W2 : World} {fe : Nat → Option (Ent × Cn)} {gh : EV → Value → Prop} {kp : Nat → Prop} {df : List Deferred} {a2 : Act} (SH : Sat c m0 w0 { W := W', tmps := a.tmps, fe := fe, gh := gh, n0 := fx.n0, keep := kp, dfr := df } m' bk' stH a W)
    (S2 : Sat c m' W { W := W', tmps := a.tmps, fe := fe, gh := J stH.hp bk', n0 := fx.n0, keep := fun b => b < W.heap.size ∧ ∀ i : Nat, (bk'[i]?).bind Cn.blk ≠ some b, dfr := [] } m2 bk2 st2 a2 W2) :
    Sat c m0 w0 { W := W', tmps := a.tmps, fe := fe, gh := gh, n0 := fx.n0, keep := kp, dfr := df } m2 bk2 { env := fun i => cond (W'.contains i) .bot (st2.env i), hp := st2.hp } a W2 := by
  refine { hold := S2.hold, tab := S2.tab, ext := Mem.ext_trans SH.ext S2.ext, below := SH.below.trans S2.below, len := S2.len, ents := S2.ents, apart := S2.apart, env := fun i => ?_, defers := SH.defers, fix := ⟨rfl, fun _ _ => rfl, SH.fix.2.2.1, S2.fix.2.2.2⟩, gh := fun e u h => S2.gh e u (SH.gh e u h), base := SH.base, keep := fun b hb => ?_ }
  · dsimp only
    cases hc : W'.contains i with
    | true => trivial
    | false =>
      have hi : i ∉ W' := fun h => by rw [List.contains_iff_mem.2 h] at hc; cases hc
      have h1 := S2.env i
      have h2 := S2.fix.2.1 i hi
      have : a2.tmps.getD i undef = a.tmps.getD i undef := by
        rw [Array.getD_eq_getD_getElem?, Array.getD_eq_getD_getElem?, h2]
      rw [this] at h1
      exact h1
  · obtain ⟨k1, k2, k3⟩ := SH.keep b hb
    obtain ⟨k4, k5, k6⟩ := S2.keep b ⟨Nat.lt_of_lt_of_le k1 SH.below.size, k3⟩
    exact ⟨k1, k5.trans k2, k6⟩

theorem asgOf_spec {asg : Code} {t q : Nat} (h : asgOf asg = some (t, q)) : ∃ id o, asg = .region id #[o] false ∧ o.dst = some t ∧ o.op = .assign (.tmp q) ∧ o.guard = none := by
  unfold asgOf at h
  split at h
  · rename_i id ops
    split at h
    · rename_i o ho
      split at h
      · rename_i t' q' h1 h2 h3
        cases h
        refine ⟨id, o, ?_, h1, h2, h3⟩
        congr 1
        exact Array.toList_inj.1 (by simpa using ho)
      · cases h
    · cases h
  · cases h

theorem callFunc_enter {P : Program} {f : FuncId} (h : Callable P f) (args : Array Value) (w : World) : (callFunc f args).run P w = .ok (.enter f args) w := run_callFunc h args w

/-- THE LOOP'S CONDITION IS SOUND. -/
theorem range_sound (H : HanOK c) (S : Sat c m0 w0 fx m bk st a w) {g : Operand} {ps : Array Tmp} {asg bd : Code} {K : St → Prop} (k : c.rangeK g ps asg bd fx.W st K) {Q : Exit → Act → World → Prop}
    (hQ : ∀ D W st' m' bk', w.heap.size ≤ D → K st' → Sat c m0 w0 fx m' bk' st' a W → W.heap[D]? = some (.deferred (some [])) → Q .normal { a with defers := { target := .collected D, args := #[] } :: a.defers } W) :
    (Code.rangeFunc g ps asg bd).wpIn Fence.wide 4 c.P Q a w := by
  unfold Cfg.rangeK at k
  split at k
  case h_2 => exact k.elim
  rename_i f b p t q he hps hasg
  obtain ⟨hc, k2⟩ := cond_true' k
  clear k
  simp only [Bool.and_eq_true] at hc
  obtain ⟨⟨⟨⟨⟨⟨⟨hs, hids⟩, ho⟩, hW⟩, htW⟩, hqp⟩, hrd⟩, hnm⟩ := hc
  generalize hnme : (c.lv (rdKey bd)).1 = nm at *
  generalize hhv : (c.lv (rdKey bd)).2.1 = hv at *
  generalize hfz : (c.lv (rdKey bd)).2.2 = fz at *
  generalize hW' : rdW ps asg bd = W' at *
  have hqp := beq_eq hqp
  subst hqp
  have hps' : ps = #[q] := Array.toList_inj.1 (by simpa using hps)
  subst hps'
  have htW : t ∈ W' := by simpa using htW
  have hpW : q ∈ W' := by rw [← hW']; unfold rdW; simp
  have hWs : ∀ d ∈ W', d ∈ fx.W := fun d hd => by have := List.all_eq_true.1 hW d hd; simpa using this
  obtain ⟨xs, ⟨hcall, hit⟩, hrange⟩ := k2
  obtain ⟨Inv, i0, i1, i2⟩ := hrange
  have hg := ev_sound S g
  rw [he] at hg
  obtain ⟨ua, ub, e1, e2, e3⟩ := hg
  rw [RepL_nil.1 e2] at e1
  have hb : RepL c.P (frzM m w (blks bk (· ∈ fz))) (b.map (frz st.hp 3)) pureJ ub := map_frz_rep (n := 3) (fun v u => frz_rep (frz_shut S hs) (frzM_le S _) 3 v) e3 (fun i hi => by have := List.all_eq_true.1 hids i hi; simpa using this)
  have S1 := S.freeze hs
  generalize hm1 : frzM m w (blks bk (· ∈ fz)) = m1 at *
  have hrt : rowTypes st.hp hv = rowTypes (frzH fz 0 st.hp) hv := by
    funext ty
    unfold rowTypes
    congr 1
    funext i
    rw [frzH_get]
    cases st.hp[i]? with
    | none => rfl
    | some x => simp only [Option.map_some]; cases x <;> cases fz.contains (0 + i) <;> rfl
  rw [hrt] at hit
  generalize hst1 : ({ st with hp := frzH fz 0 st.hp } : St) = st1 at *
  have hhp : frzH fz 0 st.hp = st1.hp := by rw [← hst1]
  rw [hhp] at hit ho
  have hWa : ∀ d ∈ W', d < a.tmps.size := fun d hd => by rw [S.fix.1]; exact S.fix.2.2.1 d (hWs d hd)
  have hub0 := head_sat (lv := []) (hv := hv) (W' := W') S1 S1 rfl rfl rfl (Mem.ext_refl _ m1) hWa rfl (fun _ _ => rfl) (fun _ _ h => h) (fun i e _ he => ⟨.inl he, rfl⟩) ho (headN_mk ho _) (mkL_self _ (slots_own ho))
  have hIt := hit m1 w ub S1.tab S1.hold hb
  have hps1 : ∀ x : Handed c.P m1 c.rs xs, ((fun p : Handed c.P m1 c.rs xs => #[p.1.2]) x).size = (#[q] : Array Tmp).size := fun _ => rfl
  have movH : ∀ {y : (shL (slotsOf st1.hp (apOf st1 [] hv) st1 [] hv)).Val} {m' bk' X Y row}, Sat c m1 w0 (loopFx fx hv W' bk st1 a) m' bk' (headOf st1 [] hv W' (mkL (slotsOf st1.hp (apOf st1 [] hv) st1 [] hv) y)) a X → X.grownBy Y row → (∀ r, row = some r → w.heap.size ≤ r ∧ ∃ o : Obj, X.heap[r]? = some o ∧ o.isCells = false) →
      Sat c m1 w0 (loopFx fx hv W' bk st1 a) m' bk' (headOf st1 [] hv W' (mkL (slotsOf st1.hp (apOf st1 [] hv) st1 [] hv) y)) a Y := by
    intro y m' bk' X Y row SH hgr hr
    refine SH.move (SH.below.grown hgr SH.n0le fun kk e => ?_) (fun bb o h1 h2 => ?_) (fun bb _ hb => ?_) (fun i b md s p n q1 _ _ => (noIter_head (Bool.and_eq_true_iff.1 hnm).1 q1).elim)
    · exact Nat.le_trans S.n0le (hr kk e).1
    · rw [hgr.block bb (Array.getElem?_eq_some_iff.1 h1).1 (fun e => ?_)]
      · exact h1
      · obtain ⟨_, o', h3, h4⟩ := hr bb e.symm
        rw [h1] at h3; cases h3; rw [h2] at h4; cases h4
    · refine hgr.block bb (Nat.lt_of_lt_of_le hb SH.below.size) (fun e => ?_)
      have := (hr bb e.symm).1
      have := S.below.size
      omega
  refine wpIn_rangeFunc_ownG_of_H (α := Handed c.P m1 c.rs xs) (w0 := w) (Kp := KpR m1 w.heap.size (rowTypes st1.hp hv)) rfl (by decide) (gf := f) (lb := ub.toArray) e1 trivial (callFunc_enter hcall) hIt (fun h k => KpR.trans h k) (fun W l o o' _ h h2 _ => KpR.other W l o o' h h2) (Below.refl _ _) hps1
    (fun pre W => ∃ y m' bk', Inv (pre.map (·.1.1)) y ∧ Sat c m1 w0 (loopFx fx hv W' bk st1 a) m' bk' (headOf st1 [] hv W' (mkL (slotsOf st1.hp (apOf st1 [] hv) st1 [] hv) y)) a W)
    (fun _ _ _ => False) (fun pre X Y row h hgr hr => ?_) (fun _ _ _ _ _ h _ _ => h) ⟨_, _, _, i0, hub0⟩
    (fun x => { tmps := (a.tmps.setIfInBounds q x.1.2).setIfInBounds t x.1.2, defers := [] }) (fun l x W K hK => ?_) (fun l pre x W hI hlen => ?_) (fun D ys W hD hS hI hDW => ?_) (fun D cc pre W hD _ h _ => h.elim) (KpR.refl _ _ _)
  · obtain ⟨y, m', bk', h1, SH⟩ := h
    exact ⟨y, m', bk', h1, movH SH hgr hr⟩
  · obtain ⟨id, o, hasg', o1, o2, o3⟩ := asgOf_spec hasg
    subst hasg'
    refine wpIn_region_list ?_
    show wpListIn _ _ _ _ _ [o] _ _
    unfold wpListIn
    have hwant : Region.wanted o (yielded #[o] (Array.foldl (fun t (pv : Tmp × Value) => t.setIfInBounds pv.1 pv.2) a.tmps ((#[q] : Array Tmp).zip #[x.1.2]))) = true := by
      unfold Region.wanted; rw [o3]
    rw [if_pos hwant]
    have hqa : q < a.tmps.size := hWa q hpW
    refine oper_in l _ (by rw [o2]; rfl) (fun a' w' ⟨q1, q2⟩ => ?_) ?_ (next := fun a' w' => a' = { tmps := (a.tmps.setIfInBounds q x.1.2).setIfInBounds t x.1.2, defers := [] } ∧ w' = W)
    · subst q1; subst q2; exact hK
    · unfold Oper.wp
      have hex : (execOp (Act.eval { tmps := Array.foldl (fun t (pv : Tmp × Value) => t.setIfInBounds pv.1 pv.2) a.tmps ((#[q] : Array Tmp).zip #[x.1.2]), defers := [] }) o).run c.P W = .ok (.value x.1.2) W := by
        rw [execOp, o2]
        simp [Act.eval, hqa]
      rw [hex, Oper.upon_value, o1]
      refine ⟨?_, rfl⟩
      simp [Act.put]
  · obtain ⟨y, m', bk', h1, SH⟩ := hI
    have hv1 : (Reps c.P c.rs).V m' x.1.1 x.1.2 := Reps.V_mono SH.ext.1 x.2.1
    have SR := round_sat (fx := fx) SH hpW htW hv1
    have kk := i1 (pre.map (·.1.1)) x.1.1 y x.2.2 (by rw [List.length_map]; exact hlen) h1
    refine wpIn_mono (vc_sound_in H l _ bd hrd SR kk) fun e a2 W2 h => ?_
    cases e with
    | ret => obtain ⟨st2, m2, bk2, k2, S2⟩ := h; exact k2.elim
    | exit id => obtain ⟨st2, m2, bk2, k2, S2⟩ := h; exact k2.elim
    | goto l => exact h.elim
    | panic ch => exact h.elim
    | outgrown => exact h.elim
    | normal =>
      obtain ⟨st2, m2, bk2, k2, S2⟩ := h
      obtain ⟨y', hy', hsl⟩ := matL_spec _ _ k2
      have S3 := round_back SH S2
      have kept : ∀ (kk : Nat) (o : Obj), w.heap.size ≤ kk → W.heap[kk]? = some o → (o.isCells = true → ∃ cs t fz, o = .cells cs t fz ∧ rowTypes st1.hp hv t = false) → W2.heap[kk]? = some o := by
        intro kk o hB h1 h2
        refine (S2.keep kk ⟨(Array.getElem?_eq_some_iff.1 h1).1, fun i hi => ?_⟩).2.1.trans h1
        cases ho2 : o.isCells with
        | false =>
          obtain ⟨kn, h3, h4⟩ := Option.bind_eq_some_iff.1 hi
          have hil : i < (headOf st1 [] hv W' (mkL (slotsOf st1.hp (apOf st1 [] hv) st1 [] hv) y)).hp.length := by rw [← SH.len]; exact (List.getElem?_eq_some_iff.1 h3).1
          obtain ⟨k1, q1, q2⟩ := SH.ents i _ (List.getElem?_eq_getElem hil)
          rw [h3] at q1
          cases q1
          obtain ⟨cs', t', q3, _⟩ := q2.cells (fun md s p q => noIter_head (Bool.and_eq_true_iff.1 hnm).1 ((List.getElem?_eq_getElem hil).trans (congrArg some q))) h4
          rw [h1] at q3
          cases q3
          cases ho2
        | true =>
          obtain ⟨cs, ty, fz', e1, e2⟩ := h2 ho2
          subst e1
          have := head_block S1 SH hnm hi hB h1
          rw [e2] at this
          cases this
      refine ⟨⟨S2.below.size, fun kk o hB h1 h2 => kept kk o hB h1 (fun h3 => by rw [h2] at h3; cases h3)⟩, ⟨fun _ b o v hm => S2.hold b o v (S2.ext.1 b o v (SH.ext.1 b o v hm)), S2.below.size, fun kk cs ty fz' hB hT h1 => kept kk _ hB h1 (fun _ => ⟨cs, ty, fz', rfl, hT⟩)⟩, ?_⟩
      refine ⟨y', m2, _, by rw [List.map_append]; exact hy', head_sat S1 S3 rfl rfl rfl (Mem.ext_trans SH.ext S2.ext) hWa rfl (fun _ _ => rfl) (fun e u h => S2.gh e u (SH.gh e u h)) (fun i e hi he => ?_) ho (headN_mk ho _) hsl⟩
      obtain ⟨k0, hk0, _⟩ := S1.ents i e he
      have hc : hv.contains i = false := by
        cases h : hv.contains i with
        | false => rfl
        | true => exact absurd (List.contains_iff_mem.1 h) hi
      obtain ⟨_, p2, p3⟩ := S2.fix.2.2.2 i e.lock k0 (by dsimp only; rw [hc, he, hk0]; rfl)
      exact ⟨.inr p2, by rw [p3, hk0]⟩
  · obtain ⟨y, m', bk', h1, SH⟩ := hI
    rw [hS] at h1
    have S4 := exit_sat S1 hWs ho SH
    exact hQ D W _ m' bk' hD (i2 y h1) S4 hDW
end
end Go.Proofs.YtgeefhjlfdidmaaGreatDoor.V


/- Functions that hold a range over a function. No condition of its own. -/
namespace Go.Proofs.YtgeefhjlfdidmaaGreatDoor.V
open Go Go.RowKit
set_option linter.unusedVariables false
set_option linter.unusedSimpArgs false

/-- The condition of a function's code that holds one range over a function, on its spine: K1 where it has not come to it, K2 behind it. -/
def Cfg.spK (c : Cfg) : Code → List Nat → St → (Ex → St → Prop) → (Ex → St → Prop) → Prop
  | .seq a b, W, st, K1, K2 => c.spK a W st (fun e st => match e with
      | .normal => c.spK b W st K1 K2
      | .ret => K1 .ret st
      | .exit id => K1 (.exit id) st) (fun e st => match e with
      | .normal => c.vc b W st K2
      | .ret => K2 .ret st
      | .exit id => K2 (.exit id) st)
  | .block id b, W, st, K1, K2 => c.spK b W st (fun e st => match e with
      | .normal => K1 .normal st
      | .ret => K1 .ret st
      | .exit j => cond (Nat.beq j id) (K1 .normal st) (K1 (.exit j) st)) (fun e st => match e with
      | .normal => K2 .normal st
      | .ret => K2 .ret st
      | .exit j => cond (Nat.beq j id) (K2 .normal st) (K2 (.exit j) st))
  | .rangeFunc g ps asg bd, W, st, _, K2 => c.rangeK g ps asg bd W st (fun st => K2 .normal st)
  | .skip, W, st, K1, _ => c.vc .skip W st K1
  | .label l, W, st, K1, _ => c.vc (.label l) W st K1
  | .ret, W, st, K1, _ => c.vc .ret W st K1
  | .exit id, W, st, K1, _ => c.vc (.exit id) W st K1
  | .region id ops d, W, st, K1, _ => c.vc (.region id ops d) W st K1
  | .cond x a b, W, st, K1, _ => c.vc (.cond x a b) W st K1
  | .scope b, W, st, K1, _ => c.vc (.scope b) W st K1
  | .loop b, W, st, K1, _ => c.vc (.loop b) W st K1
  | _, _, _, _, _ => False

/-- The condition of such a function's contract. -/
def Cfg.fnRK (c : Cfg) (f : FuncId) (args : List EV) (out : Shape) (R : out.Val → Prop) : Prop :=
  match c.P.funcs[f]? with
  | some fn => match fn.body with
    | some b => cond (b.dsts'.all (fun d => Nat.blt d fn.ntmps) && !(fn.name == "runtime.NumGoroutine")) (c.spK b b.dsts' { env := fun i => (args[i]?).getD .bot, hp := [] } (fun e st => match e with
      | .normal => c.retK fn out st R
      | .ret => c.retK fn out st R
      | .exit _ => False) fun e st => match e with
      | .normal => c.retK fn out st R
      | .ret => c.retK fn out st R
      | .exit _ => False) False
    | none => False
  | none => False

/-- Behind the range: one mark among the deferred calls, its block kept. -/
def Fx.at (fx : Fx) (D : Nat) : Fx := { fx with keep := fun b => b = D, dfr := [{ target := .collected D, args := #[] }] }

def PostR (c : Cfg) (m0 : Mem) (w0 : World) (fx : Fx) (K1 K2 : Ex → St → Prop) (e : Exit) (a : Act) (w : World) : Prop :=
  Post c m0 w0 fx K1 e a w ∨ ∃ D m1 w1, Below fx.n0 w0 w1 ∧ Mem.ext fx.n0 m0 m1 ∧ fx.n0 ≤ D ∧ w1.heap[D]? = some (.deferred (some [])) ∧ Post c m1 w1 (fx.at D) K2 e a w

section
variable {c : Cfg} {m0 : Mem} {w0 : World} {fx : Fx}

theorem Sat.drop {m : Mem} {bk : List Cn} {st : St} {a : Act} {w : World} (S : Sat c m0 w0 fx m bk st a w) : Sat c m0 w0 { fx with keep := fun _ => False } m bk st a w :=
  { hold := S.hold, tab := S.tab, ext := S.ext, below := S.below, len := S.len, ents := S.ents, apart := S.apart, env := S.env, defers := S.defers, fix := S.fix, gh := S.gh, base := S.base, keep := fun _ h => h.elim }

theorem sp_plain (H : HanOK c) {b : Code} {m : Mem} {bk : List Cn} {st : St} {a : Act} {w : World} {K1 K2 : Ex → St → Prop} (S : Sat c m0 w0 fx m bk st a w) (k : c.vc b fx.W st K1) : b.wpIn Fence.wide 4 c.P (PostR c m0 w0 fx K1 K2) a w :=
  wpIn_wide.2 (wp_mono (vc_sound H b S k) fun _ _ _ h => .inl h)

theorem sp_sound (H : HanOK c) (hd : fx.dfr = []) (b : Code) : ∀ {m : Mem} {bk : List Cn} {st : St} {a : Act} {w : World} {K1 K2 : Ex → St → Prop}, Sat c m0 w0 fx m bk st a w → c.spK b fx.W st K1 K2 → b.wpIn Fence.wide 4 c.P (PostR c m0 w0 fx K1 K2) a w := by
  induction b with
  | skip => intro m bk st a w K1 K2 S k; exact sp_plain H S k
  | label l => intro m bk st a w K1 K2 S k; exact sp_plain H S k
  | ret => intro m bk st a w K1 K2 S k; exact sp_plain H S k
  | exit id => intro m bk st a w K1 K2 S k; exact sp_plain H S k
  | region id ops draw => intro m bk st a w K1 K2 S k; exact sp_plain H S k
  | cond x p q ihp ihq => intro m bk st a w K1 K2 S k; exact sp_plain H S k
  | scope b ih => intro m bk st a w K1 K2 S k; exact sp_plain H S k
  | loop b ih => intro m bk st a w K1 K2 S k; exact sp_plain H S k
  | seq x y ihx ihy =>
    intro m bk st a w K1 K2 S k
    refine wpIn_seq (wpIn_mono (ihx S k) fun e a' w' h => ?_)
    rcases h with h | ⟨D, m1, w1, h1, h2, h3, h4, h⟩
    · cases e with
      | normal => obtain ⟨st2, m2, bk2, k2, S2⟩ := h; exact ihy S2 k2
      | ret => exact .inl h
      | exit id => exact .inl h
      | goto l => exact h.elim
      | panic ch => exact h.elim
      | outgrown => exact h.elim
    · cases e with
      | normal =>
        obtain ⟨st2, m2, bk2, k2, S2⟩ := h
        exact wpIn_wide.2 (wp_mono (vc_sound H y S2 k2) fun _ _ _ q => .inr ⟨D, m1, w1, h1, h2, h3, h4, q⟩)
      | ret => exact .inr ⟨D, m1, w1, h1, h2, h3, h4, h⟩
      | exit id => exact .inr ⟨D, m1, w1, h1, h2, h3, h4, h⟩
      | goto l => exact h.elim
      | panic ch => exact h.elim
      | outgrown => exact h.elim
  | block id b ih =>
    intro m bk st a w K1 K2 S k
    have blk : ∀ {m0 : Mem} {w0 : World} {fx : Fx} {K : Ex → St → Prop} {e : Exit} {a' : Act} {w' : World}, Post c m0 w0 fx (fun e st => match e with
      | .normal => K .normal st
      | .ret => K .ret st
      | .exit j => cond (Nat.beq j id) (K .normal st) (K (.exit j) st)) e a' w' → Exit.inBlock id (Post c m0 w0 fx K) e a' w' := by
      intro m0 w0 fx K e a' w' h
      cases e with
      | normal => exact h
      | ret => exact h
      | exit j =>
        show if j = id then _ else _
        by_cases hj : j = id
        · rw [if_pos hj]
          refine h.mono fun st k => ?_
          rcases cond_spec k with ⟨_, k⟩ | ⟨hb, _⟩
          · exact k
          · subst hj; rw [Nat.beq_refl] at hb; cases hb
        · rw [if_neg hj]
          refine h.mono fun st k => ?_
          rcases cond_spec k with ⟨hb, _⟩ | ⟨_, k⟩
          · exact absurd (beq_eq hb) hj
          · exact k
      | goto l => exact h.elim
      | panic ch => exact h.elim
      | outgrown => exact h.elim
    refine wpIn_block (wpIn_mono (ih S k) fun e a' w' h => ?_)
    have up : ∀ {Q Q' : Exit → Act → World → Prop}, (∀ e a w, Q e a w → Q' e a w) → Exit.inBlock id Q e a' w' → Exit.inBlock id Q' e a' w' := by
      intro Q Q' hq h
      cases e with
      | exit j =>
        revert h
        show (if j = id then _ else _) → (if j = id then _ else _)
        split
        · exact hq _ _ _
        · exact hq _ _ _
      | _ => exact hq _ _ _ h
    rcases h with h | ⟨D, m1, w1, h1, h2, h3, h4, h⟩
    · exact up (fun _ _ _ q => .inl q) (blk h)
    · exact up (fun _ _ _ q => .inr ⟨D, m1, w1, h1, h2, h3, h4, q⟩) (blk h)
  | rangeFunc g ps asg bd _ _ =>
    intro m bk st a w K1 K2 S k
    refine range_sound H S k fun D W st' m' bk' hD k' S' hW => .inr ⟨D, m', W, S'.below, S'.ext, Nat.le_trans S.n0le hD, hW, st', m', bk', k', ?_⟩
    refine { hold := S'.hold, tab := S'.tab, ext := Mem.ext_refl _ _, below := Below.refl _ _, len := S'.len, ents := S'.ents, apart := S'.apart, env := S'.env, defers := ?_, fix := S'.fix, gh := S'.gh, base := S'.n0le, keep := fun b hb => ?_ }
    · show _ :: a.defers = _
      rw [S.defers, hd]; rfl
    · have hb : b = D := hb
      subst hb
      refine ⟨(Array.getElem?_eq_some_iff.1 hW).1, rfl, fun i hi => ?_⟩
      obtain ⟨kn, h3, h4⟩ := Option.bind_eq_some_iff.1 hi
      have hil : i < st'.hp.length := by rw [← S'.len]; exact (List.getElem?_eq_some_iff.1 h3).1
      obtain ⟨k1, q1, q2⟩ := S'.ents i _ (List.getElem?_eq_getElem hil)
      rw [h3] at q1
      cases q1
      obtain ⟨o', q3, q4⟩ := q2.obj h4
      rw [hW] at q3
      cases q3
      rcases q4 with ⟨_, _, q⟩ | ⟨_, _, q⟩ <;> cases q
  | _ => intro m bk st a w K1 K2 S k; exact k.elim
end

/-- THE CONTRACT, out of the condition. -/
theorem fnR_sound {c : Cfg} (H : HanOK c) {f : FuncId} {args : List EV} {out : Shape} {R : out.Val → Prop} (k : c.fnRK f args out R) : FnE c.toBase f args out R := by
  unfold Cfg.fnRK at k
  split at k
  · rename_i fn hf
    split at k
    · rename_i b hb
      obtain ⟨hc, k⟩ := cond_true' k
      simp only [Bool.and_eq_true, Bool.not_eq_true'] at hc
      refine ⟨⟨fn, b, hf, hb, hc.2⟩, fun m w us ht hh hargs => (callsIn_wide (n := 4)).1 (callsIn_of_wp_marks hf hb trivial ?_)⟩
      have hsz : ∀ d ∈ b.dsts', d < (us.toArray ++ Array.replicate (fn.ntmps - us.toArray.size) undef).size := by
        intro d hd
        have := List.all_eq_true.1 hc.1 d hd
        have h1 : d < fn.ntmps := Nat.le_of_ble_eq_true this
        simp only [Array.size_append, Array.size_replicate, List.size_toArray]
        omega
      have S : Sat c m w { W := b.dsts', tmps := us.toArray ++ Array.replicate (fn.ntmps - us.toArray.size) undef, fe := fun _ => none, gh := fun _ _ => False, n0 := w.heap.size, keep := fun _ => False, dfr := [] } m [] { env := fun i => (args[i]?).getD .bot, hp := [] }
          { tmps := us.toArray ++ Array.replicate (fn.ntmps - us.toArray.size) undef, defers := [] } w := by
        refine { hold := hh, tab := ht, ext := Mem.ext_refl _ m, below := Below.refl _ w, len := rfl, ents := fun i e he => by simp at he, apart := fun i j b hi => by simp at hi, env := fun i => ?_, defers := rfl, fix := ⟨rfl, fun _ _ => rfl, hsz, fun i e k hk => by cases hk⟩, gh := fun _ _ h => h.elim, base := Nat.le_refl _, keep := fun _ h => h.elim }
        show Rep c.P m ((args[i]?).getD .bot) (J [] []) ((us.toArray ++ Array.replicate (fn.ntmps - us.toArray.size) undef).getD i undef)
        cases hv : args[i]? with
        | none => trivial
        | some v =>
          obtain ⟨u, h1, h2⟩ := RepL_get hargs hv
          have hi := (List.getElem?_eq_some_iff.1 h1).1
          have : (us.toArray ++ Array.replicate (fn.ntmps - us.toArray.size) undef).getD i undef = u := by
            rw [Array.getD_eq_getD_getElem?, Array.getElem?_append_left (by simpa using hi)]
            simp [h1]
          show Rep c.P m v (J [] []) ((us.toArray ++ Array.replicate (fn.ntmps - us.toArray.size) undef).getD i undef)
          rw [this]
          exact Rep_mono (Mem.le_refl m) v (fun _ _ q => q.elim) h2
      have fin : ∀ {st2 : St} {m1 m2 : Mem} {bk2 : List Cn} {a2 : Act} {w1 w2 : World} {fx2 : Fx}, fx2.n0 = w.heap.size → Below w.heap.size w w1 → Mem.ext w.heap.size m m1 → c.retK fn out st2 R → Sat c m1 w1 fx2 m2 bk2 st2 a2 w2 → ∃ v, (results fn a2.tmps).run c.P w2 = .ok v w2 ∧ PostOf (fun m v => ∃ r, R r ∧ (Reps c.P out).V m r v) m w (.returned v) w2 := by
        intro st2 m1 m2 bk2 a2 w1 w2 fx2 hn hb1 hm1 k2 S2
        have he := S2.ext
        have hb := S2.below
        have hf := frzM_ext S2 (fun i => ∃ x, st2.hp[i]? = some x)
        rw [hn] at he hb hf
        obtain ⟨v, h1, h2⟩ := ret_sound S2 k2
        exact ⟨v, h1, v, _, rfl, Mem.ext_trans hm1 (Mem.ext_trans he hf), frzM_holds S2 _, hb1.trans hb, h2⟩
      have mark : ∀ {D : Nat} {st2 : St} {m1 m2 : Mem} {bk2 : List Cn} {a2 : Act} {w1 w2 : World}, Below w.heap.size w w1 → Mem.ext w.heap.size m m1 → w.heap.size ≤ D → w1.heap[D]? = some (.deferred (some [])) → c.retK fn out st2 R →
          Sat c m1 w1 (Fx.at { W := b.dsts', tmps := us.toArray ++ Array.replicate (fn.ntmps - us.toArray.size) undef, fe := fun _ => none, gh := fun _ _ => False, n0 := w.heap.size, keep := fun _ => False, dfr := [] } D) m2 bk2 st2 a2 w2 →
          LeavesInM Fence.wide 4 c.P fn a2.tmps (PostOf (fun m v => ∃ r, R r ∧ (Reps c.P out).V m r v) m w) a2.defers .returning w2 := by
        intro D st2 m1 m2 bk2 a2 w1 w2 h1 h2 h3 h4 k2 S2
        have hD : w2.heap[D]? = some (.deferred (some [])) := (S2.keep D rfl).2.1.trans h4
        have ot : ∀ kk, kk ≠ D → (w2.putObj D (.deferred none)).heap[kk]? = w2.heap[kk]? := fun kk hk => World.putObj_heap_other hk
        have S3 := (S2.drop).move (w' := w2.putObj D (.deferred none)) (S2.below.grown (grownBy_putObj' w2 D (.deferred none)) S2.n0le (fun kk e => by cases e; exact h3)) (fun bb o q1 q2 => by
            have hne : bb ≠ D := fun e => by
              subst e
              rw [hD] at q1
              cases q1
              cases q2
            rw [ot bb hne]; exact q1) (fun bb hb _ => hb.elim) (fun i b md s p n _ _ q3 => ot b (fun e => by subst e; rw [hD] at q3; cases q3))
        · obtain ⟨v, r1, r2⟩ := fin rfl h1 h2 k2 S3
          have hdf : a2.defers = [{ target := .collected D, args := #[] }] := S2.defers
          rw [hdf]
          exact ⟨by simp, .inl ⟨D, _, rfl, run_takeDeferred hD, v, r1, r2⟩⟩
      refine wpIn_mono (sp_sound H rfl b S k) fun e a2 w2 h => ?_
      rcases h with h | ⟨D, m1, w1, h1, h2, h3, h4, h⟩
      · cases e with
        | normal => obtain ⟨st2, m2, bk2, k2, S2⟩ := h; obtain ⟨v, r⟩ := fin rfl (Below.refl _ _) (Mem.ext_refl _ _) k2 S2; show LeavesInM _ _ _ _ _ _ a2.defers _ _; rw [S2.defers]; exact ⟨v, r⟩
        | ret => obtain ⟨st2, m2, bk2, k2, S2⟩ := h; obtain ⟨v, r⟩ := fin rfl (Below.refl _ _) (Mem.ext_refl _ _) k2 S2; show LeavesInM _ _ _ _ _ _ a2.defers _ _; rw [S2.defers]; exact ⟨v, r⟩
        | exit id => obtain ⟨st2, m2, bk2, k2, S2⟩ := h; exact k2.elim
        | goto l => exact h.elim
        | panic ch => exact h.elim
        | outgrown => exact h.elim
      · cases e with
        | normal => obtain ⟨st2, m2, bk2, k2, S2⟩ := h; exact mark h1 h2 h3 h4 k2 S2
        | ret => obtain ⟨st2, m2, bk2, k2, S2⟩ := h; exact mark h1 h2 h3 h4 k2 S2
        | exit id => obtain ⟨st2, m2, bk2, k2, S2⟩ := h; exact k2.elim
        | goto l => exact h.elim
        | panic ch => exact h.elim
        | outgrown => exact h.elim
    · exact k.elim
  · exact k.elim
end Go.Proofs.YtgeefhjlfdidmaaGreatDoor.V


/- Methods that are called through an interface value that holds a pointer, walked in their own code. No condition of its own. -/
namespace Go.Proofs.YtgeefhjlfdidmaaGreatDoor.V
open Go Go.RowKit
set_option linter.unusedVariables false
set_option linter.unusedSimpArgs false

/-- The pointer itself is the method's receiver; or what it points to. -/
inductive HanI where
  | ptr (t : TypeId) (f : FuncId) (c : Cfg)
  | val (t e : TypeId) (f : FuncId) (c : Cfg)
  | call (t e : TypeId) (f : FuncId)

def Base.methodP (B : Base) (t : TypeId) (name : String) (f : FuncId) (p : Bool) : Bool :=
  match B.P.info? t with
  | some i => match i.methods.toList.find? (·.name == name) with
    | some m => match m.func, m.path.toList with
      | some (g, q), [] => Nat.beq g f && (cond p q (!q))
      | _, _ => false
    | none => false
  | none => false

def Base.isPtrTo (B : Base) (t e : TypeId) : Bool :=
  match B.P.underlying t with
  | some (.pointer e') => Nat.beq e' e
  | _ => false

def hniL (B : Base) : List (String × HanI) → String → Option (EV → List EV → List Ent → (EV → List Ent → Prop) → Prop)
  | [], _ => none
  | (n, .ptr t f c) :: r, name => cond (n == name) (some fun x args hp K => match x with
      | .ifc t' v => cond (Nat.beq t' t && (B.P.underlying t matches some (.pointer _)) && B.methodP t name f true) (c.inlK f (v :: args) hp K) False
      | _ => False) (hniL B r name)
  | (n, .val t e f c) :: r, name => cond (n == name) (some fun x args hp K => match x with
      | .ifc t' v => cond (Nat.beq t' t && B.isPtrTo t e && B.methodP t name f false) (Cfg.ptK { env := fun _ => .bot, hp := hp } v fun cs off => c.ldK e cs off fun y => c.inlK f (y :: args) hp K) False
      | _ => False) (hniL B r name)

  | (n, .call t e f) :: r, name => cond (n == name) (some fun x args hp K => match x with
      | .ifc t' v => cond (Nat.beq t' t && B.isPtrTo t e && B.methodP t name f false) (Cfg.ptK { env := fun _ => .bot, hp := hp } v fun cs off => Cfg.ldK { toBase := B, lv := fun _ => ([], [], []), rows := [] } e cs off fun y =>
          Cfg.callK { toBase := B, lv := fun _ => ([], [], []), rows := [] } { env := fun _ => .bot, hp := hp } f (y :: args) K) False
      | _ => False) (hniL B r name)

def hniGood (B : Base) : List (String × HanI) → Prop
  | [] => True
  | (_, .ptr _ _ c) :: r => c.toBase = B ∧ HanOK c ∧ hniGood B r
  | (_, .val _ _ _ c) :: r => c.toBase = B ∧ HanOK c ∧ hniGood B r
  | (_, .call _ _ _) :: r => hniGood B r

section
variable {c : Cfg} {m0 : Mem} {w0 : World} {fx : Fx} {m : Mem} {bk : List Cn} {st : St} {a : Act} {w : World}

theorem methodP_spec {B : Base} {t : TypeId} {name : String} {f : FuncId} {p : Bool} (h : B.methodP t name f p = true) : ∃ i mt, B.P.info? t = some i ∧ i.methods.find? (fun x => x.name == name) = some mt ∧ mt.func = some (f, p) ∧ mt.path = #[] := by
  unfold Base.methodP at h
  split at h
  · rename_i i hi
    split at h
    · rename_i mt hf
      split at h
      · rename_i g q hg hp
        simp only [Bool.and_eq_true] at h
        have e := beq_eq h.1
        subst e
        refine ⟨i, mt, hi, by rw [← Array.find?_toList]; exact hf, ?_, ?_⟩
        · rw [hg]
          have h2 := h.2
          cases p <;> cases q <;> first | rfl | cases h2
        · have := congrArg List.toArray hp
          simpa using this
      · cases h
    · cases h
  · cases h

theorem method_ptr {B : Base} {t : TypeId} {name : String} {f : FuncId} (h : B.methodP t name f true = true) {e : TypeId} (hu : B.P.underlying t = some (.pointer e)) (v : Value) (n : Nat) (w : World) : (method (n + 1) t v name).run B.P w = .ok (f, v) w := by
  obtain ⟨i, mt, h1, h2, h3, h4⟩ := methodP_spec h
  have hrec : ∀ wr, (receiverAt t (.val v) true wr).run B.P w = .ok v w := by
    intro wr
    simp only [receiverAt, Sem.run_bind, run_underlying hu, Result.andThen_ok]
    rfl
  simp [method, typeInfo, h1, h2, h4, follow, h3, hrec]

theorem method_val {B : Base} {t : TypeId} {name : String} {f : FuncId} (h : B.methodP t name f false = true) {e : TypeId} (hu : B.P.underlying t = some (.pointer e)) (ad : Addr) {q : Value} (n : Nat) (w : World) (hl : (Instr.loadAt e (.pointer (some ad))).run B.P w = .ok q w) :
    (method (n + 1) t (.pointer (some ad)) name).run B.P w = .ok (f, q) w := by
  obtain ⟨i, mt, h1, h2, h3, h4⟩ := methodP_spec h
  have hl' : (loadVar e ad).run B.P w = .ok q w := by
    simpa [Instr.loadAt, Instr.sureAddr, asAddr] using hl
  have hrec : ∀ wr, (receiverAt t (.val (.pointer (some ad))) false (some wr)).run B.P w = .ok q w := by
    intro wr
    simp only [receiverAt, Sem.run_bind, run_underlying hu, Result.andThen_ok]
    have e : (Builtin.ssaWrapNilChk_ #[t] t #[.pointer (some ad), strVal "", strVal wr]).run B.P w = .ok (.pointer (some ad)) w := rfl
    simp only [Place.get, Sem.run_bind, Sem.run_pure, Result.andThen_ok, e]
    simp [asAddr, hl']
  simp [method, typeInfo, h1, h2, h4, follow, h3, hrec]

theorem callMethod_ok {P : Program} {t : TypeId} {x y : Value} {name : String} {f : FuncId} {w : World} {us : List Value} (hm : ∀ n, (method (n + 1) t x name).run P w = .ok (f, y) w) (hc : Callable P f) :
    (callMethod (.iface t x) name us.toArray).run P w = .ok (.enter f (y :: us).toArray) w := by
  have hd : P.types.size + Made.depth = P.types.size + (Made.depth - 1) + 1 := rfl
  simp only [callMethod, Sem.run_bind, run_program, Result.andThen_ok, hd, hm, run_callFunc hc]
  simp

/-- A call by contract, from a place where nothing but the blocks is known. -/
theorem call_any {c0 : Cfg} (hc : c0.toBase = c.toBase) (S : Sat c m0 w0 fx m bk st a w) {f : FuncId} {args : List EV} {us : List Value} {K : EV → List Ent → Prop} (hargs : RepL c.P m args (J st.hp bk) us) (k : c0.callK { env := fun _ => .bot, hp := st.hp } f args K) :
    Callable c.P f ∧ Calls c.P f us.toArray w (fun e w' => ∃ u, e = .returned u ∧ Res c m0 w0 fx st a K u w') := by
  have hP : c0.P = c.P := congrArg Base.P hc
  have S0 := S.onBase (c' := c0) hc
  have S1 : Sat c0 m w0 { W := [], tmps := #[], fe := fx.fe, gh := J st.hp bk, n0 := fx.n0, keep := fx.keep, dfr := [] } m bk { env := fun _ => .bot, hp := st.hp } { tmps := #[], defers := [] } w :=
    { hold := S0.hold, tab := S0.tab, ext := Mem.ext_refl _ m, below := S0.below, len := S0.len, ents := S0.ents, apart := S0.apart, env := fun i => trivial, defers := rfl, fix := ⟨rfl, fun _ _ => rfl, (fun d hd => by cases hd), S0.fix.2.2.2⟩, gh := fun _ _ h => h, base := S0.base, keep := S0.keep }
  have hargs' : RepL c0.P m args (J st.hp bk) us := by rw [hP]; exact hargs
  have h1 := callK_callable S1 hargs' k
  have h2 := callK_sound S1 hargs' k
  rw [hP] at h1 h2
  refine ⟨h1, h2.mono fun e w' ⟨u, e1, ⟨e2, hp2, m2, bk2, q1, S2, q3⟩, _⟩ => ⟨u, e1, e2, hp2, m2, bk2, q1, ?_, by rw [← hP]; exact q3⟩⟩
  refine Sat.onBase (c := c0) (c' := c) hc.symm ?_
  exact { hold := S2.hold, tab := S2.tab, ext := Mem.ext_trans S0.ext S2.ext, below := S2.below, len := S2.len, ents := S2.ents, apart := S2.apart, env := fun i => Rep_mono S2.ext.1 _ S2.gh (S0.env i), defers := S0.defers, fix := ⟨S0.fix.1, S0.fix.2.1, S0.fix.2.2.1, S2.fix.2.2.2⟩, gh := fun e u h => S2.gh e u (S0.gh e u h), base := S0.base, keep := S2.keep }

theorem hniL_ok : ∀ (l : List (String × HanI)), hniGood c.toBase l → ∀ {name : String} {h : EV → List EV → List Ent → (EV → List Ent → Prop) → Prop}, hniL c.toBase l name = some h → ∀ {m0 : Mem} {w0 : World} {fx : Fx} {m : Mem} {bk : List Cn} {st : St} {a : Act} {w : World}, Sat c m0 w0 fx m bk st a w →
    ∀ {r : EV} {ur : Value} {args : List EV} {us : List Value} {K : EV → List Ent → Prop}, Rep c.P m r (J st.hp bk) ur → RepL c.P m args (J st.hp bk) us → h r args st.hp K →
      ∃ (f : FuncId) (vs : Array Value), (callMethod ur name us.toArray).run c.P w = .ok (.enter f vs) w ∧ Calls c.P f vs w (fun e w' => ∃ u, e = .returned u ∧ Res c m0 w0 fx st a K u w')
  | [], _, name, h, hh, _, _, _, _, _, _, _, _, _, _, _, _, _, _, _, _, _ => by cases hh
  | (n, .ptr t f c') :: l, hg, name, h, hh, m0, w0, fx, m, bk, st, a, w, S, r, ur, args, us, K, hr, hargs, k => by
    unfold hniL at hh
    cases hb : (n == name) with
    | false => rw [hb] at hh; exact hniL_ok l hg.2.2 hh S hr hargs k
    | true =>
      rw [hb] at hh
      cases hh
      split at k
      · rename_i t' v
        obtain ⟨hc, k2⟩ := cond_true' k
        clear k
        simp only [Bool.and_eq_true] at hc
        have e1 := beq_eq hc.1.1
        subst e1
        obtain ⟨x, e2, hx⟩ := hr
        subst e2
        obtain ⟨hcall, hC⟩ := inlK_sound hg.1 hg.2.1 S (args := v :: args) (us := x :: us) (RepL_cons.2 ⟨x, us, rfl, hx, hargs⟩) k2
        have hp := hc.1.2
        split at hp
        · rename_i e he
          exact ⟨f, _, callMethod_ok (fun n => method_ptr hc.2 he x n w) hcall, hC⟩
        · cases hp
      · exact k.elim
  | (n, .val t e f c') :: l, hg, name, h, hh, m0, w0, fx, m, bk, st, a, w, S, r, ur, args, us, K, hr, hargs, k => by
    unfold hniL at hh
    cases hb : (n == name) with
    | false => rw [hb] at hh; exact hniL_ok l hg.2.2 hh S hr hargs k
    | true =>
      rw [hb] at hh
      cases hh
      split at k
      · rename_i t' v
        obtain ⟨hc, k2⟩ := cond_true' k
        clear k
        simp only [Bool.and_eq_true] at hc
        have e1 := beq_eq hc.1.1
        subst e1
        obtain ⟨x, e2, hx⟩ := hr
        subst e2
        have hp := hc.1.2
        unfold Base.isPtrTo at hp
        split at hp
        · rename_i e' he
          have e3 := beq_eq hp
          subst e3
          have hbase : c'.P = c.P := congrArg Base.P hg.1
          have k' : Cfg.ptK st v fun cs off => c'.ldK e' cs off fun y => c'.inlK f (y :: args) st.hp K := by
            cases v <;> exact k2
          have S' := S.onBase (c' := c') hg.1
          have hx' : Rep c'.P m v (J st.hp bk) x := by rw [hbase]; exact hx
          obtain ⟨cs, off, b, o, vs, k1, e1, e2, e3⟩ := ptK_sound S' hx' k'
          subst e1
          obtain ⟨y, q, l1, l2, l3⟩ := ldK_sound (b := b) (o := o) k1 e2
          have hl := l3 w (e3 w (fun _ _ _ => rfl) S.hold)
          rw [hbase] at hl l2
          obtain ⟨hcall, hC⟩ := inlK_sound hg.1 hg.2.1 S (args := y :: args) (us := q :: us) (RepL_cons.2 ⟨q, us, rfl, l2, hargs⟩) l1
          exact ⟨f, _, callMethod_ok (fun n => method_val hc.2 he _ n w hl) hcall, hC⟩
        · cases hp
      · exact k.elim
  | (n, .call t e f) :: l, hg, name, h, hh, m0, w0, fx, m, bk, st, a, w, S, r, ur, args, us, K, hr, hargs, k => by
    unfold hniL at hh
    cases hb : (n == name) with
    | false => rw [hb] at hh; exact hniL_ok l hg hh S hr hargs k
    | true =>
      rw [hb] at hh
      cases hh
      split at k
      · rename_i t' v
        obtain ⟨hc, k2⟩ := cond_true' k
        clear k
        simp only [Bool.and_eq_true] at hc
        have e1 := beq_eq hc.1.1
        subst e1
        obtain ⟨x, e2, hx⟩ := hr
        subst e2
        have hp := hc.1.2
        unfold Base.isPtrTo at hp
        split at hp
        · rename_i e' he
          have e3 := beq_eq hp
          subst e3
          have k' : Cfg.ptK st v fun cs off => Cfg.ldK { toBase := c.toBase, lv := fun _ => ([], [], []), rows := [] } e' cs off fun y => Cfg.callK { toBase := c.toBase, lv := fun _ => ([], [], []), rows := [] } { env := fun _ => .bot, hp := st.hp } f (y :: args) K := by
            cases v <;> exact k2
          have S' := Sat.onBase (c' := { toBase := c.toBase, lv := fun _ => ([], [], []), rows := [] }) (c := c) rfl S
          obtain ⟨cs, off, b, o, vs, k1, e1, e2, e3⟩ := ptK_sound S' hx k'
          subst e1
          obtain ⟨y, q, l1, l2, l3⟩ := ldK_sound (b := b) (o := o) k1 e2
          have hl := l3 w (e3 w (fun _ _ _ => rfl) S.hold)
          obtain ⟨hcall, hC⟩ := call_any (c := c) (c0 := { toBase := c.toBase, lv := fun _ => ([], [], []), rows := [] }) rfl S (args := y :: args) (us := q :: us) (RepL_cons.2 ⟨q, us, rfl, l2, hargs⟩) l1
          exact ⟨f, _, callMethod_ok (fun n => method_val hc.2 he _ n w hl) hcall, hC⟩
        · cases hp
      · exact k.elim
end

theorem HanOK.ofLists {c : Cfg} (l : List (FuncId × Han)) (li : List (String × HanI)) (h1 : c.han = hanL c.toBase l) (h2 : c.hni = hniL c.toBase li) (hg : hanGood c.toBase l) (hgi : hniGood c.toBase li) : HanOK c :=
  ⟨fun {f h} e => (by rw [h1] at e; exact fun {_ _ _ _ _ _ _ _} S {_ _ _} ha k => hanL_ok l hg e S ha k), fun {f h} e => (by rw [h2] at e; exact fun {_ _ _ _ _ _ _ _} S {_ _ _ _ _} hr ha k => hniL_ok li hgi e S hr ha k)⟩
end Go.Proofs.YtgeefhjlfdidmaaGreatDoor.V


/- Sets of whole numbers as runs: plain facts. No program in sight. -/
namespace Go.Proofs.YtgeefhjlfdidmaaGreatDoor.V
set_option linter.unusedVariables false
set_option linter.unusedSimpArgs false

abbrev Lim : Int := 1099511627776
abbrev Runs := List (Int × Int)

/-- A number is in one of the runs. -/
def mem (s : Runs) (n : Int) : Prop := ∃ r ∈ s, r.1 ≤ n ∧ n ≤ r.2

instance (s : Runs) (n : Int) : Decidable (mem s n) := inferInstanceAs (Decidable (∃ r ∈ s, r.1 ≤ n ∧ n ≤ r.2))

def SaneFrom : Int → Runs → Prop
  | _, [] => True
  | last, r :: s => r.1 ≤ r.2 ∧ last + 2 ≤ r.1 ∧ r.2 ≤ Lim ∧ SaneFrom r.2 s

def decSane : (last : Int) → (s : Runs) → Decidable (SaneFrom last s)
  | _, [] => isTrue trivial
  | last, r :: s => match decSane r.2 s with
    | isTrue h => if h1 : r.1 ≤ r.2 ∧ last + 2 ≤ r.1 ∧ r.2 ≤ Lim then isTrue ⟨h1.1, h1.2.1, h1.2.2, h⟩ else isFalse fun k => h1 ⟨k.1, k.2.1, k.2.2.1⟩
    | isFalse h => isFalse fun k => h k.2.2.2

instance (last : Int) (s : Runs) : Decidable (SaneFrom last s) := decSane last s

/-- Is it a set? -/
def Sane (s : Runs) : Prop := SaneFrom (-1099511627778) s
instance (s : Runs) : Decidable (Sane s) := inferInstanceAs (Decidable (SaneFrom _ s))

theorem SaneFrom.mono : ∀ {s : Runs} {a b : Int}, SaneFrom a s → b ≤ a → SaneFrom b s
  | [], _, _, _, _ => trivial
  | r :: s, a, b, h, k => ⟨h.1, by have := h.2.1; omega, h.2.2.1, h.2.2.2⟩

theorem SaneFrom.lt : ∀ {s : Runs} {a : Int}, SaneFrom a s → ∀ r ∈ s, a + 2 ≤ r.1 ∧ r.1 ≤ r.2 ∧ r.2 ≤ Lim
  | [], _, _, r, hr => by cases hr
  | q :: s, a, h, r, hr => by
    rcases List.mem_cons.1 hr with e | e
    · subst e; exact ⟨h.2.1, h.1, h.2.2.1⟩
    · have := SaneFrom.lt h.2.2.2 r e
      have := h.1; have := h.2.1
      omega

theorem Sane.bounds {s : Runs} (h : Sane s) : ∀ r ∈ s, -Lim ≤ r.1 ∧ r.1 ≤ r.2 ∧ r.2 ≤ Lim := fun r hr => by
  have := SaneFrom.lt h r hr
  unfold Lim at *
  omega

theorem SaneFrom.get : ∀ {s : Runs} {a : Int}, SaneFrom a s → ∀ (i j : Nat) (r q : Int × Int), s[i]? = some r → s[j]? = some q → i < j → r.2 + 2 ≤ q.1
  | [], _, _, i, _, _, _, hi, _, _ => by simp at hi
  | x :: s, a, h, 0, j + 1, r, q, hi, hj, _ => by
    simp at hi hj
    subst hi
    exact (SaneFrom.lt h.2.2.2 q (List.mem_of_getElem? hj)).1
  | x :: s, a, h, i + 1, j + 1, r, q, hi, hj, hl => SaneFrom.get h.2.2.2 i j r q (by simpa using hi) (by simpa using hj) (by omega)
  | x :: s, a, h, i, 0, r, q, hi, hj, hl => by omega

theorem SaneFrom.mem_gt {s : Runs} {a n : Int} (h : SaneFrom a s) (k : mem s n) : a + 2 ≤ n := by
  obtain ⟨r, hr, h1, h2⟩ := k
  have := SaneFrom.lt h r hr
  omega

theorem mem_nil {n : Int} : ¬ mem [] n := fun ⟨r, hr, _⟩ => by cases hr
theorem mem_cons {r : Int × Int} {s : Runs} {n : Int} : mem (r :: s) n ↔ (r.1 ≤ n ∧ n ≤ r.2) ∨ mem s n := by
  constructor
  · rintro ⟨q, hq, h⟩
    rcases List.mem_cons.1 hq with e | e
    · subst e; exact .inl h
    · exact .inr ⟨q, e, h⟩
  · rintro (h | ⟨q, hq, h⟩)
    · exact ⟨r, List.mem_cons_self .., h⟩
    · exact ⟨q, List.mem_cons_of_mem _ hq, h⟩
theorem mem_append {s t : Runs} {n : Int} : mem (s ++ t) n ↔ mem s n ∨ mem t n := by
  constructor
  · rintro ⟨q, hq, h⟩
    rcases List.mem_append.1 hq with e | e
    · exact .inl ⟨q, e, h⟩
    · exact .inr ⟨q, e, h⟩
  · rintro (⟨q, hq, h⟩ | ⟨q, hq, h⟩)
    · exact ⟨q, List.mem_append_left _ hq, h⟩
    · exact ⟨q, List.mem_append_right _ hq, h⟩

/-- Two sets with the same members are one. -/
theorem sane_ext : ∀ {s t : Runs} {a b : Int}, SaneFrom a s → SaneFrom b t → (∀ n, mem s n ↔ mem t n) → s = t
  | [], [], _, _, _, _, _ => rfl
  | [], r :: t, _, _, _, h, k => (mem_nil ((k r.1).2 (mem_cons.2 (.inl ⟨Int.le_refl _, h.1⟩)))).elim
  | r :: s, [], _, _, h, _, k => (mem_nil ((k r.1).1 (mem_cons.2 (.inl ⟨Int.le_refl _, h.1⟩)))).elim
  | r :: s, q :: t, a, b, h, h', k => by
    have hs := fun n (hn : mem s n) => SaneFrom.mem_gt h.2.2.2 hn
    have ht := fun n (hn : mem t n) => SaneFrom.mem_gt h'.2.2.2 hn
    have hr := h.1
    have hq := h'.1
    have e1 : r.1 = q.1 := by
      rcases mem_cons.1 ((k r.1).1 (mem_cons.2 (.inl ⟨Int.le_refl _, hr⟩))) with x | x
      · rcases mem_cons.1 ((k q.1).2 (mem_cons.2 (.inl ⟨Int.le_refl _, hq⟩))) with y | y
        · omega
        · have := hs _ y; omega
      · have := ht _ x
        rcases mem_cons.1 ((k q.1).2 (mem_cons.2 (.inl ⟨Int.le_refl _, hq⟩))) with y | y
        · omega
        · have := hs _ y; omega
    have e2 : r.2 = q.2 := by
      have a1 : ¬ r.2 < q.2 := fun hl => by
        rcases mem_cons.1 ((k (r.2 + 1)).2 (mem_cons.2 (.inl ⟨by omega, by omega⟩))) with x | x
        · omega
        · have := hs _ x; omega
      have a2 : ¬ q.2 < r.2 := fun hl => by
        rcases mem_cons.1 ((k (q.2 + 1)).1 (mem_cons.2 (.inl ⟨by omega, by omega⟩))) with x | x
        · omega
        · have := ht _ x; omega
      omega
    have e : r = q := Prod.ext e1 e2
    subst e
    refine congrArg (r :: ·) (sane_ext h.2.2.2 h'.2.2.2 fun n => ?_)
    constructor
    · intro hn
      rcases mem_cons.1 ((k n).1 (mem_cons.2 (.inr hn))) with x | x
      · have := hs _ hn; omega
      · exact x
    · intro hn
      rcases mem_cons.1 ((k n).2 (mem_cons.2 (.inr hn))) with x | x
      · have := ht _ hn; omega
      · exact x

theorem SaneFrom.append : ∀ {s : Runs} {a : Int} {r : Int × Int}, SaneFrom a s → r.1 ≤ r.2 → r.2 ≤ Lim → a + 2 ≤ r.1 → (∀ q ∈ s, q.2 + 2 ≤ r.1) → SaneFrom a (s ++ [r])
  | [], a, r, _, h1, h2, h3, _ => ⟨h1, h3, h2, trivial⟩
  | x :: s, a, r, h, h1, h2, h3, h4 => ⟨h.1, h.2.1, h.2.2.1, SaneFrom.append h.2.2.2 h1 h2 (h4 x (List.mem_cons_self ..)) fun q hq => h4 q (List.mem_cons_of_mem _ hq)⟩
end Go.Proofs.YtgeefhjlfdidmaaGreatDoor.V


/- Plain facts about the calendar: dates and their numbers lead to each other, in their order. No program in sight. -/
set_option linter.unusedVariables false
namespace Go.Proofs.YtgeefhjlfdidmaaGreatDoor.VCal

def Leap (y : Int) : Prop := y % 400 = 0 ∨ (y % 4 = 0 ∧ y % 100 ≠ 0)
instance (y : Int) : Decidable (Leap y) := by unfold Leap; exact inferInstance
def lens : Nat → Int
  | 1 => 31 | 2 => 28 | 3 => 31 | 4 => 30 | 5 => 31 | 6 => 30 | 7 => 31 | 8 => 31 | 9 => 30 | 10 => 31 | 11 => 30 | 12 => 31 | _ => 0
def mlen (y m : Int) : Int := if m < 1 then 0 else if m > 12 then 0 else if m = 2 then (if Leap y then 29 else 28) else lens m.toNat
def Valid (y m d : Int) : Prop := 0 ≤ y ∧ y ≤ 9999 ∧ 1 ≤ d ∧ d ≤ mlen y m
instance (y m d : Int) : Decidable (Valid y m d) := by unfold Valid; exact inferInstance
/-- The number of a day, years counted from March on. -/
def num (y m d : Int) : Int :=
  if m < 3 then 365 * (y - 1) + (y - 1) / 4 - (y - 1) / 100 + (y - 1) / 400 + (153 * (m + 9) + 2) / 5 + d + 59
  else 365 * y + y / 4 - y / 100 + y / 400 + (153 * (m - 3) + 2) / 5 + d + 59
/-- Days ahead of a year. -/
def start (y : Int) : Int := 365 * y + (y + 3) / 4 - (y + 99) / 100 + (y + 399) / 400
theorem months {m : Int} (h1 : 1 ≤ m) (h2 : m ≤ 12) : m = 1 ∨ m = 2 ∨ m = 3 ∨ m = 4 ∨ m = 5 ∨ m = 6 ∨ m = 7 ∨ m = 8 ∨ m = 9 ∨ m = 10 ∨ m = 11 ∨ m = 12 := by omega
theorem mlen_out {y m : Int} (h : ¬ (1 ≤ m ∧ m ≤ 12)) : mlen y m = 0 := by
  unfold mlen; split
  · rfl
  · split
    · rfl
    · omega
theorem valid_month {y m d : Int} (h : Valid y m d) : 1 ≤ m ∧ m ≤ 12 := by
  obtain ⟨_, _, h1, h2⟩ := h
  apply Classical.byContradiction
  intro hn
  rw [mlen_out hn] at h2
  omega
theorem mlen_1 (y : Int) : mlen y 1 = 31 := rfl
theorem mlen_2 (y : Int) : mlen y 2 = if Leap y then 29 else 28 := rfl
theorem mlen_3 (y : Int) : mlen y 3 = 31 := rfl
theorem mlen_4 (y : Int) : mlen y 4 = 30 := rfl
theorem mlen_5 (y : Int) : mlen y 5 = 31 := rfl
theorem mlen_6 (y : Int) : mlen y 6 = 30 := rfl
theorem mlen_7 (y : Int) : mlen y 7 = 31 := rfl
theorem mlen_8 (y : Int) : mlen y 8 = 31 := rfl
theorem mlen_9 (y : Int) : mlen y 9 = 30 := rfl
theorem mlen_10 (y : Int) : mlen y 10 = 31 := rfl
theorem mlen_11 (y : Int) : mlen y 11 = 30 := rfl
theorem mlen_12 (y : Int) : mlen y 12 = 31 := rfl
theorem mlen_pos {y m : Int} (h1 : 1 ≤ m) (h2 : m ≤ 12) : 28 ≤ mlen y m ∧ mlen y m ≤ 31 := by
  rcases months h1 h2 with rfl | rfl | rfl | rfl | rfl | rfl | rfl | rfl | rfl | rfl | rfl | rfl
  · rw [mlen_1]; omega
  · rw [mlen_2]; split <;> omega
  · rw [mlen_3]; omega
  · rw [mlen_4]; omega
  · rw [mlen_5]; omega
  · rw [mlen_6]; omega
  · rw [mlen_7]; omega
  · rw [mlen_8]; omega
  · rw [mlen_9]; omega
  · rw [mlen_10]; omega
  · rw [mlen_11]; omega
  · rw [mlen_12]; omega
/-- A month behind another. -/
theorem num_month {y m : Int} (h1 : 1 ≤ m) (h2 : m ≤ 11) : num y (m + 1) 1 = num y m 1 + mlen y m := by
  rcases months h1 (show m ≤ 12 by omega) with rfl | rfl | rfl | rfl | rfl | rfl | rfl | rfl | rfl | rfl | rfl | rfl
  · rw [mlen_1]; unfold num; rw [if_pos (by omega), if_pos (by omega)]; omega
  · rw [mlen_2]; unfold num; rw [if_neg (by omega), if_pos (by omega)]
    by_cases h : Leap y
    · rw [if_pos h]; unfold Leap at h; omega
    · rw [if_neg h]; unfold Leap at h; omega
  · rw [mlen_3]; unfold num; rw [if_neg (by omega), if_neg (by omega)]; omega
  · rw [mlen_4]; unfold num; rw [if_neg (by omega), if_neg (by omega)]; omega
  · rw [mlen_5]; unfold num; rw [if_neg (by omega), if_neg (by omega)]; omega
  · rw [mlen_6]; unfold num; rw [if_neg (by omega), if_neg (by omega)]; omega
  · rw [mlen_7]; unfold num; rw [if_neg (by omega), if_neg (by omega)]; omega
  · rw [mlen_8]; unfold num; rw [if_neg (by omega), if_neg (by omega)]; omega
  · rw [mlen_9]; unfold num; rw [if_neg (by omega), if_neg (by omega)]; omega
  · rw [mlen_10]; unfold num; rw [if_neg (by omega), if_neg (by omega)]; omega
  · rw [mlen_11]; unfold num; rw [if_neg (by omega), if_neg (by omega)]; omega
  · omega
theorem num_december (y : Int) : num (y + 1) 1 1 = num y 12 1 + 31 := by
  unfold num
  rw [if_pos (by omega), if_neg (by omega)]
  omega
theorem num_day (y m d : Int) : num y m d = num y m 1 + d - 1 := by
  unfold num; split <;> omega
/-- The days of four hundred years, counted from March on: the year of the four hundred in which a day is. -/
theorem of_year (c q r day : Int) (hc : 0 ≤ c ∧ c ≤ 3) (hq : 0 ≤ q ∧ q ≤ 24) (hr : 0 ≤ r ∧ r ≤ 3) (hd : 0 ≤ day ∧ day ≤ 365) (hl : day = 365 → r = 3 ∧ (q < 24 ∨ c = 3)) :
    let x := 36524 * c + 1461 * q + 365 * r + day
    (x - x / 1460 + x / 36524 - x / 146096) / 365 = 100 * c + 4 * q + r := by
  intro x
  have h1 : x / 36524 - x / 146096 = c := by
    show (36524 * c + 1461 * q + 365 * r + day) / 36524 - (36524 * c + 1461 * q + 365 * r + day) / 146096 = c
    by_cases hlast : c = 3 ∧ q = 24 ∧ r = 3 ∧ day = 365
    · obtain ⟨rfl, rfl, rfl, rfl⟩ := hlast; decide
    · have hb : 1461 * q + 365 * r + day ≤ 36523 := by omega
      have e1 : (36524 * c + 1461 * q + 365 * r + day) / 36524 = c := by omega
      have e2 : (36524 * c + 1461 * q + 365 * r + day) / 146096 = 0 := by omega
      omega
  have h2 : x / 1460 = 25 * c + q + (24 * c + q + 365 * r + day) / 1460 := by
    show (36524 * c + 1461 * q + 365 * r + day) / 1460 = _
    omega
  have h3 : x - x / 1460 + x / 36524 - x / 146096 = 365 * (100 * c + 4 * q + r) + (day - (24 * c + q + 365 * r + day) / 1460) := by
    have : x = 36524 * c + 1461 * q + 365 * r + day := rfl
    omega
  rw [h3]
  omega
theorem split_400 (x : Int) (h : 0 ≤ x ∧ x < 146097) : ∃ c q r day : Int, (0 ≤ c ∧ c ≤ 3) ∧ (0 ≤ q ∧ q ≤ 24) ∧ (0 ≤ r ∧ r ≤ 3) ∧ (0 ≤ day ∧ day ≤ 365) ∧ (day = 365 → r = 3 ∧ (q < 24 ∨ c = 3)) ∧ x = 36524 * c + 1461 * q + 365 * r + day := by
  obtain ⟨c, x1, hc, hx1, hxl, rfl⟩ : ∃ c x1 : Int, (0 ≤ c ∧ c ≤ 3) ∧ (0 ≤ x1 ∧ x1 ≤ 36524) ∧ (x1 = 36524 → c = 3) ∧ x = 36524 * c + x1 := by
    by_cases e : x = 146096
    · exact ⟨3, 36524, by omega, by omega, by omega, by omega⟩
    · exact ⟨x / 36524, x % 36524, by omega, by omega, by omega, by omega⟩
  obtain ⟨q, x2, hq, hx2, hxl2, rfl⟩ : ∃ q x2 : Int, (0 ≤ q ∧ q ≤ 24) ∧ (0 ≤ x2 ∧ x2 ≤ 1460) ∧ (x2 = 1460 → q < 24 ∨ c = 3) ∧ x1 = 1461 * q + x2 :=
    ⟨x1 / 1461, x1 % 1461, by omega, by omega, by omega, by omega⟩
  by_cases e : x2 = 1460
  · exact ⟨c, q, 3, 365, hc, hq, by omega, by omega, fun _ => ⟨rfl, hxl2 e⟩, by omega⟩
  · exact ⟨c, q, x2 / 365, x2 % 365, hc, hq, by omega, by omega, by omega, by omega⟩
/-- A number's date, as the program reckons it: era, year of the four hundred, day of the year from March on, month. -/
def dateOf (n : Int) : Int × Int × Int :=
  let era := (n - 60) / 146097
  let x := (n - 60) % 146097
  let o := (x - x / 1460 + x / 36524 - x / 146096) / 365
  let day := x - (o * 365 + o / 4 - o / 100)
  let k := (5 * day + 2) / 153
  let d := day - (153 * k + 2) / 5 + 1
  let y := era * 400 + o
  if day ≥ 306 then (y + 1, k - 9, d) else (y, k + 3, d)
theorem months_of_year (day : Int) (h : 0 ≤ day ∧ day ≤ 365) : ∃ k d : Int, (5 * day + 2) / 153 = k ∧ day - (153 * k + 2) / 5 + 1 = d ∧ 1 ≤ d ∧ (0 ≤ k ∧ k ≤ 11) ∧ (day ≥ 306 ↔ k ≥ 10) ∧
    ((k = 0 ∧ d ≤ 31) ∨ (k = 1 ∧ d ≤ 30) ∨ (k = 2 ∧ d ≤ 31) ∨ (k = 3 ∧ d ≤ 30) ∨ (k = 4 ∧ d ≤ 31) ∨ (k = 5 ∧ d ≤ 31) ∨ (k = 6 ∧ d ≤ 30) ∨ (k = 7 ∧ d ≤ 31) ∨ (k = 8 ∧ d ≤ 30) ∨ (k = 9 ∧ d ≤ 31) ∨ (k = 10 ∧ d ≤ 31) ∨ (k = 11 ∧ d ≤ 29 ∧ (d = 29 → day = 365))) := by
  refine ⟨_, _, rfl, rfl, ?_, ?_, ?_, ?_⟩
  · omega
  · omega
  · omega
  · obtain ⟨k, hk⟩ : ∃ k, k = (5 * day + 2) / 153 := ⟨_, rfl⟩
    have : 0 ≤ k ∧ k ≤ 11 := by omega
    rw [← hk]
    have : k = 0 ∨ k = 1 ∨ k = 2 ∨ k = 3 ∨ k = 4 ∨ k = 5 ∨ k = 6 ∨ k = 7 ∨ k = 8 ∨ k = 9 ∨ k = 10 ∨ k = 11 := by omega
    rcases this with rfl | rfl | rfl | rfl | rfl | rfl | rfl | rfl | rfl | rfl | rfl | rfl <;> omega
theorem of_divs (c q r : Int) (hc : 0 ≤ c ∧ c ≤ 3) (hq : 0 ≤ q ∧ q ≤ 24) (hr : 0 ≤ r ∧ r ≤ 3) : (100 * c + 4 * q + r) / 4 = 25 * c + q ∧ (100 * c + 4 * q + r) / 100 = c := by omega
theorem year_divs (era c q r y : Int) (hc : 0 ≤ c ∧ c ≤ 3) (hq : 0 ≤ q ∧ q ≤ 24) (hr : 0 ≤ r ∧ r ≤ 3) (hy : y = era * 400 + (100 * c + 4 * q + r)) : y / 4 = 100 * era + 25 * c + q ∧ y / 100 = 4 * era + c ∧ y / 400 = era := by omega
theorem leap_of (era c q y : Int) (hc : 0 ≤ c ∧ c ≤ 3) (hq : 0 ≤ q ∧ q ≤ 24) (hl : q < 24 ∨ c = 3) (hy : y = era * 400 + (100 * c + 4 * q + 3) + 1) : Leap y := by unfold Leap; omega
theorem num_of (era c q r k d y n : Int) (hc : 0 ≤ c ∧ c ≤ 3) (hq : 0 ≤ q ∧ q ≤ 24) (hr : 0 ≤ r ∧ r ≤ 3) (hy : y = era * 400 + (100 * c + 4 * q + r))
    (hn : n = 146097 * era + (36524 * c + 1461 * q + 365 * r + ((153 * k + 2) / 5 + d - 1)) + 60) : 365 * y + y / 4 - y / 100 + y / 400 + (153 * k + 2) / 5 + d + 59 = n := by
  obtain ⟨h1, h2, h3⟩ := year_divs era c q r y hc hq hr hy
  rw [h1, h2, h3]
  generalize (153 * k + 2) / 5 = z at *
  omega
/-- A NUMBER's DATE IS A DATE, AND ITS NUMBER LEADS BACK. -/
theorem date_num {n : Int} (h : 0 ≤ n ∧ n ≤ 3652424) : Valid (dateOf n).1 (dateOf n).2.1 (dateOf n).2.2 ∧ num (dateOf n).1 (dateOf n).2.1 (dateOf n).2.2 = n := by
  obtain ⟨c, q, r, day, hc, hq, hr, hd, hl, hx⟩ := split_400 ((n - 60) % 146097) (by omega)
  have ho := of_year c q r day hc hq hr hd hl
  simp only [← hx] at ho
  obtain ⟨k, d, hk, hdd, hd1, hk1, hki, hcase⟩ := months_of_year day hd
  have hera : -1 ≤ (n - 60) / 146097 ∧ (n - 60) / 146097 ≤ 24 := by omega
  have hn : n = 146097 * ((n - 60) / 146097) + (36524 * c + 1461 * q + 365 * r + day) + 60 := by omega
  obtain ⟨hv1, hv2⟩ := of_divs c q r hc hq hr
  have hday : (n - 60) % 146097 - ((100 * c + 4 * q + r) * 365 + (100 * c + 4 * q + r) / 4 - (100 * c + 4 * q + r) / 100) = day := by rw [hv1, hv2]; omega
  have e : dateOf n = if day ≥ 306 then ((n - 60) / 146097 * 400 + (100 * c + 4 * q + r) + 1, k - 9, d) else ((n - 60) / 146097 * 400 + (100 * c + 4 * q + r), k + 3, d) := by
    unfold dateOf
    simp only [ho, hday, hk, hdd]
  rw [e]
  generalize (n - 60) / 146097 = era at *
  clear e hx ho hday hv1 hv2 hk
  have hdk : day = (153 * k + 2) / 5 + d - 1 := by omega
  clear hdd
  have hn' : n = 146097 * era + (36524 * c + 1461 * q + 365 * r + ((153 * k + 2) / 5 + d - 1)) + 60 := by rw [← hdk]; exact hn
  by_cases hj : day ≥ 306
  · have hk10 := hki.mp hj
    rw [if_pos hj]
    have hm : (k = 10 ∧ d ≤ 31) ∨ (k = 11 ∧ d ≤ 29 ∧ (d = 29 → day = 365)) := by omega
    clear hcase hki
    constructor
    · refine ⟨?_, ?_, hd1, ?_⟩
      · show 0 ≤ era * 400 + (100 * c + 4 * q + r) + 1
        clear hn' hdk hm
        omega
      · show era * 400 + (100 * c + 4 * q + r) + 1 ≤ 9999
        clear hn' hdk hm
        omega
      · show d ≤ mlen (era * 400 + (100 * c + 4 * q + r) + 1) (k - 9)
        rcases hm with ⟨rfl, hm⟩ | ⟨rfl, hm, hm'⟩
        · show d ≤ mlen _ 1; rw [mlen_1]; exact hm
        · show d ≤ mlen _ 2; rw [mlen_2]
          by_cases hL : Leap (era * 400 + (100 * c + 4 * q + r) + 1)
          · rw [if_pos hL]; exact hm
          · rw [if_neg hL]
            have hne : d ≠ 29 := by
              intro z
              obtain ⟨z1, z2⟩ := hl (hm' z)
              subst z1
              exact hL (leap_of era c q _ hc hq z2 rfl)
            clear hn' hn hdk hm' hL hl
            omega
    · show num (era * 400 + (100 * c + 4 * q + r) + 1) (k - 9) d = n
      unfold num
      rw [if_pos (show k - 9 < 3 by clear hn' hn hdk hm; omega), show era * 400 + (100 * c + 4 * q + r) + 1 - 1 = era * 400 + (100 * c + 4 * q + r) by omega, show k - 9 + 9 = k by omega]
      exact num_of era c q r k d _ n hc hq hr rfl hn'
  · have hk10 : ¬ k ≥ 10 := fun z => hj (hki.mpr z)
    rw [if_neg hj]
    constructor
    · refine ⟨?_, ?_, hd1, ?_⟩
      · show 0 ≤ era * 400 + (100 * c + 4 * q + r)
        clear hn' hdk hcase hki hk10
        omega
      · show era * 400 + (100 * c + 4 * q + r) ≤ 9999
        clear hn' hdk hcase hki hk10
        omega
      · show d ≤ mlen (era * 400 + (100 * c + 4 * q + r)) (k + 3)
        clear hn' hn hdk hl hki
        rcases hcase with ⟨rfl, z⟩ | ⟨rfl, z⟩ | ⟨rfl, z⟩ | ⟨rfl, z⟩ | ⟨rfl, z⟩ | ⟨rfl, z⟩ | ⟨rfl, z⟩ | ⟨rfl, z⟩ | ⟨rfl, z⟩ | ⟨rfl, z⟩ | ⟨rfl, z⟩ | ⟨rfl, z, _⟩
        all_goals first | exact z | (exfalso; omega)
    · show num (era * 400 + (100 * c + 4 * q + r)) (k + 3) d = n
      unfold num
      rw [if_neg (show ¬ k + 3 < 3 by clear hn' hn hdk hcase; omega), show k + 3 - 3 = k by omega]
      exact num_of era c q r k d _ n hc hq hr rfl hn'
end Go.Proofs.YtgeefhjlfdidmaaGreatDoor.VCal


/- Plain facts about months and the units made of them: each unit is the days from its first month's first one up to the next unit's. No program in sight. -/
set_option linter.unusedVariables false
namespace Go.Proofs.YtgeefhjlfdidmaaGreatDoor.VCal

def mfirst (k : Int) : Int := num (k / 12) (k % 12 + 1) 1
def mon (n : Int) : Int := 12 * (dateOf n).1 + (dateOf n).2.1 - 1
theorem mfirst_succ {k : Int} (h : 0 ≤ k) : mfirst (k + 1) = mfirst k + mlen (k / 12) (k % 12 + 1) := by
  unfold mfirst
  by_cases e : k % 12 = 11
  · rw [show (k + 1) / 12 = k / 12 + 1 by omega, show (k + 1) % 12 + 1 = 1 by omega, e, num_december]
    rfl
  · rw [show (k + 1) / 12 = k / 12 by omega, show (k + 1) % 12 + 1 = k % 12 + 1 + 1 by omega, num_month (by omega) (by omega)]
theorem mfirst_step {k : Int} (h : 0 ≤ k) : mfirst k + 28 ≤ mfirst (k + 1) ∧ mfirst (k + 1) ≤ mfirst k + 31 := by
  rw [mfirst_succ h]
  have := mlen_pos (y := k / 12) (m := k % 12 + 1) (by omega) (by omega)
  omega
theorem mfirst_add {k : Int} (h : 0 ≤ k) (j : Nat) : mfirst k + 28 * j ≤ mfirst (k + j) := by
  induction j with
  | zero => simp
  | succ j ih =>
    have := mfirst_step (k := k + j) (by omega)
    rw [show k + ((j + 1 : Nat) : Int) = k + j + 1 by omega]
    omega
theorem mfirst_mono {a b : Int} (h : 0 ≤ a) (hab : a ≤ b) : mfirst a ≤ mfirst b := by
  have := mfirst_add h (b - a).toNat
  rw [show a + ((b - a).toNat : Int) = b by omega] at this
  omega
theorem mfirst_lt {a b : Int} (h : 0 ≤ a) (hab : a < b) : mfirst a + 28 ≤ mfirst b := by
  have := mfirst_add h (b - a).toNat
  rw [show a + ((b - a).toNat : Int) = b by omega] at this
  omega
theorem mfirst_0 : mfirst 0 = 0 := by decide
theorem mfirst_120000 : mfirst 120000 = 3652425 := by decide
theorem mon_spec {n : Int} (h : 0 ≤ n ∧ n ≤ 3652424) : (0 ≤ mon n ∧ mon n < 120000) ∧ mfirst (mon n) ≤ n ∧ n < mfirst (mon n + 1) := by
  obtain ⟨v, e⟩ := date_num h
  have hm := valid_month v
  obtain ⟨v0, v1, v2, v3⟩ := v
  have hd : (mon n) / 12 = (dateOf n).1 ∧ (mon n) % 12 + 1 = (dateOf n).2.1 := by unfold mon; omega
  have hp : 0 ≤ mon n ∧ mon n < 120000 := by unfold mon; omega
  have hf : mfirst (mon n) = num (dateOf n).1 (dateOf n).2.1 1 := by unfold mfirst; rw [hd.1, hd.2]
  have hs := mfirst_succ hp.1
  rw [hd.1, hd.2] at hs
  have := num_day (dateOf n).1 (dateOf n).2.1 (dateOf n).2.2
  exact ⟨hp, by omega, by omega⟩
theorem le_mon {n k : Int} (h : 0 ≤ n ∧ n ≤ 3652424) (hk : 0 ≤ k) : mfirst k ≤ n ↔ k ≤ mon n := by
  obtain ⟨h0, h1, h2⟩ := mon_spec h
  constructor
  · intro hl
    apply Classical.byContradiction
    intro hn
    have := mfirst_mono (a := mon n + 1) (b := k) (by omega) (by omega)
    omega
  · intro hl
    have := mfirst_mono hk hl
    omega
theorem mfirst_bounds {k : Int} (h : 0 ≤ k ∧ k < 120000) : 0 ≤ mfirst k ∧ mfirst k ≤ 3652424 := by
  have := mfirst_mono (a := 0) (b := k) (by omega) h.1
  have := mfirst_lt h.1 h.2
  rw [mfirst_0] at *
  rw [mfirst_120000] at *
  omega
theorem valid_first {k : Int} (h : 0 ≤ k ∧ k < 120000) : Valid (k / 12) (k % 12 + 1) 1 := by
  have := mlen_pos (y := k / 12) (m := k % 12 + 1) (by omega) (by omega)
  exact ⟨by omega, by omega, by omega, by omega⟩

/-- Kinds of units: how many months each, the first one's month, how many units. -/
def tab (kind : Int) : Option (Int × Int × Int) := if kind = 1 then some (1, 0, 120000) else if kind = 2 then some (3, 2, 40000) else if kind = 3 then some (12, 0, 10000) else if kind = 4 then some (120, 0, 1000) else if kind = 5 then some (1200, 0, 100) else none
theorem tab_cases {kind m f c : Int} (h : tab kind = some (m, f, c)) : (kind = 1 ∧ m = 1 ∧ f = 0 ∧ c = 120000) ∨ (kind = 2 ∧ m = 3 ∧ f = 2 ∧ c = 40000) ∨ (kind = 3 ∧ m = 12 ∧ f = 0 ∧ c = 10000) ∨ (kind = 4 ∧ m = 120 ∧ f = 0 ∧ c = 1000) ∨ (kind = 5 ∧ m = 1200 ∧ f = 0 ∧ c = 100) := by
  unfold tab at h
  repeat' (split at h)
  all_goals first | (simp at h; omega) | cases h
def ucount (kind : Int) : Int := if kind = 0 then 3652425 else match tab kind with | some (_, _, c) => c | none => 0
def ufirst (kind i : Int) : Int := if kind = 0 then i else match tab kind with | some (m, f, _) => mfirst (f + m * i) | none => 0
def ulast (kind i : Int) : Int := if i = ucount kind - 1 then 3652424 else ufirst kind (i + 1) - 1
/-- The unit in which a day is, if there is one. -/
def uof (kind day : Int) : Option Int := if 0 ≤ day ∧ day ≤ 3652424 then (if kind = 0 then some day else match tab kind with | some (m, f, _) => if mon day - f < 0 then none else some ((mon day - f) / m) | none => none) else none
theorem ucount_0 : ucount 0 = 3652425 := rfl
theorem ucount_pos (kind : Int) : 0 ≤ ucount kind ∧ ucount kind ≤ 3652425 := by
  unfold ucount
  split
  · omega
  · split
    · rename_i m f c h; have := tab_cases h; omega
    · omega
theorem tab_fit {kind m f c i : Int} (h : tab kind = some (m, f, c)) (h0 : 0 ≤ i) (h1 : i < c) : 0 ≤ f + m * i ∧ f + m * i < 120000 ∧ (i < c - 1 → f + m * (i + 1) < 120000) ∧ (i = c - 1 → 120000 ≤ f + m * (i + 1)) := by
  rcases tab_cases h with ⟨rfl, rfl, rfl, rfl⟩ | ⟨rfl, rfl, rfl, rfl⟩ | ⟨rfl, rfl, rfl, rfl⟩ | ⟨rfl, rfl, rfl, rfl⟩ | ⟨rfl, rfl, rfl, rfl⟩ <;> omega
theorem uof_some {kind day n : Int} : uof kind day = some n ↔ (0 ≤ n ∧ n < ucount kind ∧ ufirst kind n ≤ day ∧ day ≤ ulast kind n) := by
  unfold uof ulast
  by_cases h0 : kind = 0
  · subst h0
    have e : ∀ i, ufirst 0 i = i := fun i => rfl
    rw [ucount_0, e, e]
    simp only [if_true]
    by_cases hd : 0 ≤ day ∧ day ≤ 3652424
    · rw [if_pos hd]
      constructor
      · intro h; obtain rfl := Option.some.inj h; refine ⟨by omega, by omega, by omega, ?_⟩; split <;> omega
      · rintro ⟨a, b, c, d⟩; congr 1; split at d <;> omega
    · rw [if_neg hd]
      constructor
      · intro h; cases h
      · rintro ⟨a, b, c, d⟩; exfalso; split at d <;> omega
  · rw [if_neg h0]
    cases ht : tab kind with
    | none =>
      have hc : ucount kind = 0 := by unfold ucount; rw [if_neg h0, ht]
      constructor
      · intro h; split at h <;> cases h
      · rintro ⟨a, b, _⟩; omega
    | some t =>
      obtain ⟨m, f, c⟩ := t
      have hc : ucount kind = c := by unfold ucount; rw [if_neg h0, ht]
      have hu : ∀ i, ufirst kind i = mfirst (f + m * i) := by intro i; unfold ufirst; rw [if_neg h0, ht]
      have hm : 1 ≤ m ∧ 0 ≤ f := by have := tab_cases ht; omega
      rw [hc, hu, hu]
      by_cases hd : 0 ≤ day ∧ day ≤ 3652424
      · rw [if_pos hd]
        obtain ⟨hb, hl, hg⟩ := mon_spec hd
        constructor
        · intro h
          simp only at h
          split at h
          · cases h
          · rename_i hf
            obtain rfl := Option.some.inj h
            have q1 := Int.mul_ediv_self_le (x := mon day - f) (k := m) (by omega)
            have q2 := Int.lt_mul_ediv_self_add (x := mon day - f) (k := m) (by omega)
            have q0 := Int.ediv_nonneg (a := mon day - f) (b := m) (by omega) (by omega)
            generalize (mon day - f) / m = n at *
            have hn : n < c := by rcases tab_cases ht with ⟨_, rfl, rfl, rfl⟩ | ⟨_, rfl, rfl, rfl⟩ | ⟨_, rfl, rfl, rfl⟩ | ⟨_, rfl, rfl, rfl⟩ | ⟨_, rfl, rfl, rfl⟩ <;> omega
            refine ⟨q0, hn, (le_mon hd (by have := tab_fit ht q0 hn; omega)).mpr (by omega), ?_⟩
            split
            · omega
            · have hk := tab_fit ht q0 hn
              have : ¬ f + m * (n + 1) ≤ mon day := by rw [Int.mul_add, Int.mul_one]; omega
              have : ¬ mfirst (f + m * (n + 1)) ≤ day := fun z => this ((le_mon hd (by rw [Int.mul_add, Int.mul_one]; omega)).mp z)
              omega
        · rintro ⟨n0, n1, n2, n3⟩
          have hk := tab_fit ht n0 n1
          have a1 := (le_mon hd hk.1).mp n2
          have a2 : mon day < f + m * (n + 1) := by
            by_cases e : n = c - 1
            · have := hk.2.2.2 e; omega
            · rw [if_neg e] at n3
              have hp : 0 ≤ f + m * (n + 1) := by rw [Int.mul_add, Int.mul_one]; omega
              have : ¬ f + m * (n + 1) ≤ mon day := fun z => by have := (le_mon hd hp).mpr z; omega
              omega
          simp only
          have : 0 ≤ m * n := Int.mul_nonneg (by omega) n0
          rw [if_neg (by omega)]
          congr 1
          rw [Int.ediv_eq_iff_of_pos (by omega)]
          rw [Int.mul_add, Int.mul_one] at a2
          rw [Int.mul_comm] at this
          constructor
          · rw [Int.mul_comm]; omega
          · rw [Int.mul_comm n m]; omega
      · rw [if_neg hd]
        constructor
        · intro h; cases h
        · rintro ⟨n0, n1, n2, n3⟩
          exfalso
          have hk := tab_fit ht n0 n1
          have b := mfirst_bounds ⟨hk.1, hk.2.1⟩
          split at n3
          · omega
          · have b' := mfirst_bounds (k := f + m * (n + 1)) ⟨by rw [Int.mul_add, Int.mul_one]; omega, hk.2.2.1 (by omega)⟩
            omega
theorem unit_in {kind i : Int} (h0 : 0 ≤ i) (h1 : i < ucount kind) : 0 ≤ ufirst kind i ∧ ufirst kind i ≤ ulast kind i ∧ ulast kind i ≤ 3652424 := by
  unfold ulast
  by_cases hk : kind = 0
  · subst hk
    have e : ∀ i, ufirst 0 i = i := fun i => rfl
    rw [ucount_0] at h1 ⊢
    rw [e, e]
    split <;> omega
  · cases ht : tab kind with
    | none => have hc : ucount kind = 0 := by unfold ucount; rw [if_neg hk, ht]
              omega
    | some t =>
      obtain ⟨m, f, c⟩ := t
      have hc : ucount kind = c := by unfold ucount; rw [if_neg hk, ht]
      have hu : ∀ i, ufirst kind i = mfirst (f + m * i) := by intro i; unfold ufirst; rw [if_neg hk, ht]
      have hm : 1 ≤ m ∧ 0 ≤ f := by have := tab_cases ht; omega
      rw [hc] at h1 ⊢
      rw [hu, hu]
      have hf := tab_fit ht h0 h1
      have b := mfirst_bounds ⟨hf.1, hf.2.1⟩
      split
      · omega
      · have b' := mfirst_bounds (k := f + m * (i + 1)) ⟨by rw [Int.mul_add, Int.mul_one]; omega, hf.2.2.1 (by omega)⟩
        have := mfirst_lt (a := f + m * i) (b := f + m * (i + 1)) hf.1 (by rw [Int.mul_add, Int.mul_one]; omega)
        omega
end Go.Proofs.YtgeefhjlfdidmaaGreatDoor.VCal


/- Sets' first and last numbers, sets within bounds, leaves: plain facts. No program in sight. -/
namespace Go.Proofs.YtgeefhjlfdidmaaGreatDoor.V
set_option linter.unusedVariables false
set_option linter.unusedSimpArgs false

def loF (s : Runs) : Int := (s.getD 0 (0, 0)).1
def hiF (s : Runs) : Int := (s.getD (s.length - 1) (0, 0)).2

theorem hiF_get {s : Runs} (h : s ≠ []) : ∃ r, s[s.length - 1]? = some r ∧ hiF s = r.2 := by
  have hl : s.length - 1 < s.length := by have := List.length_pos_iff.2 h; omega
  refine ⟨_, List.getElem?_eq_getElem hl, ?_⟩
  unfold hiF
  rw [List.getD_eq_getElem?_getD, List.getElem?_eq_getElem hl]
  rfl

theorem loF_get {s : Runs} (h : s ≠ []) : ∃ r, s[0]? = some r ∧ loF s = r.1 := by
  cases s with
  | nil => exact absurd rfl h
  | cons r s => exact ⟨r, rfl, rfl⟩

theorem sane_le {s : Runs} (h : Sane s) {i j : Nat} {r q : Int × Int} (hi : s[i]? = some r) (hj : s[j]? = some q) (hl : i ≤ j) : r.1 ≤ q.1 ∧ r.2 ≤ q.2 := by
  rcases Nat.lt_or_eq_of_le hl with e | e
  · have := SaneFrom.get h i j r q hi hj e
    have h1 := (SaneFrom.lt h q (List.mem_of_getElem? hj)).2.1
    have h2 := (SaneFrom.lt h r (List.mem_of_getElem? hi)).2.1
    omega
  · subst e; rw [hi] at hj; cases hj; exact ⟨Int.le_refl _, Int.le_refl _⟩

/-- All of a set's numbers are from its first to its last one. -/
theorem mem_between {s : Runs} (h : Sane s) {n : Int} (hn : mem s n) : loF s ≤ n ∧ n ≤ hiF s := by
  obtain ⟨r, hr, h1, h2⟩ := hn
  obtain ⟨i, hi⟩ := List.getElem?_of_mem hr
  have hne : s ≠ [] := List.ne_nil_of_mem hr
  obtain ⟨a, ha, ea⟩ := loF_get hne
  obtain ⟨b, hb, eb⟩ := hiF_get hne
  have hl := (List.getElem?_eq_some_iff.1 hi).1
  have := sane_le h ha hi (Nat.zero_le _)
  have := sane_le h hi hb (by omega)
  omega

theorem mem_lo {s : Runs} (h : Sane s) (hne : s ≠ []) : mem s (loF s) := by
  obtain ⟨a, ha, ea⟩ := loF_get hne
  have hm := List.mem_of_getElem? ha
  have := (SaneFrom.lt h a hm).2.1
  exact ⟨a, hm, by omega, by omega⟩

theorem mem_hi {s : Runs} (h : Sane s) (hne : s ≠ []) : mem s (hiF s) := by
  obtain ⟨a, ha, ea⟩ := hiF_get hne
  have hm := List.mem_of_getElem? ha
  have := (SaneFrom.lt h a hm).2.1
  exact ⟨a, hm, by omega, by omega⟩

/-- What is within bounds. -/
def clipF (s : Runs) (lo hi : Int) : Runs := s.filterMap fun r => if max r.1 lo ≤ min r.2 hi then some (max r.1 lo, min r.2 hi) else none

theorem mem_clip {s : Runs} {lo hi n : Int} : mem (clipF s lo hi) n ↔ mem s n ∧ lo ≤ n ∧ n ≤ hi := by
  unfold clipF
  constructor
  · rintro ⟨r, hr, h1, h2⟩
    obtain ⟨q, hq, e⟩ := List.mem_filterMap.1 hr
    split at e
    · cases e
      dsimp only at h1 h2
      exact ⟨⟨q, hq, by omega, by omega⟩, by omega, by omega⟩
    · cases e
  · rintro ⟨⟨q, hq, h1, h2⟩, h3, h4⟩
    refine ⟨(max q.1 lo, min q.2 hi), List.mem_filterMap.2 ⟨q, hq, if_pos (by omega)⟩, ?_, ?_⟩ <;> dsimp only <;> omega

theorem clip_from : ∀ {s : Runs} {a b lo hi : Int}, SaneFrom a s → b ≤ a → SaneFrom b (clipF s lo hi)
  | [], _, _, _, _, _, _ => trivial
  | r :: s, a, b, lo, hi, h, hb => by
    have h1 := h.1
    have h2 := h.2.1
    have h3 := h.2.2.1
    unfold clipF
    rw [List.filterMap_cons]
    split
    · rename_i e
      exact clip_from h.2.2.2 (by omega)
    · rename_i q e
      split at e
      · cases e
        refine ⟨by assumption, by dsimp only; omega, by dsimp only; omega, clip_from h.2.2.2 (by dsimp only; omega)⟩
      · cases e

theorem sane_clip {s : Runs} {lo hi : Int} (h : Sane s) : Sane (clipF s lo hi) := clip_from h (Int.le_refl _)

theorem clip_length (s : Runs) (lo hi : Int) : (clipF s lo hi).length ≤ s.length := List.length_filterMap_le _ _

/-! ### Leaves -/

abbrev Leaf := Bool × Int × Runs × Runs

/-- A set of numbers up to one. -/
def Within (s : Runs) (most : Int) : Prop := Sane s ∧ (s = [] ∨ (0 ≤ loF s ∧ hiF s ≤ most))
instance (s : Runs) (m : Int) : Decidable (Within s m) := inferInstanceAs (Decidable (_ ∧ _))

theorem Within.bounds {s : Runs} {m : Int} (h : Within s m) {n : Int} (hn : mem s n) : 0 ≤ n ∧ n ≤ m := by
  have := mem_between h.1 hn
  rcases h.2 with e | e
  · subst e; exact (mem_nil hn).elim
  · omega

def LeafSane (f : Leaf) : Prop := if f.1 = true then f.2.1 = 0 ∧ Within f.2.2.1 3652424 ∧ Within f.2.2.2 3652424 else (0 ≤ f.2.1 ∧ f.2.1 ≤ 5) ∧ Within f.2.2.1 (VCal.ucount f.2.1 - 1) ∧ f.2.2.2 = []
instance (f : Leaf) : Decidable (LeafSane f) := by unfold LeafSane; exact inferInstance

abbrev Family := Option ((Int × Runs) ⊕ (Runs × Runs))

/-- A leaf's family. -/
def ofF (f : Leaf) : Family :=
  if ¬ LeafSane f ∨ f.2.2.1 = [] then none
  else if f.1 = false then some (.inl (f.2.1, f.2.2.1))
  else if f.2.2.2 = [] ∨ hiF f.2.2.2 < loF f.2.2.1 then none
  else some (.inr (clipF f.2.2.1 0 (hiF f.2.2.2), clipF f.2.2.2 (loF f.2.2.1) 3652424))

theorem of_units {f : Leaf} {u : Int} {s : Runs} (h : ofF f = some (.inl (u, s))) : f.1 = false ∧ LeafSane f ∧ u = f.2.1 ∧ s = f.2.2.1 ∧ s ≠ [] ∧ Within s (VCal.ucount u - 1) ∧ (0 ≤ u ∧ u ≤ 5) := by
  unfold ofF at h
  split at h
  · cases h
  · rename_i q
    rw [not_or, Decidable.not_not] at q
    split at h
    · rename_i e
      cases h
      have hs := q.1
      unfold LeafSane at hs
      rw [if_neg (by rw [e]; decide)] at hs
      exact ⟨e, q.1, rfl, rfl, q.2, hs.2.1, hs.1⟩
    · split at h <;> cases h

theorem of_span {f : Leaf} {a b : Runs} (h : ofF f = some (.inr (a, b))) : f.1 = true ∧ LeafSane f ∧ f.2.2.1 ≠ [] ∧ f.2.2.2 ≠ [] ∧ loF f.2.2.1 ≤ hiF f.2.2.2 ∧ Within f.2.2.1 3652424 ∧ Within f.2.2.2 3652424 ∧ a = clipF f.2.2.1 0 (hiF f.2.2.2) ∧ b = clipF f.2.2.2 (loF f.2.2.1) 3652424 := by
  unfold ofF at h
  split at h
  · cases h
  · rename_i q
    rw [not_or, Decidable.not_not] at q
    split at h
    · cases h
    · rename_i e
      split at h
      · cases h
      · rename_i e2
        cases h
        rw [not_or] at e2
        have hs := q.1
        have e1 : f.1 = true := by simpa using e
        unfold LeafSane at hs
        rw [if_pos e1] at hs
        exact ⟨e1, q.1, q.2, e2.1, by omega, hs.2.1, hs.2.2, rfl, rfl⟩

/-- The first start and the last end of a span that has pairs. -/
theorem span_ends {f : Leaf} {a b : Runs} (h : ofF f = some (.inr (a, b))) : Sane a ∧ Sane b ∧ a ≠ [] ∧ b ≠ [] ∧ loF a = loF f.2.2.1 ∧ hiF b = hiF f.2.2.2 := by
  obtain ⟨h1, h2, h3, h4, h5, h6, h7, rfl, rfl⟩ := of_span h
  have b1 := Within.bounds h6 (mem_lo h6.1 h3)
  have b2 := Within.bounds h7 (mem_hi h7.1 h4)
  have ma : mem (clipF f.2.2.1 0 (hiF f.2.2.2)) (loF f.2.2.1) := mem_clip.2 ⟨mem_lo h6.1 h3, b1.1, h5⟩
  have mb : mem (clipF f.2.2.2 (loF f.2.2.1) 3652424) (hiF f.2.2.2) := mem_clip.2 ⟨mem_hi h7.1 h4, h5, b2.2⟩
  have na : clipF f.2.2.1 0 (hiF f.2.2.2) ≠ [] := fun e => by rw [e] at ma; exact mem_nil ma
  have nb : clipF f.2.2.2 (loF f.2.2.1) 3652424 ≠ [] := fun e => by rw [e] at mb; exact mem_nil mb
  have sa := sane_clip (lo := 0) (hi := hiF f.2.2.2) h6.1
  have sb := sane_clip (lo := loF f.2.2.1) (hi := 3652424) h7.1
  refine ⟨sa, sb, na, nb, ?_, ?_⟩
  · have := mem_between sa ma
    have := mem_between h6.1 (mem_clip.1 (mem_lo sa na)).1
    omega
  · have := mem_between sb mb
    have := mem_between h7.1 (mem_clip.1 (mem_hi sb nb)).1
    omega

end Go.Proofs.YtgeefhjlfdidmaaGreatDoor.V


/- Masks of digits, of which some are hidden: plain facts. No program in sight. -/
namespace Go.Proofs.YtgeefhjlfdidmaaGreatDoor.V
set_option linter.unusedVariables false
set_option linter.unusedSimpArgs false

/-- A string's bytes. -/
def bl (s : ByteArray) : List Nat := s.data.toList.map UInt8.toNat

/-- A digit, or the sign of a hidden one. -/
def isM (c : Nat) : Bool := decide (48 ≤ c ∧ c ≤ 57) || decide (c = 88)

def saneM (l : List Nat) : Bool := !l.isEmpty && l.all isM && decide (l.length ≤ 4)

/-- The numbers with a digit behind those of a run. -/
def digs (lo d : Int) : Nat → Runs
  | 0 => []
  | k + 1 => digs lo d k ++ [((lo + k) * 10 + d, (lo + k) * 10 + d)]

def stepR (c : Nat) (r : Int × Int) : Runs := if c = 88 then [(r.1 * 10, r.2 * 10 + 9)] else digs r.1 ((c : Int) - 48) (r.2 - r.1 + 1).toNat

def stepS (c : Nat) (s : Runs) : Runs := s.flatMap (stepR c)

/-- The numbers that match. -/
def setL (l : List Nat) : Runs := l.foldl (fun s c => stepS c s) [(0, 0)]

/-- Has a number these digits, the last one first, and none beyond them? -/
def Mr : List Nat → Int → Prop
  | [], n => n = 0
  | c :: r, n => 0 ≤ n ∧ (c = 88 ∨ n % 10 + 48 = c) ∧ Mr r (n / 10)

def matchL (l : List Nat) (n : Int) : Prop := Mr l.reverse n

instance decMr : (l : List Nat) → (n : Int) → Decidable (Mr l n)
  | [], n => inferInstanceAs (Decidable (n = 0))
  | c :: r, n => by unfold Mr; exact @instDecidableAnd _ _ _ (@instDecidableAnd _ _ _ (decMr r _))

instance (l : List Nat) (n : Int) : Decidable (matchL l n) := decMr _ _

theorem isM_digit {c : Nat} (h : isM c = true) (k : c ≠ 88) : 48 ≤ c ∧ c ≤ 57 := by
  unfold isM at h
  simp only [Bool.or_eq_true, decide_eq_true_eq] at h
  omega

theorem digs_mem {lo d : Int} : ∀ {k : Nat} {q : Int × Int}, q ∈ digs lo d k ↔ ∃ j : Nat, j < k ∧ q = ((lo + j) * 10 + d, (lo + j) * 10 + d)
  | 0, q => by simp [digs]
  | k + 1, q => by
    simp only [digs, List.mem_append, List.mem_singleton]
    rw [digs_mem]
    constructor
    · rintro (⟨j, h1, h2⟩ | h)
      · exact ⟨j, by omega, h2⟩
      · exact ⟨k, by omega, h⟩
    · rintro ⟨j, h1, h2⟩
      by_cases e : j = k
      · subst e; exact .inr h2
      · exact .inl ⟨j, by omega, h2⟩

theorem digs_length (lo d : Int) : ∀ k : Nat, (digs lo d k).length = k
  | 0 => rfl
  | k + 1 => by simp [digs, digs_length lo d k]

theorem digs_sane {lo d b : Int} (h0 : 0 ≤ d) (hb : b + 2 ≤ lo * 10 + d) : ∀ {k : Nat}, (lo + k) * 10 + d ≤ Lim → SaneFrom b (digs lo d k)
  | 0, _ => trivial
  | k + 1, hL => by
    refine SaneFrom.append (digs_sane h0 hb (k := k) (by omega)) (Int.le_refl _) (by dsimp only; omega) (by dsimp only; omega) fun q hq => ?_
    obtain ⟨j, h1, h2⟩ := digs_mem.1 hq
    subst h2
    dsimp only
    omega

theorem mk_append : ∀ {x y : Runs} {b c : Int}, SaneFrom b x → SaneFrom c y → (∀ q ∈ x, q.2 ≤ c) → b ≤ c → SaneFrom b (x ++ y)
  | [], y, b, c, _, hy, _, h => hy.mono h
  | r :: x, y, b, c, hx, hy, hq, h => ⟨hx.1, hx.2.1, hx.2.2.1, mk_append hx.2.2.2 hy (fun q k => hq q (List.mem_cons_of_mem _ k)) (hq r (List.mem_cons_self ..))⟩

/-- Runs of numbers from 0 to a bound. -/
def Upto (B : Int) (s : Runs) : Prop := ∀ r ∈ s, 0 ≤ r.1 ∧ r.1 ≤ r.2 ∧ r.2 ≤ B

theorem stepR_spec {c : Nat} {r : Int × Int} {B b : Int} (hc : isM c = true) (hr : 0 ≤ r.1 ∧ r.1 ≤ r.2 ∧ r.2 ≤ B) (hB : B ≤ 1000000) (hb : b + 2 ≤ r.1 * 10) :
    SaneFrom b (stepR c r) ∧ Upto (B * 10 + 9) (stepR c r) ∧ (∀ q ∈ stepR c r, q.2 ≤ r.2 * 10 + 9) ∧ ∀ n, mem (stepR c r) n ↔ 0 ≤ n ∧ (c = 88 ∨ n % 10 + 48 = c) ∧ r.1 ≤ n / 10 ∧ n / 10 ≤ r.2 := by
  unfold stepR
  split
  · rename_i h
    refine ⟨⟨by dsimp only; omega, hb, by unfold Lim; dsimp only; omega, trivial⟩, fun q hq => ?_, fun q hq => ?_, fun n => ?_⟩
    · obtain rfl := List.mem_singleton.1 hq; dsimp only; omega
    · obtain rfl := List.mem_singleton.1 hq; exact Int.le_refl _
    · rw [mem_cons]
      dsimp only
      constructor
      · rintro (h1 | h1)
        · exact ⟨by omega, .inl h, by omega, by omega⟩
        · exact (mem_nil h1).elim
      · rintro ⟨h1, _, h3, h4⟩
        exact .inl ⟨by omega, by omega⟩
  · rename_i h
    have hd := isM_digit hc h
    refine ⟨digs_sane (by omega) (by omega) (by unfold Lim; omega), fun q hq => ?_, fun q hq => ?_, fun n => ?_⟩
    · obtain ⟨j, h1, h2⟩ := digs_mem.1 hq; subst h2; dsimp only; omega
    · obtain ⟨j, h1, h2⟩ := digs_mem.1 hq; subst h2; dsimp only; omega
    · constructor
      · rintro ⟨q, hq, h1, h2⟩
        obtain ⟨j, h3, h4⟩ := digs_mem.1 hq
        subst h4
        dsimp only at h1 h2
        exact ⟨by omega, .inr (by omega), by omega, by omega⟩
      · rintro ⟨h1, h2, h3, h4⟩
        refine ⟨_, digs_mem.2 ⟨(n / 10 - r.1).toNat, by omega, rfl⟩, ?_, ?_⟩ <;> dsimp only <;> omega

theorem stepS_spec {c : Nat} (hc : isM c = true) {B : Int} (hB : B ≤ 1000000) : ∀ {s : Runs} {a b : Int}, SaneFrom a s → Upto B s → b + 2 ≤ (a + 2) * 10 →
    SaneFrom b (stepS c s) ∧ Upto (B * 10 + 9) (stepS c s) ∧ ∀ n, mem (stepS c s) n ↔ 0 ≤ n ∧ (c = 88 ∨ n % 10 + 48 = c) ∧ mem s (n / 10)
  | [], a, b, _, _, _ => ⟨trivial, (fun q hq => by cases hq), fun n => ⟨fun h => (mem_nil h).elim, fun h => (mem_nil h.2.2).elim⟩⟩
  | r :: s, a, b, h, hu, hb => by
    have hr := hu r (List.mem_cons_self ..)
    have h1 := h.2.1
    obtain ⟨s1, s2, s3, s4⟩ := stepR_spec (b := b) hc hr hB (by omega)
    obtain ⟨t1, t2, t3⟩ := stepS_spec (b := r.2 * 10 + 9) hc hB h.2.2.2 (fun q hq => hu q (List.mem_cons_of_mem _ hq)) (by omega)
    have e : stepS c (r :: s) = stepR c r ++ stepS c s := by simp [stepS]
    rw [e]
    refine ⟨mk_append s1 t1 s3 (by omega), fun q hq => ?_, fun n => ?_⟩
    · rcases List.mem_append.1 hq with k | k
      · exact s2 q k
      · exact t2 q k
    · rw [mem_append, s4 n, t3 n, mem_cons]
      constructor
      · rintro (⟨k1, k2, k3⟩ | ⟨k1, k2, k3⟩)
        · exact ⟨k1, k2, .inl k3⟩
        · exact ⟨k1, k2, .inr k3⟩
      · rintro ⟨k1, k2, k3 | k3⟩
        · exact .inl ⟨k1, k2, k3⟩
        · exact .inr ⟨k1, k2, k3⟩

theorem setL_snoc (l : List Nat) (c : Nat) : setL (l ++ [c]) = stepS c (setL l) := by simp [setL]

theorem matchL_snoc (l : List Nat) (c : Nat) (n : Int) : matchL (l ++ [c]) n ↔ 0 ≤ n ∧ (c = 88 ∨ n % 10 + 48 = c) ∧ matchL l (n / 10) := by
  unfold matchL
  rw [List.reverse_append]
  exact Iff.rfl

theorem setL_spec : ∀ (k : Nat) (l : List Nat), l.length = k → k ≤ 6 → l.all isM = true → SaneFrom (-2) (setL l) ∧ Upto ((10 : Int) ^ k - 1) (setL l) ∧ ∀ n, mem (setL l) n ↔ matchL l n
  | 0, l, hl, _, _ => by
    obtain rfl := List.eq_nil_of_length_eq_zero hl
    refine ⟨⟨Int.le_refl _, by decide, by decide, trivial⟩, fun q hq => ?_, fun n => ?_⟩
    · obtain rfl := List.mem_singleton.1 hq; decide
    · show mem [(0, 0)] n ↔ n = 0
      rw [mem_cons]
      constructor
      · rintro (h | h)
        · dsimp only at h; omega
        · exact (mem_nil h).elim
      · rintro rfl; exact .inl ⟨by decide, by decide⟩
  | k + 1, l, hl, hk, ha => by
    have hne : l ≠ [] := fun e => by subst e; cases hl
    obtain ⟨l', c, rfl⟩ : ∃ l' c, l = l' ++ [c] := ⟨l.dropLast, l.getLast hne, (List.dropLast_concat_getLast hne).symm⟩
    have hl' : l'.length = k := by simpa using hl
    simp only [List.all_append, List.all_cons, List.all_nil, Bool.and_true, Bool.and_eq_true] at ha
    obtain ⟨h1, h2, h3⟩ := setL_spec k l' hl' (by omega) ha.1
    have hB : (10 : Int) ^ k - 1 ≤ 1000000 := by
      have : k = 0 ∨ k = 1 ∨ k = 2 ∨ k = 3 ∨ k = 4 ∨ k = 5 := by omega
      rcases this with rfl | rfl | rfl | rfl | rfl | rfl <;> decide
    obtain ⟨g1, g2, g3⟩ := stepS_spec (b := -2) ha.2 hB h1 h2 (by decide)
    rw [setL_snoc]
    refine ⟨g1, fun q hq => ?_, fun n => ?_⟩
    · have := g2 q hq
      rw [Int.pow_succ]
      omega
    · rw [g3 n, h3, matchL_snoc]

theorem setL_sane {l : List Nat} (h : saneM l = true) : Sane (setL l) ∧ Upto 9999 (setL l) ∧ ∀ n, mem (setL l) n ↔ matchL l n := by
  unfold saneM at h
  simp only [Bool.and_eq_true, decide_eq_true_eq] at h
  obtain ⟨h1, h2, h3⟩ := setL_spec l.length l rfl (by omega) h.1.2
  refine ⟨h1.mono (by decide), fun q hq => ?_, h3⟩
  have := h2 q hq
  have hk : l.length = 0 ∨ l.length = 1 ∨ l.length = 2 ∨ l.length = 3 ∨ l.length = 4 := by omega
  rcases hk with e | e | e | e | e <;> rw [e] at this <;> refine ⟨this.1, this.2.1, Int.le_trans this.2.2 (by decide)⟩

/-- Runs that are apart are no more than the numbers that they lie among. -/
theorem sane_spread : ∀ {s : Runs} {a B : Int}, SaneFrom a s → (∀ r ∈ s, r.2 ≤ B) → a ≤ B → (s.length : Int) ≤ B - a
  | [], a, B, _, _, h => by simp; omega
  | r :: s, a, B, h, k, hl => by
    have h1 := h.1
    have h2 := h.2.1
    have h3 := k r (List.mem_cons_self ..)
    have := sane_spread h.2.2.2 (fun q hq => k q (List.mem_cons_of_mem _ hq)) h3
    simp only [List.length_cons]
    omega

theorem setL_length {k : Nat} {l : List Nat} (hl : l.length = k) (hk : k ≤ 6) (ha : l.all isM = true) : (setL l).length ≤ 1000002 := by
  obtain ⟨h1, h2, _⟩ := setL_spec k l hl hk ha
  have := sane_spread (B := 1000000) h1 (fun r hr => by
    have q := (h2 r hr).2.2
    have : k = 0 ∨ k = 1 ∨ k = 2 ∨ k = 3 ∨ k = 4 ∨ k = 5 ∨ k = 6 := by omega
    rcases this with rfl | rfl | rfl | rfl | rfl | rfl | rfl <;> omega) (by decide)
  omega
end Go.Proofs.YtgeefhjlfdidmaaGreatDoor.V


/- Swaps within a part of a list, and what is sorted: plain laws. No condition of its own. -/
namespace Go.Proofs.YtgeefhjlfdidmaaGreatDoor.V
open Go
set_option linter.unusedVariables false
set_option linter.unusedSimpArgs false

abbrev PR := Int × Int

/-- The element at a place. -/
def el (xs : List PR) (k : Nat) : PR := xs.getD k (0, 0)
/-- Its key. -/
def ky (xs : List PR) (k : Nat) : Int := (el xs k).1
/-- Two places' elements change places. -/
def sw (xs : List PR) (i j : Nat) : List PR := (xs.set i (el xs j)).set j (el xs i)

theorem sw_length (xs : List PR) (i j : Nat) : (sw xs i j).length = xs.length := by simp [sw]

theorem el_get {xs : List PR} {k : Nat} (h : k < xs.length) : xs[k]? = some (el xs k) := by
  unfold el
  rw [List.getD_eq_getElem?_getD, List.getElem?_eq_getElem h]
  rfl

theorem el_set {xs : List PR} {i k : Nat} {v : PR} (h : i < xs.length) : el (xs.set i v) k = if k = i then v else el xs k := by
  unfold el
  rw [List.getD_eq_getElem?_getD, List.getD_eq_getElem?_getD, List.getElem?_set]
  by_cases e : i = k
  · subst e; simp [h]
  · rw [if_neg e, if_neg (Ne.symm e)]

theorem el_sw {xs : List PR} {i j k : Nat} (hi : i < xs.length) (hj : j < xs.length) : el (sw xs i j) k = if k = j then el xs i else if k = i then el xs j else el xs k := by
  unfold sw
  rw [el_set (by simpa using hj), el_set hi]

theorem ky_sw {xs : List PR} {i j k : Nat} (hi : i < xs.length) (hj : j < xs.length) : ky (sw xs i j) k = if k = j then ky xs i else if k = i then ky xs j else ky xs k := by
  unfold ky
  rw [el_sw hi hj]
  split
  · rfl
  · split <;> rfl

theorem sw_perm {xs : List PR} {i j : Nat} (hi : i < xs.length) (hj : j < xs.length) : (sw xs i j).Perm xs := by
  rw [List.perm_iff_count]
  intro a
  have h1 := List.count_set (a := el xs j) (b := a) hi
  have h2 := List.count_set (a := el xs i) (b := a) (l := xs.set i (el xs j)) (i := j) (by simpa using hj)
  unfold sw
  rw [h2, h1]
  have e1 : xs[i] = el xs i := by have := el_get hi; rw [List.getElem?_eq_getElem hi] at this; exact Option.some.inj this
  have e2 : (xs.set i (el xs j))[j]'(by simpa using hj) = if j = i then el xs j else el xs j := by
    rw [List.getElem_set]
    have e3 : xs[j] = el xs j := by have := el_get hj; rw [List.getElem?_eq_getElem hj] at this; exact Option.some.inj this
    by_cases e : i = j
    · simp [e]
    · rw [if_neg e, e3]; simp
  rw [e2, e1, ite_self]
  have hpos : el xs i = a → 1 ≤ xs.count a := fun e => by
    subst e
    exact List.count_pos_iff.2 (List.mem_of_getElem? (el_get hi))
  by_cases p : el xs i = a <;> by_cases q : el xs j = a
  · have := hpos p; simp [p, q]; omega
  · have := hpos p; simp [p, q]; omega
  · simp [p, q]
  · simp [p, q]

/-- Swaps within a part. -/
inductive Sw (a b : Nat) (xs : List PR) : List PR → Prop
  | refl : Sw a b xs xs
  | step {ys : List PR} (i j : Nat) : Sw a b xs ys → a ≤ i → i < b → a ≤ j → j < b → b ≤ xs.length → Sw a b xs (sw ys i j)

section
variable {a b : Nat} {xs ys zs : List PR}

theorem Sw.length (h : Sw a b xs ys) : ys.length = xs.length := by
  induction h with
  | refl => rfl
  | step i j h _ _ _ _ _ ih => rw [sw_length, ih]

theorem Sw.perm (h : Sw a b xs ys) : ys.Perm xs := by
  induction h with
  | refl => exact List.Perm.refl _
  | step i j h h1 h2 h3 h4 h5 ih => exact (sw_perm (by rw [h.length]; omega) (by rw [h.length]; omega)).trans ih

theorem Sw.outside (h : Sw a b xs ys) {k : Nat} (hk : k < a ∨ b ≤ k) : el ys k = el xs k := by
  induction h with
  | refl => rfl
  | step i j h h1 h2 h3 h4 h5 ih =>
    rw [el_sw (by rw [h.length]; omega) (by rw [h.length]; omega), if_neg (by omega), if_neg (by omega), ih]

theorem Sw.each (h : Sw a b xs ys) {P : PR → Prop} (hP : ∀ k, a ≤ k → k < b → P (el xs k)) : ∀ k, a ≤ k → k < b → P (el ys k) := by
  induction h with
  | refl => exact hP
  | step i j h h1 h2 h3 h4 h5 ih =>
    intro k hk hk2
    rw [el_sw (by rw [h.length]; omega) (by rw [h.length]; omega)]
    split
    · exact ih i h1 h2
    · split
      · exact ih j h3 h4
      · exact ih k hk hk2

theorem Sw.trans (h : Sw a b xs ys) (k : Sw a b ys zs) : Sw a b xs zs := by
  induction k with
  | refl => exact h
  | step i j k h1 h2 h3 h4 h5 ih => exact .step i j ih h1 h2 h3 h4 (by rw [← h.length]; exact h5)

theorem Sw.wider {a' b' : Nat} (h : Sw a b xs ys) (ha : a' ≤ a) (hb : b ≤ b') (hl : b' ≤ xs.length) : Sw a' b' xs ys := by
  induction h with
  | refl => exact .refl
  | step i j h h1 h2 h3 h4 h5 ih => exact .step i j ih (by omega) (by omega) (by omega) (by omega) hl
end

/-- Keys rise, from one place up to another. -/
def Srt (xs : List PR) (a b : Nat) : Prop := ∀ i j, a ≤ i → i < j → j < b → ky xs i ≤ ky xs j

theorem Srt.small {xs : List PR} {a b : Nat} (h : b ≤ a + 1) : Srt xs a b := fun i j h1 h2 h3 => by omega

theorem Srt.of_step {xs : List PR} {a b : Nat} (h : ∀ i, a ≤ i → i + 1 < b → ky xs i ≤ ky xs (i + 1)) : Srt xs a b := by
  intro i j h1 h2 h3
  induction j with
  | zero => omega
  | succ j ih =>
    rcases Nat.lt_or_eq_of_le (Nat.le_of_lt_succ h2) with q | q
    · exact Int.le_trans (ih q (by omega)) (h j (by omega) h3)
    · subst q; exact h i h1 h3

/-- A heap below a node: children from a node on are no greater than their parents. -/
def Heap (xs : List PR) (first hi lo : Nat) : Prop := ∀ p c, lo ≤ p → (c = 2 * p + 1 ∨ c = 2 * p + 2) → c < hi → ky xs (first + c) ≤ ky xs (first + p)

theorem Heap.top {xs : List PR} {first hi : Nat} (h : Heap xs first hi 0) : ∀ c, c < hi → ky xs (first + c) ≤ ky xs first := by
  intro c
  induction c using Nat.strongRecOn with
  | _ c ih =>
    intro hc
    cases c with
    | zero => exact Int.le_refl _
    | succ c =>
      have h1 := ih (c / 2) (by omega) (by omega)
      have h2 := h (c / 2) (c + 1) (Nat.zero_le _) (by omega) hc
      exact Int.le_trans h2 h1

/-- A window: what is left and right of it is sorted, and apart from what is in it. -/
structure Win (a b lo hi : Nat) (ys : List PR) : Prop where
  s1 : Srt ys a lo
  s2 : Srt ys hi b
  c1 : ∀ p q, a ≤ p → p < lo → lo ≤ q → q < b → ky ys p ≤ ky ys q
  c2 : ∀ p q, a ≤ p → p < hi → hi ≤ q → q < b → ky ys p ≤ ky ys q

section
variable {a b lo hi : Nat} {ys zs : List PR}

theorem Win.start : Win a b a b ys := ⟨Srt.small (by omega), Srt.small (by omega), fun p q h1 h2 => by omega, fun p q h1 h2 h3 h4 => by omega⟩

theorem Win.done (h : Win a b lo hi ys) (hs : Srt ys lo hi) : Srt ys a b := by
  intro p q h1 h2 h3
  by_cases e1 : q < lo
  · exact h.s1 p q h1 h2 e1
  · by_cases e2 : p < lo
    · exact h.c1 p q h1 e2 (by omega) h3
    · by_cases e3 : q < hi
      · exact hs p q (by omega) h2 e3
      · by_cases e4 : p < hi
        · exact h.c2 p q h1 e4 (by omega) h3
        · exact h.s2 p q (by omega) h2 h3

theorem Sw.kyout (h : Sw a b ys zs) {k : Nat} (hk : k < a ∨ b ≤ k) : ky zs k = ky ys k := by unfold ky; rw [h.outside hk]

theorem Win.sw (h : Win a b lo hi ys) (hs : Sw lo hi ys zs) (h0 : a ≤ lo) (h1 : hi ≤ b) : Win a b lo hi zs := by
  refine ⟨fun p q q1 q2 q3 => ?_, fun p q q1 q2 q3 => ?_, fun p q q1 q2 q3 q4 => ?_, fun p q q1 q2 q3 q4 => ?_⟩
  · rw [hs.kyout (.inl (by omega)), hs.kyout (.inl (by omega))]; exact h.s1 p q q1 q2 q3
  · rw [hs.kyout (.inr (by omega)), hs.kyout (.inr (by omega))]; exact h.s2 p q q1 q2 q3
  · rw [hs.kyout (.inl (by omega))]
    by_cases e : q < hi
    · exact hs.each (P := fun x => ky ys p ≤ x.1) (fun k k1 k2 => h.c1 p k q1 q2 k1 (by omega)) q q3 e
    · rw [hs.kyout (.inr (by omega))]; exact h.c1 p q q1 q2 q3 q4
  · rw [hs.kyout (k := q) (.inr (by omega))]
    by_cases e : p < lo
    · rw [hs.kyout (.inl e)]; exact h.c2 p q q1 q2 q3 q4
    · exact hs.each (P := fun x => x.1 ≤ ky ys q) (fun k k1 k2 => h.c2 k q (by omega) k2 q3 q4) p (by omega) q2

theorem Win.cutL {m : Nat} (h : Win a b lo hi ys) (h0 : a ≤ lo) (h1 : lo ≤ m) (h2 : m ≤ hi) (hs : Srt ys lo m) (hc : ∀ p q, lo ≤ p → p < m → m ≤ q → q < hi → ky ys p ≤ ky ys q) (hb : hi ≤ b) : Win a b m hi ys := by
  refine ⟨fun p q q1 q2 q3 => ?_, h.s2, fun p q q1 q2 q3 q4 => ?_, h.c2⟩
  · by_cases e : q < lo
    · exact h.s1 p q q1 q2 e
    · by_cases e2 : p < lo
      · exact h.c1 p q q1 e2 (by omega) (by omega)
      · exact hs p q (by omega) q2 q3
  · by_cases e : p < lo
    · exact h.c1 p q q1 e (by omega) q4
    · by_cases e2 : q < hi
      · exact hc p q (by omega) q2 q3 e2
      · exact h.c2 p q q1 (by omega) (by omega) q4

theorem Win.cutR {m : Nat} (h : Win a b lo hi ys) (h0 : a ≤ lo) (h1 : lo ≤ m) (h2 : m ≤ hi) (hs : Srt ys m hi) (hc : ∀ p q, lo ≤ p → p < m → m ≤ q → q < hi → ky ys p ≤ ky ys q) (hb : hi ≤ b) : Win a b lo m ys := by
  refine ⟨h.s1, fun p q q1 q2 q3 => ?_, h.c1, fun p q q1 q2 q3 q4 => ?_⟩
  · by_cases e : q < hi
    · exact hs p q q1 q2 e
    · by_cases e2 : p < hi
      · exact h.c2 p q (by omega) e2 (by omega) q3
      · exact h.s2 p q (by omega) q2 q3
  · by_cases e : q < hi
    · by_cases e2 : p < lo
      · exact h.c1 p q q1 e2 (by omega) q4
      · exact hc p q (by omega) q2 q3 e
    · exact h.c2 p q q1 (by omega) (by omega) q4

/-- What lies behind a place is no less than what lies ahead of the part. -/
def Pre (xs : List PR) (a b : Nat) : Prop := a = 0 ∨ ∀ k, a ≤ k → k < b → ky xs (a - 1) ≤ ky xs k

theorem Pre.sw {xs : List PR} (h : Pre xs a b) (hs : Sw a b xs ys) : Pre ys a b := by
  rcases h with h | h
  · exact .inl h
  · by_cases e : a = 0
    · exact .inl e
    · refine .inr ?_
      rw [hs.kyout (.inl (by omega))]
      exact hs.each (P := fun x => ky xs (a - 1) ≤ x.1) h
end
end Go.Proofs.YtgeefhjlfdidmaaGreatDoor.V


/- The numbers of a set, and the pairs of a family, as lists: plain facts. No program in sight. -/
namespace Go.Proofs.YtgeefhjlfdidmaaGreatDoor.V
set_option linter.unusedVariables false
set_option linter.unusedSimpArgs false

/-- The numbers from one to another. -/
def upTo (lo hi : Int) : List Int := (List.range (hi + 1 - lo).toNat).map fun (k : Nat) => lo + (k : Int)

theorem upTo_nil {lo hi : Int} (h : hi < lo) : upTo lo hi = [] := by
  unfold upTo
  rw [show (hi + 1 - lo).toNat = 0 by omega]; rfl

theorem upTo_cons {lo hi : Int} (h : lo ≤ hi) : upTo lo hi = lo :: upTo (lo + 1) hi := by
  unfold upTo
  rw [show (hi + 1 - lo).toNat = (hi + 1 - (lo + 1)).toNat + 1 by omega, List.range_succ_eq_map, List.map_cons, List.map_map]
  congr 1
  · simp
  · apply List.map_congr_left
    intro k _
    simp only [Function.comp]
    omega

theorem mem_upTo {lo hi n : Int} : n ∈ upTo lo hi ↔ lo ≤ n ∧ n ≤ hi := by
  unfold upTo
  rw [List.mem_map]
  constructor
  · rintro ⟨k, hk, rfl⟩
    have := List.mem_range.1 hk
    omega
  · intro h
    exact ⟨(n - lo).toNat, List.mem_range.2 (by omega), by omega⟩

def nums (s : Runs) : List Int := s.flatMap fun r => upTo r.1 r.2

theorem mem_nums {s : Runs} {n : Int} : n ∈ nums s ↔ mem s n := by
  unfold nums mem
  rw [List.mem_flatMap]
  constructor
  · rintro ⟨r, hr, h⟩; exact ⟨r, hr, mem_upTo.1 h⟩
  · rintro ⟨r, hr, h⟩; exact ⟨r, hr, mem_upTo.2 h⟩

/-- A family's pairs, all of them. -/
def unitPairs (u : Int) (s : Runs) : List (Int × Int) := (nums s).map fun i => (VCal.ufirst u i, VCal.ulast u i)
def spanPairs (a b : Runs) : List (Int × Int) := (nums a).flatMap fun s => b.flatMap fun r => (upTo (max r.1 s) r.2).map fun t => (s, t)

def famPairs : Family → List (Int × Int)
  | none => []
  | some (.inl (u, s)) => unitPairs u s
  | some (.inr (a, b)) => spanPairs a b

/-- The first pairs. -/
def pairsF (f : Leaf) (n : Int) : List (Int × Int) := (famPairs (ofF f)).take (min n 1000).toNat

/-- A list that is being filled from another one, up to a length: 'rest' is what is still to come. -/
def Fill (all : List (Int × Int)) (n : Int) (out rest : List (Int × Int)) : Prop := (out.length : Int) ≤ max n 0 ∧ ∃ q, all = out ++ q ∧ ((out.length : Int) < n → q = rest)

theorem Fill.done {all out : List (Int × Int)} {n : Int} (h : Fill all n out []) : out = all.take n.toNat := by
  obtain ⟨h1, q, h2, h3⟩ := h
  by_cases hl : (out.length : Int) < n
  · have := h3 hl
    subst this
    rw [h2, List.append_nil, List.take_of_length_le (by omega)]
  · rw [h2, List.take_append_of_le_length (by omega), List.take_of_length_le (by omega)]

theorem Fill.step {all out rest : List (Int × Int)} {n : Int} {p : Int × Int} (h : Fill all n out (p :: rest)) (hl : (out.length : Int) < n) : Fill all n (out ++ [p]) rest := by
  obtain ⟨h1, q, h2, h3⟩ := h
  have := h3 hl
  subst this
  exact ⟨by simp; omega, rest, by rw [h2]; simp, fun _ => rfl⟩

theorem Fill.full {all out rest rest' : List (Int × Int)} {n : Int} (h : Fill all n out rest) (hl : ¬ (out.length : Int) < n) : Fill all n out rest' := by
  obtain ⟨h1, q, h2, h3⟩ := h
  exact ⟨h1, q, h2, fun k => absurd k hl⟩

theorem Fill.start {all : List (Int × Int)} {n : Int} : Fill all n [] all := ⟨by simp; omega, all, rfl, fun _ => rfl⟩

def CoversF (f : Leaf) (d : Int) : Prop := match ofF f with
  | none => False
  | some (.inl (u, s)) => ∃ i, VCal.uof u d = some i ∧ mem s i
  | some (.inr (a, b)) => loF a ≤ d ∧ d ≤ hiF b

end Go.Proofs.YtgeefhjlfdidmaaGreatDoor.V


/- The set of what is in some runs: plain facts. No program in sight. -/
namespace Go.Proofs.YtgeefhjlfdidmaaGreatDoor.V
set_option linter.unusedVariables false
set_option linter.unusedSimpArgs false

/-- A run, laid into a set. -/
def putS : Runs → Int × Int → Runs
  | [], x => [x]
  | r :: s, x => if r.2 + 1 < x.1 then r :: putS s x else if x.2 + 1 < r.1 then x :: r :: s else putS s (min x.1 r.1, max x.2 r.2)

def clampR (r : Int × Int) : Int × Int := (max r.1 (-Lim), min r.2 Lim)

def putF (s : Runs) (r : Int × Int) : Runs := if (clampR r).1 ≤ (clampR r).2 then putS s (clampR r) else s

/-- The set of what is in some runs. -/
def makeF (l : Runs) : Runs := l.foldl putF []

/-- In some run, within the bounds. -/
def memL (l : Runs) (n : Int) : Prop := -Lim ≤ n ∧ n ≤ Lim ∧ mem l n

theorem putS_mem : ∀ {s : Runs} {a : Int} {x : Int × Int}, SaneFrom a s → x.1 ≤ x.2 → ∀ n, mem (putS s x) n ↔ (x.1 ≤ n ∧ n ≤ x.2) ∨ mem s n
  | [], a, x, _, _, n => mem_cons
  | r :: s, a, x, h, hx, n => by
    unfold putS
    have h1 := h.1
    split
    · rw [mem_cons, putS_mem h.2.2.2 hx n, mem_cons]
      constructor
      · rintro (q | q | q)
        · exact .inr (.inl q)
        · exact .inl q
        · exact .inr (.inr q)
      · rintro (q | q | q)
        · exact .inr (.inl q)
        · exact .inl q
        · exact .inr (.inr q)
    · split
      · exact mem_cons
      · rw [putS_mem h.2.2.2 (by dsimp only; omega) n, mem_cons]
        dsimp only
        constructor
        · rintro (q | q)
          · by_cases e : x.1 ≤ n ∧ n ≤ x.2
            · exact .inl e
            · exact .inr (.inl (by omega))
          · exact .inr (.inr q)
        · rintro (q | q | q)
          · exact .inl (by omega)
          · exact .inl (by omega)
          · exact .inr q

theorem putS_sane : ∀ {s : Runs} {a : Int} {x : Int × Int}, SaneFrom a s → x.1 ≤ x.2 → a + 2 ≤ x.1 → x.2 ≤ Lim → SaneFrom a (putS s x)
  | [], a, x, _, h1, h2, h3 => ⟨h1, h2, h3, trivial⟩
  | r :: s, a, x, h, h1, h2, h3 => by
    unfold putS
    have q1 := h.1
    have q2 := h.2.1
    have q3 := h.2.2.1
    split
    · exact ⟨q1, q2, q3, putS_sane h.2.2.2 h1 (by omega) h3⟩
    · split
      · exact ⟨h1, h2, h3, q1, by omega, q3, h.2.2.2⟩
      · exact putS_sane (h.2.2.2.mono (by omega)) (by dsimp only; omega) (by dsimp only; omega) (by dsimp only; omega)

theorem putS_length : ∀ (s : Runs) (x : Int × Int), (putS s x).length ≤ s.length + 1
  | [], x => Nat.le_refl _
  | r :: s, x => by
    unfold putS
    split
    · have := putS_length s x; simp only [List.length_cons]; omega
    · split
      · simp
      · have := putS_length s (min x.1 r.1, max x.2 r.2); simp only [List.length_cons]; omega

theorem clamp_in {r : Int × Int} {n : Int} : (clampR r).1 ≤ n ∧ n ≤ (clampR r).2 ↔ -Lim ≤ n ∧ n ≤ Lim ∧ r.1 ≤ n ∧ n ≤ r.2 := by
  unfold clampR Lim
  dsimp only
  omega

theorem putF_spec {s : Runs} {r : Int × Int} (h : Sane s) : Sane (putF s r) ∧ ∀ n, mem (putF s r) n ↔ mem s n ∨ memL [r] n := by
  have hr : ∀ n, memL [r] n ↔ (clampR r).1 ≤ n ∧ n ≤ (clampR r).2 := fun n => by
    rw [clamp_in]
    unfold memL
    rw [mem_cons]
    constructor
    · rintro ⟨h1, h2, h3 | h3⟩
      · exact ⟨h1, h2, h3⟩
      · exact (mem_nil h3).elim
    · rintro ⟨h1, h2, h3⟩
      exact ⟨h1, h2, .inl h3⟩
  unfold putF
  split
  · rename_i hc
    refine ⟨putS_sane h hc (by unfold clampR Lim; dsimp only; omega) (by unfold clampR Lim; dsimp only; omega), fun n => ?_⟩
    rw [putS_mem h hc n, hr n]
    exact Or.comm
  · rename_i hc
    refine ⟨h, fun n => ⟨.inl, fun q => q.elim id fun q => ?_⟩⟩
    have := (hr n).1 q
    omega

theorem foldl_put : ∀ (l : Runs) {s : Runs}, Sane s → Sane (l.foldl putF s) ∧ ∀ n, mem (l.foldl putF s) n ↔ mem s n ∨ memL l n
  | [], s, h => ⟨h, fun n => ⟨.inl, fun q => q.elim id fun q => (mem_nil q.2.2).elim⟩⟩
  | r :: l, s, h => by
    have h1 := putF_spec (r := r) h
    have h2 := foldl_put l h1.1
    refine ⟨h2.1, fun n => ?_⟩
    rw [List.foldl_cons, h2.2 n, h1.2 n]
    unfold memL
    rw [mem_cons, mem_cons]
    constructor
    · rintro ((q | ⟨q1, q2, q3⟩) | ⟨q1, q2, q3⟩)
      · exact .inl q
      · exact .inr ⟨q1, q2, q3.imp id fun q => (mem_nil q).elim⟩
      · exact .inr ⟨q1, q2, .inr q3⟩
    · rintro (q | ⟨q1, q2, q3 | q3⟩)
      · exact .inl (.inl q)
      · exact .inl (.inr ⟨q1, q2, .inl q3⟩)
      · exact .inr ⟨q1, q2, q3⟩

theorem sane_nil' : Sane [] := trivial
theorem make_sane (l : Runs) : Sane (makeF l) := (foldl_put l sane_nil').1

theorem mem_make {l : Runs} {n : Int} : mem (makeF l) n ↔ memL l n := by
  unfold makeF
  rw [(foldl_put l (s := []) sane_nil').2 n]
  exact ⟨fun h => h.elim (fun q => (mem_nil q).elim) id, .inr⟩

theorem make_of {l s : Runs} (h : Sane s) (k : ∀ n, mem s n ↔ memL l n) : s = makeF l := sane_ext h (make_sane l) fun n => by rw [k n, mem_make]

theorem mem_lim {s : Runs} (h : Sane s) {n : Int} (k : mem s n) : -Lim ≤ n ∧ n ≤ Lim := by
  obtain ⟨r, hr, h1, h2⟩ := k
  have := Sane.bounds h r hr
  omega

theorem make_self {s : Runs} (h : Sane s) : makeF s = s := (make_of h fun n => ⟨fun q => ⟨(mem_lim h q).1, (mem_lim h q).2, q⟩, fun q => q.2.2⟩).symm

theorem foldl_length : ∀ (l : Runs) (s : Runs), (l.foldl putF s).length ≤ s.length + l.length
  | [], s => by simp
  | r :: l, s => by
    have := foldl_length l (putF s r)
    have h : (putF s r).length ≤ s.length + 1 := by
      unfold putF
      split
      · exact putS_length _ _
      · omega
    simp only [List.foldl_cons, List.length_cons]
    omega

theorem make_length (l : Runs) : (makeF l).length ≤ l.length := by
  have := foldl_length l []
  unfold makeF
  simpa using this

/-! ### Runs in the order of where they begin, one after the other -/

theorem sane_last : ∀ {f : Runs} {a : Int} {q v : Int × Int}, SaneFrom a (f ++ [q]) → v.1 = q.1 → v.1 ≤ v.2 → v.2 ≤ Lim → SaneFrom a (f ++ [v])
  | [], a, q, v, h, h1, h2, h3 => ⟨h2, by rw [h1]; exact h.2.1, h3, trivial⟩
  | x :: f, a, q, v, h, h1, h2, h3 => ⟨h.1, h.2.1, h.2.2.1, sane_last h.2.2.2 h1 h2 h3⟩

theorem set_last (f : Runs) (q v : Int × Int) : (f ++ [q]).set f.length v = f ++ [v] := by
  rw [List.set_append_right _ _ (Nat.le_refl _)]
  simp
end Go.Proofs.YtgeefhjlfdidmaaGreatDoor.V


/- Families' pairs, in their order: plain facts. No program in sight. -/
namespace Go.Proofs.YtgeefhjlfdidmaaGreatDoor.V
set_option linter.unusedVariables false
set_option linter.unusedSimpArgs false

/-- A pair is ahead of another. -/
def ltP (p q : Int × Int) : Prop := p.1 < q.1 ∨ (p.1 = q.1 ∧ p.2 < q.2)
instance (p q : Int × Int) : Decidable (ltP p q) := inferInstanceAs (Decidable (_ ∨ _))

theorem upTo_sorted (lo hi : Int) : (upTo lo hi).Pairwise (· < ·) := by
  unfold upTo
  rw [List.pairwise_map]
  exact List.pairwise_lt_range.imp fun h => by omega

theorem sane_sorted : ∀ {s : Runs} {a : Int}, SaneFrom a s → s.Pairwise (fun r q => r.2 < q.1)
  | [], _, _ => .nil
  | r :: s, a, h => .cons (fun q hq => by have := (SaneFrom.lt h.2.2.2 q hq).1; omega) (sane_sorted h.2.2.2)

theorem nums_sorted {s : Runs} (h : Sane s) : (nums s).Pairwise (· < ·) := by
  unfold nums
  rw [List.pairwise_flatMap]
  refine ⟨fun r _ => upTo_sorted _ _, (sane_sorted h).imp fun hr x hx y hy => ?_⟩
  have := mem_upTo.1 hx
  have := mem_upTo.1 hy
  omega

end Go.Proofs.YtgeefhjlfdidmaaGreatDoor.V


/- Code that may end in a panic: its condition, and that it is so. No condition of its own. -/
namespace Go.Proofs.YtgeefhjlfdidmaaGreatDoor.V
open Go Go.RowKit
set_option linter.unusedVariables false
set_option linter.unusedSimpArgs false

/-- What is panicked with: a number of a type of its own. -/
def pnV (t : Nat) (n : Int) : List PanicEntry := [{ v := .iface t (.int .i64 n), recovered := false }]

/-- THE CONTRACT of a function that panics with a number of which Q is so: nothing that was there has turned. -/
def FnP (B : Base) (f : FuncId) (args : List EV) (Q : Nat → Int → Prop) : Prop :=
  Callable B.P f ∧ ∀ m w us, TabOK B.tab m → Holds w m → RepL B.P m args pureJ us → Calls B.P f us.toArray w (fun e w' => ∃ t n, Q t n ∧ e = .panicked (pnV t n) ∧ Below w.heap.size w w')

def callPP (B : Base) (f : FuncId) (args : List EV) (KP : Nat → Int → Prop) : Prop := ∃ Q, FnP B f args Q ∧ ∀ t n, Q t n → KP t n

/-- An operation that panics: what with. -/
def Cfg.panOf (c : Cfg) (pn : List FuncId) (o : Oper) (st : St) : Option ((Nat → Int → Prop) → Prop) :=
  match o.guard, o.op with
  | none, .panic x => some fun KP => match c.ev st x with
    | .ifc t (.p (.int .i64) n) => KP t n
    | _ => False
  | none, .call { callee := .value (.func f), args, .. } => cond (pn.contains f) (some fun KP => cond (noIds (EV.idsL (args.toList.map (c.ev st)))) (callPP c.toBase f (args.toList.map (c.ev st)) KP) False) none
  | _, _ => none

def Cfg.seqE (c : Cfg) (pn : List FuncId) (W : List Nat) (ops : Array Oper) : List Oper → St → (St → Prop) → (St → Nat → Int → Prop) → Prop
  | [], st, K, _ => K st
  | o :: r, st, K, KP => match c.panOf pn o st with
    | some p => p (KP st)
    | none => c.opK W ops o st fun st => c.seqE pn W ops r st K KP

/-- Every order that a region may draw. -/
def Cfg.allE (c : Cfg) (pn : List FuncId) (W : List Nat) (ops : Array Oper) : Nat → Array Bool → St → (St → Prop) → (St → Nat → Int → Prop) → Prop
  | 0, listed, st, K, _ => match Region.ready .any ops listed with
    | [] => K st
    | _ => False
  | n + 1, listed, st, K, KP => match Region.ready .any ops listed with
    | [] => False
    | rs => allK (fun i => match ops[i]? with
      | some o => match c.panOf pn o st with
        | some p => p (KP st)
        | none => c.opK W ops o st fun st => c.allE pn W ops n (listed.setIfInBounds i true) st K KP
      | none => False) rs

/-- THE CONDITION, panics told. -/
def Cfg.vcE (c : Cfg) (pn : List FuncId) : Code → List Nat → St → (Ex → St → Prop) → (St → Nat → Int → Prop) → Prop
  | .skip, _, st, K, _ => K .normal st
  | .ret, _, st, K, _ => K .ret st
  | .exit id, _, st, K, _ => K (.exit id) st
  | .region _ ops draw, W, st, K, KP => cond draw (cond (c.drawOKn ops) (c.allE pn W ops ops.size (Array.replicate ops.size false) st (K .normal) KP) False) (c.seqE pn W ops ops.toList st (K .normal) KP)
  | .seq a b, W, st, K, KP => c.vcE pn a W st (fun e st => match e with
    | .normal => c.vcE pn b W st K KP
    | .ret => K .ret st
    | .exit id => K (.exit id) st) KP
  | .cond x a b, W, st, K, KP => match c.ev st x with
    | .p .bool z => cond z (c.vcE pn a W st K KP) (c.vcE pn b W st K KP)
    | _ => False
  | .block id b, W, st, K, KP => c.vcE pn b W st (fun e st => match e with
    | .normal => K .normal st
    | .ret => K .ret st
    | .exit j => cond (Nat.beq j id) (K .normal st) (K (.exit j) st)) KP
  | .scope b, W, st, K, KP => c.vcE pn b W st K KP
  | .loop b, W, st, K, _ => c.vc (.loop b) W st K
  | _, _, _, _, _ => False

/-- Where code leaves off, panics told. -/
def PostE (c : Cfg) (m0 : Mem) (w0 : World) (fx : Fx) (K : Ex → St → Prop) (KP : St → Nat → Int → Prop) : Exit → Act → World → Prop
  | .panic ch, a, w => ∃ st t n, KP st t n ∧ ch = pnV t n ∧ ∃ m bk, Sat c m0 w0 fx m bk st a w
  | e, a, w => Post c m0 w0 fx K e a w

section
variable {c : Cfg} {m0 : Mem} {w0 : World} {fx : Fx} {pn : List FuncId} {K : Ex → St → Prop} {KP : St → Nat → Int → Prop} {ops : Array Oper}

theorem pan_sound {m : Mem} {bk : List Cn} {st : St} {a : Act} {w : World} (S : Sat c m0 w0 fx m bk st a w) {o : Oper} {p : (Nat → Int → Prop) → Prop} (h : c.panOf pn o st = some p) (k : p (KP st)) {next : Act → World → Prop} : OpWp c.P ops o a w next (PostE c m0 w0 fx K KP) := by
  obtain ⟨dst, op, type, pos, after, guard⟩ := o
  unfold Cfg.panOf at h
  dsimp only at h
  split at h
  · rename_i x
    cases h
    have hx := ev_sound S x
    split at k
    · rename_i t n he
      rw [he] at hx
      obtain ⟨u, e1, e2⟩ := hx
      have e2 : u = .int .i64 n := e2
      subst e2
      refine .inl ⟨rfl, ?_⟩
      unfold Oper.wp
      rw [show (execOp a.eval ⟨dst, .panic x, type, pos, after, none⟩).run c.P w = .halt (.panic (.iface t (.int .i64 n))) w by
        simp only [execOp, Sem.run_bind, e1]; rfl, Oper.upon_panic]
      exact ⟨st, t, n, k, rfl, m, bk, S⟩
    · exact k.elim
  · rename_i f args ats
    have h' : ∃ q, cond (pn.contains f) (some q) none = some p ∧ q = fun KP => cond (noIds (EV.idsL (args.toList.map (c.ev st)))) (callPP c.toBase f (args.toList.map (c.ev st)) KP) False := ⟨_, h, rfl⟩
    obtain ⟨q, h, hq⟩ := h'
    cases hc : pn.contains f with
    | false => rw [hc] at h; cases h
    | true =>
      rw [hc] at h
      cases h
      subst hq
      obtain ⟨hb, Q, ⟨hcl, hF⟩, hQ⟩ := cond_true' k
      have hn : EV.idsL (args.toList.map (c.ev st)) = [] := by
        unfold noIds at hb
        split at hb
        · assumption
        · cases hb
      have hargs := RepL_noIds (JJ' := pureJ) _ hn (evs_sound S args.toList)
      refine .inl ⟨rfl, ?_⟩
      unfold Oper.wp
      rw [show (execOp a.eval ⟨dst, .call { callee := .value (.func f), args, argTypes := ats }, type, pos, after, none⟩).run c.P w = .ok (.enter f (args.toList.map a.eval).toArray) w by
        simp only [execOp, resolve, Sem.run_bind, Act.eval, Deferred.ofValue, Sem.run_pure, Result.andThen_ok, invoke]
        rw [run_callFunc hcl]
        simp [map_toArray], Oper.upon_enter]
      refine (hF m w _ S.tab S.hold hargs).mono fun e w' ⟨t, n, h1, h2, h3⟩ => ?_
      subst h2
      exact ⟨st, t, n, hQ t n h1, rfl, m, bk, S.world (Mem.ext_refl _ m) (S.holds_below h3) h3⟩
  · cases h

theorem seqE_sound (H : HanOK c) : ∀ (l : List Oper) {m : Mem} {bk : List Cn} {st : St} {a : Act} {w : World}, Sat c m0 w0 fx m bk st a w → c.seqE pn fx.W ops l st (K .normal) KP → wpList c.P ops (PostE c m0 w0 fx K KP) l a w
  | [], m, bk, st, a, w, S, k => ⟨st, m, bk, k, S⟩
  | o :: r, m, bk, st, a, w, S, k => by
    unfold wpList
    have key : OpWp c.P ops o a w (fun a' w' => wpList c.P ops (PostE c m0 w0 fx K KP) r a' w') (PostE c m0 w0 fx K KP) := by
      unfold Cfg.seqE at k
      split at k
      · rename_i p hp
        exact pan_sound S hp k
      · exact op_sound H S (o := o) k (fun a' w' ⟨st', m', bk', k', S'⟩ _ => seqE_sound H r S' k')
    rcases key with ⟨h1, h2⟩ | ⟨h1, h2⟩
    · rw [if_pos h1]; exact .inl h2
    · rw [if_neg (by rw [h1]; exact Bool.false_ne_true)]; exact h2

theorem allE_sound (H : HanOK c) : ∀ (n : Nat) (listed : Array Bool) {m : Mem} {bk : List Cn} {st : St} {a : Act} {w : World}, Sat c m0 w0 fx m bk st a w → c.allE pn fx.W ops n listed st (K .normal) KP → wpAny c.P .any ops (PostE c m0 w0 fx K KP) n listed a w
  | 0, listed, m, bk, st, a, w, S, k => by
    unfold Cfg.allE at k
    split at k
    · rename_i hr; exact ⟨hr, st, m, bk, k, S⟩
    · exact k.elim
  | n + 1, listed, m, bk, st, a, w, S, k => by
    unfold Cfg.allE at k
    split at k
    · exact k.elim
    · rename_i rs hne
      refine ⟨fun h => absurd h hne, fun i hi => ?_⟩
      have ki := allK_mem k i hi
      obtain ⟨_, o, ho, _⟩ := mem_ready.1 hi
      rw [ho] at ki
      dsimp only at ki
      split at ki
      · rename_i p hp
        exact wpOp_of ho (pan_sound S hp ki)
      · exact wpOp_of ho (op_sound H S ki fun a' w' ⟨st', m', bk', k', S'⟩ _ => allE_sound H n _ S' k')

theorem Post.toE {e : Exit} {a : Act} {w : World} (h : Post c m0 w0 fx K e a w) : PostE c m0 w0 fx K KP e a w := by
  cases e <;> first | exact h | exact False.elim h

/-- THE CONDITION IS SOUND, panics told. -/
theorem vcE_sound (H : HanOK c) (b : Code) : ∀ {m : Mem} {bk : List Cn} {st : St} {a : Act} {w : World} {K : Ex → St → Prop}, Sat c m0 w0 fx m bk st a w → c.vcE pn b fx.W st K KP → b.wp c.P (PostE c m0 w0 fx K KP) a w := by
  induction b with
  | skip => intro m bk st a w K S k; exact wp_skip ⟨st, m, bk, k, S⟩
  | ret => intro m bk st a w K S k; exact wp_ret ⟨st, m, bk, k, S⟩
  | exit id => intro m bk st a w K S k; exact wp_exit ⟨st, m, bk, k, S⟩
  | region id ops draw =>
    intro m bk st a w K S k
    cases draw with
    | false => exact wp_region_list (seqE_sound H _ S k)
    | true =>
      obtain ⟨hok, k⟩ := cond_true' (show cond (c.drawOKn ops) (c.allE pn fx.W ops ops.size (Array.replicate ops.size false) st (K .normal) KP) False from k)
      unfold Cfg.drawOKn at hok
      simp only [Bool.and_eq_true] at hok
      exact wp_region_any hok.1 (allE_sound H _ _ S.drew k)
  | seq x y ihx ihy =>
    intro m bk st a w K S k
    refine wp_seq (wp_mono (ihx S k) fun e a' w' h => ?_)
    cases e with
    | normal => obtain ⟨st2, m2, bk2, k2, S2⟩ := h; exact ihy S2 k2
    | ret => exact h
    | exit id => exact h
    | goto l => exact False.elim h
    | panic ch => exact h
    | outgrown => exact False.elim h
  | cond x p q ihp ihq =>
    intro m bk st a w K S k
    have hx := ev_sound S x
    unfold Cfg.vcE at k
    split at k
    · rename_i z he
      rw [he] at hx
      have hz : a.eval x = .bool z := hx
      cases z with
      | true => exact wp_cond hz (ihp S k)
      | false => exact wp_cond hz (ihq S k)
    · exact k.elim
  | block id b ih =>
    intro m bk st a w K S k
    refine wp_block (wp_mono (ih S k) fun e a' w' h => ?_)
    cases e with
    | normal => exact h
    | ret => exact h
    | exit j =>
      show if j = id then _ else _
      by_cases hj : j = id
      · rw [if_pos hj]
        refine Reach.mono (c := c) (m0 := m0) (fx := fx) (fun st k => ?_) h
        rcases cond_spec k with ⟨_, k⟩ | ⟨hb, _⟩
        · exact k
        · subst hj; rw [Nat.beq_refl] at hb; cases hb
      · rw [if_neg hj]
        refine Reach.mono (c := c) (m0 := m0) (fx := fx) (fun st k => ?_) h
        rcases cond_spec k with ⟨hb, _⟩ | ⟨_, k⟩
        · exact absurd (beq_eq hb) hj
        · exact k
    | goto l => exact False.elim h
    | panic ch => exact h
    | outgrown => exact False.elim h
  | scope b ih =>
    intro m bk st a w K S k
    refine wp_scope_straight (wp_mono (ih S k) fun e a' w' h => ?_)
    cases e with
    | goto l => exact False.elim h
    | _ => exact h
  | loop b ih => intro m bk st a w K S k; exact wp_mono (vc_sound H (.loop b) S k) fun e a' w' h => Post.toE h
  | _ => intro m bk st a w K S k; exact False.elim k
end

/-- The condition of a function that panics. -/
def Cfg.fnPK (c : Cfg) (pn : List FuncId) (f : FuncId) (args : List EV) (Q : Nat → Int → Prop) : Prop :=
  match c.P.funcs[f]? with
  | some fn => match fn.body with
    | some b => cond (b.dsts'.all (fun d => Nat.blt d fn.ntmps) && !(fn.name == "runtime.NumGoroutine")) (c.vcE pn b b.dsts' { env := fun i => (args[i]?).getD .bot, hp := [] } (fun _ _ => False) fun _ => Q) False
    | none => False
  | none => False

/-- The state at a function's start. -/
theorem sat_enter {c : Cfg} {args : List EV} {us : List Value} {m : Mem} {w : World} {n : Nat} {W : List Nat} (ht : TabOK c.tab m) (hh : Holds w m) (hargs : RepL c.P m args pureJ us) (hW : ∀ d ∈ W, d < n) :
    Sat c m w { W := W, tmps := us.toArray ++ Array.replicate (n - us.toArray.size) undef, fe := fun _ => none, gh := fun _ _ => False, n0 := w.heap.size, keep := fun _ => False, dfr := [] } m [] { env := fun i => (args[i]?).getD .bot, hp := [] }
      { tmps := us.toArray ++ Array.replicate (n - us.toArray.size) undef, defers := [] } w := by
  have hsz : ∀ d ∈ W, d < (us.toArray ++ Array.replicate (n - us.toArray.size) undef).size := by
    intro d hd
    have := hW d hd
    simp only [Array.size_append, Array.size_replicate, List.size_toArray]
    omega
  refine { hold := hh, tab := ht, ext := Mem.ext_refl _ m, below := Below.refl _ w, len := rfl, ents := fun i e he => by simp at he, apart := fun i j b hi => by simp at hi, env := fun i => ?_, defers := rfl, fix := ⟨rfl, fun _ _ => rfl, hsz, fun i e k hk => by cases hk⟩, gh := fun _ _ h => h.elim, base := Nat.le_refl _, keep := fun _ h => h.elim }
  show Rep c.P m ((args[i]?).getD .bot) (J [] []) ((us.toArray ++ Array.replicate (n - us.toArray.size) undef).getD i undef)
  cases hv : args[i]? with
  | none => trivial
  | some v =>
    obtain ⟨u, h1, h2⟩ := RepL_get hargs hv
    have hi := (List.getElem?_eq_some_iff.1 h1).1
    have : (us.toArray ++ Array.replicate (n - us.toArray.size) undef).getD i undef = u := by
      rw [Array.getD_eq_getD_getElem?, Array.getElem?_append_left (by simpa using hi)]
      simp [h1]
    show Rep c.P m v (J [] []) ((us.toArray ++ Array.replicate (n - us.toArray.size) undef).getD i undef)
    rw [this]
    exact Rep_mono (Mem.le_refl m) v (fun _ _ q => q.elim) h2

theorem fnP_sound {c : Cfg} (H : HanOK c) {pn : List FuncId} {f : FuncId} {args : List EV} {Q : Nat → Int → Prop} (k : c.fnPK pn f args Q) : FnP c.toBase f args Q := by
  unfold Cfg.fnPK at k
  split at k
  · rename_i fn hf
    split at k
    · rename_i b hb
      obtain ⟨hc, k⟩ := cond_true' k
      simp only [Bool.and_eq_true, Bool.not_eq_true'] at hc
      refine ⟨⟨fn, b, hf, hb, hc.2⟩, fun m w us ht hh hargs => calls_of_wp hf hb ?_⟩
      have S := sat_enter (n := fn.ntmps) (W := b.dsts') ht hh hargs fun d hd => Nat.le_of_ble_eq_true (List.all_eq_true.1 hc.1 d hd)
      refine wp_mono (vcE_sound H b S k) fun e a2 w2 h => ?_
      cases e with
      | panic ch =>
        obtain ⟨st, t, n, h1, h2, m', bk, S'⟩ := h
        exact ⟨S'.defers, t, n, h1, by rw [h2], S'.below⟩
      | normal => obtain ⟨_, _, _, h, _⟩ := h; exact h.elim
      | ret => obtain ⟨_, _, _, h, _⟩ := h; exact h.elim
      | exit id => obtain ⟨_, _, _, h, _⟩ := h; exact h.elim
      | goto l => exact False.elim h
      | outgrown => exact False.elim h
    · exact k.elim
  · exact k.elim
end Go.Proofs.YtgeefhjlfdidmaaGreatDoor.V

