/- The calculus of the program's functions and their contracts, part 5. No condition of its own. -/
import Derived.Test.YtdlgenbfnahmeaaGreatDoorM4


/- A range over a function whose rounds may hold another, its loop variable boxed. No condition of its own. -/
namespace Go.Proofs.YtdlgenbfnahmeaaGreatDoor.V
open Go Go.RowKit
set_option linter.unusedVariables false
set_option linter.unusedSimpArgs false

/-- An iterator's contract, one loop further out. -/
def IterO (B : Base) (f : FuncId) (lb : List EV) (s : Shape) (T : TypeId → Bool) (xs : List s.Val) : Prop :=
  Callable B.P f ∧ ∀ m w us, TabOK B.tab m → Holds w m → RepL B.P m lb pureJ us →
    SeqStopsK (α := Handed B.P m s xs) Fence.wide 5 B.P f us.toArray (fun p => #[p.1.2]) (KpR m w.heap.size T) (fun ys => ys.map (·.1.1) = xs) (fun _ => True) xs.length w

def itO (B : Base) (f : FuncId) (lb : List EV) (s : Shape) (T : TypeId → Bool) (K : List s.Val → Prop) : Prop := ∃ xs, IterO B f lb s T xs ∧ K xs

/-- The assignment at a round's head, of a variable that has a block of its own. -/
def asgB : Code → Option (Nat × Nat × TypeId)
  | .region _ ops false => match ops.toList with
    | [o, r] => match o.dst, o.op, o.guard, r.dst, r.op, r.guard with
      | some t, .alloc T, none, none, .store T' (.tmp t') (.tmp q), none => cond (Nat.beq T T' && Nat.beq t t') (some (t, q, T)) none
      | _, _, _, _, _, _ => none
    | _ => none
  | _ => none

/-- The condition of a round's code that may hold a range over a function. -/
def Cfg.vcN (c : Cfg) : Code → List Nat → St → (Ex → St → Prop) → Prop
  | .seq a b, W, st, K => c.vcN a W st fun e st => match e with
    | .normal => c.vcN b W st K
    | .ret => K .ret st
    | .exit id => K (.exit id) st
  | .cond x a b, W, st, K => match c.ev st x with
    | .p .bool z => cond z (c.vcN a W st K) (c.vcN b W st K)
    | _ => False
  | .block id b, W, st, K => c.vcN b W st fun e st => match e with
    | .normal => K .normal st
    | .ret => K .ret st
    | .exit j => cond (Nat.beq j id) (K .normal st) (K (.exit j) st)
  | .rangeFunc g ps asg bd, W, st, K => c.rangeK g ps asg bd W st (K .normal)
  | .skip, W, st, K => c.vc .skip W st K
  | .label l, W, st, K => c.vc (.label l) W st K
  | .ret, W, st, K => c.vc .ret W st K
  | .exit id, W, st, K => c.vc (.exit id) W st K
  | .region id ops d, W, st, K => cond ((Code.region id ops d).rdOK) (c.vc (.region id ops d) W st K) False
  | _, _, _, _ => False

def isSl : Shape → Bool
  | .slice _ => true
  | _ => false

/-- The outer loop's condition, its blocks frozen. -/
def Cfg.rangeBV (c : Cfg) (hv W' : List Nat) (p t : Nat) (bd : Code) (st : St) (xs : List c.rs.Val) (K : St → Prop) : Prop :=
  rangeP (fun x y back => c.vcN bd W' (St.put (St.put (headOf st [] hv W' (mkL (slotsOf st.hp (apOf st [] hv) st [] hv) y)) (some p) (.p c.rs x)) (some t) (.ip [.p c.rs x] 0)) fun e st' => match e with
      | .normal => matL (slotsOf st.hp (apOf st [] hv) st [] hv) (slotsOf st.hp (apOf st [] hv) st' [] hv) back
      | _ => False)
    (fun y => K { headOf st [] hv W' (mkL (slotsOf st.hp (apOf st [] hv) st [] hv) y) with hp := unlock st.hp (headOf st [] hv W' (mkL (slotsOf st.hp (apOf st [] hv) st [] hv) y)).hp })
    xs (lfL (slotsOf st.hp (apOf st [] hv) st [] hv))

def Cfg.rangeBK (c : Cfg) (g : Operand) (ps : Array Tmp) (asg bd : Code) (W : List Nat) (st : St) (K : St → Prop) : Prop :=
  match c.ev st g, ps.toList, asgB asg with
  | .clo (.func f) [] b, [p], some (t, q, T) =>
    cond (shutIds st.hp (c.lv (rdKey bd)).2.2 && (EV.idsL b).all ((c.lv (rdKey bd)).2.2.contains ·) && ownAll (frzH (c.lv (rdKey bd)).2.2 0 st.hp) (c.lv (rdKey bd)).2.1 && (rdW ps asg bd).all (W.contains ·) && (rdW ps asg bd).contains t && Nat.beq q p && !Nat.beq t p && boxesNamed { st with hp := frzH (c.lv (rdKey bd)).2.2 0 st.hp } (c.lv (rdKey bd)).1 (rdW ps asg bd) (c.lv (rdKey bd)).2.1 && !rowTypes st.hp (c.lv (rdKey bd)).2.1 T && c.zeroOK T c.rs && Nat.beq (c.sizeOf T) 1 && isSl c.rs)
      (itO c.toBase f (b.map (frz st.hp 3)) c.rs (rowTypes st.hp (c.lv (rdKey bd)).2.1) fun xs => c.rangeBV (c.lv (rdKey bd)).2.1 (rdW ps asg bd) p t bd { st with hp := frzH (c.lv (rdKey bd)).2.2 0 st.hp } xs K) False
  | _, _, _ => False

section
variable {F : Fence} {n : Nat} {P : Program} {w : World}

/-- The kit's law of a loop within a round, where the head's assignment leaves the world as it is. -/
theorem wpIn_rangeFunc_ownN' {α : Type} {g : Operand} {ps : Array Tmp} {assign body : Code} {Q : Exit → Act → World → Prop} {a : Act} {w : World}
    {l₀ : Nat} {r₀ : Loop} (hro : F.round = some l₀) (hl₀ : w.heap[l₀]? = some (.loop r₀)) (h1 : 1 ≤ n) {gf : Nat} {lb : Array Value} (hg : a.eval g = .func (.func gf) #[] lb) (hFg : F.fn gf) (eg : ∀ args w, (callFunc gf args).run P w = .ok (.enter gf args) w)
    {encs : α → Array Value} {Kp : World → World → Prop} {S Sp : List α → Prop} {N : Nat} {w0 : World} (hseq : SeqStopsK F (n - 1) P gf lb encs Kp S Sp N w0)
    (hKt : ∀ {A B C : World}, Kp A B → Kp B C → Kp A C) (hKb : ∀ (W : World) (l : Nat) (o o' : Obj), w.heap.size ≤ l → W.heap[l]? = some o → o.isCells = false → o.isWalk = false → Kp W (W.putObj l o')) (hb0 : Below w0.heap.size w0 w) (hps : ∀ x, (encs x).size = ps.size)
    (I : List α → World → Prop) (Ix : Code → List α → World → Prop) (hI : OwnFrom w.heap.size I) (hIx : ∀ c, OwnFrom w.heap.size (Ix c)) (h0 : I [] w) (a₁ : α → Act)
    (hassign : ∀ (l : Nat) (x : α) (W : World) (K : Act → World → Prop), K (a₁ x) W →
      assign.wpIn (F.inRound l) (n - 1 - 1) P (Exit.then K (fun _ _ _ => False)) { tmps := (ps.zip (encs x)).foldl (fun t (p, v) => t.setIfInBounds p v) a.tmps, defers := [] } W)
    (hbody : ∀ (l : Nat) (pre : List α) (x : α) (W : World), I pre W → pre.length < N → body.wpIn (F.inRound l) (n - 1 - 1) P (ownPostG w.heap.size Kp I Ix (pre ++ [x]) W) (a₁ x) W)
    (hdone : ∀ (xs : List α) (W : World), S xs → I xs W → Q .normal a W)
    (hstop : ∀ (c : Code) (pre : List α) (W : World), Sp pre → Ix c pre W → c.wpIn F n P Q a W) (hKr : ∀ W, Kp W W) :
    (Code.rangeFunc g ps assign body).wpIn F n P Q a w :=
  wpIn_rangeFunc_ownN hro hl₀ h1 hg hFg eg hseq (fun h k => hKt h k) hKb hb0 hps I Ix hI hIx h0 (fun x a' _ => a' = a₁ x) (fun _ _ _ _ _ _ hs _ _ => hs)
    (fun l pre x W K hi hK => hassign l x W K (hK _ _ (KeepsFrom.refl _ _) (hKr W) hi rfl)) (fun l pre x a' W _ _ hi e hl => by subst e; exact hbody l pre x W hi hl) hdone hstop
end

section
variable {c : Cfg} {m0 : Mem} {w0 : World} {fx : Fx} {m : Mem} {bk : List Cn} {st : St} {a : Act} {w : World}

/-- THE INNER LOOP'S CONDITION IS SOUND. -/
theorem range_sound_in (H : HanOK c) {l0 : Nat} {r0 : Loop} (hl0 : w.heap[l0]? = some (.loop r0)) (S : Sat c m0 w0 fx m bk st a w) {g : Operand} {ps : Array Tmp} {asg bd : Code} {K : St → Prop} (k : c.rangeK g ps asg bd fx.W st K) {Q : Exit → Act → World → Prop}
    (hQ : ∀ W st' m' bk', K st' → Sat c m0 w0 fx m' bk' st' a W → Q .normal a W) :
    (Code.rangeFunc g ps asg bd).wpIn (Fence.wide.inRound l0) 4 c.P Q a w := by
  unfold Cfg.rangeK at k
  split at k
  case h_2 => exact k.elim
  rename_i f b p t q he hps hasg
  obtain ⟨hc, k2⟩ := cond_true' k
  clear k
  simp only [Bool.and_eq_true] at hc
  obtain ⟨⟨⟨⟨⟨⟨⟨hs, hids⟩, ho⟩, hW⟩, htW⟩, hqp⟩, hrd⟩, hnm⟩ := hc
  generalize hnme : (c.lv (rdKey bd)).1 = nm at *
  generalize hhv : (c.lv (rdKey bd)).2.1 = hv at *
  generalize hfz : (c.lv (rdKey bd)).2.2 = fz at *
  generalize hW' : rdW ps asg bd = W' at *
  have hqp := beq_eq hqp
  subst hqp
  have hps' : ps = #[q] := Array.toList_inj.1 (by simpa using hps)
  subst hps'
  have htW : t ∈ W' := by simpa using htW
  have hpW : q ∈ W' := by rw [← hW']; unfold rdW; simp
  have hWs : ∀ d ∈ W', d ∈ fx.W := fun d hd => by have := List.all_eq_true.1 hW d hd; simpa using this
  obtain ⟨xs, ⟨hcall, hit⟩, hrange⟩ := k2
  obtain ⟨Inv, i0, i1, i2⟩ := hrange
  have hg := ev_sound S g
  rw [he] at hg
  obtain ⟨ua, ub, e1, e2, e3⟩ := hg
  rw [RepL_nil.1 e2] at e1
  have hb : RepL c.P (frzM m w (blks bk (· ∈ fz))) (b.map (frz st.hp 3)) pureJ ub := map_frz_rep (n := 3) (fun v u => frz_rep (frz_shut S hs) (frzM_le S _) 3 v) e3 (fun i hi => by have := List.all_eq_true.1 hids i hi; simpa using this)
  have S1 := S.freeze hs
  generalize hm1 : frzM m w (blks bk (· ∈ fz)) = m1 at *
  have hrt : rowTypes st.hp hv = rowTypes (frzH fz 0 st.hp) hv := by
    funext ty
    unfold rowTypes
    congr 1
    funext i
    rw [frzH_get]
    cases st.hp[i]? with
    | none => rfl
    | some x => simp only [Option.map_some]; cases x <;> cases fz.contains (0 + i) <;> rfl
  rw [hrt] at hit
  generalize hst1 : ({ st with hp := frzH fz 0 st.hp } : St) = st1 at *
  have hhp : frzH fz 0 st.hp = st1.hp := by rw [← hst1]
  rw [hhp] at hit ho
  have hWa : ∀ d ∈ W', d < a.tmps.size := fun d hd => by rw [S.fix.1]; exact S.fix.2.2.1 d (hWs d hd)
  have hub0 := head_sat (lv := []) (hv := hv) (W' := W') S1 S1 rfl rfl rfl (Mem.ext_refl _ m1) hWa rfl (fun _ _ => rfl) (fun _ _ h => h) (fun i e _ he => ⟨.inl he, rfl⟩) ho (headN_mk ho _) (mkL_self _ (slots_own ho))
  have hIt := hit m1 w ub S1.tab S1.hold hb
  have hps1 : ∀ x : Handed c.P m1 c.rs xs, ((fun p : Handed c.P m1 c.rs xs => #[p.1.2]) x).size = (#[q] : Array Tmp).size := fun _ => rfl
  have movH : ∀ {y : (shL (slotsOf st1.hp (apOf st1 [] hv) st1 [] hv)).Val} {m' bk' X Y row}, Sat c m1 w0 (loopFx fx hv W' bk st1 a) m' bk' (headOf st1 [] hv W' (mkL (slotsOf st1.hp (apOf st1 [] hv) st1 [] hv) y)) a X → X.grownBy Y row → (∀ r, row = some r → w.heap.size ≤ r ∧ ∃ o : Obj, X.heap[r]? = some o ∧ o.isCells = false) →
      Sat c m1 w0 (loopFx fx hv W' bk st1 a) m' bk' (headOf st1 [] hv W' (mkL (slotsOf st1.hp (apOf st1 [] hv) st1 [] hv) y)) a Y := by
    intro y m' bk' X Y row SH hgr hr
    refine SH.move (SH.below.grown hgr SH.n0le fun kk e => ?_) (fun bb o h1 h2 => ?_) (fun bb _ hb => ?_)
    · exact Nat.le_trans S.n0le (hr kk e).1
    · rw [hgr.block bb (Array.getElem?_eq_some_iff.1 h1).1 (fun e => ?_)]
      · exact h1
      · obtain ⟨_, o', h3, h4⟩ := hr bb e.symm
        rw [h1] at h3; cases h3; rw [h2] at h4; cases h4
    · refine hgr.block bb (Nat.lt_of_lt_of_le hb SH.below.size) (fun e => ?_)
      have := (hr bb e.symm).1
      have := S.below.size
      omega
  refine wpIn_rangeFunc_ownN' (α := Handed c.P m1 c.rs xs) (w0 := w) (Kp := KpR m1 w.heap.size (rowTypes st1.hp hv)) rfl hl0 (by decide) (gf := f) (lb := ub.toArray) e1 trivial (callFunc_enter hcall) hIt (fun h k => KpR.trans h k) (fun W l o o' _ h h2 _ => KpR.other W l o o' h h2) (Below.refl _ _) hps1
    (fun pre W => ∃ y m' bk', Inv (pre.map (·.1.1)) y ∧ Sat c m1 w0 (loopFx fx hv W' bk st1 a) m' bk' (headOf st1 [] hv W' (mkL (slotsOf st1.hp (apOf st1 [] hv) st1 [] hv) y)) a W)
    (fun _ _ _ => False) (fun pre X Y row h hgr hr => ?_) (fun _ _ _ _ _ h _ _ => h) ⟨_, _, _, i0, hub0⟩
    (fun x => { tmps := (a.tmps.setIfInBounds q x.1.2).setIfInBounds t x.1.2, defers := [] }) (fun l x W K hK => ?_) (fun l pre x W hI hlen => ?_) (fun ys W hS hI => ?_) (fun cc pre W _ h => h.elim) (fun W => KpR.refl _ _ _ W)
  · obtain ⟨y, m', bk', h1, SH⟩ := h
    exact ⟨y, m', bk', h1, movH SH hgr hr⟩
  · obtain ⟨id, o, hasg', o1, o2, o3⟩ := asgOf_spec hasg
    subst hasg'
    refine wpIn_region_list ?_
    show wpListIn _ _ _ _ _ [o] _ _
    unfold wpListIn
    have hwant : Region.wanted o (yielded #[o] (Array.foldl (fun t (pv : Tmp × Value) => t.setIfInBounds pv.1 pv.2) a.tmps ((#[q] : Array Tmp).zip #[x.1.2]))) = true := by
      unfold Region.wanted; rw [o3]
    rw [if_pos hwant]
    have hqa : q < a.tmps.size := hWa q hpW
    refine oper_in l _ (by rw [o2]; rfl) (fun a' w' ⟨q1, q2⟩ => ?_) ?_ (next := fun a' w' => a' = { tmps := (a.tmps.setIfInBounds q x.1.2).setIfInBounds t x.1.2, defers := [] } ∧ w' = W)
    · subst q1; subst q2; exact hK
    · unfold Oper.wp
      have hex : (execOp (Act.eval { tmps := Array.foldl (fun t (pv : Tmp × Value) => t.setIfInBounds pv.1 pv.2) a.tmps ((#[q] : Array Tmp).zip #[x.1.2]), defers := [] }) o).run c.P W = .ok (.value x.1.2) W := by
        rw [execOp, o2]
        simp [Act.eval, hqa]
      rw [hex, Oper.upon_value, o1]
      refine ⟨?_, rfl⟩
      simp [Act.put]
  · obtain ⟨y, m', bk', h1, SH⟩ := hI
    have hv1 : (Reps c.P c.rs).V m' x.1.1 x.1.2 := Reps.V_mono SH.ext.1 x.2.1
    have SR := round_sat (fx := fx) SH hpW htW hv1
    have kk := i1 (pre.map (·.1.1)) x.1.1 y x.2.2 (by rw [List.length_map]; exact hlen) h1
    refine wpIn_mono (vc_sound_in H l _ bd hrd SR kk) fun e a2 W2 h => ?_
    cases e with
    | ret => obtain ⟨st2, m2, bk2, k2, S2⟩ := h; exact k2.elim
    | exit id => obtain ⟨st2, m2, bk2, k2, S2⟩ := h; exact k2.elim
    | goto l => exact h.elim
    | panic ch => exact h.elim
    | outgrown => exact h.elim
    | normal =>
      obtain ⟨st2, m2, bk2, k2, S2⟩ := h
      obtain ⟨y', hy', hsl⟩ := matL_spec _ _ k2
      have S3 := round_back SH S2
      have kept : ∀ (kk : Nat) (o : Obj), w.heap.size ≤ kk → W.heap[kk]? = some o → (o.isCells = true → ∃ cs t fz, o = .cells cs t fz ∧ rowTypes st1.hp hv t = false) → W2.heap[kk]? = some o := by
        intro kk o hB h1 h2
        refine (S2.keep kk ⟨(Array.getElem?_eq_some_iff.1 h1).1, fun i hi => ?_⟩).2.1.trans h1
        cases ho2 : o.isCells with
        | false =>
          obtain ⟨kn, h3, h4⟩ := Option.bind_eq_some_iff.1 hi
          have hil : i < (headOf st1 [] hv W' (mkL (slotsOf st1.hp (apOf st1 [] hv) st1 [] hv) y)).hp.length := by rw [← SH.len]; exact (List.getElem?_eq_some_iff.1 h3).1
          obtain ⟨k1, q1, q2⟩ := SH.ents i _ (List.getElem?_eq_getElem hil)
          rw [h3] at q1
          cases q1
          obtain ⟨cs', t', q3, _⟩ := q2.cells h4
          rw [h1] at q3
          cases q3
          cases ho2
        | true =>
          obtain ⟨cs, ty, fz', e1, e2⟩ := h2 ho2
          subst e1
          have := head_block S1 SH hnm hi hB h1
          rw [e2] at this
          cases this
      refine ⟨⟨S2.below.size, fun kk o hB h1 h2 => kept kk o hB h1 (fun h3 => by rw [h2] at h3; cases h3)⟩, ⟨fun _ b o v hm => S2.hold b o v (S2.ext.1 b o v (SH.ext.1 b o v hm)), S2.below.size, fun kk cs ty fz' hB hT h1 => kept kk _ hB h1 (fun _ => ⟨cs, ty, fz', rfl, hT⟩)⟩, ?_⟩
      refine ⟨y', m2, _, by rw [List.map_append]; exact hy', head_sat S1 S3 rfl rfl rfl (Mem.ext_trans SH.ext S2.ext) hWa rfl (fun _ _ => rfl) (fun e u h => S2.gh e u (SH.gh e u h)) (fun i e hi he => ?_) ho (headN_mk ho _) hsl⟩
      obtain ⟨k0, hk0, _⟩ := S1.ents i e he
      have hc : hv.contains i = false := by
        cases h : hv.contains i with
        | false => rfl
        | true => exact absurd (List.contains_iff_mem.1 h) hi
      obtain ⟨_, p2, p3⟩ := S2.fix.2.2.2 i e.lock k0 (by dsimp only; rw [hc, he, hk0]; rfl)
      exact ⟨.inr p2, by rw [p3, hk0]⟩
  · obtain ⟨y, m', bk', h1, SH⟩ := hI
    rw [hS] at h1
    have S4 := exit_sat S1 hWs ho SH
    exact hQ W _ m' bk' (i2 y h1) S4

theorem region_in (H : HanOK c) (l : Nat) {id : Nat} {ops : Array Oper} {draw : Bool} {K : Ex → St → Prop} (S : Sat c m0 w0 fx m bk st a w) (hr : (Code.region id ops draw).rdOK = true) (k : c.vc (.region id ops draw) fx.W st K) : (Code.region id ops draw).wpIn (Fence.wide.inRound l) 4 c.P (Post c m0 w0 fx K) a w :=
  vc_sound_in H l 4 _ hr S k

/-- THE CONDITION IS SOUND IN A ROUND, with a loop within. -/
theorem vcN_sound_in (H : HanOK c) (l : Nat) {r0 : Loop} (hr0 : w0.heap[l]? = some (.loop r0)) (hkl : fx.keep l) (b : Code) : ∀ {m : Mem} {bk : List Cn} {st : St} {a : Act} {w : World} {K : Ex → St → Prop}, Sat c m0 w0 fx m bk st a w → c.vcN b fx.W st K → b.wpIn (Fence.wide.inRound l) 4 c.P (Post c m0 w0 fx K) a w := by
  induction b with
  | skip => intro m bk st a w K S k; exact vc_sound_in H l 4 .skip rfl S k
  | label l' => intro m bk st a w K S k; exact vc_sound_in H l 4 (.label l') rfl S k
  | ret => intro m bk st a w K S k; exact vc_sound_in H l 4 .ret rfl S k
  | exit id => intro m bk st a w K S k; exact vc_sound_in H l 4 (.exit id) rfl S k
  | region id ops draw =>
    intro m bk st a w K S k
    obtain ⟨hr, k⟩ := cond_true' k
    exact vc_sound_in H l 4 _ hr S k
  | seq x y ihx ihy =>
    intro m bk st a w K S k
    refine wpIn_seq (wpIn_mono (ihx S k) fun e a' w' h => ?_)
    cases e with
    | normal => obtain ⟨st2, m2, bk2, k2, S2⟩ := h; exact ihy S2 k2
    | ret => exact h
    | exit id => exact h
    | goto l => exact h.elim
    | panic ch => exact h.elim
    | outgrown => exact h.elim
  | cond x p q ihp ihq =>
    intro m bk st a w K S k
    have hx := ev_sound S x
    unfold Cfg.vcN at k
    split at k
    · rename_i z he
      rw [he] at hx
      have hz : a.eval x = .bool z := hx
      cases z with
      | true => exact wpIn_cond hz (ihp S k)
      | false => exact wpIn_cond hz (ihq S k)
    · exact k.elim
  | block id b ih =>
    intro m bk st a w K S k
    refine wpIn_block (wpIn_mono (ih S k) fun e a' w' h => ?_)
    cases e with
    | normal => exact h
    | ret => exact h
    | exit j =>
      show if j = id then _ else _
      by_cases hj : j = id
      · rw [if_pos hj]
        refine h.mono fun st k => ?_
        rcases cond_spec k with ⟨_, k⟩ | ⟨hb, _⟩
        · exact k
        · subst hj; rw [Nat.beq_refl] at hb; cases hb
      · rw [if_neg hj]
        refine h.mono fun st k => ?_
        rcases cond_spec k with ⟨hb, _⟩ | ⟨_, k⟩
        · exact absurd (beq_eq hb) hj
        · exact k
    | goto l => exact h.elim
    | panic ch => exact h.elim
    | outgrown => exact h.elim
  | rangeFunc g ps asg bd _ _ =>
    intro m bk st a w K S k
    have hl : w.heap[l]? = some (.loop r0) := (S.keep l hkl).2.1.trans hr0
    exact range_sound_in H hl S k fun W st' m' bk' k' S' => ⟨st', m', bk', k', S'⟩
  | _ => intro m bk st a w K S k; exact k.elim


theorem asgB_spec {asg : Code} {t q : Nat} {T : TypeId} (h : asgB asg = some (t, q, T)) : ∃ id o r, asg = .region id #[o, r] false ∧ o.dst = some t ∧ o.op = .alloc T ∧ o.guard = none ∧ r.dst = none ∧ r.op = .store T (.tmp t) (.tmp q) ∧ r.guard = none := by
  unfold asgB at h
  split at h
  · rename_i id ops
    split at h
    · rename_i o r ho
      split at h
      · rename_i t0 T0 T1 t1 q0 h1 h2 h3 h4 h5 h6
        cases hb : (Nat.beq T0 T1 && Nat.beq t0 t1) with
        | false => rw [hb] at h; cases h
        | true =>
          rw [hb] at h
          simp only [Bool.and_eq_true] at hb
          have e1 := beq_eq hb.1
          have e2 := beq_eq hb.2
          subst e1 e2
          cases h
          refine ⟨id, o, r, ?_, h1, h2, h3, h4, h5, h6⟩
          congr 1
          exact Array.toList_inj.1 (by simpa using ho)
      · cases h
    · cases h
  · cases h

open Classical in
/-- A round's frame: what is handed lies in a temporary and in a block of its own, written no more. -/
theorem round_satB {W' : List Nat} {stH : St} {m' : Mem} {bk' : List Cn} {W : World} {fe : Nat → Option (Ent × Cn)} {gh : EV → Value → Prop} {kp : Nat → Prop} {df : List Deferred} (SH : Sat c m0 w0 { W := W', tmps := a.tmps, fe := fe, gh := gh, n0 := fx.n0, keep := kp, dfr := df } m' bk' stH a W) {p t : Nat} (hp : p ∈ W') (ht : t ∈ W') {s : Shape} {x : s.Val} {v : Value} (hv : (Reps c.P s).V m' x v)
    {b : Nat} {T : TypeId} (hb : W.heap[b]? = some (.cells #[v] T (0, 0))) (hnb : ∀ i : Nat, (bk'[i]?).bind Cn.blk ≠ some b) (hn0 : fx.n0 ≤ b) :
    Sat c m' W { W := W', tmps := a.tmps, fe := fe, gh := J stH.hp bk', n0 := fx.n0, keep := fun b => b < W.heap.size ∧ ∀ i : Nat, (bk'[i]?).bind Cn.blk ≠ some b, dfr := [] } (frzM m' W (fun k => k = b)) bk' (St.put (St.put stH (some p) (.p s x)) (some t) (.ip [.p s x] 0)) { tmps := (a.tmps.setIfInBounds p v).setIfInBounds t (.pointer (some ⟨b, 0, none⟩)), defers := [] } W := by
  have hlt : ∀ d ∈ W', d < a.tmps.size := SH.fix.2.2.1
  have hle := frzM_le SH (fun k => k = b)
  have hcell : frzM m' W (fun k => k = b) b 0 = some v := by
    unfold frzM
    rw [if_pos rfl, cell_get hb 0]
    rfl
  have hother : ∀ k, k ≠ b → ∀ o, frzM m' W (fun k => k = b) k o = m' k o := fun k hk o => by unfold frzM; rw [if_neg hk]
  refine { hold := frzM_holds SH _, tab := SH.tab.mono hle, ext := ⟨hle, fun k o hk => hother k (by have : k < fx.n0 := hk; omega) o⟩, below := Below.refl _ _, len := SH.len, ents := fun i e he => ?_, apart := SH.apart, env := fun i => ?_, defers := rfl, fix := ⟨by simp, fun i hi => ?_, hlt, SH.fix.2.2.2⟩, gh := fun _ _ h => h, base := SH.n0le, keep := fun b hb => ⟨hb.1, rfl, hb.2⟩ }
  · obtain ⟨k, h1, h2⟩ := SH.ents i e he
    refine ⟨k, h1, SatEnt.mono hle (fun _ _ q => q) (fun _ _ => rfl) (fun _ b' hb' hno o => ?_) h2⟩
    rw [hother b' (fun e => hnb i (by rw [h1]; exact hb'.trans (by rw [e]))) o]
    exact hno o
  · show Rep c.P _ (cond (Nat.beq i t) (.ip [.p s x] 0) (cond (Nat.beq i p) (.p s x) (stH.env i))) (J stH.hp bk') (((a.tmps.setIfInBounds p v).setIfInBounds t (.pointer (some ⟨b, 0, none⟩))).getD i undef)
    by_cases e1 : i = t
    · subst e1
      have : ((a.tmps.setIfInBounds p v).setIfInBounds i (.pointer (some ⟨b, 0, none⟩))).getD i undef = .pointer (some ⟨b, 0, none⟩) := by simp [hlt i ht]
      rw [this, Nat.beq_refl]
      refine ⟨b, 0, [v], rfl, RepL_cons.2 ⟨v, [], rfl, Reps.V_mono hle hv, RepL_nil.2 rfl⟩, fun j u hj => ?_⟩
      cases j with
      | zero => cases hj; exact hcell
      | succ j => simp at hj
    · have n1 : Nat.beq i t = false := by cases h : Nat.beq i t with | false => rfl | true => exact absurd (beq_eq h) e1
      rw [n1]
      by_cases e2 : i = p
      · subst e2
        have : ((a.tmps.setIfInBounds i v).setIfInBounds t (.pointer (some ⟨b, 0, none⟩))).getD i undef = v := by simp [hlt i hp, Ne.symm e1]
        rw [this, Nat.beq_refl]
        exact Reps.V_mono hle hv
      · have n2 : Nat.beq i p = false := by cases h : Nat.beq i p with | false => rfl | true => exact absurd (beq_eq h) e2
        rw [n2]
        have : ((a.tmps.setIfInBounds p v).setIfInBounds t (.pointer (some ⟨b, 0, none⟩))).getD i undef = a.tmps.getD i undef := by simp [Ne.symm e1, Ne.symm e2]
        rw [this]
        exact Rep_mono hle _ (fun _ _ q => q) (SH.env i)
  · have e1 : t ≠ i := fun e => hi (e ▸ ht)
    have e2 : p ≠ i := fun e => hi (e ▸ hp)
    simp [e1, e2]

open Classical in
/-- Behind such a round. -/
theorem round_backB {W' : List Nat} {stH st2 : St} {m' m2 : Mem} {bk' bk2 : List Cn} {W W2 : World} {fe : Nat → Option (Ent × Cn)} {gh : EV → Value → Prop} {kp : Nat → Prop} {df : List Deferred} {a2 : Act} (SH : Sat c m0 w0 { W := W', tmps := a.tmps, fe := fe, gh := gh, n0 := fx.n0, keep := kp, dfr := df } m' bk' stH a W)
    (S2 : Sat c m' W { W := W', tmps := a.tmps, fe := fe, gh := J stH.hp bk', n0 := fx.n0, keep := fun b => b < W.heap.size ∧ ∀ i : Nat, (bk'[i]?).bind Cn.blk ≠ some b, dfr := [] } m2 bk2 st2 a2 W2) :
    Sat c m0 w0 { W := W', tmps := a.tmps, fe := fe, gh := gh, n0 := fx.n0, keep := kp, dfr := df } m2 bk2 { env := fun i => cond (W'.contains i) .bot (st2.env i), hp := st2.hp } a W2 := round_back SH S2

/-- THE OUTER LOOP'S CONDITION IS SOUND. -/
theorem rangeB_sound (H : HanOK c) (S : Sat c m0 w0 fx m bk st a w) {g : Operand} {ps : Array Tmp} {asg bd : Code} {K : St → Prop} (k : c.rangeBK g ps asg bd fx.W st K) {Q : Exit → Act → World → Prop}
    (hQ : ∀ D W st' m' bk', w.heap.size ≤ D → K st' → Sat c m0 w0 fx m' bk' st' a W → W.heap[D]? = some (.deferred (some [])) → Q .normal { a with defers := { target := .collected D, args := #[] } :: a.defers } W) :
    (Code.rangeFunc g ps asg bd).wpIn Fence.wide 6 c.P Q a w := by
  unfold Cfg.rangeBK at k
  split at k
  case h_2 => exact k.elim
  rename_i f b p t q T he hps hasg
  obtain ⟨hc, k2⟩ := cond_true' k
  clear k
  simp only [Bool.and_eq_true] at hc
  simp only [Bool.not_eq_true'] at hc
  obtain ⟨⟨⟨⟨⟨⟨⟨⟨⟨⟨⟨hs, hids⟩, ho⟩, hW⟩, htW⟩, hqp⟩, htp⟩, hnm⟩, hT⟩, hz⟩, hsz1⟩, hsl⟩ := hc
  generalize hnme : (c.lv (rdKey bd)).1 = nm at *
  generalize hhv : (c.lv (rdKey bd)).2.1 = hv at *
  generalize hfz : (c.lv (rdKey bd)).2.2 = fz at *
  generalize hW' : rdW ps asg bd = W' at *
  have hqp := beq_eq hqp
  have htq : t ≠ p := fun e => by rw [e, Nat.beq_refl] at htp; cases htp
  subst hqp
  have hps' : ps = #[q] := Array.toList_inj.1 (by simpa using hps)
  subst hps'
  have htW : t ∈ W' := by simpa using htW
  have hpW : q ∈ W' := by rw [← hW']; unfold rdW; simp
  have hWs : ∀ d ∈ W', d ∈ fx.W := fun d hd => by have := List.all_eq_true.1 hW d hd; simpa using this
  obtain ⟨xs, ⟨hcall, hit⟩, hrange⟩ := k2
  obtain ⟨Inv, i0, i1, i2⟩ := hrange
  have hg := ev_sound S g
  rw [he] at hg
  obtain ⟨ua, ub, e1, e2, e3⟩ := hg
  rw [RepL_nil.1 e2] at e1
  have hb : RepL c.P (frzM m w (blks bk (· ∈ fz))) (b.map (frz st.hp 3)) pureJ ub := map_frz_rep (n := 3) (fun v u => frz_rep (frz_shut S hs) (frzM_le S _) 3 v) e3 (fun i hi => by have := List.all_eq_true.1 hids i hi; simpa using this)
  have S1 := S.freeze hs
  generalize hm1 : frzM m w (blks bk (· ∈ fz)) = m1 at *
  have hrt : rowTypes st.hp hv = rowTypes (frzH fz 0 st.hp) hv := by
    funext ty
    unfold rowTypes
    congr 1
    funext i
    rw [frzH_get]
    cases st.hp[i]? with
    | none => rfl
    | some x => simp only [Option.map_some]; cases x <;> cases fz.contains (0 + i) <;> rfl
  rw [hrt] at hit hT
  generalize hst1 : ({ st with hp := frzH fz 0 st.hp } : St) = st1 at *
  have hhp : frzH fz 0 st.hp = st1.hp := by rw [← hst1]
  rw [hhp] at hit ho hT
  have hWa : ∀ d ∈ W', d < a.tmps.size := fun d hd => by rw [S.fix.1]; exact S.fix.2.2.1 d (hWs d hd)
  have hub0 := head_sat (lv := []) (hv := hv) (W' := W') S1 S1 rfl rfl rfl (Mem.ext_refl _ m1) hWa rfl (fun _ _ => rfl) (fun _ _ h => h) (fun i e _ he => ⟨.inl he, rfl⟩) ho (headN_mk ho _) (mkL_self _ (slots_own ho))
  have hIt := hit m1 w ub S1.tab S1.hold hb
  have hps1 : ∀ x : Handed c.P m1 c.rs xs, ((fun p : Handed c.P m1 c.rs xs => #[p.1.2]) x).size = (#[q] : Array Tmp).size := fun _ => rfl
  have movH : ∀ {y : (shL (slotsOf st1.hp (apOf st1 [] hv) st1 [] hv)).Val} {m' bk' X Y row}, Sat c m1 w0 (loopFx fx hv W' bk st1 a) m' bk' (headOf st1 [] hv W' (mkL (slotsOf st1.hp (apOf st1 [] hv) st1 [] hv) y)) a X → X.grownBy Y row → (∀ r, row = some r → w.heap.size ≤ r ∧ ∃ o : Obj, X.heap[r]? = some o ∧ o.isCells = false) →
      Sat c m1 w0 (loopFx fx hv W' bk st1 a) m' bk' (headOf st1 [] hv W' (mkL (slotsOf st1.hp (apOf st1 [] hv) st1 [] hv) y)) a Y := by
    intro y m' bk' X Y row SH hgr hr
    refine SH.move (SH.below.grown hgr SH.n0le fun kk e => ?_) (fun bb o h1 h2 => ?_) (fun bb _ hb => ?_)
    · exact Nat.le_trans S.n0le (hr kk e).1
    · rw [hgr.block bb (Array.getElem?_eq_some_iff.1 h1).1 (fun e => ?_)]
      · exact h1
      · obtain ⟨_, o', h3, h4⟩ := hr bb e.symm
        rw [h1] at h3; cases h3; rw [h2] at h4; cases h4
    · refine hgr.block bb (Nat.lt_of_lt_of_le hb SH.below.size) (fun e => ?_)
      have := (hr bb e.symm).1
      have := S.below.size
      omega
  refine wpIn_rangeFunc_ownH (α := Handed c.P m1 c.rs xs) (w0 := w) (Kp := KpR m1 w.heap.size (rowTypes st1.hp hv)) rfl (by decide) (gf := f) (lb := ub.toArray) e1 trivial (callFunc_enter hcall) hIt (fun h k => KpR.trans h k) (fun W l o o' _ h h2 _ => KpR.other W l o o' h h2) (Below.refl _ _) hps1
    (fun pre W => w.heap.size ≤ W.heap.size ∧ ∃ y m' bk', Inv (pre.map (·.1.1)) y ∧ Sat c m1 w0 (loopFx fx hv W' bk st1 a) m' bk' (headOf st1 [] hv W' (mkL (slotsOf st1.hp (apOf st1 [] hv) st1 [] hv) y)) a W)
    (fun _ _ _ => False) (fun pre X Y row h hgr hr => ?_) (fun _ _ _ _ _ h _ _ => h) ⟨Nat.le_refl _, _, _, _, i0, hub0⟩
    (fun x a' W => ∃ b, w.heap.size ≤ b ∧ a' = { tmps := (a.tmps.setIfInBounds q x.1.2).setIfInBounds t (.pointer (some ⟨b, 0, none⟩)), defers := [] } ∧ W.heap[b]? = some (.cells #[x.1.2] T (0, 0)))
    (fun x a' s X Y row h hgr hr => ?_) (fun l pre x W K hI hK => ?_) (fun l pre x a' W hlB hlr hI hAx hlen => ?_) (fun D ys W hD hS hI hDW => ?_) (fun D cc pre W hD _ h _ => h.elim)
  · obtain ⟨hsW, y, m', bk', h1, SH⟩ := h
    exact ⟨Nat.le_trans hsW hgr.size, y, m', bk', h1, movH SH hgr hr⟩
  · obtain ⟨b, h1, h2, h3⟩ := h
    refine ⟨b, h1, h2, ?_⟩
    rw [hgr.block b (Array.getElem?_eq_some_iff.1 h3).1 (fun e => ?_)]
    · exact h3
    · obtain ⟨_, o', h4, h5⟩ := hr b e.symm
      rw [h3] at h4; cases h4; cases h5
  · obtain ⟨hsW, y, m', bk', h1, SH⟩ := hI
    obtain ⟨id, o, r, hasg', o1, o2, o3, r1, r2, r3⟩ := asgB_spec hasg
    subst hasg'
    have hqa : q < a.tmps.size := hWa q hpW
    have hta : t < a.tmps.size := hWa t htW
    obtain ⟨z, z1, z2, _⟩ := zeroOK_sound (m := m1) (fun _ _ => False) hz
    have hzs : z.cells.size = 1 := by
      have := RepL_length z2
      rw [zeroC_length] at this
      cases hrs : c.rs with
      | slice s => rw [hrs] at this; simpa [Shape.size] using this
      | _ => rw [hrs] at hsl; cases hsl
    have hvc : x.1.2.cells = #[x.1.2] ∧ x.1.2.oneCell' = true := by
      have hx := x.2.1
      revert hx
      generalize x.1.1 = xv
      generalize x.1.2 = vv
      revert xv
      cases hrs : c.rs with
      | slice s => rintro xv ⟨base, cap, rfl, _⟩; exact ⟨rfl, rfl⟩
      | _ => rw [hrs] at hsl; cases hsl
    have hW1 : (W.alloc (.cells z.cells T)).heap[W.heap.size]? = some (.cells z.cells T (0, 0)) := World.alloc_heap_new W (.cells z.cells T)
    obtain ⟨W2, hW2⟩ : ∃ W2, W2 = (W.alloc (.cells z.cells T)).setRow W.heap.size (z.cells.toList.take 0 ++ x.1.2.cells.toList ++ z.cells.toList.drop (0 + x.1.2.cells.toList.length)).toArray := ⟨_, rfl⟩
    have hstore : (Instr.storeAt T (.pointer (some ⟨W.heap.size, 0, none⟩)) x.1.2).run c.P (W.alloc (.cells z.cells T)) = .ok () W2 := by
      rw [hW2]
      refine run_storeAt hW1 ?_ ?_ ?_ ?_
      · rw [hvc.1]; exact beq_eq hsz1
      · rw [hvc.1]; simp
      · rw [hvc.1, hzs]; simp
      · rw [hvc.1]; simpa using hvc.2
    have hnew : W2.heap[W.heap.size]? = some (.cells #[x.1.2] T (0, 0)) := by
      have := setRow_heap (W.alloc (.cells z.cells T)) W.heap.size z.cells (z.cells.toList.take 0 ++ x.1.2.cells.toList ++ z.cells.toList.drop (0 + x.1.2.cells.toList.length)).toArray T (0, 0) hW1
      rw [hW2, this, hvc.1]
      have : z.cells.toList.drop 1 = [] := by apply List.drop_eq_nil_of_le; simp [hzs]
      simp [this]
    have hold : ∀ bb, bb < W.heap.size → W2.heap[bb]? = W.heap[bb]? := fun bb hb => by
      rw [hW2, setRow_other _ _ bb _ (Nat.ne_of_lt hb)]
      exact Below.heap_alloc W _ bb hb
    have hsz2 : W.heap.size ≤ W2.heap.size := by rw [hW2]; simp
    have hob : ∀ (bb : Nat) (o : Obj), W.heap[bb]? = some o → W2.heap[bb]? = some o := fun bb o h => (hold bb (Array.getElem?_eq_some_iff.1 h).1).trans h
    have hbe : Below fx.n0 W W2 := by
      rw [hW2]
      refine Below.of_same ((Below.refl fx.n0 W).alloc SH.n0le (.cells z.cells T)) rfl rfl rfl (by simp) fun i hi => setRow_other _ _ i _ ?_
      have : fx.n0 ≤ W.heap.size := SH.n0le
      omega
    have hH : ∀ mm, Holds W mm → Holds W2 mm := fun mm hm bb oo v h => by
      have q1 := hm bb oo v h
      obtain ⟨ob, q2, _⟩ := cell_obj q1
      exact (World.cell?_of_block (a := ⟨bb, oo, none⟩) ((hob bb ob q2).trans q2.symm)).trans q1
    have fin := hK { tmps := (a.tmps.setIfInBounds q x.1.2).setIfInBounds t (.pointer (some ⟨W.heap.size, 0, none⟩)), defers := [] } W2 ⟨hsz2, fun k o _ hk _ => hob k o hk⟩ ⟨hH m1, hsz2, fun k cs ty fz' _ _ hk => hob k _ hk⟩
      ⟨Nat.le_trans hsW hsz2, y, m', bk', h1, SH.move (SH.below.trans hbe) (fun bb o q1 _ => hob bb o q1) (fun bb _ hb => hold bb (Nat.lt_of_lt_of_le hb SH.below.size))⟩
      ⟨W.heap.size, hsW, rfl, hnew⟩
    · refine wpIn_region_list ?_
      show wpListIn _ _ _ _ _ [o, r] _ _
      unfold wpListIn
      have hwant : ∀ ts, Region.wanted o (yielded #[o, r] ts) = true := fun ts => by unfold Region.wanted; rw [o3]
      rw [if_pos (hwant _)]
      refine oper_in l _ (by rw [o2]; rfl) (fun a' w' ⟨q1, q2⟩ => ?_) ?_ (next := fun a' w' => a' = { tmps := (a.tmps.setIfInBounds q x.1.2).setIfInBounds t (.pointer (some ⟨W.heap.size, 0, none⟩)), defers := [] } ∧ w' = W.alloc (.cells z.cells T))
      · subst q1; subst q2
        unfold wpListIn
        have hwant2 : ∀ ts, Region.wanted r (yielded #[o, r] ts) = true := fun ts => by unfold Region.wanted; rw [r3]
        rw [if_pos (hwant2 _)]
        refine oper_in l _ (by rw [r2]; rfl) (fun a' w' ⟨q1, q2⟩ => ?_) ?_ (next := fun a' w' => a' = { tmps := (a.tmps.setIfInBounds q x.1.2).setIfInBounds t (.pointer (some ⟨W.heap.size, 0, none⟩)), defers := [] } ∧ w' = W2)
        · subst q1; subst q2; exact fin
        · unfold Oper.wp
          have hex : (execOp (Act.eval { tmps := (a.tmps.setIfInBounds q x.1.2).setIfInBounds t (.pointer (some ⟨W.heap.size, 0, none⟩)), defers := [] }) r).run c.P (W.alloc (.cells z.cells T)) = .ok .skip W2 := by
            rw [execOp, r2]
            have e1 : (Act.eval { tmps := (a.tmps.setIfInBounds q x.1.2).setIfInBounds t (.pointer (some ⟨W.heap.size, 0, none⟩)), defers := [] } (.tmp t)) = .pointer (some ⟨W.heap.size, 0, none⟩) := by simp [Act.eval, hta]
            have e2 : (Act.eval { tmps := (a.tmps.setIfInBounds q x.1.2).setIfInBounds t (.pointer (some ⟨W.heap.size, 0, none⟩)), defers := [] } (.tmp q)) = x.1.2 := by simp [Act.eval, hqa, htq]
            simp only [e1, e2, Sem.run_bind, hstore, Result.andThen_ok, Sem.run_pure]
          rw [hex, Oper.upon_skip, r1]
          exact ⟨rfl, rfl⟩
      · unfold Oper.wp
        have hex : (execOp (Act.eval { tmps := Array.foldl (fun t (pv : Tmp × Value) => t.setIfInBounds pv.1 pv.2) a.tmps ((#[q] : Array Tmp).zip #[x.1.2]), defers := [] }) o).run c.P W = .ok (.value (.pointer (some ⟨W.heap.size, 0, none⟩))) (W.alloc (.cells z.cells T)) := by
          rw [execOp, o2]; simp [Instr.alloc, run_zeroValue z1 W, newVar, newRow]
        rw [hex, Oper.upon_value, o1]
        refine ⟨?_, rfl⟩
        simp [Act.put]
  · obtain ⟨hsW, y, m', bk', h1, SH⟩ := hI
    obtain ⟨b, hb1, rfl, hb2⟩ := hAx
    have hv1 : (Reps c.P c.rs).V m' x.1.1 x.1.2 := Reps.V_mono SH.ext.1 x.2.1
    have hnb : ∀ i : Nat, (bk'[i]?).bind Cn.blk ≠ some b := fun i hi => by
      have := head_block S1 SH hnm hi hb1 hb2
      rw [hT] at this
      cases this
    have SR := round_satB (fx := fx) SH hpW htW hv1 hb2 hnb (Nat.le_trans S1.n0le hb1)
    have kk := i1 (pre.map (·.1.1)) x.1.1 y x.2.2 (by rw [List.length_map]; exact hlen) h1
    obtain ⟨r0, hr0⟩ := hlr
    have hkeep : ∀ i : Nat, (bk'[i]?).bind Cn.blk ≠ some l := fun i hi => by
      obtain ⟨kn, h3, h4⟩ := Option.bind_eq_some_iff.1 hi
      have hil : i < (headOf st1 [] hv W' (mkL (slotsOf st1.hp (apOf st1 [] hv) st1 [] hv) y)).hp.length := by rw [← SH.len]; exact (List.getElem?_eq_some_iff.1 h3).1
      obtain ⟨k1, q1, q2⟩ := SH.ents i _ (List.getElem?_eq_getElem hil)
      rw [h3] at q1
      cases q1
      obtain ⟨cs', t', q3, _⟩ := q2.cells h4
      rw [hr0] at q3
      cases q3
    have hkl : (fun b : Nat => b < W.heap.size ∧ ∀ i : Nat, (bk'[i]?).bind Cn.blk ≠ some b) l := ⟨(Array.getElem?_eq_some_iff.1 hr0).1, hkeep⟩
    have body := vcN_sound_in (fx := { W := W', tmps := a.tmps, fe := _, gh := _, n0 := fx.n0, keep := _, dfr := [] }) H l hr0 hkl bd SR kk
    refine wpIn_mono body fun e a2 W2 h => ?_
    cases e with
    | ret => obtain ⟨st2, m2, bk2, k2, S2⟩ := h; exact k2.elim
    | exit id => obtain ⟨st2, m2, bk2, k2, S2⟩ := h; exact k2.elim
    | goto l => exact h.elim
    | panic ch => exact h.elim
    | outgrown => exact h.elim
    | normal =>
      obtain ⟨st2, m2, bk2, k2, S2⟩ := h
      obtain ⟨y', hy', hsl⟩ := matL_spec _ _ k2
      have S3 := round_backB SH S2
      have kept : ∀ (kk : Nat) (o : Obj), w.heap.size ≤ kk → W.heap[kk]? = some o → (o.isCells = true → ∃ cs t fz, o = .cells cs t fz ∧ rowTypes st1.hp hv t = false) → W2.heap[kk]? = some o := by
        intro kk o hB h1 h2
        refine (S2.keep kk ⟨(Array.getElem?_eq_some_iff.1 h1).1, fun i hi => ?_⟩).2.1.trans h1
        cases ho2 : o.isCells with
        | false =>
          obtain ⟨kn, h3, h4⟩ := Option.bind_eq_some_iff.1 hi
          have hil : i < (headOf st1 [] hv W' (mkL (slotsOf st1.hp (apOf st1 [] hv) st1 [] hv) y)).hp.length := by rw [← SH.len]; exact (List.getElem?_eq_some_iff.1 h3).1
          obtain ⟨k1, q1, q2⟩ := SH.ents i _ (List.getElem?_eq_getElem hil)
          rw [h3] at q1
          cases q1
          obtain ⟨cs', t', q3, _⟩ := q2.cells h4
          rw [h1] at q3
          cases q3
          cases ho2
        | true =>
          obtain ⟨cs, ty, fz', e1, e2⟩ := h2 ho2
          subst e1
          have := head_block S1 SH hnm hi hB h1
          rw [e2] at this
          cases this
      refine ⟨⟨S2.below.size, fun kk o hB h1 h2 => kept kk o hB h1 (fun h3 => by rw [h2] at h3; cases h3)⟩, ⟨fun _ b o v hm => S2.hold b o v (S2.ext.1 b o v (SH.ext.1 b o v hm)), S2.below.size, fun kk cs ty fz' hB hT h1 => kept kk _ hB h1 (fun _ => ⟨cs, ty, fz', rfl, hT⟩)⟩, ?_⟩
      refine ⟨Nat.le_trans hsW S2.below.size, y', m2, _, by rw [List.map_append]; exact hy', head_sat S1 S3 rfl rfl rfl (Mem.ext_trans SH.ext S2.ext) hWa rfl (fun _ _ => rfl) (fun e u h => S2.gh e u (SH.gh e u h)) (fun i e hi he => ?_) ho (headN_mk ho _) hsl⟩
      obtain ⟨k0, hk0, _⟩ := S1.ents i e he
      have hc : hv.contains i = false := by
        cases h : hv.contains i with
        | false => rfl
        | true => exact absurd (List.contains_iff_mem.1 h) hi
      obtain ⟨_, p2, p3⟩ := S2.fix.2.2.2 i e.lock k0 (by dsimp only; rw [hc, he, hk0]; rfl)
      exact ⟨.inr p2, by rw [p3, hk0]⟩
  · obtain ⟨hsW, y, m', bk', h1, SH⟩ := hI
    rw [hS] at h1
    have S4 := exit_sat S1 hWs ho SH
    exact hQ D W _ m' bk' hD (i2 y h1) S4 hDW
end
end Go.Proofs.YtdlgenbfnahmeaaGreatDoor.V


/- Functions that hold a range whose rounds may hold another. No condition of its own. -/
namespace Go.Proofs.YtdlgenbfnahmeaaGreatDoor.V
open Go Go.RowKit
set_option linter.unusedVariables false
set_option linter.unusedSimpArgs false

/-- The condition of a function's code that holds one range over a function, on its spine: K1 where it has not come to it, K2 behind it. -/
def Cfg.spNK (c : Cfg) : Code → List Nat → St → (Ex → St → Prop) → (Ex → St → Prop) → Prop
  | .seq a b, W, st, K1, K2 => c.spNK a W st (fun e st => match e with
      | .normal => c.spNK b W st K1 K2
      | .ret => K1 .ret st
      | .exit id => K1 (.exit id) st) (fun e st => match e with
      | .normal => c.vc b W st K2
      | .ret => K2 .ret st
      | .exit id => K2 (.exit id) st)
  | .block id b, W, st, K1, K2 => c.spNK b W st (fun e st => match e with
      | .normal => K1 .normal st
      | .ret => K1 .ret st
      | .exit j => cond (Nat.beq j id) (K1 .normal st) (K1 (.exit j) st)) (fun e st => match e with
      | .normal => K2 .normal st
      | .ret => K2 .ret st
      | .exit j => cond (Nat.beq j id) (K2 .normal st) (K2 (.exit j) st))
  | .rangeFunc g ps asg bd, W, st, _, K2 => c.rangeBK g ps asg bd W st (fun st => K2 .normal st)
  | .skip, W, st, K1, _ => c.vc .skip W st K1
  | .label l, W, st, K1, _ => c.vc (.label l) W st K1
  | .ret, W, st, K1, _ => c.vc .ret W st K1
  | .exit id, W, st, K1, _ => c.vc (.exit id) W st K1
  | .region id ops d, W, st, K1, _ => c.vc (.region id ops d) W st K1
  | .cond x a b, W, st, K1, _ => c.vc (.cond x a b) W st K1
  | .scope b, W, st, K1, _ => c.vc (.scope b) W st K1
  | .loop b, W, st, K1, _ => c.vc (.loop b) W st K1
  | _, _, _, _, _ => False

/-- The condition of such a function's contract. -/
def Cfg.fnNK (c : Cfg) (f : FuncId) (args : List EV) (out : Shape) (R : out.Val → Prop) : Prop :=
  match c.P.funcs[f]? with
  | some fn => match fn.body with
    | some b => cond (b.dsts'.all (fun d => Nat.blt d fn.ntmps) && !(fn.name == "runtime.NumGoroutine")) (c.spNK b b.dsts' { env := fun i => (args[i]?).getD .bot, hp := [] } (fun e st => match e with
      | .normal => c.retK fn out st R
      | .ret => c.retK fn out st R
      | .exit _ => False) fun e st => match e with
      | .normal => c.retK fn out st R
      | .ret => c.retK fn out st R
      | .exit _ => False) False
    | none => False
  | none => False

section
variable {c : Cfg} {m0 : Mem} {w0 : World} {fx : Fx}

theorem spN_plain (H : HanOK c) {b : Code} {m : Mem} {bk : List Cn} {st : St} {a : Act} {w : World} {K1 K2 : Ex → St → Prop} (S : Sat c m0 w0 fx m bk st a w) (k : c.vc b fx.W st K1) : b.wpIn Fence.wide 6 c.P (PostR c m0 w0 fx K1 K2) a w :=
  wpIn_wide.2 (wp_mono (vc_sound H b S k) fun _ _ _ h => .inl h)

theorem spN_sound (H : HanOK c) (hd : fx.dfr = []) (b : Code) : ∀ {m : Mem} {bk : List Cn} {st : St} {a : Act} {w : World} {K1 K2 : Ex → St → Prop}, Sat c m0 w0 fx m bk st a w → c.spNK b fx.W st K1 K2 → b.wpIn Fence.wide 6 c.P (PostR c m0 w0 fx K1 K2) a w := by
  induction b with
  | skip => intro m bk st a w K1 K2 S k; exact spN_plain H S k
  | label l => intro m bk st a w K1 K2 S k; exact spN_plain H S k
  | ret => intro m bk st a w K1 K2 S k; exact spN_plain H S k
  | exit id => intro m bk st a w K1 K2 S k; exact spN_plain H S k
  | region id ops draw => intro m bk st a w K1 K2 S k; exact spN_plain H S k
  | cond x p q ihp ihq => intro m bk st a w K1 K2 S k; exact spN_plain H S k
  | scope b ih => intro m bk st a w K1 K2 S k; exact spN_plain H S k
  | loop b ih => intro m bk st a w K1 K2 S k; exact spN_plain H S k
  | seq x y ihx ihy =>
    intro m bk st a w K1 K2 S k
    refine wpIn_seq (wpIn_mono (ihx S k) fun e a' w' h => ?_)
    rcases h with h | ⟨D, m1, w1, h1, h2, h3, h4, h⟩
    · cases e with
      | normal => obtain ⟨st2, m2, bk2, k2, S2⟩ := h; exact ihy S2 k2
      | ret => exact .inl h
      | exit id => exact .inl h
      | goto l => exact h.elim
      | panic ch => exact h.elim
      | outgrown => exact h.elim
    · cases e with
      | normal =>
        obtain ⟨st2, m2, bk2, k2, S2⟩ := h
        exact wpIn_wide.2 (wp_mono (vc_sound H y S2 k2) fun _ _ _ q => .inr ⟨D, m1, w1, h1, h2, h3, h4, q⟩)
      | ret => exact .inr ⟨D, m1, w1, h1, h2, h3, h4, h⟩
      | exit id => exact .inr ⟨D, m1, w1, h1, h2, h3, h4, h⟩
      | goto l => exact h.elim
      | panic ch => exact h.elim
      | outgrown => exact h.elim
  | block id b ih =>
    intro m bk st a w K1 K2 S k
    have blk : ∀ {m0 : Mem} {w0 : World} {fx : Fx} {K : Ex → St → Prop} {e : Exit} {a' : Act} {w' : World}, Post c m0 w0 fx (fun e st => match e with
      | .normal => K .normal st
      | .ret => K .ret st
      | .exit j => cond (Nat.beq j id) (K .normal st) (K (.exit j) st)) e a' w' → Exit.inBlock id (Post c m0 w0 fx K) e a' w' := by
      intro m0 w0 fx K e a' w' h
      cases e with
      | normal => exact h
      | ret => exact h
      | exit j =>
        show if j = id then _ else _
        by_cases hj : j = id
        · rw [if_pos hj]
          refine h.mono fun st k => ?_
          rcases cond_spec k with ⟨_, k⟩ | ⟨hb, _⟩
          · exact k
          · subst hj; rw [Nat.beq_refl] at hb; cases hb
        · rw [if_neg hj]
          refine h.mono fun st k => ?_
          rcases cond_spec k with ⟨hb, _⟩ | ⟨_, k⟩
          · exact absurd (beq_eq hb) hj
          · exact k
      | goto l => exact h.elim
      | panic ch => exact h.elim
      | outgrown => exact h.elim
    refine wpIn_block (wpIn_mono (ih S k) fun e a' w' h => ?_)
    have up : ∀ {Q Q' : Exit → Act → World → Prop}, (∀ e a w, Q e a w → Q' e a w) → Exit.inBlock id Q e a' w' → Exit.inBlock id Q' e a' w' := by
      intro Q Q' hq h
      cases e with
      | exit j =>
        revert h
        show (if j = id then _ else _) → (if j = id then _ else _)
        split
        · exact hq _ _ _
        · exact hq _ _ _
      | _ => exact hq _ _ _ h
    rcases h with h | ⟨D, m1, w1, h1, h2, h3, h4, h⟩
    · exact up (fun _ _ _ q => .inl q) (blk h)
    · exact up (fun _ _ _ q => .inr ⟨D, m1, w1, h1, h2, h3, h4, q⟩) (blk h)
  | rangeFunc g ps asg bd _ _ =>
    intro m bk st a w K1 K2 S k
    refine rangeB_sound H S k fun D W st' m' bk' hD k' S' hW => .inr ⟨D, m', W, S'.below, S'.ext, Nat.le_trans S.n0le hD, hW, st', m', bk', k', ?_⟩
    refine { hold := S'.hold, tab := S'.tab, ext := Mem.ext_refl _ _, below := Below.refl _ _, len := S'.len, ents := S'.ents, apart := S'.apart, env := S'.env, defers := ?_, fix := S'.fix, gh := S'.gh, base := S'.n0le, keep := fun b hb => ?_ }
    · show _ :: a.defers = _
      rw [S.defers, hd]; rfl
    · have hb : b = D := hb
      subst hb
      refine ⟨(Array.getElem?_eq_some_iff.1 hW).1, rfl, fun i hi => ?_⟩
      obtain ⟨kn, h3, h4⟩ := Option.bind_eq_some_iff.1 hi
      have hil : i < st'.hp.length := by rw [← S'.len]; exact (List.getElem?_eq_some_iff.1 h3).1
      obtain ⟨k1, q1, q2⟩ := S'.ents i _ (List.getElem?_eq_getElem hil)
      rw [h3] at q1
      cases q1
      obtain ⟨cs', t', q3, _⟩ := q2.cells h4
      rw [hW] at q3
      cases q3
  | _ => intro m bk st a w K1 K2 S k; exact k.elim
end

/-- THE CONTRACT, out of the condition. -/
theorem fnN_sound {c : Cfg} (H : HanOK c) {f : FuncId} {args : List EV} {out : Shape} {R : out.Val → Prop} (k : c.fnNK f args out R) : FnE c.toBase f args out R := by
  unfold Cfg.fnNK at k
  split at k
  · rename_i fn hf
    split at k
    · rename_i b hb
      obtain ⟨hc, k⟩ := cond_true' k
      simp only [Bool.and_eq_true, Bool.not_eq_true'] at hc
      refine ⟨⟨fn, b, hf, hb, hc.2⟩, fun m w us ht hh hargs => (callsIn_wide (n := 6)).1 (callsIn_of_wp_marks hf hb trivial ?_)⟩
      have hsz : ∀ d ∈ b.dsts', d < (us.toArray ++ Array.replicate (fn.ntmps - us.toArray.size) undef).size := by
        intro d hd
        have := List.all_eq_true.1 hc.1 d hd
        have h1 : d < fn.ntmps := Nat.le_of_ble_eq_true this
        simp only [Array.size_append, Array.size_replicate, List.size_toArray]
        omega
      have S : Sat c m w { W := b.dsts', tmps := us.toArray ++ Array.replicate (fn.ntmps - us.toArray.size) undef, fe := fun _ => none, gh := fun _ _ => False, n0 := w.heap.size, keep := fun _ => False, dfr := [] } m [] { env := fun i => (args[i]?).getD .bot, hp := [] }
          { tmps := us.toArray ++ Array.replicate (fn.ntmps - us.toArray.size) undef, defers := [] } w := by
        refine { hold := hh, tab := ht, ext := Mem.ext_refl _ m, below := Below.refl _ w, len := rfl, ents := fun i e he => by simp at he, apart := fun i j b hi => by simp at hi, env := fun i => ?_, defers := rfl, fix := ⟨rfl, fun _ _ => rfl, hsz, fun i e k hk => by cases hk⟩, gh := fun _ _ h => h.elim, base := Nat.le_refl _, keep := fun _ h => h.elim }
        show Rep c.P m ((args[i]?).getD .bot) (J [] []) ((us.toArray ++ Array.replicate (fn.ntmps - us.toArray.size) undef).getD i undef)
        cases hv : args[i]? with
        | none => trivial
        | some v =>
          obtain ⟨u, h1, h2⟩ := RepL_get hargs hv
          have hi := (List.getElem?_eq_some_iff.1 h1).1
          have : (us.toArray ++ Array.replicate (fn.ntmps - us.toArray.size) undef).getD i undef = u := by
            rw [Array.getD_eq_getD_getElem?, Array.getElem?_append_left (by simpa using hi)]
            simp [h1]
          show Rep c.P m v (J [] []) ((us.toArray ++ Array.replicate (fn.ntmps - us.toArray.size) undef).getD i undef)
          rw [this]
          exact Rep_mono (Mem.le_refl m) v (fun _ _ q => q.elim) h2
      have fin : ∀ {st2 : St} {m1 m2 : Mem} {bk2 : List Cn} {a2 : Act} {w1 w2 : World} {fx2 : Fx}, fx2.n0 = w.heap.size → Below w.heap.size w w1 → Mem.ext w.heap.size m m1 → c.retK fn out st2 R → Sat c m1 w1 fx2 m2 bk2 st2 a2 w2 → ∃ v, (results fn a2.tmps).run c.P w2 = .ok v w2 ∧ PostOf (fun m v => ∃ r, R r ∧ (Reps c.P out).V m r v) m w (.returned v) w2 := by
        intro st2 m1 m2 bk2 a2 w1 w2 fx2 hn hb1 hm1 k2 S2
        have he := S2.ext
        have hb := S2.below
        have hf := frzM_ext S2 (fun i => ∃ x, st2.hp[i]? = some x)
        rw [hn] at he hb hf
        obtain ⟨v, h1, h2⟩ := ret_sound S2 k2
        exact ⟨v, h1, v, _, rfl, Mem.ext_trans hm1 (Mem.ext_trans he hf), frzM_holds S2 _, hb1.trans hb, h2⟩
      have mark : ∀ {D : Nat} {st2 : St} {m1 m2 : Mem} {bk2 : List Cn} {a2 : Act} {w1 w2 : World}, Below w.heap.size w w1 → Mem.ext w.heap.size m m1 → w.heap.size ≤ D → w1.heap[D]? = some (.deferred (some [])) → c.retK fn out st2 R →
          Sat c m1 w1 (Fx.at { W := b.dsts', tmps := us.toArray ++ Array.replicate (fn.ntmps - us.toArray.size) undef, fe := fun _ => none, gh := fun _ _ => False, n0 := w.heap.size, keep := fun _ => False, dfr := [] } D) m2 bk2 st2 a2 w2 →
          LeavesInM Fence.wide 6 c.P fn a2.tmps (PostOf (fun m v => ∃ r, R r ∧ (Reps c.P out).V m r v) m w) a2.defers .returning w2 := by
        intro D st2 m1 m2 bk2 a2 w1 w2 h1 h2 h3 h4 k2 S2
        have hD : w2.heap[D]? = some (.deferred (some [])) := (S2.keep D rfl).2.1.trans h4
        have ot : ∀ kk, kk ≠ D → (w2.putObj D (.deferred none)).heap[kk]? = w2.heap[kk]? := fun kk hk => World.putObj_heap_other hk
        have S3 := (S2.drop).move (w' := w2.putObj D (.deferred none)) (S2.below.grown (grownBy_putObj' w2 D (.deferred none)) S2.n0le (fun kk e => by cases e; exact h3)) (fun bb o q1 q2 => by
            have hne : bb ≠ D := fun e => by
              subst e
              rw [hD] at q1
              cases q1
              cases q2
            rw [ot bb hne]; exact q1) (fun bb hb _ => hb.elim)
        · obtain ⟨v, r1, r2⟩ := fin rfl h1 h2 k2 S3
          have hdf : a2.defers = [{ target := .collected D, args := #[] }] := S2.defers
          rw [hdf]
          exact ⟨by simp, .inl ⟨D, _, rfl, run_takeDeferred hD, v, r1, r2⟩⟩
      refine wpIn_mono (spN_sound H rfl b S k) fun e a2 w2 h => ?_
      rcases h with h | ⟨D, m1, w1, h1, h2, h3, h4, h⟩
      · cases e with
        | normal => obtain ⟨st2, m2, bk2, k2, S2⟩ := h; obtain ⟨v, r⟩ := fin rfl (Below.refl _ _) (Mem.ext_refl _ _) k2 S2; show LeavesInM _ _ _ _ _ _ a2.defers _ _; rw [S2.defers]; exact ⟨v, r⟩
        | ret => obtain ⟨st2, m2, bk2, k2, S2⟩ := h; obtain ⟨v, r⟩ := fin rfl (Below.refl _ _) (Mem.ext_refl _ _) k2 S2; show LeavesInM _ _ _ _ _ _ a2.defers _ _; rw [S2.defers]; exact ⟨v, r⟩
        | exit id => obtain ⟨st2, m2, bk2, k2, S2⟩ := h; exact k2.elim
        | goto l => exact h.elim
        | panic ch => exact h.elim
        | outgrown => exact h.elim
      · cases e with
        | normal => obtain ⟨st2, m2, bk2, k2, S2⟩ := h; exact mark h1 h2 h3 h4 k2 S2
        | ret => obtain ⟨st2, m2, bk2, k2, S2⟩ := h; exact mark h1 h2 h3 h4 k2 S2
        | exit id => obtain ⟨st2, m2, bk2, k2, S2⟩ := h; exact k2.elim
        | goto l => exact h.elim
        | panic ch => exact h.elim
        | outgrown => exact h.elim
    · exact k.elim
  · exact k.elim
end Go.Proofs.YtdlgenbfnahmeaaGreatDoor.V

