/- For every input lustrum/lustrumlaw21.OrderCompare returns true and never panics, and each argument reads afterwards as it read before; the one package-level variable that it reads is tied to the program's text by the card. No condition of our own. (The row over the condition's own law; written by a program of this session, wip/vc/row.py.) -/
import Derived.Test.YtocmlcpcnjaaeaaDoorCards
import Derived.Test.YtocmlcpcnjaaeaaDoorTie
import Derived.Test.YtocmlcpcnjaaeaaDoorM8
import Derived.Test.YtocmlcpcnjaaeaaDoorFactOrderCompare
import Derived.WalkKit
import Derived.ProofKit
import Derived.OpenShut
import Derived.ChangeOld
import Derived.Below
import Derived.SizedLaws
import Derived.Deep.DeepHandedRow
import Derived.Lib.LaidTab
namespace Go.Proofs.YtocmlcpcnjaaeaaDoor.orderCompare
open Go.ChangeShapes Go.WideShapes Go.ChangeAt Go.RowKit
set_option linter.unusedVariables false
set_option linter.unusedSimpArgs false

theorem own : ownKnob Tryd.prog.godebug = none := by kernel_rfl
theorem laidOut : laidOutB Tryd.prog = true := by kernel_rfl
theorem gTab : Tryd.prog.globalNamed "lustrum/civil.lengths" = some 0 := by kernel_rfl
theorem gTabType : (Tryd.prog.globals[0]?).map (·.type) = some 116 := by kernel_rfl
theorem cellsTab : Tryd.prog.cellsOf 116 = 13 := by kernel_rfl
theorem cellsInt : Tryd.prog.cellsOf 3 = 1 := by kernel_rfl
theorem lay0 : (V.lay Tryd.prog (.st (.pair (.int .i64) (.int .i64)))).1 36 = true := by kernel_rfl
theorem readable0 : Tryd.prog.readableRec 36 = true := by kernel_rfl
theorem below0 : 36 < Tryd.prog.types.size := of_decide_eq_true (by kernel_rfl)
theorem lay1 : (V.lay Tryd.prog (.st (.pair (.int .i64) (.int .i64)))).1 36 = true := by kernel_rfl
theorem readable1 : Tryd.prog.readableRec 36 = true := by kernel_rfl
theorem below1 : 36 < Tryd.prog.types.size := of_decide_eq_true (by kernel_rfl)
theorem lay2 : (V.lay Tryd.prog (.st (.pair (.int .i64) (.int .i64)))).1 36 = true := by kernel_rfl
theorem readable2 : Tryd.prog.readableRec 36 = true := by kernel_rfl
theorem below2 : 36 < Tryd.prog.types.size := of_decide_eq_true (by kernel_rfl)
theorem tabOK {W : World} (h : laidMetH Tryd.prog Rows.orderCompareRow.laid W) : V.TabOK V.bs.tab (V.allM W) := by
  have t : Lib.TabIs Tryd.prog W "lustrum/civil.lengths" .i64 [0, 31, 28, 31, 30, 31, 30, 31, 31, 30, 31, 30, 31] := Lib.tabIs_of_head (rest := []) gTab gTabType Tryd.underlying116 Tryd.underlying3 cellsInt cellsTab h
  refine V.tab_ok t gTab fun g l' hg => ?_
  have hg : V.tab g = some l' := hg
  unfold V.tab at hg
  split at hg
  · exact ⟨rfl, (Option.some.inj hg).symm⟩
  · cases hg

set_option maxRecDepth 100000 in
theorem contract (H : Type) (enc : TypeId × Value → H) (W : World) (base : Nat) (args : Array Value) (ds gs : List (DataW H)) (before : List MemPlace)
    (hval0 : ∀ (j : Nat) t v, Tryd.f4.params[j]? = some t → args[j]? = some v → Value.okWide Tryd.prog W .any base t v)
    (hW : DataW.Whole enc Tryd.prog Tryd.f4.params.toList Rows.orderCompareSpec.vars false W args.toList ds gs before)
    (hL : laidMetH Tryd.prog Rows.orderCompareRow.laid W) :
    Calls Tryd.prog 4 args W fun e W' => ∃ v, e = .returned v ∧ Rows.orderCompareSpec.post enc Tryd.prog Tryd.f4 false true false false W args v W' := by
  have hval := hval0
  have hW' := hW
  obtain ⟨p, q, hA0, hV, rfl, hfz, hnd⟩ := hW
  have hA : DataW.TrodAll enc Tryd.prog W 0 (fun _ => true) true Tryd.f4.params.toList args.toList ds p := hA0
  rw [Tryd.params4] at hA hval
  obtain ⟨v0, vs0, d0, ds0, p0, q0, hargs0, rfl, hp0, h0, r0⟩ := trodAll_cons hA
  obtain ⟨v1, vs1, d1, ds1, p1, q1, hargs1, rfl, hp1, h1, r1⟩ := trodAll_cons r0
  obtain ⟨v2, vs2, d2, ds2, p2, q2, hargs2, rfl, hp2, h2, r2⟩ := trodAll_cons r1
  obtain ⟨rfl, rfl, rfl⟩ := trodAll_nil r2
  obtain rfl : args = #[v0, v1, v2] := by cases args; simp_all
  obtain ⟨rfl, rfl⟩ := trodVars_none hV
  obtain ⟨y0, V0, R0⟩ := V.open_arg (P := Tryd.prog) (s := (.st (.pair (.int .i64) (.int .i64)))) (lay0) (hval 0 36 v0 rfl rfl) h0
  obtain ⟨y1, V1, R1⟩ := V.open_arg (P := Tryd.prog) (s := (.st (.pair (.int .i64) (.int .i64)))) (lay1) (hval 1 36 v1 rfl rfl) h1
  obtain ⟨y2, V2, R2⟩ := V.open_arg (P := Tryd.prog) (s := (.st (.pair (.int .i64) (.int .i64)))) (lay2) (hval 2 36 v2 rfl rfl) h2
  have lt0 : ∀ x ∈ p0, x.block < W.heap.size := fun x hx => by simpa using hW'.lt x (by simp [hp0, hp1, hp2, hx])
  have lt1 : ∀ x ∈ p1, x.block < W.heap.size := fun x hx => by simpa using hW'.lt x (by simp [hp0, hp1, hp2, hx])
  have lt2 : ∀ x ∈ p2, x.block < W.heap.size := fun x hx => by simpa using hW'.lt x (by simp [hp0, hp1, hp2, hx])
  have hc := V.row_call (c := V.bs) (f := 4) (ins := (.pair (.st (.pair (.int .i64) (.int .i64))) (.pair (.st (.pair (.int .i64) (.int .i64))) (.st (.pair (.int .i64) (.int .i64)))))) (x := (y0, y1, y2)) (V.ok_OrderCompare (y0, y1, y2)) (tabOK hL) (V.args_pair V0 (V.args_pair V1 (V.args_last lay2 V2)))
  refine Calls.mono hc fun e W' ⟨he, bel⟩ => ?_
  subst he
  exact ⟨_, rfl, _, _, _, [], _, [], hW', trodAll_mk1 (shut_bool Tryd.underlying4 _), (trodAll_cons_mk (Below.trod laidOut readable0 below0 h0 bel (lt0)) (trodAll_cons_mk (Below.trod laidOut readable1 below1 h1 bel (lt1)) (trodAll_cons_mk (Below.trod laidOut readable2 below2 h2 bel (lt2)) trodAll_mk0))), rfl, bel.frame _, fun h => by cases h⟩

/-- A WORLD FOR THE WITNESS: the settled one, the table holding what its initialiser lays. -/
noncomputable def laidWorld (os : Os) : World :=
  { World.holding Tryd.prog os ⟨#[], #[], []⟩ with heap := (World.holding Tryd.prog os ⟨#[], #[], []⟩).heap.modify 0 fun
      | .cells _ t frozen => .cells #[.int .i64 0, .int .i64 31, .int .i64 28, .int .i64 31, .int .i64 30, .int .i64 31, .int .i64 30, .int .i64 31, .int .i64 31, .int .i64 30, .int .i64 31, .int .i64 30, .int .i64 31] t frozen
      | o => o }
theorem laid_met (os : Os) : laidMet Tryd.prog Rows.orderCompareRow.laid ((laidWorld os).forCall (fun _ _ => 0) ⟨#[], #[.agg #[.int .i64 0, .int .i64 0], .agg #[.int .i64 0, .int .i64 0], .agg #[.int .i64 0, .int .i64 0]], []⟩).memory :=
  laidMet_of_run' 8 (by kernel_rfl) (by kernel_rfl)
theorem reads (os : Os) {H : Type} (enc : TypeId × Value → H) : ∃ places, DataW.whole enc Tryd.prog ((laidWorld os).forCall (fun _ _ => 0) ⟨#[], #[.agg #[.int .i64 0, .int .i64 0], .agg #[.int .i64 0, .int .i64 0], .agg #[.int .i64 0, .int .i64 0]], []⟩).memory Tryd.f4.params.toList Rows.orderCompareSpec.vars false (#[.agg #[.int .i64 0, .int .i64 0], .agg #[.int .i64 0, .int .i64 0], .agg #[.int .i64 0, .int .i64 0]] : Array Value).toList 8 = some ([.agg [.lit (.int .i64 0), .lit (.int .i64 0)], .agg [.lit (.int .i64 0), .lit (.int .i64 0)], .agg [.lit (.int .i64 0), .lit (.int .i64 0)]], [], places) :=
  ⟨[], by kernel_rfl⟩

set_option maxRecDepth 100000 in
theorem lifted (os : Os) (started : os.Started) (H : Type) (enc : TypeId × Value → H) (F : Stop.Interp) :
    ReturnsInHanded {} Tryd.checked os 4 .any ((OpenSpec.ofChange Rows.orderCompareSpec).preRow enc Tryd.prog Tryd.f4 Rows.orderCompareRow.domain false Rows.orderCompareRow.laid) (((OpenSpec.ofChange Rows.orderCompareSpec).at F).post enc Tryd.prog Tryd.f4 false true false false) := by
  obtain ⟨places, hx⟩ := reads os enc
  refine returnsInHanded_of_row (C := Tryd.checked) (s := OpenSpec.ofChange Rows.orderCompareSpec) own started (by kernel_rfl) Tryd.func4
    (witness_row_at (enc := enc) (C := Tryd.checked) false (laidWorld os) #[.agg #[.int .i64 0, .int .i64 0], .agg #[.int .i64 0, .int .i64 0], .agg #[.int .i64 0, .int .i64 0]] rfl (by kernel_rfl) (by kernel_rfl) (by kernel_rfl)
      (OpenSpec.preRow_of_cond 8 hx (by kernel_rfl) (fun k hk => by cases hk) (by kernel_rfl) (laid_met os))) ?_
  intro W base args ds gs before hval hW _ _ hsz hL _ _
  exact contract H enc W base args ds gs before hval hW hL

theorem said : Rows.OrderCompareSaid :=
  OpenClaim.holds_of_cond 4 Tryd.f4 rfl rfl rfl rfl rfl rfl rfl ⟨rfl, rfl, rfl, rfl, rfl⟩ rfl rfl rfl rfl rfl (by kernel_rfl) Tryd.func4 facts
    (of_decide_eq_true (by kernel_rfl)) (by unfold Func.isWrapper; first | (rw [if_pos (by decide +kernel)]; kernel_rfl) | (rw [if_neg (by decide +kernel)]; exact ⟨rfl, rfl⟩))
    (fun os started H enc _ F => by rw [OpenClaim.pre_eq_preRow]; exact lifted os started H enc F)

/-- No parameter wants a stand-in; the program's own looks are off: what the card asks. -/
theorem plain (f : FuncId) (fn : Func) (hf : Tryd.pinned.checked.prog.funcNamed "lustrum/lustrumlaw21.OrderCompare" = some f) (hfn : Tryd.pinned.checked.prog.funcs[f]? = some fn) :
    true = Tryd.pinned.checked.prog.looks [] ∧ ∀ (j : Nat) t, fn.params[j]? = some t → Tryd.pinned.checked.prog.wantsStandIn t = false := by
  obtain rfl : f = 4 := Option.some.inj ((show Tryd.prog.funcNamed "lustrum/lustrumlaw21.OrderCompare" = some 4 by kernel_rfl).symm.trans hf) |>.symm
  obtain rfl : fn = Tryd.f4 := (Option.some.inj (Tryd.func4.symm.trans hfn)).symm
  refine ⟨factP.looks, fun j t ht => ?_⟩
  rw [Tryd.params4] at ht
  have ht : t ∈ ([36, 36, 36] : List Nat) := by simpa using Array.mem_of_getElem? ht
  simp only [List.mem_cons, List.not_mem_nil, or_false] at ht
  rcases ht with rfl | rfl | rfl
  · exact (show Tryd.prog.wantsStandIn 36 = false by kernel_rfl)
  · exact (show Tryd.prog.wantsStandIn 36 = false by kernel_rfl)
  · exact (show Tryd.prog.wantsStandIn 36 = false by kernel_rfl)

theorem card : Rows.OrderCompareCardSaid :=
  Claim7.holds_tied_plain_at .later [] _ _ _ _ said (fun _ h => by cases h) cardW (fun _ h => by cases h) orderCompare_row_tie rfl ⟨rfl, rfl⟩ factP.mainIs rfl plain cardG
#print axioms card
end Go.Proofs.YtocmlcpcnjaaeaaDoor.orderCompare
namespace Go.Proofs.YtocmlcpcnjaaeaaDoor
/-- The card, under a short name, for the claim. -/
theorem orderCompare_holds : Rows.OrderCompareCardSaid := orderCompare.card
end Go.Proofs.YtocmlcpcnjaaeaaDoor
