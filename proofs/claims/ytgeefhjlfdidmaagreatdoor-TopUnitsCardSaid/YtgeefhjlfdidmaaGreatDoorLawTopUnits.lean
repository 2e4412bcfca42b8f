/- For every input lustrum/lustrumtop.TopUnits returns true and never panics, and its argument reads afterwards as it read before; the package-level variables that the row lists are tied to the program's text by the card. No condition of our own. (The row over the condition's own law; written by a program of this session, wip/vc/row.py.) -/
import Derived.Test.YtgeefhjlfdidmaaGreatDoorCards
import Derived.Test.YtgeefhjlfdidmaaGreatDoorTie
import Derived.Test.YtgeefhjlfdidmaaGreatDoorM10
import Derived.Test.YtgeefhjlfdidmaaGreatDoorFactTopUnits
import Derived.WalkKit
import Derived.ProofKit
import Derived.OpenShut
import Derived.ChangeOld
import Derived.Below
import Derived.SizedLaws
import Derived.Deep.DeepHandedRow
import Derived.Lib.LaidTab
namespace Go.Proofs.YtgeefhjlfdidmaaGreatDoor.topUnits
open Go.ChangeShapes Go.WideShapes Go.ChangeAt Go.RowKit
set_option linter.unusedVariables false
set_option linter.unusedSimpArgs false

theorem own : ownKnob Tryz.prog.godebug = none := by kernel_rfl
theorem laidOut : laidOutB Tryz.prog = true := by kernel_rfl
theorem gTab : Tryz.prog.globalNamed "lustrum/civil.lengths" = some 0 := by kernel_rfl
theorem gTabType : (Tryz.prog.globals[0]?).map (·.type) = some 197 := by kernel_rfl
theorem cellsTab : Tryz.prog.cellsOf 197 = 13 := by kernel_rfl
theorem cellsInt : Tryz.prog.cellsOf 3 = 1 := by kernel_rfl
theorem readable0 : Tryz.prog.readableRec 23 = true := by kernel_rfl
theorem below0 : 23 < Tryz.prog.types.size := of_decide_eq_true (by kernel_rfl)
theorem metH (W : World) : laidMetH Tryz.prog Rows.topUnitsRow.laid W = laidMet Tryz.prog Rows.topUnitsRow.laid W := by kernel_rfl

theorem tabOK {W : World} (h : laidMetH Tryz.prog Rows.topUnitsRow.laid W) : V.TabOK V.bs.tab (V.allM W) := by
  rw [metH] at h
  have t : Lib.TabIs Tryz.prog W "lustrum/civil.lengths" .i64 [0, 31, 28, 31, 30, 31, 30, 31, 31, 30, 31, 30, 31] := Lib.tabIs_of_head gTab gTabType Tryz.underlying197 Tryz.underlying3 cellsInt cellsTab (V.laid_tail (V.laid_tail (V.laid_tail (V.laid_tail (V.laid_tail h)))))
  refine V.tab_ok t gTab fun g l' hg => ?_
  have hg : V.tab g = some l' := hg
  unfold V.tab at hg
  split at hg
  · exact ⟨rfl, (Option.some.inj hg).symm⟩
  · cases hg

set_option maxRecDepth 100000 in
theorem contract (H : Type) (enc : TypeId × Value → H) (W : World) (base : Nat) (args : Array Value) (ds gs : List (DataW H)) (before : List MemPlace)
    (hval0 : ∀ (j : Nat) t v, Tryz.f3.params[j]? = some t → args[j]? = some v → Value.okWide Tryz.prog W .any base t v)
    (hW : DataW.Whole enc Tryz.prog Tryz.f3.params.toList Rows.topUnitsSpec.vars false W args.toList ds gs before)
    (hL : laidMetH Tryz.prog Rows.topUnitsRow.laid W) :
    Calls Tryz.prog 3 args W fun e W' => ∃ v, e = .returned v ∧ Rows.topUnitsSpec.post enc Tryz.prog Tryz.f3 false true false false W args v W' := by
  have hval := hval0
  have hW' := hW
  obtain ⟨p, q, hA0, hV, rfl, hfz, hnd⟩ := hW
  have hA : DataW.TrodAll enc Tryz.prog W 0 (fun _ => true) true Tryz.f3.params.toList args.toList ds p := hA0
  rw [Tryz.params3] at hA hval
  obtain ⟨v0, vs0, d0, ds0, p0, q0, hargs0, rfl, hp0, h0, r0⟩ := trodAll_cons hA
  obtain ⟨rfl, rfl, rfl⟩ := trodAll_nil r0
  obtain rfl : args = #[v0] := by cases args; simp_all
  obtain ⟨rfl, rfl⟩ := trodVars_none hV
  obtain ⟨k, y, m, d', rfl⟩ := V.open_point (P := Tryz.prog) Tryz.underlying23 (by kernel_rfl) Tryz.underlying3 Tryz.underlying9 (by kernel_rfl) cellsInt (by kernel_rfl) (hval 0 23 v0 rfl rfl) h0
  have lt0 : ∀ x ∈ p0, x.block < W.heap.size := fun x hx => by simpa using hW'.lt x (by simp [hp0, hx])
  have hc := V.units_call (k := k) (y := y) (m := m) (d := d') (tabOK hL)
  refine Calls.mono hc fun e W' ⟨he, bel⟩ => ?_
  subst he
  exact ⟨_, rfl, _, _, _, [], _, [], hW', trodAll_mk1 (shut_bool Tryz.underlying4 _), (trodAll_cons_mk (Below.trod laidOut readable0 below0 h0 bel (lt0)) trodAll_mk0), rfl, bel.frame _, fun h => by cases h⟩

/-- A WORLD FOR THE WITNESS: the settled one, the table holding what its initialiser lays. -/
noncomputable def laidWorld (os : Os) : World :=
  { World.holding Tryz.prog os ⟨#[], #[], []⟩ with heap := ((((((((World.holding Tryz.prog os ⟨#[], #[], []⟩).heap.modify 6 (V.layD Rows.laid_math_bits_deBruijn32tab)).modify 7 (V.layD Rows.laid_math_bits_deBruijn64tab)).modify 5 (V.layD Rows.laid_internal_strconv_uint64pow10)).modify 3 (V.layD Rows.laid_unicode_utf8_acceptRanges)).modify 4 (V.layD Rows.laid_lustrum_allen_names)).modify 0 (V.layD Rows.laid_lustrum_civil_lengths)).modify 2 (V.layD Rows.laid_unicode_utf8_first)) }
theorem laid_met (os : Os) : laidMet Tryz.prog Rows.topUnitsRow.laid ((laidWorld os).forCall (fun _ _ => 0) ⟨#[], #[.agg #[.int .i64 0, .string ⟨#[]⟩, .string ⟨#[]⟩, .string ⟨#[]⟩]], []⟩).memory :=
  laidMet_of_run' 8 (by kernel_rfl) (by kernel_rfl)
theorem reads (os : Os) {H : Type} (enc : TypeId × Value → H) : ∃ places, DataW.whole enc Tryz.prog ((laidWorld os).forCall (fun _ _ => 0) ⟨#[], #[.agg #[.int .i64 0, .string ⟨#[]⟩, .string ⟨#[]⟩, .string ⟨#[]⟩]], []⟩).memory Tryz.f3.params.toList Rows.topUnitsSpec.vars false (#[.agg #[.int .i64 0, .string ⟨#[]⟩, .string ⟨#[]⟩, .string ⟨#[]⟩]] : Array Value).toList 8 = some ([.agg [.lit (.int .i64 0), .lit (.string []), .lit (.string []), .lit (.string [])]], [], places) :=
  ⟨[], by kernel_rfl⟩

set_option maxRecDepth 100000 in
theorem lifted (os : Os) (started : os.Started) (H : Type) (enc : TypeId × Value → H) (F : Stop.Interp) :
    ReturnsInHanded {} Tryz.checked os 3 .any ((OpenSpec.ofChange Rows.topUnitsSpec).preRow enc Tryz.prog Tryz.f3 Rows.topUnitsRow.domain false Rows.topUnitsRow.laid) (((OpenSpec.ofChange Rows.topUnitsSpec).at F).post enc Tryz.prog Tryz.f3 false true false false) := by
  obtain ⟨places, hx⟩ := reads os enc
  refine returnsInHanded_of_row (C := Tryz.checked) (s := OpenSpec.ofChange Rows.topUnitsSpec) own started (by kernel_rfl) Tryz.func3
    (witness_row_at (enc := enc) (C := Tryz.checked) false (laidWorld os) #[.agg #[.int .i64 0, .string ⟨#[]⟩, .string ⟨#[]⟩, .string ⟨#[]⟩]] rfl (by kernel_rfl) (by kernel_rfl) (by kernel_rfl)
      (OpenSpec.preRow_of_cond 8 hx (by kernel_rfl) (fun k hk => by cases hk) (by kernel_rfl) (laid_met os))) ?_
  intro W base args ds gs before hval hW _ _ hsz hL _ _
  exact contract H enc W base args ds gs before hval hW hL

theorem said : Rows.TopUnitsSaid :=
  OpenClaim.holds_of_cond 3 Tryz.f3 rfl rfl rfl rfl rfl rfl rfl ⟨rfl, rfl, rfl, rfl, rfl⟩ rfl rfl rfl rfl rfl (by kernel_rfl) Tryz.func3 facts
    (of_decide_eq_true (by kernel_rfl)) (by unfold Func.isWrapper; first | (rw [if_pos (by decide +kernel)]; kernel_rfl) | (rw [if_neg (by decide +kernel)]; exact ⟨rfl, rfl⟩))
    (fun os started H enc _ F => by rw [OpenClaim.pre_eq_preRow]; exact lifted os started H enc F)

/-- No parameter wants a stand-in; the program's own looks are off: what the card asks. -/
theorem plain (f : FuncId) (fn : Func) (hf : Tryz.pinned.checked.prog.funcNamed "lustrum/lustrumtop.TopUnits" = some f) (hfn : Tryz.pinned.checked.prog.funcs[f]? = some fn) :
    true = Tryz.pinned.checked.prog.looks [] ∧ ∀ (j : Nat) t, fn.params[j]? = some t → Tryz.pinned.checked.prog.wantsStandIn t = false := by
  obtain rfl : f = 3 := Option.some.inj ((show Tryz.prog.funcNamed "lustrum/lustrumtop.TopUnits" = some 3 by kernel_rfl).symm.trans hf) |>.symm
  obtain rfl : fn = Tryz.f3 := (Option.some.inj (Tryz.func3.symm.trans hfn)).symm
  refine ⟨factP.looks, fun j t ht => ?_⟩
  rw [Tryz.params3] at ht
  have ht : t ∈ ([23] : List Nat) := by simpa using Array.mem_of_getElem? ht
  simp only [List.mem_cons, List.not_mem_nil, or_false] at ht
  rcases ht with rfl
  · exact (show Tryz.prog.wantsStandIn 23 = false by kernel_rfl)

theorem card : Rows.TopUnitsCardSaid :=
  Claim7.holds_tied_plain_at .later [] _ _ _ _ said (fun _ h => by cases h) cardW (fun _ h => by cases h) topUnits_row_tie rfl ⟨rfl, rfl⟩ factP.mainIs rfl plain cardG
#print axioms card
end Go.Proofs.YtgeefhjlfdidmaaGreatDoor.topUnits
namespace Go.Proofs.YtgeefhjlfdidmaaGreatDoor
/-- The card, under a short name, for the claim. -/
theorem topUnits_holds : Rows.TopUnitsCardSaid := topUnits.card
end Go.Proofs.YtgeefhjlfdidmaaGreatDoor
