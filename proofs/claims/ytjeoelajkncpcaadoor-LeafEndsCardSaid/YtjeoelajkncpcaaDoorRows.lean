/-
  NARROWER THAN 'FOR EVERY INPUT', by the rows' own cells (each row's printed sentence says how): ImageIs: laid · ImageInside: laid · ImageMore: laid · ImageEnds: laid · ImageCover: laid · LeafCovers: laid · LeafPairs: laid · LeafMeans: laid · LeafTidy: laid · LeafMore: laid · LeafEnds: laid · EnvIs: laid · EnvMore: laid · EnvMet: laid · EnvPairs: laid · CoverSets: laid · CoverMore: laid · CoverEnds: laid · CoverPairs: laid.
  DERIVED. THE GIVEN ROWS OF THIS SEAT. 19 by the template 'for every input the law returns true; each argument reads behind the call as it read before'; 0 by the template 'total and deterministic' (their statements: YtjeoelajkncpcaaDoorTotals.lean).
  GIVEN WITH THE SEED: the statements are not yours to turn. If you find one false, say at which input.
  Laid BY PROGRAM, IN A SANDBOX (cutbox-rows.mjs): the forced cells as the released guide's own fill.sh prints them over the translation 8cd1ff9c3f19cb7b… (all of the seat's roots in one cut). By AI agents, Wed Nov 11 2026. No macro, syntax, notation, axiom, sorry.
-/
import Derived.Test.YtjeoelajkncpcaaDoorChecked
import GoSem.Claim
import GoSem.ClaimJoined
import GoSem.ClaimMapViews
import Derived.JoinedTies
import Derived.KernelRfl
namespace Go.Proofs.YtjeoelajkncpcaaDoor
/- THE CELL 'sum', in the pinned program and in every row, IS THE sha256 OF THE DUMP (.gsa) THAT YtjeoelajkncpcaaDoorProg.lean LOADS. Nothing in Lean hashes anything: it is a label: what it is worth is what the hold of that sum in a sandbox is worth. -/
noncomputable def Tryd.pinned : Pinned := { name := "ytjeoelajkncpcaadoor", sum := "8cd1ff9c3f19cb7b6aab04f66ce9826e91295207a116cae705f0348ed15992ce", checked := Tryd.checked }
namespace Rows
def none {H : Type} : Left H := { results := [], args := [] }

/- WHAT THE LISTED PACKAGE-LEVEL VARIABLES READ AS WHEN THE CALL BEGINS. Each datum BY PROGRAM (the guide's laid-datum.mjs) off the statement by which the dump's own 'gosem.cut.vars' lays the variable. In a bare row this is a premise. The card (YtjeoelajkncpcaaDoorCards.lean) ties it to the program's text. -/
def laid_lustrum_civil_lengths {H : Type} : DataW H := .agg [.lit (.int .i64 0), .lit (.int .i64 31), .lit (.int .i64 28), .lit (.int .i64 31), .lit (.int .i64 30), .lit (.int .i64 31), .lit (.int .i64 30), .lit (.int .i64 31), .lit (.int .i64 31), .lit (.int .i64 30), .lit (.int .i64 31), .lit (.int .i64 30), .lit (.int .i64 31)]

/-- 'lustrumlaw07.ImageIs': WHATEVER THE INPUT: true; the input reads as it did. -/
def imageIsSpec : ChangeSpec := { name := "imageIs", fn := fun _ => fun
  | [d1, d2, d3, d4] => { results := [.lit (.bool true)], args := [d1, d2, d3, d4] }
  | _ => none }
def imageIsRow : OpenClaim := { program := "ytjeoelajkncpcaadoor", sum := "8cd1ff9c3f19cb7b6aab04f66ce9826e91295207a116cae705f0348ed15992ce", func := "lustrum/lustrumlaw07.ImageIs", spec := "imageIs", unfollowed := true, recurses := true, named := ["lustrum/civil.lengths"], apart := false, laid := [("lustrum/civil.lengths", laid_lustrum_civil_lengths)] }
def ImageIsSaid : Prop := imageIsRow.holds Tryd.pinned (OpenSpec.ofChange imageIsSpec)

/-- ITS FALSE NEIGHBOUR: 'it returns false'. Refute it at one input. -/
def imageIsWrong : ChangeSpec := { name := "imageIs", fn := fun _ => fun
  | [d1, d2, d3, d4] => { results := [.lit (.bool false)], args := [d1, d2, d3, d4] }
  | _ => none }
def ImageIsWrongFalsely : Prop := imageIsRow.holds Tryd.pinned (OpenSpec.ofChange imageIsWrong)

/-- 'lustrumlaw07.ImageInside': WHATEVER THE INPUT: true; the input reads as it did. -/
def imageInsideSpec : ChangeSpec := { name := "imageInside", fn := fun _ => fun
  | [d1, d2, d3, d4] => { results := [.lit (.bool true)], args := [d1, d2, d3, d4] }
  | _ => none }
def imageInsideRow : OpenClaim := { program := "ytjeoelajkncpcaadoor", sum := "8cd1ff9c3f19cb7b6aab04f66ce9826e91295207a116cae705f0348ed15992ce", func := "lustrum/lustrumlaw07.ImageInside", spec := "imageInside", unfollowed := true, recurses := true, named := ["lustrum/civil.lengths"], apart := false, laid := [("lustrum/civil.lengths", laid_lustrum_civil_lengths)] }
def ImageInsideSaid : Prop := imageInsideRow.holds Tryd.pinned (OpenSpec.ofChange imageInsideSpec)

/-- ITS FALSE NEIGHBOUR: 'it returns false'. Refute it at one input. -/
def imageInsideWrong : ChangeSpec := { name := "imageInside", fn := fun _ => fun
  | [d1, d2, d3, d4] => { results := [.lit (.bool false)], args := [d1, d2, d3, d4] }
  | _ => none }
def ImageInsideWrongFalsely : Prop := imageInsideRow.holds Tryd.pinned (OpenSpec.ofChange imageInsideWrong)

/-- 'lustrumlaw07.ImageMore': WHATEVER THE INPUT: true; the input reads as it did. -/
def imageMoreSpec : ChangeSpec := { name := "imageMore", fn := fun _ => fun
  | [d1, d2, d3] => { results := [.lit (.bool true)], args := [d1, d2, d3] }
  | _ => none }
def imageMoreRow : OpenClaim := { program := "ytjeoelajkncpcaadoor", sum := "8cd1ff9c3f19cb7b6aab04f66ce9826e91295207a116cae705f0348ed15992ce", func := "lustrum/lustrumlaw07.ImageMore", spec := "imageMore", unfollowed := true, recurses := true, named := ["lustrum/civil.lengths"], apart := false, laid := [("lustrum/civil.lengths", laid_lustrum_civil_lengths)] }
def ImageMoreSaid : Prop := imageMoreRow.holds Tryd.pinned (OpenSpec.ofChange imageMoreSpec)

/-- ITS FALSE NEIGHBOUR: 'it returns false'. Refute it at one input. -/
def imageMoreWrong : ChangeSpec := { name := "imageMore", fn := fun _ => fun
  | [d1, d2, d3] => { results := [.lit (.bool false)], args := [d1, d2, d3] }
  | _ => none }
def ImageMoreWrongFalsely : Prop := imageMoreRow.holds Tryd.pinned (OpenSpec.ofChange imageMoreWrong)

/-- 'lustrumlaw07.ImageEnds': WHATEVER THE INPUT: true; the input reads as it did. -/
def imageEndsSpec : ChangeSpec := { name := "imageEnds", fn := fun _ => fun
  | [d1, d2, d3] => { results := [.lit (.bool true)], args := [d1, d2, d3] }
  | _ => none }
def imageEndsRow : OpenClaim := { program := "ytjeoelajkncpcaadoor", sum := "8cd1ff9c3f19cb7b6aab04f66ce9826e91295207a116cae705f0348ed15992ce", func := "lustrum/lustrumlaw07.ImageEnds", spec := "imageEnds", unfollowed := true, recurses := true, named := ["lustrum/civil.lengths"], apart := false, laid := [("lustrum/civil.lengths", laid_lustrum_civil_lengths)] }
def ImageEndsSaid : Prop := imageEndsRow.holds Tryd.pinned (OpenSpec.ofChange imageEndsSpec)

/-- ITS FALSE NEIGHBOUR: 'it returns false'. Refute it at one input. -/
def imageEndsWrong : ChangeSpec := { name := "imageEnds", fn := fun _ => fun
  | [d1, d2, d3] => { results := [.lit (.bool false)], args := [d1, d2, d3] }
  | _ => none }
def ImageEndsWrongFalsely : Prop := imageEndsRow.holds Tryd.pinned (OpenSpec.ofChange imageEndsWrong)

/-- 'lustrumlaw07.ImageCover': WHATEVER THE INPUT: true; the input reads as it did. -/
def imageCoverSpec : ChangeSpec := { name := "imageCover", fn := fun _ => fun
  | [d1, d2, d3] => { results := [.lit (.bool true)], args := [d1, d2, d3] }
  | _ => none }
def imageCoverRow : OpenClaim := { program := "ytjeoelajkncpcaadoor", sum := "8cd1ff9c3f19cb7b6aab04f66ce9826e91295207a116cae705f0348ed15992ce", func := "lustrum/lustrumlaw07.ImageCover", spec := "imageCover", unfollowed := true, recurses := true, named := ["lustrum/civil.lengths"], apart := false, laid := [("lustrum/civil.lengths", laid_lustrum_civil_lengths)] }
def ImageCoverSaid : Prop := imageCoverRow.holds Tryd.pinned (OpenSpec.ofChange imageCoverSpec)

/-- ITS FALSE NEIGHBOUR: 'it returns false'. Refute it at one input. -/
def imageCoverWrong : ChangeSpec := { name := "imageCover", fn := fun _ => fun
  | [d1, d2, d3] => { results := [.lit (.bool false)], args := [d1, d2, d3] }
  | _ => none }
def ImageCoverWrongFalsely : Prop := imageCoverRow.holds Tryd.pinned (OpenSpec.ofChange imageCoverWrong)

/-- 'lustrumlaw14.LeafCovers': WHATEVER THE INPUT: true; the input reads as it did. -/
def leafCoversSpec : ChangeSpec := { name := "leafCovers", fn := fun _ => fun
  | [d1, d2] => { results := [.lit (.bool true)], args := [d1, d2] }
  | _ => none }
def leafCoversRow : OpenClaim := { program := "ytjeoelajkncpcaadoor", sum := "8cd1ff9c3f19cb7b6aab04f66ce9826e91295207a116cae705f0348ed15992ce", func := "lustrum/lustrumlaw14.LeafCovers", spec := "leafCovers", unfollowed := true, recurses := true, named := ["lustrum/civil.lengths"], apart := false, laid := [("lustrum/civil.lengths", laid_lustrum_civil_lengths)] }
def LeafCoversSaid : Prop := leafCoversRow.holds Tryd.pinned (OpenSpec.ofChange leafCoversSpec)

/-- ITS FALSE NEIGHBOUR: 'it returns false'. Refute it at one input. -/
def leafCoversWrong : ChangeSpec := { name := "leafCovers", fn := fun _ => fun
  | [d1, d2] => { results := [.lit (.bool false)], args := [d1, d2] }
  | _ => none }
def LeafCoversWrongFalsely : Prop := leafCoversRow.holds Tryd.pinned (OpenSpec.ofChange leafCoversWrong)

/-- 'lustrumlaw14.LeafPairs': WHATEVER THE INPUT: true; the input reads as it did. -/
def leafPairsSpec : ChangeSpec := { name := "leafPairs", fn := fun _ => fun
  | [d1, d2] => { results := [.lit (.bool true)], args := [d1, d2] }
  | _ => none }
def leafPairsRow : OpenClaim := { program := "ytjeoelajkncpcaadoor", sum := "8cd1ff9c3f19cb7b6aab04f66ce9826e91295207a116cae705f0348ed15992ce", func := "lustrum/lustrumlaw14.LeafPairs", spec := "leafPairs", unfollowed := true, recurses := true, named := ["lustrum/civil.lengths"], apart := false, laid := [("lustrum/civil.lengths", laid_lustrum_civil_lengths)] }
def LeafPairsSaid : Prop := leafPairsRow.holds Tryd.pinned (OpenSpec.ofChange leafPairsSpec)

/-- ITS FALSE NEIGHBOUR: 'it returns false'. Refute it at one input. -/
def leafPairsWrong : ChangeSpec := { name := "leafPairs", fn := fun _ => fun
  | [d1, d2] => { results := [.lit (.bool false)], args := [d1, d2] }
  | _ => none }
def LeafPairsWrongFalsely : Prop := leafPairsRow.holds Tryd.pinned (OpenSpec.ofChange leafPairsWrong)

/-- 'lustrumlaw14.LeafMeans': WHATEVER THE INPUT: true; the input reads as it did. -/
def leafMeansSpec : ChangeSpec := { name := "leafMeans", fn := fun _ => fun
  | [d1, d2, d3] => { results := [.lit (.bool true)], args := [d1, d2, d3] }
  | _ => none }
def leafMeansRow : OpenClaim := { program := "ytjeoelajkncpcaadoor", sum := "8cd1ff9c3f19cb7b6aab04f66ce9826e91295207a116cae705f0348ed15992ce", func := "lustrum/lustrumlaw14.LeafMeans", spec := "leafMeans", unfollowed := true, recurses := true, named := ["lustrum/civil.lengths"], apart := false, laid := [("lustrum/civil.lengths", laid_lustrum_civil_lengths)] }
def LeafMeansSaid : Prop := leafMeansRow.holds Tryd.pinned (OpenSpec.ofChange leafMeansSpec)

/-- ITS FALSE NEIGHBOUR: 'it returns false'. Refute it at one input. -/
def leafMeansWrong : ChangeSpec := { name := "leafMeans", fn := fun _ => fun
  | [d1, d2, d3] => { results := [.lit (.bool false)], args := [d1, d2, d3] }
  | _ => none }
def LeafMeansWrongFalsely : Prop := leafMeansRow.holds Tryd.pinned (OpenSpec.ofChange leafMeansWrong)

/-- 'lustrumlaw14.LeafTidy': WHATEVER THE INPUT: true; the input reads as it did. -/
def leafTidySpec : ChangeSpec := { name := "leafTidy", fn := fun _ => fun
  | [d1, d2] => { results := [.lit (.bool true)], args := [d1, d2] }
  | _ => none }
def leafTidyRow : OpenClaim := { program := "ytjeoelajkncpcaadoor", sum := "8cd1ff9c3f19cb7b6aab04f66ce9826e91295207a116cae705f0348ed15992ce", func := "lustrum/lustrumlaw14.LeafTidy", spec := "leafTidy", unfollowed := true, recurses := true, named := ["lustrum/civil.lengths"], apart := false, laid := [("lustrum/civil.lengths", laid_lustrum_civil_lengths)] }
def LeafTidySaid : Prop := leafTidyRow.holds Tryd.pinned (OpenSpec.ofChange leafTidySpec)

/-- ITS FALSE NEIGHBOUR: 'it returns false'. Refute it at one input. -/
def leafTidyWrong : ChangeSpec := { name := "leafTidy", fn := fun _ => fun
  | [d1, d2] => { results := [.lit (.bool false)], args := [d1, d2] }
  | _ => none }
def LeafTidyWrongFalsely : Prop := leafTidyRow.holds Tryd.pinned (OpenSpec.ofChange leafTidyWrong)

/-- 'lustrumlaw14.LeafMore': WHATEVER THE INPUT: true; the input reads as it did. -/
def leafMoreSpec : ChangeSpec := { name := "leafMore", fn := fun _ => fun
  | [d1, d2, d3] => { results := [.lit (.bool true)], args := [d1, d2, d3] }
  | _ => none }
def leafMoreRow : OpenClaim := { program := "ytjeoelajkncpcaadoor", sum := "8cd1ff9c3f19cb7b6aab04f66ce9826e91295207a116cae705f0348ed15992ce", func := "lustrum/lustrumlaw14.LeafMore", spec := "leafMore", unfollowed := true, recurses := true, named := ["lustrum/civil.lengths"], apart := false, laid := [("lustrum/civil.lengths", laid_lustrum_civil_lengths)] }
def LeafMoreSaid : Prop := leafMoreRow.holds Tryd.pinned (OpenSpec.ofChange leafMoreSpec)

/-- ITS FALSE NEIGHBOUR: 'it returns false'. Refute it at one input. -/
def leafMoreWrong : ChangeSpec := { name := "leafMore", fn := fun _ => fun
  | [d1, d2, d3] => { results := [.lit (.bool false)], args := [d1, d2, d3] }
  | _ => none }
def LeafMoreWrongFalsely : Prop := leafMoreRow.holds Tryd.pinned (OpenSpec.ofChange leafMoreWrong)

/-- 'lustrumlaw14.LeafEnds': WHATEVER THE INPUT: true; the input reads as it did. -/
def leafEndsSpec : ChangeSpec := { name := "leafEnds", fn := fun _ => fun
  | [d1, d2] => { results := [.lit (.bool true)], args := [d1, d2] }
  | _ => none }
def leafEndsRow : OpenClaim := { program := "ytjeoelajkncpcaadoor", sum := "8cd1ff9c3f19cb7b6aab04f66ce9826e91295207a116cae705f0348ed15992ce", func := "lustrum/lustrumlaw14.LeafEnds", spec := "leafEnds", unfollowed := true, recurses := true, named := ["lustrum/civil.lengths"], apart := false, laid := [("lustrum/civil.lengths", laid_lustrum_civil_lengths)] }
def LeafEndsSaid : Prop := leafEndsRow.holds Tryd.pinned (OpenSpec.ofChange leafEndsSpec)

/-- ITS FALSE NEIGHBOUR: 'it returns false'. Refute it at one input. -/
def leafEndsWrong : ChangeSpec := { name := "leafEnds", fn := fun _ => fun
  | [d1, d2] => { results := [.lit (.bool false)], args := [d1, d2] }
  | _ => none }
def LeafEndsWrongFalsely : Prop := leafEndsRow.holds Tryd.pinned (OpenSpec.ofChange leafEndsWrong)

/-- 'lustrumlaw16.EnvIs': WHATEVER THE INPUT: true; the input reads as it did. -/
def envIsSpec : ChangeSpec := { name := "envIs", fn := fun _ => fun
  | [d] => { results := [.lit (.bool true)], args := [d] }
  | _ => none }
def envIsRow : OpenClaim := { program := "ytjeoelajkncpcaadoor", sum := "8cd1ff9c3f19cb7b6aab04f66ce9826e91295207a116cae705f0348ed15992ce", func := "lustrum/lustrumlaw16.EnvIs", spec := "envIs", unfollowed := true, recurses := true, named := ["lustrum/civil.lengths"], apart := false, laid := [("lustrum/civil.lengths", laid_lustrum_civil_lengths)] }
def EnvIsSaid : Prop := envIsRow.holds Tryd.pinned (OpenSpec.ofChange envIsSpec)

/-- ITS FALSE NEIGHBOUR: 'it returns false'. Refute it at one input. -/
def envIsWrong : ChangeSpec := { name := "envIs", fn := fun _ => fun
  | [d] => { results := [.lit (.bool false)], args := [d] }
  | _ => none }
def EnvIsWrongFalsely : Prop := envIsRow.holds Tryd.pinned (OpenSpec.ofChange envIsWrong)

/-- 'lustrumlaw16.EnvMore': WHATEVER THE INPUT: true; the input reads as it did. -/
def envMoreSpec : ChangeSpec := { name := "envMore", fn := fun _ => fun
  | [d1, d2] => { results := [.lit (.bool true)], args := [d1, d2] }
  | _ => none }
def envMoreRow : OpenClaim := { program := "ytjeoelajkncpcaadoor", sum := "8cd1ff9c3f19cb7b6aab04f66ce9826e91295207a116cae705f0348ed15992ce", func := "lustrum/lustrumlaw16.EnvMore", spec := "envMore", unfollowed := true, recurses := true, named := ["lustrum/civil.lengths"], apart := false, laid := [("lustrum/civil.lengths", laid_lustrum_civil_lengths)] }
def EnvMoreSaid : Prop := envMoreRow.holds Tryd.pinned (OpenSpec.ofChange envMoreSpec)

/-- ITS FALSE NEIGHBOUR: 'it returns false'. Refute it at one input. -/
def envMoreWrong : ChangeSpec := { name := "envMore", fn := fun _ => fun
  | [d1, d2] => { results := [.lit (.bool false)], args := [d1, d2] }
  | _ => none }
def EnvMoreWrongFalsely : Prop := envMoreRow.holds Tryd.pinned (OpenSpec.ofChange envMoreWrong)

/-- 'lustrumlaw16.EnvMet': WHATEVER THE INPUT: true; the input reads as it did. -/
def envMetSpec : ChangeSpec := { name := "envMet", fn := fun _ => fun
  | [d] => { results := [.lit (.bool true)], args := [d] }
  | _ => none }
def envMetRow : OpenClaim := { program := "ytjeoelajkncpcaadoor", sum := "8cd1ff9c3f19cb7b6aab04f66ce9826e91295207a116cae705f0348ed15992ce", func := "lustrum/lustrumlaw16.EnvMet", spec := "envMet", unfollowed := true, recurses := true, named := ["lustrum/civil.lengths"], apart := false, laid := [("lustrum/civil.lengths", laid_lustrum_civil_lengths)] }
def EnvMetSaid : Prop := envMetRow.holds Tryd.pinned (OpenSpec.ofChange envMetSpec)

/-- ITS FALSE NEIGHBOUR: 'it returns false'. Refute it at one input. -/
def envMetWrong : ChangeSpec := { name := "envMet", fn := fun _ => fun
  | [d] => { results := [.lit (.bool false)], args := [d] }
  | _ => none }
def EnvMetWrongFalsely : Prop := envMetRow.holds Tryd.pinned (OpenSpec.ofChange envMetWrong)

/-- 'lustrumlaw16.EnvPairs': WHATEVER THE INPUT: true; the input reads as it did. -/
def envPairsSpec : ChangeSpec := { name := "envPairs", fn := fun _ => fun
  | [d1, d2] => { results := [.lit (.bool true)], args := [d1, d2] }
  | _ => none }
def envPairsRow : OpenClaim := { program := "ytjeoelajkncpcaadoor", sum := "8cd1ff9c3f19cb7b6aab04f66ce9826e91295207a116cae705f0348ed15992ce", func := "lustrum/lustrumlaw16.EnvPairs", spec := "envPairs", unfollowed := true, recurses := true, named := ["lustrum/civil.lengths"], apart := false, laid := [("lustrum/civil.lengths", laid_lustrum_civil_lengths)] }
def EnvPairsSaid : Prop := envPairsRow.holds Tryd.pinned (OpenSpec.ofChange envPairsSpec)

/-- ITS FALSE NEIGHBOUR: 'it returns false'. Refute it at one input. -/
def envPairsWrong : ChangeSpec := { name := "envPairs", fn := fun _ => fun
  | [d1, d2] => { results := [.lit (.bool false)], args := [d1, d2] }
  | _ => none }
def EnvPairsWrongFalsely : Prop := envPairsRow.holds Tryd.pinned (OpenSpec.ofChange envPairsWrong)

/-- 'lustrumlaw17.CoverSets': WHATEVER THE INPUT: true; the input reads as it did. -/
def coverSetsSpec : ChangeSpec := { name := "coverSets", fn := fun _ => fun
  | [d1, d2] => { results := [.lit (.bool true)], args := [d1, d2] }
  | _ => none }
def coverSetsRow : OpenClaim := { program := "ytjeoelajkncpcaadoor", sum := "8cd1ff9c3f19cb7b6aab04f66ce9826e91295207a116cae705f0348ed15992ce", func := "lustrum/lustrumlaw17.CoverSets", spec := "coverSets", unfollowed := true, recurses := true, named := ["lustrum/civil.lengths"], apart := false, laid := [("lustrum/civil.lengths", laid_lustrum_civil_lengths)] }
def CoverSetsSaid : Prop := coverSetsRow.holds Tryd.pinned (OpenSpec.ofChange coverSetsSpec)

/-- ITS FALSE NEIGHBOUR: 'it returns false'. Refute it at one input. -/
def coverSetsWrong : ChangeSpec := { name := "coverSets", fn := fun _ => fun
  | [d1, d2] => { results := [.lit (.bool false)], args := [d1, d2] }
  | _ => none }
def CoverSetsWrongFalsely : Prop := coverSetsRow.holds Tryd.pinned (OpenSpec.ofChange coverSetsWrong)

/-- 'lustrumlaw17.CoverMore': WHATEVER THE INPUT: true; the input reads as it did. -/
def coverMoreSpec : ChangeSpec := { name := "coverMore", fn := fun _ => fun
  | [d1, d2, d3] => { results := [.lit (.bool true)], args := [d1, d2, d3] }
  | _ => none }
def coverMoreRow : OpenClaim := { program := "ytjeoelajkncpcaadoor", sum := "8cd1ff9c3f19cb7b6aab04f66ce9826e91295207a116cae705f0348ed15992ce", func := "lustrum/lustrumlaw17.CoverMore", spec := "coverMore", unfollowed := true, recurses := true, named := ["lustrum/civil.lengths"], apart := false, laid := [("lustrum/civil.lengths", laid_lustrum_civil_lengths)] }
def CoverMoreSaid : Prop := coverMoreRow.holds Tryd.pinned (OpenSpec.ofChange coverMoreSpec)

/-- ITS FALSE NEIGHBOUR: 'it returns false'. Refute it at one input. -/
def coverMoreWrong : ChangeSpec := { name := "coverMore", fn := fun _ => fun
  | [d1, d2, d3] => { results := [.lit (.bool false)], args := [d1, d2, d3] }
  | _ => none }
def CoverMoreWrongFalsely : Prop := coverMoreRow.holds Tryd.pinned (OpenSpec.ofChange coverMoreWrong)

/-- 'lustrumlaw17.CoverEnds': WHATEVER THE INPUT: true; the input reads as it did. -/
def coverEndsSpec : ChangeSpec := { name := "coverEnds", fn := fun _ => fun
  | [d] => { results := [.lit (.bool true)], args := [d] }
  | _ => none }
def coverEndsRow : OpenClaim := { program := "ytjeoelajkncpcaadoor", sum := "8cd1ff9c3f19cb7b6aab04f66ce9826e91295207a116cae705f0348ed15992ce", func := "lustrum/lustrumlaw17.CoverEnds", spec := "coverEnds", unfollowed := true, recurses := true, named := ["lustrum/civil.lengths"], apart := false, laid := [("lustrum/civil.lengths", laid_lustrum_civil_lengths)] }
def CoverEndsSaid : Prop := coverEndsRow.holds Tryd.pinned (OpenSpec.ofChange coverEndsSpec)

/-- ITS FALSE NEIGHBOUR: 'it returns false'. Refute it at one input. -/
def coverEndsWrong : ChangeSpec := { name := "coverEnds", fn := fun _ => fun
  | [d] => { results := [.lit (.bool false)], args := [d] }
  | _ => none }
def CoverEndsWrongFalsely : Prop := coverEndsRow.holds Tryd.pinned (OpenSpec.ofChange coverEndsWrong)

/-- 'lustrumlaw17.CoverPairs': WHATEVER THE INPUT: true; the input reads as it did. -/
def coverPairsSpec : ChangeSpec := { name := "coverPairs", fn := fun _ => fun
  | [d1, d2] => { results := [.lit (.bool true)], args := [d1, d2] }
  | _ => none }
def coverPairsRow : OpenClaim := { program := "ytjeoelajkncpcaadoor", sum := "8cd1ff9c3f19cb7b6aab04f66ce9826e91295207a116cae705f0348ed15992ce", func := "lustrum/lustrumlaw17.CoverPairs", spec := "coverPairs", unfollowed := true, recurses := true, named := ["lustrum/civil.lengths"], apart := false, laid := [("lustrum/civil.lengths", laid_lustrum_civil_lengths)] }
def CoverPairsSaid : Prop := coverPairsRow.holds Tryd.pinned (OpenSpec.ofChange coverPairsSpec)

/-- ITS FALSE NEIGHBOUR: 'it returns false'. Refute it at one input. -/
def coverPairsWrong : ChangeSpec := { name := "coverPairs", fn := fun _ => fun
  | [d1, d2] => { results := [.lit (.bool false)], args := [d1, d2] }
  | _ => none }
def CoverPairsWrongFalsely : Prop := coverPairsRow.holds Tryd.pinned (OpenSpec.ofChange coverPairsWrong)

/- THE SECOND FORM. 'bulk': how many values and letters a reading holds, each counted each time it is reached (what is shared counts as often as it is met; a slice's spare places count too). A statement '..UptoSaid' is the law's where the arguments, and the package variables that the reading takes, are together of bulk at most 1048576: NARROWER than '..Said'. Prove '..Said' where nothing that the law and all that it calls make is longer than what came in: it says more and counts as full. Else prove '..UptoSaid'. A law counts once. -/
mutual
def uptoBulk {H : Type} : DataW H → Nat
  | .lit (.string bytes) => bytes.length + 1
  | .lit _ => 1
  | .nil => 1
  | .ptr d => uptoBulk d + 1
  | .slice elems spare => uptoBulkAll elems + uptoBulkAll spare + 1
  | .agg parts => uptoBulkAll parts + 1
  | .iface _ d => uptoBulk d + 1
  | .map entries => uptoBulkEntries entries + 1
  | .held _ => 1
def uptoBulkAll {H : Type} : List (DataW H) → Nat
  | [] => 0
  | d :: r => uptoBulk d + uptoBulkAll r
def uptoBulkEntries {H : Type} : List (Lit × DataW H) → Nat
  | [] => 0
  | x :: r => uptoBulkEntry x + uptoBulkEntries r
def uptoBulkEntry {H : Type} : Lit × DataW H → Nat
  | (.string bytes, d) => bytes.length + uptoBulk d + 1
  | (_, d) => uptoBulk d + 1
 end
def uptoSmall : (H : Type) → List (DataW H) → Bool := fun _ ds => decide (uptoBulkAll ds ≤ 1048576)
def OpenSpec.upto (s : _root_.Go.ChangeSpec) : _root_.Go.OpenSpec := { _root_.Go.OpenSpec.ofChange s with cond := some uptoSmall }

/-- 'lustrumlaw07.ImageIs', WHERE WHAT IT READS IS OF BULK AT MOST 1048576: true; the input reads as it did. -/
def imageIsUptoRow : OpenClaim := { program := "ytjeoelajkncpcaadoor", sum := "8cd1ff9c3f19cb7b6aab04f66ce9826e91295207a116cae705f0348ed15992ce", func := "lustrum/lustrumlaw07.ImageIs", spec := "imageIs", unfollowed := true, recurses := true, named := ["lustrum/civil.lengths"], apart := false, laid := [("lustrum/civil.lengths", laid_lustrum_civil_lengths)], narrowed := true }
def ImageIsUptoSaid : Prop := imageIsUptoRow.holds Tryd.pinned (OpenSpec.upto imageIsSpec)

/-- 'lustrumlaw07.ImageInside', WHERE WHAT IT READS IS OF BULK AT MOST 1048576: true; the input reads as it did. -/
def imageInsideUptoRow : OpenClaim := { program := "ytjeoelajkncpcaadoor", sum := "8cd1ff9c3f19cb7b6aab04f66ce9826e91295207a116cae705f0348ed15992ce", func := "lustrum/lustrumlaw07.ImageInside", spec := "imageInside", unfollowed := true, recurses := true, named := ["lustrum/civil.lengths"], apart := false, laid := [("lustrum/civil.lengths", laid_lustrum_civil_lengths)], narrowed := true }
def ImageInsideUptoSaid : Prop := imageInsideUptoRow.holds Tryd.pinned (OpenSpec.upto imageInsideSpec)

/-- 'lustrumlaw07.ImageMore', WHERE WHAT IT READS IS OF BULK AT MOST 1048576: true; the input reads as it did. -/
def imageMoreUptoRow : OpenClaim := { program := "ytjeoelajkncpcaadoor", sum := "8cd1ff9c3f19cb7b6aab04f66ce9826e91295207a116cae705f0348ed15992ce", func := "lustrum/lustrumlaw07.ImageMore", spec := "imageMore", unfollowed := true, recurses := true, named := ["lustrum/civil.lengths"], apart := false, laid := [("lustrum/civil.lengths", laid_lustrum_civil_lengths)], narrowed := true }
def ImageMoreUptoSaid : Prop := imageMoreUptoRow.holds Tryd.pinned (OpenSpec.upto imageMoreSpec)

/-- 'lustrumlaw07.ImageEnds', WHERE WHAT IT READS IS OF BULK AT MOST 1048576: true; the input reads as it did. -/
def imageEndsUptoRow : OpenClaim := { program := "ytjeoelajkncpcaadoor", sum := "8cd1ff9c3f19cb7b6aab04f66ce9826e91295207a116cae705f0348ed15992ce", func := "lustrum/lustrumlaw07.ImageEnds", spec := "imageEnds", unfollowed := true, recurses := true, named := ["lustrum/civil.lengths"], apart := false, laid := [("lustrum/civil.lengths", laid_lustrum_civil_lengths)], narrowed := true }
def ImageEndsUptoSaid : Prop := imageEndsUptoRow.holds Tryd.pinned (OpenSpec.upto imageEndsSpec)

/-- 'lustrumlaw07.ImageCover', WHERE WHAT IT READS IS OF BULK AT MOST 1048576: true; the input reads as it did. -/
def imageCoverUptoRow : OpenClaim := { program := "ytjeoelajkncpcaadoor", sum := "8cd1ff9c3f19cb7b6aab04f66ce9826e91295207a116cae705f0348ed15992ce", func := "lustrum/lustrumlaw07.ImageCover", spec := "imageCover", unfollowed := true, recurses := true, named := ["lustrum/civil.lengths"], apart := false, laid := [("lustrum/civil.lengths", laid_lustrum_civil_lengths)], narrowed := true }
def ImageCoverUptoSaid : Prop := imageCoverUptoRow.holds Tryd.pinned (OpenSpec.upto imageCoverSpec)

/-- 'lustrumlaw14.LeafCovers', WHERE WHAT IT READS IS OF BULK AT MOST 1048576: true; the input reads as it did. -/
def leafCoversUptoRow : OpenClaim := { program := "ytjeoelajkncpcaadoor", sum := "8cd1ff9c3f19cb7b6aab04f66ce9826e91295207a116cae705f0348ed15992ce", func := "lustrum/lustrumlaw14.LeafCovers", spec := "leafCovers", unfollowed := true, recurses := true, named := ["lustrum/civil.lengths"], apart := false, laid := [("lustrum/civil.lengths", laid_lustrum_civil_lengths)], narrowed := true }
def LeafCoversUptoSaid : Prop := leafCoversUptoRow.holds Tryd.pinned (OpenSpec.upto leafCoversSpec)

/-- 'lustrumlaw14.LeafPairs', WHERE WHAT IT READS IS OF BULK AT MOST 1048576: true; the input reads as it did. -/
def leafPairsUptoRow : OpenClaim := { program := "ytjeoelajkncpcaadoor", sum := "8cd1ff9c3f19cb7b6aab04f66ce9826e91295207a116cae705f0348ed15992ce", func := "lustrum/lustrumlaw14.LeafPairs", spec := "leafPairs", unfollowed := true, recurses := true, named := ["lustrum/civil.lengths"], apart := false, laid := [("lustrum/civil.lengths", laid_lustrum_civil_lengths)], narrowed := true }
def LeafPairsUptoSaid : Prop := leafPairsUptoRow.holds Tryd.pinned (OpenSpec.upto leafPairsSpec)

/-- 'lustrumlaw14.LeafMeans', WHERE WHAT IT READS IS OF BULK AT MOST 1048576: true; the input reads as it did. -/
def leafMeansUptoRow : OpenClaim := { program := "ytjeoelajkncpcaadoor", sum := "8cd1ff9c3f19cb7b6aab04f66ce9826e91295207a116cae705f0348ed15992ce", func := "lustrum/lustrumlaw14.LeafMeans", spec := "leafMeans", unfollowed := true, recurses := true, named := ["lustrum/civil.lengths"], apart := false, laid := [("lustrum/civil.lengths", laid_lustrum_civil_lengths)], narrowed := true }
def LeafMeansUptoSaid : Prop := leafMeansUptoRow.holds Tryd.pinned (OpenSpec.upto leafMeansSpec)

/-- 'lustrumlaw14.LeafTidy', WHERE WHAT IT READS IS OF BULK AT MOST 1048576: true; the input reads as it did. -/
def leafTidyUptoRow : OpenClaim := { program := "ytjeoelajkncpcaadoor", sum := "8cd1ff9c3f19cb7b6aab04f66ce9826e91295207a116cae705f0348ed15992ce", func := "lustrum/lustrumlaw14.LeafTidy", spec := "leafTidy", unfollowed := true, recurses := true, named := ["lustrum/civil.lengths"], apart := false, laid := [("lustrum/civil.lengths", laid_lustrum_civil_lengths)], narrowed := true }
def LeafTidyUptoSaid : Prop := leafTidyUptoRow.holds Tryd.pinned (OpenSpec.upto leafTidySpec)

/-- 'lustrumlaw14.LeafMore', WHERE WHAT IT READS IS OF BULK AT MOST 1048576: true; the input reads as it did. -/
def leafMoreUptoRow : OpenClaim := { program := "ytjeoelajkncpcaadoor", sum := "8cd1ff9c3f19cb7b6aab04f66ce9826e91295207a116cae705f0348ed15992ce", func := "lustrum/lustrumlaw14.LeafMore", spec := "leafMore", unfollowed := true, recurses := true, named := ["lustrum/civil.lengths"], apart := false, laid := [("lustrum/civil.lengths", laid_lustrum_civil_lengths)], narrowed := true }
def LeafMoreUptoSaid : Prop := leafMoreUptoRow.holds Tryd.pinned (OpenSpec.upto leafMoreSpec)

/-- 'lustrumlaw14.LeafEnds', WHERE WHAT IT READS IS OF BULK AT MOST 1048576: true; the input reads as it did. -/
def leafEndsUptoRow : OpenClaim := { program := "ytjeoelajkncpcaadoor", sum := "8cd1ff9c3f19cb7b6aab04f66ce9826e91295207a116cae705f0348ed15992ce", func := "lustrum/lustrumlaw14.LeafEnds", spec := "leafEnds", unfollowed := true, recurses := true, named := ["lustrum/civil.lengths"], apart := false, laid := [("lustrum/civil.lengths", laid_lustrum_civil_lengths)], narrowed := true }
def LeafEndsUptoSaid : Prop := leafEndsUptoRow.holds Tryd.pinned (OpenSpec.upto leafEndsSpec)

/-- 'lustrumlaw16.EnvIs', WHERE WHAT IT READS IS OF BULK AT MOST 1048576: true; the input reads as it did. -/
def envIsUptoRow : OpenClaim := { program := "ytjeoelajkncpcaadoor", sum := "8cd1ff9c3f19cb7b6aab04f66ce9826e91295207a116cae705f0348ed15992ce", func := "lustrum/lustrumlaw16.EnvIs", spec := "envIs", unfollowed := true, recurses := true, named := ["lustrum/civil.lengths"], apart := false, laid := [("lustrum/civil.lengths", laid_lustrum_civil_lengths)], narrowed := true }
def EnvIsUptoSaid : Prop := envIsUptoRow.holds Tryd.pinned (OpenSpec.upto envIsSpec)

/-- 'lustrumlaw16.EnvMore', WHERE WHAT IT READS IS OF BULK AT MOST 1048576: true; the input reads as it did. -/
def envMoreUptoRow : OpenClaim := { program := "ytjeoelajkncpcaadoor", sum := "8cd1ff9c3f19cb7b6aab04f66ce9826e91295207a116cae705f0348ed15992ce", func := "lustrum/lustrumlaw16.EnvMore", spec := "envMore", unfollowed := true, recurses := true, named := ["lustrum/civil.lengths"], apart := false, laid := [("lustrum/civil.lengths", laid_lustrum_civil_lengths)], narrowed := true }
def EnvMoreUptoSaid : Prop := envMoreUptoRow.holds Tryd.pinned (OpenSpec.upto envMoreSpec)

/-- 'lustrumlaw16.EnvMet', WHERE WHAT IT READS IS OF BULK AT MOST 1048576: true; the input reads as it did. -/
def envMetUptoRow : OpenClaim := { program := "ytjeoelajkncpcaadoor", sum := "8cd1ff9c3f19cb7b6aab04f66ce9826e91295207a116cae705f0348ed15992ce", func := "lustrum/lustrumlaw16.EnvMet", spec := "envMet", unfollowed := true, recurses := true, named := ["lustrum/civil.lengths"], apart := false, laid := [("lustrum/civil.lengths", laid_lustrum_civil_lengths)], narrowed := true }
def EnvMetUptoSaid : Prop := envMetUptoRow.holds Tryd.pinned (OpenSpec.upto envMetSpec)

/-- 'lustrumlaw16.EnvPairs', WHERE WHAT IT READS IS OF BULK AT MOST 1048576: true; the input reads as it did. -/
def envPairsUptoRow : OpenClaim := { program := "ytjeoelajkncpcaadoor", sum := "8cd1ff9c3f19cb7b6aab04f66ce9826e91295207a116cae705f0348ed15992ce", func := "lustrum/lustrumlaw16.EnvPairs", spec := "envPairs", unfollowed := true, recurses := true, named := ["lustrum/civil.lengths"], apart := false, laid := [("lustrum/civil.lengths", laid_lustrum_civil_lengths)], narrowed := true }
def EnvPairsUptoSaid : Prop := envPairsUptoRow.holds Tryd.pinned (OpenSpec.upto envPairsSpec)

/-- 'lustrumlaw17.CoverSets', WHERE WHAT IT READS IS OF BULK AT MOST 1048576: true; the input reads as it did. -/
def coverSetsUptoRow : OpenClaim := { program := "ytjeoelajkncpcaadoor", sum := "8cd1ff9c3f19cb7b6aab04f66ce9826e91295207a116cae705f0348ed15992ce", func := "lustrum/lustrumlaw17.CoverSets", spec := "coverSets", unfollowed := true, recurses := true, named := ["lustrum/civil.lengths"], apart := false, laid := [("lustrum/civil.lengths", laid_lustrum_civil_lengths)], narrowed := true }
def CoverSetsUptoSaid : Prop := coverSetsUptoRow.holds Tryd.pinned (OpenSpec.upto coverSetsSpec)

/-- 'lustrumlaw17.CoverMore', WHERE WHAT IT READS IS OF BULK AT MOST 1048576: true; the input reads as it did. -/
def coverMoreUptoRow : OpenClaim := { program := "ytjeoelajkncpcaadoor", sum := "8cd1ff9c3f19cb7b6aab04f66ce9826e91295207a116cae705f0348ed15992ce", func := "lustrum/lustrumlaw17.CoverMore", spec := "coverMore", unfollowed := true, recurses := true, named := ["lustrum/civil.lengths"], apart := false, laid := [("lustrum/civil.lengths", laid_lustrum_civil_lengths)], narrowed := true }
def CoverMoreUptoSaid : Prop := coverMoreUptoRow.holds Tryd.pinned (OpenSpec.upto coverMoreSpec)

/-- 'lustrumlaw17.CoverEnds', WHERE WHAT IT READS IS OF BULK AT MOST 1048576: true; the input reads as it did. -/
def coverEndsUptoRow : OpenClaim := { program := "ytjeoelajkncpcaadoor", sum := "8cd1ff9c3f19cb7b6aab04f66ce9826e91295207a116cae705f0348ed15992ce", func := "lustrum/lustrumlaw17.CoverEnds", spec := "coverEnds", unfollowed := true, recurses := true, named := ["lustrum/civil.lengths"], apart := false, laid := [("lustrum/civil.lengths", laid_lustrum_civil_lengths)], narrowed := true }
def CoverEndsUptoSaid : Prop := coverEndsUptoRow.holds Tryd.pinned (OpenSpec.upto coverEndsSpec)

/-- 'lustrumlaw17.CoverPairs', WHERE WHAT IT READS IS OF BULK AT MOST 1048576: true; the input reads as it did. -/
def coverPairsUptoRow : OpenClaim := { program := "ytjeoelajkncpcaadoor", sum := "8cd1ff9c3f19cb7b6aab04f66ce9826e91295207a116cae705f0348ed15992ce", func := "lustrum/lustrumlaw17.CoverPairs", spec := "coverPairs", unfollowed := true, recurses := true, named := ["lustrum/civil.lengths"], apart := false, laid := [("lustrum/civil.lengths", laid_lustrum_civil_lengths)], narrowed := true }
def CoverPairsUptoSaid : Prop := coverPairsUptoRow.holds Tryd.pinned (OpenSpec.upto coverPairsSpec)

end Rows
end Go.Proofs.YtjeoelajkncpcaaDoor
