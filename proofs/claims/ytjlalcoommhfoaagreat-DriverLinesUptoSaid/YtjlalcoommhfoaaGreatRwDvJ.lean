/- What the row closes with, asked of the program: each fact apart. -/
import Derived.Test.YtjlalcoommhfoaaGreatRows
import Derived.Test.YtjlalcoommhfoaaGreatProg
import Derived.WalkKit
import Derived.ProofKit
import Derived.OpenShut
import Derived.JoinedCond
set_option linter.unusedVariables false
open Go.Proofs Go.Proofs.Tryz
namespace Go.Proofs.YtjlalcoommhfoaaGreat.driverLines
open Go.ChangeShapes Go.WideShapes Go.ChangeAt Go.RowKit
noncomputable abbrev jP : Program := Tryz.prog
abbrev jf : FuncId := 4
noncomputable abbrev jn : Func := Tryz.f4
noncomputable abbrev js : ChangeSpec := (Rows.OpenSpec.upto Rows.driverLinesSpec).bare
noncomputable abbrev jc : OpenClaim := Rows.driverLinesUptoRow
theorem j0 : (jc.wf (OpenSpec.ofChange js)) = true := by kernel_rfl
theorem j1 : (laidOutB jP) = true := by kernel_rfl
theorem j2 : (mapsRowed jP) = true := by kernel_rfl
theorem j3 : (jn.params.all (jP.readableRec ·)) = true := by kernel_rfl
theorem j4 : (namedTie jP jc.named js.vars) = true := by kernel_rfl
theorem j5 : (jc.stops == []) = true := by kernel_rfl
theorem j6 : (jP.stops == []) = true := by kernel_rfl
theorem j7 : (jc.knobs == []) = true := by kernel_rfl
theorem j8 : (jP.stopKnobs == []) = true := by kernel_rfl
theorem j9 : (jc.inPlace == jP.inPlace jf) = true := by kernel_rfl
theorem j10 : (jc.unfollowed == jP.unfollowed jf) = true := by kernel_rfl
theorem j11 : (jc.recurses == jP.recurses jf) = true := by kernel_rfl
theorem j12 : (jc.named == jP.varsNamed jf) = true := by kernel_rfl
theorem j13 : (jc.maps == (jn.params.toList ++ js.plain.varTypes jP).any (jP.mapsRec ·)) = true := by kernel_rfl
theorem j14 : (jc.ifaces == (jn.params.toList ++ js.plain.varTypes jP).any (jP.ifacesRec ·)) = true := by kernel_rfl
theorem j15 : (jc.mapsOut == jP.mapsAmong jn.resultTypes.toList) = true := by kernel_rfl
theorem j16 : (jc.loops == (jn.params.toList ++ js.plain.varTypes jP).any (jP.loopsFrom ·)) = true := by kernel_rfl
theorem j17 : (jc.wideKeys == (jn.params.toList ++ js.plain.varTypes jP ++ jn.resultTypes.toList).any (jP.wideKeysFrom ·)) = true := by kernel_rfl
theorem j18 : (js.vars.all (jP.varReadable ·)) = true := by kernel_rfl
theorem j19 : (jn.resultTypes.all (fun t => jP.readableRec t && decide (t < jP.types.size))) = true := by kernel_rfl
theorem j20 : (jc.ifacesOut == jn.resultTypes.toList.any (jP.ifacesRec ·)) = true := by kernel_rfl
theorem j21 : (jc.loopsOut == jn.resultTypes.toList.any (jP.loopsFrom ·)) = true := by kernel_rfl
theorem j22 : (jc.plainKeys == jP.plainKeys) = true := by kernel_rfl
theorem j23 : (jc.shortTexts.isNone) = true := by kernel_rfl
theorem j24 : (jP.stopsHeard) = true := by kernel_rfl
theorem j25 : (jP.mayEnter) = true := by kernel_rfl
theorem j26 : (jc.lifted == jP.liftsFinal) = true := by kernel_rfl
theorem j27 : (jP.make == some jc.make) = true := by kernel_rfl
theorem j28 : (jc.kinds == (if jc.domain.isEmpty then [] else jn.params.toList.map fun t => match jP.underlying t with | some (.int k) => some k | _ => none)) = true := by kernel_rfl
theorem j29 : (jc.pinned == jc.pinnedBy) = true := by kernel_rfl
theorem j30 : (jc.veiled == (jn.params.toList ++ js.plain.varTypes jP ++ jn.resultTypes.toList).any (jP.veiledRec ·)) = true := by kernel_rfl
theorem j31 : (jc.veiledFits jP jn.params.toList (jn.params.toList ++ js.plain.varTypes jP ++ jn.resultTypes.toList)) = true := by kernel_rfl
set_option maxRecDepth 100000 in
theorem joined : joinedFacts jP jf jn js jc = true := by
  unfold joinedFacts
  rw [j0, j1, j2, j3, j4, j5, j6, j7, j8, j9, j10, j11, j12, j13, j14, j15, j16, j17, j18, j19, j20, j21, j22, j23, j24, j25, j26, j27, j29, j30, j31]
  kernel_rfl
end Go.Proofs.YtjlalcoommhfoaaGreat.driverLines
