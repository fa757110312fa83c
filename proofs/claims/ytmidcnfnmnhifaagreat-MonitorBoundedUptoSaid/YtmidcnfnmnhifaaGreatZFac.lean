/-
  The rows' closed facts, one by one.
-/
import Derived.Test.YtmidcnfnmnhifaaGreatZJoi
namespace Go.Proofs.YtmidcnfnmnhifaaGreat
set_option linter.unusedSectionVars false
set_option linter.unusedSimpArgs false
set_option linter.unusedVariables false
open Go Go.ChangeShapes Go.WideShapes Go.ChangeAt Go.RowKit
set_option linter.unusedVariables false
set_option maxRecDepth 100000
theorem and_i {a b : Bool} (h1 : a = true) (h2 : b = true) : (a && b) = true := by rw [h1, h2]; rfl
theorem facMaps : mapsRowed Tryz.prog = true := by kernel_rfl
theorem facHeard : Tryz.prog.stopsHeard = true := by kernel_rfl
theorem facMay : Tryz.prog.mayEnter = true := by kernel_rfl
theorem facLift : (Rows.monitorNobodyRow.lifted == Tryz.prog.liftsFinal) = true := by kernel_rfl
theorem facMake : (Tryz.prog.make == some Rows.monitorNobodyRow.make) = true := by kernel_rfl
theorem facPlain : (Rows.monitorNobodyRow.plainKeys == Tryz.prog.plainKeys) = true := by kernel_rfl
end Go.Proofs.YtmidcnfnmnhifaaGreat
