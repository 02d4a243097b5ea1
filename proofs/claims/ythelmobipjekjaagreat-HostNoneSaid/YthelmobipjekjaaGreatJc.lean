/- A host works: the closed part of the laws on hosts. -/
import Derived.Test.YthelmobipjekjaaGreatJb
set_option linter.unusedVariables false
set_option maxRecDepth 1000000
namespace Go.Proofs.YthelmobipjekjaaGreat.Ev
open Go Go.RowKit
def eW : Ent := { f := 28, args := [], hs := [], N := 0, v := .bool true }
theorem eW_ran : entRun (call Tryz.prog (orc kV) 1000000) eW = true := by kernel_rfl
theorem eW_ok : CallOK Tryz.prog (entO eW) := ent_ok (orc_call kV_ok kV_n) eW_ran
noncomputable def kW : CallF := (orO (entO eW) kV)
theorem kW_ok : CallOK Tryz.prog kW := (orO_ok eW_ok kV_ok)
theorem kW_n : CallN kW := (orO_n entO_n kV_n)
end Go.Proofs.YthelmobipjekjaaGreat.Ev
