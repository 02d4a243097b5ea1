/- Modules loaded; a host works. -/
import Derived.Test.YthelmobipjekjaaGreatMb
set_option linter.unusedVariables false
set_option maxRecDepth 1000000
namespace Go.Proofs.YthelmobipjekjaaGreat.Ev
open Go Go.RowKit
theorem eF_ran : entRunF (call Tryz.prog (orc kV) 1000000) eF = true := by kernel_rfl
theorem eF_ok : CallOK Tryz.prog (entFO eF) := entF_ok (orc_call kV_ok kV_n) eF_ran
theorem eG_ran : entRunF (call Tryz.prog (orc kV) 1000000) eG = true := by kernel_rfl
theorem eG_ok : CallOK Tryz.prog (entFO eG) := entF_ok (orc_call kV_ok kV_n) eG_ran
noncomputable def kF : CallF := (orO (entFO eF) (orO (entFO eG) kV))
theorem kF_ok : CallOK Tryz.prog kF := (orO_ok eF_ok (orO_ok eG_ok kV_ok))
theorem kF_n : CallN kF := (orO_n entFO_n (orO_n entFO_n kV_n))
def eW : Ent := { f := 28, args := [], hs := [], N := 0, v := .bool true }
theorem eW_ran : entRun (call Tryz.prog (orc kF) 1000000) eW = true := by kernel_rfl
theorem eW_ok : CallOK Tryz.prog (entO eW) := ent_ok (orc_call kF_ok kF_n) eW_ran
noncomputable def kW : CallF := (orO (entO eW) kF)
theorem kW_ok : CallOK Tryz.prog kW := (orO_ok eW_ok kF_ok)
theorem kW_n : CallN kW := (orO_n entO_n kF_n)
end Go.Proofs.YthelmobipjekjaaGreat.Ev
