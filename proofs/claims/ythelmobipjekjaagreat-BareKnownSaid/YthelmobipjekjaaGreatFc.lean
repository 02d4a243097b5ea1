/- Calls of the program that are known: what may run. -/
import Derived.Test.YthelmobipjekjaaGreatFb
set_option linter.unusedVariables false
set_option maxRecDepth 1000000
namespace Go.Proofs.YthelmobipjekjaaGreat.Ev
open Go Go.RowKit
theorem eVs_ran : entRun (call Tryz.prog kA 1000000) eVs = true := by kernel_rfl
theorem eVn_ran : entRun (call Tryz.prog kA 1000000) eVn = true := by kernel_rfl
theorem eVc_ran : entRun (call Tryz.prog kA 1000000) eVc = true := by kernel_rfl
theorem eVz_ran : entRun (call Tryz.prog kA 1000000) eVz = true := by kernel_rfl
theorem eVs_ok : CallOK Tryz.prog (entO eVs) := ent_ok kA_call eVs_ran
theorem eVn_ok : CallOK Tryz.prog (entO eVn) := ent_ok kA_call eVn_ran
theorem eVc_ok : CallOK Tryz.prog (entO eVc) := ent_ok kA_call eVc_ran
theorem eVz_ok : CallOK Tryz.prog (entO eVz) := ent_ok kA_call eVz_ran
theorem eB_ran : entRun (call Tryz.prog noO 1000000) eB = true := by kernel_rfl
theorem eB_ok : CallOK Tryz.prog (entO eB) := ent_ok noFuel eB_ran
noncomputable def kB0 : Orc := orO (entT eB) kA
theorem kB0_ok : CallOK Tryz.prog kB0 := orO_ok (entT_ok eB_ok) kA_ok
theorem kB0_n : CallN kB0 := orO_n entT_n kA_n
noncomputable def kB : Orc := (orO (entO eVs) (orO (entO eVn) (orO (entO eVc) (orO (entO eVz) kB0))))
theorem kB_ok : CallOK Tryz.prog kB := (orO_ok eVs_ok (orO_ok eVn_ok (orO_ok eVc_ok (orO_ok eVz_ok kB0_ok))))
theorem kB_n : CallN kB := (orO_n entO_n (orO_n entO_n (orO_n entO_n (orO_n entO_n kB0_n))))
theorem kB_call : CallOK Tryz.prog (call Tryz.prog kB 1000000) := call_ok mixed kB_ok kB_n 1000000
end Go.Proofs.YthelmobipjekjaaGreat.Ev
