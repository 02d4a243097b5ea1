/- Calls of the program that are known: sizes, what an image is. -/
import Derived.Test.YthelmobipjekjaaGreatFa
set_option linter.unusedVariables false
set_option maxRecDepth 1000000
namespace Go.Proofs.YthelmobipjekjaaGreat.Ev
open Go Go.RowKit
theorem eSa_ran : entRun (call Tryz.prog noO 1000000) eSa = true := by kernel_rfl
theorem eSb_ran : entRun (call Tryz.prog noO 1000000) eSb = true := by kernel_rfl
theorem eIs1_ran : entRun (call Tryz.prog noO 1000000) eIs1 = true := by kernel_rfl
theorem eIs2_ran : entRun (call Tryz.prog noO 1000000) eIs2 = true := by kernel_rfl
theorem eIn1_ran : entRun (call Tryz.prog noO 1000000) eIn1 = true := by kernel_rfl
theorem eIn2_ran : entRun (call Tryz.prog noO 1000000) eIn2 = true := by kernel_rfl
theorem eIc1_ran : entRun (call Tryz.prog noO 1000000) eIc1 = true := by kernel_rfl
theorem eIc2_ran : entRun (call Tryz.prog noO 1000000) eIc2 = true := by kernel_rfl
theorem eIz1_ran : entRun (call Tryz.prog noO 1000000) eIz1 = true := by kernel_rfl
theorem noFuel : CallOK Tryz.prog (call Tryz.prog noO 1000000) := call_ok mixed noO_ok noO_n 1000000
theorem eSa_ok : CallOK Tryz.prog (entO eSa) := ent_ok noFuel eSa_ran
theorem eSb_ok : CallOK Tryz.prog (entO eSb) := ent_ok noFuel eSb_ran
theorem eIs1_ok : CallOK Tryz.prog (entO eIs1) := ent_ok noFuel eIs1_ran
theorem eIs2_ok : CallOK Tryz.prog (entO eIs2) := ent_ok noFuel eIs2_ran
theorem eIn1_ok : CallOK Tryz.prog (entO eIn1) := ent_ok noFuel eIn1_ran
theorem eIn2_ok : CallOK Tryz.prog (entO eIn2) := ent_ok noFuel eIn2_ran
theorem eIc1_ok : CallOK Tryz.prog (entO eIc1) := ent_ok noFuel eIc1_ran
theorem eIc2_ok : CallOK Tryz.prog (entO eIc2) := ent_ok noFuel eIc2_ran
theorem eIz1_ok : CallOK Tryz.prog (entO eIz1) := ent_ok noFuel eIz1_ran
noncomputable def kA : Orc := (orO (entO eSa) (orO (entO eSb) (orO (entO eIs1) (orO (entO eIs2) (orO (entO eIn1) (orO (entO eIn2) (orO (entO eIc1) (orO (entO eIc2) (orO (entO eIz1) noO)))))))))
theorem kA_ok : CallOK Tryz.prog kA := (orO_ok eSa_ok (orO_ok eSb_ok (orO_ok eIs1_ok (orO_ok eIs2_ok (orO_ok eIn1_ok (orO_ok eIn2_ok (orO_ok eIc1_ok (orO_ok eIc2_ok (orO_ok eIz1_ok noO_ok)))))))))
theorem kA_n : CallN kA := (orO_n entO_n (orO_n entO_n (orO_n entO_n (orO_n entO_n (orO_n entO_n (orO_n entO_n (orO_n entO_n (orO_n entO_n (orO_n entO_n noO_n)))))))))
theorem kA_call : CallOK Tryz.prog (call Tryz.prog kA 1000000) := call_ok mixed kA_ok kA_n 1000000
end Go.Proofs.YthelmobipjekjaaGreat.Ev
