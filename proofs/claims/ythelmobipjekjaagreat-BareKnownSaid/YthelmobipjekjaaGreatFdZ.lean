/- A deep run; that the runs work. -/
import Derived.Test.YthelmobipjekjaaGreatFd1
import Derived.Test.YthelmobipjekjaaGreatFd2
import Derived.Test.YthelmobipjekjaaGreatFd3
import Derived.Test.YthelmobipjekjaaGreatFd4
set_option linter.unusedVariables false
set_option maxRecDepth 1000000
namespace Go.Proofs.YthelmobipjekjaaGreat.Ev
open Go Go.RowKit
theorem sR4_ran : seg Tryz.prog kB 1000000 none (loopIn Tryz.prog.funcs[106]?) (.ext 0) sR4 sR5 0 = true := by kernel_rfl
theorem sR_ok : CallOK Tryz.prog (snapO 106 27 sR0 (.tuple ⟨[]⟩) sR5) := loop_ok loop106 rfl (Rounds.seg mixed kB_ok kB_n sR0_ran (Rounds.seg mixed kB_ok kB_n sR1_ran (Rounds.seg mixed kB_ok kB_n sR2_ran (Rounds.seg mixed kB_ok kB_n sR3_ran (Rounds.segEnd mixed kB_ok kB_n sR4_ran)))))
noncomputable def kR : Orc := orO (snapO 106 27 sR0 (.tuple ⟨[]⟩) sR5) kB
theorem kR_ok : CallOK Tryz.prog kR := orO_ok sR_ok kB_ok
theorem kR_n : CallN kR := orO_n (snapO_n rfl) kB_n
theorem eR_ran : entRun (call Tryz.prog kR 1000000) eR = true := by kernel_rfl
theorem eW_ran : entRun (call Tryz.prog kB 1000000) eW = true := by kernel_rfl
theorem eR_ok : CallOK Tryz.prog (entO eR) := ent_ok (call_ok mixed kR_ok kR_n 1000000) eR_ran
theorem eW_ok : CallOK Tryz.prog (entO eW) := ent_ok kB_call eW_ran
noncomputable def kC : Orc := (orO (entO eR) (orO (entO eW) kB))
theorem kC_ok : CallOK Tryz.prog kC := (orO_ok eR_ok (orO_ok eW_ok kB_ok))
theorem kC_n : CallN kC := (orO_n entO_n (orO_n entO_n kB_n))
theorem kC_call : CallOK Tryz.prog (call Tryz.prog kC 1000000) := call_ok mixed kC_ok kC_n 1000000
end Go.Proofs.YthelmobipjekjaaGreat.Ev
