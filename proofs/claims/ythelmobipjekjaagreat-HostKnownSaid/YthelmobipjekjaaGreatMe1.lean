/- Rounds of the loop. -/
import Derived.Test.YthelmobipjekjaaGreatMd
set_option linter.unusedVariables false
set_option maxRecDepth 1000000
namespace Go.Proofs.YthelmobipjekjaaGreat.Ev
open Go Go.RowKit
theorem sT2_ran : seg Tryz.prog (orc kW) 1000000 none (partX (dropS 29 code12)) .nrm sT2 sT3 31 = true := by kernel_rfl
theorem sT3_ran : seg Tryz.prog (orc kW) 1000000 none (partX (dropS 29 code12)) .nrm sT3 sT4 31 = true := by kernel_rfl
end Go.Proofs.YthelmobipjekjaaGreat.Ev
