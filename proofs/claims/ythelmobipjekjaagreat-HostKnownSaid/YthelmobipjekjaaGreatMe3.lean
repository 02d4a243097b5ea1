/- Rounds of the loop. -/
import Derived.Test.YthelmobipjekjaaGreatMg
set_option linter.unusedVariables false
set_option maxRecDepth 1000000
namespace Go.Proofs.YthelmobipjekjaaGreat.Ev
open Go Go.RowKit
theorem sT6_ran : seg Tryz.prog (orc kW) 1000000 none (partX (dropS 29 code12)) .nrm sT6 sT7 31 = true := by kernel_rfl
theorem sT7_ran : seg Tryz.prog (orc kW) 1000000 none (partX (dropS 29 code12)) .nrm sT7 sT8 31 = true := by kernel_rfl
end Go.Proofs.YthelmobipjekjaaGreat.Ev
