/- Rounds of the loop. -/
import Derived.Test.YthelmobipjekjaaGreatMd
set_option linter.unusedVariables false
set_option maxRecDepth 1000000
namespace Go.Proofs.YthelmobipjekjaaGreat.Ev
open Go Go.RowKit
theorem sT4_ran : seg Tryz.prog (orc kW) 1000000 none (partX (dropS 29 code12)) .nrm sT4 sT5 31 = true := by kernel_rfl
theorem sT5_ran : seg Tryz.prog (orc kW) 1000000 none (partX (dropS 29 code12)) .nrm sT5 sT6 31 = true := by kernel_rfl
end Go.Proofs.YthelmobipjekjaaGreat.Ev
