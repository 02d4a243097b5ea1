/- What stands ahead of the loop. -/
import Derived.Test.YthelmobipjekjaaGreatMd
set_option linter.unusedVariables false
set_option maxRecDepth 1000000
namespace Go.Proofs.YthelmobipjekjaaGreat.Ev
open Go Go.RowKit
theorem sT0_ran : segSp Tryz.prog (orc kW) 1000000 none sT1 29 code12 (.mk .e 401 []) (.mk .e 0) = true := by kernel_rfl
theorem sT1_ran : seg Tryz.prog (orc kW) 1000000 none (partA (dropS 29 code12)) .nrm sT1 sT2 0 = true := by kernel_rfl
end Go.Proofs.YthelmobipjekjaaGreat.Ev
