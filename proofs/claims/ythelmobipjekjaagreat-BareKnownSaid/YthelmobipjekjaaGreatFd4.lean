/- A stretch of a deep run. -/
import Derived.Test.YthelmobipjekjaaGreatFd
set_option linter.unusedVariables false
set_option maxRecDepth 1000000
namespace Go.Proofs.YthelmobipjekjaaGreat.Ev
open Go Go.RowKit
theorem sR3_ran : seg Tryz.prog kB 1000000 none (loopIn Tryz.prog.funcs[106]?) .nrm sR3 sR4 63 = true := by kernel_rfl
end Go.Proofs.YthelmobipjekjaaGreat.Ev
