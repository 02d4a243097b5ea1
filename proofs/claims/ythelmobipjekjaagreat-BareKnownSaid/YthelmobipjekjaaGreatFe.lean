/- The law of known runs: its walk. -/
import Derived.Test.YthelmobipjekjaaGreatFdZ
set_option linter.unusedVariables false
set_option maxRecDepth 1000000
namespace Go.Proofs.YthelmobipjekjaaGreat.Ev
open Go Go.RowKit
theorem main_ran : (match call Tryz.prog kC 1000000 6 [] (.mk .e 0) with
    | some (v, _) => veq v (.bool true)
    | none => false) = true := by kernel_rfl
theorem main_call : ∃ m, call Tryz.prog kC 1000000 6 [] (.mk .e 0) = some (.bool true, m) := by
  have h := main_ran
  split at h
  · rename_i v m hm; exact ⟨m, by rw [hm, veq_eq h]⟩
  · cases h
theorem known_walk (w : World) : Calls Tryz.prog 6 #[] w fun e w' => e = .returned (.bool true) ∧ Below w.heap.size w w' := by
  obtain ⟨m, hm⟩ := main_call
  exact closed_call kC_call hm rfl w
end Go.Proofs.YthelmobipjekjaaGreat.Ev
