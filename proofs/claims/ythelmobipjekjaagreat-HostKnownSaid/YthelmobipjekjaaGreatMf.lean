/- The law of known hosts: its walk. -/
import Derived.Test.YthelmobipjekjaaGreatMe
import Derived.Test.YthelmobipjekjaaGreatMe1
import Derived.Test.YthelmobipjekjaaGreatMe2
import Derived.Test.YthelmobipjekjaaGreatMe3
import Derived.Test.YthelmobipjekjaaGreatMe4
set_option linter.unusedVariables false
set_option maxRecDepth 1000000
namespace Go.Proofs.YthelmobipjekjaaGreat.Ev
open Go Go.RowKit
theorem sT10_ran : seg Tryz.prog (orc kW) 1000000 none (partX (dropS 29 code12)) (.ext 0) sT10 sT11 0 = true := by kernel_rfl
theorem sT11_ran : endSp Tryz.prog (orc kW) 1000000 (partY (dropS 29 code12)) (.bool true) Tryz.f12.results.toList sT11.fr sT11.me = true := by kernel_rfl
theorem parts12 : (partsL (dropS 29 code12)).isSome = true := by kernel_rfl
theorem body12 : Tryz.f12.body = some code12 := by
  unfold code12
  rw [Tryz.func12]
  rfl
theorem known_walk (w : World) : Calls Tryz.prog 12 #[] w fun e w' => e = .returned (.bool true) ∧ Below w.heap.size w w' := by
  have hO := orc_ok kW_ok
  have hN := orc_n kW_n
  obtain ⟨e, f1, m1, m2, he, hrun, hend⟩ := endSp_some sT11_ran
  have hy := RanOK.of_run mixed hO hN hrun
  have hr : Rounds Tryz.prog none (partX (dropS 29 code12)) (.ext 0) sT11.fr sT11.me _ sT2.fr sT2.me := (Rounds.seg mixed hO hN sT2_ran (Rounds.seg mixed hO hN sT3_ran (Rounds.seg mixed hO hN sT4_ran (Rounds.seg mixed hO hN sT5_ran (Rounds.seg mixed hO hN sT6_ran (Rounds.seg mixed hO hN sT7_ran (Rounds.seg mixed hO hN sT8_ran (Rounds.seg mixed hO hN sT9_ran (Rounds.segEnd mixed hO hN sT10_ran)))))))))
  have ha := RanOK.seg mixed hO hN sT1_ran
  have hl := RanOK.loopAt parts12 ha hr hy
  have h0 := RanOK.spine mixed hO hN sT0_ran hl
  exact closed_ran hO (runs_ok mixed hO hN 1000000) hN (run_n hN 1000000) Tryz.func12 body12 h0 he hend rfl w
end Go.Proofs.YthelmobipjekjaaGreat.Ev
