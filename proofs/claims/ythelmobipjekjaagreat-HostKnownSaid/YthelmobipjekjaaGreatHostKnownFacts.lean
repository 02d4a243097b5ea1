/- The closed facts of the row of HostKnown: that the row fits the program. Nothing about what the function returns. -/
import Derived.Test.YthelmobipjekjaaGreatRows
import Derived.WalkKit
import Derived.ProofKit
import Derived.OpenShut
namespace Go.Proofs.YthelmobipjekjaaGreat.hostKnown
open Go.ChangeShapes Go.WideShapes Go.ChangeAt Go.RowKit
set_option maxRecDepth 100000
theorem is_inPlace : (Rows.hostKnownRow.inPlace == Tryz.prog.inPlace 12) = true := by kernel_rfl
theorem is_unfollowed : (Rows.hostKnownRow.unfollowed == Tryz.prog.unfollowed 12) = true := by kernel_rfl
theorem is_recurses : (Rows.hostKnownRow.recurses == Tryz.prog.recurses 12) = true := by kernel_rfl
theorem is_named : (Rows.hostKnownRow.named == Tryz.prog.varsNamed 12) = true := by kernel_rfl
theorem is_laidOut : laidOutB Tryz.prog = true := by kernel_rfl
theorem is_mapsRowed : mapsRowed Tryz.prog = true := by kernel_rfl
set_option maxHeartbeats 4000000 in
theorem facts : joinedFacts Tryz.prog 12 Tryz.f12 Rows.hostKnownSpec Rows.hostKnownRow = true := by
  unfold joinedFacts
  simp only [Bool.and_eq_true]
  repeat' apply And.intro
  all_goals first
    | (with_reducible exact is_inPlace)
    | (with_reducible exact is_unfollowed)
    | (with_reducible exact is_recurses)
    | (with_reducible exact is_named)
    | (with_reducible exact is_laidOut)
    | (with_reducible exact is_mapsRowed)
    | (as_aux_lemma => kernel_rfl)
theorem at_name : Tryz.prog.funcNamed Rows.hostKnownRow.func = some 12 := by kernel_rfl
theorem at_instance : Tryz.f12.isInstance Tryz.prog Rows.hostKnownRow.origin Rows.hostKnownRow.targs := of_decide_eq_true (by kernel_rfl)
theorem at_wrapper : Tryz.f12.isWrapper Tryz.prog Rows.hostKnownRow.wrapper Rows.hostKnownRow.mainSum := by unfold Func.isWrapper; first | (rw [if_pos (by decide +kernel)]; kernel_rfl) | (rw [if_neg (by decide +kernel)]; exact ⟨rfl, rfl⟩)
end Go.Proofs.YthelmobipjekjaaGreat.hostKnown
