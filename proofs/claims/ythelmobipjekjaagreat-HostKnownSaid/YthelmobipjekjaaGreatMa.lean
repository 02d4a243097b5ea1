/- What is known of the program's functions without bodies, of the deferred function that recovers, where nothing panics. -/
import Derived.Test.YthelmobipjekjaaGreatLs
import Derived.Test.YthelmobipjekjaaGreatProg
import Derived.KernelRfl
import Derived.WalkKit
set_option linter.unusedVariables false
set_option maxRecDepth 1000000
namespace Go.Proofs.YthelmobipjekjaaGreat.Ev
open Go Go.RowKit
theorem mixed : Tryz.prog.follows .mixedOrders = true := by kernel_rfl
theorem ext228 : ExtOK Tryz.prog (mark0O 228) := mark0_ok Tryz.func228 (by kernel_rfl) (by kernel_rfl) (by kernel_rfl) .disable (by kernel_rfl)
theorem ext231 : ExtOK Tryz.prog (mark0O 231) := mark0_ok Tryz.func231 (by kernel_rfl) (by kernel_rfl) (by kernel_rfl) .enable (by kernel_rfl)
theorem ext227 : ExtOK Tryz.prog (mark1O 227) := mark1_ok Tryz.func227 (by kernel_rfl) (by kernel_rfl) (by kernel_rfl) .releaseMerge (by kernel_rfl)
theorem ext311 : ExtOK Tryz.prog (mark1O 311) := mark1_ok Tryz.func311 (by kernel_rfl) (by kernel_rfl) (by kernel_rfl) .acquire (by kernel_rfl)
theorem ext310 : ExtOK Tryz.prog (casO 310) := cas_ok Tryz.func310 (by kernel_rfl) (by kernel_rfl) (by kernel_rfl) (by kernel_rfl)
theorem ext229 : ExtOK Tryz.prog (addO 229) := add_ok Tryz.func229 (by kernel_rfl) (by kernel_rfl) (by kernel_rfl) (by kernel_rfl)
noncomputable def xO : CallF := orO (mark0O 228) (orO (mark0O 231) (orO (mark1O 227) (orO (mark1O 311) (orO (casO 310) (addO 229)))))
theorem xO_ok : ExtOK Tryz.prog xO := orO_ext ext228 (orO_ext ext231 (orO_ext ext227 (orO_ext ext311 (orO_ext ext310 ext229))))
theorem xO_n : CallN xO := orO_n mark0_n (orO_n mark0_n (orO_n mark1_n (orO_n mark1_n (orO_n cas_n add_n))))
theorem catch_idle (a b c : Value) (w : World) :
    CallsDIn Fence.wide 0 Tryz.prog 126 ⟨[a, b, c]⟩ .returning w fun e u' w' => (∃ V, e = .returned V) ∧ u' = .returning ∧ w' = w := by
  refine callsDIn_of_wpSIn Tryz.func126 rfl trivial fun c₀ cs hu => ?_
  apply wpSIn_seq
  apply wpSIn_region
  simp [wpOpsSIn, go_sem, recoverD, hu, Tryz.ntmps126, Exit.thenS]
  apply wpSIn_seq
  apply wpSIn_region
  simp [wpOpsSIn, go_sem, Exit.thenS]
  refine wpSIn_cond (t := false) (by simp [Act.eval, Array.replicate]) ?_
  simp only [Bool.false_eq_true, if_false]
  refine wpSIn_of_wpIn rfl (wpIn_skip ?_)
  cases c₀
  simp_all [bodyPostS, results, Tryz.results126]
theorem dO_ok : DfrOK Tryz.prog (idleD 126 3) := idle_ok ⟨_, Tryz.func126, rfl, by kernel_rfl⟩ fun ARGS w h => by
  match ARGS, h with
  | [a, b, c], _ => exact catch_idle a b c w
/-- What is known, whatever the calls. -/
noncomputable def orc (c : CallF) : Orc := ⟨c, idleD 126 3, xO⟩
theorem orc_ok {c : CallF} (h : CallOK Tryz.prog c) : OrcOK Tryz.prog (orc c) := ⟨h, dO_ok, xO_ok⟩
theorem orc_n {c : CallF} (h : CallN c) : OrcN (orc c) := ⟨h, fun f args m m' h => idle_n h, xO_n⟩
theorem orc_call {c : CallF} (h : CallOK Tryz.prog c) (hn : CallN c) : CallOK Tryz.prog (call Tryz.prog (orc c) 1000000) := call_ok mixed (orc_ok h) (orc_n hn) 1000000
end Go.Proofs.YthelmobipjekjaaGreat.Ev
