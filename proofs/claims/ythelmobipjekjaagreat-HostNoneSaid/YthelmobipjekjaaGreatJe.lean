/- Calls on no host and on a zero one answer that there is none: the walk, whatever the call. -/
import Derived.Test.YthelmobipjekjaaGreatJd
set_option linter.unusedVariables false
namespace Go.Proofs.YthelmobipjekjaaGreat.Ev
open Go Go.RowKit
/-- What a slice of an argument may be. -/
def SlShape (v : Value) : Prop := v = .slice none 0 0 ∨ ∃ a l c, v = .slice (some a) l c ∧ l ≤ c ∧ c < sym ∧ (l = 0 ∨ a.spot = none)
/-- What stands for it. -/
inductive SlRep where
  | n | e | s (l c : Nat)
def SlRep.val (i : Nat) : SlRep → Value
  | .n => .slice none 0 0
  | .e => emptyS
  | .s l c => .slice (some ⟨i, 0, none⟩) l c
theorem rep_of {v : Value} (h : SlShape v) (i : Nat) : ∃ (x : SlRep) (p : Pl), ∀ μ : Mp, μ i = some p → VR μ (x.val i) v := by
  rcases h with rfl | ⟨⟨b, o, s⟩, l, c, rfl, hlc, hc, h⟩
  · exact ⟨.n, ⟨0, 0, 0⟩, fun μ _ => .leaf rfl⟩
  · by_cases hl : l = 0
    · subst hl
      exact ⟨.e, ⟨0, 0, 0⟩, fun μ _ => .emp⟩
    · rcases h with h | h
      · exact absurd h hl
      · have h : s = none := h
        subst h
        refine ⟨.s l c, ⟨b, o, 0⟩, fun μ hμ => ?_⟩
        have hcap : capOf ⟨b, o, 0⟩ c = c := by unfold capOf; rw [if_pos hc]
        exact .sl' (p := ⟨b, o, 0⟩) hμ (by simp) hcap.symm hlc
theorem none_rep (k h n : Int) (s : ByteArray) (x y : SlRep) : gives (call Tryz.prog (orc kW) 1000000 11 [.agg ⟨[.int .i64 k, x.val 0, .int .i64 h, .int .i64 n, .string s, y.val 1]⟩] (.mk .e 2)) (.bool true) = true := by
  cases x <;> cases y
  · exact none_nn k h n s 0 0 0 0
  · exact none_ne k h n s 0 0 0 0
  · exact none_ns k h n s 0 0 _ _
  · exact none_en k h n s 0 0 0 0
  · exact none_ee k h n s 0 0 0 0
  · exact none_es k h n s 0 0 _ _
  · exact none_sn k h n s _ _ 0 0
  · exact none_se k h n s _ _ 0 0
  · exact none_ss k h n s _ _ _ _
theorem none_walk (k h n : Int) (s : ByteArray) {B A : Value} (hB : SlShape B) (hA : SlShape A) (w : World) :
    Calls Tryz.prog 11 #[.agg #[.int .i64 k, B, .int .i64 h, .int .i64 n, .string s, A]] w fun e w' => e = .returned (.bool true) ∧ Below w.heap.size w w' := by
  obtain ⟨x, p, hx⟩ := rep_of hB 0
  obtain ⟨y, q, hy⟩ := rep_of hA 1
  have hg := none_rep k h n s x y
  unfold gives at hg
  split at hg
  · rename_i u m hm
    have hu := veq_eq hg
    subst hu
    have l : ∀ {v : Value}, leaf v = true → VR (fun j => if j = 0 then some p else if j = 1 then some q else none) v v := fun h => .leaf h
    have hv : VRs (fun j => if j = 0 then some p else if j = 1 then some q else none) [.int .i64 k, x.val 0, .int .i64 h, .int .i64 n, .string s, y.val 1] [.int .i64 k, B, .int .i64 h, .int .i64 n, .string s, A] :=
      VRs.cons (l rfl) (VRs.cons (hx _ rfl) (VRs.cons (l rfl) (VRs.cons (l rfl) (VRs.cons (l rfl) (VRs.cons (hy _ rfl) VRs.nil)))))
    exact open_call (orc_call kW_ok kW_n) hm rfl (VRs.cons (.agg hv.1 hv.2) VRs.nil) (fun i hi => by rw [if_neg (by omega), if_neg (by omega)])
  · cases hg
end Go.Proofs.YthelmobipjekjaaGreat.Ev
