/- Calls on no host and on a zero one answer that there is none: the runs. -/
import Derived.Test.YthelmobipjekjaaGreatJc
set_option linter.unusedVariables false
set_option maxRecDepth 1000000
namespace Go.Proofs.YthelmobipjekjaaGreat.Ev
open Go Go.RowKit
def gives (r : Option (Value × Me)) (v : Value) : Bool := match r with
  | some (u, _) => veq u v
  | none => false
theorem none_nn (k h n : Int) (s : ByteArray) (l c p q : Nat) : gives (call Tryz.prog (orc kW) 1000000 11 [.agg ⟨[.int .i64 k, .slice none 0 0, .int .i64 h, .int .i64 n, .string s, .slice none 0 0]⟩] (.mk .e 2)) (.bool true) = true := by kernel_rfl
theorem none_ne (k h n : Int) (s : ByteArray) (l c p q : Nat) : gives (call Tryz.prog (orc kW) 1000000 11 [.agg ⟨[.int .i64 k, .slice none 0 0, .int .i64 h, .int .i64 n, .string s, emptyS]⟩] (.mk .e 2)) (.bool true) = true := by kernel_rfl
theorem none_ns (k h n : Int) (s : ByteArray) (l c p q : Nat) : gives (call Tryz.prog (orc kW) 1000000 11 [.agg ⟨[.int .i64 k, .slice none 0 0, .int .i64 h, .int .i64 n, .string s, .slice (some ⟨1, 0, none⟩) p q]⟩] (.mk .e 2)) (.bool true) = true := by kernel_rfl
theorem none_en (k h n : Int) (s : ByteArray) (l c p q : Nat) : gives (call Tryz.prog (orc kW) 1000000 11 [.agg ⟨[.int .i64 k, emptyS, .int .i64 h, .int .i64 n, .string s, .slice none 0 0]⟩] (.mk .e 2)) (.bool true) = true := by kernel_rfl
theorem none_ee (k h n : Int) (s : ByteArray) (l c p q : Nat) : gives (call Tryz.prog (orc kW) 1000000 11 [.agg ⟨[.int .i64 k, emptyS, .int .i64 h, .int .i64 n, .string s, emptyS]⟩] (.mk .e 2)) (.bool true) = true := by kernel_rfl
theorem none_es (k h n : Int) (s : ByteArray) (l c p q : Nat) : gives (call Tryz.prog (orc kW) 1000000 11 [.agg ⟨[.int .i64 k, emptyS, .int .i64 h, .int .i64 n, .string s, .slice (some ⟨1, 0, none⟩) p q]⟩] (.mk .e 2)) (.bool true) = true := by kernel_rfl
theorem none_sn (k h n : Int) (s : ByteArray) (l c p q : Nat) : gives (call Tryz.prog (orc kW) 1000000 11 [.agg ⟨[.int .i64 k, .slice (some ⟨0, 0, none⟩) l c, .int .i64 h, .int .i64 n, .string s, .slice none 0 0]⟩] (.mk .e 2)) (.bool true) = true := by kernel_rfl
theorem none_se (k h n : Int) (s : ByteArray) (l c p q : Nat) : gives (call Tryz.prog (orc kW) 1000000 11 [.agg ⟨[.int .i64 k, .slice (some ⟨0, 0, none⟩) l c, .int .i64 h, .int .i64 n, .string s, emptyS]⟩] (.mk .e 2)) (.bool true) = true := by kernel_rfl
theorem none_ss (k h n : Int) (s : ByteArray) (l c p q : Nat) : gives (call Tryz.prog (orc kW) 1000000 11 [.agg ⟨[.int .i64 k, .slice (some ⟨0, 0, none⟩) l c, .int .i64 h, .int .i64 n, .string s, .slice (some ⟨1, 0, none⟩) p q]⟩] (.mk .e 2)) (.bool true) = true := by kernel_rfl
end Go.Proofs.YthelmobipjekjaaGreat.Ev
