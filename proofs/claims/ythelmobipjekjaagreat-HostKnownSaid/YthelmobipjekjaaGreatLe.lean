/- What the runner's operations give, the model's give. -/
import Derived.Test.YthelmobipjekjaaGreatLd

set_option linter.unusedVariables false
set_option linter.unusedSimpArgs false
namespace Go.Proofs.YthelmobipjekjaaGreat.Ev
open Go
section
variable {P : Program} {μ : Mp}
/-- 'X == Y' of two that are no numbers and no aggregates. -/
def EqRun (P : Program) (t : TypeId) (X Y : Value) (b : Bool) (w : World) : Prop :=
  ∀ (op : BinOp) (ox oy : Operand), (op = .eql → (do eqGuard op t ox oy X Y; binOp op t X Y : Sem Value).run P w = .ok (.bool b) w) ∧ (op = .neq → (do eqGuard op t ox oy X Y; binOp op t X Y : Sem Value).run P w = .ok (.bool (!b)) w)
theorem equal_of {t : TypeId} {X Y : Value} {b : Bool} {w : World} (h : ∀ d, (Op.equalIn (d + 1) t X Y).run P w = .ok b w) : (Op.equal t X Y).run P w = .ok b w := h 9999
theorem eq_of {t : TypeId} {X Y : Value} {b : Bool} {w : World} (h : ∀ d, (Op.equalIn (d + 1) t X Y).run P w = .ok b w)
    (hg : ∀ op ox oy, (eqGuard op t ox oy X Y).run P w = .ok () w)
    (hb : binOp .eql t X Y = (do pure (.bool (← Op.equal t X Y)) : Sem Value) ∧ binOp .neq t X Y = (do pure (.bool (!(← Op.equal t X Y))) : Sem Value)) : EqRun P t X Y b w := by
  intro op ox oy
  constructor
  · rintro rfl
    rw [map_ok _ (hg .eql ox oy), hb.1, map_ok _ (equal_of h)]; rfl
  · rintro rfl
    rw [map_ok _ (hg .neq ox oy), hb.2, map_ok _ (equal_of h)]; rfl
theorem guard_of {t : TypeId} {X Y : Value} {w : World} (h1 : ∀ a, X ≠ .agg a) (h2 : X ≠ .nilIface ∨ Y ≠ .nilIface) (op : BinOp) (ox oy : Operand) : (eqGuard op t ox oy X Y).run P w = .ok () w := by
  have fin : ∀ op, (op = .eql ∨ op = .neq) → (eqGuard op t ox oy X Y).run P w = .ok () w := by
    rintro op (rfl | rfl) <;> unfold eqGuard <;> simp only [Bool.not_true, Bool.false_eq_true, if_false] <;> split <;>
      first | rfl | (rcases h2 with h2 | h2 <;> exact absurd rfl h2) | exact absurd rfl (h1 _)
  cases op <;> first | rfl | exact fin _ (.inl rfl) | exact fin _ (.inr rfl)
theorem eq_ptr {t e : TypeId} (hu : P.underlying t = some (.pointer e)) (a b : Option Addr) (h : a = none ∨ b = none) (w : World) : EqRun P t (.pointer a) (.pointer b) (a.isNone && b.isNone) w := by
  refine eq_of (fun d => ?_) (guard_of (by simp) (by simp)) (by cases a <;> cases b <;> exact ⟨rfl, rfl⟩)
  simp only [Op.equalIn, Sem.run_bind, run_underlying hu w, Result.andThen]
  cases a <;> cases b <;> first | rfl | simp at h
theorem eq_sl {t e : TypeId} (hu : P.underlying t = some (.slice e)) (a b : Option Addr) (l c l' c' : Nat) (h : a.isNone ≠ b.isNone) (w : World) : EqRun P t (.slice a l c) (.slice b l' c') false w := by
  refine eq_of (fun d => ?_) (guard_of (by simp) (by simp)) ⟨rfl, rfl⟩
  simp only [Op.equalIn, Sem.run_bind, run_underlying hu w, Result.andThen]
  cases a <;> cases b <;> first | rfl | simp at h
theorem eq_map {t k e : TypeId} (hu : P.underlying t = some (.map k e)) (a b : Option Nat) (h : a.isNone ≠ b.isNone) (w : World) : EqRun P t (.map a) (.map b) false w := by
  refine eq_of (fun d => ?_) (guard_of (by simp) (by simp)) ⟨rfl, rfl⟩
  simp only [Op.equalIn, Sem.run_bind, run_underlying hu w, Result.andThen]
  cases a <;> cases b <;> first | rfl | simp at h
theorem eq_fn1 {t : TypeId} {a b : Array TypeId} {v : Bool} (hu : P.underlying t = some (.func a b v)) (fn : Fn) (fi ca : Array Value) (w : World) : EqRun P t .nilFunc (.func fn fi ca) false w := by
  refine eq_of (fun d => ?_) (guard_of (by simp) (by simp)) ⟨rfl, rfl⟩
  simp only [Op.equalIn, Sem.run_bind, run_underlying hu w, Result.andThen]; rfl
theorem eq_fn2 {t : TypeId} {a b : Array TypeId} {v : Bool} (hu : P.underlying t = some (.func a b v)) (fn : Fn) (fi ca : Array Value) (w : World) : EqRun P t (.func fn fi ca) .nilFunc false w := by
  refine eq_of (fun d => ?_) (guard_of (by simp) (by simp)) ⟨rfl, rfl⟩
  simp only [Op.equalIn, Sem.run_bind, run_underlying hu w, Result.andThen]; rfl
theorem eq_if1 {t : TypeId} {ms : Array (String × TypeId)} (hu : P.underlying t = some (.interface ms)) (u : TypeId) (v : Value) (w : World) : EqRun P t .nilIface (.iface u v) false w := by
  refine eq_of (fun d => ?_) (guard_of (by simp) (by simp)) ⟨rfl, rfl⟩
  simp only [Op.equalIn, Sem.run_bind, run_underlying hu w, Result.andThen]; rfl
theorem eq_if2 {t : TypeId} {ms : Array (String × TypeId)} (hu : P.underlying t = some (.interface ms)) (u : TypeId) (v : Value) (w : World) : EqRun P t (.iface u v) .nilIface false w := by
  refine eq_of (fun d => ?_) (guard_of (by simp) (by simp)) ⟨rfl, rfl⟩
  simp only [Op.equalIn, Sem.run_bind, run_underlying hu w, Result.andThen]; rfl
theorem kind_ptr {t : TypeId} {x : Value} (hx : ∃ a, x = .pointer a) (h : kindOk P t x = true) : ∃ e, P.underlying t = some (.pointer e) := by
  obtain ⟨a, rfl⟩ := hx
  unfold kindOk at h
  split at h <;> first | exact ⟨_, ‹_›⟩ | (simp at h; done)
theorem kind_sl {t : TypeId} {x : Value} (hx : ∃ a l c, x = .slice a l c) (h : kindOk P t x = true) : ∃ e, P.underlying t = some (.slice e) := by
  obtain ⟨a, l, c, rfl⟩ := hx
  unfold kindOk at h
  split at h <;> first | exact ⟨_, ‹_›⟩ | (simp at h; done)
theorem kind_map {t : TypeId} {x : Value} (hx : ∃ a, x = .map a) (h : kindOk P t x = true) : ∃ k e, P.underlying t = some (.map k e) := by
  obtain ⟨a, rfl⟩ := hx
  unfold kindOk at h
  split at h <;> first | exact ⟨_, _, ‹_›⟩ | (simp at h; done)
theorem kind_fn {t : TypeId} {x : Value} (hx : x = .nilFunc ∨ ∃ a b c, x = .func a b c) (h : kindOk P t x = true) : ∃ a b v, P.underlying t = some (.func a b v) := by
  rcases hx with rfl | ⟨a, b, c, rfl⟩ <;> unfold kindOk at h <;> split at h <;> first | exact ⟨_, _, _, ‹_›⟩ | (simp at h; done)
theorem kind_if {t : TypeId} {x : Value} (hx : x = .nilIface ∨ ∃ a b, x = .iface a b) (h : kindOk P t x = true) : ∃ ms, P.underlying t = some (.interface ms) := by
  rcases hx with rfl | ⟨a, b, rfl⟩ <;> unfold kindOk at h <;> split at h <;> first | exact ⟨_, ‹_›⟩ | (simp at h; done)
theorem VR.slsome {a : Addr} {l c : Nat} {V : Value} (h : VR μ (.slice (some a) l c) V) : ∃ A C, V = .slice (some A) l C := by
  rcases h.sl_inv with ⟨p, _, _, _, rfl⟩ | ⟨_, rfl, _, A, C, rfl⟩
  · exact ⟨_, _, rfl⟩
  · exact ⟨_, _, rfl⟩
theorem VR.fnsome {fn : Fn} {a b : Array Value} {V : Value} (h : VR μ (.func fn a b) V) : ∃ fn' c d, V = .func fn' c d := by
  cases h with
  | leaf h => simp [Ev.leaf] at h
  | fn => exact ⟨_, _, _, rfl⟩
  | yld => exact ⟨_, _, _, rfl⟩
theorem nilEq_sound {t : TypeId} {x y X Y : Value} {b : Bool} (h : nilEq x y = some b) (hk : kindOk P t x = true) (hx : VR μ x X) (hy : VR μ y Y) (w : World) : EqRun P t X Y b w := by
  unfold nilEq at h
  split at h <;> simp only [Option.some.injEq, reduceCtorEq] at h <;> subst h
  · obtain ⟨e, hu⟩ := kind_ptr ⟨_, rfl⟩ hk
    rw [hx.of_flat rfl, hy.of_flat rfl]; exact eq_ptr hu _ _ (.inl rfl) w
  · obtain ⟨e, hu⟩ := kind_ptr ⟨_, rfl⟩ hk
    obtain ⟨p, _, _, rfl⟩ := hy.ptr_inv
    rw [hx.of_flat rfl]; exact eq_ptr hu _ _ (.inl rfl) w
  · obtain ⟨e, hu⟩ := kind_ptr ⟨_, rfl⟩ hk
    obtain ⟨p, _, _, rfl⟩ := hx.ptr_inv
    rw [hy.of_flat rfl]; exact eq_ptr hu _ _ (.inr rfl) w
  · obtain ⟨e, hu⟩ := kind_sl ⟨_, _, _, rfl⟩ hk
    obtain ⟨A, C, rfl⟩ := hy.slsome
    rw [hx.of_flat rfl]; exact eq_sl hu _ _ _ _ _ _ (by simp) w
  · obtain ⟨e, hu⟩ := kind_sl ⟨_, _, _, rfl⟩ hk
    obtain ⟨A, C, rfl⟩ := hx.slsome
    rw [hy.of_flat rfl]; exact eq_sl hu _ _ _ _ _ _ (by simp) w
  · obtain ⟨k, e, hu⟩ := kind_map ⟨_, rfl⟩ hk
    obtain ⟨p, _, rfl⟩ := hy.map_inv
    rw [hx.of_flat rfl]; exact eq_map hu _ _ (by simp) w
  · obtain ⟨k, e, hu⟩ := kind_map ⟨_, rfl⟩ hk
    obtain ⟨p, _, rfl⟩ := hx.map_inv
    rw [hy.of_flat rfl]; exact eq_map hu _ _ (by simp) w
  · obtain ⟨a, b, v, hu⟩ := kind_fn (.inl rfl) hk
    obtain ⟨_, _, _, rfl⟩ := hy.fnsome
    rw [hx.of_flat rfl]; exact eq_fn1 hu _ _ _ w
  · obtain ⟨a, b, v, hu⟩ := kind_fn (.inr ⟨_, _, _, rfl⟩) hk
    obtain ⟨_, _, _, rfl⟩ := hx.fnsome
    rw [hy.of_flat rfl]; exact eq_fn2 hu _ _ _ w
  · obtain ⟨ms, hu⟩ := kind_if (.inl rfl) hk
    obtain ⟨_, rfl, _⟩ := hy.iface_inv
    rw [hx.of_flat rfl]; exact eq_if1 hu _ _ w
  · obtain ⟨ms, hu⟩ := kind_if (.inr ⟨_, _, rfl⟩) hk
    obtain ⟨_, rfl, _⟩ := hx.iface_inv
    rw [hy.of_flat rfl]; exact eq_if2 hu _ _ w
end
end Go.Proofs.YthelmobipjekjaaGreat.Ev
