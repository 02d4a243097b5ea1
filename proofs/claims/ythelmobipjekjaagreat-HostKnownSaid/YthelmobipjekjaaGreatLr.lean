/- Locks, marks, a deferred call that does nothing; calls with arguments of which nothing is known. -/
import Derived.Test.YthelmobipjekjaaGreatLq
import Derived.Laws.LoneSync
import Derived.RecoverIn
set_option linter.unusedVariables false
set_option linter.unusedSimpArgs false
set_option linter.unusedSectionVars false
namespace Go.Proofs.YthelmobipjekjaaGreat.Ev
open Go Go.RowKit
/-! ### functions without bodies: locks, marks -/
section
variable {P : Program} {μ : Mp} {m : Me} {w : World}
theorem orO_ext {A B : CallF} (ha : ExtOK P A) (hb : ExtOK P B) : ExtOK P (orO A B) := by
  intro f args m v m' h
  unfold orO at h
  split at h
  · rename_i r hr; cases h; exact ha _ _ _ _ _ hr
  · exact hb _ _ _ _ _ h
theorem noO_ext : ExtOK P noO := fun f args m v m' h => by cases h
/-- A call without arguments that does nothing. -/
noncomputable def mark0O (f : Nat) : CallF := fun g args m => bif Nat.beq g f && args.isEmpty then some (.tuple #[], m) else none
/-- ... of an address. -/
noncomputable def mark1O (f : Nat) : CallF := fun g args m => bif Nat.beq g f then (match args with
  | [.pointer (some _)] => some (.tuple #[], m)
  | _ => none) else none
/-- A number in a cell is exchanged where it is as it should. -/
noncomputable def casO (f : Nat) : CallF := fun g args m => bif Nat.beq g f then (match args with
  | [.pointer (some a), .int .i32 x, .int .i32 y] => rowThen m.h a fun c => match c.get a.off with
    | some (.int .i32 z) => bif eqI z x then writeK m a [.int .i32 y] fun m => some (.bool true, m) else none
    | _ => none
  | _ => none) else none
/-- A number is added to a cell's. -/
noncomputable def addO (f : Nat) : CallF := fun g args m => bif Nat.beq g f then (match args with
  | [.pointer (some a), .int .i32 y] => rowThen m.h a fun c => match c.get a.off with
    | some (.int .i32 z) => fI (wrapF .i32 (Int.add z y)) fun n => writeK m a [.int .i32 n] fun m => some (.int .i32 n, m)
    | _ => none
  | _ => none) else none
theorem write1 {β : Type} {a : Addr} {v V U : Value} {k : Me → Option β} {r : β} {p : Pl} (h : writeK m a [v] k = some r) (hm : HR P μ m w) (hp : μ a.block = some p) (hv : VR μ v V) (hc : w.cell? ⟨p.blk, p.base + a.off, none⟩ = some U) (h1 : V.oneCell' = true) :
    ∃ m', k m' = some r ∧ m'.n = m.n ∧ w.frozen? ⟨p.blk, p.base + a.off, none⟩ = false ∧ HR P μ m' (w.setCell ⟨p.blk, p.base + a.off, none⟩ V) ∧ Ext μ m w μ m' (w.setCell ⟨p.blk, p.base + a.off, none⟩ V) := by
  obtain ⟨m', w', k1, k2, k3, k4, k5⟩ := write_sound h hm hp (VRs.cons hv VRs.nil)
  have e0 := run_store P w (⟨p.blk, p.base + a.off, none⟩ : Addr) V .plain h1
  rw [hc] at e0
  dsimp only at e0
  have k3 : (do store ((⟨p.blk, p.base + a.off, none⟩ : Addr).add 0) V; pure () : Sem Unit).run P w = .ok () w' := k3
  rw [add_at, Nat.add_zero] at k3
  cases hf : w.frozen? ⟨p.blk, p.base + a.off, none⟩ with
  | true =>
    rw [hf, if_pos rfl] at e0
    simp [Sem.run_bind, e0, Result.andThen] at k3
  | false =>
    rw [hf, if_neg (by simp)] at e0
    rw [map_ok' _ e0] at k3
    cases k3
    exact ⟨m', k1, k2, rfl, k4, k5⟩
section
variable {f : Nat} {fn : Func} (hf : P.funcs[f]? = some fn) (hname : (fn.name == "runtime.NumGoroutine") = false) (hb : fn.body.isNone = true) (hn : Extern.findNext fn = none)
include hf hname hb hn
theorem mark0_ok (mk : Mark) (he : Extern.find fn = some (fun _ => do mark mk; pure Extern.Race.none_)) : ExtOK P (mark0O f) := by
  intro g args m v m' h μ w ARGS hargs hm hfree
  unfold mark0O at h
  revert h
  cases hc : (Nat.beq g f && args.isEmpty) <;> intro h
  · cases h
  · cases h
    simp only [Bool.and_eq_true] at hc
    obtain rfl := Nat.eq_of_beq_eq_true hc.1
    have : args = [] := by simpa using hc.2
    subst this
    obtain rfl := hargs.nil_inv
    exact ⟨_, w, μ, run_call_mark0 hf hname hb hn mk he w, .tup (a := []) (b := []) rfl (fun k x y hx => by simp at hx), hm, Ext.refl _ _ _⟩
theorem mark1_ok (mk : Addr → Mark) (he : Extern.find fn = some (Extern.Race.marked mk)) : ExtOK P (mark1O f) := by
  intro g args m v m' h μ w ARGS hargs hm hfree
  unfold mark1O at h
  revert h
  cases hc : Nat.beq g f <;> intro h
  · cases h
  · obtain rfl := Nat.eq_of_beq_eq_true hc
    simp only [cond_true] at h
    split at h
    · cases h
      obtain ⟨V, VS, rfl, hv, hvs⟩ := hargs.cons_inv
      obtain rfl := hvs.nil_inv
      obtain ⟨p, _, hp, rfl⟩ := hv.ptr_inv
      exact ⟨_, w, μ, run_call_marked hf hname hb hn mk he _ w, .tup (a := []) (b := []) rfl (fun k x y hx => by simp at hx), hm, Ext.refl _ _ _⟩
    · cases h
theorem cas_ok (he : Extern.find fn = some (Extern.Atomic.casT (.int .i32))) : ExtOK P (casO f) := by
  intro g args m v m' h μ w ARGS hargs hm hfree
  unfold casO at h
  revert h
  cases hc : Nat.beq g f <;> intro h
  · cases h
  · obtain rfl := Nat.eq_of_beq_eq_true hc
    simp only [cond_true] at h
    split at h
    · rename_i a x y
      obtain ⟨b, o, c, len, el, pr, fz, rfl, hrow, h2⟩ := rowThen_some h
      clear h
      split at h2
      · rename_i z hz
        revert h2
        cases hxz : eqI z x <;> intro h2
        · cases h2
        · simp only [cond_true] at h2
          have hzx : z = x := by rw [eqI_eq] at hxz; simpa using hxz
          subst hzx
          obtain ⟨V, VS, rfl, hv, hvs⟩ := hargs.cons_inv
          obtain ⟨V2, VS2, rfl, hv2, hvs2⟩ := hvs.cons_inv
          obtain ⟨V3, VS3, rfl, hv3, hvs3⟩ := hvs2.cons_inv
          obtain rfl := hvs3.nil_inv
          obtain ⟨p, _, hp, rfl⟩ := hv.ptr_inv
          obtain rfl := hv2.of_leaf rfl
          obtain rfl := hv3.of_leaf rfl
          obtain ⟨U, hU, hUv⟩ := (hm.row hrow hp).cell hz
          obtain rfl := hUv.of_leaf rfl
          obtain ⟨m1, k1, k2, k3, k4, k5⟩ := write1 h2 hm (a := ⟨b, o, none⟩) hp (.leaf rfl) hU rfl
          cases k1
          exact ⟨_, _, μ, run_call_cas_hit hf hname hb hn .i32 he hU k3, .leaf rfl, k4, k5⟩
      · cases h2
    · cases h
theorem add_ok (he : Extern.find fn = some (Extern.Atomic.update (Op.intArith .add) .i32 true)) : ExtOK P (addO f) := by
  intro g args m v m' h μ w ARGS hargs hm hfree
  unfold addO at h
  revert h
  cases hc : Nat.beq g f <;> intro h
  · cases h
  · obtain rfl := Nat.eq_of_beq_eq_true hc
    simp only [cond_true] at h
    split at h
    · rename_i a y
      obtain ⟨b, o, c, len, el, pr, fz, rfl, hrow, h⟩ := rowThen_some h
      split at h
      · rename_i z hz
        rw [fI_eq, wrapF_eq] at h
        obtain ⟨V, VS, rfl, hv, hvs⟩ := hargs.cons_inv
        obtain ⟨V2, VS2, rfl, hv2, hvs2⟩ := hvs.cons_inv
        obtain rfl := hvs2.nil_inv
        obtain ⟨p, _, hp, rfl⟩ := hv.ptr_inv
        obtain rfl := hv2.of_leaf rfl
        obtain ⟨U, hU, hUv⟩ := (hm.row hrow hp).cell hz
        obtain rfl := hUv.of_leaf rfl
        obtain ⟨m1, k1, k2, k3, k4, k5⟩ := write1 h hm (a := ⟨b, o, none⟩) hp (.leaf rfl) hU rfl
        cases k1
        exact ⟨_, _, μ, run_call_add hf hname hb hn .i32 he hU k3 (by simp [Op.intArith]), .leaf rfl, k4, k5⟩
      · cases h
    · cases h
end
/-- Externs hand on numbers. -/
theorem mark0_n {f : Nat} : CallN (mark0O f) := by
  intro g args m v m' h
  unfold mark0O at h
  revert h
  cases (Nat.beq g f && args.isEmpty) <;> intro h
  · cases h
  · cases h; exact Nat.le_refl _
theorem mark1_n {f : Nat} : CallN (mark1O f) := by
  intro g args m v m' h
  unfold mark1O at h
  revert h
  cases (Nat.beq g f) <;> intro h
  · cases h
  · simp only [cond_true] at h
    split at h
    · cases h; exact Nat.le_refl _
    · cases h
theorem cas_n {f : Nat} : CallN (casO f) := by
  intro g args m v m' h
  unfold casO at h
  revert h
  cases (Nat.beq g f) <;> intro h
  · cases h
  · simp only [cond_true] at h
    split at h
    · obtain ⟨_, _, _, _, _, _, _, _, _, h⟩ := rowThen_some h
      split at h
      · revert h
        cases (eqI _ _) <;> intro h
        · cases h
        · simp only [cond_true] at h
          obtain ⟨m1, h1, h2⟩ := writeK_n h
          cases h1; exact Nat.le_of_eq h2.symm
      · cases h
    · cases h
theorem add_n {f : Nat} : CallN (addO f) := by
  intro g args m v m' h
  unfold addO at h
  revert h
  cases (Nat.beq g f) <;> intro h
  · cases h
  · simp only [cond_true] at h
    split at h
    · obtain ⟨_, _, _, _, _, _, _, _, _, h⟩ := rowThen_some h
      split at h
      · rw [fI_eq] at h
        obtain ⟨m1, h1, h2⟩ := writeK_n h
        cases h1; exact Nat.le_of_eq h2.symm
      · cases h
    · cases h
/-- A deferred call that does nothing. -/
noncomputable def idleD (f k : Nat) : Nat → List Value → Me → Option Me := fun g args m => bif Nat.beq g f && Nat.beq args.length k then some m else none
theorem idle_ok {f k : Nat} (hb : ∃ fn, P.funcs[f]? = some fn ∧ fn.body.isSome = true ∧ (fn.name == "runtime.NumGoroutine") = false)
    (h : ∀ (ARGS : List Value) (w : World), ARGS.length = k → CallsDIn Fence.wide 0 P f ⟨ARGS⟩ .returning w fun e u' w' => (∃ V, e = .returned V) ∧ u' = .returning ∧ w' = w) : DfrOK P (idleD f k) := by
  intro g args m m' hd
  unfold idleD at hd
  revert hd
  cases hc : (Nat.beq g f && Nat.beq args.length k) <;> intro hd
  · cases hd
  · cases hd
    simp only [Bool.and_eq_true] at hc
    obtain rfl := Nat.eq_of_beq_eq_true hc.1
    have hl := Nat.eq_of_beq_eq_true hc.2
    refine ⟨hb, fun μ w ARGS hargs hm hfree => (h ARGS w (by rw [← hargs.1]; exact hl)).mono fun e u w' he => ?_⟩
    obtain ⟨⟨V, rfl⟩, rfl, rfl⟩ := he
    exact ⟨rfl, V, μ, rfl, hm, Ext.refl _ _ _⟩
theorem idle_n {f k : Nat} {g : Nat} {args : List Value} {m m' : Me} (hd : idleD f k g args m = some m') : m.n ≤ m'.n := by
  unfold idleD at hd
  revert hd
  cases (Nat.beq g f && Nat.beq args.length k) <;> intro hd
  · cases hd
  · cases hd; exact Nat.le_refl _
/-- A call with arguments that nothing is known of. -/
theorem open_call {c : CallF} {f n : Nat} {args ARGS : List Value} {v : Value} {m1 : Me} (hc : CallOK P c) (h : c f args (.mk .e n) = some (v, m1)) (hv : leaf v = true) (hargs : VRs μ args ARGS) (hmu : ∀ i, n ≤ i → μ i = none) :
    Calls P f ⟨ARGS⟩ w fun e w' => e = .returned v ∧ Below w.heap.size w w' := by
  obtain ⟨_, hcall⟩ := hc _ _ _ _ _ h
  have h0 : ∀ i o, (Me.mk .e n).h.get i = some o → False := fun i o h => by cases h
  have := hcall μ w ARGS hargs ⟨fun i o h => (h0 i o h).elim, fun i o h => (h0 i o h).elim, fun i o j o' p q h => (h0 i o h).elim⟩ (fun i hi _ => hmu i hi)
  refine callsIn_wide.1 (this.mono fun e w' he => ?_)
  obtain ⟨V, ν, rfl, hV, _, hx⟩ := he
  rw [hV.of_leaf hv]
  exact ⟨rfl, hx.os, hx.tape, hx.output, hx.size, fun k hk => hx.keep k hk fun ⟨i, o, p, hi, _⟩ => h0 i o hi⟩
end
end Go.Proofs.YthelmobipjekjaaGreat.Ev
