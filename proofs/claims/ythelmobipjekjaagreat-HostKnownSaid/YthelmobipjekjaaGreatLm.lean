/- What the runner's runs give, the program's give. -/
import Derived.Test.YthelmobipjekjaaGreatLl
import Derived.OrdersIn
import Derived.RangeFuncIn
import Derived.RangeFuncRecord
import Derived.RangeFuncNested
import Derived.RangeFuncLeaves
import Derived.OwnWalkIn
set_option linter.unusedVariables false
set_option linter.unusedSimpArgs false
namespace Go.Proofs.YthelmobipjekjaaGreat.Ev
open Go Go.RowKit
/-! ### numbers only grow -/
section
variable {P : Program} {m : Me}
theorem killK_k {β : Type} : ∀ {l : List Nat} {h : Tr AO} {k : Tr AO → Option β} {r : β}, killK l h k = some r → ∃ h', k h' = some r
  | [], h, k, r, hk => ⟨h, hk⟩
  | j :: l, h, k, r, hk => by
    unfold killK at hk
    split at hk
    · rw [Tr.putK_eq] at hk; exact killK_k hk
    · exact killK_k hk
theorem storeK_k {β : Type} : ∀ {vs : List Value} {c : Tr Value} {i : Nat} {k : Tr Value → Option β} {r : β}, storeK vs c i k = some r → ∃ c', k c' = some r
  | [], c, i, k, r, h => ⟨c, h⟩
  | v :: vs, c, i, k, r, h => by
    unfold storeK at h
    split at h
    · cases h
    · rw [Tr.putK_eq] at h; exact storeK_k h
theorem writeK_n {β : Type} {a : Addr} {vs : List Value} {k : Me → Option β} {r : β} (h : writeK m a vs k = some r) : ∃ m1, k m1 = some r ∧ m1.n = m.n := by
  unfold writeK at h
  split at h
  · rename_i h0 n b off
    cases ho : ones vs with
    | false => rw [ho] at h; cases h
    | true =>
      rw [ho] at h
      simp only [Bool.not_true, cond_false] at h
      split at h
      · rename_i c len el an hb
        cases hbd : Nat.ble (off + vs.length) len with
        | false => rw [hbd] at h; cases h
        | true =>
          rw [hbd] at h
          simp only [Bool.not_true, cond_false] at h
          obtain ⟨c', h⟩ := storeK_k h
          obtain ⟨h', h⟩ := killK_k h
          rw [Tr.putK_eq] at h
          exact ⟨_, h, rfl⟩
      · cases h
  · cases h
theorem newRow_n {el n : Nat} {cs : List Value} {v : Value} {m' : Me} (h : Ev.newRow el cs n m = some (v, m')) : m'.n = m.n + 1 := by
  obtain ⟨_, rfl⟩ := newRow_some h; rfl
theorem appendV_n {el k : Nat} {z : List Value} {zs : Bool} {x y v : Value} {m' : Me} (h : appendV el k z zs x y m = some (v, m')) : m.n ≤ m'.n := by
  unfold appendV at h
  have wr : ∀ {a : Addr} {vs : List Value} {g : Me → Option (Value × Me)}, (∀ m1, ∃ u, g m1 = some (u, m1)) → writeK m a vs g = some (v, m') → m.n ≤ m'.n := by
    intro a vs g hg hw
    obtain ⟨m1, h1, h2⟩ := writeK_n hw
    obtain ⟨u, hu⟩ := hg m1
    rw [hu] at h1; cases h1; omega
  split at h
  · rename_i base len cap
    split at h
    · cases h
    · rename_i news n hnews
      cases hn0 : Nat.beq n 0 with
      | true =>
        rw [hn0] at h
        simp only [cond_true] at h
        cases hb : (base.isSome || (Nat.beq len 0 && Nat.beq cap 0)) with
        | false => rw [hb] at h; cases h
        | true => rw [hb] at h; simp only [cond_true, Option.some.injEq, Prod.mk.injEq] at h; obtain ⟨_, rfl⟩ := h; exact Nat.le_refl _
      | false =>
        rw [hn0] at h
        simp only [cond_false] at h
        cases hb : (Nat.ble n 16777216 && Nat.ble len 16777216 && ones news && Nat.beq news.length (n * k)) with
        | false => rw [hb] at h; cases h
        | true =>
          rw [hb] at h
          simp only [Bool.not_true, cond_false] at h
          split at h
          · cases hb : (Nat.beq len 0 && Nat.beq cap 0) with
            | false => rw [hb] at h; cases h
            | true => rw [hb] at h; have := newRow_n h; omega
          · rename_i b off
            split at h
            · rename_i c rl re an fz hb
              cases hre : Nat.beq re el with
              | false => rw [hre] at h; cases h
              | true =>
                rw [hre] at h
                simp only [Bool.not_true, cond_false] at h
                cases hcc : capless cap with
                | false =>
                  rw [hcc] at h
                  simp only [cond_false] at h
                  cases hroom : Nat.ble (len + n) cap with
                  | true =>
                    rw [hroom] at h
                    simp only [cond_true] at h
                    refine wr ?_ h
                    exact fun m1 => ⟨_, fN_eq _ _⟩
                  | false =>
                    rw [hroom] at h
                    simp only [cond_false] at h
                    split at h
                    · cases h
                    · have := newRow_n h; omega
                | true =>
                  rw [hcc] at h
                  simp only [cond_true] at h
                  cases hoff : Nat.beq off ((cap - sym) * k) with
                  | false => rw [hoff] at h; cases h
                  | true =>
                    rw [hoff] at h
                    simp only [Bool.not_true, cond_false] at h
                    cases hin : Nat.ble (off + (len + n) * k) rl with
                    | true =>
                      rw [hin] at h
                      simp only [cond_true] at h
                      refine wr ?_ h
                      exact fun m1 => ⟨_, fN_eq _ _⟩
                    | false =>
                      rw [hin] at h
                      simp only [cond_false] at h
                      cases fz with
                      | true => cases h
                      | false =>
                        simp only [cond_false] at h
                        cases hlast : Nat.ble rl (off + len * k) with
                        | true =>
                          rw [hlast] at h
                          simp only [cond_true, Me.put_eq, fN_eq] at h
                          cases ho0 : Nat.beq off 0 with
                          | true =>
                            rw [ho0] at h
                            simp only [cond_true, Tr.putsK_eq, Me.new_eq, fN_eq, Option.some.injEq, Prod.mk.injEq] at h
                            obtain ⟨_, rfl⟩ := h
                            exact Nat.le_succ _
                          | false =>
                            rw [ho0] at h
                            simp only [cond_false] at h
                            split at h
                            · cases h
                            · simp only [Tr.putsK_eq, Me.new_eq, fN_eq, Option.some.injEq, Prod.mk.injEq] at h
                              obtain ⟨_, rfl⟩ := h
                              exact Nat.le_succ _
                        | false =>
                          rw [hlast] at h
                          simp only [cond_false] at h
                          split at h
                          · cases h
                          · obtain ⟨h2, nx⟩ := m
                            obtain ⟨h', k1⟩ := killK_k h
                            simp only [Tr.putK_eq] at k1
                            have := newRow_n k1
                            have e : (Me.mk (h'.put b .dead) nx).n = nx := rfl
                            have e2 : (Me.mk h2 nx).n = nx := rfl
                            omega
            · cases h
          · cases h
  · cases h
theorem copyV_n {k : Nat} {x y v : Value} {m' : Me} (h : copyV k x y m = some (v, m')) : m.n ≤ m'.n := by
  have wr : ∀ {a : Addr} {vs : List Value} {u : Value}, (writeK m a vs fun m => some (u, m)) = some (v, m') → m.n ≤ m'.n := by
    intro a vs u hw
    obtain ⟨m1, h1, h2⟩ := writeK_n hw
    cases h1; omega
  unfold copyV at h
  split at h
  · rename_i dst dl cp
    split at h
    · rename_i src sl cs
      dsimp only at h
      cases hz : Nat.beq (Nat.min sl dl * k) 0 with
      | true => rw [hz] at h; simp only [cond_true, Option.some.injEq, Prod.mk.injEq] at h; obtain ⟨_, rfl⟩ := h; exact Nat.le_refl _
      | false =>
        rw [hz] at h
        simp only [cond_false] at h
        split at h
        · obtain ⟨bb, o, cc, rl, el', an, fz, _, hbb, h⟩ := rowThen_some h
          split at h
          · exact wr h
          · cases h
        · cases h
    · rename_i s
      dsimp only at h
      cases hz : Nat.beq (Nat.min s.size dl) 0 with
      | true => rw [hz] at h; simp only [cond_true, Option.some.injEq, Prod.mk.injEq] at h; obtain ⟨_, rfl⟩ := h; exact Nat.le_refl _
      | false =>
        rw [hz] at h
        simp only [cond_false] at h
        cases hk1 : Nat.beq k 1 with
        | false => rw [hk1] at h; cases h
        | true =>
          rw [hk1] at h
          simp only [cond_true] at h
          split at h
          · exact wr h
          · cases h
    · cases h
  · cases h
theorem clearV_n {z : List Value} {x v : Value} {m' : Me} (h : clearV z x m = some (v, m')) : m.n ≤ m'.n := by
  unfold clearV at h
  split at h
  · simp only [Option.some.injEq, Prod.mk.injEq] at h; obtain ⟨_, rfl⟩ := h; exact Nat.le_refl _
  · rename_i a n c
    cases hz0 : Nat.beq n 0 with
    | true => rw [hz0] at h; simp only [cond_true, Option.some.injEq, Prod.mk.injEq] at h; obtain ⟨_, rfl⟩ := h; exact Nat.le_refl _
    | false =>
      rw [hz0] at h
      simp only [cond_false] at h
      obtain ⟨m1, h1, h2⟩ := writeK_n h
      cases h1; omega
  · cases h
theorem rangeV_n {x v : Value} {m' : Me} (h : rangeV x m = some (v, m')) : m.n ≤ m'.n := by
  unfold rangeV at h
  split at h
  · rw [Me.new_eq] at h; cases h; exact Nat.le_succ _
  · split at h
    · rw [Me.new_eq] at h; cases h; exact Nat.le_succ _
    · cases h
  · cases h
theorem nextV_n {x v : Value} {m' : Me} (h : nextV x m = some (v, m')) : m.n ≤ m'.n := by
  unfold nextV at h
  split at h
  · split at h
    · cases h; exact Nat.le_refl _
    · split at h
      · revert h
        cases (_ && _ : Bool) <;> intro h
        · simp only [cond_false] at h
          split at h
          · cases h; exact Nat.le_refl _
          · revert h
            cases (Nat.blt _ _) <;> intro h
            · cases h
            · simp only [cond_true, Me.put_eq] at h
              cases h; exact Nat.le_refl _
          · cases h
        · cases h
      · cases h
    · cases h
  · cases h
theorem eop_n {o : Oper} {ρ : Operand → Value} {v : Value} {m' : Me} (h : (eop P o).1 ρ m = some (v, m')) : m.n ≤ m'.n := by
  unfold eop at h
  split at h
  · split at h
    · dsimp only at h
      split at h
      · revert h
        cases (Nat.beq _ _) <;> intro h
        · cases h
        · simp only [cond_true] at h
          obtain ⟨m1, h1, h2⟩ := writeK_n h
          cases h1; omega
      · cases h
    · cases h
  · split at h
    · split at h
      · dsimp only at h
        obtain ⟨r, es, cl, _, _, h⟩ := mapThen_some h
        split at h
        · split at h
          · rw [Me.put_eq] at h; cases h; exact Nat.le_refl _
          · rw [Me.put_eq] at h; cases h; exact Nat.le_refl _
          · cases h
        · cases h
      · cases h
    · cases h
  · split at h
    · split at h
      · revert h
        cases (Nat.beq _ _) <;> intro h
        · cases h
        · dsimp only [cond_true] at h
          unfold slThen at h
          split at h
          · obtain ⟨b, off, cc, rl, re, an, fz, _, hb, h⟩ := rowThen_some h
            cases h; exact Nat.le_refl _
          · cases h
      · cases h
    · cases h
  · split at h
    · exact rangeV_n h
    · cases h
  · revert h
    rename_i s ho
    cases s <;> intro h
    · exact nextV_n h
    · cases h
  · split at h
    · split at h
      · split at h
        · split at h
          · revert h
            generalize (!Nat.beq _ 0 && _ && _ && _) = bb
            cases bb <;> intro h
            · cases h
            · exact appendV_n h
          · cases h
        · cases h
      · cases h
    · split at h
      · split at h
        · split at h
          · exact copyV_n h
          · cases h
        · cases h
      · cases h
    · split at h
      · split at h
        · split at h
          · obtain ⟨r, es, cl, _, _, h⟩ := mapThen_some h
            split at h
            · split at h
              · rw [Me.put_eq] at h; cases h; exact Nat.le_refl _
              · cases h
            · cases h
          · cases h
        · cases h
      · cases h
    · split at h
      · split at h
        · split at h
          · exact clearV_n h
          · cases h
        · cases h
      · cases h
    · cases h
  · cases h
end
/-! ### frames, memories to come -/
section
variable {P : Program} {μ ν : Mp} {m : Me} {w : World}
/-- The marks of an activation's. -/
inductive DR (μ : Mp) : Dm → Deferred → Prop where
  | mark {d : Nat} {p : Pl} (h : μ d = some p) : DR μ (.mark d) { target := .collected p.blk, args := #[] }
  | call {f : Nat} {args ARGS cap CAP : List Value} (ha : VRs μ args ARGS) (hc : VRs μ cap CAP) : DR μ (.call f args cap) { target := .fn (.func f) ⟨CAP⟩, args := ⟨ARGS⟩ }
theorem DR.mono {d : Dm} {D : Deferred} (h : DR μ d D) (hle : Mp.Le μ ν) : DR ν d D := by
  cases h with
  | mark h => exact .mark (hle _ _ h)
  | call ha hc => exact .call (ha.mono hle) (hc.mono hle)
def MR (μ : Mp) (ms : List Dm) (ds : List Deferred) : Prop := ds.length = ms.length ∧ ∀ (k : Nat) (d : Dm), ms[k]? = some d → ∃ D, ds[k]? = some D ∧ DR μ d D
theorem MR.mono {ms : List Dm} {ds : List Deferred} (h : MR μ ms ds) (hle : Mp.Le μ ν) : MR ν ms ds := ⟨h.1, fun k d hk => by obtain ⟨p, h1, h2⟩ := h.2 k d hk; exact ⟨p, h1, h2.mono hle⟩⟩
theorem MR.nil : MR μ [] [] := ⟨rfl, fun k d h => by simp at h⟩
theorem MR.nil_inv {ds : List Deferred} (h : MR μ [] ds) : ds = [] := List.eq_nil_of_length_eq_zero (by have := h.1; simpa using this)
theorem MR.cons {d : Dm} {D : Deferred} {ms : List Dm} {ds : List Deferred} (h : MR μ ms ds) (hd : DR μ d D) : MR μ (d :: ms) (D :: ds) :=
  ⟨by simp [h.1], fun k e hk => by
    cases k with
    | zero => simp at hk; subst hk; exact ⟨D, rfl, hd⟩
    | succ k => exact h.2 k e (by simpa using hk)⟩
theorem MR.cons_inv {d : Dm} {ms : List Dm} {ds : List Deferred} (h : MR μ (d :: ms) ds) : ∃ D ds', ds = D :: ds' ∧ DR μ d D ∧ MR μ ms ds' := by
  cases ds with
  | nil => have := h.1; simp at this
  | cons D ds =>
    obtain ⟨D', h1, h2⟩ := h.2 0 d rfl
    simp at h1; subst h1
    exact ⟨D, ds, rfl, h2, by simpa using h.1, fun k e hk => h.2 (k + 1) e (by simpa using hk)⟩
/-- An activation. -/
inductive FR (μ : Mp) : Fr → Act → Prop where
  | mk {a : Tr Value} {nt : Nat} {ms : List Dm} {T : Array Value} {ds : List Deferred} (h : AR μ a nt T) (hm : MR μ ms ds) : FR μ (.mk a nt ms) { tmps := T, defers := ds }
theorem AR.mono {a : Tr Value} {nt : Nat} {T : Array Value} (h : AR μ a nt T) (hle : Mp.Le μ ν) : AR ν a nt T := ⟨h.1, fun t => (h.2.1 t).mono hle, h.2.2⟩
theorem FR.mono {f : Fr} {a : Act} (h : FR μ f a) (hle : Mp.Le μ ν) : FR ν f a := by cases h with | mk h hm => exact .mk (h.mono hle) (hm.mono hle)
theorem slot_put {a : Tr Value} {t : Nat} {v : Value} (u : Nat) : slot (a.put t v) u = if u = t then v else slot a u := by
  unfold slot
  rw [Tr.get_put]
  by_cases h : u = t
  · rw [if_pos h, if_pos h]
  · rw [if_neg h, if_neg h]
theorem AR.put {a : Tr Value} {nt : Nat} {T : Array Value} {t : Nat} {v V : Value} (h : AR μ a nt T) (ht : t < nt) (hv : VR μ v V) : AR μ (a.put t v) nt (T.setIfInBounds t V) := by
  refine ⟨by rw [Array.size_setIfInBounds]; exact h.1, fun u => ?_, fun u x hx => ?_⟩
  · rw [slot_put]
    by_cases e : u = t
    · subst e
      rw [if_pos rfl, Array.getD_eq_getD_getElem?, Array.getElem?_setIfInBounds_self_of_lt (by rw [h.1]; exact ht)]; exact hv
    · rw [if_neg e, Array.getD_eq_getD_getElem?, Array.getElem?_setIfInBounds_ne (fun e' => e e'.symm), ← Array.getD_eq_getD_getElem?]; exact h.2.1 u
  · rw [Tr.get_put] at hx
    by_cases e : u = t
    · omega
    · rw [if_neg e] at hx; exact h.2.2 u x hx
theorem FR.put {β : Type} {f : Fr} {a : Act} {d : Option Nat} {v V : Value} {k : Fr → Option β} {r : β} (h : FR μ f a) (hk : f.put d v k = some r) (hv : VR μ v V) : ∃ f', k f' = some r ∧ FR μ f' (a.put d V) := by
  cases d with
  | none => exact ⟨f, hk, h⟩
  | some t =>
    cases h with
    | mk h hm =>
      rename_i b nt ms T ds
      unfold Fr.put at hk
      simp only at hk
      cases ht : Nat.blt t nt with
      | false => rw [ht] at hk; cases hk
      | true =>
        rw [ht] at hk
        simp only [cond_true, Tr.putK_eq] at hk
        have ht : t < nt := Nat.le_of_ble_eq_true ht
        exact ⟨_, hk, .mk (h.put ht hv) hm⟩
theorem FR.eval {f : Fr} {a : Act} (h : FR μ f a) (x : Operand) (hx : okOpd x = true) : VR μ (f.eval x) (a.eval x) := by
  cases h with
  | mk h hm =>
    cases x with
    | tmp t => exact h.2.1 t
    | const v => exact .flat hx
    | global g => cases hx
    | func g => exact .fn (a := []) (b := []) (c := []) (d := []) rfl (fun k x y hx => by simp at hx) rfl (fun k x y hx => by simp at hx)
theorem okOpds_mem : ∀ {l : List Operand}, okOpds l = true → ∀ x ∈ l, okOpd x = true
  | y :: l, h, x, hx => by
    simp only [okOpds] at h
    cases hy : okOpd y with
    | false => rw [hy] at h; cases h
    | true =>
      rw [hy] at h
      rcases List.mem_cons.1 hx with rfl | hx
      · exact hy
      · exact okOpds_mem (l := l) h x hx
theorem FR.opR {f : Fr} {a : Act} (h : FR μ f a) {o : Oper} (ho : okOpds o.op.operands.toList = true) : OpR μ f.eval a.eval o := fun x hx => h.eval x (okOpds_mem ho x (by simpa using hx))
theorem VR.bool_of {v : Value} {b : Bool} (h : VR μ v (.bool b)) : v = .bool b := by
  cases h with
  | leaf => rfl
/-- A guard. -/
theorem FR.wanted {f : Fr} {a : Act} (h : FR μ f a) {ops : Array Oper} {o : Oper} (hg : gdOk ops o = true) : Region.wanted o (yielded ops a.tmps) = gdHolds f (gdOf ops o) := by
  unfold Region.wanted gdOf
  unfold gdOk at hg
  cases hgd : o.guard with
  | none => rfl
  | some jw =>
    obtain ⟨j, want⟩ := jw
    rw [hgd] at hg
    simp only at hg ⊢
    cases ht : (ops[j]?).bind (·.dst) with
    | none => rw [ht] at hg; cases hg
    | some t =>
      cases h with
      | mk h hm =>
        rename_i b nt ms T ds
        have hv := h.2.1 t
        simp only [gdHolds, yielded, ht, Option.bind_some]
        show _ = (match slot (Fr.a (.mk b nt ms)) t with | .bool b => bif b then want else not want | _ => false)
        simp only [Fr.a]
        generalize hs : slot b t = v at hv
        rw [Array.getD_eq_getD_getElem?] at hv
        cases hT : T[t]? with
        | none =>
          rw [hT] at hv
          simp only
          cases v with
          | bool c => have := hv.of_flat rfl; cases this
          | _ => rfl
        | some V =>
          rw [hT] at hv
          simp only [Option.getD_some] at hv
          cases v with
          | bool c =>
            have := hv.bool_inv; subst this
            cases c <;> cases want <;> rfl
          | _ =>
            cases V with
            | bool c => have := hv.bool_of; cases this
            | _ => rfl
end
/-! ### what is asked -/
/-- The fence of an activation, of a loop's round. -/
def FF : Option Nat → Fence
  | none => Fence.wide
  | some l => Fence.wide.inRound l
theorem FF_fn (ro : Option Nat) (f : FuncId) : (FF ro).fn f := by cases ro <;> trivial
theorem FF_depth (ro : Option Nat) : (FF ro).depth = none := by cases ro <;> rfl
theorem FF_round (ro : Option Nat) : (FF ro).round = ro := by cases ro <;> rfl
theorem FF_inRound (ro : Option Nat) (l : Nat) : (FF ro).inRound l = FF (some l) := by cases ro <;> rfl
theorem FF_calls {ro : Option Nat} {n : Nat} {P : Program} {f : FuncId} {args : Array Value} {w : World} {R : Ending → World → Prop} (h : CallsIn Fence.wide n P f args w R) : CallsIn (FF ro) n P f args w R := by cases ro <;> exact h
def RoR (μ : Mp) : Option Nat → Option Nat → Prop
  | none, r => r = none
  | some l, r => ∃ p, μ l = some p ∧ r = some p.blk
theorem RoR.mono {μ ν : Mp} {ro r : Option Nat} (h : RoR μ ro r) (hle : Mp.Le μ ν) : RoR ν ro r := by
  cases ro with
  | none => exact h
  | some l => obtain ⟨p, h1, h2⟩ := h; exact ⟨p, hle _ _ h1, h2⟩
section
variable (P : Program)
/-- What a call gives back. -/
def Gave (μ : Mp) (m : Me) (w : World) (v : Value) (m' : Me) : Ending → World → Prop := fun e w' => ∃ V ν, e = .returned V ∧ VR ν v V ∧ HR P ν m' w' ∧ Ext μ m w ν m' w'
/-- Calls are told rightly. -/
def CallOK (c : Nat → List Value → Me → Option (Value × Me)) : Prop :=
  ∀ f args m v m', c f args m = some (v, m') → (∃ fn, P.funcs[f]? = some fn ∧ fn.body.isSome = true ∧ (fn.name == "runtime.NumGoroutine") = false) ∧
    ∀ μ w ARGS, VRs μ args ARGS → HR P μ m w → Free μ m.n m'.n → CallsIn Fence.wide 0 P f ⟨ARGS⟩ w (Gave P μ m w v m')
/-- What a deferred call leaves, its frame's caller returning. -/
def GaveD (μ : Mp) (m : Me) (w : World) (m' : Me) : Ending → FrameMode → World → Prop := fun e u w' => u = .returning ∧ ∃ V ν, e = .returned V ∧ HR P ν m' w' ∧ Ext μ m w ν m' w'
def DfrOK (c : Nat → List Value → Me → Option Me) : Prop :=
  ∀ f args m m', c f args m = some m' → (∃ fn, P.funcs[f]? = some fn ∧ fn.body.isSome = true ∧ (fn.name == "runtime.NumGoroutine") = false) ∧
    ∀ μ w ARGS, VRs μ args ARGS → HR P μ m w → Free μ m.n m'.n → CallsDIn Fence.wide 0 P f ⟨ARGS⟩ .returning w (GaveD P μ m w m')
def ExtOK (c : Nat → List Value → Me → Option (Value × Me)) : Prop :=
  ∀ f args m v m', c f args m = some (v, m') → ∀ μ w ARGS, VRs μ args ARGS → HR P μ m w → Free μ m.n m'.n → ∃ V w' ν, (callFunc f ⟨ARGS⟩).run P w = .ok (.value V) w' ∧ VR ν v V ∧ HR P ν m' w' ∧ Ext μ m w ν m' w'
def OrcOK (O : Orc) : Prop := CallOK P O.call ∧ DfrOK P O.dfr ∧ ExtOK P O.ext
def exitOf : Ex → Exit
  | .nrm => .normal
  | .ret => .ret
  | .ext id => .exit id
def Post (e : Ex) (f' : Fr) (m' : Me) (μ : Mp) (m : Me) (w : World) : Exit → Act → World → Prop := fun x a' w' => x = exitOf e ∧ ∃ ν, FR ν f' a' ∧ HR P ν m' w' ∧ Ext μ m w ν m' w'
/-- Runs of code are told rightly. -/
def CodeOK (cf : CodeF) : Prop :=
  ∀ ro c f m e f' m', cf ro (comp P c) f m = .ok e f' m' → ∀ μ w a r, RoR μ ro r → FR μ f a → HR P μ m w → Free μ m.n m'.n → c.wpIn (FF r) 0 P (Post P e f' m' μ m w) a w
end
section
variable {P : Program} {μ : Mp} {m : Me} {w : World}
theorem Post.step {e : Ex} {f' : Fr} {m1 m' : Me} {ν : Mp} {w1 : World} {x : Exit} {a' : Act} {w' : World} (hx : Ext μ m w ν m1 w1) (h : Post P e f' m' ν m1 w1 x a' w') : Post P e f' m' μ m w x a' w' := by
  obtain ⟨h1, ξ, h2, h3, h4⟩ := h
  exact ⟨h1, ξ, h2, h3, hx.trans h4⟩
/-! ### one operation -/
noncomputable def stepV (P : Program) (O : Orc) (cf : CodeF) (o : Oper) (x : EX) (ρ : Operand → Value) (m : Me) : Option (Value × Me) := stepX P O cf o x ρ m fun v m => some (v, m)
theorem stepX_some {β : Type} {O : Orc} {cf : CodeF} {o : Oper} {x : EX} {ρ : Operand → Value} {k : Value → Me → Option β} {r : β} (h : stepX P O cf o x ρ m k = some r) :
    ∃ v m1, stepV P O cf o x ρ m = some (v, m1) ∧ k v m1 = some r := by
  unfold stepV
  cases x <;> simp only [stepX, Me.new_eq] at h ⊢
  · split at h
    · rename_i v hv; exact ⟨v, m, rfl, h⟩
    · cases h
  · split at h
    · rename_i v hv; exact ⟨v, m, rfl, h⟩
    · cases h
  · split at h
    · exact ⟨_, _, rfl, h⟩
    · cases h
  · split at h
    · exact ⟨_, _, rfl, h⟩
    · cases h
  · split at h
    · exact ⟨_, _, rfl, h⟩
    · cases h
  · cases h
theorem kdOf_defer {o : Oper} {c : Call} (h : o.op = .defer c) : kdOf P o = .fl := by unfold kdOf; rw [h]
theorem pop_defer {o : Oper} {c : Call} (h : o.op = .defer c) : ∃ g, pop P o = .mk g ∧ ∀ ρ, g ρ = none := by unfold pop; rw [h]; exact ⟨_, rfl, fun _ => rfl⟩
theorem exOf_eq {o : Oper} {x : EX} (h : exOf P o = x) (hb : x ≠ .bad) : okOpds o.op.operands.toList = true ∧ ((isCall o = true ∧ x = .cl) ∨ (isCall o = false ∧ ((∃ g, pop P o = .mk g ∧ x = .fl g) ∨ (∃ g, lop P o = .mk g ∧ x = .ld g) ∨ (∃ g, nop P o = .mk g ∧ x = .nw g) ∨ (∃ g, eop P o = .mk g ∧ x = .ef g)))) := by
  unfold exOf at h
  cases h1 : okOpds o.op.operands.toList with
  | false => rw [h1] at h; exact absurd h.symm hb
  | true =>
    rw [h1] at h
    refine ⟨rfl, ?_⟩
    simp only [cond_true] at h
    cases h2 : isCall o with
    | true => rw [h2] at h; exact .inl ⟨rfl, h.symm⟩
    | false =>
      rw [h2] at h
      simp only [cond_false] at h
      refine .inr ⟨rfl, ?_⟩
      split at h
      · exact .inl ⟨_, rfl, h.symm⟩
      · exact .inr (.inl ⟨_, rfl, h.symm⟩)
      · exact .inr (.inr (.inl ⟨_, rfl, h.symm⟩))
      · exact .inr (.inr (.inr ⟨_, rfl, h.symm⟩))
theorem wp_value {o : Oper} {a : Act} {r : Option Nat} {next : Act → World → Prop} {Q : Exit → Act → World → Prop} {V : Value} {w' : World} (hd : ∀ c, o.op ≠ .defer c) (h : (execOp a.eval o).run P w = .ok (.value V) w') (hn : next (a.put o.dst V) w') : o.wpIn (FF r) 0 P a w next Q :=
  ⟨fun f _ => FF_fn r f, by rw [FF_round, Oper.semAt_eq _ _ _ hd, h]; exact hn⟩
theorem wp_skip {o : Oper} {a : Act} {r : Option Nat} {next : Act → World → Prop} {Q : Exit → Act → World → Prop} {w' : World} (hd : ∀ c, o.op ≠ .defer c) (h : (execOp a.eval o).run P w = .ok .skip w') (hn : next (a.put o.dst undef) w') : o.wpIn (FF r) 0 P a w next Q :=
  ⟨fun f _ => FF_fn r f, by rw [FF_round, Oper.semAt_eq _ _ _ hd, h]; exact hn⟩
theorem wp_enter {o : Oper} {a : Act} {r : Option Nat} {next : Act → World → Prop} {Q : Exit → Act → World → Prop} {f : FuncId} {args : Array Value} (hd : ∀ c, o.op ≠ .defer c) (h : (execOp a.eval o).run P w = .ok (.enter f args) w)
    {R : Ending → World → Prop} (hc : CallsIn Fence.wide 0 P f args w R) (hn : ∀ e w', R e w' → ∃ V, e = .returned V ∧ next (a.put o.dst V) w') : o.wpIn (FF r) 0 P a w next Q :=
  ⟨fun f _ => FF_fn r f, by
    rw [FF_round, Oper.semAt_eq _ _ _ hd, h, Oper.uponIn_enter]
    refine ⟨fun h => by rw [FF_depth] at h; simp at h, ?_⟩
    refine (FF_calls hc).mono fun e w' he => ?_
    obtain ⟨V, rfl, hv⟩ := hn e w' he
    exact hv⟩
end
/-! ### numbers only grow, in runs -/
section
variable {P : Program} {m : Me} {O : Orc} {cf : CodeF}
/-- An operation made ready is one of the program's, or none. -/
def DIok (P : Program) : DI → Prop
  | .mk o d _ x _ => d = o.dst ∧ (x = exOf P o ∨ x = .bad)
theorem diOf_ok {ops : Array Oper} {low : Nat} {o : Oper} : DIok P (diOf P ops low o) := by
  refine ⟨rfl, ?_⟩
  cases gdOk ops o with
  | true => exact .inl rfl
  | false => exact .inr rfl
theorem disOf_ok {ops : Array Oper} : ∀ {l : List Oper}, ∀ d ∈ disOf P ops l, DIok P d
  | [], d, h => by cases h
  | o :: os, d, h => by
    rcases List.mem_cons.1 h with rfl | h
    · exact diOf_ok
    · exact disOf_ok (l := os) d h
theorem disBy_ok {ops : Array Oper} {lows : List Nat} : ∀ {l : List Nat}, ∀ d ∈ disBy P ops lows l, DIok P d
  | [], d, h => by cases h
  | i :: is, d, h => by
    unfold disBy at h
    split at h
    · rcases List.mem_cons.1 h with rfl | h
      · exact diOf_ok
      · exact disBy_ok (l := is) d h
    · rcases List.mem_cons.1 h with rfl | h
      · exact ⟨rfl, .inr rfl⟩
      · exact disBy_ok (l := is) d h
/-- code's parts are made ready -/
def CCok (P : Program) : CC → Prop
  | .seq x y => CCok P x ∧ CCok P y
  | .cnd _ x y => CCok P x ∧ CCok P y
  | .blk _ x => CCok P x
  | .lop x => CCok P x
  | .reg l => ∀ d ∈ l, DIok P d
  | .drg l => ∀ d ∈ l, DIok P d
  | .drw l => ∀ d ∈ l, DIok P d
  | _ => True
theorem comp_ok : ∀ c : Code, CCok P (comp P c)
  | .skip => trivial
  | .label _ => trivial
  | .ret => trivial
  | .exit _ => trivial
  | .goto _ => trivial
  | .seq x y => ⟨comp_ok x, comp_ok y⟩
  | .cond c x y => by
    show CCok P (bif okOpd c then .cnd c (comp P x) (comp P y) else .bad)
    cases okOpd c with
    | true => exact ⟨comp_ok x, comp_ok y⟩
    | false => trivial
  | .block _ x => comp_ok x
  | .loop x => comp_ok x
  | .region id ops draw => by
    show CCok P (bif draw then (match planOf P ops with
      | .mk ord lows true => .drw (disBy P ops lows ord)
      | .mk _ _ false => .bad)
    else bif hasDf ops.toList then .drg (disOf P ops ops.toList) else .reg (disOf P ops ops.toList))
    cases draw with
    | true =>
      simp only [cond_true]
      split
      · exact disBy_ok
      · trivial
    | false =>
      simp only [cond_false]
      cases hasDf ops.toList with
      | true => exact disOf_ok
      | false => exact disOf_ok
  | .scope _ => trivial
  | .refuse _ => trivial
  | .rangeFunc g ps asg body => by
    show CCok P (bif okOpd g then .rng g ps.toList asg body else .bad)
    cases okOpd g with
    | true => trivial
    | false => trivial
def CallN (c : Nat → List Value → Me → Option (Value × Me)) : Prop := ∀ f args m v m', c f args m = some (v, m') → m.n ≤ m'.n
def CodeN (P : Program) (cf : CodeF) : Prop := ∀ ro c f m e f' m', CCok P c → cf ro c f m = .ok e f' m' → m.n ≤ m'.n
theorem bodyOf_ok {f : Nat} {c : CC} {nt : Nat} {rs : List ResultVar} (h : bodyOf P f = .mk c nt rs) : CCok P c := by
  unfold bodyOf at h
  split at h
  · rename_i fn hf
    split at h
    · rename_i code hb
      revert h
      cases (fn.name == "runtime.NumGoroutine") <;> intro h
      · cases h; exact comp_ok code
      · cases h
    · cases h
  · cases h
def OrcN (O : Orc) : Prop := CallN O.call ∧ (∀ f args m m', O.dfr f args m = some m' → m.n ≤ m'.n) ∧ CallN O.ext
theorem callD_n (hc : CodeN P cf) {f : Nat} {args : List Value} {m m' : Me} (h : callD P cf f args m = some m') : m.n ≤ m'.n := by
  have ed : ∀ {f1 : Fr} {m1 : Me} {rs : List ResultVar}, endD P f1 m1 rs = some m' → m' = m1 := by
    intro f1 m1 rs h
    unfold endD at h
    split at h
    revert h
    cases (List.isEmpty _) <;> intro h
    · cases h
    · simp only [cond_true] at h
      split at h
      · cases h; rfl
      · cases h
  unfold callD at h
  split at h
  · cases h
  · rename_i c nt rs hb
    cases hl : Nat.ble args.length nt with
    | false => rw [hl] at h; cases h
    | true =>
      rw [hl] at h
      simp only [cond_true, Tr.putsK_eq] at h
      split at h
      · rename_i f1 m1 hr
        have := hc _ _ _ _ _ _ _ (bodyOf_ok hb) hr
        rw [ed h]; exact this
      · rename_i f1 m1 hr
        have := hc _ _ _ _ _ _ _ (bodyOf_ok hb) hr
        rw [ed h]; exact this
      · cases h
theorem dfrG_n (hO : OrcN O) (hc : CodeN P cf) {f : Nat} {args : List Value} {m m' : Me} (h : dfrG P O cf f args m = some m') : m.n ≤ m'.n := by
  unfold dfrG at h
  split at h
  · rename_i m1 h1; cases h; exact hO.2.1 _ _ _ _ h1
  · exact callD_n hc h
theorem shut_n {β : Type} (hO : OrcN O) (hc : CodeN P cf) : ∀ {ms : List Dm} {m : Me} {k : Me → Option β} {r : β}, shut P O cf ms m k = some r → ∃ m1, k m1 = some r ∧ m.n ≤ m1.n
  | [], m, k, r, h => ⟨m, h, Nat.le_refl _⟩
  | .mark d :: ms, m, k, r, h => by
    unfold shut at h
    split at h
    · rw [Me.put_eq] at h
      obtain ⟨m1, h1, h2⟩ := shut_n hO hc h
      exact ⟨m1, h1, h2⟩
    · cases h
  | .call f args cap :: ms, m, k, r, h => by
    unfold shut at h
    split at h
    · rename_i m2 hd
      obtain ⟨m1, h1, h2⟩ := shut_n hO hc h
      exact ⟨m1, h1, Nat.le_trans (dfrG_n hO hc hd) h2⟩
    · cases h
theorem endCall_n (hO : OrcN O) (hc : CodeN P cf) {f : Fr} {rs : List ResultVar} {v : Value} {m' : Me} (h : endCall P O cf f m rs = some (v, m')) : m.n ≤ m'.n := by
  unfold endCall at h
  split at h
  obtain ⟨m1, h1, h2⟩ := shut_n hO hc h
  split at h1
  · cases h1; exact h2
  · cases h1; exact h2
  · cases h1
theorem callB_n (hO : OrcN O) (hc : CodeN P cf) : CallN (callB P O cf) := by
  intro f args m v m' h
  unfold callB at h
  split at h
  · cases h
  · rename_i c nt rs hb
    cases hl : Nat.ble args.length nt with
    | false => rw [hl] at h; cases h
    | true =>
      rw [hl] at h
      simp only [cond_true, Tr.putsK_eq] at h
      split at h
      · rename_i f1 m1 hr
        have := hc _ _ _ _ _ _ _ (bodyOf_ok hb) hr
        have := endCall_n hO hc h
        omega
      · rename_i f1 m1 hr
        have := hc _ _ _ _ _ _ _ (bodyOf_ok hb) hr
        have := endCall_n hO hc h
        omega
      · cases h
theorem callG_n (hO : OrcN O) (hc : CodeN P cf) : CallN (callG P O cf) := by
  intro f args m v m' h
  unfold callG at h
  split at h
  · rename_i r hr; cases h; exact hO.1 f args m v m' hr
  · exact callB_n hO hc f args m v m' h
theorem putsP_k {β : Type} {nt : Nat} : ∀ {ps : List Nat} {args : List Value} {a : Tr Value} {k : Tr Value → Option β} {r : β}, putsP nt ps args a k = some r → ∃ a', k a' = some r
  | [], [], a, k, r, h => ⟨a, h⟩
  | [], x :: xs, a, k, r, h => by cases h
  | t :: ts, [], a, k, r, h => by cases h
  | t :: ts, x :: xs, a, k, r, h => by
    simp only [putsP] at h
    cases ht : Nat.blt t nt with
    | false => rw [ht] at h; cases h
    | true => rw [ht] at h; simp only [cond_true, Tr.putK_eq] at h; exact putsP_k h
theorem roundG_n (hc : CodeN P cf) {l : Nat} {args : List Value} {v : Value} {m' : Me} (h : roundG P cf l args m = some (v, m')) : m.n ≤ m'.n := by
  unfold roundG at h
  split at h
  · obtain ⟨a1, h1⟩ := putsP_k h
    split at h1
    · rename_i f1 m1 hr1
      have n1 := hc _ _ _ _ _ _ _ (comp_ok _) hr1
      cases hn1 : noMarks f1 with
      | false => rw [hn1] at h1; cases h1
      | true =>
        rw [hn1] at h1
        simp only [cond_true] at h1
        split at h1
        · rw [Me.put_eq] at h1
          split at h1
          · rename_i e f2 m2 hr2
            have n2 := hc _ _ _ _ _ _ _ (comp_ok _) hr2
            have n2 : m1.n ≤ m2.n := n2
            cases hn2 : noMarks f2 with
            | false => rw [hn2] at h1; cases h1
            | true =>
              rw [hn2] at h1
              simp only [cond_true] at h1
              unfold endRound at h1
              split at h1
              · cases e with
                | nrm => simp only [Me.put_eq, Option.some.injEq, Prod.mk.injEq] at h1; obtain ⟨_, rfl⟩ := h1; exact Nat.le_trans n1 n2
                | ret => simp only [Me.put_eq, Option.some.injEq, Prod.mk.injEq] at h1; obtain ⟨_, rfl⟩ := h1; exact Nat.le_trans n1 n2
                | ext id => simp only [Me.put_eq, Option.some.injEq, Prod.mk.injEq] at h1; obtain ⟨_, rfl⟩ := h1; exact Nat.le_trans n1 n2
              · cases h1
          · cases h1
        · cases h1
    · cases h1
  · cases h
theorem callE_n (hO : OrcN O) (hc : CodeN P cf) {f : Nat} {args : List Value} {v : Value} {m' : Me} (h : callE P O cf f args m = some (v, m')) : m.n ≤ m'.n := by
  unfold callE at h
  split at h
  · rename_i r hr; cases h; exact callG_n hO hc _ _ _ _ _ hr
  · exact hO.2.2 _ _ _ _ _ h
theorem callOp_n (hO : OrcN O) (hc : CodeN P cf) {o : Oper} {ρ : Operand → Value} {v : Value} {m' : Me} (h : callOp P O cf o ρ m = some (v, m')) : m.n ≤ m'.n := by
  unfold callOp at h
  split at h
  · split at h
    · split at h
      · exact callE_n hO hc h
      · rename_i l fi ca hf
        cases hfc : (fi.isEmpty && ca.isEmpty) with
        | false => rw [hfc] at h; cases h
        | true => rw [hfc] at h; exact roundG_n hc h
      · cases h
    · split at h
      · dsimp only at h
        split at h
        · exact callG_n hO hc _ _ _ _ _ h
        · cases h
      · cases h
    · cases h
  · cases h
theorem stepV_n (hO : OrcN O) (hc : CodeN P cf) {o : Oper} {ρ : Operand → Value} {v : Value} {m' : Me} (hok : exOf P o ≠ .bad) (h : stepV P O cf o (exOf P o) ρ m = some (v, m')) : m.n ≤ m'.n := by
  obtain ⟨_, ⟨_, hx⟩ | ⟨_, ⟨g, hg, hx⟩ | ⟨g, hg, hx⟩ | ⟨g, hg, hx⟩ | ⟨g, hg, hx⟩⟩⟩ := exOf_eq (x := exOf P o) rfl hok
  all_goals rw [hx] at h; unfold stepV stepX at h; simp only at h
  · split at h
    · rename_i hcl; cases h; exact callOp_n hO hc hcl
    · cases h
  · split at h
    · cases h; exact Nat.le_refl _
    · cases h
  · split at h
    · cases h; exact Nat.le_refl _
    · cases h
  · split at h
    · rw [Me.new_eq] at h; cases h; exact Nat.le_succ _
    · cases h
  · split at h
    · rename_i v1 m1 hv
      cases h
      refine eop_n (P := P) (o := o) (ρ := ρ) (v := v) ?_
      rw [hg]; exact hv
    · cases h
theorem put_k {β : Type} {f : Fr} {d : Option Nat} {v : Value} {k : Fr → Option β} {r : β} (hk : f.put d v k = some r) : ∃ f', k f' = some r := by
  cases d with
  | none => exact ⟨f, hk⟩
  | some t =>
    unfold Fr.put at hk
    split at hk
    · cases ‹some t = none›
    · split at hk
      rename_i a nt ms
      revert hk
      cases (Nat.blt _ nt) <;> intro hk
      · cases hk
      · simp only [cond_true, Tr.putK_eq] at hk; exact ⟨_, hk⟩
theorem step_n (hO : OrcN O) (hc : CodeN P cf) {o : Oper} {x : EX} {ρ : Operand → Value} {v : Value} {m' : Me} (hx : x = exOf P o ∨ x = .bad) (h : stepV P O cf o x ρ m = some (v, m')) : m.n ≤ m'.n := by
  rcases hx with rfl | rfl
  · exact stepV_n hO hc (fun e => by rw [e] at h; cases h) h
  · cases h
theorem runOps_n (hO : OrcN O) (hc : CodeN P cf) {f1 : Fr} {m1 : Me} : ∀ {l : List DI} {f : Fr} {m : Me}, (∀ d ∈ l, DIok P d) → runOps P O cf l f m (fun f m => some (f, m)) = some (f1, m1) → m.n ≤ m1.n
  | [], f, m, _, h => by cases h; exact Nat.le_refl _
  | .mk o dst gd x low :: l, f, m, hl, h => by
    simp only [runOps] at h
    cases hg : gdHolds f gd with
    | true =>
      rw [hg] at h
      simp only [cond_true] at h
      obtain ⟨v, m2, h1, h2⟩ := stepX_some h
      obtain ⟨f', h3⟩ := put_k h2
      have := step_n hO hc (hl _ List.mem_cons_self).2 h1
      exact Nat.le_trans this (runOps_n hO hc (fun d hd => hl d (List.mem_cons_of_mem _ hd)) h3)
    | false =>
      rw [hg] at h
      simp only [cond_false] at h
      obtain ⟨f', h3⟩ := put_k h
      exact runOps_n hO hc (fun d hd => hl d (List.mem_cons_of_mem _ hd)) h3
theorem runDfr_n (hO : OrcN O) (hc : CodeN P cf) {f1 : Fr} {m1 : Me} : ∀ {l : List DI} {f : Fr} {m : Me}, (∀ d ∈ l, DIok P d) → runDfr P O cf l f m (fun f m => some (f, m)) = some (f1, m1) → m.n ≤ m1.n
  | [], f, m, _, h => by cases h; exact Nat.le_refl _
  | .mk o dst gd x low :: l, f, m, hl, h => by
    have rest : ∀ {f2 : Fr} {m2 : Me}, runDfr P O cf l f2 m2 (fun f m => some (f, m)) = some (f1, m1) → m2.n ≤ m1.n := fun h => runDfr_n hO hc (fun d hd => hl d (List.mem_cons_of_mem _ hd)) h
    simp only [runDfr] at h
    cases hg : gdHolds f gd with
    | true =>
      rw [hg] at h
      simp only [cond_true] at h
      split at h
      · revert h
        cases (isFl x) <;> intro h
        · cases h
        · simp only [cond_true] at h
          split at h
          · obtain ⟨f', h3⟩ := put_k h
            exact rest h3
          · cases h
      · obtain ⟨v, m2, h1, h2⟩ := stepX_some h
        obtain ⟨f', h3⟩ := put_k h2
        exact Nat.le_trans (step_n hO hc (hl _ List.mem_cons_self).2 h1) (rest h3)
    | false =>
      rw [hg] at h
      simp only [cond_false] at h
      obtain ⟨f', h3⟩ := put_k h
      exact rest h3
theorem runDraw_n (hO : OrcN O) (hc : CodeN P cf) {f1 : Fr} {m1 : Me} : ∀ {l : List DI} {f : Fr} {m : Me} {hist : List (Tr AO)}, (∀ d ∈ l, DIok P d) → runDraw P O cf l f m hist (fun f m => some (f, m)) = some (f1, m1) → m.n ≤ m1.n
  | [], f, m, hist, _, h => by cases h; exact Nat.le_refl _
  | .mk o dst gd x low :: l, f, m, hist, hl, h => by
    simp only [runDraw] at h
    cases hg : gdHolds f gd with
    | true =>
      rw [hg] at h
      simp only [cond_true] at h
      obtain ⟨v, m2, h1, h2⟩ := stepX_some h
      revert h2
      cases (stoodX x f.eval v (hist.length - low) hist) <;> intro h2
      · cases h2
      · simp only [cond_true] at h2
        obtain ⟨f', h3⟩ := put_k h2
        have := step_n hO hc (hl _ List.mem_cons_self).2 h1
        exact Nat.le_trans this (runDraw_n hO hc (fun d hd => hl d (List.mem_cons_of_mem _ hd)) h3)
    | false =>
      rw [hg] at h
      simp only [cond_false] at h
      obtain ⟨f', h3⟩ := put_k h
      exact runDraw_n hO hc (fun d hd => hl d (List.mem_cons_of_mem _ hd)) h3
theorem rangeEnd_n {l : Nat} {f f' : Fr} {e : Ex} {m' : Me} (h : rangeEnd l f m = .ok e f' m') : m'.n = m.n := by
  unfold rangeEnd at h
  split at h
  · split at h
    · cases h
    · simp only [Me.put_eq] at h
      split at h
      all_goals first
        | (cases h; rfl)
        | cases h
  · cases h
theorem rangeGo_n' (hO : CallN (callG P O cf)) {gf : Nat} {fi ca : List Value} {df : Nat} {ps : List Nat} {asg body : Code} {f f' : Fr} {e : Ex} {m' : Me} (h : rangeGo P O cf gf fi ca df ps asg body f m = .ok e f' m') : m.n ≤ m'.n := by
  unfold rangeGo at h
  split at h
  simp only [Me.new_eq] at h
  split at h
  · rename_i hcg
    have n1 := hO _ _ _ _ _ hcg
    have n1 : m.n + 1 ≤ _ := n1
    have n2 := rangeEnd_n h
    omega
  · cases h
theorem rangeGo_n (hO : OrcN O) (hc : CodeN P cf) {gf : Nat} {fi ca : List Value} {df : Nat} {ps : List Nat} {asg body : Code} {f f' : Fr} {e : Ex} {m' : Me} (h : rangeGo P O cf gf fi ca df ps asg body f m = .ok e f' m') : m.n ≤ m'.n := by
  unfold rangeGo at h
  split at h
  simp only [Me.new_eq] at h
  split at h
  · rename_i hcg
    have n1 := callG_n hO hc _ _ _ _ _ hcg
    have n1 : m.n + 1 ≤ _ := n1
    have n2 := rangeEnd_n h
    omega
  · cases h
theorem rangeG_n (hO : OrcN O) (hc : CodeN P cf) {ro : Option Nat} {g : Operand} {ps : List Nat} {asg body : Code} {f f' : Fr} {e : Ex} {m' : Me} (h : rangeG P O cf ro g ps asg body f m = .ok e f' m') : m.n ≤ m'.n := by
  unfold rangeG at h
  split at h
  · split at h
    · split at h
      simp only [Me.new_eq] at h
      have n1 := rangeGo_n hO hc h
      have n1 : m.n + 1 ≤ _ := n1
      omega
    · split at h
      · exact rangeGo_n hO hc h
      · cases h
  · cases h
theorem run_n (hO : OrcN O) : ∀ d, CodeN P (run P O d)
  | 0 => fun ro c f m e f' m' _ h => by cases h
  | d + 1 => by
    have ih := run_n hO d
    intro ro c f m e f' m' hk h
    have h : step P O (run P O d) ro c f m = .ok e f' m' := h
    have sq : ∀ {y : CC} {r : Rs}, CCok P y → (∀ e2 f2 m2, r = .ok e2 f2 m2 → m.n ≤ m2.n) → seqThen (run P O d) ro y r = .ok e f' m' → m.n ≤ m'.n := by
      intro y r hy hr hs
      unfold seqThen at hs
      split at hs
      · rename_i e2 f2 m2
        have n1 := hr _ _ _ rfl
        split at hs
        · exact Nat.le_trans n1 (ih _ _ _ _ _ _ _ hy hs)
        · cases hs; exact n1
        · cases hs; exact n1
      · cases hs
    cases c with
    | nrm => cases h; exact Nat.le_refl _
    | ret => cases h; exact Nat.le_refl _
    | ext id => cases h; exact Nat.le_refl _
    | seq x y => exact sq hk.2 (fun e2 f2 m2 hr => ih _ _ _ _ _ _ _ hk.1 hr) h
    | cnd c x y =>
      have h : cndThen (run P O d) ro (f.eval c) x y f m = .ok e f' m' := h
      unfold cndThen at h
      split at h
      · split at h
        · exact ih _ _ _ _ _ _ _ hk.1 h
        · exact ih _ _ _ _ _ _ _ hk.2 h
      · cases h
    | blk id x =>
      have h : blkThen id (run P O d ro x f m) = .ok e f' m' := h
      unfold blkThen at h
      split at h
      · rename_i e2 f2 m2 hr
        have hk : CCok P x := hk
        have n1 := ih _ _ _ _ _ _ _ hk hr
        split at h
        · cases h; exact n1
        · cases h; exact n1
        · revert h
          cases (Nat.beq _ id) <;> intro h <;> (cases h; exact n1)
      · cases h
    | lop x =>
      have hk' : CCok P x := hk
      exact sq (y := .lop x) (r := run P O d ro x f m) hk (fun e2 f2 m2 hr => ih _ _ _ _ _ _ _ hk' hr) h
    | reg l =>
      have h : asRs (runOps P O (run P O d) l f m fun f m => some (f, m)) = .ok e f' m' := h
      unfold asRs at h
      split at h
      · rename_i hr; cases h; exact runOps_n hO ih hk hr
      · cases h
    | drg l =>
      cases ro with
      | some _ => cases h
      | none =>
        have h : asRs (runDfr P O (run P O d) l f m fun f m => some (f, m)) = .ok e f' m' := h
        unfold asRs at h
        split at h
        · rename_i hr; cases h; exact runDfr_n hO ih hk hr
        · cases h
    | drw l =>
      have h : asRs (runDraw P O (run P O d) l f m [m.h] fun f m => some (f, m)) = .ok e f' m' := h
      unfold asRs at h
      split at h
      · rename_i hr; cases h; exact runDraw_n hO ih hk hr
      · cases h
    | rng g ps asg body => exact rangeG_n hO ih h
    | bad => cases h
end
/-! ### calls -/
section
variable {P : Program} {μ : Mp} {m : Me} {w : World}
theorem bodyOf_some {f : Nat} {c : CC} {nt : Nat} {rs : List ResultVar} (h : bodyOf P f = .mk c nt rs) :
    ∃ fn code, P.funcs[f]? = some fn ∧ fn.body = some code ∧ (fn.name == "runtime.NumGoroutine") = false ∧ c = comp P code ∧ nt = fn.ntmps ∧ rs = fn.results.toList := by
  unfold bodyOf at h
  split at h
  · rename_i fn hf
    split at h
    · rename_i code hb
      cases hn : fn.name == "runtime.NumGoroutine" with
      | true => rw [hn] at h; cases h
      | false => rw [hn] at h; cases h; exact ⟨fn, code, hf, hb, hn, rfl, rfl, rfl⟩
    · cases h
  · cases h
theorem callFunc_run {f : Nat} {fn : Func} (hf : P.funcs[f]? = some fn) (hb : fn.body.isSome = true) (hn : (fn.name == "runtime.NumGoroutine") = false) (args : Array Value) (w : World) : (callFunc f args).run P w = .ok (.enter f args) w := by
  unfold callFunc
  have h1 : (program).run P w = .ok P w := rfl
  rw [map_ok _ h1]
  have hb2 : fn.body.isNone = false := by cases h : fn.body with
    | none => rw [h] at hb; cases hb
    | some c => rfl
  simp only [hf, hn, hb2, Bool.false_eq_true, if_false]
  rfl
def resV (T : Array Value) : ResultVar → Sem Value
  | .tmp t => pure (T.getD t undef)
  | .cell x t => do loadVar t (← asAddr (T.getD x undef))
theorem resultsOf_sound {a : Tr Value} {nt : Nat} {T : Array Value} (ha : AR μ a nt T) (hm : HR P μ m w) : ∀ {rs : List ResultVar} {vs : List Value}, resultsOf P a m rs = some vs →
    ∃ VS, (rs.mapM (resV T)).run P w = .ok VS w ∧ VRs μ vs VS
  | [], vs, h => by simp only [resultsOf, Option.some.injEq] at h; subst h; exact ⟨[], rfl, VRs.nil⟩
  | r :: rs, vs, h => by
    simp only [resultsOf] at h
    cases hr : resultOf P a m r with
    | none => rw [hr] at h; cases h
    | some v =>
      rw [hr] at h
      cases hrs : resultsOf P a m rs with
      | none => rw [hrs] at h; cases h
      | some us =>
        rw [hrs] at h
        simp only [Option.some.injEq] at h; subst h
        obtain ⟨VS, h1, h2⟩ := resultsOf_sound ha hm hrs
        obtain ⟨V, h3, h4⟩ : ∃ V, (resV T r).run P w = .ok V w ∧ VR μ v V := by
          cases r with
          | tmp t =>
            simp only [resultOf, Option.some.injEq] at hr; subst hr
            exact ⟨_, rfl, ha.2.1 t⟩
          | cell x t =>
            unfold resultOf at hr
            simp only at hr
            split at hr
            · rename_i ad hx
              have hv := ha.2.1 x
              rw [hx] at hv
              obtain ⟨p, hs, hp, e⟩ := hv.ptr_inv
              obtain ⟨_, V, h5, h6⟩ := load_sound (g := (loadK P t).1) rfl hr hm hp
              exact ⟨V, by show (do loadVar t (← asAddr (T.getD x undef)) : Sem Value).run P w = _; rw [e]; exact h5, h6⟩
            · cases hr
        refine ⟨V :: VS, ?_, VRs.cons h4 h2⟩
        rw [List.mapM_cons, map_ok _ h3, map_ok _ h1]; rfl
theorem results_run {fn : Func} {T : Array Value} {VS : List Value} (h : (fn.results.toList.mapM (resV T)).run P w = .ok VS w) :
    (results fn T).run P w = .ok (match VS with | [v] => v | vs => .tuple ⟨vs⟩) w := by
  unfold results
  have e : (fun x => (match x with
    | .tmp t => pure (T.getD t undef)
    | .cell a t => do loadVar t (← asAddr (T.getD a undef)) : Sem Value)) = resV T := funext fun r => by cases r <;> rfl
  show (do let vs ← fn.results.mapM (fun x => (match x with
             | .tmp t => pure (T.getD t undef)
             | .cell a t => do loadVar t (← asAddr (T.getD a undef)) : Sem Value))
           pure (if h : vs.size = 1 then vs[0] else .tuple vs) : Sem Value).run P w = _
  rw [e, Array.mapM_eq_mapM_toList]
  have h2 : (List.toArray <$> (fn.results.toList.mapM (resV T))).run P w = .ok ⟨VS⟩ w := by
    rw [← bind_pure_comp, map_ok _ h]; rfl
  rw [map_ok _ h2]
  show Result.ok _ w = _
  congr 1
  match VS with
  | [] => rfl
  | [v] => rfl
  | v :: u :: vs =>
    rw [dif_neg (by simp)]
theorem AR.enter {args ARGS : List Value} {nt : Nat} (h : VRs μ args ARGS) (hl : args.length ≤ nt) : AR μ (Tr.puts args .e 0) nt (⟨ARGS⟩ ++ Array.replicate (nt - (⟨ARGS⟩ : Array Value).size) undef) := by
  refine ⟨?_, fun t => ?_, fun t v hv => ?_⟩
  · have : (⟨ARGS⟩ : Array Value).size = ARGS.length := rfl
    rw [Array.size_append, Array.size_replicate, this]
    have := h.1; omega
  · unfold slot
    rw [Tr.get_puts, Array.getD_eq_getD_getElem?]
    have hs : (⟨ARGS⟩ : Array Value).size = ARGS.length := rfl
    by_cases c : 0 ≤ t ∧ t < 0 + args.length
    · rw [if_pos c, Array.getElem?_append_left (by rw [hs, ← h.1]; omega)]
      have hx : args[t - 0]? = some (args[t]'(by omega)) := by rw [Nat.sub_zero]; exact List.getElem?_eq_getElem _
      obtain ⟨V, hV, hv⟩ := h.get hx
      rw [hx]
      have : (⟨ARGS⟩ : Array Value)[t]? = some V := by rw [Nat.sub_zero] at hV; simpa using hV
      rw [this]; exact hv
    · rw [if_neg c, Array.getElem?_append_right (by rw [hs, ← h.1]; omega)]
      show VR μ undef _
      rw [Array.getElem?_replicate]
      by_cases c2 : t - (⟨ARGS⟩ : Array Value).size < nt - (⟨ARGS⟩ : Array Value).size
      · rw [if_pos c2]; exact VR.undef
      · rw [if_neg c2]; exact VR.undef
  · rw [Tr.get_puts] at hv
    by_cases c : 0 ≤ t ∧ t < 0 + args.length
    · omega
    · rw [if_neg c] at hv; cases hv
theorem callD_sound {cf : CodeF} (hc : CodeOK P cf) : DfrOK P (callD P cf) := by
  intro f args m m' h
  unfold callD at h
  split at h
  · cases h
  · rename_i c nt rs hb
    obtain ⟨fn, code, hf, hbody, hn, rfl, rfl, rfl⟩ := bodyOf_some hb
    refine ⟨⟨fn, hf, by rw [hbody]; rfl, hn⟩, fun μ w ARGS hargs hm hfree => ?_⟩
    cases hl : Nat.ble args.length fn.ntmps with
    | false => rw [hl] at h; cases h
    | true =>
      rw [hl] at h
      simp only [cond_true, Tr.putsK_eq] at h
      have har := AR.enter hargs (Nat.le_of_ble_eq_true hl)
      have go : ∀ {e f' m1}, cf none (comp P code) (.mk (Tr.puts args .e 0) fn.ntmps []) m = .ok e f' m1 → (e = .nrm ∨ e = .ret) → endD P f' m1 fn.results.toList = some m' →
          code.wpIn Fence.wide 0 P (bodyPost P fn fun e w' => ∃ V ν, e = .returned V ∧ HR P ν m' w' ∧ Ext μ m w ν m' w') { tmps := ⟨ARGS⟩ ++ Array.replicate (fn.ntmps - (⟨ARGS⟩ : Array Value).size) undef, defers := [] } w := by
        intro e f' m1 hrun he hend
        unfold endD at hend
        split at hend
        rename_i b nt ms
        revert hend
        cases hms : ms.isEmpty with
        | false => intro hend; cases hend
        | true =>
          intro hend
          simp only [cond_true] at hend
          split at hend
          · rename_i vs hvs
            cases hend
            refine wpIn_mono (hc none code _ m e _ _ hrun μ w _ none rfl (.mk har MR.nil) hm hfree) fun x a' w' hx => ?_
            obtain ⟨rfl, ν, h1, h2, h3⟩ := hx
            have hms : ms = [] := by simpa using hms
            subst hms
            cases h1 with
            | mk ha hd =>
              rename_i T ds
              obtain ⟨VS, r1, r2⟩ := resultsOf_sound ha h2 hvs
              have r3 := results_run r1
              obtain rfl := hd.nil_inv
              rcases he with rfl | rfl <;> exact ⟨rfl, _, r3, _, ν, rfl, h2, h3⟩
          · cases hend
      have fin : code.wpIn Fence.wide 0 P (bodyPost P fn fun e w' => ∃ V ν, e = .returned V ∧ HR P ν m' w' ∧ Ext μ m w ν m' w') { tmps := ⟨ARGS⟩ ++ Array.replicate (fn.ntmps - (⟨ARGS⟩ : Array Value).size) undef, defers := [] } w := by
        split at h
        · exact go (by assumption) (.inl rfl) h
        · exact go (by assumption) (.inr rfl) h
        · cases h
      exact (callsDIn_of_wp hf hbody trivial fin).mono fun e u w' he => he
theorem dfrG_sound {O : Orc} {cf : CodeF} (ho : OrcOK P O) (hc : CodeOK P cf) : DfrOK P (dfrG P O cf) := by
  intro f args m m' h
  unfold dfrG at h
  split at h
  · rename_i r hr
    cases h
    exact ho.2.1 f args m m' hr
  · exact callD_sound hc f args m m' h
theorem shut_sound {O : Orc} {cf : CodeF} (ho : OrcOK P O) (hc : CodeOK P cf) (hOn : OrcN O) (hcn : CodeN P cf) {β : Type} {fn : Func} {T : Array Value} {R : Ending → World → Prop} {N : Nat} : ∀ {ms : List Dm} {ds : List Deferred} {m : Me} {w : World} {μ : Mp} {k : Me → Option β} {r : β}, shut P O cf ms m k = some r → (∀ m1, k m1 = some r → m1.n ≤ N) → MR μ ms ds → HR P μ m w → Free μ m.n N →
    (∀ ν m1 w1, k m1 = some r → HR P ν m1 w1 → Ext μ m w ν m1 w1 → LeavesInM Fence.wide 0 P fn T R [] .returning w1) → LeavesInM Fence.wide 0 P fn T R ds .returning w
  | [], ds, m, w, μ, k, r, h, hN, hd, hm, hfree, hk => by
    rw [hd.nil_inv]
    exact hk μ m w h hm (Ext.refl _ _ _)
  | .mark d :: ms, ds, m, w, μ, k, r, h, hN, hd, hm, hfree, hk => by
    obtain ⟨D, ds', rfl, hD, hd'⟩ := hd.cons_inv
    cases hD with
    | @mark _ p hp =>
      unfold shut at h
      split at h
      · rename_i hg
        rw [Me.put_eq] at h
        obtain ⟨q, hq, ho'⟩ := hm.obj _ _ hg rfl
        rw [hp] at hq; cases hq
        have ho' : w.heap[p.blk]? = some (.deferred (some [])) := ho'
        have hbl : p.blk < w.heap.size := (Array.getElem?_eq_some_iff.1 ho').1
        obtain ⟨h1, h2⟩ := hm.change hg rfl rfl rfl hp (o' := .df true) (w' := w.putObj p.blk (.deferred none)) (World.putObj_heap_same hbl) rfl (fun b hb => World.putObj_heap_other hb) World.putObj_size rfl rfl rfl
        refine ⟨by simp, .inl ⟨p.blk, w.putObj p.blk (.deferred none), rfl, run_takeDeferred ho', ?_⟩⟩
        exact shut_sound ho hc hOn hcn h hN hd' h1 hfree fun ν m1 w1 k1 k2 k3 => hk ν m1 w1 k1 k2 (h2.trans k3)
      · cases h
  | .call f args cap :: ms, ds, m, w, μ, k, r, h, hN, hd, hm, hfree, hk => by
    obtain ⟨D, ds', rfl, hD, hd'⟩ := hd.cons_inv
    cases hD with
    | @call _ _ ARGS _ CAP ha hcap =>
      unfold shut at h
      split at h
      · rename_i m2 hdf
        obtain ⟨⟨fn', f1, f2, f3⟩, hcall⟩ := dfrG_sound ho hc f _ m m2 hdf
        obtain ⟨m3, hk3, hle⟩ := shut_n hOn hcn h
        have hle2 : m2.n ≤ N := Nat.le_trans hle (hN _ hk3)
        have hinv : (invoke (.fn (.func f) ⟨CAP⟩) ⟨ARGS⟩).run P w = .ok (.enter f ⟨ARGS ++ CAP⟩) w := by
          show (callFunc f (⟨ARGS⟩ ++ ⟨CAP⟩)).run P w = _
          rw [callFunc_run f1 f2 f3]
          congr 2
          apply Array.ext'; simp
        refine ⟨by simp, .inr ⟨fun hh => (by cases hh), .func f, ⟨CAP⟩, f, ⟨ARGS ++ CAP⟩, rfl, hinv, fun g _ => trivial, ?_⟩⟩
        refine (hcall μ w (ARGS ++ CAP) (ha.append hcap) hm (hfree.left hle2)).mono fun e u w' he => ?_
        obtain ⟨rfl, V, ν, rfl, k1, k2⟩ := he
        show LeavesInM Fence.wide 0 P fn T R ds' .returning w'
        exact shut_sound ho hc hOn hcn h hN (hd'.mono k2.le) k1 (hfree.right k2 hle2) fun ξ m1 w1 j1 j2 j3 => hk ξ m1 w1 j1 j2 (k2.trans j3)
      · cases h
theorem endCall_sound {O : Orc} {cf : CodeF} (ho : OrcOK P O) (hc : CodeOK P cf) (hOn : OrcN O) (hcn : CodeN P cf) {f : Fr} {a : Act} {rs : List ResultVar} {fn : Func} {v : Value} {m' : Me} {R : Ending → World → Prop} (h : endCall P O cf f m rs = some (v, m')) (hrs : rs = fn.results.toList) (hf : FR μ f a) (hm : HR P μ m w) (hfree : Free μ m.n m'.n)
    (hR : ∀ ν V w', VR ν v V → HR P ν m' w' → Ext μ m w ν m' w' → R (.returned V) w') : LeavesInM Fence.wide 0 P fn a.tmps R a.defers .returning w := by
  cases hf with
  | mk ha hms =>
    rename_i b nt ms T ds
    unfold endCall at h
    simp only at h
    have hres : ∀ m1, (match resultsOf P b m1 rs with
        | some [v] => some (v, m1)
        | some vs => some (.tuple ⟨vs⟩, m1)
        | none => none) = some (v, m') → m1 = m' := fun m1 hk => by
      split at hk
      · cases hk; rfl
      · cases hk; rfl
      · cases hk
    refine shut_sound ho hc hOn hcn (N := m'.n) h (fun m1 hk => by rw [hres m1 hk]; exact Nat.le_refl _) hms hm hfree fun ν m1 w1 k1 k2 k3 => ?_
    subst hrs
    cases hr : resultsOf P b m1 fn.results.toList with
    | none => rw [hr] at k1; cases k1
    | some vs =>
      rw [hr] at k1
      obtain ⟨VS, h1, h2⟩ := resultsOf_sound (ha.mono k3.le) k2 hr
      have h3 := results_run h1
      refine ⟨_, h3, ?_⟩
      cases vs with
      | nil =>
        obtain rfl := h2.nil_inv
        simp only [Option.some.injEq, Prod.mk.injEq] at k1
        obtain ⟨rfl, rfl⟩ := k1
        exact hR _ _ _ (.tup (a := []) (b := []) rfl (fun k x y hx => by simp at hx)) k2 k3
      | cons u us =>
        obtain ⟨V, VS', rfl, h5, h6⟩ := h2.cons_inv
        cases us with
        | nil =>
          obtain rfl := h6.nil_inv
          simp only [Option.some.injEq, Prod.mk.injEq] at k1
          obtain ⟨rfl, rfl⟩ := k1
          exact hR _ _ _ h5 k2 k3
        | cons u2 us =>
          obtain ⟨V2, VS2, rfl, h7, h8⟩ := h6.cons_inv
          simp only [Option.some.injEq, Prod.mk.injEq] at k1
          obtain ⟨rfl, rfl⟩ := k1
          exact hR _ _ _ (.tup (a := u :: u2 :: us) (b := V :: V2 :: VS2) h2.1 h2.2) k2 k3
/-- A call of a function with a body. -/
theorem callB_sound {O : Orc} {cf : CodeF} (ho : OrcOK P O) (hc : CodeOK P cf) (hOn : OrcN O) (hcn : CodeN P cf) : CallOK P (callB P O cf) := by
  intro f args m v m' h
  unfold callB at h
  split at h
  · cases h
  · rename_i c nt rs hb
    obtain ⟨fn, code, hf, hbody, hn, rfl, rfl, rfl⟩ := bodyOf_some hb
    refine ⟨⟨fn, hf, by rw [hbody]; rfl, hn⟩, fun μ w ARGS hargs hm hfree => ?_⟩
    cases hl : Nat.ble args.length fn.ntmps with
    | false => rw [hl] at h; cases h
    | true =>
      rw [hl] at h
      simp only [cond_true, Tr.putsK_eq] at h
      have har := AR.enter hargs (Nat.le_of_ble_eq_true hl)
      refine callsIn_of_wp_marks hf hbody trivial ?_
      have go : ∀ {e f' m1}, cf none (comp P code) (.mk (Tr.puts args .e 0) fn.ntmps []) m = .ok e f' m1 → (e = .nrm ∨ e = .ret) → endCall P O cf f' m1 fn.results.toList = some (v, m') →
          code.wpIn Fence.wide 0 P (bodyPostM Fence.wide 0 P fn (Gave P μ m w v m')) { tmps := ⟨ARGS⟩ ++ Array.replicate (fn.ntmps - (⟨ARGS⟩ : Array Value).size) undef, defers := [] } w := by
        intro e f' m1 hrun he hend
        refine wpIn_mono (hc none code _ m e f' m1 hrun μ w _ none rfl (.mk har MR.nil) hm (hfree.left (endCall_n hOn hcn hend))) fun x a' w' hx => ?_
        obtain ⟨rfl, ν, h1, h2, h3⟩ := hx
        have key : LeavesInM Fence.wide 0 P fn a'.tmps (Gave P μ m w v m') a'.defers .returning w' := endCall_sound ho hc hOn hcn hend rfl h1 h2 (hfree.right h3 (endCall_n hOn hcn hend)) fun ξ V w2 k1 k2 k3 => ⟨V, ξ, rfl, k1, k2, h3.trans k3⟩
        rcases he with rfl | rfl <;> exact key
      split at h
      · exact go (by assumption) (.inl rfl) h
      · exact go (by assumption) (.inr rfl) h
      · cases h
theorem callG_sound {O : Orc} {cf : CodeF} (ho : OrcOK P O) (hc : CodeOK P cf) (hOn : OrcN O) (hcn : CodeN P cf) : CallOK P (callG P O cf) := by
  intro f args m v m' h
  unfold callG at h
  split at h
  · rename_i r hr
    cases h
    exact ho.1 f args m v m' hr
  · exact callB_sound ho hc hOn hcn f args m v m' h
end
/-! ### rounds, methods -/
section
variable {P : Program} {μ : Mp} {m : Me} {w : World}
theorem putsP_sound {β : Type} {nt : Nat} : ∀ {ps : List Nat} {args ARGS : List Value} {a : Tr Value} {T : Array Value} {k : Tr Value → Option β} {r : β}, putsP nt ps args a k = some r → AR μ a nt T → VRs μ args ARGS →
    ∃ a', k a' = some r ∧ ps.length = ARGS.length ∧ AR μ a' nt ((ps.zip ARGS).foldl (fun T (x : Nat × Value) => T.setIfInBounds x.1 x.2) T)
  | [], args, ARGS, a, T, k, r, h, ha, hv => by
    cases args with
    | nil => obtain rfl := hv.nil_inv; exact ⟨a, h, rfl, ha⟩
    | cons x xs => cases h
  | t :: ts, args, ARGS, a, T, k, r, h, ha, hv => by
    cases args with
    | nil => cases h
    | cons x xs =>
      obtain ⟨V, VS, rfl, h1, h2⟩ := hv.cons_inv
      simp only [putsP] at h
      cases ht : Nat.blt t nt with
      | false => rw [ht] at h; cases h
      | true =>
        rw [ht] at h
        simp only [cond_true, Tr.putK_eq] at h
        obtain ⟨a', k1, k2, k3⟩ := putsP_sound h (ha.put (Nat.le_of_ble_eq_true ht) h1) h2
        exact ⟨a', k1, by simp [k2], k3⟩
theorem noMarks_inv {f : Fr} {a : Act} (h : FR μ f a) (hn : noMarks f = true) : a.defers = [] ∧ ∃ b nt, f = .mk b nt [] ∧ AR μ b nt a.tmps := by
  cases h with
  | mk ha hm =>
    rename_i b nt ms T ds
    have : ms = [] := by
      cases ms with
      | nil => rfl
      | cons x xs => cases hn
    subst this
    exact ⟨hm.nil_inv, b, nt, rfl, ha⟩
theorem endRound_n {l : Nat} {e : Ex} {v : Value} {m' : Me} (h : endRound l e m = some (v, m')) : m'.n = m.n := by
  unfold endRound at h
  split at h
  · cases e with
    | nrm => simp only [Me.put_eq, Option.some.injEq, Prod.mk.injEq] at h; obtain ⟨_, rfl⟩ := h; rfl
    | ret => simp only [Me.put_eq, Option.some.injEq, Prod.mk.injEq] at h; obtain ⟨_, rfl⟩ := h; rfl
    | ext id => simp only [Me.put_eq, Option.some.injEq, Prod.mk.injEq] at h; obtain ⟨_, rfl⟩ := h; rfl
  · cases h
theorem round_sound {cf : CodeF} (hc : CodeOK P cf) (hcn : CodeN P cf) {l : Nat} {args ARGS : List Value} {v : Value} {m' : Me} {p : Pl} (h : roundG P cf l args m = some (v, m')) (hp : μ l = some p) (hm : HR P μ m w) (hfree : Free μ m.n m'.n) (hargs : VRs μ args ARGS) :
    ∃ fn tmps assign body, (Instr.yield p.blk ⟨ARGS⟩).run P w = .ok (.round p.blk fn tmps assign body) w ∧ ∀ r, RoundIn (FF r) 0 P p.blk fn tmps assign body w (Gave P μ m w v m') := by
  unfold roundG at h
  split at h
  · rename_i pe b nt ps asg body df hl
    obtain ⟨q, hq, fn, T, qd, hb, hT, hqd⟩ := hm.obj _ _ hl rfl
    rw [hp] at hq; cases hq
    obtain ⟨a1, h1, h2, h3⟩ := putsP_sound h hT hargs
    refine ⟨fn, (ps.zip ARGS).foldl (fun T (x : Nat × Value) => T.setIfInBounds x.1 x.2) T, asg, body, ?_, fun r => ?_⟩
    · rw [run_yield hb (by show ARGS.length = ps.length; exact h2.symm)]
      have e : ((⟨ps⟩ : Array Nat).zip ⟨ARGS⟩) = ⟨ps.zip ARGS⟩ := by apply Array.ext'; simp
      simp only [e]
      congr 2
      simp
    · split at h1
      · rename_i f1 m1 hrun1
        cases hn1 : noMarks f1 with
        | false => rw [hn1] at h1; cases h1
        | true =>
          rw [hn1] at h1
          simp only [cond_true] at h1
          split at h1
          · rename_i pe1 b1 nt1 ps1 asg1 body1 df1 hl1
            rw [Me.put_eq] at h1
            split at h1
            · rename_i e f2 m2 hrun2
              cases hn2 : noMarks f2 with
              | false => rw [hn2] at h1; cases h1
              | true =>
                rw [hn2] at h1
                simp only [cond_true] at h1
                have e2 : m'.n = m2.n := endRound_n h1
                have n2 := hcn _ _ _ _ _ _ _ (comp_ok _) hrun2
                have n2 : m1.n ≤ m2.n := n2
                refine roundIn_of_wpIn (FF_fn r fn) ?_
                rw [FF_inRound]
                refine wpIn_mono (hc (some l) asg _ m _ f1 m1 hrun1 μ w { tmps := _, defers := [] } (some p.blk) ⟨p, hp, rfl⟩ (.mk h3 MR.nil) hm (hfree.left (by omega))) fun x a' w' hx => ?_
                obtain ⟨rfl, ν, k1, k2, k3⟩ := hx
                show ∃ w₂, (Instr.beginRound p.blk).run P w' = .ok () w₂ ∧ _
                obtain ⟨q1, hq1, fn1, T1, qd1, hb1, hT1, hqd1⟩ := k2.obj _ _ hl1 rfl
                have hpν : ν l = some p := k3.le _ _ hp
                rw [hpν] at hq1; cases hq1
                have hbl : p.blk < w'.heap.size := (Array.getElem?_eq_some_iff.1 hb1).1
                refine ⟨_, run_beginRound hb1 rfl, ?_⟩
                obtain ⟨c1, c2⟩ := k2.change hl1 rfl rfl rfl hpν (o' := .lp .busy pe1 b1 nt1 ps1 asg1 body1 df1) (w' := w'.putObj p.blk (.loop { state := .busy, pending := pe1, fn := fn1, tmps := T1, params := ⟨ps1⟩, assign := asg1, body := body1, defers := qd1.blk })) ⟨fn1, T1, qd1, World.putObj_heap_same hbl, hT1, hqd1⟩ rfl (fun b hb => World.putObj_heap_other hb) World.putObj_size rfl rfl rfl
                obtain ⟨k4, b2, nt2, rfl, k5⟩ := noMarks_inv k1 hn1
                refine wpIn_mono (hc (some l) body _ _ _ f2 m2 hrun2 ν _ a' (some p.blk) ⟨p, hpν, rfl⟩ k1 c1 ((hfree.right (k3.trans c2) (by show m1.n ≤ _; omega)).left (by omega))) fun x a'' w'' hx => ?_
                obtain ⟨rfl, ξ, j1, j2, j3⟩ := hx
                have hpξ : ξ l = some p := j3.le _ _ hpν
                have fin : ∀ {jump : Option Code} {st : LoopState} {pe2 a2 nt2 ps2 asg2 body2 df2 st0}, m2.h.get l = some (.lp st0 pe2 a2 nt2 ps2 asg2 body2 df2) → st = (if jump.isNone then .ready else .done) → v = .bool jump.isNone →
                    m' = .mk (m2.h.put l (.lp st jump a2 nt2 ps2 asg2 body2 df2)) m2.n → ∃ v' w₄, (Instr.endRound p.blk jump).run P w'' = .ok v' w₄ ∧ Gave P μ m w v m' (.returned v') w₄ := by
                  intro jump st pe2 a2 nt2 ps2 asg2 body2 df2 st0 hl2 hst hv hm'
                  obtain ⟨q2, hq2, fn2, T2, qd2, hb2, hT2, hqd2⟩ := j2.obj _ _ hl2 rfl
                  rw [hpξ] at hq2; cases hq2
                  have hbl2 : p.blk < w''.heap.size := (Array.getElem?_eq_some_iff.1 hb2).1
                  obtain ⟨d1, d2⟩ := j2.change hl2 rfl rfl rfl hpξ (o' := .lp st jump a2 nt2 ps2 asg2 body2 df2) (w' := w''.putObj p.blk (.loop { state := if jump.isNone then .ready else .done, pending := jump, fn := fn2, tmps := T2, params := ⟨ps2⟩, assign := asg2, body := body2, defers := qd2.blk }))
                    ⟨fn2, T2, qd2, by rw [hst]; exact World.putObj_heap_same hbl2, hT2, hqd2⟩ rfl (fun b hb => World.putObj_heap_other hb) World.putObj_size rfl rfl rfl
                  refine ⟨_, _, run_endRound jump hb2, .bool jump.isNone, ξ, rfl, by rw [hv]; exact .leaf rfl, by rw [hm']; exact d1, ?_⟩
                  rw [hm']; exact ((k3.trans c2).trans j3).trans d2
                unfold endRound at h1
                split at h1
                · rename_i hl2
                  cases e with
                  | nrm =>
                    simp only [Me.put_eq, Option.some.injEq, Prod.mk.injEq] at h1
                    exact fin (jump := none) hl2 rfl h1.1.symm h1.2.symm
                  | ret =>
                    simp only [Me.put_eq, Option.some.injEq, Prod.mk.injEq] at h1
                    exact fin (jump := some .ret) hl2 rfl h1.1.symm h1.2.symm
                  | ext id =>
                    simp only [Me.put_eq, Option.some.injEq, Prod.mk.injEq] at h1
                    exact fin (jump := some (.exit id)) hl2 rfl h1.1.symm h1.2.symm
                · cases h1
            · cases h1
          · cases h1
      · cases h1
  · cases h
theorem method_sound {t : Nat} {name : String} {v V rv : Value} {f : Nat} (h : (recvOf P t name).1 v m = some (f, rv)) (hv : VR μ v V) (hm : HR P μ m w) (d : Nat) :
    ∃ RV, (method (d + 1) t V name).run P w = .ok (f, RV) w ∧ VR μ rv RV := by
  unfold recvOf at h
  split at h
  · cases h
  · rename_i inf hi
    split at h
    · rename_i mt hmt
      cases hp : mt.path.isEmpty with
      | false => rw [hp] at h; cases h
      | true =>
        rw [hp] at h
        simp only [cond_true] at h
        have hpl : mt.path.toList = [] := by
          have : mt.path = #[] := by simpa using hp
          rw [this]
        have start : ∀ {g : Nat} {pr : Bool} {RV : Value}, mt.func = some (g, pr) → (receiverAt t (.val V) pr (some ((name.splitOn ".").getLastD name))).run P w = .ok RV w → (method (d + 1) t V name).run P w = .ok (g, RV) w := by
          intro g pr RV hfn hrun
          unfold method
          rw [map_ok _ (info_run hi w)]
          simp only [hmt, hpl]
          have hfo : (follow [] t (.val V)).run P w = .ok (t, .val V) w := rfl
          rw [map_ok _ hfo]
          simp only [hfn, hp, if_true]
          rw [map_ok _ hrun]; rfl
        split at h
        · rename_i g hfn
          split at h
          · rename_i el hu
            simp only [Option.some.injEq, Prod.mk.injEq] at h
            obtain ⟨rfl, rfl⟩ := h
            refine ⟨V, start hfn ?_, hv⟩
            unfold receiverAt
            rw [map_ok _ (run_underlying hu w)]; rfl
          · cases h
        · rename_i g hfn
          split at h
          · rename_i el hu
            dsimp only at h
            split at h
            · rename_i a
              split at h
              · rename_i u hu2
                simp only [Option.some.injEq, Prod.mk.injEq] at h
                obtain ⟨rfl, rfl⟩ := h
                obtain ⟨p, hs, hp, e⟩ := hv.ptr_inv
                obtain ⟨_, U, h5, h6⟩ := load_sound (g := (loadK P el).1) rfl hu2 hm hp
                refine ⟨U, start hfn ?_, h6⟩
                unfold receiverAt
                rw [map_ok _ (run_underlying hu w), e]
                dsimp only
                rw [map_ok (a := V) _ (by rw [e]; rfl), e]
                rw [map_ok (a := .pointer (some ⟨p.blk, p.base + a.off, none⟩)) _ rfl]
                exact h5
              · cases h
            · cases h
          · rename_i dd hdd hu
            simp only [Option.some.injEq, Prod.mk.injEq] at h
            obtain ⟨rfl, rfl⟩ := h
            refine ⟨V, start hfn ?_, hv⟩
            unfold receiverAt
            rw [map_ok _ (run_underlying hu w)]
            cases dd <;> first | rfl | exact absurd rfl (hdd _)
          · cases h
        · cases h
    · cases h
end
/-! ### every operation -/
section
variable {P : Program} {μ : Mp} {m : Me} {w : World} {O : Orc} {cf : CodeF}
theorem op_sound (hO : OrcOK P O) (hc : CodeOK P cf) (hOn : OrcN O) (hcn : CodeN P cf) {o : Oper} {ρ : Operand → Value} {a : Act} {v : Value} {m1 : Me} (hok : exOf P o ≠ .bad) (h : stepV P O cf o (exOf P o) ρ m = some (v, m1)) (hr : OpR μ ρ a.eval o) (hm : HR P μ m w) (hfree : Free μ m.n m1.n)
    {r : Option Nat} {next : Act → World → Prop} {Q : Exit → Act → World → Prop} (hn : ∀ ν V w', VR ν v V → HR P ν m1 w' → Ext μ m w ν m1 w' → next (a.put o.dst V) w') : o.wpIn (FF r) 0 P a w next Q := by
  obtain ⟨hops, hx⟩ := exOf_eq (x := exOf P o) rfl hok
  have hd : ∀ c, isCall o = false → o.op ≠ .defer c := fun c _ e => by
    rcases hx with ⟨h1, _⟩ | ⟨_, h1⟩
    · unfold isCall at h1; rw [e] at h1; cases h1
    · have hk : kdOf P o = .fl := kdOf_defer e
      have hxe : exOf P o = .fl (pop P o).1 := by
        unfold exOf
        rw [hops]
        have : isCall o = false := by unfold isCall; rw [e]
        rw [this, hk]; rfl
      obtain ⟨g, hg, hg2⟩ := pop_defer (P := P) e
      rw [hxe, hg] at h
      unfold stepV stepX at h
      simp only [hg2] at h
      cases h
  rcases hx with ⟨hcall, hx⟩ | ⟨hcall, ⟨g, hg, hx⟩ | ⟨g, hg, hx⟩ | ⟨g, hg, hx⟩ | ⟨g, hg, hx⟩⟩
  · -- a call
    rw [hx] at h
    unfold stepV stepX at h
    simp only at h
    split at h
    · rename_i v' m1' hcl
      simp only [Option.some.injEq, Prod.mk.injEq] at h
      obtain ⟨rfl, rfl⟩ := h
      unfold callOp at hcl
      split at hcl
      · rename_i c ho
        have hdd : ∀ c, o.op ≠ .defer c := fun c e => by rw [ho] at e; cases e
        have hargs : ∀ (b : Callee), c.callee = b → (∀ bb, b ≠ .builtin bb) → VRs μ (c.args.toList.map ρ) (c.args.toList.map a.eval) := fun b hb _ => VRs.of_map fun x hx => hr x (by
          have hx' : x ∈ c.args := Array.mem_toList_iff.1 hx
          simp only [ho, Op.operands, Call.operands, hb]
          cases b <;> simp [hx'])
        have enter : ∀ {f : Nat} {args ARGS : List Value}, callG P O cf f args m = some (v', m1') → VRs μ args ARGS → (∀ fn, P.funcs[f]? = some fn → fn.body.isSome = true → (fn.name == "runtime.NumGoroutine") = false → (execOp a.eval o).run P w = .ok (.enter f ⟨ARGS⟩) w) →
            o.wpIn (FF r) 0 P a w next Q := by
          intro f args ARGS hcg hva hex
          obtain ⟨⟨fn, h1, h2, h3⟩, h4⟩ := callG_sound hO hc hOn hcn f args m v' m1' hcg
          refine wp_enter hdd (hex fn h1 h2 h3) (h4 μ w ARGS hva hm hfree) fun e w' he => ?_
          obtain ⟨V, ν, rfl, k1, k2, k3⟩ := he
          exact ⟨V, rfl, hn ν V w' k1 k2 k3⟩
        split at hcl
        · rename_i g hcc
          have hg := hr g (by simp [ho, Op.operands, Call.operands, hcc])
          have hva := hargs _ hcc (fun bb e => by cases e)
          split at hcl
          · rename_i f fi ca hf
            rw [hf] at hg
            obtain ⟨b, d, e, h1, h2⟩ := hg.fn_inv
            have hexe : (execOp a.eval o).run P w = (callFunc f ⟨b ++ (c.args.toList.map a.eval ++ d)⟩).run P w := by
              unfold execOp
              simp only [ho, resolve, hcc, e, Deferred.ofValue]
              rw [map_ok (a := { target := .fn (.func f) ⟨d⟩, args := ⟨b⟩ ++ c.args.map a.eval }) _ rfl]
              show (callFunc f (⟨b⟩ ++ c.args.map a.eval ++ ⟨d⟩)).run P w = _
              congr 2
              apply Array.ext'
              simp
            unfold callE at hcl
            split at hcl
            · rename_i r hr
              cases hcl
              exact enter hr (h1.append (hva.append h2)) fun fn k1 k2 k3 => by rw [hexe, callFunc_run k1 k2 k3]
            · obtain ⟨V, w', ν, x1, x2, x3, x4⟩ := hO.2.2 _ _ _ _ _ hcl μ w _ (h1.append (hva.append h2)) hm hfree
              exact wp_value hdd (by rw [hexe]; exact x1) (hn ν V w' x2 x3 x4)
          · rename_i l fi ca hf
            rw [hf] at hg
            cases hfc : (fi.isEmpty && ca.isEmpty) with
            | false => rw [hfc] at hcl; cases hcl
            | true =>
              rw [hfc] at hcl
              simp only [cond_true] at hcl
              obtain ⟨p, hp, e⟩ := hg.yld_inv
              obtain ⟨fn, tmps, asg, body, k1, k2⟩ := round_sound hc hcn hcl hp hm hfree hva
              refine ⟨fun f _ => FF_fn r f, ?_⟩
              have hex : (execOp a.eval o).run P w = .ok (.round p.blk fn tmps asg body) w := by
                unfold execOp
                simp only [ho, resolve, hcc, e, Deferred.ofValue]
                rw [map_ok (a := { target := .fn (.yield p.blk) #[], args := #[] ++ c.args.map a.eval }) _ rfl]
                show (Instr.yield p.blk (#[] ++ c.args.map a.eval)).run P w = _
                have e3 : #[] ++ c.args.map a.eval = ⟨c.args.toList.map a.eval⟩ := by apply Array.ext'; simp
                rw [e3]; exact k1
              rw [FF_round, Oper.semAt_eq _ _ _ hdd, hex, Oper.uponIn_round]
              refine ⟨fun h => by rw [FF_depth] at h; simp at h, ?_⟩
              refine (k2 r).mono fun e w' he => ?_
              obtain ⟨V, ν, rfl, j1, j2, j3⟩ := he
              exact hn ν V w' j1 j2 j3
          · cases hcl
        · rename_i rc name hcc
          have hg := hr rc (by simp [ho, Op.operands, Call.operands, hcc])
          have hva := hargs _ hcc (fun bb e => by cases e)
          split at hcl
          · rename_i t u hu
            rw [hu] at hg
            dsimp only at hcl
            split at hcl
            · rename_i f rv hrv
              obtain ⟨U, e, hU⟩ := hg.iface_inv
              obtain ⟨d, hdep⟩ : ∃ d, P.types.size + Made.depth = d + 1 := ⟨P.types.size + 99, rfl⟩
              obtain ⟨RV, k1, k2⟩ := method_sound hrv hU hm d
              refine enter hcl (VRs.cons k2 hva) fun fn j1 j2 j3 => ?_
              unfold execOp
              simp only [ho, resolve, hcc, e]
              rw [map_ok (a := { target := .fn (.method name) #[], args := #[.iface t U] ++ c.args.map a.eval }) _ rfl]
              have e0 : (#[Value.iface t U] ++ c.args.map a.eval)[0]? = some (.iface t U) := by rw [Array.getElem?_append_left (by simp)]; rfl
              have e1 : (#[Value.iface t U] ++ c.args.map a.eval).extract 1 (#[Value.iface t U] ++ c.args.map a.eval).size = c.args.map a.eval := by
                apply Array.ext'; simp; exact List.take_of_length_le (by simp)
              simp only [invoke, e0, e1, callMethod]
              have hp : (program).run P w = .ok P w := rfl
              rw [map_ok _ hp, hdep, map_ok _ k1]
              show (callFunc f (#[RV] ++ c.args.map a.eval)).run P w = _
              rw [callFunc_run j1 j2 j3]
              congr 2
              apply Array.ext'
              simp
            · cases hcl
          · cases hcl
        · cases hcl
      · cases hcl
    · cases h
  · rw [hx] at h
    unfold stepV stepX at h
    simp only at h
    split at h
    · rename_i v' hv'
      simp only [Option.some.injEq, Prod.mk.injEq] at h
      obtain ⟨rfl, rfl⟩ := h
      obtain ⟨V, h1, h2⟩ := pop_sound hg hv' hr w
      exact wp_value (fun c => hd c hcall) h1 (hn μ V w h2 hm (Ext.refl _ _ _))
    · cases h
  · rw [hx] at h
    unfold stepV stepX at h
    simp only at h
    split at h
    · rename_i v' hv'
      simp only [Option.some.injEq, Prod.mk.injEq] at h
      obtain ⟨rfl, rfl⟩ := h
      obtain ⟨V, h1, h2⟩ := lop_sound hg hv' hr hm
      exact wp_value (fun c => hd c hcall) h1 (hn μ V w h2 hm (Ext.refl _ _ _))
    · cases h
  · rw [hx] at h
    unfold stepV stepX at h
    simp only at h
    split at h
    · rename_i ob rr hv'
      rw [Me.new_eq] at h
      simp only [Option.some.injEq, Prod.mk.injEq] at h
      obtain ⟨rfl, rfl⟩ := h
      obtain ⟨V, cap, w', obj, h1, h2, h3, h4, h5, h6⟩ := nop_sound hg hv' hr w
      obtain ⟨h7, h8⟩ := h6 m.n (hfree m.n (Nat.le_refl _) (Nat.lt_succ_self _))
      obtain ⟨k1, k2⟩ := hm.grow h2 (p := ⟨w.heap.size, 0, cap⟩) rfl (hfree m.n (Nat.le_refl _) (Nat.lt_succ_self _)) h3 h7
      exact wp_value (fun c => hd c hcall) h1 (hn _ V w' h8 k1 k2)
    · cases h
  · rw [hx] at h
    unfold stepV stepX at h
    simp only at h
    split at h
    · rename_i v' m1' hv'
      simp only [Option.some.injEq, Prod.mk.injEq] at h
      obtain ⟨rfl, rfl⟩ := h
      obtain ⟨ν, w', h1, h2, h3⟩ := eop_sound hg hv' hr hm hfree
      rcases h1 with ⟨V, h1, h4⟩ | ⟨rfl, h1⟩
      · exact wp_value (fun c => hd c hcall) h1 (hn ν V w' h4 h2 h3)
      · exact wp_skip (fun c => hd c hcall) h1 (hn ν undef w' VR.undef h2 h3)
    · cases h
end
/-! ### code -/
section
variable {P : Program} {μ : Mp} {m : Me} {w : World} {O : Orc} {cf : CodeF}
theorem Ext.drew : Ext μ m w μ m w.drew := ⟨rfl, rfl, rfl, Nat.le_refl _, Mp.Le.refl _, Nat.le_refl _, fun i h k => absurd h k, fun _ _ _ => rfl, fun _ _ h => h⟩
theorem gdOf_bad {ops : Array Oper} {o : Oper} (h : gdOk ops o = false) : gdOf ops o = none := by
  unfold gdOk at h
  unfold gdOf
  cases hg : o.guard with
  | none => rfl
  | some jw =>
    obtain ⟨j, want⟩ := jw
    rw [hg] at h
    simp only at h ⊢
    cases hn : (ops[j]?).bind (·.dst) with
    | none => rfl
    | some t => rw [hn] at h; cases h
theorem runOps_sound (hO : OrcOK P O) (hc : CodeOK P cf) (hOn : OrcN O) (hcn : CodeN P cf) {ops : Array Oper} {f1 : Fr} {m1 : Me} {r : Option Nat} {Q : Exit → Act → World → Prop} : ∀ {l : List Oper} {i : Nat} {f : Fr} {m : Me} {μ : Mp} {w : World} {a : Act}, ops.toList.drop i = l →
    runOps P O cf (disOf P ops l) f m (fun f m => some (f, m)) = some (f1, m1) → FR μ f a → HR P μ m w → Free μ m.n m1.n →
    (∀ ν a' w', FR ν f1 a' → HR P ν m1 w' → Ext μ m w ν m1 w' → Q .normal a' w') → wpOpsIn (FF r) 0 P ops Q (List.range' i l.length) a w
  | [], i, f, m, μ, w, a, hl, h, hf, hm, hfree, hQ => by
    simp only [disOf, runOps, Option.some.injEq, Prod.mk.injEq] at h
    obtain ⟨rfl, rfl⟩ := h
    exact hQ μ a w hf hm (Ext.refl _ _ _)
  | o :: os, i, f, m, μ, w, a, hl, h, hf, hm, hfree, hQ => by
    have ho : ops[i]? = some o := by
      rw [← Array.getElem?_toList]
      have := congrArg (fun l : List Oper => l[0]?) hl
      simpa using this
    have hl' : ops.toList.drop (i + 1) = os := by
      have := congrArg (List.drop 1) hl
      simpa [Nat.add_comm] using this
    simp only [disOf, diOf, runOps] at h
    rw [List.length_cons, List.range'_succ, wpOpsIn_cons]
    unfold wpOpIn
    simp only [ho]
    cases hgo : gdOk ops o with
    | false =>
      rw [hgo, gdOf_bad hgo] at h
      simp only [gdHolds, cond_true, cond_false, stepX] at h
      cases h
    | true =>
      rw [hgo] at h
      simp only [cond_true] at h
      rw [hf.wanted hgo]
      cases hg : gdHolds f (gdOf ops o) with
      | true =>
        rw [hg] at h
        simp only [cond_true] at h
        obtain ⟨v, m2, h1, h2⟩ := stepX_some h
        have hok : exOf P o ≠ .bad := fun e => by rw [e] at h1; cases h1
        have hops := (exOf_eq rfl hok).1
        simp only [if_true]
        have hle : m2.n ≤ m1.n := by
          obtain ⟨f', h3⟩ := put_k h2
          exact runOps_n hOn hcn (fun d hd => disOf_ok d hd) h3
        refine op_sound hO hc hOn hcn hok h1 (hf.opR hops) hm (hfree.left hle) fun ν V w' k1 k2 k3 => ?_
        obtain ⟨f', j1, j2⟩ := (hf.mono k3.le).put h2 k1
        exact runOps_sound hO hc hOn hcn hl' j1 j2 k2 (hfree.right k3 hle) fun ξ a' w'' q1 q2 q3 => hQ ξ a' w'' q1 q2 (k3.trans q3)
      | false =>
        rw [hg] at h
        simp only [cond_false] at h
        simp only [Bool.false_eq_true, if_false]
        obtain ⟨f', j1, j2⟩ := hf.put h VR.undef
        exact ⟨fun f _ => FF_fn r f, runOps_sound hO hc hOn hcn hl' j1 j2 hm hfree hQ⟩
theorem FR.push {f : Fr} {a : Act} {d : Dm} {D : Deferred} (h : FR μ f a) (hd : DR μ d D) : FR μ (f.push d) { a with defers := D :: a.defers } := by
  cases h with
  | mk ha hm => exact .mk ha (hm.cons hd)
theorem dfOf_sound {f : Fr} {a : Act} {c : Call} {d : Dm} {o : Oper} (h : dfOf f c = some d) (hr : OpR μ f.eval a.eval o) (ho : o.op = .defer c) (w : World) : ∃ D, (execOp a.eval o).run P w = .ok (.defer D) w ∧ DR μ d D := by
  unfold dfOf at h
  split at h
  · rename_i g hcc
    have hg := hr g (by simp [ho, Op.operands, Call.operands, hcc])
    have hva : VRs μ (c.args.toList.map f.eval) (c.args.toList.map a.eval) := VRs.of_map fun x hx => hr x (by
      have hx' : x ∈ c.args := Array.mem_toList_iff.1 hx
      simp [ho, Op.operands, Call.operands, hcc, hx'])
    split at h
    · rename_i fn fi ca hf
      rw [hf] at hg
      obtain ⟨b, dd, e, h1, h2⟩ := hg.fn_inv
      cases h
      refine ⟨{ target := .fn (.func fn) ⟨dd⟩, args := ⟨b ++ c.args.toList.map a.eval⟩ }, ?_, .call (h1.append hva) h2⟩
      unfold execOp
      simp only [ho, resolve, hcc, e, Deferred.ofValue]
      rw [map_ok (a := { target := .fn (.func fn) ⟨dd⟩, args := ⟨b⟩ ++ c.args.map a.eval }) _ rfl]
      show Result.ok (Next.defer { target := .fn (.func fn) ⟨dd⟩, args := ⟨b⟩ ++ c.args.map a.eval }) w = _
      congr 3
      apply Array.ext'
      simp
    · cases h
  · cases h
theorem runDfr_sound (hO : OrcOK P O) (hc : CodeOK P cf) (hOn : OrcN O) (hcn : CodeN P cf) {ops : Array Oper} {f1 : Fr} {m1 : Me} {Q : Exit → Act → World → Prop} : ∀ {l : List Oper} {i : Nat} {f : Fr} {m : Me} {μ : Mp} {w : World} {a : Act}, ops.toList.drop i = l →
    runDfr P O cf (disOf P ops l) f m (fun f m => some (f, m)) = some (f1, m1) → FR μ f a → HR P μ m w → Free μ m.n m1.n →
    (∀ ν a' w', FR ν f1 a' → HR P ν m1 w' → Ext μ m w ν m1 w' → Q .normal a' w') → wpOpsIn (FF none) 0 P ops Q (List.range' i l.length) a w
  | [], i, f, m, μ, w, a, hl, h, hf, hm, hfree, hQ => by
    simp only [disOf, runDfr, Option.some.injEq, Prod.mk.injEq] at h
    obtain ⟨rfl, rfl⟩ := h
    exact hQ μ a w hf hm (Ext.refl _ _ _)
  | o :: os, i, f, m, μ, w, a, hl, h, hf, hm, hfree, hQ => by
    have ho : ops[i]? = some o := by
      rw [← Array.getElem?_toList]
      have := congrArg (fun l : List Oper => l[0]?) hl
      simpa using this
    have hl' : ops.toList.drop (i + 1) = os := by
      have := congrArg (List.drop 1) hl
      simpa [Nat.add_comm] using this
    simp only [disOf, diOf, runDfr] at h
    rw [List.length_cons, List.range'_succ, wpOpsIn_cons]
    unfold wpOpIn
    simp only [ho]
    cases hgo : gdOk ops o with
    | false =>
      rw [hgo, gdOf_bad hgo] at h
      simp only [gdHolds, cond_true, cond_false, stepX, isFl] at h
      split at h <;> cases h
    | true =>
      rw [hgo] at h
      simp only [cond_true] at h
      rw [hf.wanted hgo]
      cases hg : gdHolds f (gdOf ops o) with
      | true =>
        rw [hg] at h
        simp only [cond_true] at h
        simp only [if_true]
        split at h
        · rename_i c hdc
          revert h
          cases hfl : isFl (exOf P o) with
          | false => intro h; cases h
          | true =>
            intro h
            simp only [cond_true] at h
            have hops : okOpds o.op.operands.toList = true := by
              cases hop : okOpds o.op.operands.toList with
              | true => rfl
              | false => unfold exOf at hfl; rw [hop] at hfl; cases hfl
            split at h
            · rename_i d hd
              obtain ⟨D, x1, x2⟩ := dfOf_sound (P := P) hd (hf.opR hops) hdc w
              obtain ⟨f', j1, j2⟩ := (hf.push x2).put h VR.undef
              refine ⟨fun f _ => FF_fn none f, ?_⟩
              rw [FF_round, Oper.semAt_none, x1, Oper.uponIn_defer]
              exact runDfr_sound hO hc hOn hcn hl' j1 j2 hm hfree hQ
            · cases h
        · obtain ⟨v, m2, h1, h2⟩ := stepX_some h
          have hok : exOf P o ≠ .bad := fun e => by rw [e] at h1; cases h1
          have hops := (exOf_eq rfl hok).1
          have hle : m2.n ≤ m1.n := by
            obtain ⟨f', h3⟩ := put_k h2
            exact runDfr_n hOn hcn (fun d hd => disOf_ok d hd) h3
          refine op_sound hO hc hOn hcn hok h1 (hf.opR hops) hm (hfree.left hle) fun ν V w' k1 k2 k3 => ?_
          obtain ⟨f', j1, j2⟩ := (hf.mono k3.le).put h2 k1
          exact runDfr_sound hO hc hOn hcn hl' j1 j2 k2 (hfree.right k3 hle) fun ξ a' w'' q1 q2 q3 => hQ ξ a' w'' q1 q2 (k3.trans q3)
      | false =>
        rw [hg] at h
        simp only [cond_false] at h
        simp only [Bool.false_eq_true, if_false]
        obtain ⟨f', j1, j2⟩ := hf.put h VR.undef
        exact ⟨fun f _ => FF_fn none f, runDfr_sound hO hc hOn hcn hl' j1 j2 hm hfree hQ⟩
theorem wpIn_loop_n {F : Fence} {n : Nat} {Q : Exit → Act → World → Prop} {a : Act} {w : World} {c : Code} (I : Nat → Act → World → Prop) {j₀ : Nat} (h₀ : I j₀ a w)
    (round : ∀ j a w, I j a w → c.wpIn F n P (Exit.then (fun a' w' => ∃ j', j' < j ∧ I j' a' w') Q) a w) : (Code.loop c).wpIn F n P Q a w := by
  intro b k cs hro hb hr
  have key : ∀ j a w, I j a w → ∃ e a' w', Q e a' w' ∧ ArrivesIn (Machine.fenced P F) P (lone (b.atR a (.code c :: .inLoop c :: k)) cs w) b k cs e a' w' := by
    intro j
    induction j using Nat.strongRecOn with
    | _ j ih =>
      intro a w hI
      obtain ⟨e, a₁, w₁, hq, harr⟩ := round j a w hI b (.inLoop c :: k) cs hro hb hr
      cases e with
      | normal =>
        obtain ⟨j', hlt, hI₁⟩ := hq
        obtain ⟨e₂, a₂, w₂, hq₂, harr₂⟩ := ih j' hlt a₁ w₁ hI₁
        exact ⟨e₂, a₂, w₂, hq₂, .of_steps (StepsIn.trans harr (.one (fenced_calm hb hr rfl) stepR_inLoop)) harr₂⟩
      | exit id => exact ⟨_, a₁, w₁, hq, .pass (x := .inLoop c) rfl (fun _ _ => .inl (by simp)) harr⟩
      | goto l => exact ⟨_, a₁, w₁, hq, .pass (x := .inLoop c) rfl (fun _ _ => .inl (by simp)) harr⟩
      | ret => exact ⟨_, a₁, w₁, hq, .pass (x := .inLoop c) rfl (fun _ _ => .inl (by simp)) harr⟩
      | panic ch => exact ⟨_, a₁, w₁, hq, .pass (x := .inLoop c) rfl (fun _ _ => .inl (by simp)) harr⟩
      | outgrown => exact ⟨_, a₁, w₁, hq, .pass (x := .inLoop c) rfl (fun _ _ => .inl (by simp)) harr⟩
  obtain ⟨e, a', w', hq, harr⟩ := key _ a w h₀
  exact ⟨e, a', w', hq, .of_steps (.one (fenced_calm hb hr rfl) stepR_loop) harr⟩
/-- What a drawn region gives. -/
def DrawOK (P : Program) (O : Orc) (cf : CodeF) : Prop :=
  ∀ (ops : Array Oper) ord lows f m f1 m1, planOf P ops = .mk ord lows true → runDraw P O cf (disBy P ops lows ord) f m [m.h] (fun f m => some (f, m)) = some (f1, m1) → ∀ μ w a r, FR μ f a → HR P μ m w → Free μ m.n m1.n →
    wpAnyIn (FF r) 0 P .any ops (Post P .nrm f1 m1 μ m w) ops.size (Array.replicate ops.size false) a w
theorem seqThen_some {ro : Option Nat} {y : CC} {rs : Rs} {e : Ex} {f1 : Fr} {m1 : Me} (h : seqThen cf ro y rs = .ok e f1 m1) : ∃ e2 f2 m2, rs = .ok e2 f2 m2 ∧ ((e2 = .nrm ∧ cf ro y f2 m2 = .ok e f1 m1) ∨ (e2 ≠ .nrm ∧ e = e2 ∧ f1 = f2 ∧ m1 = m2)) := by
  unfold seqThen at h
  split at h
  · rename_i e2 f2 m2
    refine ⟨e2, f2, m2, rfl, ?_⟩
    cases e2 with
    | nrm => exact .inl ⟨rfl, h⟩
    | ret => cases h; exact .inr ⟨by simp, rfl, rfl, rfl⟩
    | ext id => cases h; exact .inr ⟨by simp, rfl, rfl, rfl⟩
  · cases h
theorem range_sound (hcall : CallOK P (callG P O cf)) (hcalln : CallN (callG P O cf)) {ro : Option Nat} {g : Operand} {ps : Array Tmp} {asg body : Code} {f f1 : Fr} {m1 : Me} {e : Ex} (hg : okOpd g = true) (h : rangeG P O cf ro g ps.toList asg body f m = .ok e f1 m1) {a : Act} {r : Option Nat} (hro : RoR μ ro r) (hf : FR μ f a) (hm : HR P μ m w) (hfree : Free μ m.n m1.n) :
    (Code.rangeFunc g ps asg body).wpIn (FF r) 0 P (Post P e f1 m1 μ m w) a w := by
  unfold rangeG at h
  split at h
  · rename_i gf fi ca hgv
    have hgr := hf.eval g hg
    rw [hgv] at hgr
    obtain ⟨fib, cab, hge, hfi, hca⟩ := hgr.fn_inv
    -- behind the record
    have go : ∀ {df : Nat} {b : Tr Value} {nt : Nat} {ms : List Dm} {ν : Mp} {m2 : Me} {w2 : World} {T : Array Value} {mark ds : List Deferred} {q : Pl}, a.tmps = T → FR ν (.mk b nt ms) { tmps := T, defers := mark ++ ds } → a.defers = ds → HR P ν m2 w2 → Free ν m2.n m1.n → Ext μ m w ν m2 w2 → ν df = some q →
        (∀ fn, (Instr.enterLoop fn T ps asg body r).run P w = .ok (w2.heap.size, mark) (w2.alloc (.loop { state := .ready, pending := none, fn, tmps := T, params := ps, assign := asg, body, defers := q.blk }))) →
        rangeGo P O cf gf fi.toList ca.toList df ps.toList asg body (.mk b nt ms) m2 = .ok e f1 m1 → (Code.rangeFunc g ps asg body).wpIn (FF r) 0 P (Post P e f1 m1 μ m w) a w := by
      intro df b nt ms ν m2 w2 T mark ds q hT hfr hds hm2 hfree2 hx hq hen hgo
      unfold rangeGo at hgo
      simp only [Me.new_eq] at hgo
      split at hgo
      · rename_i v3 m3 hcg
        obtain ⟨⟨fn', c1, c2, c3⟩, c4⟩ := hcall _ _ _ _ _ hcg
        have hAR : AR ν b nt T := by cases hfr with | mk h _ => exact h
        have n3 : m2.n + 1 ≤ m3.n := hcalln _ _ _ _ _ hcg
        have n4 : m1.n = m3.n := rangeEnd_n hgo
        refine wpIn_rangeFunc fun fn _ => ?_
        obtain ⟨p, hpe⟩ : ∃ p : Pl, p = ⟨w2.heap.size, 0, 0⟩ := ⟨_, rfl⟩
        obtain ⟨w3, hw3⟩ : ∃ w3, w3 = w2.alloc (.loop { state := .ready, pending := none, fn, tmps := T, params := ps, assign := asg, body, defers := q.blk }) := ⟨_, rfl⟩
        have hgrew : Grew w2 w3 (.loop { state := .ready, pending := none, fn, tmps := T, params := ps, assign := asg, body, defers := q.blk }) := by rw [hw3]; exact Grew.alloc _ _
        have hnf := hfree2 m2.n (Nat.le_refl _) (by omega)
        have hle : Mp.Le ν (ν.with m2.n p) := Mp.le_with _ hnf
        obtain ⟨k1, k2⟩ := hm2.grow hgrew (p := p) (ob := .lp .ready none b nt ps.toList asg body df) (by rw [hpe]) hnf rfl ⟨fn, T, q, by rw [hpe]; exact hgrew.new, hAR.mono hle, hle _ _ hq⟩
        have hxx := hx.trans k2
        have hfree3 : Free (ν.with m2.n p) (m2.n + 1) m3.n := by rw [← n4]; exact hfree2.right k2 (by show m2.n + 1 ≤ _; omega)
        have hyl : VRs (ν.with m2.n p) (fi.toList ++ ([.func (.yield m2.n) #[] #[]] ++ ca.toList)) (fib ++ ([.func (.yield w2.heap.size) #[] #[]] ++ cab)) := by
          refine (hfi.mono hxx.le).append (VRs.append (VRs.cons ?_ VRs.nil) (hca.mono hxx.le))
          have := VR.yld (μ := ν.with m2.n p) (i := m2.n) (p := p) (Mp.with_same _ _ _)
          rw [hpe] at this ⊢
          exact this
        refine ⟨w2.heap.size, mark, w3, { target := .fn (.func gf) ⟨cab⟩, args := ⟨fib⟩ ++ #[.func (.yield w2.heap.size) #[] #[]] }, w3, gf, ⟨fib ++ ([.func (.yield w2.heap.size) #[] #[]] ++ cab)⟩, w3, ?_, ?_, fun f' _ => FF_fn r f', ?_, fun h => by rw [FF_depth] at h; simp at h, ?_⟩
        · rw [FF_round, hT, hw3]; exact hen fn
        · have ec : ∀ x, a.eval (.const x) = x := fun x => rfl
          simp only [resolve, rangeCall, hge, Deferred.ofValue, List.map_toArray, List.map_cons, List.map_nil, ec]
          rfl
        · show (callFunc gf (⟨fib⟩ ++ #[.func (.yield w2.heap.size) #[] #[]] ++ ⟨cab⟩)).run P w3 = _
          rw [callFunc_run c1 c2 c3]
          congr 2
          apply Array.ext'; simp
        · refine (FF_calls (c4 _ w3 _ hyl k1 hfree3)).mono fun en w4 hen4 => ?_
          obtain ⟨V4, ξ, rfl, _, j2, j3⟩ := hen4
          have hpx : ξ m2.n = some p := j3.le _ _ (Mp.with_same _ _ _)
          unfold rangeEnd at hgo
          split at hgo
          · rename_i st pe b5 nt5 ps5 asg5 body5 df5 hl5
            obtain ⟨q5, hq5, fn5, T5, qd5, hb5, hT5, hqd5⟩ := j2.obj _ _ hl5 rfl
            rw [hpx] at hq5; cases hq5
            have hbl : p.blk < w4.heap.size := (Array.getElem?_eq_some_iff.1 hb5).1
            have hpb : p.blk = w2.heap.size := by rw [hpe]
            have fin : st ≠ .busy → ∀ {f6 m6}, (∀ w6, w6 = w4.putObj p.blk (.loop { state := .exhausted, pending := pe, fn := fn5, tmps := T5, params := ⟨ps5⟩, assign := asg5, body := body5, defers := qd5.blk }) →
                f6 = Fr.mk b nt ms → m6 = Me.mk (m3.h.put m2.n (.lp .exhausted pe b5 nt5 ps5 asg5 body5 df5)) m3.n → FR ξ f6 { a with defers := mark ++ a.defers } ∧ HR P ξ m6 w6 ∧ Ext μ m w ξ m6 w6) := by
              intro hst f6 m6 w6 hw6 hf6 hm6
              obtain ⟨d1, d2⟩ := j2.change hl5 rfl rfl rfl hpx (o' := .lp .exhausted pe b5 nt5 ps5 asg5 body5 df5) (w' := w6) ⟨fn5, T5, qd5, by rw [hw6]; exact World.putObj_heap_same hbl, hT5, hqd5⟩ rfl (fun b hb => by rw [hw6]; exact World.putObj_heap_other hb) (by rw [hw6]; exact World.putObj_size) (by rw [hw6]; rfl) (by rw [hw6]; rfl) (by rw [hw6]; rfl)
              refine ⟨?_, by rw [hm6]; exact d1, by rw [hm6]; exact (hxx.trans j3).trans d2⟩
              rw [hf6]
              have := hfr.mono (k2.trans j3).le
              have ea : ({ a with defers := mark ++ a.defers } : Act) = { tmps := T, defers := mark ++ ds } := by rw [hT, hds]
              rw [ea]; exact this
            have hbusy : ∀ {X : Rs}, st ≠ .busy ∨ st = .busy := fun {X} => by cases st <;> simp
            cases hst : st with
            | busy => rw [hst] at hgo; cases hgo
            | _ =>
              rw [hst] at hgo
              simp only [Me.put_eq] at hgo
              have hnb : st ≠ .busy := by rw [hst]; simp
              refine ⟨pe, _, by rw [← hpb]; exact run_endLoop hb5 hnb, ?_⟩
              cases pe with
              | none =>
                simp only [Rs.ok.injEq] at hgo
                obtain ⟨rfl, rfl, rfl⟩ := hgo
                obtain ⟨z1, z2, z3⟩ := fin hnb _ rfl rfl rfl
                exact ⟨rfl, ξ, z1, z2, z3⟩
              | some c =>
                cases c with
                | ret =>
                  simp only [Rs.ok.injEq] at hgo
                  obtain ⟨rfl, rfl, rfl⟩ := hgo
                  obtain ⟨z1, z2, z3⟩ := fin hnb _ rfl rfl rfl
                  exact wpIn_ret ⟨rfl, ξ, z1, z2, z3⟩
                | exit id =>
                  simp only [Rs.ok.injEq] at hgo
                  obtain ⟨rfl, rfl, rfl⟩ := hgo
                  obtain ⟨z1, z2, z3⟩ := fin hnb _ rfl rfl rfl
                  exact wpIn_exit ⟨rfl, ξ, z1, z2, z3⟩
                | _ => cases hgo
          · cases hgo
      · cases hgo
    split at h
    · -- no loop around it
      split at h
      rename_i b nt ms
      rw [Me.new_eq] at h
      cases hf with
      | mk hAR hMR =>
        rename_i T ds
        have hr0 : r = none := hro
        subst hr0
        obtain ⟨w2, hw2⟩ : ∃ w2, w2 = w.alloc (.deferred (some [])) := ⟨_, rfl⟩
        have hgrew : Grew w w2 (.deferred (some [])) := by rw [hw2]; exact Grew.alloc _ _
        have n5 : m.n + 1 ≤ m1.n := by
          have : (Me.mk (m.h.put m.n (.df false)) (m.n + 1)).n ≤ m1.n := rangeGo_n' hcalln h
          exact this
        have hnf := hfree m.n (Nat.le_refl _) (by omega)
        obtain ⟨k1, k2⟩ := hm.grow hgrew (p := ⟨w.heap.size, 0, 0⟩) (ob := .df false) rfl hnf rfl hgrew.new
        have hle : Mp.Le μ (μ.with m.n ⟨w.heap.size, 0, 0⟩) := Mp.le_with _ hnf
        refine go (q := ⟨w.heap.size, 0, 0⟩) (mark := [{ target := .collected w.heap.size, args := #[] }]) (ds := ds) (T := T) rfl (.mk (hAR.mono hle) ((hMR.mono hle).cons (.mark (Mp.with_same _ _ _)))) rfl k1 (hfree.right k2 n5) k2 (Mp.with_same _ _ _) (fun fn => ?_) h
        rw [run_enterLoop_outer, hw2]
        simp
    · rename_i l0
      split at h
      · rename_i st pe b5 nt5 ps5 asg5 body5 df5 hl5
        obtain ⟨p0, hp0, hr0⟩ := hro
        obtain ⟨q5, hq5, fn5, T5, qd5, hb5, hT5, hqd5⟩ := hm.obj _ _ hl5 rfl
        rw [hp0] at hq5; cases hq5
        cases hf with
        | mk hAR hMR =>
          rename_i b nt ms T ds
          refine go (q := qd5) (mark := []) (ds := ds) (T := T) rfl (.mk hAR hMR) rfl hm hfree (Ext.refl _ _ _) hqd5 (fun fn => ?_) h
          rw [hr0, run_enterLoop_inner hb5]
      · cases h
  · cases h
end

section
variable {P : Program} {O : Orc}
theorem wpOpIn_mono' {F : Fence} {n i : Nat} {ops : Array Oper} {a : Act} {w : World} {K K' : Act → World → Prop} {Q Q' : Exit → Act → World → Prop} (h : ∀ a w, K a w → K' a w) (hp : ∀ e a w, Q e a w → Q' e a w)
    (hh : wpOpIn F n P ops Q i K a w) : wpOpIn F n P ops Q' i K' a w := by
  unfold wpOpIn at *
  split
  · rename_i ho; simp only [ho] at hh; exact h _ _ hh
  · rename_i o ho
    simp only [ho] at hh
    split
    · rename_i hw
      simp only [hw, if_true] at hh
      unfold Oper.wpIn at *
      refine ⟨hh.1, ?_⟩
      have hh := hh.2
      generalize (o.semAt F.round a.eval).run P w = r at *
      cases r with
      | ok x w' =>
        cases x <;> simp only [Oper.uponIn] at hh ⊢ <;>
          first
            | exact h _ _ hh
            | exact ⟨hh.1, CallsIn.mono hh.2 (fun e w'' he => by cases e <;> first | exact h _ _ he | exact hp _ _ _ he | exact ⟨_, _, hp _ _ _ he.choose_spec.choose_spec⟩)⟩
            | exact ⟨hh.1, RowsIn.mono hh.2 (fun _ _ he => h _ _ he)⟩
            | exact ⟨hh.1, RoundIn.mono hh.2 (fun e w'' he => by cases e <;> first | exact h _ _ he | exact hp _ _ _ he | exact ⟨_, _, hp _ _ _ he.choose_spec.choose_spec⟩)⟩
      | halt x w' => cases x <;> simp only [Oper.uponIn] at hh ⊢ <;> first | exact hp _ _ _ hh | exact hh
    · rename_i hw; simp only [hw] at hh; exact ⟨hh.1, h _ _ hh.2⟩
theorem wpAnyIn_mono' {F : Fence} {n : Nat} {md : Region.Mode} {ops : Array Oper} {Q Q' : Exit → Act → World → Prop} : ∀ {fuel : Nat} {listed : Array Bool} {a : Act} {w : World}, wpAnyIn F n P md ops Q fuel listed a w → (∀ e a w, Q e a w → Q' e a w) → wpAnyIn F n P md ops Q' fuel listed a w
  | 0, listed, a, w, h, hp => ⟨h.1, hp _ _ _ h.2⟩
  | fuel + 1, listed, a, w, h, hp => ⟨fun hr => hp _ _ _ (h.1 hr), fun i hi => wpOpIn_mono' (fun a w h => wpAnyIn_mono' h hp) hp (h.2 i hi)⟩
theorem comp_region {id : Nat} {ops : Array Oper} {draw : Bool} : comp P (.region id ops draw) = bif draw then (match planOf P ops with
      | .mk ord lows true => .drw (disBy P ops lows ord)
      | .mk _ _ false => .bad)
    else bif hasDf ops.toList then .drg (disOf P ops ops.toList) else .reg (disOf P ops ops.toList) := rfl
/-- Runs of code are told rightly. -/
theorem run_sound (hmix : P.follows .mixedOrders = true) (hO : OrcOK P O) (hOn : OrcN O) (hD : ∀ cf, CodeOK P cf → CodeN P cf → DrawOK P O cf) : ∀ d, CodeOK P (run P O d)
  | 0 => fun ro c f m e f' m' h => by cases h
  | d + 1 => by
    have ih := run_sound hmix hO hOn hD d
    have ihn := run_n (P := P) hOn d
    have hcall : CallOK P (callG P O (run P O d)) := callG_sound hO ih hOn ihn
    have hcalln : CallN (callG P O (run P O d)) := callG_n hOn ihn
    intro ro c f m e f' m' h μ w a r hro hf hm hfree
    have h : step P O (run P O d) ro (comp P c) f m = .ok e f' m' := h
    cases c with
    | skip => cases h; exact wpIn_skip ⟨rfl, μ, hf, hm, Ext.refl _ _ _⟩
    | label l => cases h; exact wpIn_label ⟨rfl, μ, hf, hm, Ext.refl _ _ _⟩
    | ret => cases h; exact wpIn_ret ⟨rfl, μ, hf, hm, Ext.refl _ _ _⟩
    | exit id => cases h; exact wpIn_exit ⟨rfl, μ, hf, hm, Ext.refl _ _ _⟩
    | seq x y =>
      have h : seqThen (run P O d) ro (comp P y) (run P O d ro (comp P x) f m) = .ok e f' m' := h
      obtain ⟨e2, f2, m2, h1, h2⟩ := seqThen_some h
      have hle : m2.n ≤ m'.n := by
        rcases h2 with ⟨_, h2⟩ | ⟨_, _, _, rfl⟩
        · exact ihn _ _ _ _ _ _ _ (comp_ok y) h2
        · exact Nat.le_refl _
      refine wpIn_seq (wpIn_mono (ih ro x f m e2 f2 m2 h1 μ w a r hro hf hm (hfree.left hle)) fun z a' w' hz => ?_)
      obtain ⟨rfl, ν, k1, k2, k3⟩ := hz
      rcases h2 with ⟨rfl, h2⟩ | ⟨hne, rfl, rfl, rfl⟩
      · show y.wpIn _ _ _ _ a' w'
        exact wpIn_mono (ih ro y f2 m2 e f' m' h2 ν w' a' r (hro.mono k3.le) k1 k2 (hfree.right k3 hle)) fun z a'' w'' hz => hz.step k3
      · cases e with
        | nrm => exact absurd rfl hne
        | ret => exact ⟨rfl, ν, k1, k2, k3⟩
        | ext id => exact ⟨rfl, ν, k1, k2, k3⟩
    | cond c x y =>
      have h : step P O (run P O d) ro (bif okOpd c then .cnd c (comp P x) (comp P y) else .bad) f m = .ok e f' m' := h
      cases hc : okOpd c with
      | false => rw [hc] at h; cases h
      | true =>
        rw [hc] at h
        have h : cndThen (run P O d) ro (f.eval c) (comp P x) (comp P y) f m = .ok e f' m' := h
        have hv := hf.eval c hc
        unfold cndThen at h
        split at h
        · rename_i b hb
          rw [hb] at hv
          split at h
          · exact wpIn_cond_true hv.bool_inv (ih ro x f m e f' m' h μ w a r hro hf hm hfree)
          · exact wpIn_cond_false hv.bool_inv (ih ro y f m e f' m' h μ w a r hro hf hm hfree)
        · cases h
    | block id x =>
      have h : blkThen id (run P O d ro (comp P x) f m) = .ok e f' m' := h
      unfold blkThen at h
      split at h
      · rename_i e2 f2 m2 h1
        have hmm : m' = m2 := by
          cases e2 with
          | nrm => cases h; rfl
          | ret => cases h; rfl
          | ext j =>
            revert h
            simp only
            cases (Nat.beq j id) <;> intro h <;> (cases h; rfl)
        subst hmm
        refine wpIn_block (wpIn_mono (ih ro x f m e2 f2 m' h1 μ w a r hro hf hm hfree) fun z a' w' hz => ?_)
        obtain ⟨rfl, ν, k1, k2, k3⟩ := hz
        cases e2 with
        | nrm => cases h; exact ⟨rfl, ν, k1, k2, k3⟩
        | ret => cases h; exact ⟨rfl, ν, k1, k2, k3⟩
        | ext j =>
          simp only at h
          show if j = id then _ else _
          by_cases hj : j = id
          · subst hj
            have : Nat.beq j j = true := by simp
            rw [this] at h
            cases h
            rw [if_pos rfl]; exact ⟨rfl, ν, k1, k2, k3⟩
          · have : Nat.beq j id = false := by
              cases hb : Nat.beq j id with
              | false => rfl
              | true => exact absurd (Nat.eq_of_beq_eq_true hb) hj
            rw [this] at h
            cases h
            rw [if_neg hj]; exact ⟨rfl, ν, k1, k2, k3⟩
      · cases h
    | loop x =>
      -- the rounds, by what is left to run
      let I : Nat → Act → World → Prop := fun j a' w' => j ≤ d + 1 ∧ ∃ f2 m2 ν, run P O j ro (.lop (comp P x)) f2 m2 = .ok e f' m' ∧ FR ν f2 a' ∧ HR P ν m2 w' ∧ Ext μ m w ν m2 w'
      have h0 : I (d + 1) a w := ⟨Nat.le_refl _, f, m, μ, h, hf, hm, Ext.refl _ _ _⟩
      refine wpIn_loop_n I h0 fun j a' w' hI => ?_
      obtain ⟨hj, f2, m2, ν, h1, k1, k2, k3⟩ := hI
      cases j with
      | zero => cases h1
      | succ j =>
        have h1 : seqThen (run P O j) ro (.lop (comp P x)) (run P O j ro (comp P x) f2 m2) = .ok e f' m' := h1
        obtain ⟨e3, f3, m3, h2, h3⟩ := seqThen_some h1
        have ihj : CodeOK P (run P O j) := run_sound hmix hO hOn hD j
        have hle2 : m2.n ≤ m'.n := (run_n (P := P) hOn (j + 1)) _ _ _ _ _ _ _ (show CCok P (.lop (comp P x)) from comp_ok x) h1
        have hle3 : m3.n ≤ m'.n := by
          rcases h3 with ⟨_, h3⟩ | ⟨_, _, _, rfl⟩
          · exact (run_n (P := P) hOn j) _ _ _ _ _ _ _ (show CCok P (.lop (comp P x)) from comp_ok x) h3
          · exact Nat.le_refl _
        refine wpIn_mono (ihj ro x f2 m2 e3 f3 m3 h2 ν w' a' r (hro.mono k3.le) k1 k2 ((hfree.right k3 hle2).left hle3)) fun z a'' w'' hz => ?_
        obtain ⟨rfl, ξ, q1, q2, q3⟩ := hz
        rcases h3 with ⟨rfl, h3⟩ | ⟨hne, rfl, rfl, rfl⟩
        · exact ⟨j, Nat.lt_succ_self _, by omega, f3, m3, ξ, h3, q1, q2, k3.trans q3⟩
        · cases e with
          | nrm => exact absurd rfl hne
          | ret => exact ⟨rfl, ξ, q1, q2, k3.trans q3⟩
          | ext id => exact ⟨rfl, ξ, q1, q2, k3.trans q3⟩
    | region id ops draw =>
      have h : step P O (run P O d) ro (comp P (.region id ops draw)) f m = .ok e f' m' := h
      rw [comp_region] at h
      cases draw with
      | false =>
        simp only [cond_false] at h
        revert h
        cases hasDf ops.toList with
        | true =>
          intro h
          cases ro with
          | some l => cases h
          | none =>
            obtain rfl : r = none := hro
            have h : asRs (runDfr P O (run P O d) (disOf P ops ops.toList) f m fun f m => some (f, m)) = .ok e f' m' := h
            unfold asRs at h
            split at h
            · rename_i f2 m2 h1
              cases h
              refine wpIn_region ?_
              rw [List.range_eq_range']
              have := runDfr_sound (Q := Post P .nrm f' m' μ m w) hO ih hOn ihn (l := ops.toList) (i := 0) (ops := ops) rfl h1 hf hm hfree fun ν a' w' k1 k2 k3 => ⟨rfl, ν, k1, k2, k3⟩
              simpa using this
            · cases h
        | false =>
        intro h
        have h : asRs (runOps P O (run P O d) (disOf P ops ops.toList) f m fun f m => some (f, m)) = .ok e f' m' := h
        unfold asRs at h
        split at h
        · rename_i f2 m2 h1
          cases h
          refine wpIn_region ?_
          rw [List.range_eq_range']
          have := runOps_sound (r := r) (Q := Post P .nrm f' m' μ m w) hO ih hOn ihn (l := ops.toList) (i := 0) (ops := ops) rfl h1 hf hm hfree fun ν a' w' k1 k2 k3 => ⟨rfl, ν, k1, k2, k3⟩
          simpa using this
        · cases h
      | true =>
        simp only [cond_true] at h
        split at h
        · rename_i ord lows hpl
          have h : asRs (runDraw P O (run P O d) (disBy P ops lows ord) f m [m.h] fun f m => some (f, m)) = .ok e f' m' := h
          unfold asRs at h
          split at h
          · rename_i f2 m2 h1
            cases h
            refine wpIn_region_any hmix ?_
            have := hD _ ih ihn ops ord lows f m f' m' hpl h1 μ w.drew a r hf hm.drew hfree
            exact wpAnyIn_mono' this fun e a' w' hx => hx.step Ext.drew
          · cases h
        · cases h
    | rangeFunc g ps asg body =>
      have h : step P O (run P O d) ro (bif okOpd g then .rng g ps.toList asg body else .bad) f m = .ok e f' m' := h
      cases hg : okOpd g with
      | false => rw [hg] at h; cases h
      | true =>
        rw [hg] at h
        exact range_sound hcall hcalln hg h hro hf hm hfree
    | _ => cases h
end
end Go.Proofs.YthelmobipjekjaaGreat.Ev
