/- What the runner's operations give, the model's give. -/
import Derived.Test.YthelmobipjekjaaGreatLc

set_option linter.unusedVariables false
set_option linter.unusedSimpArgs false
namespace Go.Proofs.YthelmobipjekjaaGreat.Ev
open Go
/-! ### operations without memory -/
section
variable {P : Program} {μ : Mp}
theorem slice_sound {k : Nat} {a : Addr} {len cap : Nat} {lo hi mx : Option Value} {LO HI MX : Option Value} {V v : Value} {t el : Nat}
    (ht : P.underlying t = some (.slice el)) (hk : size? P el = some k) (h : sliceV k a len cap lo hi mx = some v) (hV : VR μ (.slice (some a) len cap) V)
    (hlo : ∀ u, lo = some u → ∃ U, LO = some U ∧ VR μ u U) (hlo' : lo = none → LO = none) (hhi : ∀ u, hi = some u → ∃ U, HI = some U ∧ VR μ u U) (hhi' : hi = none → HI = none)
    (hmx : ∀ u, mx = some u → ∃ U, MX = some U ∧ VR μ u U) (hmx' : mx = none → MX = none) (w : World) :
    ∃ R, (Instr.sliceAt t V LO HI MX).run P w = .ok R w ∧ VR μ v R := by
  -- a bound
  have bd : ∀ (x X : Option Value) (d n : Nat), bound x d = some n → (∀ u, x = some u → ∃ U, X = some U ∧ VR μ u U) → (x = none → X = none) → (X = none ∧ n = d) ∨ ∃ q, X = some (.int q (n : Int)) := by
    intro x X d n hb h1 h2
    unfold bound at hb
    split at hb
    · left; exact ⟨h2 rfl, by simpa using hb.symm⟩
    · rename_i q m
      simp only [Option.some.injEq] at hb
      subst hb
      obtain ⟨U, hU, hr⟩ := h1 _ rfl
      right; exact ⟨q, by rw [hU, hr.int_inv]; rfl⟩
    · cases hb
  have sb : ∀ (q : IntKind) (n y : Nat) (code : BoundsCode) (w : World), n ≤ y → (Instr.sliceBound (.int q (n : Int)) y code).run P w = .ok n w := by
    intro q n y code w hn
    have h1 : (0 : Int) ≤ (n : Int) ∧ (n : Int) ≤ (y : Int) := ⟨by omega, by omega⟩
    simp [Instr.sliceBound, asIntOf, h1.2]
  unfold sliceV at h
  have hun : ∀ w, (Instr.sliceAt t V LO HI MX).run P w = (Instr.slice t V LO HI MX).run P w := fun w => by
    unfold Instr.sliceAt
    rw [map_ok _ (run_underlying ht w)]
  rw [hun]
  unfold Instr.slice
  rw [map_ok _ (run_underlying ht w)]
  split at h
  · -- no max
    rename_i l hh hl hhh
    have hMX : MX = none := hmx' rfl
    subst hMX
    have bl := bd _ _ _ _ hl hlo hlo'
    have bh := bd _ _ _ _ hhh hhi hhi'
    -- the bounds
    have key : ∀ C : Nat, l ≤ hh → hh ≤ C → (Instr.sliceBounds true len C LO HI none).run P w = .ok (l, hh, C) w := by
      intro C h1 h2
      unfold Instr.sliceBounds
      rcases bl with ⟨e1, e2⟩ | ⟨q, e⟩ <;> rcases bh with ⟨f1, f2⟩ | ⟨q', f⟩
      · subst e1; subst f1; subst e2; subst f2; simp
      · subst e1; subst e2; subst f; simp [sb q' hh C _ w h2, Result.andThen]
      · subst e; subst f1; subst f2; simp [sb q l _ _ w h1, Result.andThen]
      · subst e; subst f; simp [sb q' hh C _ w h2, sb q l hh _ w h1, Result.andThen]
    rcases hV.sl_inv with ⟨p, hs, hp, hlc, rfl⟩ | ⟨rfl, rfl, rfl, A, C, rfl⟩
    · obtain ⟨ab, ao, as⟩ := a
      obtain rfl : as = none := hs
      dsimp only at hp
      have fin : ∀ C : Nat, l ≤ hh → hh ≤ C →
          (do let (l, h, m) ← Instr.sliceBounds true len C LO HI none
              let size ← sizeOf el
              pure (Value.slice (if m = l then some ⟨p.blk, p.base + ao, none⟩ else (some (⟨p.blk, p.base + ao, none⟩ : Addr)).map (·.add (l * size))) (h - l) (m - l)) : Sem Value).run P w =
            .ok (.slice (some (if C = l then ⟨p.blk, p.base + ao, none⟩ else ⟨p.blk, p.base + ao + l * k, none⟩)) (hh - l) (C - l)) w := by
        intro C h1 h2
        rw [map_ok _ (key C h1 h2)]
        dsimp only
        rw [map_ok _ (size_run hk w)]
        by_cases e : C = l <;> simp [e, add_at]
      cases hc : capless cap with
      | true =>
        rw [hc] at h
        have hcs : sym ≤ cap := Nat.le_of_ble_eq_true hc
        have hcc : capOf p cap = p.cap - (cap - sym) := if_neg (by omega)
        simp only [cond_true] at h
        cases hb : (Nat.ble l hh && Nat.ble hh len) with
        | false => rw [hb] at h; cases h
        | true =>
          rw [hb] at h
          simp only [Bool.and_eq_true, Nat.ble_eq] at hb
          simp only [cond_true] at h
          have fn := fin (capOf p cap) hb.1 (Nat.le_trans hb.2 hlc)
          by_cases h0 : l = 0
          · subst h0
            simp only [Nat.beq_eq_true_eq, show Nat.beq 0 0 = true from rfl, cond_true] at h
            rw [slAt_some h]
            refine ⟨_, fn, ?_⟩
            simp only [Nat.add_zero, Nat.sub_zero, Nat.zero_mul, ite_self]
            exact .sl hp (Nat.le_trans hb.2 hlc)
          · have hz : Nat.beq l 0 = false := by rw [← Bool.not_eq_true, Nat.beq_eq]; exact h0
            rw [hz] at h
            simp only [cond_false] at h
            cases hlt : Nat.blt l len with
            | true =>
              rw [hlt] at h
              simp only [cond_true] at h
              have hlt' : l < len := Nat.le_of_ble_eq_true hlt
              rw [slAt_some h]
              refine ⟨_, fn, ?_⟩
              rw [if_neg (by omega), Nat.add_assoc]
              exact .sl' hp rfl (by rw [hcc, capOf_ge (by omega)]; omega) (by omega)
            | false =>
              rw [hlt] at h
              simp only [cond_false, Option.some.injEq] at h
              subst h
              have hge : ¬ l < len := fun e => by rw [show Nat.blt l len = true from Nat.ble_eq_true_of_le e] at hlt; cases hlt
              refine ⟨_, fn, ?_⟩
              rw [show hh - l = 0 from by omega]
              exact .emp
      | false =>
        rw [hc] at h
        have hcs : cap < sym := by
          rcases Nat.lt_or_ge cap sym with h1 | h1
          · exact h1
          · rw [show capless cap = true from Nat.ble_eq_true_of_le h1] at hc; cases hc
        have hcc : capOf p cap = cap := if_pos hcs
        simp only [cond_false] at h
        cases hb : (Nat.ble l hh && Nat.ble hh cap && (Option.isNone (none : Option Nat) || (Nat.beq hh 0 && Nat.beq cap 0))) with
        | false => rw [hb] at h; cases h
        | true =>
          rw [hb] at h
          simp only [Bool.and_eq_true, Nat.ble_eq] at hb
          simp only [cond_true] at h
          have fn := fin cap hb.1.1 hb.1.2
          rw [hcc, slAt_some h]
          refine ⟨_, fn, ?_⟩
          by_cases e : cap = l
          · subst e
            simp only [Nat.beq_refl, cond_true, if_true, Nat.add_zero]
            exact .sl' hp rfl (capOf_lt (by omega)).symm (by omega)
          · have hz : Nat.beq cap l = false := by rw [← Bool.not_eq_true, Nat.beq_eq]; exact e
            rw [if_neg e, hz, cond_false, Nat.add_assoc]
            exact .sl' hp rfl (capOf_lt (by omega)).symm (by omega)
    · simp only [show capless 0 = false from rfl, cond_false] at h
      cases hb : (Nat.ble l hh && Nat.ble hh 0 && (Option.isNone (some 0 : Option Nat) || (Nat.beq hh 0 && Nat.beq 0 0))) with
      | false => rw [hb] at h; cases h
      | true =>
        rw [hb] at h
        simp only [Bool.and_eq_true, Nat.ble_eq] at hb
        simp only [cond_true] at h
        obtain rfl : hh = 0 := by omega
        obtain rfl : l = 0 := by omega
        have ev := slAt_some h
        simp only [show Nat.beq 0 0 = true from rfl, cond_true, Nat.sub_zero, Nat.add_zero] at ev
        subst ev
        have : ∃ B, (do let (l, h, m) ← Instr.sliceBounds true 0 C LO HI none
                        let size ← sizeOf el
                        pure (Value.slice (if m = l then some A else (some A).map (·.add (l * size))) (h - l) (m - l)) : Sem Value).run P w = .ok (.slice (some B) 0 C) w := by
          rw [map_ok _ (key C (Nat.le_refl _) (Nat.zero_le _))]
          dsimp only
          rw [map_ok _ (size_run hk w)]
          by_cases e : C = 0
          · subst e; exact ⟨A, by simp⟩
          · exact ⟨A.add 0, by simp [e]⟩
        obtain ⟨B, hB⟩ := this
        exact ⟨_, hB, .emp⟩
  · -- with a max
    rename_i l hh u hl hhh
    obtain ⟨U, hU, hur⟩ := hmx u rfl
    split at h
    · rename_i m hm
      have bl := bd _ _ _ _ hl hlo hlo'
      have bh := bd _ _ _ _ hhh hhi hhi'
      obtain ⟨qm, hMX⟩ : ∃ q, MX = some (.int q (m : Int)) := by
        rcases bd (some u) (some U) 0 m hm (fun x hx => ⟨U, rfl, by cases hx; exact hur⟩) (fun hx => by cases hx) with ⟨e, _⟩ | ⟨q, e⟩
        · cases e
        · exact ⟨q, by rw [hU]; exact e⟩
      subst hMX
      cases hb : (Nat.ble l hh && Nat.ble hh m && Nat.ble m (bif capless cap then len else cap) && not (capless m) && hi.isSome) with
      | false => rw [hb] at h; cases h
      | true =>
      rw [hb] at h
      simp only [cond_true] at h
      simp only [Bool.and_eq_true, Nat.ble_eq] at hb
      obtain ⟨⟨⟨⟨h1, h2⟩, h3⟩, h4⟩, h5⟩ := hb
      have hms : m < sym := by
        rcases Nat.lt_or_ge m sym with h6 | h6
        · exact h6
        · rw [show capless m = true from Nat.ble_eq_true_of_le h6] at h4; cases h4
      obtain ⟨q', f⟩ : ∃ q', HI = some (.int q' (hh : Int)) := by
        rcases bh with ⟨f1, _⟩ | h
        · cases hi with
          | none => cases h5
          | some x => obtain ⟨_, hX, _⟩ := hhi x rfl; rw [f1] at hX; cases hX
        · exact h
      subst f
      have key : ∀ C : Nat, m ≤ C → (Instr.sliceBounds true len C LO (some (.int q' (hh : Int))) (some (.int qm (m : Int)))).run P w = .ok (l, hh, m) w := by
        intro C h3
        unfold Instr.sliceBounds
        rcases bl with ⟨e1, e2⟩ | ⟨q, e⟩
        · subst e1; subst e2; simp [sb qm m C _ w h3, sb q' hh m _ w h2, Result.andThen]
        · subst e; simp [sb qm m C _ w h3, sb q' hh m _ w h2, sb q l hh _ w h1, Result.andThen]
      rcases hV.sl_inv with ⟨p, hs, hp, hlc, rfl⟩ | ⟨rfl, rfl, rfl, A, C, rfl⟩
      · obtain ⟨ab, ao, as⟩ := a
        obtain rfl : as = none := hs
        dsimp only at hp
        simp only [Option.isNone_none, cond_true] at h
        have hmC : m ≤ capOf p cap := by
          cases hc : capless cap with
          | true => rw [hc] at h3; exact Nat.le_trans h3 hlc
          | false =>
            rw [hc] at h3
            rw [capOf_lt]
            · exact h3
            · rcases Nat.lt_or_ge cap sym with h6 | h6
              · exact h6
              · rw [show capless cap = true from Nat.ble_eq_true_of_le h6] at hc; cases hc
        rw [slAt_some h]
        dsimp only
        rw [map_ok _ (key _ hmC)]
        dsimp only
        rw [map_ok _ (size_run hk w)]
        by_cases e : m = l
        · subst e
          refine ⟨_, rfl, ?_⟩
          simp only [Nat.beq_refl, cond_true, if_true, Nat.add_zero]
          exact .sl' hp rfl (capOf_lt (by omega)).symm (by omega)
        · have hz : Nat.beq m l = false := by rw [← Bool.not_eq_true, Nat.beq_eq]; exact e
          refine ⟨_, rfl, ?_⟩
          rw [if_neg e, hz, cond_false]
          simp only [Option.map_some, add_at, Nat.add_assoc]
          exact .sl' hp rfl (capOf_lt (by omega)).symm (by omega)
      · simp only [Option.isNone_some, cond_false] at h
        cases hm0 : Nat.beq m 0 with
        | false => rw [hm0] at h; cases h
        | true =>
          rw [hm0] at h
          simp only [cond_true, Option.some.injEq] at h
          subst h
          obtain rfl : m = 0 := Nat.eq_of_beq_eq_true hm0
          obtain rfl : hh = 0 := by omega
          obtain rfl : l = 0 := by omega
          dsimp only
          rw [map_ok _ (key C (Nat.zero_le _))]
          dsimp only
          rw [map_ok _ (size_run hk w)]
          exact ⟨_, rfl, by simp only [if_true]; exact .emp⟩
    · cases h
  · cases h
end
end Go.Proofs.YthelmobipjekjaaGreat.Ev
