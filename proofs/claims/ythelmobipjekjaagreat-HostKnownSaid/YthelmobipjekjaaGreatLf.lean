/- What the runner's operations give, the model's give. -/
import Derived.Test.YthelmobipjekjaaGreatLe

set_option linter.unusedVariables false
set_option linter.unusedSimpArgs false
namespace Go.Proofs.YthelmobipjekjaaGreat.Ev
open Go
section
variable {P : Program} {μ : Mp}
/-- parts laid over cells, here and there -/
theorem fill_sound {place : Nat → Option (Nat × Nat)} : ∀ (l : List (Nat × Operand)) {ρ A : Operand → Value} {ps : List (Nat × Nat × Value)} {cs CS r : List Value},
    pair1 l ρ place = some ps → (∀ p ∈ l, VR μ (ρ p.2) (A p.2)) → VRs μ cs CS → fillL ps cs = some r → ∃ R, Instr.fill place ⟨CS⟩ (l.map fun p => (p.1, A p.2)) = some ⟨R⟩ ∧ VRs μ r R
  | [], ρ, A, ps, cs, CS, r, hp, _, hr, hf => by
    simp only [pair1, Option.some.injEq] at hp; subst hp
    simp only [fillL, Option.some.injEq] at hf; subst hf
    exact ⟨CS, rfl, hr⟩
  | (i, x) :: l, ρ, A, ps, cs, CS, r, hp, ha, hr, hf => by
    simp only [pair1] at hp
    cases hpl : place i with
    | none => simp [hpl] at hp
    | some q =>
      obtain ⟨off, k⟩ := q
      simp only [hpl] at hp
      cases hp2 : pair1 l ρ place with
      | none => simp [hp2] at hp
      | some ps2 =>
        simp only [hp2, Option.some.injEq] at hp
        subst hp
        simp only [fillL] at hf
        have hx := ha (i, x) (by simp)
        have hc := hx.cells
        cases hb : (Nat.beq (cells (ρ x)).length k && Nat.ble (off + k) cs.length) with
        | false => rw [hb] at hf; cases hf
        | true =>
          rw [hb] at hf
          simp only [cond_true] at hf
          simp only [Bool.and_eq_true, Nat.beq_eq_true_eq, Nat.ble_eq] at hb
          obtain ⟨hk, ho⟩ := hb
          have hk : (cells (ρ x)).length = k := Nat.eq_of_beq_eq_true (by simpa using hk)
          have hK : (cells (A x)).length = k := by rw [← hc.1]; exact hk
          have hCS : cs.length = CS.length := hr.1
          have hr2 : VRs μ (cs.take off ++ (cells (ρ x) ++ cs.drop (off + k))) (CS.take off ++ (cells (A x) ++ CS.drop (off + k))) := (hr.take off).append (hc.append (hr.drop _))
          obtain ⟨R, hR, hv⟩ := fill_sound l hp2 (fun p hm => ha p (List.mem_cons_of_mem _ hm)) hr2 hf
          refine ⟨R, ?_, hv⟩
          simp only [List.map_cons, Instr.fill, hpl]
          have hsz : (A x).cells.size = k := by rw [← hK, ← cells_eq]; simp
          rw [if_neg (by simp [hsz]; omega)]
          -- the fold is a splice
          have fold : ∀ (vs : List Value) (j : Nat) (C : List Value), off + j + vs.length ≤ C.length →
              (vs.zipIdx j).foldl (fun (cs : Array Value) (c, j) => cs.setIfInBounds (off + j) c) ⟨C⟩ = ⟨C.take (off + j) ++ (vs ++ C.drop (off + j + vs.length))⟩ := by
            intro vs
            induction vs with
            | nil => intro j C h; simp
            | cons v vs ih =>
              intro j C h
              simp only [List.length_cons] at h
              rw [List.zipIdx_cons, List.foldl_cons]
              dsimp only
              rw [show (⟨C⟩ : Array Value).setIfInBounds (off + j) v = ⟨C.set (off + j) v⟩ from by simp]
              rw [ih (j + 1) _ (by simp; omega)]
              congr 1
              apply List.ext_getElem?
              intro n
              simp only [List.getElem?_append, List.length_take, List.length_set, List.getElem?_take, List.getElem?_drop, List.getElem?_set, List.getElem?_cons, List.length_cons]
              have e1 : min (off + (j + 1)) C.length = off + j + 1 := by omega
              have e2 : min (off + j) C.length = off + j := by omega
              rw [e1, e2]
              by_cases h1 : n < off + j
              · rw [if_pos (by omega), if_pos (by omega), if_pos h1, if_neg (by omega), if_pos h1]
              · by_cases h2 : n = off + j
                · subst h2
                  rw [if_pos (by omega), if_pos (by omega), if_pos rfl, if_pos (by omega), if_neg (by omega), if_pos (by omega), if_pos (by omega)]
                · rw [if_neg (by omega), if_neg h1]
                  by_cases h3 : n - (off + j) < vs.length + 1
                  · rw [if_pos (by omega), if_pos h3, if_neg (by omega)]
                    first | (congr 1; omega) | (congr 1)
                  · rw [if_neg (by omega), if_neg h3, if_neg (by omega)]
                    first | (congr 1; omega) | (congr 1)
          have hf2 := fold (cells (A x)) 0 CS (by omega)
          have e3 : (A x).cells.zipIdx.foldl (fun (cs : Array Value) (x : Value × Nat) => cs.setIfInBounds (off + x.2) x.1) ⟨CS⟩ = ⟨CS.take off ++ (cells (A x) ++ CS.drop (off + k))⟩ := by
            rw [← Array.foldl_toList, Array.toList_zipIdx, cells_eq]
            simpa [hK] using hf2
          rw [show ((A x).cells.zipIdx.foldl (fun cs (c, j) => cs.setIfInBounds (off + j) c) (⟨CS⟩ : Array Value)) = ⟨CS.take off ++ (cells (A x) ++ CS.drop (off + k))⟩ from e3]
          exact hR
theorem mapM_places {P : Program} {w : World} : ∀ (fs : Array Field), (∀ f ∈ fs, ∃ k, size? P f.type = some k) → ∃ ps : Array (Nat × Nat), (fs.mapM (fun f => (do pure (f.offset, ← sizeOf f.type) : Sem (Nat × Nat)))).run P w = .ok ps w ∧ ∀ i, ps[i]? = placeIn P fs.toList i := by
  intro fs hfs
  have key : ∀ (l : List Field) (acc : List (Nat × Nat)), (∀ f ∈ l, ∃ k, size? P f.type = some k) →
      ∃ qs : List (Nat × Nat), (l.mapM (fun f => (do pure (f.offset, ← sizeOf f.type) : Sem (Nat × Nat)))).run P w = .ok qs w ∧ ∀ i, qs[i]? = placeIn P l i := by
    intro l
    induction l with
    | nil => intro acc _; exact ⟨[], rfl, fun i => by simp [placeIn, nth]⟩
    | cons f l ih =>
      intro acc h
      obtain ⟨k, hk⟩ := h f (by simp)
      obtain ⟨qs, h1, h2⟩ := ih [] (fun g hg => h g (by simp [hg]))
      refine ⟨(f.offset, k) :: qs, ?_, ?_⟩
      · rw [List.mapM_cons, map_ok (a := (f.offset, k)) _ (by rw [map_ok _ (size_run hk w)]; rfl), map_ok _ h1]; rfl
      · intro i
        cases i with
        | zero => simp [placeIn, nth_eq, hk]
        | succ i => have := h2 i; simp only [placeIn, nth_eq] at this ⊢; simpa using this
  obtain ⟨qs, h1, h2⟩ := key fs.toList [] (fun f hf => hfs f (by simpa using hf))
  refine ⟨⟨qs⟩, ?_, fun i => by simpa using h2 i⟩
  rw [Array.mapM_eq_mapM_toList]
  rw [← bind_pure_comp]
  rw [map_ok _ h1]; rfl
end
section
variable {P : Program} {μ : Mp}
theorem vrun {s : Sem Value} {V : Value} {w : World} (h : s.run P w = .ok V w) : (do pure (Next.value (← s)) : Sem Next).run P w = .ok (.value V) w := by rw [map_ok _ h]; rfl
theorem field_run {t f : Nat} {fs : Array Field} {fd : Field} {b : List Value} {V : Value} {w : World} (hu : P.underlying t = some (.struct fs)) (hf : nth fs.toList f = some fd) (h : (part fd.type ⟨b⟩ fd.offset).run P w = .ok V w) :
    (Instr.field t (.agg ⟨b⟩) f).run P w = .ok V w := by
  rw [nth_eq] at hf
  have hf' : fs[f]? = some fd := by simpa using hf
  unfold Instr.field
  rw [map_ok _ (run_underlying hu w)]
  simp only [hf']
  exact h
theorem fieldAt_run {t f k : Nat} {fs : Array Field} {fd : Field} {b o : Nat} {w : World} (hu : P.underlying t = some (.struct fs)) (hf : nth fs.toList f = some fd) (hk : size? P fd.type = some (k + 1)) :
    (Instr.fieldAt t (.pointer (some ⟨b, o, none⟩)) f).run P w = .ok (.pointer (some ⟨b, o + fd.offset, none⟩)) w := by
  rw [nth_eq] at hf
  have hf' : fs[f]? = some fd := by simpa using hf
  unfold Instr.fieldAt
  rw [map_ok _ (run_underlying hu w)]
  simp only [hf']
  simp [Instr.sureAddr, fieldPlace, size_run hk, Result.andThen, add_at]
theorem indexAt_sl {t el k : Nat} {b o len C i : Nat} {q : IntKind} {w : World} (hu : P.underlying t = some (.slice el)) (hk : size? P el = some k) (hi : i < len) :
    (Instr.indexAt t (.slice (some ⟨b, o, none⟩) len C) (.int q (i : Int))).run P w = .ok (.pointer (some ⟨b, o + i * k, none⟩)) w := by
  have h2 : (0 : Int) ≤ (i : Int) ∧ (i : Int) < (len : Int) := ⟨by omega, by omega⟩
  unfold Instr.indexAt
  simp [asIntOf, run_underlying hu, Result.andThen, h2.2, size_run hk, add_at]
  intro h; omega
theorem indexAt_arr {t el k n : Nat} {b o i : Nat} {q : IntKind} {w : World} (hu : P.underlying t = some (.array n el)) (hk : size? P el = some k) (hi : i < n) :
    (Instr.indexAt t (.pointer (some ⟨b, o, none⟩)) (.int q (i : Int))).run P w = .ok (.pointer (some ⟨b, o + i * k, none⟩)) w := by
  have h2 : (0 : Int) ≤ (i : Int) ∧ (i : Int) < (n : Int) := ⟨by omega, by omega⟩
  unfold Instr.indexAt
  simp [asIntOf, run_underlying hu, Result.andThen, h2.2, size_run hk, add_at, Instr.sureAddr]
  intro h; omega
theorem build_run {t : Nat} {fs : Array Field} {z : Value} {ps : List (Nat × Value)} {R : List Value} {w : World} (hu : P.underlying t = some (.struct fs)) (hz : zero? P t = some z) (hs : ∀ f ∈ fs, ∃ k, size? P f.type = some k)
    (h : Instr.fill (placeIn P fs.toList) ⟨cells z⟩ ps = some ⟨R⟩) : (Instr.build t ⟨ps⟩).run P w = .ok (.agg ⟨R⟩) w := by
  obtain ⟨qs, h1, h2⟩ := mapM_places (w := w) fs hs
  unfold Instr.build
  rw [map_ok _ (zero_run hz w), map_ok _ (run_underlying hu w)]
  rw [map_ok _ h1]
  have e : (fun i => qs[i]?) = placeIn P fs.toList := funext h2
  have e2 : z.cells = ⟨cells z⟩ := by apply Array.ext'; rw [cells_eq]
  dsimp only
  rw [e, e2, h]
  rfl
theorem assert_run {t xt : Nat} {z : Option Value} {ok : Bool} {x X v : Value} {d : TypeDesc} {w : World} (hu : P.underlying t = some d) (hd : ∀ ms, d ≠ .interface ms) (hz : ∀ u, z = some u → zero? P t = some u)
    (h : assertV t z ok x = some v) (hr : VR μ x X) : ∃ V, (Instr.typeAssert X xt t ok).run P w = .ok V w ∧ VR μ v V := by
  have hdd : ∀ (X : Value), (Instr.typeAssert X xt t ok).run P w = ((match d, X with
      | _, .nilIface => (if ok then do pure (.tuple #[← zeroValue t, .bool false]) else runtimePanic (.typeAssertion (some xt) none t ""))
      | _, .iface u v => if u = t then pure (if ok then .tuple #[v, .bool true] else v) else (if ok then do pure (.tuple #[← zeroValue t, .bool false]) else runtimePanic (.typeAssertion (some xt) (some u) t ""))
      | _, _ => stuck "TypeAssert: interface value expected" : Sem Value)).run P w := by
    intro X
    unfold Instr.typeAssert
    rw [map_ok _ (run_underlying hu w)]
    cases d <;> first | (cases X <;> rfl) | exact absurd rfl (hd _)
  rw [hdd]
  unfold assertV at h
  split at h
  · rw [hr.of_flat rfl]
    cases ok with
    | false => cases h
    | true =>
      simp only [cond_true] at h
      split at h
      · rename_i u
        simp only [Option.some.injEq] at h; subst h
        refine ⟨.tuple #[u, .bool false], ?_, ?_⟩
        · show Sem.run P (do pure (Value.tuple #[← zeroValue t, .bool false]) : Sem Value) w = _
          rw [map_ok _ (zero_run (hz u rfl) w)]; rfl
        · exact .tup (a := [u, .bool false]) (b := [u, .bool false]) rfl (VRs.cons (.flat (zero_flat (hz u rfl))) (VRs.cons (.leaf rfl) VRs.nil)).2
      · cases h
  · rename_i u v'
    obtain ⟨U, e, hU⟩ := hr.iface_inv
    rw [e]
    dsimp only
    cases hb : Nat.beq u t with
    | true =>
      rw [hb] at h
      obtain rfl : u = t := Nat.eq_of_beq_eq_true hb
      simp only [cond_true, Option.some.injEq] at h; subst h
      rw [if_pos rfl]
      cases ok with
      | false => exact ⟨U, rfl, hU⟩
      | true => exact ⟨_, rfl, .tup (a := [v', .bool true]) (b := [U, .bool true]) rfl (VRs.cons hU (VRs.cons (.leaf rfl) VRs.nil)).2⟩
    | false =>
      rw [hb] at h
      have hne : ¬ u = t := fun e => by rw [e, Nat.beq_refl] at hb; cases hb
      rw [if_neg hne]
      simp only [cond_false] at h
      cases ok with
      | false => cases h
      | true =>
        simp only [cond_true] at h
        split at h
        · rename_i u'
          simp only [Option.some.injEq] at h; subst h
          refine ⟨.tuple #[u', .bool false], ?_, ?_⟩
          · show Sem.run P (do pure (Value.tuple #[← zeroValue t, .bool false]) : Sem Value) w = _
            rw [map_ok _ (zero_run (hz u' rfl) w)]; rfl
          · exact .tup (a := [u', .bool false]) (b := [u', .bool false]) rfl (VRs.cons (.flat (zero_flat (hz u' rfl))) (VRs.cons (.leaf rfl) VRs.nil)).2
        · cases h
  · cases h
/-- Operations without memory. -/
theorem pop_sound {o : Oper} {g : Pf} (hp : pop P o = .mk g) {ρ A : Operand → Value} {v : Value} (h : g ρ = some v) (hr : OpR μ ρ A o) (w : World) :
    ∃ V, (execOp A o).run P w = .ok (.value V) w ∧ VR μ v V := by
  have plain : (∀ cs b, o.op ≠ .select cs b) → plainOp P o ρ = some v → ∃ V, (execOp A o).run P w = .ok (.value V) w ∧ VR μ v V := fun hs h => ⟨v, plain_sound hs h hr w⟩
  have no : ∀ {β : Type} {α : Type} {x : α}, (BX.mk (fun (_ : α) => (none : Option β)) = BX.mk (fun _ => none)) := rfl
  unfold OpR at hr
  unfold pop at hp
  unfold execOp
  split at hp
  · rename_i x ho
    cases hp; simp only [Option.some.injEq] at h; subst h
    simp only [ho]
    exact ⟨A x, rfl, hr x (by simp [ho, Op.operands])⟩
  · rename_i x ho
    cases hp; simp only [Option.some.injEq] at h; subst h
    simp only [ho]
    exact ⟨A x, rfl, hr x (by simp [ho, Op.operands])⟩
  · rename_i c a b ho
    cases hp
    simp only [ho]
    dsimp only at h
    unfold boolThen at h
    split at h
    · rename_i t hc
      have hC := hr c (by simp [ho, Op.operands])
      rw [hc] at hC
      rw [hC.bool_inv]
      simp only [Option.some.injEq] at h; subst h
      cases t
      · exact ⟨A b, rfl, hr b (by simp [ho, Op.operands])⟩
      · exact ⟨A a, rfl, hr a (by simp [ho, Op.operands])⟩
    · cases h
  · rename_i x ho
    cases hp
    simp only [ho]
    have hX := hr x (by simp [ho, Op.operands])
    dsimp only at h
    unfold nilOk at h
    split at h <;> simp only [Option.some.injEq, reduceCtorEq] at h <;> subst h
    · rename_i a hx
      rw [hx] at hX
      obtain ⟨p, _, _, e⟩ := hX.ptr_inv
      rw [e] at hX ⊢
      exact ⟨_, rfl, hX⟩
    · rename_i f fi ca hx
      rw [hx] at hX
      obtain ⟨b, d, e, _⟩ := hX.fn_inv
      rw [e] at hX ⊢
      exact ⟨_, rfl, hX⟩
    · rename_i a l c hx
      rw [hx] at hX
      obtain ⟨B, C, e⟩ := hX.slsome
      rw [e] at hX ⊢
      exact ⟨_, rfl, hX⟩
  · rename_i t x ho
    simp only [ho]
    split at hp
    · cases hp; cases h
    · cases hp; cases h
    · rename_i d hd hu
      cases hp
      simp only [Option.some.injEq] at h; subst h
      refine ⟨.iface t (A x), ?_, .iface (hr x (by simp [ho, Op.operands]))⟩
      unfold Instr.makeInterface
      simp only [Sem.run_bind, run_underlying hu, Result.andThen]
      cases d <;> first | rfl | exact absurd rfl (hd _)
  · rename_i fn fi ca ho
    simp only [ho]
    split at hp
    · rename_i f
      cases hp
      simp only [Option.some.injEq] at h; subst h
      refine ⟨.func (.func f) (fi.map A) (ca.map A), rfl, ?_⟩
      rw [arr_map, arr_map, arr_map, arr_map]
      have h1 : VRs μ (fi.toList.map ρ) (fi.toList.map A) := VRs.map fun x hx => hr x (by simp [ho, Op.operands]; exact .inl (by simpa using hx))
      have h2 : VRs μ (ca.toList.map ρ) (ca.toList.map A) := VRs.map fun x hx => hr x (by simp [ho, Op.operands]; exact .inr (by simpa using hx))
      exact .fn h1.1 h1.2 h2.1 h2.2
    · cases hp; cases h
  · rename_i t ix ho
    cases hp
    simp only [ho]
    have hT := hr t (by simp [ho, Op.operands])
    dsimp only at h
    unfold tupAt at h
    split at h
    · rename_i vs hv
      rw [hv] at hT
      obtain ⟨l⟩ := vs
      obtain ⟨b, e, hb⟩ := hT.tup_inv
      rw [e]
      rw [nth_eq] at h
      obtain ⟨V, hV, hvr⟩ := hb.get h
      exact ⟨V, by simp [Instr.extract, hV], hvr⟩
    · cases h
  · rename_i t x f ho
    simp only [ho]
    have hX := hr x (by simp [ho, Op.operands])
    split at hp
    · rename_i fs hu
      split at hp
      · rename_i fd hf
        split at hp
        rename_i g' hg
        cases hp
        dsimp only at h
        unfold aggThen at h
        split at h
        · rename_i cs hc
          rw [hc] at hX
          obtain ⟨l⟩ := cs
          obtain ⟨b, e, hb⟩ := hX.agg_inv
          obtain ⟨V, hV, hvr⟩ := partK_sound hg h hb w
          exact ⟨V, vrun (by rw [e]; exact field_run hu hf hV), hvr⟩
        · cases h
      · cases hp; cases h
    · cases hp; cases h
  · rename_i t x f ho
    simp only [ho]
    have hX := hr x (by simp [ho, Op.operands])
    split at hp
    · rename_i fs hu
      split at hp
      · rename_i fd hf
        split at hp
        · rename_i k hk
          cases hp
          dsimp only at h
          unfold ptrThen at h
          split at h
          · rename_i a ha
            rw [ha] at hX
            obtain ⟨p, h1, h2, e⟩ := hX.ptr_inv
            obtain ⟨h3, rfl⟩ := ptrAt_some h
            refine ⟨_, vrun (by rw [e]; exact fieldAt_run hu hf hk), ?_⟩
            rw [Nat.add_assoc]; exact .ptr h2
          · cases h
        · cases hp; cases h
      · cases hp; cases h
    · cases hp; cases h
  · rename_i t x ix ho
    simp only [ho]
    have hX := hr x (by simp [ho, Op.operands])
    have hI := hr ix (by simp [ho, Op.operands])
    split at hp
    · rename_i el hu
      split at hp
      · rename_i k hk
        cases hp
        dsimp only at h
        unfold slThen at h
        split at h
        · rename_i a l c ha
          obtain ⟨q, i, e1, e2, h⟩ := nat_inv h hI
          cases hb : (Nat.blt i l && a.spot.isNone) with
          | false => rw [hb] at h; cases h
          | true =>
            rw [hb] at h
            simp only [cond_true] at h
            simp only [Bool.and_eq_true] at hb
            rw [ha] at hX
            obtain ⟨h3, rfl⟩ := ptrAt_some h
            rcases hX.sl_inv with ⟨p, _, h2, _, e⟩ | ⟨rfl, _⟩
            · refine ⟨_, vrun (by rw [e, e2]; exact indexAt_sl hu hk (Nat.le_of_ble_eq_true hb.1)), ?_⟩
              rw [Nat.add_assoc]; exact .ptr h2
            · cases h3
        · cases h
      · cases hp; cases h
    · rename_i n el hu
      split at hp
      · rename_i k hk
        cases hp
        dsimp only at h
        unfold ptrThen at h
        split at h
        · rename_i a ha
          obtain ⟨q, i, e1, e2, h⟩ := nat_inv h hI
          cases hb : Nat.blt i n with
          | false => rw [hb] at h; cases h
          | true =>
            rw [hb] at h
            simp only [cond_true] at h
            rw [ha] at hX
            obtain ⟨h3, rfl⟩ := ptrAt_some h
            obtain ⟨p, _, h2, e⟩ := hX.ptr_inv
            refine ⟨_, vrun (by rw [e, e2]; exact indexAt_arr hu hk (Nat.le_of_ble_eq_true hb)), ?_⟩
            rw [Nat.add_assoc]; exact .ptr h2
        · cases h
      · cases hp; cases h
    · cases hp; cases h
  · rename_i t parts ho
    simp only [ho]
    split at hp
    · rename_i fs z hu hz
      cases hs : fs.toList.all (fun f => (size? P f.type).isSome) with
      | false => rw [hs] at hp; cases hp; cases h
      | true =>
        rw [hs] at hp
        cases hp
        dsimp only at h
        split at h
        · rename_i ps hps
          split at h
          · rename_i cs hcs
            simp only [Option.some.injEq] at h; subst h
            obtain ⟨R, hR, hv⟩ := fill_sound parts.toList hps (fun p hm => hr p.2 (by
              simp only [ho, Op.operands, List.mem_toArray, List.mem_map]
              exact ⟨p, hm, rfl⟩)) (VR.flat (zero_flat hz)).cells hcs
            refine ⟨.agg ⟨R⟩, vrun ?_, .agg hv.1 hv.2⟩
            have e : (parts.map fun x => (x.1, A x.2)) = ⟨parts.toList.map fun p => (p.1, A p.2)⟩ := by apply Array.ext'; simp
            rw [e]
            exact build_run hu hz (fun f hf => by
              rw [List.all_eq_true] at hs
              exact Option.isSome_iff_exists.1 (hs f (by simpa using hf))) hR
          · cases h
        · cases h
    · cases hp; cases h
  · rename_i t x lo hi mx ho
    split at hp
    · rename_i el hu
      split at hp
      · rename_i k hk
        cases hp
        dsimp only at h
        split at h
        · rename_i a len cap ha
          simp only [ho]
          have hX := hr x (by simp [ho, Op.operands])
          rw [ha] at hX
          have opt : ∀ (y : Option Operand), (∀ z ∈ y.toArray, z ∈ o.op.operands) → (∀ u, y.map ρ = some u → ∃ U, y.map A = some U ∧ VR μ u U) ∧ (y.map ρ = none → y.map A = none) := by
            intro y hy
            cases y with
            | none => exact ⟨fun u hu => (by cases hu), fun _ => rfl⟩
            | some z => exact ⟨fun u hu => ⟨A z, rfl, (by cases hu; exact hr z (hy z (by simp)))⟩, fun hn => (by cases hn)⟩
          have ol := opt lo (fun z hz => by simp [ho, Op.operands]; simp at hz; simp [hz])
          have oh := opt hi (fun z hz => by simp [ho, Op.operands]; simp at hz; simp [hz])
          have om := opt mx (fun z hz => by simp [ho, Op.operands]; simp at hz; simp [hz])
          obtain ⟨R, hR, hv⟩ := slice_sound hu hk h hX ol.1 ol.2 oh.1 oh.2 om.1 om.2 w
          exact ⟨R, vrun hR, hv⟩
        · exact plain (by simp [ho]) h
      · cases hp; cases h
    · cases hp; exact plain (by simp [ho]) h
  · rename_i x xt t ok ho
    simp only [ho]
    have hX := hr x (by simp [ho, Op.operands])
    split at hp
    · cases hp; cases h
    · cases hp; cases h
    · rename_i d hd hu
      cases hp
      obtain ⟨V, hV, hv⟩ := assert_run (xt := xt) (w := w) hu (fun ms e => hd ms e) (fun u hu => hu) h hX
      exact ⟨V, vrun hV, hv⟩
  · rename_i op t x ho
    split at hp
    · cases hp
      simp only [ho]
      have hX := hr x (by simp [ho, Op.operands])
      dsimp only at h
      unfold notV at h
      split at h
      · rename_i b hb
        rw [hb] at hX
        rw [fB_eq, Option.some.injEq] at h; subst h
        exact ⟨.bool (!b), vrun (by rw [hX.bool_inv]; rfl), .leaf rfl⟩
      · cases h
    · cases hp; exact plain (by simp [ho]) h
  · rename_i s d x ho
    split at hp
    · rename_i q k hs hd
      cases hp
      simp only [ho]
      have hX := hr x (by simp [ho, Op.operands])
      dsimp only at h
      unfold convI at h
      split at h
      · rename_i q' n hn
        rw [hn] at hX
        simp only [fI_eq, wrapF_eq, Option.some.injEq] at h; subst h
        refine ⟨.int k (k.wrap n), vrun ?_, .leaf rfl⟩
        rw [hX.int_inv]
        unfold convert
        rw [map_ok _ (run_underlying hs w), map_ok _ (run_underlying hd w)]
        rfl
      · cases h
    · cases hp; exact plain (by simp [ho]) h
  · rename_i op t x y yt ho
    split at hp
    rename_i g' hg
    cases hp
    dsimp only at h
    have hX := hr x (by simp [ho, Op.operands])
    have hY := hr y (by simp [ho, Op.operands])
    unfold binV at h
    split at h
    · rename_i k a ha
      split at h
      · rename_i q b hb
        cases hk : (keq k q || isShift op) with
        | false => rw [hk] at h; cases h
        | true =>
          rw [hk] at h
          simp only [cond_true] at h
          rw [ha] at hX; rw [hb] at hY
          simp only [ho]
          have hrun := bopI_run hg h hk t w
          refine ⟨v, vrun ?_, .leaf hrun.2⟩
          rw [hX.int_inv, hY.int_inv, map_ok _ (guard_of (by simp) (.inl (by simp)) op x y)]
          exact hrun.1
      · cases h
    · exact plain (by simp [ho]) h
    · exact plain (by simp [ho]) h
    · split at h
      · rename_i b hb
        cases hk : kindOk P t (ρ x) with
        | false => rw [hk] at h; cases h
        | true =>
          rw [hk] at h
          simp only [cond_true] at h
          have he := nilEq_sound hb hk hX hY w op x y
          simp only [ho]
          split at h
          · simp only [Option.some.injEq] at h; subst h
            exact ⟨_, vrun (he.1 rfl), .leaf rfl⟩
          · simp only [Option.some.injEq] at h; subst h
            exact ⟨_, vrun (he.2 rfl), .leaf rfl⟩
          · cases h
      · exact plain (by simp [ho]) h
  · rename_i c ho
    split at hp
    · rename_i hc
      split at hp
      · rename_i t ts ht
        split at hp
        · rename_i el x hu hargs
          cases hp
          dsimp only at h
          simp only [ho]
          have hX := hr x (by simp [ho, Op.operands, Call.operands, hc]; rw [show c.args = ⟨[x]⟩ from by apply Array.ext'; simpa using hargs]; simp)
          unfold lenV at h
          split at h
          · rename_i a n cp ha
            simp only [Option.some.injEq] at h; subst h
            rw [ha] at hX
            obtain ⟨A', C', e⟩ : ∃ A' C', A x = .slice A' n C' := by
              cases a with
              | none => exact ⟨_, _, hX.of_flat rfl⟩
              | some a => obtain ⟨B, C, e⟩ := hX.slsome; exact ⟨_, _, e⟩
            refine ⟨.int .i64 (n : Int), ?_, .leaf rfl⟩
            have ea : c.args = ⟨[x]⟩ := by apply Array.ext'; simpa using hargs
            have et : c.argTypes[0]? = some t := by rw [← Array.getElem?_toList, ht]; rfl
            simp only [resolve, hc, ea]
            simp [invoke, builtin, Builtin.len_, et, e, run_underlying hu, Result.andThen, goInt]
          · cases h
        · cases hp; exact plain (by simp [ho]) h
      · cases hp; cases h
    · rename_i hc
      split at hp
      · rename_i t ts ht
        split at hp
        · rename_i el x hu hargs
          cases hp
          dsimp only at h
          simp only [ho]
          have hX := hr x (by simp [ho, Op.operands, Call.operands, hc]; rw [show c.args = ⟨[x]⟩ from by apply Array.ext'; simpa using hargs]; simp)
          have ea : c.args = ⟨[x]⟩ := by apply Array.ext'; simpa using hargs
          have et : c.argTypes[0]? = some t := by rw [← Array.getElem?_toList, ht]; rfl
          have fin : ∀ A' l n, A x = .slice A' l n → ∃ V, Sem.run P (do let d ← resolve A c o.type; invoke d.target d.args : Sem Next) w = .ok (.value V) w ∧ VR μ (.int .i64 (.ofNat n)) V := by
            intro A' l n e
            refine ⟨.int .i64 (n : Int), ?_, .leaf rfl⟩
            simp only [resolve, hc, ea]
            simp [invoke, builtin, Builtin.cap_, et, e, run_underlying hu, Result.andThen, goInt]
          unfold capV at h
          split at h
          · rename_i l n ha
            simp only [Option.some.injEq] at h; subst h
            rw [ha] at hX
            exact fin _ _ _ (hX.of_flat rfl)
          · rename_i b o' l n ha
            cases hcl : capless n with
            | true => rw [hcl] at h; cases h
            | false =>
              rw [hcl] at h
              simp only [cond_false, Option.some.injEq] at h; subst h
              rw [ha] at hX
              have hlt : n < sym := by
                rcases Nat.lt_or_ge n sym with h6 | h6
                · exact h6
                · rw [show capless n = true from Nat.ble_eq_true_of_le h6] at hcl; cases hcl
              rcases hX.sl_inv with ⟨p, _, _, _, e⟩ | ⟨e, _⟩
              · rw [capOf_lt hlt] at e; exact fin _ _ _ e
              · cases e
          · cases h
        · cases hp; cases h
      · cases hp; cases h
    · cases hp; exact plain (by simp [ho]) h
    · cases hp; exact plain (by simp [ho]) h
    · cases hp; cases h
  · rename_i t x ix ho
    cases hp; exact plain (by simp [ho]) h
  · cases hp; cases h
end
end Go.Proofs.YthelmobipjekjaaGreat.Ev
