/- What the runner's operations on memory give, the model's give. -/
import Derived.Test.YthelmobipjekjaaGreatLg
import Derived.Laws.BytesString
import Derived.Laws.IdiomCopy
import Derived.Laws.Rows
import Derived.Below
import Derived.WalkKit
set_option linter.unusedVariables false
set_option linter.unusedSimpArgs false
namespace Go.Proofs.YthelmobipjekjaaGreat.Ev
open Go Go.RowKit
/-! ### operations that make a block -/
/-- one block more, nothing else -/
structure Grew (w w' : World) (o : Obj) : Prop where
  os : w'.os = w.os
  tape : w'.tape = w.tape
  output : w'.output = w.output
  size : w'.heap.size = w.heap.size + 1
  old : ∀ k, k < w.heap.size → w'.heap[k]? = w.heap[k]?
  new : w'.heap[w.heap.size]? = some o
theorem Grew.alloc (w : World) (o : Obj) : Grew w (w.alloc o) o := ⟨rfl, rfl, rfl, by simp, fun k hk => Below.heap_alloc w o k hk, by show (w.heap.push o)[w.heap.size]? = some o; simp⟩
theorem Grew.keep {w w' : World} {o : Obj} (h : Grew w w' o) {b : Nat} {x : Obj} (hb : w.heap[b]? = some x) : w'.heap[b]? = some x := (h.old b (Array.getElem?_eq_some_iff.1 hb).1).trans hb
section
variable {P : Program} {μ : Mp}
theorem VR.one {v V : Value} (h : VR μ v V) (ho : Ev.one v = true) : V.oneCell' = true := by
  cases h with
  | leaf h => cases ‹Value› <;> first | rfl | (simp [Ev.one] at ho; done)
  | agg => simp [Ev.one] at ho
  | tup => simp [Ev.one] at ho
  | _ => rfl
theorem ones_get : ∀ {l : List Value}, ones l = true → ∀ (k : Nat) (x : Value), l[k]? = some x → Ev.one x = true
  | v :: l, h, k, x, hx => by
    simp only [ones] at h
    cases hv : Ev.one v with
    | false => rw [hv] at h; cases h
    | true =>
      rw [hv] at h
      cases k with
      | zero => simp at hx; subst hx; exact hv
      | succ k => exact ones_get (l := l) h k x (by simpa using hx)
theorem thenRow_some {cs : List Value} {t n : Nat} {r r' : Nat → Value} {ob : AO} (h : thenRow cs t n r = some (ob, r')) : ones cs = true ∧ cs.length = n ∧ ob = .row (Tr.ofList cs) n t [] false ∧ r' = r := by
  unfold thenRow mkRow at h
  cases hb : (ones cs && Nat.beq cs.length n) with
  | false => rw [hb] at h; cases h
  | true =>
    rw [hb] at h
    simp only [cond_true, Option.some.injEq, Prod.mk.injEq] at h
    simp only [Bool.and_eq_true] at hb
    exact ⟨hb.1, Nat.eq_of_beq_eq_true hb.2, h.1.symm, h.2.symm⟩
/-- A new row. -/
theorem OM.fresh {cs CS : List Value} {t n sz cap B : Nat} {w' : World} {ty : TypeId} {more : List Value} {fz : Nat × Nat} (h1 : ones cs = true) (h2 : cs.length = n) (hr : VRs μ cs CS) (hs : size? P t = some sz)
    (hn : n ≤ cap * sz) (hcap : cap * sz ≤ CS.length + more.length) (hw : w'.heap[B]? = some (.cells ⟨CS ++ more⟩ ty fz)) (hf : fz.1 = fz.2 ∨ (CS.length + more.length ≤ fz.1 ∧ fz.1 ≤ fz.2)) :
    OM P μ ⟨B, 0, cap⟩ w' (.row (Tr.ofList cs) n t [] false) := by
  refine ⟨⟨CS ++ more⟩, ty, fz, sz, hw, fun k v hk => ?_, by simpa using hf, hs, hn, by simpa using hcap⟩
  rw [Tr.get_ofList] at hk
  obtain ⟨V, hV, hv⟩ := hr.get hk
  refine ⟨by rw [← h2]; exact (List.getElem?_eq_some_iff.1 hk).1, ones_get h1 k v hk, V, ?_, hv⟩
  have hkl : k < CS.length := (List.getElem?_eq_some_iff.1 hV).1
  rw [show ((⟨CS ++ more⟩ : Array Value)[0 + k]?) = (CS ++ more)[k]? from by simp, List.getElem?_append_left hkl]; exact hV
theorem reps_length (n : Nat) (l : List Value) : (reps n l).length = n * l.length := by
  induction n with
  | zero => simp [reps]
  | succ n ih => simp [reps, ih, Nat.succ_mul]; omega
theorem reps_get : ∀ (n : Nat) (l : List Value) (i : Nat), i < n * l.length → (reps n l)[i]? = l[i % l.length]?
  | 0, l, i, h => by simp at h
  | n + 1, l, i, h => by
    have hp : 0 < l.length := by
      cases hl : l.length with
      | zero => rw [hl] at h; simp at h
      | succ k => omega
    simp only [reps]
    by_cases hi : i < l.length
    · rw [List.getElem?_append_left hi, Nat.mod_eq_of_lt hi]
    · have hm := Nat.add_mul n 1 l.length
      rw [List.getElem?_append_right (by omega), reps_get n l (i - l.length) (by omega), ← Nat.mod_eq_sub_mod (by omega)]
theorem range_reps (z : List Value) (n : Nat) (hz : ∀ j, j < n → z.length ≠ 0) : ((Array.range (n * z.length)).map fun i => (⟨z⟩ : Array Value)[i % z.length]!) = ⟨reps n z⟩ := by
  apply Array.ext'
  apply List.ext_getElem?
  intro i
  by_cases hi : i < n * z.length
  · rw [reps_get n z i hi]
    have hp : 0 < z.length := by
      cases hl : z.length with
      | zero => rw [hl] at hi; simp at hi
      | succ k => omega
    have hm : i % z.length < z.length := Nat.mod_lt _ hp
    simp [hi, List.getElem?_eq_getElem hm, getElem!_pos, hm]
  · rw [List.getElem?_eq_none (by simp; omega), List.getElem?_eq_none (by rw [reps_length]; omega)]
theorem VRs.refl_cells {z : Value} (h : flat z = true) : VRs μ (cells z) (cells z) := (VR.flat h).cells
theorem VRs.reps {a b : List Value} (h : VRs μ a b) : ∀ n, VRs μ (Ev.reps n a) (Ev.reps n b)
  | 0 => VRs.nil
  | n + 1 => h.append (VRs.reps h n)
theorem map_ok' {α β : Type} {s : Sem α} {w w' : World} {a : α} (f : α → Sem β) (h : s.run P w = .ok a w') : (s >>= f).run P w = (f a).run P w' := by
  simp only [Sem.run_bind, h, Result.andThen]
theorem info_run {t : Nat} {i : TypeInfo} (h : P.info? t = some i) (w : World) : (typeInfo t).run P w = .ok i w := by simp [typeInfo, h]
theorem vrun' {s : Sem Value} {V : Value} {w w' : World} (h : s.run P w = .ok V w') : (do pure (Next.value (← s)) : Sem Next).run P w = .ok (.value V) w' := by rw [map_ok' _ h]; rfl
theorem nop_sound {o : Oper} {g : Nf} (hn : nop P o = .mk g) {ρ A : Operand → Value} {ob : AO} {r : Nat → Value} (h : g ρ = some (ob, r)) (hr : OpR μ ρ A o) (w : World) :
    ∃ V cap w' obj, (execOp A o).run P w = .ok (.value V) w' ∧ Grew w w' obj ∧ live ob = true ∧ unf ob = true ∧ anc ob = [] ∧
      ∀ id, μ id = none → OM P (μ.with id ⟨w.heap.size, 0, cap⟩) ⟨w.heap.size, 0, cap⟩ w' ob ∧ VR (μ.with id ⟨w.heap.size, 0, cap⟩) (r id) V := by
  -- a row laid by alloc
  have lay : ∀ {cs CS : List Value} {t n sz cap : Nat} {ty : TypeId} {s : Sem Value} {V : Value} {r' : Nat → Value}, thenRow cs t n r' = some (ob, r) → size? P t = some sz → VRs μ cs CS → n ≤ cap * sz → cap * sz ≤ CS.length →
      s.run P w = .ok V (w.alloc (.cells ⟨CS⟩ ty)) → (∀ id, μ id = none → VR (μ.with id ⟨w.heap.size, 0, cap⟩) (r' id) V) →
      ∃ V cap w' obj, (do pure (Next.value (← s)) : Sem Next).run P w = .ok (.value V) w' ∧ Grew w w' obj ∧ live ob = true ∧ unf ob = true ∧ anc ob = [] ∧
        ∀ id, μ id = none → OM P (μ.with id ⟨w.heap.size, 0, cap⟩) ⟨w.heap.size, 0, cap⟩ w' ob ∧ VR (μ.with id ⟨w.heap.size, 0, cap⟩) (r id) V := by
    intro cs CS t n sz cap ty s V r' ht hs hv h1 h2 hrun hval
    obtain ⟨e1, e2, rfl, rfl⟩ := thenRow_some ht
    refine ⟨V, cap, _, _, by rw [map_ok' _ hrun]; rfl, Grew.alloc w _, rfl, rfl, rfl, fun id hid => ⟨?_, hval id hid⟩⟩
    exact OM.fresh (more := []) e1 e2 (hv.mono (Mp.le_with _ hid)) hs h1 (by simpa using h2) (fz := (0, 0)) (by simpa using (Grew.alloc w _).new) (.inl rfl)
  have newRun : ∀ (t : Nat) (L : List Value), (Go.newRow t ⟨L⟩).run P w = .ok ⟨w.heap.size, 0, none⟩ (w.alloc (.cells ⟨L⟩ t)) := fun t L => by
    unfold Go.newRow
    rw [map_ok' _ (run_newObj_alloc P w _)]; rfl
  have zc : ∀ z : Value, z.cells = ⟨cells z⟩ := fun z => by apply Array.ext'; rw [cells_eq]
  have ptrV : ∀ id cap, VR (μ.with id ⟨w.heap.size, 0, cap⟩) (atPtr id) (.pointer (some ⟨w.heap.size, 0, none⟩)) := fun id cap => by
    have := VR.ptr (μ := μ.with id ⟨w.heap.size, 0, cap⟩) (i := id) (o := 0) (Mp.with_same _ _ _)
    simpa [atPtr] using this
  have slV : ∀ id cap l, l ≤ cap → cap < sym → VR (μ.with id ⟨w.heap.size, 0, cap⟩) (.slice (some ⟨id, 0, none⟩) l cap) (.slice (some ⟨w.heap.size, 0, none⟩) l cap) := fun id cap l h1 h2 =>
    .sl' (Mp.with_same _ _ _) (by simp) (capOf_lt h2).symm h1
  unfold OpR at hr
  unfold nop at hn
  unfold execOp
  split at hn
  · rename_i t ho
    split at hn
    · rename_i z k hz hk
      split at hn
      · rename_i r0 hr0
        cases hn
        simp only [Option.some.injEq] at h
        subst h
        simp only [ho]
        refine lay (cap := 1) (ty := t) hr0 hk (VRs.refl_cells (zero_flat hz)) (by omega) (by obtain ⟨_, e, _⟩ := thenRow_some hr0; omega) ?_ (fun id _ => ptrV id 1)
        unfold Instr.alloc
        rw [map_ok _ (zero_run hz w)]
        show (do pure (Value.pointer (some (← newVar t z))) : Sem Value).run P w = _
        unfold newVar
        rw [zc, map_ok' _ (newRun t _)]; rfl
      · cases hn; cases h
    · cases hn; cases h
  · rename_i t x ho
    split at hn
    · rename_i k hk
      cases hn
      dsimp only at h
      simp only [ho]
      have hX := hr x (by simp [ho, Op.operands])
      refine lay (cap := 1) (ty := t) h hk hX.cells (by omega) (by obtain ⟨_, e, _⟩ := thenRow_some h; rw [← hX.cells.1]; omega) ?_ (fun id _ => ptrV id 1)
      unfold Instr.box
      show (do pure (Value.pointer (some (← newVar t (A x)))) : Sem Value).run P w = _
      unfold newVar
      rw [zc, map_ok' _ (newRun t _)]; rfl
    · cases hn; cases h
  · rename_i t len parts ho
    split at hn
    · rename_i el hu
      split at hn
      · rename_i z k hz hk
        cases hb : (Nat.ble (len * k) 16777216 && Nat.beq (cells z).length k && capless len == false) with
        | false => rw [hb] at hn; cases hn; cases h
        | true =>
          rw [hb] at hn
          cases hn
          dsimp only at h
          simp only [Bool.and_eq_true, Nat.ble_eq, beq_iff_eq] at hb
          obtain ⟨⟨hb1, hb2⟩, hb3⟩ := hb
          have hzk : (cells z).length = k := Nat.eq_of_beq_eq_true hb2
          have hls : len < sym := by
            rcases Nat.lt_or_ge len sym with h6 | h6
            · exact h6
            · rw [show capless len = true from Nat.ble_eq_true_of_le h6] at hb3; cases hb3
          split at h
          · rename_i ps hps
            split at h
            · rename_i cs hcs
              simp only [ho]
              obtain ⟨R, hR, hv⟩ := fill_sound parts.toList hps (fun p hm => hr p.2 (by
                simp only [ho, Op.operands, List.mem_toArray, List.mem_map]
                exact ⟨p, hm, rfl⟩)) (VRs.reps (VRs.refl_cells (zero_flat hz)) len) hcs
              have hlen := (thenRow_some h).2.1
              refine lay (cap := len) (ty := el) h hk hv (Nat.le_refl _) (by rw [← hv.1, hlen]; exact Nat.le_refl _) ?_ (fun id _ => slV id len len (Nat.le_refl _) hls)
              have e : (parts.map fun x => (x.1, A x.2)) = ⟨parts.toList.map fun p => (p.1, A p.2)⟩ := by apply Array.ext'; simp
              rw [e]
              unfold Instr.buildSlice
              rw [map_ok _ (run_underlying hu w)]
              dsimp only
              rw [map_ok _ (size_run hk w)]
              rw [if_neg (by omega)]
              by_cases h0 : len * k = 0
              · rw [if_pos h0]
                rw [map_ok (a := #[]) _ rfl]
                have er : reps len (cells z) = [] := List.eq_nil_of_length_eq_zero (by rw [reps_length, hzk]; exact h0)
                rw [er] at hR
                simp only [h0]
                rw [show ((Array.range 0).map fun i => (#[] : Array Value)[i % (#[] : Array Value).size]!) = ⟨[]⟩ from by apply Array.ext'; simp]
                rw [hR]
                dsimp only
                rw [map_ok' _ (newRun el R)]; rfl
              · rw [if_neg h0]
                rw [map_ok _ (zero_run hz w)]
                rw [map_ok (a := z.cells) _ rfl]
                rw [zc]
                have hsz : (⟨cells z⟩ : Array Value).size = k := hzk
                rw [hsz, ← hzk, range_reps _ _ (fun j _ e => h0 (by rw [← hzk, e]; simp))]
                rw [hzk]
                rw [hR]
                dsimp only
                rw [map_ok' _ (newRun el R)]; rfl
            · cases h
          · cases h
      · cases hn; cases h
    · cases hn; cases h
  · rename_i t l c ho
    split at hn
    · rename_i el hu
      split at hn
      · rename_i z inf hz hinf
        cases hb : (Nat.ble inf.bytes 16777216 && Nat.beq (cells z).length inf.size) with
        | false => rw [hb] at hn; cases hn; cases h
        | true =>
          rw [hb] at hn
          cases hn
          dsimp only at h
          simp only [Bool.and_eq_true, Nat.ble_eq] at hb
          have hzk : (cells z).length = inf.size := Nat.eq_of_beq_eq_true hb.2
          have hL := hr l (by simp [ho, Op.operands])
          have hC := hr c (by simp [ho, Op.operands])
          obtain ⟨q1, ln, e1, e2, h⟩ := nat_inv h hL
          obtain ⟨q2, cp, e3, e4, h⟩ := nat_inv h hC
          cases hb2 : (Nat.ble ln cp && Nat.ble cp 16777216) with
          | false => rw [hb2] at h; cases h
          | true =>
            rw [hb2] at h
            simp only [cond_true, fN_eq] at h
            simp only [Bool.and_eq_true, Nat.ble_eq] at hb2
            simp only [ho]
            have hk : size? P el = some inf.size := by unfold size?; rw [hinf]
            refine lay (cap := cp) (ty := el) h hk (VRs.reps (VRs.refl_cells (zero_flat hz)) cp) (Nat.le_refl _) (by rw [reps_length, hzk]; exact Nat.le_refl _) ?_ (fun id _ => slV id cp ln hb2.1 (by unfold sym; omega))
            rw [e2, e4]
            unfold Instr.makeSlice
            rw [map_ok _ (run_underlying hu w)]
            dsimp only
            rw [map_ok (a := (ln : Int)) _ rfl, map_ok (a := (cp : Int)) _ rfl, map_ok _ (info_run hinf w)]
            have w1 : IntKind.i64.wrap (ln : Int) = ln := IntWalk.i64_in _ (by omega)
            have w2 : IntKind.i64.wrap (cp : Int) = cp := IntWalk.i64_in _ (by omega)
            have hbig : inf.bytes * cp ≤ 2 ^ 48 := Nat.le_trans (Nat.mul_le_mul hb.1 hb2.2) (by decide)
            have hbig' : ¬ ((inf.bytes : Int) * (cp : Int) > 2 ^ 48) := by
              have : ((inf.bytes * cp : Nat) : Int) ≤ ((2 ^ 48 : Nat) : Int) := Int.ofNat_le.2 hbig
              simp only [Int.natCast_mul] at this
              have e : ((2 ^ 48 : Nat) : Int) = (2 : Int) ^ 48 := by simp
              rw [e] at this; omega
            rw [w1, w2]
            have hc0 : (decide ((cp : Int) < 0)) = false := by simp
            have hl0 : (decide ((ln : Int) < 0)) = false := by simp
            have hlc : (decide ((ln : Int) > (cp : Int))) = false := by simp; omega
            simp only [hc0, hl0, hlc, decide_eq_false hbig', Bool.or_false, Bool.false_eq_true, if_false, Int.toNat_natCast]
            have hask : ∀ n, (askRoom n).run P w = .ok () w := fun n => by unfold askRoom; split <;> rfl
            rw [map_ok _ (hask _), map_ok _ (size_run hk w)]
            by_cases h0 : cp * inf.size = 0
            · rw [if_pos h0, map_ok (a := #[]) _ rfl]
              have er : reps cp (cells z) = [] := List.eq_nil_of_length_eq_zero (by rw [reps_length, hzk]; exact h0)
              rw [er, h0]
              rw [show ((Array.range 0).map fun i => (#[] : Array Value)[i % (#[] : Array Value).size]!) = ⟨[]⟩ from by apply Array.ext'; simp]
              rw [map_ok' _ (newRun el [])]; rfl
            · rw [if_neg h0, map_ok _ (zero_run hz w), map_ok (a := z.cells) _ rfl, zc]
              have hsz : (⟨cells z⟩ : Array Value).size = inf.size := hzk
              rw [hsz, ← hzk, range_reps _ _ (fun j _ e => h0 (by rw [← hzk, e]; simp))]
              rw [map_ok' _ (newRun el _)]; rfl
      · cases hn; cases h
    · cases hn; cases h
  · rename_i t rs ho
    split at hn
    · rename_i kt et hu
      cases hn
      simp only [Option.some.injEq, Prod.mk.injEq] at h
      obtain ⟨rfl, rfl⟩ := h
      simp only [ho]
      refine ⟨.map (some w.heap.size), 0, w.alloc (.map #[] 0), _, vrun' ?_, Grew.alloc w _, rfl, rfl, rfl, fun id hid => ⟨⟨#[], by simpa using (Grew.alloc w _).new, rfl, fun k e E h1 => by simp at h1⟩, .map (p := ⟨w.heap.size, 0, 0⟩) (Mp.with_same _ _ _)⟩⟩
      unfold Instr.makeMap
      simp only [Option.map_none]
      rw [map_ok' _ (run_newObj_alloc P w _)]; rfl
    · cases hn; cases h
  · rename_i s d x ho
    split at hn
    · rename_i el hs hd
      split at hn
      · rename_i hel hk
        cases hn
        dsimp only at h
        split at h
        · rename_i b hb
          cases hbs : Nat.ble b.size 16777216 with
          | false => rw [hbs] at h; cases h
          | true =>
            rw [hbs] at h
            simp only [cond_true, fN_eq] at h
            simp only [ho]
            have hX := hr x (by simp [ho, Op.operands])
            rw [hb] at hX
            have hX := hX.str_inv
            have hbn : b.size ≤ 16777216 := Nat.le_of_ble_eq_true hbs
            obtain ⟨e1, e2, rfl, rfl⟩ := thenRow_some h
            obtain ⟨C, hC⟩ : ∃ C, (Question.appendCap b.size 0 el).cut (w.tape w.drawn (.appendCap b.size 0 el)) = C := ⟨_, rfl⟩
            have hCb : b.size ≤ C := by rw [← hC]; exact Nat.le_add_right _ _
            obtain ⟨L, hL⟩ : ∃ L : List Value, L = b.data.toList.map fun c => Value.int .u8 (c.toNat : Int) := ⟨_, rfl⟩
            have hLl : L.length = b.size := by rw [hL, List.length_map]; rfl
            obtain ⟨w1, hw1⟩ : ∃ w1, w1 = w.drew.alloc (.cells ⟨L ++ List.replicate (C - b.size) (.int .u8 0)⟩ el) := ⟨_, rfl⟩
            have g1 : Grew w w1 (.cells ⟨L ++ List.replicate (C - b.size) (.int .u8 0)⟩ el) := by rw [hw1]; have g := Grew.alloc w.drew (.cells ⟨L ++ List.replicate (C - b.size) (.int .u8 0)⟩ el); exact ⟨g.os, g.tape, g.output, g.size, g.old, g.new⟩
            have hsz : (L ++ List.replicate (C - b.size) (Value.int .u8 0)).length = C := by simp [hLl]; omega
            obtain ⟨w2, hw2⟩ : ∃ w2, w2 = w1.freeze ⟨w.heap.size, C, none⟩ 1 := ⟨_, rfl⟩
            have g2 : Grew w w2 (.cells ⟨L ++ List.replicate (C - b.size) (.int .u8 0)⟩ el (C, C + 1)) := by
              have hh : w2.heap = w1.heap.modify w.heap.size fun
                  | .cells c elem (lo, hi) => .cells c elem (if lo == hi then (C, C + 1) else (min lo C, max hi (C + 1)))
                  | o => o := by rw [hw2]; rfl
              refine ⟨by rw [hw2]; exact g1.os, by rw [hw2]; exact g1.tape, by rw [hw2]; exact g1.output, by rw [hh]; simpa using g1.size, fun k hk' => ?_, ?_⟩
              · rw [hh, Array.getElem?_modify, if_neg (by omega)]; exact g1.old k hk'
              · rw [hh, Array.getElem?_modify, if_pos rfl, g1.new]; rfl
            refine ⟨.slice (some ⟨w.heap.size, 0, none⟩) b.size C, C, w2, _, vrun' ?_, g2, rfl, rfl, rfl, fun id hid => ⟨?_, ?_⟩⟩
            · rw [hX]
              unfold convert
              rw [map_ok _ (run_underlying hs w), map_ok _ (run_underlying hd w)]
              dsimp only
              rw [map_ok _ (run_underlying hel w)]
              dsimp only
              unfold Conv.stringToBytes
              have hch : (choose (.appendCap b.size 0 el)).run P w = .ok C w.drew := by rw [run_choose_drew]; simp only [Question.forced, Bool.false_eq_true, if_false, hC]
              rw [map_ok' _ hch]
              have hel2 : (b.data.map fun b => Value.int .u8 b.toNat) ++ Array.replicate (C - b.size) (.int .u8 0) = ⟨L ++ List.replicate (C - b.size) (.int .u8 0)⟩ := by apply Array.ext'; simp [hL]
              dsimp only
              rw [hel2]
              have hnr : (Go.newRow el ⟨L ++ List.replicate (C - b.size) (.int .u8 0)⟩).run P w.drew = .ok ⟨w.heap.size, 0, none⟩ w1 := by
                unfold Go.newRow
                rw [map_ok' _ (run_newObj_alloc P w.drew _), hw1]; rfl
              rw [map_ok' _ hnr]
              have hms : (markStringish ⟨w.heap.size, 0, none⟩).run P w1 = .ok () w2 := by
                unfold markStringish
                have hsh : (shape w.heap.size).run P w1 = .ok (some (el, C)) w1 := by
                  show Result.ok (w1.shape? w.heap.size) w1 = _
                  unfold World.shape?
                  rw [g1.new]
                  simp only
                  rw [show (⟨L ++ List.replicate (C - b.size) (Value.int .u8 0)⟩ : Array Value).size = C from hsz]
                rw [map_ok' _ hsh, hw2]; rfl
              rw [map_ok' _ hms]; rfl
            · refine OM.fresh (more := List.replicate (C - b.size) (.int .u8 0)) (CS := L) e1 e2 ?_ hk (by omega) (by simp [hLl]; omega) g2.new (.inr ⟨by simp [hLl]; omega, by simp⟩)
              · rw [hL]
                exact VRs.map fun c _ => .leaf rfl
            · exact .sl' (Mp.with_same _ _ _) (by simp) (by rw [capOf_ge (Nat.le_refl _)]; simp) hCb
        · cases h
      · cases hn; cases h
    · cases hn; cases h
  · cases hn; cases h
end
end Go.Proofs.YthelmobipjekjaaGreat.Ev
