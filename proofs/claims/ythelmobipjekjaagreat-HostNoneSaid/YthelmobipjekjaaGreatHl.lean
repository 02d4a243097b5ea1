/- What the runner's operations on memory give, the model's give. -/
import Derived.Test.YthelmobipjekjaaGreatHk
import Derived.Laws.BytesString
import Derived.Laws.IdiomCopy
import Derived.Laws.Rows
import Derived.Below
import Derived.WalkKit
set_option linter.unusedVariables false
set_option linter.unusedSimpArgs false
namespace Go.Proofs.YthelmobipjekjaaGreat.Ev
open Go Go.RowKit
/-! ### operations that write -/
section
variable {P : Program} {μ : Mp} {m : Me} {w : World}
theorem Does.next {v : Value} {m' : Me} {s : Sem Value} (h : Does P μ m w v m' s) : ∃ ν V w', (do pure (Next.value (← s)) : Sem Next).run P w = .ok (.value V) w' ∧ VR ν v V ∧ HR P ν m' w' ∧ Ext μ m w ν m' w' := by
  obtain ⟨ν, V, w', h1, h2⟩ := h
  exact ⟨ν, V, w', vrun' h1, h2⟩
theorem first_zero {k : Nat} {X : Value} {A : Option Addr} {l c : Nat} (hX : X = .slice A l c) : ∀ n, n * k = 0 → (Builtin.firstCells k n X).run P w = .ok #[] w := by
  intro n hn
  subst hX
  unfold Builtin.firstCells
  cases A with
  | none => rfl
  | some A => simp only [hn]; simpa using run_loadCells_list (P := P) w A [] (by simp)
theorem writeK_spot {β : Type} {b o s : Nat} {vs : List Value} {k : Me → Option β} {r : β} (h : writeK m ⟨b, o, some s⟩ vs k = some r) : False := by
  cases m; cases h
theorem copy_sound {ats : Array TypeId} {ty t el k : Nat} {x X y Y v : Value} {m' : Me} (h0 : ats[0]? = some t) (hu : P.underlying t = some (.slice el)) (hk : size? P el = some k) (h : copyV k x y m = some (v, m')) (hm : HR P μ m w) (hX : VR μ x X) (hY : VR μ y Y) :
    Does P μ m w v m' (Builtin.copy_ ats ty #[X, Y]) := by
  have base : ∀ {B : Option Addr} {dl C n : Nat} {L : List Value} {w' : World} {sl : Nat}, X = .slice B dl C → (Builtin.lenOf Y).run P w = .ok sl w → n = Nat.min sl dl → (Builtin.firstCells k n Y).run P w = .ok ⟨L⟩ w →
      (match B with | some a => storeCells a L | none => pure ()).run P w = .ok () w' → (Builtin.copy_ ats ty #[X, Y]).run P w = .ok (.int .i64 (n : Int)) w' := by
    intro B dl C n L w' sl hXe hl hn hf hs
    unfold Builtin.copy_
    simp only [h0, List.getElem?_toArray, List.getElem?_cons_zero, List.getElem?_cons_succ, hXe]
    rw [map_ok _ (run_underlying hu w)]
    dsimp only
    rw [map_ok _ hl, map_ok _ (size_run hk w), ← hn, map_ok _ hf]
    cases B with
    | none => have : w = w' := by simpa using hs
              subst this; rfl
    | some a => dsimp only; rw [map_ok' _ hs]; rfl
  unfold copyV at h
  split at h
  · rename_i dst dl cp
    obtain ⟨B, C, hXe⟩ : ∃ B C, X = .slice B dl C := by
      cases dst with
      | none => exact ⟨_, _, hX.of_flat rfl⟩
      | some a =>
        obtain ⟨A, C, e⟩ := hX.slsome
        exact ⟨_, _, e⟩
    split at h
    · rename_i src sl cs
      dsimp only at h
      obtain ⟨B2, C2, hYe⟩ : ∃ B C, Y = .slice B sl C := by
        cases src with
        | none => exact ⟨_, _, hY.of_flat rfl⟩
        | some a =>
          obtain ⟨A, C, e⟩ := hY.slsome
          exact ⟨_, _, e⟩
      have hl : (Builtin.lenOf Y).run P w = .ok sl w := by rw [hYe]; rfl
      cases hz : Nat.beq (Nat.min sl dl * k) 0 with
      | true =>
        rw [hz] at h
        simp only [cond_true, Option.some.injEq, Prod.mk.injEq] at h
        obtain ⟨rfl, rfl⟩ := h
        refine ⟨μ, _, w, base (L := []) (w' := w) hXe hl rfl (first_zero hYe _ (Nat.eq_of_beq_eq_true hz)) (by cases B <;> rfl), .leaf rfl, hm, Ext.refl _ _ _⟩
      | false =>
        rw [hz] at h
        simp only [cond_false] at h
        split at h
        · rename_i b a
          obtain ⟨bb, o, cc, rl, el', an, fz, rfl, hbb, h⟩ := rowThen_some h
          split at h
          · rename_i l hl2
            rcases hY.sl_inv with ⟨p, _, hp, _, e2⟩ | ⟨e2, _⟩
            · rcases hX.sl_inv with ⟨q, has, hq, _, e3⟩ | ⟨e3, _⟩
              · obtain ⟨L, k1, k2, k3⟩ := (hm.row hbb hp).cells hl2
                obtain ⟨m1, w', j1, j2, j3, j4, j5⟩ := write_sound h hm hq k1
                simp only [Option.some.injEq, Prod.mk.injEq] at j1
                obtain ⟨rfl, rfl⟩ := j1
                refine ⟨μ, _, w', base (L := L) e3 hl rfl ?_ ?_, .leaf rfl, j4, j5⟩
                · rw [e2]
                  unfold Builtin.firstCells
                  have := run_loadCells_list (P := P) w ⟨p.blk, p.base + o, none⟩ L k3
                  simp only [← k2]
                  exact this
                · exact j3
              · subst e3
                exact (writeK_spot h).elim
            · cases e2
          · cases h
        · cases h
    · rename_i s
      dsimp only at h
      have hYe := hY.str_inv
      have hl : (Builtin.lenOf Y).run P w = .ok s.size w := by rw [hYe]; rfl
      have hfc : (Builtin.firstCells k (Nat.min s.size dl) Y).run P w = .ok ⟨(s.data.toList.take (Nat.min s.size dl)).map fun b => .int .u8 (b.toNat : Int)⟩ w := by
        rw [hYe]
        unfold Builtin.firstCells
        show Result.ok _ w = _
        congr 1
        apply Array.ext'
        simp [ByteArray.data_extract, List.extract_eq_take_drop]
      cases hz : Nat.beq (Nat.min s.size dl) 0 with
      | true =>
        rw [hz] at h
        simp only [cond_true, Option.some.injEq, Prod.mk.injEq] at h
        obtain ⟨rfl, rfl⟩ := h
        have hz := Nat.eq_of_beq_eq_true hz
        rw [hz] at hfc
        refine ⟨μ, _, w, base (L := []) (w' := w) hXe hl rfl ?_ (by cases B <;> rfl), .leaf rfl, hm, Ext.refl _ _ _⟩
        rw [hz]; simpa using hfc
      | false =>
        rw [hz] at h
        simp only [cond_false] at h
        cases hk1 : Nat.beq k 1 with
        | false => rw [hk1] at h; cases h
        | true =>
          rw [hk1] at h
          simp only [cond_true] at h
          split at h
          · rename_i a
            rcases hX.sl_inv with ⟨q, has, hq, _, e3⟩ | ⟨e3, _⟩
            · obtain ⟨m1, w', j1, j2, j3, j4, j5⟩ := write_sound h hm hq (VS := (s.data.toList.take (Nat.min s.size dl)).map fun b => .int .u8 (b.toNat : Int)) (VRs.map fun c _ => .leaf rfl)
              simp only [Option.some.injEq, Prod.mk.injEq] at j1
              obtain ⟨rfl, rfl⟩ := j1
              exact ⟨μ, _, w', base e3 hl rfl hfc j3, .leaf rfl, j4, j5⟩
            · subst e3
              exact (writeK_spot h).elim
          · cases h
    · cases h
  · cases h
theorem clear_sound {ats : Array TypeId} {ty t el : Nat} {x X v z : Value} {m' : Me} (h0 : ats[0]? = some t) (hu : P.underlying t = some (.slice el)) (hz : zero? P el = some z) (h : clearV (cells z) x m = some (v, m')) (hm : HR P μ m w) (hX : VR μ x X) :
    Does P μ m w v m' (Builtin.clear_ ats ty #[X]) := by
  have zc : z.cells = ⟨cells z⟩ := by apply Array.ext'; rw [cells_eq]
  unfold clearV at h
  split at h
  · simp only [Option.some.injEq, Prod.mk.injEq] at h
    obtain ⟨rfl, rfl⟩ := h
    refine ⟨μ, _, w, ?_, .flat rfl, hm, Ext.refl _ _ _⟩
    rw [hX.of_flat rfl]
    unfold Builtin.clear_
    simp only [h0, List.getElem?_toArray, List.getElem?_cons_zero]
    rw [map_ok _ (run_underlying hu w)]; rfl
  · rename_i a n c
    obtain ⟨A, C, e⟩ := hX.slsome
    cases hz0 : Nat.beq n 0 with
    | true =>
      rw [hz0] at h
      simp only [cond_true, Option.some.injEq, Prod.mk.injEq] at h
      obtain ⟨rfl, rfl⟩ := h
      refine ⟨μ, _, w, ?_, .flat rfl, hm, Ext.refl _ _ _⟩
      rw [e, Nat.eq_of_beq_eq_true hz0]
      unfold Builtin.clear_
      simp only [h0, List.getElem?_toArray, List.getElem?_cons_zero]
      rw [map_ok _ (run_underlying hu w)]; rfl
    | false =>
      rw [hz0] at h
      simp only [cond_false] at h
      rcases hX.sl_inv with ⟨q, has, hq, _, e3⟩ | ⟨e3, _⟩
      · obtain ⟨m1, w', j1, j2, j3, j4, j5⟩ := write_sound h hm hq (VRs.reps (VRs.refl_cells (zero_flat hz)) n)
        simp only [Option.some.injEq, Prod.mk.injEq] at j1
        obtain ⟨rfl, rfl⟩ := j1
        refine ⟨μ, _, w', ?_, .flat rfl, j4, j5⟩
        rw [e3]
        unfold Builtin.clear_
        simp only [h0, List.getElem?_toArray, List.getElem?_cons_zero]
        rw [map_ok _ (run_underlying hu w)]
        cases n with
        | zero => cases hz0
        | succ n =>
          show (do let zz ← zeroValue el
                   storeCells ⟨q.blk, q.base + a.off, none⟩ (Builtin.zeroCells zz.cells (n + 1)).toList
                   pure (Value.tuple #[]) : Sem Value).run P w = _
          rw [map_ok _ (zero_run hz w), zc, zeroCells_eq, map_ok' _ j3]; rfl
      · subst e3
        exact (writeK_spot h).elim
  · cases h
end
section
variable {P : Program} {μ : Mp} {m : Me} {w : World}
theorem storeVar_run {t k : Nat} {A : Addr} {V : Value} {w' : World} (hk : size? P t = some k) (hl : (cells V).length = k) (h : (storeCells A (cells V)).run P w = .ok () w') : (storeVar t A V).run P w = .ok () w' := by
  unfold storeVar
  rw [map_ok _ (size_run hk w)]
  have e : V.cells.size = k := by rw [← Array.length_toList, cells_eq, hl]
  rw [if_neg (by simp [e]), cells_eq]
  exact h
theorem isInt_or {u : Nat} {d : TypeDesc} (hd : P.underlying u = some d) : (isIntT P u = false ∧ ∀ k, d ≠ .int k) ∨ (isIntT P u = true ∧ ∃ k, d = .int k) := by
  unfold isIntT
  rw [hd]
  cases d <;> first | exact .inr ⟨rfl, _, rfl⟩ | exact .inl ⟨rfl, fun _ e => by cases e⟩
theorem modify_get {α : Type} (f : α → α) (j : Nat) (l : List α) (k : Nat) : (l.modify j f)[k]? = if j = k then (l[k]?).map f else l[k]? := by
  rw [List.getElem?_modify]
  split <;> simp_all
theorem sameBits_int (n : Nat) (p : IntKind) (a : Int) : Instr.sameBits n (.int p a) (.int p a) = true := by
  cases n <;> simp [Instr.sameBits]
theorem update_sound {t kt et : Nat} {ik : IntKind} {x X kk KK y Y v : Value} {m' : Me} (hu : P.underlying t = some (.map kt et)) (hk : P.underlying kt = some (.int ik)) (hm : HR P μ m w) (hX : VR μ x X) (hK : VR μ kk KK) (hY : VR μ y Y)
    (h : (mapThen m.h x fun r es cl => match kk with
        | .int p i => match findL p i es 0 with
          | some (some (j, _)) => m.put r (.mp (es.modify j fun e => (.int p i, y, e.2.2)) cl) fun m => some (undef, m)
          | some none => m.put r (.mp (es ++ [(.int p i, y, cl)]) (cl + 1)) fun m => some (undef, m)
          | none => none
        | _ => none) = some (v, m')) :
    v = undef ∧ ∃ w', (Instr.mapUpdate t X KK Y).run P w = .ok () w' ∧ HR P μ m' w' ∧ Ext μ m w μ m' w' := by
  obtain ⟨r, es, cl, rfl, hr, h⟩ := mapThen_some h
  obtain ⟨p, hp, rfl⟩ := hX.map_inv
  obtain ⟨ES, hb, hsz, hes⟩ := hm.mp hr hp
  split at h
  · rename_i q i _
    rw [hK.int_inv]
    have hkey : ∀ (k : Nat) (e : Value × Value × Nat) (E : MapEntry), es[k]? = some e → ES.toList[k]? = some E → E.key = e.1 := fun k e E h1 h2 => (hes k e E h1 (by simpa using h2)).1
    have hgo : (getObj p.blk).run P w = .ok (.map ES cl) w := by simp [getObj, Sem.run, hb]
    have hset : ∀ o, (setObj p.blk o).run P w = .ok () { w with heap := w.heap.setIfInBounds p.blk o } := fun o => MapKept.run_setObj_map o hb
    have hbl : p.blk < w.heap.size := (Array.getElem?_eq_some_iff.1 hb).1
    have fin : ∀ (es' : List (Value × Value × Nat)) (cl' : Nat) (ES' : Array MapEntry), OM P μ p { w with heap := w.heap.setIfInBounds p.blk (.map ES' cl') } (.mp es' cl') → m' = .mk (m.h.put r (.mp es' cl')) m.n →
        HR P μ m' { w with heap := w.heap.setIfInBounds p.blk (.map ES' cl') } ∧ Ext μ m w μ m' { w with heap := w.heap.setIfInBounds p.blk (.map ES' cl') } := by
      intro es' cl' ES' ho hm'
      rw [hm']
      exact hm.change hr rfl rfl rfl hp ho rfl (fun b hb => by show (w.heap.setIfInBounds p.blk _)[b]? = _; rw [Array.getElem?_setIfInBounds_ne (fun e => hb e.symm)]) (by simp) rfl rfl rfl
    have at_ : ∀ (ES' : Array MapEntry) (cl' : Nat), ({ w with heap := w.heap.setIfInBounds p.blk (.map ES' cl') } : World).heap[p.blk]? = some (.map ES' cl') := fun ES' cl' => by
      show (w.heap.setIfInBounds p.blk _)[p.blk]? = _
      rw [Array.getElem?_setIfInBounds_self_of_lt hbl]
    have base : ∀ (r : Option (Nat × Value)), Instr.findNow (.int ik) (.int q i) ES.toList 0 = some r → ∀ {res : Result Unit}, (match r with
          | some (j, _) => do
            let key ← Instr.keyThatStays (((ES[j]?).map (·.key)).getD (.int q i)) (.int q i)
            setObj p.blk (.map (ES.modify j fun e => { e with key, val := Y }) cl)
          | none => setObj p.blk (.map (ES.push { key := .int q i, val := Y, born := cl }) (cl + 1)) : Sem Unit).run P w = res → (Instr.mapUpdate t (.map (some p.blk)) (.int q i) Y).run P w = res := by
      intro r hf res hres
      unfold Instr.mapUpdate
      rw [map_ok _ (run_underlying hu w)]
      dsimp only
      rw [map_ok _ hgo]
      dsimp only
      rw [map_ok _ (checkKey_int hk q i 9999 w)]
      have hfk : (Instr.findKey kt (.int q i) ES.toList).run P w = .ok r w := by
        unfold Instr.findKey
        rw [map_ok _ (run_underlying hk w)]
        simp only [hf]; rfl
      rw [map_ok _ hfk]
      exact hres
    split at h
    · rename_i j u hf
      rw [Me.put_eq] at h
      simp only [Option.some.injEq, Prod.mk.injEq] at h
      obtain ⟨rfl, hm'⟩ := h
      obtain ⟨_, e', E', h2, h3, h4, h4', h5⟩ := findL_spec hf ES.toList (.int ik) ⟨ik, rfl⟩ hkey (by simpa using hsz.symm)
      have hEj : ES[j]? = some E' := by simpa using h3
      have hEk : E'.key = .int q i := by rw [(hes _ e' E' (by simpa using h2) hEj).1, h4']
      obtain ⟨ES', hES'⟩ : ∃ ES', ES' = ES.modify j fun e => { e with key := .int q i, val := Y } := ⟨_, rfl⟩
      obtain ⟨z1, z2⟩ := fin (es.modify j fun e => (.int q i, y, e.2.2)) cl ES' ⟨ES', at_ _ _, by rw [hES']; simp [hsz], fun k e E k1 k2 => by
        rw [modify_get] at k1
        rw [hES', Array.getElem?_modify] at k2
        by_cases hjk : j = k
        · subst hjk
          rw [if_pos rfl] at k1
          rw [if_pos rfl, hEj] at k2
          have h2' : es[j]? = some e' := by simpa using h2
          rw [h2'] at k1
          cases k1; cases k2
          exact ⟨rfl, rfl, hY, (hes j e' E' h2' hEj).2.2.2⟩
        · rw [if_neg hjk] at k1 k2
          exact hes k e E k1 k2⟩ hm'.symm
      refine ⟨rfl, _, base _ h5 ?_, z1, z2⟩
      dsimp only
      rw [hEj]
      simp only [Option.map_some, Option.getD_some, hEk]
      have hks : (Instr.keyThatStays (.int q i) (.int q i)).run P w = .ok (.int q i) w := by
        unfold Instr.keyThatStays
        rw [sameBits_int]; rfl
      rw [map_ok _ hks, ← hES']
      exact hset _
    · rename_i hf
      rw [Me.put_eq] at h
      simp only [Option.some.injEq, Prod.mk.injEq] at h
      obtain ⟨rfl, hm'⟩ := h
      have h5 := findL_spec hf ES.toList (.int ik) ⟨ik, rfl⟩ hkey (by simpa using hsz.symm)
      obtain ⟨z1, z2⟩ := fin (es ++ [(.int q i, y, cl)]) (cl + 1) (ES.push { key := .int q i, val := Y, born := cl }) ⟨_, at_ _ _, by simp [hsz], fun k e E k1 k2 => by
        rw [Array.getElem?_push] at k2
        by_cases hk2 : k = ES.size
        · rw [if_pos hk2] at k2
          cases k2
          rw [List.getElem?_append_right (by omega), show k - es.length = 0 from by omega] at k1
          cases k1
          exact ⟨rfl, rfl, hY, rfl⟩
        · rw [if_neg hk2] at k2
          have hkl := (Array.getElem?_eq_some_iff.1 k2).1
          rw [List.getElem?_append_left (by omega)] at k1
          exact hes k e E k1 k2⟩ hm'.symm
      exact ⟨rfl, _, base _ h5 (hset _), z1, z2⟩
    · cases h
  · cases h
theorem eop_sound {o : Oper} {g : Ef} (he : eop P o = .mk g) {ρ A : Operand → Value} {v : Value} {m' : Me} (h : g ρ m = some (v, m')) (hr : OpR μ ρ A o) (hm : HR P μ m w) (hf : Free μ m.n m'.n) :
    ∃ ν w', ((∃ V, (execOp A o).run P w = .ok (.value V) w' ∧ VR ν v V) ∨ (v = undef ∧ (execOp A o).run P w = .ok .skip w')) ∧ HR P ν m' w' ∧ Ext μ m w ν m' w' := by
  have done : ∀ {s : Sem Value}, Does P μ m w v m' s → execOp A o = (do pure (Next.value (← s)) : Sem Next) → ∃ ν w', ((∃ V, (execOp A o).run P w = .ok (.value V) w' ∧ VR ν v V) ∨ (v = undef ∧ (execOp A o).run P w = .ok .skip w')) ∧ HR P ν m' w' ∧ Ext μ m w ν m' w' := by
    intro s hs he
    obtain ⟨ν, V, w', h1, h2, h3, h4⟩ := hs.next
    exact ⟨ν, w', .inl ⟨V, by rw [he]; exact h1, h2⟩, h3, h4⟩
  unfold OpR at hr
  unfold eop at he
  split at he
  · rename_i t x y ho
    split at he
    · rename_i k hk
      cases he
      dsimp only at h
      have hX := hr x (by simp [ho, Op.operands])
      have hY := hr y (by simp [ho, Op.operands])
      split at h
      · rename_i a ha
        rw [ha] at hX
        obtain ⟨p, hs, hp, e⟩ := hX.ptr_inv
        cases hc : Nat.beq (cells (ρ y)).length k with
        | false => rw [hc] at h; cases h
        | true =>
          rw [hc] at h
          simp only [cond_true] at h
          obtain ⟨m1, w', j1, j2, j3, j4, j5⟩ := write_sound h hm hp hY.cells
          simp only [Option.some.injEq, Prod.mk.injEq] at j1
          obtain ⟨rfl, rfl⟩ := j1
          refine ⟨μ, w', .inr ⟨rfl, ?_⟩, j4, j5⟩
          unfold execOp
          simp only [ho]
          rw [e]
          have : (storeVar t ⟨p.blk, p.base + a.off, none⟩ (A y)).run P w = .ok () w' := storeVar_run hk (by rw [← hY.cells.1]; exact Nat.eq_of_beq_eq_true hc) j3
          have h2 : (Instr.storeAt t (.pointer (some ⟨p.blk, p.base + a.off, none⟩)) (A y)).run P w = .ok () w' := this
          rw [map_ok' _ h2]; rfl
      · cases h
    · cases he; cases h
  · rename_i t x kk y ho
    split at he
    · rename_i kt et hu
      split at he
      · rename_i ik hk
        cases he
        dsimp only at h
        obtain ⟨rfl, w', h1, h2, h3⟩ := update_sound hu hk hm (hr x (by simp [ho, Op.operands])) (hr kk (by simp [ho, Op.operands])) (hr y (by simp [ho, Op.operands])) h
        refine ⟨μ, w', .inr ⟨rfl, ?_⟩, h2, h3⟩
        unfold execOp
        simp only [ho]
        rw [map_ok' _ h1]; rfl
      · cases he; cases h
    · cases he; cases h
  · rename_i s d x ho
    split at he
    · rename_i el1 el hs hd
      split at he
      · rename_i hel
        cases hsd : Nat.beq s d with
        | false => rw [hsd] at he; cases he; cases h
        | true =>
          rw [hsd] at he
          cases he
          dsimp only at h
          obtain rfl : s = d := Nat.eq_of_beq_eq_true hsd
          have hX := hr x (by simp [ho, Op.operands])
          unfold slThen at h
          split at h
          · rename_i a l c ha
            obtain ⟨b, off, cc, rl, re, an, fz, rfl, hb, h⟩ := rowThen_some h
            simp only [Option.some.injEq, Prod.mk.injEq] at h
            obtain ⟨rfl, rfl⟩ := h
            rw [ha] at hX
            rcases hX.sl_inv with ⟨p, _, hp, _, e⟩ | ⟨e, _⟩
            · obtain ⟨w', h1, h2, h3⟩ := hm.behind hb hp (p.base + off)
              refine done ⟨μ, A x, w', ?_, by rw [ha] at *; exact hX, h2, h3⟩ (by unfold execOp; simp only [ho]; rfl)
              unfold convert
              rw [map_ok _ (run_underlying hs w), map_ok _ (run_underlying hd w), e]
              dsimp only
              rw [map_ok _ (run_underlying hel w)]
              simp only [beq_self_eq_true]
              rw [map_ok' _ h1]; rfl
            · cases e
          · cases h
      · cases he; cases h
    · cases he; cases h
  · rename_i c ho
    have hargs : ∀ {x y : Operand} {b : Builtin}, c.callee = .builtin b → c.args.toList = [x, y] → VR μ (ρ x) (A x) ∧ VR μ (ρ y) (A y) := fun {x y b} hc ha => by
      have e : c.args = ⟨[x, y]⟩ := by apply Array.ext'; simpa using ha
      exact ⟨hr x (by simp [ho, Op.operands, Call.operands, hc, e]), hr y (by simp [ho, Op.operands, Call.operands, hc, e])⟩
    split at he
    · rename_i hc
      split at he
      · rename_i t u ts x y ht ha
        split at he
        · rename_i el du hu hd
          split at he
          · rename_i z inf hz hi
            cases hb : (!Nat.beq inf.bytes 0 && !Nat.beq inf.size 0 && Nat.ble inf.bytes 65536 && Nat.beq (cells z).length inf.size) with
            | false => rw [hb] at he; cases he; cases h
            | true =>
              rw [hb] at he
              cases he
              dsimp only at h
              simp only [Bool.and_eq_true, Nat.ble_eq, Bool.not_eq_true'] at hb
              obtain ⟨⟨⟨b1, b2⟩, b3⟩, b4⟩ := hb
              have ea : c.args = ⟨[x, y]⟩ := by apply Array.ext'; simpa using ha
              have e0 : c.argTypes[0]? = some t := by rw [← Array.getElem?_toList, ht]; rfl
              have e1 : c.argTypes[1]? = some u := by rw [← Array.getElem?_toList, ht]; rfl
              have hs := append_sound (ty := o.type) e0 e1 hu hd (isInt_or hd) hi rfl (fun e => by rw [e] at b2; cases b2) hz (Nat.eq_of_beq_eq_true b4) (fun e => by rw [e] at b1; cases b1) b3 h hm (hargs hc ha).1 (hargs hc ha).2 hf
              refine done hs ?_
              unfold execOp
              simp only [ho, resolve, hc, ea, List.map_toArray, List.map_cons, List.map_nil, pure_bind, invoke, builtin]
          · cases he; cases h
        · cases he; cases h
      · cases he; cases h
    · rename_i hc
      split at he
      · rename_i t ts x y ht ha
        split at he
        · rename_i el hu
          split at he
          · rename_i k hk
            cases he
            dsimp only at h
            have ea : c.args = ⟨[x, y]⟩ := by apply Array.ext'; simpa using ha
            have e0 : c.argTypes[0]? = some t := by rw [← Array.getElem?_toList, ht]; rfl
            have hs := copy_sound (ty := o.type) e0 hu hk h hm (hargs hc ha).1 (hargs hc ha).2
            refine done hs ?_
            unfold execOp
            simp only [ho, resolve, hc, ea, List.map_toArray, List.map_cons, List.map_nil, pure_bind, invoke, builtin]
          · cases he; cases h
        · cases he; cases h
      · cases he; cases h
    · rename_i hc
      split at he
      · rename_i t ts x ht ha
        split at he
        · rename_i el hu
          split at he
          · rename_i z hz
            cases he
            dsimp only at h
            have ea : c.args = ⟨[x]⟩ := by apply Array.ext'; simpa using ha
            have e0 : c.argTypes[0]? = some t := by rw [← Array.getElem?_toList, ht]; rfl
            have hs := clear_sound (ty := o.type) e0 hu hz h hm (hr x (by simp [ho, Op.operands, Call.operands, hc, ea]))
            refine done hs ?_
            unfold execOp
            simp only [ho, resolve, hc, ea, List.map_toArray, List.map_cons, List.map_nil, pure_bind, invoke, builtin]
          · cases he; cases h
        · cases he; cases h
      · cases he; cases h
    · cases he; cases h
  · cases he; cases h
end
end Go.Proofs.YthelmobipjekjaaGreat.Ev
