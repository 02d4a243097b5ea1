/- What the runner's operations on memory give, the model's give. -/
import Derived.Test.YthelmobipjekjaaGreatLk
import Derived.Laws.BytesString
import Derived.Laws.IdiomCopy
import Derived.Laws.Rows
import Derived.Below
import Derived.WalkKit
import Derived.RangeFuncRecord
set_option linter.unusedVariables false
set_option linter.unusedSimpArgs false
namespace Go.Proofs.YthelmobipjekjaaGreat.Ev
open Go Go.RowKit
/-! ### operations that write -/
section
variable {P : Program} {μ : Mp} {m : Me} {w : World}
theorem Does.next {v : Value} {m' : Me} {s : Sem Value} (h : Does P μ m w v m' s) : ∃ ν V w', (do pure (Next.value (← s)) : Sem Next).run P w = .ok (.value V) w' ∧ VR ν v V ∧ HR P ν m' w' ∧ Ext μ m w ν m' w' := by
  obtain ⟨ν, V, w', h1, h2⟩ := h
  exact ⟨ν, V, w', vrun' h1, h2⟩
theorem first_zero {k : Nat} {X : Value} {A : Option Addr} {l c : Nat} (hX : X = .slice A l c) : ∀ n, n * k = 0 → (Builtin.firstCells k n X).run P w = .ok #[] w := by
  intro n hn
  subst hX
  unfold Builtin.firstCells
  cases A with
  | none => rfl
  | some A => simp only [hn]; simpa using run_loadCells_list (P := P) w A [] (by simp)
theorem writeK_spot {β : Type} {b o s : Nat} {vs : List Value} {k : Me → Option β} {r : β} (h : writeK m ⟨b, o, some s⟩ vs k = some r) : False := by
  cases m; cases h
theorem copy_sound {ats : Array TypeId} {ty t el k : Nat} {x X y Y v : Value} {m' : Me} (h0 : ats[0]? = some t) (hu : P.underlying t = some (.slice el)) (hk : size? P el = some k) (h : copyV k x y m = some (v, m')) (hm : HR P μ m w) (hX : VR μ x X) (hY : VR μ y Y) :
    Does P μ m w v m' (Builtin.copy_ ats ty #[X, Y]) := by
  have base : ∀ {B : Option Addr} {dl C n : Nat} {L : List Value} {w' : World} {sl : Nat}, X = .slice B dl C → (Builtin.lenOf Y).run P w = .ok sl w → n = Nat.min sl dl → (Builtin.firstCells k n Y).run P w = .ok ⟨L⟩ w →
      (match B with | some a => storeCells a L | none => pure ()).run P w = .ok () w' → (Builtin.copy_ ats ty #[X, Y]).run P w = .ok (.int .i64 (n : Int)) w' := by
    intro B dl C n L w' sl hXe hl hn hf hs
    unfold Builtin.copy_
    simp only [h0, List.getElem?_toArray, List.getElem?_cons_zero, List.getElem?_cons_succ, hXe]
    rw [map_ok _ (run_underlying hu w)]
    dsimp only
    rw [map_ok _ hl, map_ok _ (size_run hk w), ← hn, map_ok _ hf]
    cases B with
    | none => have : w = w' := by simpa using hs
              subst this; rfl
    | some a => dsimp only; rw [map_ok' _ hs]; rfl
  unfold copyV at h
  split at h
  · rename_i dst dl cp
    obtain ⟨B, C, hXe⟩ : ∃ B C, X = .slice B dl C := by
      cases dst with
      | none => exact ⟨_, _, hX.of_flat rfl⟩
      | some a =>
        obtain ⟨A, C, e⟩ := hX.slsome
        exact ⟨_, _, e⟩
    split at h
    · rename_i src sl cs
      dsimp only at h
      obtain ⟨B2, C2, hYe⟩ : ∃ B C, Y = .slice B sl C := by
        cases src with
        | none => exact ⟨_, _, hY.of_flat rfl⟩
        | some a =>
          obtain ⟨A, C, e⟩ := hY.slsome
          exact ⟨_, _, e⟩
      have hl : (Builtin.lenOf Y).run P w = .ok sl w := by rw [hYe]; rfl
      cases hz : Nat.beq (Nat.min sl dl * k) 0 with
      | true =>
        rw [hz] at h
        simp only [cond_true, Option.some.injEq, Prod.mk.injEq] at h
        obtain ⟨rfl, rfl⟩ := h
        refine ⟨μ, _, w, base (L := []) (w' := w) hXe hl rfl (first_zero hYe _ (Nat.eq_of_beq_eq_true hz)) (by cases B <;> rfl), .leaf rfl, hm, Ext.refl _ _ _⟩
      | false =>
        rw [hz] at h
        simp only [cond_false] at h
        split at h
        · rename_i b a
          obtain ⟨bb, o, cc, rl, el', an, fz, rfl, hbb, h⟩ := rowThen_some h
          split at h
          · rename_i l hl2
            rcases hY.sl_inv with ⟨p, _, hp, _, e2⟩ | ⟨e2, _⟩
            · rcases hX.sl_inv with ⟨q, has, hq, _, e3⟩ | ⟨e3, _⟩
              · obtain ⟨L, k1, k2, k3⟩ := (hm.row hbb hp).cells hl2
                obtain ⟨m1, w', j1, j2, j3, j4, j5⟩ := write_sound h hm hq k1
                simp only [Option.some.injEq, Prod.mk.injEq] at j1
                obtain ⟨rfl, rfl⟩ := j1
                refine ⟨μ, _, w', base (L := L) e3 hl rfl ?_ ?_, .leaf rfl, j4, j5⟩
                · rw [e2]
                  unfold Builtin.firstCells
                  have := run_loadCells_list (P := P) w ⟨p.blk, p.base + o, none⟩ L k3
                  simp only [← k2]
                  exact this
                · exact j3
              · subst e3
                exact (writeK_spot h).elim
            · cases e2
          · cases h
        · cases h
    · rename_i s
      dsimp only at h
      have hYe := hY.str_inv
      have hl : (Builtin.lenOf Y).run P w = .ok s.size w := by rw [hYe]; rfl
      have hfc : (Builtin.firstCells k (Nat.min s.size dl) Y).run P w = .ok ⟨(s.data.toList.take (Nat.min s.size dl)).map fun b => .int .u8 (b.toNat : Int)⟩ w := by
        rw [hYe]
        unfold Builtin.firstCells
        show Result.ok _ w = _
        congr 1
        apply Array.ext'
        simp [ByteArray.data_extract, List.extract_eq_take_drop]
      cases hz : Nat.beq (Nat.min s.size dl) 0 with
      | true =>
        rw [hz] at h
        simp only [cond_true, Option.some.injEq, Prod.mk.injEq] at h
        obtain ⟨rfl, rfl⟩ := h
        have hz := Nat.eq_of_beq_eq_true hz
        rw [hz] at hfc
        refine ⟨μ, _, w, base (L := []) (w' := w) hXe hl rfl ?_ (by cases B <;> rfl), .leaf rfl, hm, Ext.refl _ _ _⟩
        rw [hz]; simpa using hfc
      | false =>
        rw [hz] at h
        simp only [cond_false] at h
        cases hk1 : Nat.beq k 1 with
        | false => rw [hk1] at h; cases h
        | true =>
          rw [hk1] at h
          simp only [cond_true] at h
          split at h
          · rename_i a
            rcases hX.sl_inv with ⟨q, has, hq, _, e3⟩ | ⟨e3, _⟩
            · obtain ⟨m1, w', j1, j2, j3, j4, j5⟩ := write_sound h hm hq (VS := (s.data.toList.take (Nat.min s.size dl)).map fun b => .int .u8 (b.toNat : Int)) (VRs.map fun c _ => .leaf rfl)
              simp only [Option.some.injEq, Prod.mk.injEq] at j1
              obtain ⟨rfl, rfl⟩ := j1
              exact ⟨μ, _, w', base e3 hl rfl hfc j3, .leaf rfl, j4, j5⟩
            · subst e3
              exact (writeK_spot h).elim
          · cases h
    · cases h
  · cases h
theorem clear_sound {ats : Array TypeId} {ty t el : Nat} {x X v z : Value} {m' : Me} (h0 : ats[0]? = some t) (hu : P.underlying t = some (.slice el)) (hz : zero? P el = some z) (h : clearV (cells z) x m = some (v, m')) (hm : HR P μ m w) (hX : VR μ x X) :
    Does P μ m w v m' (Builtin.clear_ ats ty #[X]) := by
  have zc : z.cells = ⟨cells z⟩ := by apply Array.ext'; rw [cells_eq]
  unfold clearV at h
  split at h
  · simp only [Option.some.injEq, Prod.mk.injEq] at h
    obtain ⟨rfl, rfl⟩ := h
    refine ⟨μ, _, w, ?_, .flat rfl, hm, Ext.refl _ _ _⟩
    rw [hX.of_flat rfl]
    unfold Builtin.clear_
    simp only [h0, List.getElem?_toArray, List.getElem?_cons_zero]
    rw [map_ok _ (run_underlying hu w)]; rfl
  · rename_i a n c
    obtain ⟨A, C, e⟩ := hX.slsome
    cases hz0 : Nat.beq n 0 with
    | true =>
      rw [hz0] at h
      simp only [cond_true, Option.some.injEq, Prod.mk.injEq] at h
      obtain ⟨rfl, rfl⟩ := h
      refine ⟨μ, _, w, ?_, .flat rfl, hm, Ext.refl _ _ _⟩
      rw [e, Nat.eq_of_beq_eq_true hz0]
      unfold Builtin.clear_
      simp only [h0, List.getElem?_toArray, List.getElem?_cons_zero]
      rw [map_ok _ (run_underlying hu w)]; rfl
    | false =>
      rw [hz0] at h
      simp only [cond_false] at h
      rcases hX.sl_inv with ⟨q, has, hq, _, e3⟩ | ⟨e3, _⟩
      · obtain ⟨m1, w', j1, j2, j3, j4, j5⟩ := write_sound h hm hq (VRs.reps (VRs.refl_cells (zero_flat hz)) n)
        simp only [Option.some.injEq, Prod.mk.injEq] at j1
        obtain ⟨rfl, rfl⟩ := j1
        refine ⟨μ, _, w', ?_, .flat rfl, j4, j5⟩
        rw [e3]
        unfold Builtin.clear_
        simp only [h0, List.getElem?_toArray, List.getElem?_cons_zero]
        rw [map_ok _ (run_underlying hu w)]
        cases n with
        | zero => cases hz0
        | succ n =>
          show (do let zz ← zeroValue el
                   storeCells ⟨q.blk, q.base + a.off, none⟩ (Builtin.zeroCells zz.cells (n + 1)).toList
                   pure (Value.tuple #[]) : Sem Value).run P w = _
          rw [map_ok _ (zero_run hz w), zc, zeroCells_eq, map_ok' _ j3]; rfl
      · subst e3
        exact (writeK_spot h).elim
  · cases h
end
section
variable {P : Program} {μ : Mp} {m : Me} {w : World}
theorem storeVar_run {t k : Nat} {A : Addr} {V : Value} {w' : World} (hk : size? P t = some k) (hl : (cells V).length = k) (h : (storeCells A (cells V)).run P w = .ok () w') : (storeVar t A V).run P w = .ok () w' := by
  unfold storeVar
  rw [map_ok _ (size_run hk w)]
  have e : V.cells.size = k := by rw [← Array.length_toList, cells_eq, hl]
  rw [if_neg (by simp [e]), cells_eq]
  exact h
theorem isInt_or {u : Nat} {d : TypeDesc} (hd : P.underlying u = some d) : (isIntT P u = false ∧ ∀ k, d ≠ .int k) ∨ (isIntT P u = true ∧ ∃ k, d = .int k) := by
  unfold isIntT
  rw [hd]
  cases d <;> first | exact .inr ⟨rfl, _, rfl⟩ | exact .inl ⟨rfl, fun _ e => by cases e⟩
theorem modify_get {α : Type} (f : α → α) (j : Nat) (l : List α) (k : Nat) : (l.modify j f)[k]? = if j = k then (l[k]?).map f else l[k]? := by
  rw [List.getElem?_modify]
  split <;> simp_all
theorem sameBits_int (n : Nat) (p : IntKind) (a : Int) : Instr.sameBits n (.int p a) (.int p a) = true := by
  cases n <;> simp [Instr.sameBits]
theorem update_sound {t kt et : Nat} {ik : IntKind} {x X kk KK y Y v : Value} {m' : Me} (hu : P.underlying t = some (.map kt et)) (hk : P.underlying kt = some (.int ik)) (hm : HR P μ m w) (hX : VR μ x X) (hK : VR μ kk KK) (hY : VR μ y Y)
    (h : (mapThen m.h x fun r es cl => match kk with
        | .int p i => match findL p i es 0 with
          | some (some (j, _)) => m.put r (.mp (es.modify j fun e => (.int p i, y, e.2.2)) cl) fun m => some (undef, m)
          | some none => m.put r (.mp (es ++ [(.int p i, y, cl)]) (cl + 1)) fun m => some (undef, m)
          | none => none
        | _ => none) = some (v, m')) :
    v = undef ∧ ∃ w', (Instr.mapUpdate t X KK Y).run P w = .ok () w' ∧ HR P μ m' w' ∧ Ext μ m w μ m' w' := by
  obtain ⟨r, es, cl, rfl, hr, h⟩ := mapThen_some h
  obtain ⟨p, hp, rfl⟩ := hX.map_inv
  obtain ⟨ES, hb, hsz, hes⟩ := hm.mp hr hp
  split at h
  · rename_i q i _
    rw [hK.int_inv]
    have hkey : ∀ (k : Nat) (e : Value × Value × Nat) (E : MapEntry), es[k]? = some e → ES.toList[k]? = some E → E.key = e.1 := fun k e E h1 h2 => (hes k e E h1 (by simpa using h2)).1
    have hgo : (getObj p.blk).run P w = .ok (.map ES cl) w := by simp [getObj, Sem.run, hb]
    have hset : ∀ o, (setObj p.blk o).run P w = .ok () { w with heap := w.heap.setIfInBounds p.blk o } := fun o => MapKept.run_setObj_map o hb
    have hbl : p.blk < w.heap.size := (Array.getElem?_eq_some_iff.1 hb).1
    have fin : ∀ (es' : List (Value × Value × Nat)) (cl' : Nat) (ES' : Array MapEntry), OM P μ p { w with heap := w.heap.setIfInBounds p.blk (.map ES' cl') } (.mp es' cl') → m' = .mk (m.h.put r (.mp es' cl')) m.n →
        HR P μ m' { w with heap := w.heap.setIfInBounds p.blk (.map ES' cl') } ∧ Ext μ m w μ m' { w with heap := w.heap.setIfInBounds p.blk (.map ES' cl') } := by
      intro es' cl' ES' ho hm'
      rw [hm']
      exact hm.change hr rfl rfl rfl hp ho rfl (fun b hb => by show (w.heap.setIfInBounds p.blk _)[b]? = _; rw [Array.getElem?_setIfInBounds_ne (fun e => hb e.symm)]) (by simp) rfl rfl rfl
    have at_ : ∀ (ES' : Array MapEntry) (cl' : Nat), ({ w with heap := w.heap.setIfInBounds p.blk (.map ES' cl') } : World).heap[p.blk]? = some (.map ES' cl') := fun ES' cl' => by
      show (w.heap.setIfInBounds p.blk _)[p.blk]? = _
      rw [Array.getElem?_setIfInBounds_self_of_lt hbl]
    have base : ∀ (r : Option (Nat × Value)), Instr.findNow (.int ik) (.int q i) ES.toList 0 = some r → ∀ {res : Result Unit}, (match r with
          | some (j, _) => do
            let key ← Instr.keyThatStays (((ES[j]?).map (·.key)).getD (.int q i)) (.int q i)
            setObj p.blk (.map (ES.modify j fun e => { e with key, val := Y }) cl)
          | none => setObj p.blk (.map (ES.push { key := .int q i, val := Y, born := cl }) (cl + 1)) : Sem Unit).run P w = res → (Instr.mapUpdate t (.map (some p.blk)) (.int q i) Y).run P w = res := by
      intro r hf res hres
      unfold Instr.mapUpdate
      rw [map_ok _ (run_underlying hu w)]
      dsimp only
      rw [map_ok _ hgo]
      dsimp only
      rw [map_ok _ (checkKey_int hk q i 9999 w)]
      have hfk : (Instr.findKey kt (.int q i) ES.toList).run P w = .ok r w := by
        unfold Instr.findKey
        rw [map_ok _ (run_underlying hk w)]
        simp only [hf]; rfl
      rw [map_ok _ hfk]
      exact hres
    split at h
    · rename_i j u hf
      rw [Me.put_eq] at h
      simp only [Option.some.injEq, Prod.mk.injEq] at h
      obtain ⟨rfl, hm'⟩ := h
      obtain ⟨_, e', E', h2, h3, h4, h4', h5⟩ := findL_spec hf ES.toList (.int ik) ⟨ik, rfl⟩ hkey (by simpa using hsz.symm)
      have hEj : ES[j]? = some E' := by simpa using h3
      have hEk : E'.key = .int q i := by rw [(hes _ e' E' (by simpa using h2) hEj).1, h4']
      obtain ⟨ES', hES'⟩ : ∃ ES', ES' = ES.modify j fun e => { e with key := .int q i, val := Y } := ⟨_, rfl⟩
      obtain ⟨z1, z2⟩ := fin (es.modify j fun e => (.int q i, y, e.2.2)) cl ES' ⟨ES', at_ _ _, by rw [hES']; simp [hsz], fun k e E k1 k2 => by
        rw [modify_get] at k1
        rw [hES', Array.getElem?_modify] at k2
        by_cases hjk : j = k
        · subst hjk
          rw [if_pos rfl] at k1
          rw [if_pos rfl, hEj] at k2
          have h2' : es[j]? = some e' := by simpa using h2
          rw [h2'] at k1
          cases k1; cases k2
          exact ⟨rfl, rfl, hY, (hes j e' E' h2' hEj).2.2.2⟩
        · rw [if_neg hjk] at k1 k2
          exact hes k e E k1 k2⟩ hm'.symm
      refine ⟨rfl, _, base _ h5 ?_, z1, z2⟩
      dsimp only
      rw [hEj]
      simp only [Option.map_some, Option.getD_some, hEk]
      have hks : (Instr.keyThatStays (.int q i) (.int q i)).run P w = .ok (.int q i) w := by
        unfold Instr.keyThatStays
        rw [sameBits_int]; rfl
      rw [map_ok _ hks, ← hES']
      exact hset _
    · rename_i hf
      rw [Me.put_eq] at h
      simp only [Option.some.injEq, Prod.mk.injEq] at h
      obtain ⟨rfl, hm'⟩ := h
      have h5 := findL_spec hf ES.toList (.int ik) ⟨ik, rfl⟩ hkey (by simpa using hsz.symm)
      obtain ⟨z1, z2⟩ := fin (es ++ [(.int q i, y, cl)]) (cl + 1) (ES.push { key := .int q i, val := Y, born := cl }) ⟨_, at_ _ _, by simp [hsz], fun k e E k1 k2 => by
        rw [Array.getElem?_push] at k2
        by_cases hk2 : k = ES.size
        · rw [if_pos hk2] at k2
          cases k2
          rw [List.getElem?_append_right (by omega), show k - es.length = 0 from by omega] at k1
          cases k1
          exact ⟨rfl, rfl, hY, rfl⟩
        · rw [if_neg hk2] at k2
          have hkl := (Array.getElem?_eq_some_iff.1 k2).1
          rw [List.getElem?_append_left (by omega)] at k1
          exact hes k e E k1 k2⟩ hm'.symm
      exact ⟨rfl, _, base _ h5 (hset _), z1, z2⟩
    · cases h
  · cases h
theorem range_sound' {t k e : Nat} {x X v : Value} {m' : Me} (hu : P.underlying t = some (.map k e)) (h : rangeV x m = some (v, m')) (hm : HR P μ m w) (hX : VR μ x X) (hf : Free μ m.n m'.n) : Does P μ m w v m' (Instr.range t X) := by
  have go : ∀ {mp : Option Nat} {mm : Option Nat} {cl : Nat}, ((mp = none ∧ mm = none) ∨ ∃ i q, mp = some i ∧ μ i = some q ∧ mm = some q.blk) → v = atPtr m.n → m' = .mk (m.h.put m.n (.it mp cl [] cl)) (m.n + 1) →
      (Instr.range t X).run P w = .ok (.pointer (some ⟨w.heap.size, 0, none⟩)) (w.alloc (.mapIter mm cl #[] cl)) → Does P μ m w v m' (Instr.range t X) := by
    intro mp mm cl hmp hv hm' hrun
    have hfree : μ m.n = none := hf m.n (Nat.le_refl _) (by rw [hm']; exact Nat.lt_succ_self _)
    have hg := Grew.alloc w (.mapIter mm cl #[] cl)
    obtain ⟨k1, k2⟩ := hm.grow hg (p := ⟨w.heap.size, 0, 0⟩) (ob := .it mp cl [] cl) rfl hfree rfl ⟨rfl, mm, hg.new, by
      rcases hmp with h | ⟨i, q, h1, h2, h3⟩
      · exact .inl h
      · exact .inr ⟨i, q, h1, Mp.le_with _ hfree _ _ h2, h3⟩⟩
    refine ⟨_, _, _, hrun, ?_, by rw [hm']; exact k1, by rw [hm']; exact k2⟩
    rw [hv]
    have := VR.ptr (μ := μ.with m.n ⟨w.heap.size, 0, 0⟩) (i := m.n) (o := 0) (Mp.with_same _ _ _)
    simpa [atPtr] using this
  have hnew : ∀ o, (newObj o).run P w = .ok w.heap.size (w.alloc o) := fun o => run_newObj_alloc P w o
  unfold rangeV at h
  split at h
  · rw [Me.new_eq] at h
    simp only [Option.some.injEq, Prod.mk.injEq] at h
    obtain rfl := hX.of_flat rfl
    refine go (mp := none) (mm := none) (cl := 0) (.inl ⟨rfl, rfl⟩) h.1.symm h.2.symm ?_
    unfold Instr.range
    rw [map_ok _ (run_underlying hu w)]
    dsimp only
    rw [map_ok _ rfl, map_ok' _ (hnew _)]; rfl
  · rename_i r
    split at h
    · rename_i _ es cl hr
      rw [Me.new_eq] at h
      simp only [Option.some.injEq, Prod.mk.injEq] at h
      obtain ⟨q, hq, rfl⟩ := hX.map_inv
      obtain ⟨ES, hb, _⟩ := hm.entries hr hq
      refine go (mp := some r) (mm := some q.blk) (cl := cl) (.inr ⟨r, q, rfl, hq, rfl⟩) h.1.symm h.2.symm ?_
      have k2 : (getObj q.blk).run P w = .ok (.map ES cl) w := by simp [getObj, Sem.run, hb]
      unfold Instr.range
      rw [map_ok _ (run_underlying hu w)]
      dsimp only
      refine (map_ok _ k2).trans ?_
      show (do let r ← newObj (.mapIter (some q.blk) cl #[] cl); pure (.pointer (some ⟨r, 0, none⟩)) : Sem Value).run P w = _
      rw [map_ok' _ (hnew _)]; rfl
    · cases h
  · cases h
theorem next_sound {ty : Nat} {x X v : Value} {m' : Me} (h : nextV x m = some (v, m')) (hm : HR P μ m w) (hX : VR μ x X) : Does P μ m w v m' (Instr.next X false ty) := by
  unfold nextV at h
  split at h
  · rename_i b
    split at h
    · rename_i since seen last hb
      simp only [Option.some.injEq, Prod.mk.injEq] at h
      obtain ⟨rfl, rfl⟩ := h
      obtain ⟨p, mm, hp, rfl, h1, h2⟩ := hm.iter hb hX
      rcases h2 with ⟨_, rfl⟩ | ⟨i, q, h2, _⟩
      · have k1 : (getObj p.blk).run P w = .ok (.mapIter none since ⟨seen⟩ last) w := by simp [getObj, Sem.run, h1]
        exact ⟨μ, .tuple #[.bool false], w, (map_ok _ k1).trans rfl, .tup (a := [.bool false]) (b := [.bool false]) rfl (VRs.cons (.leaf rfl) VRs.nil).2, hm, Ext.refl _ _ _⟩
      · cases h2
    · rename_i r since seen last hb
      split at h
      · rename_i es cl hr
        obtain ⟨p, mm, hp, rfl, h1, h2⟩ := hm.iter hb hX
        rcases h2 with ⟨h2, _⟩ | ⟨i, q, h2, hq, rfl⟩
        · cases h2
        · cases h2
          obtain ⟨ES, g1, g2⟩ := hm.entries hr hq
          have k1 : (getObj p.blk).run P w = .ok (.mapIter (some q.blk) since ⟨seen⟩ last) w := by simp [getObj, Sem.run, h1]
          have k2 : (getObj q.blk).run P w = .ok (.map ES cl) w := by simp [getObj, Sem.run, g1]
          cases hc : (!seen.isEmpty && !es.isEmpty && allNew last es) with
          | true => rw [hc] at h; cases h
          | false =>
            rw [hc] at h
            simp only [cond_false] at h
            have hc2 : (!(⟨seen⟩ : Array Nat).isEmpty && !ES.isEmpty && ES.all (fun e => decide (e.born ≥ last))) = false := by
              rw [g2.allNew] at hc
              have e1 : (⟨seen⟩ : Array Nat).isEmpty = seen.isEmpty := by simp
              have e2 : ES.isEmpty = es.isEmpty := by
                have := g2.length
                cases es with
                | nil => simp at this; simp [Array.eq_empty_of_size_eq_zero this.symm]
                | cons e es => simp at this ⊢; intro hh; subst hh; simp at this
              have e3 : ES.all (fun e => decide (e.born ≥ last)) = ES.toList.all (fun e => decide (e.born ≥ last)) := by simp
              rw [e1, e2, e3]; exact hc
            have hleft := g2.left (seen := seen)
            have hfil : (ES.filter fun e => !(⟨seen⟩ : Array Nat).contains e.born).toList = ES.toList.filter fun E => !(seen.contains E.born) := by
              rw [Array.toList_filter]; simp
            have hch : ∀ n, n ≤ 1 → (choose (.mapNext n)).run P w = .ok 0 w := fun n hn => by
              rw [run_choose_drew, if_pos (by simpa [Question.forced] using hn)]
            -- the run
            have run : ∀ {R : Result Value}, (∀ (left : Array MapEntry), left.toList = ES.toList.filter (fun E => !(seen.contains E.born)) → (do
                    let old := left.filter (·.born < since)
                    let new := left.filter (·.born ≥ since)
                    let candidates := (if old.isEmpty then #[none] else #[]) ++ (old ++ new).map some
                    match candidates[← choose (.mapNext candidates.size)]? with
                    | some (some e) =>
                      setObj p.blk (.mapIter (some q.blk) since ((⟨seen⟩ : Array Nat).push e.born) cl)
                      pure (.tuple #[.bool true, e.key, e.val])
                    | some none => pure (.tuple #[.bool false])
                    | none => stuck "Next: no such candidate" : Sem Value).run P w = R) → (Instr.next (.pointer (some ⟨p.blk, 0, none⟩)) false ty).run P w = R := by
              intro R hR
              refine (map_ok _ k1).trans ?_
              dsimp only
              refine (map_ok _ k2).trans ?_
              dsimp only
              rw [hc2]
              simp only [Bool.false_eq_true, if_false]
              exact hR _ hfil
            split at h
            · rename_i hl
              simp only [Option.some.injEq, Prod.mk.injEq] at h
              obtain ⟨rfl, rfl⟩ := h
              rw [hl] at hleft
              refine ⟨μ, .tuple #[.bool false], w, run fun left hlf => ?_, .tup (a := [.bool false]) (b := [.bool false]) rfl (VRs.cons (.leaf rfl) VRs.nil).2, hm, Ext.refl _ _ _⟩
              have : left = #[] := by
                apply Array.ext'
                rw [hlf]
                generalize List.filter _ ES.toList = L at hleft
                cases hleft; rfl
              subst this
              refine (map_ok _ (hch _ (by simp))).trans ?_
              simp
            · rename_i e hl
              cases hlt : Nat.blt e.2.2 since with
              | false => rw [hlt] at h; cases h
              | true =>
                rw [hlt] at h
                simp only [cond_true, Me.put_eq, Option.some.injEq, Prod.mk.injEq] at h
                obtain ⟨rfl, rfl⟩ := h
                have hlt : e.2.2 < since := Nat.le_of_ble_eq_true hlt
                rw [hl] at hleft
                have hex : ∃ E, ES.toList.filter (fun E => !(seen.contains E.born)) = [E] ∧ ER μ e E := by
                  generalize List.filter _ ES.toList = L at hleft
                  cases hleft with
                  | cons hE hs => cases hs; exact ⟨_, rfl, hE⟩
                obtain ⟨E, hE1, hE2⟩ := hex
                have hbl : p.blk < w.heap.size := (Array.getElem?_eq_some_iff.1 h1).1
                obtain ⟨c1, c2⟩ := hm.change hb rfl rfl rfl hp (o' := .it (some r) since (seen ++ [e.2.2]) cl) (w' := w.putObj p.blk (.mapIter (some q.blk) since ⟨seen ++ [e.2.2]⟩ cl)) ⟨by
                    obtain ⟨q', hq', h0, _⟩ := hm.obj _ _ hb rfl
                    rw [hp] at hq'; cases hq'; exact h0, some q.blk, World.putObj_heap_same hbl, .inr ⟨r, q, rfl, hq, rfl⟩⟩ rfl (fun b hb => World.putObj_heap_other hb) World.putObj_size rfl rfl rfl
                refine ⟨μ, .tuple #[.bool true, E.key, E.val], _, run fun left hlf => ?_, ?_, c1, c2⟩
                · have : left = #[E] := by apply Array.ext'; rw [hlf, hE1]
                  subst this
                  have hb1 : decide (E.born < since) = true := by rw [hE2.2.2.2]; simpa using hlt
                  have hb2 : decide (E.born ≥ since) = false := by rw [hE2.2.2.2]; simpa using hlt
                  have f1 : (#[E] : Array MapEntry).filter (fun x => decide (x.born < since)) = #[E] := by simp [hb1]
                  have f2 : (#[E] : Array MapEntry).filter (fun x => decide (x.born ≥ since)) = #[] := by simp; rw [hE2.2.2.2]; exact hlt
                  simp only [f1, f2]
                  have hset : (setObj p.blk (.mapIter (some q.blk) since ((⟨seen⟩ : Array Nat).push E.born) cl)).run P w = .ok () (w.putObj p.blk (.mapIter (some q.blk) since ⟨seen ++ [e.2.2]⟩ cl)) := by
                    rw [hE2.2.2.2, List.push_toArray]
                    simp [setObj, Sem.run, h1, World.putObj]
                  refine (map_ok _ (hch _ (by simp))).trans ?_
                  simp only [List.isEmpty_toArray, List.isEmpty_cons, Bool.false_eq_true, if_false, Array.append_empty, List.map_toArray, List.map_cons, List.map_nil, Array.empty_append, List.getElem?_toArray, List.getElem?_cons_zero]
                  rw [map_ok' _ hset]; rfl
                · rw [hE2.1]
                  exact .tup (a := [.bool true, e.1, e.2.1]) (b := [.bool true, e.1, E.val]) rfl (VRs.cons (.leaf rfl) (VRs.cons (.leaf hE2.2.1) (VRs.cons hE2.2.2.1 VRs.nil))).2
            · cases h
      · cases h
    · cases h
  · cases h
theorem ERs.eraseIdx {μ : Mp} {es : List (Value × Value × Nat)} {L : List MapEntry} (h : ERs μ es L) : ∀ j : Nat, ERs μ (es.eraseIdx j) (L.eraseIdx j) := by
  induction h with
  | nil => intro j; exact .nil
  | cons h hs ih =>
    intro j
    cases j with
    | zero => exact hs
    | succ j => exact .cons h (ih j)
theorem ERs.get {μ : Mp} {es : List (Value × Value × Nat)} {L : List MapEntry} (h : ERs μ es L) : ∀ (k : Nat) (e : Value × Value × Nat) (E : MapEntry), es[k]? = some e → L[k]? = some E → ER μ e E := by
  induction h with
  | nil => intro k e E h; simp at h
  | cons h hs ih =>
    intro k a b ha hb
    cases k with
    | zero => simp at ha hb; subst ha; subst hb; exact h
    | succ k => exact ih k a b (by simpa using ha) (by simpa using hb)
theorem delete_sound {ats : Array TypeId} {ty t kt et : Nat} {ik : IntKind} {x X kk KK v : Value} {m' : Me} (h0 : ats[0]? = some t) (hu : P.underlying t = some (.map kt et)) (hk : P.underlying kt = some (.int ik)) (hm : HR P μ m w) (hX : VR μ x X) (hK : VR μ kk KK)
    (h : (mapThen m.h x fun r es cl => match kk with
        | .int p i => match findL p i es 0 with
          | some (some (j, _)) => m.put r (.mp (es.eraseIdx j) cl) fun m => some (.tuple #[], m)
          | _ => none
        | _ => none) = some (v, m')) : Does P μ m w v m' (Builtin.delete_ ats ty #[X, KK]) := by
  obtain ⟨r, es, cl, rfl, hr, h⟩ := mapThen_some h
  obtain ⟨p, hp, rfl⟩ := hX.map_inv
  obtain ⟨ES, hb, hsz, hes⟩ := hm.mp hr hp
  split at h
  · rename_i q i _
    obtain rfl := hK.int_inv
    have hkey : ∀ (k : Nat) (e : Value × Value × Nat) (E : MapEntry), es[k]? = some e → ES.toList[k]? = some E → E.key = e.1 := fun k e E h1 h2 => (hes k e E h1 (by simpa using h2)).1
    have hgo : (getObj p.blk).run P w = .ok (.map ES cl) w := by simp [getObj, Sem.run, hb]
    have hset : ∀ o, (setObj p.blk o).run P w = .ok () { w with heap := w.heap.setIfInBounds p.blk o } := fun o => MapKept.run_setObj_map o hb
    have hbl : p.blk < w.heap.size := (Array.getElem?_eq_some_iff.1 hb).1
    split at h
    · rename_i j u hf
      rw [Me.put_eq] at h
      simp only [Option.some.injEq, Prod.mk.injEq] at h
      obtain ⟨rfl, rfl⟩ := h
      obtain ⟨_, e', E', h2, h3, h4, h4', h5⟩ := findL_spec hf ES.toList (.int ik) ⟨ik, rfl⟩ hkey (by simpa using hsz.symm)
      obtain ⟨ES', hES'⟩ : ∃ ES', ES' = ES.eraseIdxIfInBounds j := ⟨_, rfl⟩
      have hrel : ERs μ es ES.toList := ERs.of (by simpa using hsz) fun k e E h1 h2 => hes k e E h1 (by simpa using h2)
      have hrel2 : ERs μ (es.eraseIdx j) ES'.toList := by rw [hES', Array.toList_eraseIdxIfInBounds]; exact hrel.eraseIdx j
      have at_ : ({ w with heap := w.heap.setIfInBounds p.blk (.map ES' cl) } : World).heap[p.blk]? = some (.map ES' cl) := by
        show (w.heap.setIfInBounds p.blk _)[p.blk]? = _
        rw [Array.getElem?_setIfInBounds_self_of_lt hbl]
      obtain ⟨z1, z2⟩ := hm.change hr rfl rfl rfl hp (o' := .mp (es.eraseIdx j) cl) (w' := { w with heap := w.heap.setIfInBounds p.blk (.map ES' cl) })
        ⟨ES', at_, by rw [hrel2.length]; simp, fun k e E h1 h2 => hrel2.get k e E h1 (by simpa using h2)⟩ rfl (fun b hb => by show (w.heap.setIfInBounds p.blk _)[b]? = _; rw [Array.getElem?_setIfInBounds_ne (fun e => hb e.symm)]) (by simp) rfl rfl rfl
      refine ⟨μ, .tuple #[], _, ?_, .tup (a := []) (b := []) rfl (fun k x y hx => by simp at hx), z1, z2⟩
      unfold Builtin.delete_
      simp only [h0, List.getElem?_toArray, List.getElem?_cons_zero, List.getElem?_cons_succ]
      rw [map_ok _ (run_underlying hu w)]
      dsimp only
      rw [map_ok _ hgo]
      dsimp only
      rw [map_ok _ (checkKey_int hk q i 9999 w)]
      have hfk : (Instr.findKey kt (.int q i) ES.toList).run P w = .ok (some (j, E'.val)) w := by
        unfold Instr.findKey
        rw [map_ok _ (run_underlying hk w)]
        simp only [h5]; rfl
      rw [map_ok _ hfk]
      dsimp only
      rw [← hES', map_ok' _ (hset _)]; rfl
    · cases h
  · cases h
theorem eop_sound {o : Oper} {g : Ef} (he : eop P o = .mk g) {ρ A : Operand → Value} {v : Value} {m' : Me} (h : g ρ m = some (v, m')) (hr : OpR μ ρ A o) (hm : HR P μ m w) (hf : Free μ m.n m'.n) :
    ∃ ν w', ((∃ V, (execOp A o).run P w = .ok (.value V) w' ∧ VR ν v V) ∨ (v = undef ∧ (execOp A o).run P w = .ok .skip w')) ∧ HR P ν m' w' ∧ Ext μ m w ν m' w' := by
  have done : ∀ {s : Sem Value}, Does P μ m w v m' s → execOp A o = (do pure (Next.value (← s)) : Sem Next) → ∃ ν w', ((∃ V, (execOp A o).run P w = .ok (.value V) w' ∧ VR ν v V) ∨ (v = undef ∧ (execOp A o).run P w = .ok .skip w')) ∧ HR P ν m' w' ∧ Ext μ m w ν m' w' := by
    intro s hs he
    obtain ⟨ν, V, w', h1, h2, h3, h4⟩ := hs.next
    exact ⟨ν, w', .inl ⟨V, by rw [he]; exact h1, h2⟩, h3, h4⟩
  unfold OpR at hr
  unfold eop at he
  split at he
  · rename_i t x y ho
    split at he
    · rename_i k hk
      cases he
      dsimp only at h
      have hX := hr x (by simp [ho, Op.operands])
      have hY := hr y (by simp [ho, Op.operands])
      split at h
      · rename_i a ha
        rw [ha] at hX
        obtain ⟨p, hs, hp, e⟩ := hX.ptr_inv
        cases hc : Nat.beq (cells (ρ y)).length k with
        | false => rw [hc] at h; cases h
        | true =>
          rw [hc] at h
          simp only [cond_true] at h
          obtain ⟨m1, w', j1, j2, j3, j4, j5⟩ := write_sound h hm hp hY.cells
          simp only [Option.some.injEq, Prod.mk.injEq] at j1
          obtain ⟨rfl, rfl⟩ := j1
          refine ⟨μ, w', .inr ⟨rfl, ?_⟩, j4, j5⟩
          unfold execOp
          simp only [ho]
          rw [e]
          have : (storeVar t ⟨p.blk, p.base + a.off, none⟩ (A y)).run P w = .ok () w' := storeVar_run hk (by rw [← hY.cells.1]; exact Nat.eq_of_beq_eq_true hc) j3
          have h2 : (Instr.storeAt t (.pointer (some ⟨p.blk, p.base + a.off, none⟩)) (A y)).run P w = .ok () w' := this
          rw [map_ok' _ h2]; rfl
      · cases h
    · cases he; cases h
  · rename_i t x kk y ho
    split at he
    · rename_i kt et hu
      split at he
      · rename_i ik hk
        cases he
        dsimp only at h
        obtain ⟨rfl, w', h1, h2, h3⟩ := update_sound hu hk hm (hr x (by simp [ho, Op.operands])) (hr kk (by simp [ho, Op.operands])) (hr y (by simp [ho, Op.operands])) h
        refine ⟨μ, w', .inr ⟨rfl, ?_⟩, h2, h3⟩
        unfold execOp
        simp only [ho]
        rw [map_ok' _ h1]; rfl
      · cases he; cases h
    · cases he; cases h
  · rename_i s d x ho
    split at he
    · rename_i el1 el hs hd
      split at he
      · rename_i hel
        cases hsd : Nat.beq s d with
        | false => rw [hsd] at he; cases he; cases h
        | true =>
          rw [hsd] at he
          cases he
          dsimp only at h
          obtain rfl : s = d := Nat.eq_of_beq_eq_true hsd
          have hX := hr x (by simp [ho, Op.operands])
          unfold slThen at h
          split at h
          · rename_i a l c ha
            obtain ⟨b, off, cc, rl, re, an, fz, rfl, hb, h⟩ := rowThen_some h
            simp only [Option.some.injEq, Prod.mk.injEq] at h
            obtain ⟨rfl, rfl⟩ := h
            rw [ha] at hX
            rcases hX.sl_inv with ⟨p, _, hp, _, e⟩ | ⟨e, _⟩
            · obtain ⟨w', h1, h2, h3⟩ := hm.behind hb hp (p.base + off)
              refine done ⟨μ, A x, w', ?_, by rw [ha] at *; exact hX, h2, h3⟩ (by unfold execOp; simp only [ho]; rfl)
              unfold convert
              rw [map_ok _ (run_underlying hs w), map_ok _ (run_underlying hd w), e]
              dsimp only
              rw [map_ok _ (run_underlying hel w)]
              simp only [beq_self_eq_true]
              rw [map_ok' _ h1]; rfl
            · cases e
          · cases h
      · cases he; cases h
    · cases he; cases h
  · rename_i t x ho
    split at he
    · rename_i k e hu
      cases he
      refine done (range_sound' hu h hm (hr x (by simp [ho, Op.operands])) hf) ?_
      unfold execOp
      simp only [ho]
    · cases he; cases h
  · rename_i x s ho
    cases s with
    | true => cases he; cases h
    | false =>
      cases he
      refine done (next_sound (ty := o.type) h hm (hr x (by simp [ho, Op.operands]))) ?_
      unfold execOp
      simp only [ho]
  · rename_i c ho
    have hargs : ∀ {x y : Operand} {b : Builtin}, c.callee = .builtin b → c.args.toList = [x, y] → VR μ (ρ x) (A x) ∧ VR μ (ρ y) (A y) := fun {x y b} hc ha => by
      have e : c.args = ⟨[x, y]⟩ := by apply Array.ext'; simpa using ha
      exact ⟨hr x (by simp [ho, Op.operands, Call.operands, hc, e]), hr y (by simp [ho, Op.operands, Call.operands, hc, e])⟩
    split at he
    · rename_i hc
      split at he
      · rename_i t u ts x y ht ha
        split at he
        · rename_i el du hu hd
          split at he
          · rename_i z inf hz hi
            cases hb : (!Nat.beq inf.bytes 0 && !Nat.beq inf.size 0 && Nat.ble inf.bytes 65536 && Nat.beq (cells z).length inf.size) with
            | false => rw [hb] at he; cases he; cases h
            | true =>
              rw [hb] at he
              cases he
              dsimp only at h
              simp only [Bool.and_eq_true, Nat.ble_eq, Bool.not_eq_true'] at hb
              obtain ⟨⟨⟨b1, b2⟩, b3⟩, b4⟩ := hb
              have ea : c.args = ⟨[x, y]⟩ := by apply Array.ext'; simpa using ha
              have e0 : c.argTypes[0]? = some t := by rw [← Array.getElem?_toList, ht]; rfl
              have e1 : c.argTypes[1]? = some u := by rw [← Array.getElem?_toList, ht]; rfl
              have hs := append_sound (ty := o.type) e0 e1 hu hd (isInt_or hd) hi rfl (fun e => by rw [e] at b2; cases b2) hz (Nat.eq_of_beq_eq_true b4) (fun e => by rw [e] at b1; cases b1) b3 h hm (hargs hc ha).1 (hargs hc ha).2 hf
              refine done hs ?_
              unfold execOp
              simp only [ho, resolve, hc, ea, List.map_toArray, List.map_cons, List.map_nil, pure_bind, invoke, builtin]
          · cases he; cases h
        · cases he; cases h
      · cases he; cases h
    · rename_i hc
      split at he
      · rename_i t ts x y ht ha
        split at he
        · rename_i el hu
          split at he
          · rename_i k hk
            cases he
            dsimp only at h
            have ea : c.args = ⟨[x, y]⟩ := by apply Array.ext'; simpa using ha
            have e0 : c.argTypes[0]? = some t := by rw [← Array.getElem?_toList, ht]; rfl
            have hs := copy_sound (ty := o.type) e0 hu hk h hm (hargs hc ha).1 (hargs hc ha).2
            refine done hs ?_
            unfold execOp
            simp only [ho, resolve, hc, ea, List.map_toArray, List.map_cons, List.map_nil, pure_bind, invoke, builtin]
          · cases he; cases h
        · cases he; cases h
      · cases he; cases h
    · rename_i hc
      split at he
      · rename_i t ts x y ht ha
        split at he
        · rename_i kt et hu
          split at he
          · rename_i ik hk
            cases he
            have ea : c.args = ⟨[x, y]⟩ := by apply Array.ext'; simpa using ha
            have e0 : c.argTypes[0]? = some t := by rw [← Array.getElem?_toList, ht]; rfl
            have hs := delete_sound (ty := o.type) e0 hu hk hm (hargs hc ha).1 (hargs hc ha).2 h
            refine done hs ?_
            unfold execOp
            simp only [ho, resolve, hc, ea, List.map_toArray, List.map_cons, List.map_nil, pure_bind, invoke, builtin]
          · cases he; cases h
        · cases he; cases h
      · cases he; cases h
    · rename_i hc
      split at he
      · rename_i t ts x ht ha
        split at he
        · rename_i el hu
          split at he
          · rename_i z hz
            cases he
            dsimp only at h
            have ea : c.args = ⟨[x]⟩ := by apply Array.ext'; simpa using ha
            have e0 : c.argTypes[0]? = some t := by rw [← Array.getElem?_toList, ht]; rfl
            have hs := clear_sound (ty := o.type) e0 hu hz h hm (hr x (by simp [ho, Op.operands, Call.operands, hc, ea]))
            refine done hs ?_
            unfold execOp
            simp only [ho, resolve, hc, ea, List.map_toArray, List.map_cons, List.map_nil, pure_bind, invoke, builtin]
          · cases he; cases h
        · cases he; cases h
      · cases he; cases h
    · cases he; cases h
  · cases he; cases h
end
end Go.Proofs.YthelmobipjekjaaGreat.Ev
