/- What the runner's operations on memory give, the model's give. -/
import Derived.Test.YthelmobipjekjaaGreatLh
import Derived.Laws.BytesString
import Derived.Laws.IdiomCopy
import Derived.Laws.Rows
import Derived.Below
import Derived.WalkKit
set_option linter.unusedVariables false
set_option linter.unusedSimpArgs false
namespace Go.Proofs.YthelmobipjekjaaGreat.Ev
open Go Go.RowKit
/-! ### cells are written -/
section
variable {P : Program} {μ : Mp} {m : Me} {w : World}
theorem storeK_some {β : Type} : ∀ {vs : List Value} {c : Tr Value} {i : Nat} {k : Tr Value → Option β} {r : β}, storeK vs c i k = some r →
    ∃ c', k c' = some r ∧ (∀ j, c'.get j = if i ≤ j ∧ j < i + vs.length then vs[j - i]? else c.get j) ∧ ∀ j, j < vs.length → (c.get (i + j)).isSome = true
  | [], c, i, k, r, h => ⟨c, h, fun j => by rw [if_neg (by simp)], fun j hj => by simp at hj⟩
  | v :: vs, c, i, k, r, h => by
    unfold storeK at h
    split at h
    · cases h
    · rename_i u hu
      rw [Tr.putK_eq] at h
      obtain ⟨c', h1, h2, h3⟩ := storeK_some h
      refine ⟨c', h1, fun j => ?_, fun j hj => ?_⟩
      · rw [h2, Tr.get_put]
        simp only [List.length_cons, Nat.succ_eq_add_one]
        by_cases e1 : i + 1 ≤ j ∧ j < i + 1 + vs.length
        · rw [if_pos e1, if_pos (by omega), show j - i = (j - (i + 1)) + 1 from by omega]; simp
        · rw [if_neg e1]
          by_cases e2 : j = i
          · subst e2; rw [if_pos rfl, if_pos (by omega)]; simp
          · rw [if_neg e2, if_neg (by omega)]
      · cases j with
        | zero => simpa using by rw [hu]; rfl
        | succ j =>
          have := h3 j (by simpa using hj)
          rw [Tr.get_put] at this
          rw [show i + (j + 1) = Nat.succ i + j from by omega]
          rwa [if_neg (by omega)] at this
theorem killK_some {β : Type} : ∀ {l : List Nat} {h : Tr AO} {k : Tr AO → Option β} {r : β}, killK l h k = some r →
    ∃ h', k h' = some r ∧ (∀ j, h'.get j = h.get j ∨ (h'.get j = some .dead ∧ ∃ o, h.get j = some o)) ∧ ∀ j ∈ l, ∀ o, h'.get j = some o → unf o = false → False
  | [], h, k, r, hk => ⟨h, hk, fun j => .inl rfl, fun j hj => by simp at hj⟩
  | j :: l, h, k, r, hk => by
    unfold killK at hk
    split at hk
    · rename_i c len el an fz hj
      rw [Tr.putK_eq] at hk
      obtain ⟨h', h1, h2, h3⟩ := killK_some hk
      refine ⟨h', h1, fun i => ?_, fun i hi o ho hu => ?_⟩
      · by_cases e : i = j
        · subst e
          right
          rcases h2 i with h4 | h4
          · exact ⟨by rw [h4, Tr.get_put_same], _, hj⟩
          · exact ⟨h4.1, _, hj⟩
        · have := h2 i; rwa [Tr.get_put_ne _ _ e] at this
      · rcases List.mem_cons.1 hi with rfl | hi
        · rcases h2 i with h4 | h4
          · rw [h4, Tr.get_put_same] at ho; cases ho; cases hu
          · rw [h4.1] at ho; cases ho; cases hu
        · exact h3 i hi o ho hu
    · rename_i hj
      obtain ⟨h', h1, h2, h3⟩ := killK_some hk
      refine ⟨h', h1, h2, fun i hi o ho hu => ?_⟩
      rcases List.mem_cons.1 hi with rfl | hi
      · rcases h2 i with h4 | h4
        · rw [h4] at ho
          cases o with
          | row c len el an fz => exact hj _ _ _ _ _ ho
          | _ => cases hu
        · rw [h4.1] at ho; cases ho; cases hu
      · exact h3 i hi o ho hu
theorem setCells_heap (b : Nat) : ∀ (vs : List Value) (o : Nat) (w : World) {cs : Array Value} {ty : TypeId} {fz : Nat × Nat}, w.heap[b]? = some (.cells cs ty fz) → o + vs.length ≤ cs.size →
    ∃ cs', (w.setCells b o vs).heap[b]? = some (.cells cs' ty fz) ∧ cs'.size = cs.size ∧ (∀ k, cs'[k]? = if o ≤ k ∧ k < o + vs.length then vs[k - o]? else cs[k]?) ∧
      (∀ b', b' ≠ b → (w.setCells b o vs).heap[b']? = w.heap[b']?) ∧ (w.setCells b o vs).heap.size = w.heap.size ∧ (w.setCells b o vs).os = w.os ∧ (w.setCells b o vs).tape = w.tape ∧ (w.setCells b o vs).output = w.output
  | [], o, w, cs, ty, fz, h, _ => ⟨cs, h, rfl, fun k => by rw [if_neg (by simp)], fun _ _ => rfl, rfl, rfl, rfl, rfl⟩
  | v :: vs, o, w, cs, ty, fz, h, hl => by
    simp only [List.length_cons] at hl
    have h1 : (w.setCell ⟨b, o, none⟩ v).heap[b]? = some (.cells (cs.setIfInBounds o v) ty fz) := by simp [World.setCell, Array.getElem?_modify, h]
    obtain ⟨cs', e1, e2, e3, e4, e5, e6, e7, e8⟩ := setCells_heap b vs (o + 1) (w.setCell ⟨b, o, none⟩ v) h1 (by simp; omega)
    refine ⟨cs', e1, by rw [e2]; simp, fun k => ?_, fun b' hb => ?_, by show (World.setCells _ b (o + 1) vs).heap.size = _; rw [e5]; simp [World.setCell], e6, e7, e8⟩
    · rw [e3]
      simp only [List.length_cons]
      by_cases c1 : o + 1 ≤ k ∧ k < o + 1 + vs.length
      · rw [if_pos c1, if_pos (by omega), show k - o = (k - (o + 1)) + 1 from by omega]; simp
      · rw [if_neg c1]
        by_cases c2 : k = o
        · subst c2; rw [if_pos (by omega), Array.getElem?_setIfInBounds_self_of_lt (by omega)]; simp
        · rw [if_neg (by omega), Array.getElem?_setIfInBounds_ne (fun e => c2 e.symm)]
    · show (World.setCells _ b (o + 1) vs).heap[b']? = _
      rw [e4 b' hb]
      exact Below.heap_setCell w ⟨b, o, none⟩ v b' hb
theorem ones_conc {vs VS : List Value} (h : ones vs = true) (hr : VRs μ vs VS) : ∀ v ∈ VS, v.oneCell' = true := by
  intro v hv
  obtain ⟨k, hk⟩ := List.getElem?_of_mem hv
  have hkl : k < vs.length := by rw [hr.1]; exact (List.getElem?_eq_some_iff.1 hk).1
  exact (hr.2 k _ v (List.getElem?_eq_getElem hkl) hk).one (ones_get h k _ (List.getElem?_eq_getElem hkl))
/-- Known cells are written. -/
theorem write_sound {β : Type} {a : Addr} {vs VS : List Value} {k : Me → Option β} {r : β} (h : writeK m a vs k = some r) (hm : HR P μ m w) {p : Pl} (hp : μ a.block = some p) (hr : VRs μ vs VS) :
    ∃ m' w', k m' = some r ∧ m'.n = m.n ∧ (storeCells ⟨p.blk, p.base + a.off, none⟩ VS 0).run P w = .ok () w' ∧ HR P μ m' w' ∧ Ext μ m w μ m' w' := by
  unfold writeK at h
  split at h
  · rename_i h0 n b off
    cases ho : ones vs with
    | false => rw [ho] at h; cases h
    | true =>
      rw [ho] at h
      simp only [Bool.not_true, cond_false] at h
      split at h
      · rename_i c len el an hb
        cases hbd : Nat.ble (off + vs.length) len with
        | false => rw [hbd] at h; cases h
        | true =>
        rw [hbd] at h
        simp only [Bool.not_true, cond_false] at h
        have hbd := Nat.le_of_ble_eq_true hbd
        obtain ⟨c', h1, h2, h3⟩ := storeK_some h
        obtain ⟨h', h4, h5, h6⟩ := killK_some h1
        rw [Tr.putK_eq] at h4
        dsimp only at hp
        obtain ⟨cs, ty, fz, sz, g1, g2, g3, g4, g5, g6⟩ := hm.row hb hp
        have hin : p.base + off + VS.length ≤ cs.size := by rw [← hr.1]; omega
        obtain ⟨cs', e1, e2, e3, e4, e5, e6, e7, e8⟩ := setCells_heap p.blk VS (p.base + off) w g1 hin
        refine ⟨_, w.setCells p.blk (p.base + off) VS, h4, rfl, ?_, ?_, ?_⟩
        · refine run_storeCells_cells p.blk (p.base + off) VS 0 w (fun j hj => ?_) (fun j hj => ?_) (ones_conc ho hr)
          · rw [cell_of_row _ _ _ _ _ _ g1]
            simp only [Nat.add_zero]
            rw [Array.getElem?_eq_getElem (by omega)]; rfl
          · unfold World.frozen?
            rw [g1]
            exact unfrozen g3 (by simp only [Nat.add_zero]; omega)
        · -- what lies in m' lay in m
          have back : ∀ i o, i ≠ b → (h'.put b (.row c' len el [] false)).get i = some o → live o = true → h0.get i = some o := by
            intro i o hi ho hl
            rw [Tr.get_put_ne _ _ hi] at ho
            rcases h5 i with h7 | ⟨h7, _⟩
            · rw [← h7]; exact ho
            · rw [h7] at ho; cases ho; cases hl
          have gone : ∀ i o q, i ≠ b → (h'.put b (.row c' len el [] false)).get i = some o → live o = true → μ i = some q → q.blk ≠ p.blk := by
            intro i o q hi hgo hl hq e
            have hgo' := back i o hi hgo hl
            obtain ⟨k1, k2, _⟩ := hm.apart b _ i o p q hb rfl rfl hgo' hl hi hp hq e.symm
            rw [Tr.get_put_ne _ _ hi] at hgo
            exact h6 i k1 o hgo k2
          refine ⟨fun i o hgo hl => ?_, fun i o hgo => ?_, fun i o j o' pi pj hgo hl hu hgo' hl' hne hpi hpj he => ?_⟩
          · by_cases hi : i = b
            · subst hi
              rw [show (Me.mk (h'.put i (.row c' len el [] false)) n).h = h'.put i (.row c' len el [] false) from rfl, Tr.get_put_same] at hgo
              cases hgo
              refine ⟨p, hp, cs', ty, fz, sz, e1, fun k v hk => ?_, by rw [e2]; exact g3, g4, g5, by rw [e2]; exact g6⟩
              rw [h2] at hk
              rw [e3]
              by_cases c1 : off ≤ k ∧ k < off + vs.length
              · rw [if_pos c1] at hk
                obtain ⟨V, hV, hv⟩ := hr.get hk
                refine ⟨by omega, ones_get ho _ _ hk, V, ?_, hv⟩
                rw [if_pos (by rw [← hr.1]; omega), show p.base + k - (p.base + off) = k - off from by omega]; exact hV
              · rw [if_neg c1] at hk
                obtain ⟨a1, a2, V, a3, a4⟩ := g2 k v hk
                exact ⟨a1, a2, V, by rw [if_neg (by rw [← hr.1]; omega)]; exact a3, a4⟩
            · obtain ⟨q, hq, hom⟩ := hm.obj i o (back i o hi hgo hl) hl
              exact ⟨q, hq, hom.mono (Mp.Le.refl _) (e4 _ (gone i o q hi hgo hl hq))⟩
          · by_cases hi : i = b
            · subst hi; exact hm.few _ _ hb
            · have hgo : (h'.put b (.row c' len el [] false)).get i = some o := hgo
              rw [Tr.get_put_ne _ _ hi] at hgo
              rcases h5 i with h7 | ⟨h7, o2, h8⟩
              · rw [h7] at hgo; exact hm.few i o hgo
              · exact hm.few i o2 h8
          · by_cases hi : i = b
            · subst hi
              have ep : pi = p := by rw [hp] at hpi; exact (Option.some.inj hpi).symm
              subst ep
              exact absurd he.symm (gone j o' pj hne hgo' hl' hpj)
            · have hgo2 := back i o hi hgo hl
              by_cases hj : j = b
              · subst hj
                have ep : pj = p := by rw [hp] at hpj; exact (Option.some.inj hpj).symm
                subst ep
                exact absurd he (gone i o pi hi hgo hl hpi)
              · exact hm.apart i o j o' pi pj hgo2 hl hu (back j o' hj hgo' hl') hl' hne hpi hpj he
        · refine ⟨e6, e7, e8, Nat.le_of_eq e5.symm, Mp.Le.refl _, Nat.le_refl _, fun i h k => absurd h k, fun b' _ hb' => e4 b' (fun e => hb' ⟨b, _, p, hb, rfl, hp, e.symm⟩), fun b' _ ⟨i, o, q, hgo, hl, hq, e⟩ => ?_⟩
          by_cases hi : i = b
          · subst hi; exact ⟨i, _, q, hb, rfl, hq, e⟩
          · have hgo : (h'.put b (.row c' len el [] false)).get i = some o := hgo
            rw [Tr.get_put_ne _ _ hi] at hgo
            rcases h5 i with h7 | ⟨h7, _⟩
            · exact ⟨i, o, q, by rw [h7] at hgo; exact hgo, hl, hq, e⟩
            · rw [h7] at hgo; cases hgo; cases hl
      · cases h
  · cases h
end
/-! ### append -/
section
variable {P : Program} {μ : Mp} {m : Me} {w : World}
theorem OM.lt {p : Pl} {o : AO} (hl : live o = true) (h : OM P μ p w o) : p.blk < w.heap.size := by
  cases o with
  | row c len el an fz => obtain ⟨_, _, _, _, h1, _⟩ := h; exact (Array.getElem?_eq_some_iff.1 h1).1
  | mp es cl => obtain ⟨_, h1, _⟩ := h; exact (Array.getElem?_eq_some_iff.1 h1).1
  | lp => obtain ⟨_, _, _, h1, _⟩ := h; exact (Array.getElem?_eq_some_iff.1 h1).1
  | df => exact (Array.getElem?_eq_some_iff.1 h).1
  | it => obtain ⟨_, _, h1, _⟩ := h; exact (Array.getElem?_eq_some_iff.1 h1).1
  | dead => cases hl
/-- One block more. -/
theorem HR.grow {w' : World} {obj : Obj} {p : Pl} {ob : AO} (hm : HR P μ m w) (hg : Grew w w' obj) (hpb : p.blk = w.heap.size) (hf : μ m.n = none) (hl : live ob = true) (ho : OM P (μ.with m.n p) p w' ob) :
    HR P (μ.with m.n p) (.mk (m.h.put m.n ob) (m.n + 1)) w' ∧ Ext μ m w (μ.with m.n p) (.mk (m.h.put m.n ob) (m.n + 1)) w' := by
  have hne : ∀ i o, m.h.get i = some o → i ≠ m.n := fun i o h e => by have := hm.few i o h; omega
  have hget : ∀ i o, (m.h.put m.n ob).get i = some o → (i = m.n ∧ o = ob) ∨ (i ≠ m.n ∧ m.h.get i = some o) := fun i o h => by
    by_cases e : i = m.n
    · subst e; rw [Tr.get_put_same] at h; cases h; exact .inl ⟨rfl, rfl⟩
    · rw [Tr.get_put_ne _ _ e] at h; exact .inr ⟨e, h⟩
  have old : ∀ i o q, i ≠ m.n → m.h.get i = some o → live o = true → (μ.with m.n p) i = some q → q.blk < w.heap.size := fun i o q e h hl hq => by
    rw [Mp.with_ne _ _ e] at hq
    obtain ⟨q', hq', hom⟩ := hm.obj i o h hl
    rw [hq] at hq'; cases hq'
    exact hom.lt hl
  refine ⟨⟨fun i o h hl' => ?_, fun i o h => ?_, fun i o j o' pi pj h hl' hu h' hl'' hne' hpi hpj he => ?_⟩, ?_⟩
  · rcases hget i o h with ⟨rfl, rfl⟩ | ⟨e, h⟩
    · exact ⟨p, Mp.with_same _ _ _, ho⟩
    · obtain ⟨q, hq, hom⟩ := hm.obj i o h hl'
      exact ⟨q, by rw [Mp.with_ne _ _ e]; exact hq, hom.mono (Mp.le_with _ hf) (hg.old _ (hom.lt hl'))⟩
  · rcases hget i o h with ⟨rfl, rfl⟩ | ⟨e, h⟩
    · exact Nat.lt_succ_self _
    · exact Nat.lt_succ_of_lt (hm.few i o h)
  · rcases hget i o h with ⟨e1, e2⟩ | ⟨e, h1⟩
    · rcases hget j o' h' with ⟨e3, e4⟩ | ⟨e', h2⟩
      · exact absurd (e3.trans e1.symm) hne'
      · have := old j o' pj e' h2 hl'' hpj
        rw [e1, Mp.with_same] at hpi; cases hpi
        omega
    · rcases hget j o' h' with ⟨e3, e4⟩ | ⟨e', h2⟩
      · have := old i o pi e h1 hl' hpi
        rw [e3, Mp.with_same] at hpj; cases hpj
        omega
      · rw [Mp.with_ne _ _ e] at hpi; rw [Mp.with_ne _ _ e'] at hpj
        exact hm.apart i o j o' pi pj h1 hl' hu h2 hl'' hne' hpi hpj he
  · refine ⟨hg.os, hg.tape, hg.output, by rw [hg.size]; omega, Mp.le_with _ hf, Nat.le_succ _, fun i h1 h2 => ?_, fun b hb _ => hg.old b hb, fun b hb ⟨i, o, q, h, hl', hq, e⟩ => ?_⟩
    · by_cases e : i = m.n
      · exact ⟨by omega, by show i < m.n + 1; omega⟩
      · rw [Mp.with_ne _ _ e] at h2; exact absurd h1 h2
    · rcases hget i o h with ⟨rfl, rfl⟩ | ⟨e', h⟩
      · rw [Mp.with_same] at hq; cases hq; omega
      · rw [Mp.with_ne _ _ e'] at hq; exact ⟨i, o, q, h, hl', hq, e⟩
/-- What is appended. -/
theorem news_sound {zs : Bool} {z : Value} {k n : Nat} {y Y : Value} {news : List Value} {el : Nat} (h : newsOf m.h zs (cells z) k y = some (news, n)) (hm : HR P μ m w) (hr : VR μ y Y) (hz : zero? P el = some z) (hzk : (cells z).length = k) (hk1 : news.length = n * k) :
    ∃ NEWS, VRs μ news NEWS ∧ ((zs = true ∧ ∃ q, Y = .int q (n : Int) ∧ n ≤ 16777216 ∧ NEWS = reps n (cells z)) ∨ (zs = false ∧ (Builtin.lenOf Y).run P w = .ok n w ∧ (Builtin.firstCells k n Y).run P w = .ok ⟨NEWS⟩ w)) := by
  have empt : ∀ A : Addr, (loadCells A 0).run P w = .ok #[] w := fun A => by simpa using run_loadCells_list (P := P) w A [] (by simp)
  unfold newsOf at h
  split at h
  · rename_i q j
    cases hb : (zs && Nat.ble j 16777216) with
    | false => rw [hb] at h; cases h
    | true =>
      rw [hb] at h
      simp only [cond_true, Option.some.injEq, Prod.mk.injEq] at h
      obtain ⟨rfl, rfl⟩ := h
      simp only [Bool.and_eq_true, Nat.ble_eq] at hb
      exact ⟨_, VRs.reps (VRs.refl_cells (zero_flat hz)) _, .inl ⟨hb.1, q, hr.int_inv, hb.2, rfl⟩⟩
  · rename_i l c
    cases zs with
    | true => cases h
    | false =>
      cases hb : Nat.beq l 0 with
      | false => rw [hb] at h; cases h
      | true =>
        rw [hb] at h
        obtain rfl : l = 0 := Nat.eq_of_beq_eq_true hb
        simp only [Bool.not_true, Bool.or_false, cond_false, Option.some.injEq, Prod.mk.injEq] at h
        obtain ⟨rfl, rfl⟩ := h
        exact ⟨[], VRs.nil, .inr ⟨rfl, by rw [hr.of_flat rfl]; rfl, by rw [hr.of_flat rfl]; rfl⟩⟩
  · rename_i b j c
    cases zs with
    | true => cases h
    | false =>
      simp only [cond_false] at h
      obtain ⟨A, C, e⟩ := hr.slsome
      cases hb : Nat.beq j 0 with
      | true =>
        rw [hb] at h
        obtain rfl : j = 0 := Nat.eq_of_beq_eq_true hb
        simp only [cond_true, Option.some.injEq, Prod.mk.injEq] at h
        obtain ⟨rfl, rfl⟩ := h
        refine ⟨[], VRs.nil, .inr ⟨rfl, by rw [e]; rfl, ?_⟩⟩
        rw [e]
        unfold Builtin.firstCells
        simp only [Nat.zero_mul]
        exact empt A
      | false =>
        rw [hb] at h
        simp only [cond_false] at h
        obtain ⟨bb, o, cc, rl, el', an, fz, rfl, hbb, h⟩ := rowThen_some h
        split at h
        · rename_i l hl
          simp only [Option.some.injEq, Prod.mk.injEq] at h
          obtain ⟨rfl, rfl⟩ := h
          rcases hr.sl_inv with ⟨p, _, hp, _, e2⟩ | ⟨e2, _⟩
          · obtain ⟨L, h1, h2, h3⟩ := (hm.row hbb hp).cells hl
            refine ⟨L, h1, .inr ⟨rfl, by rw [e2]; rfl, ?_⟩⟩
            rw [e2]
            unfold Builtin.firstCells
            have := run_loadCells_list (P := P) w ⟨p.blk, p.base + o, none⟩ L h3
            simp only [← h2]
            exact this
          · cases e2
        · cases h
  · rename_i s
    cases hb : (Nat.beq k 1 && not zs) with
    | false => rw [hb] at h; cases h
    | true =>
      rw [hb] at h
      simp only [cond_true, Option.some.injEq, Prod.mk.injEq] at h
      obtain ⟨rfl, rfl⟩ := h
      simp only [Bool.and_eq_true] at hb
      have hzs : zs = false := by simpa using hb.2
      refine ⟨_, VRs.map (g := fun c : UInt8 => Value.int .u8 (c.toNat : Int)) fun c _ => .leaf rfl, .inr ⟨hzs, by rw [hr.str_inv]; rfl, ?_⟩⟩
      rw [hr.str_inv]
      unfold Builtin.firstCells
      have he : s.extract 0 s.size = s := by simp
      simp only [he]
      show Result.ok _ w = _
      congr 1
      apply Array.ext'
      simp
  · cases h
/-- nextslicecap stays small -/
theorem growBy_le : ∀ (r n c : Nat), c ≤ 2 * n + 768 → Builtin.growBy n r c ≤ 2 * n + 768
  | 0, n, c, h => h
  | r + 1, n, c, h => by
    unfold Builtin.growBy
    by_cases hc : c ≥ n
    · rw [if_pos hc]; exact h
    · rw [if_neg hc]; exact growBy_le r n _ (by omega)
theorem next_le {n c : Nat} (h : c < n) : Builtin.nextslicecap n c ≤ 2 * n + 768 := by
  unfold Builtin.nextslicecap
  by_cases h1 : n > 2 * c
  · rw [if_pos h1]; omega
  · rw [if_neg h1]
    by_cases h2 : c < 256
    · rw [if_pos h2]; omega
    · rw [if_neg h2]; exact growBy_le _ _ _ (by omega)
theorem HR.drew (hm : HR P μ m w) : HR P μ m w.drew := ⟨fun i o h hl => by obtain ⟨p, hp, ho⟩ := hm.obj i o h hl; exact ⟨p, hp, ho.mono (Mp.Le.refl _) rfl⟩, hm.few, hm.apart⟩
/-- what is appended, as the operation has it -/
def News (P : Program) (zs : Bool) (z : Value) (k n : Nat) (Y : Value) (NEWS : List Value) (w : World) : Prop :=
  (zs = true ∧ ∃ q, Y = .int q (n : Int) ∧ n ≤ 16777216 ∧ NEWS = reps n (cells z)) ∨ (zs = false ∧ (Builtin.lenOf Y).run P w = .ok n w ∧ (Builtin.firstCells k n Y).run P w = .ok ⟨NEWS⟩ w)
theorem zeroCells_eq (z : Value) (n : Nat) : Builtin.zeroCells ⟨cells z⟩ n = ⟨reps n (cells z)⟩ := by
  unfold Builtin.zeroCells
  by_cases h : (cells z).length = 0
  · have : cells z = [] := List.eq_nil_of_length_eq_zero h
    rw [this]
    apply Array.ext'
    have : reps n ([] : List Value) = [] := List.eq_nil_of_length_eq_zero (by rw [reps_length]; simp)
    rw [this]; simp
  · exact range_reps (cells z) n (fun _ _ => h)
section
variable {ats : Array TypeId} {ty t u el n k len C : Nat} {d : TypeDesc} {inf : TypeInfo} {z : Value} {zs : Bool} {base : Option Addr} {Y : Value} {NEWS : List Value}
/-- Where there is room. -/
theorem append_in (h0 : ats[0]? = some t) (h1 : ats[1]? = some u) (hu : P.underlying t = some (.slice el)) (hd : P.underlying u = some d) (hzs : (zs = false ∧ ∀ k, d ≠ .int k) ∨ (zs = true ∧ ∃ k, d = .int k)) (hi : P.info? el = some inf) (hk : inf.size = k) (hz : zero? P el = some z) (hzk : (cells z).length = k)
    (hb1 : inf.bytes ≤ 65536) (hn : n ≤ 16777216)
    (hnews : News P zs z k n Y NEWS w) (hroom : len + n ≤ C) {w' : World} (hst : (match base with | some a => storeCells (a.add (len * k)) NEWS | none => pure ()).run P w = .ok () w') :
    (Builtin.append_ ats ty #[.slice base len C, Y]).run P w = .ok (.slice base (len + n) C) w' := by
  have szr : ∀ w, (sizeOf el).run P w = .ok k w := fun w => size_run (by unfold size?; rw [hi]; simp [hk]) w
  have zc : z.cells = ⟨cells z⟩ := by apply Array.ext'; rw [cells_eq]
  unfold Builtin.append_
  simp only [h0, h1, List.getElem?_toArray, List.getElem?_cons_zero, List.getElem?_cons_succ]
  rw [map_ok _ (run_underlying hu w)]
  dsimp only
  rw [map_ok _ (szr w), map_ok _ (run_underlying hd w)]
  have last : ∀ {s : Sem (Array Value)}, s.run P w = .ok ⟨NEWS⟩ w → (do let new ← s
                                                                        match base with
                                                                        | some a => do storeCells (a.add (len * k)) new.toList; pure (Value.slice base (len + n) C)
                                                                        | x => pure (Value.slice base (len + n) C) : Sem Value).run P w = .ok (.slice base (len + n) C) w' := by
    intro s hs
    rw [map_ok _ hs]
    cases base with
    | none =>
      have : w = w' := by simpa using hst
      subst this; rfl
    | some a => dsimp only; rw [map_ok' _ hst]; rfl
  rcases hzs with ⟨rfl, hd'⟩ | ⟨rfl, kk, rfl⟩
  · rcases hnews with ⟨h, _⟩ | ⟨_, hl, hf⟩
    · cases h
    · rw [map_ok (a := false) _ (by cases d <;> first | rfl | exact absurd rfl (hd' _))]
      simp only [Bool.false_eq_true, if_false, Bool.not_false, if_true]
      rw [map_ok _ hl, if_pos hroom]
      exact last hf
  · rcases hnews with ⟨_, q, rfl, hn2, rfl⟩ | ⟨h, _⟩
    · rw [map_ok (a := true) _ rfl]
      simp only [if_true, Bool.not_true, Bool.false_eq_true, if_false]
      rw [map_ok (a := (n : Int)) _ rfl]
      have w1 : IntKind.i64.wrap (n : Int) = n := IntWalk.i64_in _ (by omega)
      rw [w1, if_neg (by omega), map_ok _ (info_run hi w)]
      have hbig : ¬ ((n : Int) * (inf.bytes : Int) > 2 ^ 48) := by
        have h1 : n * inf.bytes ≤ 2 ^ 48 := Nat.le_trans (Nat.mul_le_mul hn hb1) (by decide)
        have : ((n * inf.bytes : Nat) : Int) ≤ ((2 ^ 48 : Nat) : Int) := Int.ofNat_le.2 h1
        simp only [Int.natCast_mul] at this
        have e : ((2 ^ 48 : Nat) : Int) = (2 : Int) ^ 48 := by simp
        rw [e] at this; omega
      rw [if_neg hbig, map_ok (a := n) _ (by simp), if_pos hroom]
      refine last ?_
      by_cases hnk : n * k = 0
      · rw [if_pos hnk]
        have er : reps n (cells z) = [] := List.eq_nil_of_length_eq_zero (by rw [reps_length, hzk]; exact hnk)
        rw [er]; rfl
      · rw [if_neg hnk, map_ok _ (zero_run hz w), zc, zeroCells_eq]; rfl
    · cases h
/-- Where there is none: a new block. -/
theorem append_new (h0 : ats[0]? = some t) (h1 : ats[1]? = some u) (hu : P.underlying t = some (.slice el)) (hd : P.underlying u = some d) (hzs : (zs = false ∧ ∀ k, d ≠ .int k) ∨ (zs = true ∧ ∃ k, d = .int k)) (hi : P.info? el = some inf) (hk : inf.size = k) (hz : zero? P el = some z) (hzk : (cells z).length = k)
    (hb0 : inf.bytes ≠ 0) (hb1 : inf.bytes ≤ 65536) (hn : n ≤ 16777216) (hlen : len ≤ 16777216)
    (hnews : News P zs z k n Y NEWS w) (hnews2 : News P zs z k n Y NEWS w.drew) (hnl : NEWS.length = n * k) (hroom : C < len + n) {OLDS : List Value} (hol : OLDS.length = len * k) (hof : (Builtin.firstCells k len (.slice base len C)).run P w.drew = .ok ⟨OLDS⟩ w.drew) :
    ∃ cap more w', (Builtin.append_ ats ty #[.slice base len C, Y]).run P w = .ok (.slice (some ⟨w.heap.size, 0, none⟩) (len + n) cap) w' ∧ Grew w w' (.cells ⟨(OLDS ++ NEWS) ++ more⟩ el) ∧ len + n ≤ cap ∧ cap * k = (OLDS ++ NEWS).length + more.length := by
  have szr : ∀ w, (sizeOf el).run P w = .ok k w := fun w => size_run (by unfold size?; rw [hi]; simp [hk]) w
  have zc : z.cells = ⟨cells z⟩ := by apply Array.ext'; rw [cells_eq]
  obtain ⟨cap, hcap⟩ : ∃ cap, (Question.appendCap (len + n) C el).cut (w.tape w.drawn (.appendCap (len + n) C el)) = cap := ⟨_, rfl⟩
  have hge : len + n ≤ cap := by rw [← hcap]; exact Nat.le_add_right _ _
  obtain ⟨w', hw'⟩ : ∃ w', w' = w.drew.alloc (.cells ⟨(OLDS ++ NEWS) ++ reps (cap - (len + n)) (cells z)⟩ el) := ⟨_, rfl⟩
  refine ⟨cap, reps (cap - (len + n)) (cells z), w', ?_, ?_, hge, ?_⟩
  · unfold Builtin.append_
    simp only [h0, h1, List.getElem?_toArray, List.getElem?_cons_zero, List.getElem?_cons_succ]
    rw [map_ok _ (run_underlying hu w)]
    dsimp only
    rw [map_ok _ (szr w), map_ok _ (run_underlying hd w)]
    have h63 : ¬ (((len + n : Nat) : Int) > IntKind.i64.max ∧ (zs = true ∨ inf.bytes = 0)) := by
      intro h
      have : IntKind.i64.max = 9223372036854775807 := by decide
      rw [this] at h; omega
    have h48 : ¬ (Builtin.nextslicecap (len + n) C * inf.bytes > 2 ^ 48) := by
      have h1 := next_le hroom
      have h2 : Builtin.nextslicecap (len + n) C * inf.bytes ≤ (2 * (len + n) + 768) * 65536 := Nat.mul_le_mul h1 hb1
      have h3 : (2 ^ 48 : Nat) = 281474976710656 := by decide
      rw [h3]; omega
    have hask : ∀ n w, (askRoom n).run P w = .ok () w := fun n w => by unfold askRoom; split <;> rfl
    have hch : (choose (.appendCap (len + n) C el)).run P w = .ok cap w.drew := by rw [run_choose_drew]; simp only [Question.forced, Bool.false_eq_true, if_false, hcap]
    have hnr : (Go.newRow el (⟨OLDS⟩ ++ ⟨NEWS⟩ ++ Builtin.zeroCells z.cells (cap - (len + n)))).run P w.drew = .ok ⟨w.heap.size, 0, none⟩ w' := by
      rw [zc, zeroCells_eq]
      unfold Go.newRow
      rw [map_ok' _ (run_newObj_alloc P w.drew _), hw']
      have e : (⟨OLDS⟩ ++ ⟨NEWS⟩ ++ (⟨reps (cap - (len + n)) (cells z)⟩ : Array Value)) = ⟨(OLDS ++ NEWS) ++ reps (cap - (len + n)) (cells z)⟩ := by apply Array.ext'; simp
      rw [e]; rfl
    rcases hzs with ⟨rfl, hd'⟩ | ⟨rfl, kk, rfl⟩
    · rcases hnews with ⟨h, _⟩ | ⟨_, hl, hf⟩
      · cases h
      · rcases hnews2 with ⟨h, _⟩ | ⟨_, _, hf2⟩
        · cases h
        · rw [map_ok (a := false) _ (by cases d <;> first | rfl | exact absurd rfl (hd' _))]
          simp only [Bool.false_eq_true, if_false, Bool.not_false, if_true]
          rw [map_ok _ hl, if_neg (by omega), map_ok _ (info_run hi w), if_neg (by simpa using h63), map_ok _ (info_run hi w), if_neg h48]
          rw [map_ok' _ hch, map_ok _ (info_run hi _), map_ok _ (hask _ _), map_ok _ hof, map_ok _ hf2, map_ok _ (zero_run hz _), map_ok' _ hnr]; rfl
    · rcases hnews with ⟨_, q, rfl, hn2, rfl⟩ | ⟨h, _⟩
      · rw [map_ok (a := true) _ rfl]
        simp only [if_true, Bool.not_true, Bool.false_eq_true, if_false]
        rw [map_ok (a := (n : Int)) _ rfl]
        have w1 : IntKind.i64.wrap (n : Int) = n := IntWalk.i64_in _ (by omega)
        rw [w1, if_neg (by omega), map_ok _ (info_run hi w)]
        have hbig : ¬ ((n : Int) * (inf.bytes : Int) > 2 ^ 48) := by
          have h1 : n * inf.bytes ≤ 2 ^ 48 := Nat.le_trans (Nat.mul_le_mul hn hb1) (by decide)
          have : ((n * inf.bytes : Nat) : Int) ≤ ((2 ^ 48 : Nat) : Int) := Int.ofNat_le.2 h1
          simp only [Int.natCast_mul] at this
          have e : ((2 ^ 48 : Nat) : Int) = (2 : Int) ^ 48 := by simp
          rw [e] at this; omega
        rw [if_neg hbig, map_ok (a := n) _ (by simp), if_neg (by omega), map_ok _ (info_run hi w), if_neg (by simpa using h63), map_ok _ (info_run hi w), if_neg h48]
        rw [map_ok' _ hch, map_ok _ (info_run hi _), map_ok _ (hask _ _), map_ok _ hof]
        have hz2 : ((if n * k = 0 then pure #[] else do let zz ← zeroValue el; pure (Builtin.zeroCells zz.cells n)) : Sem (Array Value)).run P w.drew = .ok ⟨reps n (cells z)⟩ w.drew := by
          by_cases hnk : n * k = 0
          · rw [if_pos hnk]
            have er : reps n (cells z) = [] := List.eq_nil_of_length_eq_zero (by rw [reps_length, hzk]; exact hnk)
            rw [er]; rfl
          · rw [if_neg hnk, map_ok _ (zero_run hz _), zc, zeroCells_eq]; rfl
        rw [map_ok _ hz2, map_ok _ (zero_run hz _), map_ok' _ hnr]; rfl
      · cases h
  · rw [hw']
    have g := Grew.alloc w.drew (.cells ⟨(OLDS ++ NEWS) ++ reps (cap - (len + n)) (cells z)⟩ el)
    exact ⟨g.os, g.tape, g.output, g.size, g.old, g.new⟩
  · rw [List.length_append, reps_length, hol, hnl, hzk, ← Nat.add_mul, ← Nat.add_mul]; congr 1; omega
end
end
end Go.Proofs.YthelmobipjekjaaGreat.Ev
