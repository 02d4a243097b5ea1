/- What the runner's operations on memory give, the model's give. -/
import Derived.Test.YthelmobipjekjaaGreatLi
import Derived.Laws.BytesString
import Derived.Laws.IdiomCopy
import Derived.Laws.Rows
import Derived.Below
import Derived.WalkKit
set_option linter.unusedVariables false
set_option linter.unusedSimpArgs false
namespace Go.Proofs.YthelmobipjekjaaGreat.Ev
open Go Go.RowKit
/-! ### one thing changes -/
section
variable {P : Program} {μ : Mp} {m : Me} {w : World}
/-- What lies alone in its block is another one. -/
theorem HR.change {i : Nat} {o o' : AO} {p : Pl} {w' : World} (hm : HR P μ m w) (hi : m.h.get i = some o) (hl : live o = true) (hu : unf o = true) (ha : anc o = []) (hp : μ i = some p) (ho : OM P μ p w' o') (hl' : live o' = true)
    (hw : ∀ b, b ≠ p.blk → w'.heap[b]? = w.heap[b]?) (hs : w'.heap.size = w.heap.size) (h1 : w'.os = w.os) (h2 : w'.tape = w.tape) (h3 : w'.output = w.output) :
    HR P μ (.mk (m.h.put i o') m.n) w' ∧ Ext μ m w μ (.mk (m.h.put i o') m.n) w' := by
  have gone : ∀ j u q, j ≠ i → m.h.get j = some u → live u = true → μ j = some q → q.blk ≠ p.blk := fun j u q hj hgo hl2 hq e => by
    have := (hm.apart i o j u p q hi hl hu hgo hl2 hj hp hq e.symm).1
    rw [ha] at this; cases this
  have hget : ∀ j u, (m.h.put i o').get j = some u → (j = i ∧ u = o') ∨ (j ≠ i ∧ m.h.get j = some u) := fun j u h => by
    by_cases e : j = i
    · subst e; rw [Tr.get_put_same] at h; cases h; exact .inl ⟨rfl, rfl⟩
    · rw [Tr.get_put_ne _ _ e] at h; exact .inr ⟨e, h⟩
  refine ⟨⟨fun j u h hl2 => ?_, fun j u h => ?_, fun j u j' u' pi pj h hl2 hu2 h' hl3 hne hpi hpj he => ?_⟩, ?_⟩
  · rcases hget j u h with ⟨rfl, rfl⟩ | ⟨e, h⟩
    · exact ⟨p, hp, ho⟩
    · obtain ⟨q, hq, hom⟩ := hm.obj j u h hl2
      exact ⟨q, hq, hom.mono (Mp.Le.refl _) (hw _ (gone j u q e h hl2 hq))⟩
  · rcases hget j u h with ⟨rfl, rfl⟩ | ⟨e, h⟩
    · exact hm.few _ _ hi
    · exact hm.few j u h
  · rcases hget j u h with ⟨e, _⟩ | ⟨e, k1⟩
    · rcases hget j' u' h' with ⟨e', _⟩ | ⟨e', k2⟩
      · exact absurd (e'.trans e.symm) hne
      · rw [e, hp] at hpi; cases hpi; exact absurd he.symm (gone j' u' pj e' k2 hl3 hpj)
    · rcases hget j' u' h' with ⟨e', _⟩ | ⟨e', k2⟩
      · rw [e', hp] at hpj; cases hpj; exact absurd he (gone j u pi e k1 hl2 hpi)
      · exact hm.apart j u j' u' pi pj k1 hl2 hu2 k2 hl3 hne hpi hpj he
  · refine ⟨h1, h2, h3, Nat.le_of_eq hs.symm, Mp.Le.refl _, Nat.le_refl _, fun j h k => absurd h k, fun b _ hb => hw b (fun e => hb ⟨i, o, p, hi, hl, hp, e.symm⟩), fun b _ ⟨j, u, q, h, hl2, hq, e⟩ => ?_⟩
    rcases hget j u h with ⟨rfl, rfl⟩ | ⟨e', h⟩
    · rw [hp] at hq; cases hq; exact ⟨j, o, p, hi, hl, hp, e⟩
    · exact ⟨j, u, q, h, hl2, hq, e⟩
/-- The row's bytes are frozen behind its end. -/
theorem HR.behind {i : Nat} {c : Tr Value} {len el : Nat} {an : List Nat} {f : Bool} {p : Pl} (hm : HR P μ m w) (hi : m.h.get i = some (.row c len el an f)) (hp : μ i = some p) (o : Nat) :
    ∃ w', (markStringish ⟨p.blk, o, none⟩).run P w = .ok () w' ∧ HR P μ m w' ∧ Ext μ m w μ m w' := by
  obtain ⟨cs, ty, fz, sz, g1, g2⟩ := hm.row hi hp
  obtain ⟨w', hw'⟩ : ∃ w', w' = w.freeze ⟨p.blk, cs.size, none⟩ 1 := ⟨_, rfl⟩
  have hh : w'.heap = w.heap.modify p.blk fun
      | .cells c elem (lo, hi) => .cells c elem (if lo == hi then (cs.size, cs.size + 1) else (min lo cs.size, max hi (cs.size + 1)))
      | o => o := by rw [hw']; rfl
  have hb : w'.heap[p.blk]? = some (.cells cs ty (if fz.1 == fz.2 then (cs.size, cs.size + 1) else (min fz.1 cs.size, max fz.2 (cs.size + 1)))) := by
    rw [hh, Array.getElem?_modify, if_pos rfl, g1]; rfl
  have ho : ∀ b, b ≠ p.blk → w'.heap[b]? = w.heap[b]? := fun b hb => by rw [hh, Array.getElem?_modify, if_neg (fun e => hb e.symm)]
  have key : ∀ q u, OM P μ q w u → live u = true → OM P μ q w' u := fun q u h hl => by
    by_cases e : q.blk = p.blk
    · cases u with
      | row c' len' el' an' f' =>
        obtain ⟨cs', ty', fz', sz', k1, k2, k3, k4, k5, k6⟩ := h
        rw [e, g1] at k1
        cases k1
        refine ⟨cs, ty, _, sz', by rw [e]; exact hb, k2, ?_, k4, k5, k6⟩
        by_cases c1 : fz.1 = fz.2
        · rw [if_pos (by simpa using c1)]; right; simp
        · rw [if_neg (by simpa using c1)]
          right
          simp only
          omega
      | mp es cl => obtain ⟨_, k1, _⟩ := h; rw [e, g1] at k1; cases k1
      | lp => obtain ⟨_, _, _, k1, _⟩ := h; rw [e, g1] at k1; cases k1
      | df tk => have k1 : w.heap[q.blk]? = _ := h; rw [e, g1] at k1; cases k1
      | it => obtain ⟨_, _, k1, _⟩ := h; rw [e, g1] at k1; cases k1
      | dead => cases hl
    · exact h.mono (Mp.Le.refl _) (ho _ e)
  refine ⟨w', ?_, ⟨fun j u h hl => ?_, hm.few, hm.apart⟩, ?_⟩
  · unfold markStringish
    have hsh : (shape p.blk).run P w = .ok (some (ty, cs.size)) w := by
      show Result.ok (w.shape? p.blk) w = _
      unfold World.shape?
      rw [g1]
    rw [map_ok' _ hsh, hw']; rfl
  · obtain ⟨q, hq, hom⟩ := hm.obj j u h hl
    exact ⟨q, hq, key q u hom hl⟩
  · exact ⟨by rw [hw']; rfl, by rw [hw']; rfl, by rw [hw']; rfl, by rw [hh]; simp, Mp.Le.refl _, Nat.le_refl _, fun j h k => absurd h k, fun b _ hb => ho b (fun e => hb ⟨i, _, p, hi, rfl, hp, e.symm⟩), fun b _ h => h⟩
/-- Some are given up. -/
theorem HR.gaveUp {h' : Tr AO} (hm : HR P μ m w) (hh : ∀ j, h'.get j = m.h.get j ∨ (h'.get j = some .dead ∧ ∃ o, m.h.get j = some o)) :
    HR P μ (.mk h' m.n) w ∧ ∀ b, Img μ (.mk h' m.n) b → Img μ m b := by
  have back : ∀ j o, h'.get j = some o → live o = true → m.h.get j = some o := fun j o h hl => by
    rcases hh j with h1 | ⟨h1, _⟩
    · rw [← h1]; exact h
    · rw [h1] at h; cases h; cases hl
  refine ⟨⟨fun j o h hl => hm.obj j o (back j o h hl) hl, fun j o h => ?_, fun i o j o' p q h hl hu h' hl' hne hp hq he => hm.apart i o j o' p q (back i o h hl) hl hu (back j o' h' hl') hl' hne hp hq he⟩, fun b ⟨j, o, q, h, hl, hq, e⟩ => ⟨j, o, q, back j o h hl, hl, hq, e⟩⟩
  rcases hh j with h1 | ⟨h1, o2, h2⟩
  · exact hm.few j o (by rw [← h1]; exact h)
  · exact hm.few j o2 h2
/-- One is grown of. -/
theorem HR.iced {b : Nat} {c : Tr Value} {len el : Nat} {an : List Nat} {f : Bool} (hm : HR P μ m w) (hb : m.h.get b = some (.row c len el an f)) :
    HR P μ (.mk (m.h.put b (.row c len el an true)) m.n) w ∧ ∀ x, Img μ (.mk (m.h.put b (.row c len el an true)) m.n) x → Img μ m x := by
  have hget : ∀ j u, (m.h.put b (.row c len el an true)).get j = some u → (j = b ∧ u = .row c len el an true) ∨ (j ≠ b ∧ m.h.get j = some u) := fun j u h => by
    by_cases e : j = b
    · subst e; rw [Tr.get_put_same] at h; cases h; exact .inl ⟨rfl, rfl⟩
    · rw [Tr.get_put_ne _ _ e] at h; exact .inr ⟨e, h⟩
  refine ⟨⟨fun j o h hl => ?_, fun j o h => ?_, fun i o j o' p q h hl hu h' hl' hne hp hq he => ?_⟩, fun x ⟨j, o, q, h, hl, hq, e⟩ => ?_⟩
  · rcases hget j o h with ⟨rfl, rfl⟩ | ⟨e, h⟩
    · obtain ⟨p, hp, ho⟩ := hm.obj _ _ hb rfl
      exact ⟨p, hp, ho⟩
    · exact hm.obj j o h hl
  · rcases hget j o h with ⟨rfl, rfl⟩ | ⟨e, h⟩
    · exact hm.few _ _ hb
    · exact hm.few j o h
  · rcases hget i o h with ⟨_, eo⟩ | ⟨e, k1⟩
    · rw [eo] at hu; cases hu
    · rcases hget j o' h' with ⟨e', eo⟩ | ⟨e', k2⟩
      · have := hm.apart i o b _ p q k1 hl hu hb rfl (by rw [← e']; exact hne) hp (by rw [← e']; exact hq) he
        rw [eo, e']
        exact ⟨this.1, rfl, this.2.2⟩
      · exact hm.apart i o j o' p q k1 hl hu k2 hl' hne hp hq he
  · rcases hget j o h with ⟨rfl, rfl⟩ | ⟨e', h⟩
    · exact ⟨_, _, q, hb, rfl, hq, e⟩
    · exact ⟨j, o, q, h, hl, hq, e⟩
/-- One more grows within a block that there was. -/
theorem HR.inplace {m0 : Me} {B O : Nat} {VS : List Value} {cs : Array Value} {ty : TypeId} {fz : Nat × Nat} {ob : AO} {p : Pl} (hm : HR P μ m w) (hf : μ m.n = none) (hc : w.heap[B]? = some (.cells cs ty fz)) (hin : O + VS.length ≤ cs.size) (hn : m0.n = m.n)
    (hB : Img μ m0 B) (himg : ∀ b, Img μ m b → Img μ m0 b) (hall : ∀ j o q, m.h.get j = some o → live o = true → μ j = some q → q.blk = B → j ∈ anc ob ∧ unf o = false ∧ endOf q o ≤ O) (hO : O ≤ endOf p ob) (hpB : p.blk = B)
    (hl : live ob = true) (ho : OM P (μ.with m.n p) p (w.setCells B O VS) ob) :
    HR P (μ.with m.n p) (.mk (m.h.put m.n ob) (m.n + 1)) (w.setCells B O VS) ∧ Ext μ m0 w (μ.with m.n p) (.mk (m.h.put m.n ob) (m.n + 1)) (w.setCells B O VS) := by
  obtain ⟨cs', e1, e2, e3, e4, e5, e6, e7, e8⟩ := setCells_heap B VS O w hc hin
  have hget : ∀ j u, (m.h.put m.n ob).get j = some u → (j = m.n ∧ u = ob) ∨ (j ≠ m.n ∧ m.h.get j = some u) := fun j u h => by
    by_cases e : j = m.n
    · subst e; rw [Tr.get_put_same] at h; cases h; exact .inl ⟨rfl, rfl⟩
    · rw [Tr.get_put_ne _ _ e] at h; exact .inr ⟨e, h⟩
  refine ⟨⟨fun j u h hl2 => ?_, fun j u h => ?_, fun i o j o' pi pj h hl2 hu h' hl3 hne hpi hpj he => ?_⟩, ?_⟩
  · rcases hget j u h with ⟨rfl, rfl⟩ | ⟨e, h⟩
    · exact ⟨p, Mp.with_same _ _ _, ho⟩
    · obtain ⟨q, hq, hom⟩ := hm.obj j u h hl2
      refine ⟨q, by rw [Mp.with_ne _ _ e]; exact hq, ?_⟩
      by_cases eb : q.blk = B
      · obtain ⟨_, k2, k3⟩ := hall j u q h hl2 hq eb
        cases u with
        | row c len el an f =>
          obtain ⟨cs2, ty2, fz2, sz, g1, g2, g3, g4, g5, g6⟩ := hom
          rw [eb, hc] at g1
          cases g1
          refine ⟨cs', ty, fz, sz, by rw [eb]; exact e1, fun k v hk => ?_, by rw [e2]; exact g3, g4, g5, by rw [e2]; exact g6⟩
          obtain ⟨a1, a2, V, a3, a4⟩ := g2 k v hk
          simp only [endOf] at k3
          exact ⟨a1, a2, V, by rw [e3, if_neg (by omega)]; exact a3, a4.mono (Mp.le_with _ hf)⟩
        | _ => cases k2
      · exact hom.mono (Mp.le_with _ hf) (e4 _ eb)
  · rcases hget j u h with ⟨rfl, rfl⟩ | ⟨e, h⟩
    · exact Nat.lt_succ_self _
    · exact Nat.lt_succ_of_lt (hm.few j u h)
  · rcases hget i o h with ⟨ei, eo⟩ | ⟨e, h⟩
    · rcases hget j o' h' with ⟨e', _⟩ | ⟨e', h'⟩
      · exact absurd (e'.trans ei.symm) hne
      · rw [ei, Mp.with_same] at hpi; cases hpi
        rw [Mp.with_ne _ _ e'] at hpj
        obtain ⟨k1, k2, k3⟩ := hall j o' pj h' hl3 hpj (by rw [← he]; exact hpB)
        rw [eo]
        exact ⟨k1, k2, Nat.le_trans k3 hO⟩
    · rw [Mp.with_ne _ _ e] at hpi
      rcases hget j o' h' with ⟨e', _⟩ | ⟨e', h'⟩
      · rw [e', Mp.with_same] at hpj; cases hpj
        obtain ⟨k1, k2, k3⟩ := hall i o pi h hl2 hpi (by rw [he]; exact hpB)
        rw [hu] at k2; cases k2
      · rw [Mp.with_ne _ _ e'] at hpj
        exact hm.apart i o j o' pi pj h hl2 hu h' hl3 hne hpi hpj he
  · refine ⟨e6, e7, e8, Nat.le_of_eq e5.symm, Mp.le_with _ hf, by show m0.n ≤ m.n + 1; omega, fun i h1 h2 => ?_, fun b _ hb => e4 b (fun e => hb (by rw [e]; exact hB)), fun b hb ⟨i, o, q, h, hl2, hq, e⟩ => ?_⟩
    · by_cases e : i = m.n
      · exact ⟨by omega, by show i < m.n + 1; omega⟩
      · rw [Mp.with_ne _ _ e] at h2; exact absurd h1 h2
    · rcases hget i o h with ⟨rfl, rfl⟩ | ⟨e', h⟩
      · rw [Mp.with_same] at hq; cases hq; rw [← e, hpB]; exact hB
      · rw [Mp.with_ne _ _ e'] at hq; exact himg b ⟨i, o, q, h, hl2, hq, e⟩
end
end Go.Proofs.YthelmobipjekjaaGreat.Ev
