/- What the runner's operations on memory give, the model's give. -/
import Derived.Test.YthelmobipjekjaaGreatLj
import Derived.Laws.BytesString
import Derived.Laws.IdiomCopy
import Derived.Laws.Rows
import Derived.Below
import Derived.WalkKit
set_option linter.unusedVariables false
set_option linter.unusedSimpArgs false
namespace Go.Proofs.YthelmobipjekjaaGreat.Ev
open Go Go.RowKit
/-! ### append -/
section
variable {P : Program} {μ : Mp} {m : Me} {w : World}
theorem OM.sub {p : Pl} {c c' : Tr Value} {len el : Nat} {an an' : List Nat} {f f' : Bool} (h : OM P μ p w (.row c len el an f)) (hc : ∀ k v, c'.get k = some v → c.get k = some v) : OM P μ p w (.row c' len el an' f') := by
  obtain ⟨cs, ty, fz, sz, g1, g2, g3⟩ := h
  exact ⟨cs, ty, fz, sz, g1, fun k v hk => g2 k v (hc k v hk), g3⟩
/-- What an operation does to memory. -/
def Does (P : Program) (μ : Mp) (m : Me) (w : World) (v : Value) (m' : Me) (s : Sem Value) : Prop :=
  ∃ ν V w', s.run P w = .ok V w' ∧ VR ν v V ∧ HR P ν m' w' ∧ Ext μ m w ν m' w'
theorem newRow_some {el n : Nat} {cs : List Value} {v : Value} {m' : Me} (h : Ev.newRow el cs n m = some (v, m')) :
    v = .slice (some ⟨m.n, 0, none⟩) n sym ∧ m' = .mk (m.h.put m.n (.row (Tr.ofList cs) cs.length el [] false)) (m.n + 1) := by
  unfold Ev.newRow at h
  simp only [fN_eq, Tr.putsK_eq, Me.new_eq, Option.some.injEq, Prod.mk.injEq] at h
  exact ⟨h.1.symm, h.2.symm⟩
theorem newsOf_zero {h : Tr AO} {zs : Bool} {z : List Value} {k : Nat} {y : Value} {news : List Value} (hn : newsOf h zs z k y = some (news, 0)) : news = [] := by
  unfold newsOf at hn
  split at hn
  · rename_i q j
    cases hb : (zs && Nat.ble j 16777216) with
    | false => rw [hb] at hn; cases hn
    | true => rw [hb] at hn; simp only [cond_true, Option.some.injEq, Prod.mk.injEq] at hn; obtain ⟨h1, rfl⟩ := hn; exact h1.symm
  · rename_i l c
    cases hb : (zs || !Nat.beq l 0) with
    | false => rw [hb] at hn; simp only [cond_false, Option.some.injEq, Prod.mk.injEq] at hn; exact hn.1.symm
    | true => rw [hb] at hn; cases hn
  · rename_i b j c
    cases zs with
    | true => cases hn
    | false =>
      simp only [cond_false] at hn
      cases hb : Nat.beq j 0 with
      | true => rw [hb] at hn; simp only [cond_true, Option.some.injEq, Prod.mk.injEq] at hn; exact hn.1.symm
      | false =>
        rw [hb] at hn
        obtain ⟨_, _, _, _, _, _, _, _, _, hn⟩ := rowThen_some hn
        split at hn
        · simp only [Option.some.injEq, Prod.mk.injEq] at hn
          obtain ⟨_, rfl⟩ := hn
          cases hb
        · cases hn
  · rename_i s
    cases hb : (Nat.beq k 1 && !zs) with
    | false => rw [hb] at hn; cases hn
    | true =>
      rw [hb] at hn
      simp only [cond_true, Option.some.injEq, Prod.mk.injEq] at hn
      obtain ⟨rfl, h2⟩ := hn
      have : s.data.toList = [] := List.eq_nil_of_length_eq_zero h2
      rw [this]; rfl
  · cases hn
/-- The cells of a block that are there. -/
theorem olds_of_row {b off k len C : Nat} {cs : Array Value} {ty : TypeId} {fz : Nat × Nat} (hb : w.heap[b]? = some (.cells cs ty fz)) (hlen : len ≠ 0 → off + len * k ≤ cs.size) :
    ∃ OLDS : List Value, OLDS.length = len * k ∧ (∀ j, j < len * k → OLDS[j]? = cs[off + j]?) ∧ (Builtin.firstCells k len (.slice (some ⟨b, off, none⟩) len C)).run P w = .ok ⟨OLDS⟩ w := by
  by_cases h0 : len = 0
  · subst h0
    refine ⟨[], by simp, fun j hj => by omega, ?_⟩
    unfold Builtin.firstCells
    have := run_loadCells_list (P := P) w ⟨b, off, none⟩ [] (fun j v hv => by simp at hv)
    simpa using this
  have hlen := hlen h0
  have g : ∀ j, j < len * k → (((cs.toList.drop off).take (len * k))[j]?) = cs[off + j]? := fun j hj => by
    rw [List.getElem?_take, if_pos hj, List.getElem?_drop, Array.getElem?_toList]
  have hl : ((cs.toList.drop off).take (len * k)).length = len * k := by rw [List.length_take, List.length_drop, Array.length_toList]; omega
  refine ⟨(cs.toList.drop off).take (len * k), hl, g, ?_⟩
  unfold Builtin.firstCells
  have := run_loadCells_list (P := P) w ⟨b, off, none⟩ ((cs.toList.drop off).take (len * k)) (fun j v hv => by
    have hj : j < len * k := by rw [← hl]; exact (List.getElem?_eq_some_iff.1 hv).1
    rw [add_at, cell_of_row _ _ _ _ _ _ hb, ← g j hj]; exact hv)
  rw [hl] at this
  exact this
theorem first_of_row {b off k len C : Nat} {c : Tr Value} {rl el : Nat} {an : List Nat} {f : Bool} {p : Pl} {olds : List Value} (hm : HR P μ m w) (hb : m.h.get b = some (.row c rl el an f)) (hp : μ b = some p) (hs : c.slice (len * k) off = some olds) :
    ∃ OLDS, VRs μ olds OLDS ∧ OLDS.length = len * k ∧ (Builtin.firstCells k len (.slice (some ⟨p.blk, p.base + off, none⟩) len C)).run P w = .ok ⟨OLDS⟩ w := by
  obtain ⟨L, h1, h2, h3⟩ := (hm.row hb hp).cells hs
  refine ⟨L, h1, h2, ?_⟩
  unfold Builtin.firstCells
  have := run_loadCells_list (P := P) w ⟨p.blk, p.base + off, none⟩ L h3
  simp only [← h2]
  exact this
section
variable {ats : Array TypeId} {ty t u el n k len cap : Nat} {d : TypeDesc} {inf : TypeInfo} {z : Value} {zs : Bool} {base : Option Addr} {x X y Y v : Value} {news : List Value} {m' : Me}
theorem append_sound (h0 : ats[0]? = some t) (h1 : ats[1]? = some u) (hu : P.underlying t = some (.slice el)) (hd : P.underlying u = some d) (hzs : (zs = false ∧ ∀ k, d ≠ .int k) ∨ (zs = true ∧ ∃ k, d = .int k)) (hi : P.info? el = some inf) (hk : inf.size = k) (hk0 : k ≠ 0) (hz : zero? P el = some z) (hzk : (cells z).length = k)
    (hb0 : inf.bytes ≠ 0) (hb1 : inf.bytes ≤ 65536) (h : appendV el k (cells z) zs x y m = some (v, m')) (hm : HR P μ m w) (hX : VR μ x X) (hY : VR μ y Y) (hf : Free μ m.n m'.n) :
    Does P μ m w v m' (Builtin.append_ ats ty #[X, Y]) := by
  have hsz : size? P el = some k := by unfold size?; rw [hi]; simp [hk]
  unfold appendV at h
  split at h
  · rename_i base len cap
    split at h
    · cases h
    · rename_i news n hnews
      cases hn0 : Nat.beq n 0 with
      | true =>
        rw [hn0] at h
        obtain rfl : n = 0 := Nat.eq_of_beq_eq_true hn0
        simp only [cond_true] at h
        cases hb : (base.isSome || (Nat.beq len 0 && Nat.beq cap 0)) with
        | false => rw [hb] at h; cases h
        | true =>
          rw [hb] at h
          simp only [cond_true, Option.some.injEq, Prod.mk.injEq] at h
          obtain ⟨rfl, rfl⟩ := h
          have hnil := newsOf_zero hnews
          obtain ⟨NEWS, g1, g2⟩ := news_sound hnews hm hY hz hzk (by rw [hnil]; simp)
          rw [hnil] at g1
          obtain rfl := g1.nil_inv
          obtain ⟨B, C, rfl, hlC⟩ : ∃ B C, X = .slice B len C ∧ len ≤ C := by
            cases base with
            | none =>
              simp only [Option.isSome_none, Bool.false_or, Bool.and_eq_true] at hb
              have e1 : len = 0 := Nat.eq_of_beq_eq_true hb.1
              exact ⟨_, _, hX.of_flat rfl, by omega⟩
            | some a =>
              rcases hX.sl_inv with ⟨p, _, _, hl, e⟩ | ⟨_, e1, _, A, C, e⟩
              · exact ⟨_, _, e, hl⟩
              · subst e1; exact ⟨_, _, e, Nat.zero_le _⟩
          refine ⟨μ, _, w, append_in h0 h1 hu hd hzs hi hk hz hzk hb1 (Nat.zero_le _) g2 (by omega) (w' := w) (by cases B <;> rfl), hX, hm, Ext.refl _ _ _⟩
      | false =>
        rw [hn0] at h
        have hn1 : n ≠ 0 := fun e => by subst e; cases hn0
        simp only [cond_false] at h
        cases hb : (Nat.ble n 16777216 && Nat.ble len 16777216 && ones news && Nat.beq news.length (n * k)) with
        | false => rw [hb] at h; cases h
        | true =>
          rw [hb] at h
          simp only [Bool.not_true, cond_false] at h
          simp only [Bool.and_eq_true, Nat.ble_eq] at hb
          obtain ⟨⟨⟨hbn, hbl⟩, hon⟩, hnl⟩ := hb
          have hnl : news.length = n * k := Nat.eq_of_beq_eq_true hnl
          obtain ⟨NEWS, g1, g2⟩ := news_sound hnews hm hY hz hzk hnl
          obtain ⟨NEWS', g1', g2'⟩ := news_sound hnews hm.drew hY hz hzk hnl
          -- what is appended is the same behind the drawing
          have g3 : News P zs z k n Y NEWS w.drew := by
            rcases g2 with ⟨e, q, e1, e2, e3⟩ | ⟨e, e1, e2⟩
            · exact .inl ⟨e, q, e1, e2, e3⟩
            · rcases g2' with ⟨e', _⟩ | ⟨_, e1', e2'⟩
              · rw [e] at e'; cases e'
              · refine .inr ⟨e, e1', ?_⟩
                have hc : ∀ A, w.drew.cell? A = w.cell? A := fun A => rfl
                have hee : NEWS' = NEWS := by
                  unfold newsOf at hnews
                  split at hnews
                  · rename_i q j
                    cases hbb : (zs && Nat.ble j 16777216) with
                    | false => rw [hbb] at hnews; cases hnews
                    | true => rw [e] at hbb; cases hbb
                  · rename_i l c
                    cases hbb : (zs || !Nat.beq l 0) with
                    | true => rw [hbb] at hnews; cases hnews
                    | false =>
                      rw [hbb] at hnews
                      simp only [cond_false, Option.some.injEq, Prod.mk.injEq] at hnews
                      rw [← hnews.1] at g1 g1'
                      rw [g1.nil_inv, g1'.nil_inv]
                  · rename_i b j c
                    obtain ⟨A, C, eY⟩ := hY.slsome
                    rw [eY] at e2 e2'
                    rw [e] at hnews
                    simp only [cond_false] at hnews
                    cases hbb : Nat.beq j 0 with
                    | true =>
                      rw [hbb] at hnews
                      simp only [cond_true, Option.some.injEq, Prod.mk.injEq] at hnews
                      rw [← hnews.1] at g1 g1'
                      rw [g1.nil_inv, g1'.nil_inv]
                    | false =>
                      rw [hbb] at hnews
                      simp only [cond_false] at hnews
                      obtain ⟨bb, o, cc, rl, el', an, fz, rfl, hbb', hnews⟩ := rowThen_some hnews
                      split at hnews
                      · rename_i l hl
                        simp only [Option.some.injEq, Prod.mk.injEq] at hnews
                        obtain ⟨rfl, rfl⟩ := hnews
                        rcases hY.sl_inv with ⟨p, _, hp, _, e5⟩ | ⟨e5, _⟩
                        · rw [eY] at e5
                          cases e5
                          obtain ⟨L, k1, k2, k3⟩ := (hm.row hbb' hp).cells hl
                          have r1 := run_loadCells_list (P := P) w ⟨p.blk, p.base + o, none⟩ L k3
                          have r2 := run_loadCells_list (P := P) w.drew ⟨p.blk, p.base + o, none⟩ L k3
                          unfold Builtin.firstCells at e2 e2'
                          simp only [k2] at r1 r2
                          have e2 : (loadCells ⟨p.blk, p.base + o, none⟩ (j * k)).run P w = .ok ⟨NEWS⟩ w := e2
                          have e2' : (loadCells ⟨p.blk, p.base + o, none⟩ (j * k)).run P w.drew = .ok ⟨NEWS'⟩ w.drew := e2'
                          rw [r1] at e2
                          rw [r2] at e2'
                          cases e2; cases e2'; rfl
                        · cases e5
                      · cases hnews
                  · rename_i s
                    have := (hY.str_inv)
                    rw [this] at e2 e2'
                    unfold Builtin.firstCells at e2 e2'
                    injection e2 with e2 _
                    injection e2' with e2' _
                    exact Array.mk.inj (e2'.symm.trans e2)
                  · cases hnews
                rw [← hee]; exact e2'
          have hNl : NEWS.length = n * k := by rw [← g1.1]; exact hnl
          -- a block of its own
          have own' : ∀ {m1 : Me} {OLDS : List Value} {c' : Tr Value} {rl' : Nat} {an : List Nat} {B : Option Addr} {C : Nat}, HR P μ m1 w → m1.n = m.n → (∀ b, Img μ m1 b → Img μ m b) → OLDS.length = len * k →
              (Builtin.firstCells k len (.slice B len C)).run P w.drew = .ok ⟨OLDS⟩ w.drew → C < len + n → X = .slice B len C → rl' = (len + n) * k →
              (∀ j u, c'.get j = some u → j < (len + n) * k ∧ one u = true ∧ ∃ V, (OLDS ++ NEWS)[j]? = some V ∧ VR μ u V) →
              v = .slice (some ⟨m1.n, 0, none⟩) (len + n) sym → m' = .mk (m1.h.put m1.n (.row c' rl' el an false)) (m1.n + 1) → Does P μ m w v m' (Builtin.append_ ats ty #[X, Y]) := by
            intro m1 OLDS c' rl' an B C hm1 hmn himg hOl hfc hC hXe hrl hsub hv hm'
            subst hrl
            obtain ⟨cap', more, w', r1, r2, r3, r4⟩ := append_new (ty := ty) h0 h1 hu hd hzs hi hk hz hzk hb0 hb1 hbn hbl g2 g3 hNl hC hOl hfc
            have hfree : μ m1.n = none := hf m1.n (by omega) (by rw [hm']; show m1.n < m1.n + 1; omega)
            have hob : OM P (μ.with m1.n ⟨w.heap.size, 0, cap'⟩) ⟨w.heap.size, 0, cap'⟩ w' (.row c' ((len + n) * k) el an false) := by
              refine ⟨⟨(OLDS ++ NEWS) ++ more⟩, el, (0, 0), k, r2.new, fun j u hj => ?_, .inl rfl, hsz, Nat.mul_le_mul_right _ r3, ?_⟩
              · obtain ⟨q1, q2, V, q3, q4⟩ := hsub j u hj
                refine ⟨q1, q2, V, ?_, q4.mono (Mp.le_with _ hfree)⟩
                have hkl := (List.getElem?_eq_some_iff.1 q3).1
                rw [show ((⟨(OLDS ++ NEWS) ++ more⟩ : Array Value)[0 + j]?) = ((OLDS ++ NEWS) ++ more)[j]? from by simp, List.getElem?_append_left hkl]; exact q3
              · show 0 + cap' * k ≤ ((OLDS ++ NEWS) ++ more).length
                rw [List.length_append, r4]; omega
            obtain ⟨q1, q2⟩ := hm1.grow r2 (p := ⟨w.heap.size, 0, cap'⟩) rfl hfree rfl hob
            refine ⟨_, _, w', by rw [hXe]; exact r1, ?_, by rw [hm']; exact q1, ?_⟩
            · rw [hv]; exact .sl' (Mp.with_same _ _ _) (by simp) (by rw [capOf_ge (Nat.le_refl _)]; simp) r3
            · rw [hm']
              refine ⟨q2.os, q2.tape, q2.output, q2.size, q2.le, by rw [← hmn]; exact q2.next, fun i a b => by rw [← hmn]; exact q2.dom i a b, fun b a c => q2.keep b a fun e => c (himg b e), fun b a c => himg b (q2.img b a c)⟩
          have own : ∀ {m1 : Me} {olds OLDS : List Value} {c' : Tr Value} {rl' : Nat} {an : List Nat} {B : Option Addr} {C : Nat}, HR P μ m1 w → m1.n = m.n → (∀ b, Img μ m1 b → Img μ m b) → VRs μ olds OLDS → olds.length = len * k → ones olds = true →
              (Builtin.firstCells k len (.slice B len C)).run P w.drew = .ok ⟨OLDS⟩ w.drew → C < len + n → X = .slice B len C → rl' = (len + n) * k →
              (∀ j u, c'.get j = some u → (olds ++ news)[j]? = some u) →
              v = .slice (some ⟨m1.n, 0, none⟩) (len + n) sym → m' = .mk (m1.h.put m1.n (.row c' rl' el an false)) (m1.n + 1) → Does P μ m w v m' (Builtin.append_ ats ty #[X, Y]) := by
            intro m1 olds OLDS c' rl' an B C hm1 hmn himg hol holl hoo hfc hC hXe hrl hsub hv hm'
            refine own' hm1 hmn himg (by rw [← hol.1]; exact holl) hfc hC hXe hrl (fun j u hj => ?_) hv hm'
            have hj' := hsub j u hj
            have app : ∀ a b : List Value, ones a = true → ones b = true → ones (a ++ b) = true := by
              intro a
              induction a with
              | nil => intro b _ h; exact h
              | cons x a ih =>
                intro b h1 h2
                simp only [ones, List.cons_append] at h1 ⊢
                cases hx : one x with
                | false => rw [hx] at h1; cases h1
                | true => rw [hx] at h1; exact ih b h1 h2
            obtain ⟨V, hV, hv'⟩ := (hol.append g1).get hj'
            have hjl := (List.getElem?_eq_some_iff.1 hj').1
            rw [List.length_append, holl, hnl, ← Nat.add_mul] at hjl
            exact ⟨hjl, ones_get (app _ _ hoo hon) _ _ hj', V, hV, hv'⟩
          -- where it stands
          have stay : ∀ {b off : Nat} {p : Pl} {c : Tr Value} {rl re : Nat} {an : List Nat} {f : Bool} {C : Nat}, m.h.get b = some (.row c rl re an f) → μ b = some p → X = .slice (some ⟨p.blk, p.base + off, none⟩) len C → len + n ≤ C →
              (writeK m ⟨b, off + len * k, none⟩ news fun m => fN (len + n) fun l => some (.slice (some ⟨b, off, none⟩) l cap, m)) = some (v, m') → C = capOf p cap → Does P μ m w v m' (Builtin.append_ ats ty #[X, Y]) := by
            intro b off p c rl re an f C hb hp hXe hC hw hCe
            obtain ⟨m1, w', k1, k2, k3, k4, k5⟩ := write_sound hw hm (a := ⟨b, off + len * k, none⟩) hp g1
            simp only [fN_eq, Option.some.injEq, Prod.mk.injEq] at k1
            obtain ⟨rfl, rfl⟩ := k1
            refine ⟨μ, .slice (some ⟨p.blk, p.base + off, none⟩) (len + n) C, w', ?_, ?_, k4, k5⟩
            · rw [hXe]
              exact append_in h0 h1 hu hd hzs hi hk hz hzk hb1 hbn g2 hC (base := some ⟨p.blk, p.base + off, none⟩) (by
                dsimp only
                rw [add_at, Nat.add_assoc]; exact k3)
            · exact .sl' hp rfl hCe hC
          split at h
          · -- nil
            cases hb : (Nat.beq len 0 && Nat.beq cap 0) with
            | false => rw [hb] at h; cases h
            | true =>
              rw [hb] at h
              simp only [cond_true] at h
              simp only [Bool.and_eq_true] at hb
              have el0 : len = 0 := Nat.eq_of_beq_eq_true hb.1
              have ec0 : cap = 0 := Nat.eq_of_beq_eq_true hb.2
              obtain ⟨e1, e2⟩ := newRow_some h
              have hXe := hX.of_flat (v := .slice none len cap) rfl
              refine own (olds := []) (OLDS := []) (c' := Tr.ofList news) (an := []) (B := none) (C := cap) hm rfl (fun _ h => h) VRs.nil (by rw [el0]; simp) rfl ?_ (by omega) hXe rfl (fun j u hj => by rw [Tr.get_ofList] at hj; exact hj) (by rw [e1, el0]; simp) (by rw [e2, hnl, el0]; simp)
              rw [el0]; rfl
          · rename_i b off
            split at h
            · rename_i c rl re an fz hb
              obtain ⟨p, hp, hlC, hXe⟩ : ∃ p, μ b = some p ∧ len ≤ capOf p cap ∧ X = .slice (some ⟨p.blk, p.base + off, none⟩) len (capOf p cap) := by
                rcases hX.sl_inv with ⟨p, _, hp, hlC, hXe⟩ | ⟨e, _⟩
                · exact ⟨p, hp, hlC, hXe⟩
                · cases e
              cases hre : Nat.beq re el with
              | false => rw [hre] at h; cases h
              | true =>
                rw [hre] at h
                obtain rfl : re = el := Nat.eq_of_beq_eq_true hre
                simp only [Bool.not_true, cond_false] at h
                obtain ⟨cs, cty, cfz, sz, o1, o2, o3, o4, o5, o6⟩ := hm.row hb hp
                rw [hsz] at o4
                cases o4
                have hofb : ∀ {olds : List Value}, c.slice (len * k) off = some olds → olds.length = len * k ∧ ones olds = true ∧ ∀ j, j < len * k → c.get (off + j) = olds[j]? := fun {olds} hs => by
                  obtain ⟨s1, s2⟩ := Tr.slice_spec _ _ _ _ hs
                  refine ⟨s1, ?_, s2⟩
                  have : ∀ l : List Value, (∀ (j : Nat) (u : Value), l[j]? = some u → one u = true) → ones l = true := by
                    intro l
                    induction l with
                    | nil => intro _; rfl
                    | cons x l ih => intro h; simp only [ones]; rw [h 0 x rfl]; exact ih fun j u hj => h (j + 1) u (by simpa using hj)
                  exact this _ fun j u hj => (o2 (off + j) u (by rw [s2 j (by rw [← s1]; exact (List.getElem?_eq_some_iff.1 hj).1)]; exact hj)).2.1
                cases hcc : capless cap with
                | false =>
                  rw [hcc] at h
                  simp only [cond_false] at h
                  have hcs : cap < sym := by
                    rcases Nat.lt_or_ge cap sym with h6 | h6
                    · exact h6
                    · rw [show capless cap = true from Nat.ble_eq_true_of_le h6] at hcc; cases hcc
                  rw [capOf_lt hcs] at hXe
                  cases hroom : Nat.ble (len + n) cap with
                  | true =>
                    rw [hroom] at h
                    simp only [cond_true] at h
                    exact stay hb hp hXe (Nat.le_of_ble_eq_true hroom) h (capOf_lt hcs).symm
                  | false =>
                    rw [hroom] at h
                    simp only [cond_false] at h
                    split at h
                    · cases h
                    · rename_i olds hs
                      obtain ⟨e1, e2⟩ := newRow_some h
                      obtain ⟨s1, s2, s3⟩ := hofb hs
                      obtain ⟨OLDS, q1, q2, q3⟩ := first_of_row hm.drew hb hp (C := cap) hs
                      have hroom : ¬ (len + n ≤ cap) := fun e => by rw [Nat.ble_eq_true_of_le e] at hroom; cases hroom
                      exact own (c' := Tr.ofList (olds ++ news)) (an := []) hm rfl (fun _ h => h) q1 s1 s2 q3 (by omega) hXe rfl (fun j u hj => by rw [Tr.get_ofList] at hj; exact hj) e1 (by rw [e2, List.length_append, s1, hnl, Nat.add_mul])
                | true =>
                  rw [hcc] at h
                  simp only [cond_true] at h
                  have hcs : sym ≤ cap := Nat.le_of_ble_eq_true hcc
                  rw [capOf_ge hcs] at hXe hlC
                  cases hoff : Nat.beq off ((cap - sym) * k) with
                  | false => rw [hoff] at h; cases h
                  | true =>
                    rw [hoff] at h
                    have hoff : off = (cap - sym) * k := Nat.eq_of_beq_eq_true hoff
                    obtain ⟨cq, hcq⟩ : ∃ q, cap - sym = q := ⟨_, rfl⟩
                    rw [hcq] at hoff hXe hlC
                    simp only [Bool.not_true, cond_false] at h
                    cases hin : Nat.ble (off + (len + n) * k) rl with
                    | true =>
                      rw [hin] at h
                      simp only [cond_true] at h
                      have hin := Nat.le_of_ble_eq_true hin
                      refine stay hb hp hXe ?_ h (by rw [← hcq]; exact (capOf_ge hcs).symm)
                      have h1 : (cq + (len + n)) * k ≤ p.cap * k := by rw [Nat.add_mul, ← hoff]; omega
                      have h2 := Nat.le_of_mul_le_mul_right h1 (Nat.pos_of_ne_zero hk0)
                      omega
                    | false =>
                      rw [hin] at h
                      simp only [cond_false] at h
                      have hin : ¬ (off + (len + n) * k ≤ rl) := fun e => by rw [Nat.ble_eq_true_of_le e] at hin; cases hin
                      cases fz with
                      | true => cases h
                      | false =>
                        simp only [cond_false] at h
                        have a2 : cq ≤ p.cap → (p.cap - cq) * k + off = p.cap * k := fun hle => by rw [hoff, ← Nat.add_mul, show p.cap - cq + cq = p.cap from by omega]
                        have a3 : len * k ≤ (p.cap - cq) * k := Nat.mul_le_mul_right _ hlC
                        obtain ⟨OLDS, q1, q2, q3⟩ := olds_of_row (P := P) (w := w.drew) (k := k) (len := len) (C := p.cap - cq) (b := p.blk) (off := p.base + off) (cs := cs) (ty := cty) (fz := cfz) o1 (fun h0 => by have := a2 (by omega); omega)
                        -- into the block that there is
                        have within : ∀ {m1 : Me} {c' : Tr Value} {an' : List Nat}, HR P μ m1 w → m1.n = m.n → (∀ b, Img μ m1 b → Img μ m b) → len + n ≤ p.cap - cq →
                            (∀ j o q, m1.h.get j = some o → live o = true → μ j = some q → q.blk = p.blk → j ∈ an' ∧ unf o = false ∧ endOf q o ≤ p.base + off + len * k) →
                            (∀ j u, c'.get j = some u → j < (len + n) * k ∧ one u = true ∧ ∃ V, (OLDS ++ NEWS)[j]? = some V ∧ VR μ u V) →
                            v = .slice (some ⟨m1.n, 0, none⟩) (len + n) sym → m' = .mk (m1.h.put m1.n (.row c' ((len + n) * k) re an' false)) (m1.n + 1) → Does P μ m w v m' (Builtin.append_ ats ty #[X, Y]) := by
                          intro m1 c' an' hm1 hmn himg hC hall hsub hv hm'
                          have hfree : μ m1.n = none := hf m1.n (by omega) (by rw [hm']; show m1.n < m1.n + 1; omega)
                          have a1 : (cq + (len + n)) * k ≤ p.cap * k := Nat.mul_le_mul_right _ (by omega)
                          rw [Nat.add_mul, ← hoff, Nat.add_mul] at a1
                          have a2 := a2 (by omega)
                          have hend : p.base + off + len * k + NEWS.length ≤ cs.size := by rw [hNl]; omega
                          obtain ⟨cs', e1, e2, e3, e4, e5, e6, e7, e8⟩ := setCells_heap p.blk NEWS (p.base + off + len * k) w o1 hend
                          have hob : OM P (μ.with m1.n ⟨p.blk, p.base + off, p.cap - cq⟩) ⟨p.blk, p.base + off, p.cap - cq⟩ (w.setCells p.blk (p.base + off + len * k) NEWS) (.row c' ((len + n) * k) re an' false) := by
                            refine ⟨cs', cty, cfz, k, e1, fun j u hj => ?_, by rw [e2]; exact o3, hsz, Nat.mul_le_mul_right _ hC, by rw [e2]; show p.base + off + (p.cap - cq) * k ≤ _; omega⟩
                            obtain ⟨b0, b1, V, b2, b3⟩ := hsub j u hj
                            refine ⟨b0, b1, V, ?_, b3.mono (Mp.le_with _ hfree)⟩
                            dsimp only
                            rw [e3]
                            by_cases hjo : j < len * k
                            · rw [List.getElem?_append_left (by omega), q2 j hjo] at b2
                              rw [if_neg (by omega)]; exact b2
                            · rw [List.getElem?_append_right (by omega), q1] at b2
                              rw [Nat.add_mul] at b0
                              rw [if_pos (by rw [hNl]; omega), show p.base + off + j - (p.base + off + len * k) = j - len * k from by omega]; exact b2
                          obtain ⟨r1, r2⟩ := hm1.inplace (m0 := m) (ob := .row c' ((len + n) * k) re an' false) (p := ⟨p.blk, p.base + off, p.cap - cq⟩) (O := p.base + off + len * k) (VS := NEWS) hfree o1 hend hmn.symm ⟨b, _, p, hb, rfl, hp, rfl⟩ himg hall (by show p.base + off + len * k ≤ p.base + off + (len + n) * k; rw [Nat.add_mul]; omega) rfl rfl hob
                          refine ⟨_, .slice (some ⟨p.blk, p.base + off, none⟩) (len + n) (p.cap - cq), _, ?_, ?_, by rw [hm']; exact r1, by rw [hm']; exact r2⟩
                          · rw [hXe]
                            refine append_in h0 h1 hu hd hzs hi hk hz hzk hb1 hbn g2 hC (base := some ⟨p.blk, p.base + off, none⟩) ?_
                            dsimp only
                            rw [add_at]
                            refine run_storeCells_cells p.blk (p.base + off + len * k) NEWS 0 w (fun j hj => ?_) (fun j hj => ?_) (ones_conc hon g1)
                            · rw [cell_of_row _ _ _ _ _ _ o1]
                              simp only [Nat.add_zero]
                              rw [Array.getElem?_eq_getElem (by omega)]; rfl
                            · unfold World.frozen?
                              rw [o1]
                              exact unfrozen o3 (by simp only [Nat.add_zero]; omega)
                          · rw [hv]; exact .sl' (p := ⟨p.blk, p.base + off, p.cap - cq⟩) (Mp.with_same _ _ _) (by simp) (by rw [capOf_ge (Nat.le_refl _)]; simp) hC
                        -- either
                        have both' : ∀ {m1 : Me} {c' : Tr Value} {an' : List Nat}, HR P μ m1 w → m1.n = m.n → (∀ b, Img μ m1 b → Img μ m b) →
                            (∀ j o q, m1.h.get j = some o → live o = true → μ j = some q → q.blk = p.blk → j ∈ an' ∧ unf o = false ∧ endOf q o ≤ p.base + off + len * k) →
                            (∀ j u, c'.get j = some u → j < (len + n) * k ∧ one u = true ∧ ∃ V, (OLDS ++ NEWS)[j]? = some V ∧ VR μ u V) →
                            v = .slice (some ⟨m1.n, 0, none⟩) (len + n) sym → m' = .mk (m1.h.put m1.n (.row c' ((len + n) * k) re an' false)) (m1.n + 1) → Does P μ m w v m' (Builtin.append_ ats ty #[X, Y]) := by
                          intro m1 c' an' hm1 hmn himg hall hsub hv hm'
                          by_cases hC : len + n ≤ p.cap - cq
                          · exact within hm1 hmn himg hC hall hsub hv hm'
                          · exact own' hm1 hmn himg q1 q3 (by omega) hXe rfl hsub hv hm'
                        have fromOld : ∀ {j : Nat} {u : Value}, j < len * k → c.get (off + j) = some u → j < (len + n) * k ∧ one u = true ∧ ∃ V, (OLDS ++ NEWS)[j]? = some V ∧ VR μ u V := by
                          intro j u hjl hju
                          obtain ⟨b1, b2, V, b3, b4⟩ := o2 _ _ hju
                          refine ⟨by rw [Nat.add_mul]; omega, b2, V, ?_, b4⟩
                          rw [List.getElem?_append_left (by omega), q2 j hjl, Nat.add_assoc]; exact b3
                        have fromNew : ∀ {j : Nat} {u : Value}, ¬ j < len * k → news[j - len * k]? = some u → j < (len + n) * k ∧ one u = true ∧ ∃ V, (OLDS ++ NEWS)[j]? = some V ∧ VR μ u V := by
                          intro j u hjl hju
                          obtain ⟨V, hV, hv'⟩ := g1.get hju
                          have := (List.getElem?_eq_some_iff.1 hju).1
                          refine ⟨by rw [Nat.add_mul]; omega, ones_get hon _ _ hju, V, ?_, hv'⟩
                          rw [List.getElem?_append_right (by omega), q1]; exact hV
                        have both : ∀ {m1 : Me} {c' : Tr Value} {an' : List Nat} {olds : List Value}, c.slice (len * k) off = some olds → HR P μ m1 w → m1.n = m.n → (∀ b, Img μ m1 b → Img μ m b) →
                            (∀ j o q, m1.h.get j = some o → live o = true → μ j = some q → q.blk = p.blk → j ∈ an' ∧ unf o = false ∧ endOf q o ≤ p.base + off + len * k) →
                            (∀ j u, c'.get j = some u → (olds ++ news)[j]? = some u) →
                            v = .slice (some ⟨m1.n, 0, none⟩) (len + n) sym → m' = .mk (m1.h.put m1.n (.row c' ((len + n) * k) re an' false)) (m1.n + 1) → Does P μ m w v m' (Builtin.append_ ats ty #[X, Y]) := by
                          intro m1 c' an' olds hs hm1 hmn himg hall hsub hv hm'
                          obtain ⟨s1, s2, s3⟩ := hofb hs
                          refine both' hm1 hmn himg hall (fun j u hj => ?_) hv hm'
                          have hj' := hsub j u hj
                          by_cases hjo : j < len * k
                          · rw [List.getElem?_append_left (by omega), ← s3 j hjo] at hj'
                            exact fromOld hjo hj'
                          · rw [List.getElem?_append_right (by omega), s1] at hj'
                            exact fromNew hjo hj'
                        cases hlast : Nat.ble rl (off + len * k) with
                        | true =>
                          rw [hlast] at h
                          have hlast := Nat.le_of_ble_eq_true hlast
                          simp only [cond_true, Me.put_eq, fN_eq] at h
                          obtain ⟨i1, i2⟩ := hm.iced hb
                          have hall : ∀ j o q, (m.h.put b (.row c rl re an true)).get j = some o → live o = true → μ j = some q → q.blk = p.blk → j ∈ b :: an ∧ unf o = false ∧ endOf q o ≤ p.base + off + len * k := by
                            intro j o q hj hl hq hblk
                            by_cases e : j = b
                            · subst e
                              rw [Tr.get_put_same] at hj; cases hj
                              rw [hp] at hq; cases hq
                              exact ⟨List.mem_cons_self, rfl, by show p.base + rl ≤ _; omega⟩
                            · rw [Tr.get_put_ne _ _ e] at hj
                              obtain ⟨z1, z2, z3⟩ := hm.apart b _ j o p q hb rfl rfl hj hl e hp hq hblk.symm
                              exact ⟨List.mem_cons_of_mem _ z1, z2, by have : endOf p (.row c rl re an false) = p.base + rl := rfl; omega⟩
                          cases ho0 : Nat.beq off 0 with
                          | true =>
                            rw [ho0] at h
                            have ho0 : off = 0 := Nat.eq_of_beq_eq_true ho0
                            simp only [cond_true, Tr.putsK_eq, Me.new_eq, fN_eq, Option.some.injEq, Prod.mk.injEq] at h
                            refine both' i1 rfl i2 hall (fun j u hj => ?_) h.1.symm h.2.symm
                            rw [Tr.get_puts] at hj
                            by_cases c1 : len * k ≤ j ∧ j < len * k + news.length
                            · rw [if_pos c1] at hj
                              exact fromNew (by omega) hj
                            · rw [if_neg c1] at hj
                              have := (o2 j u hj).1
                              exact fromOld (by omega) (by rw [ho0, Nat.zero_add]; exact hj)
                          | false =>
                            rw [ho0] at h
                            simp only [cond_false] at h
                            split at h
                            · cases h
                            · rename_i olds hs
                              simp only [Tr.putsK_eq, Me.new_eq, fN_eq, Option.some.injEq, Prod.mk.injEq] at h
                              refine both hs i1 rfl i2 hall (fun j u hj => ?_) h.1.symm h.2.symm
                              have hj : (Tr.ofList (olds ++ news)).get j = some u := hj
                              rw [Tr.get_ofList] at hj; exact hj
                        | false =>
                          rw [hlast] at h
                          simp only [cond_false] at h
                          split at h
                          · cases h
                          · rename_i olds hs
                            obtain ⟨s1, s2, s3⟩ := hofb hs
                            obtain ⟨h2, nx⟩ := m
                            obtain ⟨h', k1, k2, k3⟩ := killK_some h
                            simp only [Tr.putK_eq] at k1
                            obtain ⟨e1, e2⟩ := newRow_some k1
                            have hh : ∀ j, (h'.put b .dead).get j = h2.get j ∨ ((h'.put b .dead).get j = some .dead ∧ ∃ o, h2.get j = some o) := fun j => by
                              by_cases e : j = b
                              · subst e; right; exact ⟨Tr.get_put_same _ _ _, _, hb⟩
                              · rw [Tr.get_put_ne _ _ e]; exact k2 j
                            obtain ⟨i1, i2⟩ := hm.gaveUp hh
                            refine both hs (m1 := .mk (h'.put b .dead) nx) (c' := Tr.ofList (olds ++ news)) (an' := []) i1 rfl i2 (fun j o q hj hl hq hblk => ?_) (fun j u hj => by rw [Tr.get_ofList] at hj; exact hj) e1 (by rw [e2, List.length_append, s1, hnl, Nat.add_mul])
                            exfalso
                            have hj : (h'.put b .dead).get j = some o := hj
                            by_cases e : j = b
                            · subst e
                              rw [Tr.get_put_same] at hj; cases hj; cases hl
                            · rw [Tr.get_put_ne _ _ e] at hj
                              have hj2 : h2.get j = some o := by
                                rcases k2 j with k4 | ⟨k4, _⟩
                                · rw [← k4]; exact hj
                                · rw [k4] at hj; cases hj; cases hl
                              obtain ⟨z1, z2, _⟩ := hm.apart b _ j o p q hb rfl rfl hj2 hl e hp hq hblk.symm
                              exact k3 j z1 o hj z2
            · cases h
          · cases h
  · cases h
end
end
end Go.Proofs.YthelmobipjekjaaGreat.Ev
