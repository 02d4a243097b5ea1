/- What a region that draws its order gives. -/
import Derived.Test.YthelmobipjekjaaGreatLn
set_option linter.unusedVariables false
set_option linter.unusedSimpArgs false
set_option linter.unusedSectionVars false
namespace Go.Proofs.YthelmobipjekjaaGreat.Ev
open Go Go.RowKit
/-! ### what holds on the way -/
section
variable {P : Program} {O : Orc} {cf : CodeF} {ops : Array Oper} {ord lows bs : List Nat} {ix : Nat → Nat} {op : Nat → Oper} {F : Nat → Fr} {M : Nat → Me} {H : Nat → List (Tr AO)} {V : Nat → Value}
/-- Memory below is the same for other maps; the world has grown. -/
theorem HR.wider {μ ν : Mp} {m : Me} {w w' : World} {obj : Obj} (hm : HR P μ m w) (hg : Grew w w' obj) (hle : Mp.Le μ ν) : HR P ν m w' := by
  have hp : ∀ i o p, m.h.get i = some o → live o = true → ν i = some p → μ i = some p := fun i o p h hl hp => by
    obtain ⟨q, hq, _⟩ := hm.obj i o h hl
    have := hle _ _ hq
    rw [hp] at this; cases this; exact hq
  refine ⟨fun i o h hl => ?_, hm.few, fun i o j o' p q h hl hu h' hl' hne hp1 hp2 he => hm.apart i o j o' p q h hl hu h' hl' hne (hp i o p h hl hp1) (hp j o' q h' hl' hp2) he⟩
  obtain ⟨q, hq, hom⟩ := hm.obj i o h hl
  exact ⟨q, hle _ _ hq, hom.mono hle (hg.old _ (hom.lt hl))⟩
/-- A part of it. -/
theorem HR.part {μ : Mp} {m : Me} {w : World} {h : Tr AO} (hm : HR P μ m w) (hh : ∀ i o, h.get i = some o → m.h.get i = some o) : HR P μ (.mk h m.n) w :=
  ⟨fun i o hi hl => hm.obj i o (hh i o hi) hl, fun i o hi => hm.few i o (hh i o hi), fun i o j o' p q h1 hl hu h2 hl' hne hp hq he => hm.apart i o j o' p q (hh i o h1) hl hu (hh j o' h2) hl' hne hp hq he⟩
/-- A block that was made early is known now. -/
theorem HR.adopt {μ : Mp} {m : Me} {w : World} {ob : AO} {p : Pl} (hm : HR P μ m w) (hp : μ m.n = some p) (hl : live ob = true) (ho : OM P μ p w ob) (hi : ¬ Img μ m p.blk) : HR P μ (.mk (m.h.put m.n ob) (m.n + 1)) w := by
  have hget : ∀ i o, (m.h.put m.n ob).get i = some o → (i = m.n ∧ o = ob) ∨ (i ≠ m.n ∧ m.h.get i = some o) := fun i o h => by
    by_cases e : i = m.n
    · subst e; rw [Tr.get_put_same] at h; cases h; exact .inl ⟨rfl, rfl⟩
    · rw [Tr.get_put_ne _ _ e] at h; exact .inr ⟨e, h⟩
  refine ⟨fun i o h hl' => ?_, fun i o h => ?_, fun i o j o' pi pj h hl' hu h' hl'' hne hpi hpj he => ?_⟩
  · rcases hget i o h with ⟨rfl, rfl⟩ | ⟨e, h⟩
    · exact ⟨p, hp, ho⟩
    · exact hm.obj i o h hl'
  · rcases hget i o h with ⟨rfl, rfl⟩ | ⟨e, h⟩
    · exact Nat.lt_succ_self _
    · exact Nat.lt_succ_of_lt (hm.few i o h)
  · rcases hget i o h with ⟨e, _⟩ | ⟨e, k1⟩
    · rcases hget j o' h' with ⟨e', _⟩ | ⟨e', k2⟩
      · exact absurd (e'.trans e.symm) hne
      · rw [e, hp] at hpi; cases hpi
        exact absurd ⟨j, o', pj, k2, hl'', hpj, he.symm⟩ hi
    · rcases hget j o' h' with ⟨e', _⟩ | ⟨e', k2⟩
      · rw [e', hp] at hpj; cases hpj
        exact absurd ⟨i, o, pi, k1, hl', hpi, he⟩ hi
      · exact hm.apart i o j o' pi pj k1 hl' hu k2 hl'' hne hpi hpj he
/-- What holds when the operations at the positions S are done, the runner having come to position k. -/
structure Inv (P : Program) (ops : Array Oper) (bs : List Nat) (ix : Nat → Nat) (op : Nat → Oper) (F : Nat → Fr) (M : Nat → Me) (H : Nat → List (Tr AO)) (V : Nat → Value) (μ0 : Mp) (w0 : World) (nt : Nat) (ms : List Dm) (k : Nat) (S : Nat → Bool) (μ : Mp) (a : Act) (w : World) : Prop where
  kn : k ≤ ops.size
  done : ∀ j, j < k → S j = true
  effd : ∀ j, j < ops.size → S j = true → isEfAt P ops.toList (ix j) = true → j < k
  down : ∀ a b, a < ops.size → b < ops.size → Pr bs ix a b → S b = true → S a = true
  hr : HR P μ (M k) w
  hd : ∀ h, (H k).head? = some h → ∀ i o, h.get i = some o → (M k).h.get i = some o
  free : ∀ i, (M k).n ≤ i → i < (M ops.size).n → μ i ≠ none → ∃ j, k ≤ j ∧ j < ops.size ∧ S j = true ∧ i = (M j).n ∧ (M j).n < (M (j + 1)).n
  news : ∀ j ob, k ≤ j → j < ops.size → S j = true → M (j + 1) = .mk ((M j).h.put (M j).n ob) ((M j).n + 1) → live ob = true ∧ ∃ p, μ (M j).n = some p ∧ OM P μ p w ob ∧ w0.heap.size ≤ p.blk ∧ ¬ Img μ (M k) p.blk
  dist : ∀ j j' p p', k ≤ j → j < ops.size → S j = true → (M j).n < (M (j + 1)).n → k ≤ j' → j' < ops.size → S j' = true → (M j').n < (M (j' + 1)).n → j ≠ j' → μ (M j).n = some p → μ (M j').n = some p' → p.blk ≠ p'.blk
  size : a.tmps.size = nt
  slots : ∀ t, VR μ (ov (F 0) op V S ops.size t) (a.tmps.getD t undef)
  marks : MR μ ms a.defers
  os : w.os = w0.os
  tape : w.tape = w0.tape
  output : w.output = w0.output
  heap : w0.heap.size ≤ w.heap.size
  le : Mp.Le μ0 μ
  dom : ∀ i, μ0 i = none → μ i ≠ none → (M 0).n ≤ i ∧ i < (M ops.size).n
  keep : ∀ b, b < w0.heap.size → ¬ Img μ0 (M 0) b → w.heap[b]? = w0.heap[b]?
  img : ∀ b, b < w0.heap.size → Img μ (M k) b → Img μ0 (M 0) b
variable {μ0 : Mp} {w0 : World} {nt : Nat} {ms : List Dm} {k : Nat} {S : Nat → Bool} {μ : Mp} {a : Act} {w : World}
/-- What an operation that is no effect does to the runner's memory. -/
theorem Way.float (W : Way P O cf ops ord lows bs ix op F M H V) {j : Nat} (hj : j < ops.size) (he : isEfAt P ops.toList (ix j) = false) :
    H (j + 1) = H j ∨ (gdHolds (F j) (gdOf ops (op j)) = false ∧ M (j + 1) = M j ∧ H (j + 1) = (M (j + 1)).h :: H j) := by
  have h := W.st j hj
  unfold diOf DStep at h
  obtain ⟨h1, h2, h3⟩ := h
  cases hx : (bif gdOk ops (op j) then exOf P (op j) else EX.bad) with
  | fl g => rw [hx] at h3; exact .inl h3
  | ld g => rw [hx] at h3; exact .inl h3
  | nw g => rw [hx] at h3; exact .inl h3
  | bad =>
    rw [hx] at h1 h3
    rcases h1 with ⟨_, h4, _⟩ | ⟨h4, _, h5⟩
    · cases h4
    · exact .inr ⟨h4, h5, h3⟩
  | cl =>
    exfalso
    cases hg : gdOk ops (op j) with
    | false => rw [hg] at hx; cases hx
    | true =>
      rw [hg] at hx
      have ho : ops.toList[ix j]? = some (op j) := by simpa using W.ope j hj
      unfold isEfAt at he
      rw [ho] at he
      simp only at he
      rcases (exOf_eq (show exOf P (op j) = .cl from hx) (by simp)).2 with ⟨hc, _⟩ | ⟨_, ⟨g, _, e⟩ | ⟨g, _, e⟩ | ⟨g, _, e⟩ | ⟨g, _, e⟩⟩
      · have : kdOf P (op j) = .ef := by
          unfold isCall at hc
          unfold kdOf
          split at hc
          · rename_i c hcc
            rw [hcc]
            simp only
            split at hc
            · cases hc
            · rename_i hn
              split
              · exact absurd ‹_› (hn _)
              · exact absurd ‹_› (hn _)
              · exact absurd ‹_› (hn _)
              · exact absurd ‹_› (hn _)
              · rfl
          · cases hc
        rw [this] at he; cases he
      all_goals cases e
  | ef g =>
    exfalso
    cases hg : gdOk ops (op j) with
    | false => rw [hg] at hx; cases hx
    | true =>
      rw [hg] at hx
      have ho : ops.toList[ix j]? = some (op j) := by simpa using W.ope j hj
      unfold isEfAt at he
      rw [ho] at he
      simp only at he
      have hx : exOf P (op j) = .ef g := hx
      unfold exOf at hx
      cases h5 : okOpds (op j).op.operands.toList with
      | false => rw [h5] at hx; cases hx
      | true =>
        rw [h5] at hx
        simp only [cond_true] at hx
        cases h6 : isCall (op j) with
        | true => rw [h6] at hx; cases hx
        | false =>
          rw [h6] at hx
          cases hk : kdOf P (op j) with
          | ef => rw [hk] at he; cases he
          | _ => rw [hk] at hx; cases hx
/-- The runner goes on over one that is done and no effect. -/
theorem Inv.advance (W : Way P O cf ops ord lows bs ix op F M H V) (hM : ∀ j, j < ops.size → isEfAt P ops.toList (ix j) = false → M (j + 1) = M j ∨ ∃ ob, M (j + 1) = .mk ((M j).h.put (M j).n ob) ((M j).n + 1))
    (I : Inv P ops bs ix op F M H V μ0 w0 nt ms k S μ a w) (hk : k < ops.size) (hS : S k = true) (he : isEfAt P ops.toList (ix k) = false) : Inv P ops bs ix op F M H V μ0 w0 nt ms (k + 1) S μ a w := by
  have hH := W.float hk he
  rcases hM k hk he with h | ⟨ob, h⟩
  · refine { I with kn := hk, done := fun j hj => ?_, effd := fun j h1 h2 h3 => Nat.lt_succ_of_lt (I.effd j h1 h2 h3), hr := by rw [h]; exact I.hr, hd := fun h0 hh => ?_, free := fun i h1 h2 h3 => ?_, news := fun j ob h1 h2 h3 h4 => ?_, dist := fun j j' p p' h1 h2 h3 h4 h5 => I.dist j j' p p' (by omega) h2 h3 h4 (by omega), img := by rw [h]; exact I.img }
    · by_cases e : j = k
      · subst e; exact hS
      · exact I.done j (by omega)
    · rcases hH with hH | ⟨_, _, hH⟩
      · rw [hH] at hh; rw [h]; exact I.hd h0 hh
      · rw [hH] at hh
        simp at hh
        rw [← hh]; exact fun i o h => h
    · rw [h] at h1
      obtain ⟨j, q1, q2, q3, q4, q5⟩ := I.free i h1 h2 h3
      refine ⟨j, ?_, q2, q3, q4, q5⟩
      by_cases e : j = k
      · subst e; rw [h] at q5; omega
      · omega
    · obtain ⟨q1, p, q2, q3, q4, q5⟩ := I.news j ob (by omega) h2 h3 h4
      exact ⟨q1, p, q2, q3, q4, by rw [h]; exact q5⟩
  · obtain ⟨l1, p, l2, l3, l4, l5⟩ := I.news k ob (Nat.le_refl _) hk hS h
    have himg : ∀ b, Img μ (M (k + 1)) b → Img μ (M k) b ∨ b = p.blk := by
      rintro b ⟨i, o, q, h1, h2, h3, h4⟩
      rw [h] at h1
      have h1 : ((M k).h.put (M k).n ob).get i = some o := h1
      by_cases e : i = (M k).n
      · right; rw [e, l2] at h3; cases h3; exact h4.symm
      · left; rw [Tr.get_put_ne _ _ e] at h1; exact ⟨i, o, q, h1, h2, h3, h4⟩
    have hn : (M (k + 1)).n = (M k).n + 1 := by rw [h]; rfl
    refine { I with kn := hk, done := fun j hj => ?_, effd := fun j h1 h2 h3 => Nat.lt_succ_of_lt (I.effd j h1 h2 h3), hr := by rw [h]; exact I.hr.adopt l2 l1 l3 l5, hd := fun h0 hh i o hi => ?_, free := fun i h1 h2 h3 => ?_, news := fun j ob h1 h2 h3 h4 => ?_, dist := fun j j' p p' h1 h2 h3 h4 h5 => I.dist j j' p p' (by omega) h2 h3 h4 (by omega), img := fun b hb h1 => ?_ }
    · by_cases e : j = k
      · subst e; exact hS
      · exact I.done j (by omega)
    · rcases hH with hH | ⟨_, hMM, hH⟩
      · rw [hH] at hh
        have h1 := I.hd h0 hh i o hi
        have h2 := I.hr.few i o h1
        rw [h]
        show ((M k).h.put (M k).n ob).get i = some o
        rw [Tr.get_put_ne _ _ (by omega)]; exact h1
      · rw [hMM] at hn; omega
    · obtain ⟨j, q1, q2, q3, q4, q5⟩ := I.free i (by omega) h2 h3
      refine ⟨j, ?_, q2, q3, q4, q5⟩
      by_cases e : j = k
      · subst e; omega
      · omega
    · obtain ⟨q1, p', q2, q3, q4, q5⟩ := I.news j ob (by omega) h2 h3 h4
      refine ⟨q1, p', q2, q3, q4, fun hi => ?_⟩
      rcases himg _ hi with hi | hi
      · exact q5 hi
      · exact I.dist k j p p' (Nat.le_refl _) hk hS (by omega) (by omega) h2 h3 (by rw [h4]; exact Nat.lt_succ_self _) (by omega) l2 q2 hi.symm
    · rcases himg b h1 with h1 | h1
      · exact I.img b hb h1
      · omega
theorem Inv.advanceTo (W : Way P O cf ops ord lows bs ix op F M H V) (hM : ∀ j, j < ops.size → isEfAt P ops.toList (ix j) = false → M (j + 1) = M j ∨ ∃ ob, M (j + 1) = .mk ((M j).h.put (M j).n ob) ((M j).n + 1)) :
    ∀ {d k}, Inv P ops bs ix op F M H V μ0 w0 nt ms k S μ a w → k + d ≤ ops.size → (∀ j, j < k + d → S j = true) → Inv P ops bs ix op F M H V μ0 w0 nt ms (k + d) S μ a w
  | 0, k, I, _, _ => I
  | d + 1, k, I, hk, hS => by
    have he : isEfAt P ops.toList (ix k) = false := by
      cases h : isEfAt P ops.toList (ix k) with
      | false => rfl
      | true => have := I.effd k (by omega) (hS k (by omega)) h; omega
    have := advanceTo W hM (d := d) (I.advance W hM (by omega) (hS k (by omega)) he) (by omega) (fun j hj => hS j (by omega))
    rw [show k + (d + 1) = k + 1 + d from by omega]; exact this
end
/-! ### one step of a drawn region -/
section
variable {P : Program} {O : Orc} {cf : CodeF} {ops : Array Oper} {ord lows bs : List Nat} {ix : Nat → Nat} {op : Nat → Oper} {F : Nat → Fr} {M : Nat → Me} {H : Nat → List (Tr AO)} {V : Nat → Value}
variable {μ0 : Mp} {w0 : World} {nt : Nat} {ms : List Dm} {k : Nat} {S : Nat → Bool} {μ : Mp} {a : Act} {w : World}
theorem wanted_of {f : Fr} {T : Array Value} {o : Oper} (h : ∀ t want, gdOf ops o = some (t, want) → VR μ (slot f.a t) (T.getD t undef)) (hg : gdOk ops o = true) : Region.wanted o (yielded ops T) = gdHolds f (gdOf ops o) := by
  unfold Region.wanted
  unfold gdOk at hg
  cases hgd : o.guard with
  | none => unfold gdOf; rw [hgd]; rfl
  | some jw =>
    obtain ⟨j, want⟩ := jw
    rw [hgd] at hg
    simp only at hg ⊢
    cases ht : (ops[j]?).bind (·.dst) with
    | none => rw [ht] at hg; cases hg
    | some t =>
      have hgo : gdOf ops o = some (t, want) := by unfold gdOf; rw [hgd]; simp only; rw [ht]
      have hv := h t want hgo
      rw [hgo]
      simp only [gdHolds, yielded, ht, Option.bind_some]
      show _ = (match slot f.a t with | .bool b => bif b then want else not want | _ => false)
      generalize hs : slot f.a t = v at hv
      rw [Array.getD_eq_getD_getElem?] at hv
      cases hT : T[t]? with
      | none =>
        rw [hT] at hv
        simp only
        cases v with
        | bool c => have := hv.of_flat rfl; cases this
        | _ => rfl
      | some V =>
        rw [hT] at hv
        simp only [Option.getD_some] at hv
        cases v with
        | bool c =>
          have := hv.bool_inv; subst this
          cases c <;> cases want <;> rfl
        | _ =>
          cases V with
          | bool c => have := hv.bool_of; cases this
          | _ => rfl
theorem gd_looks {o : Oper} {t : Nat} {want : Bool} (h : gdOf ops o = some (t, want)) : t ∈ names ops o := by
  unfold gdOf at h
  unfold names Oper.looksAt
  cases hgd : o.guard with
  | none => rw [hgd] at h; cases h
  | some jw =>
    obtain ⟨j, w'⟩ := jw
    rw [hgd] at h
    simp only at h ⊢
    cases ht : (ops[j]?).bind (·.dst) with
    | none => rw [ht] at h; cases h
    | some u =>
      rw [ht] at h
      cases h
      simp
theorem tmp_looks {o : Oper} {t : Nat} (h : Operand.tmp t ∈ o.op.operands) : t ∈ names ops o := by
  unfold names Oper.looksAt
  refine List.mem_append_right _ (List.mem_append_left _ (List.mem_filterMap.2 ⟨.tmp t, by simpa using h, rfl⟩))
theorem Way.news_or (W : Way P O cf ops ord lows bs ix op F M H V) {j : Nat} (hj : j < ops.size) (he : isEfAt P ops.toList (ix j) = false) : M (j + 1) = M j ∨ ∃ ob, M (j + 1) = .mk ((M j).h.put (M j).n ob) ((M j).n + 1) := by
  have hf := W.float hj he
  have h := W.st j hj
  unfold diOf DStep at h
  obtain ⟨⟨_, h1, _⟩ | ⟨_, _, h1⟩, h2, h3⟩ := h
  · cases hx : (bif gdOk ops (op j) then exOf P (op j) else EX.bad) with
    | fl g =>
      rw [hx] at h1
      unfold stepV stepX at h1
      simp only at h1
      split at h1
      · simp only [Option.some.injEq, Prod.mk.injEq] at h1; exact .inl h1.2.symm
      · cases h1
    | ld g =>
      rw [hx] at h1
      unfold stepV stepX at h1
      simp only at h1
      split at h1
      · simp only [Option.some.injEq, Prod.mk.injEq] at h1; exact .inl h1.2.symm
      · cases h1
    | nw g =>
      rw [hx] at h1
      unfold stepV stepX at h1
      simp only at h1
      split at h1
      · rw [Me.new_eq] at h1
        simp only [Option.some.injEq, Prod.mk.injEq] at h1; exact .inr ⟨_, h1.2.symm⟩
      · cases h1
    | bad => rw [hx] at h1; cases h1
    | cl =>
      rw [hx] at h3
      rcases hf with hf | ⟨_, hf, _⟩
      · rw [hf] at h3
        have := congrArg List.length h3
        unfold histOf at this
        simp at this
      · exact .inl hf
    | ef g =>
      rw [hx] at h3
      rcases hf with hf | ⟨_, hf, _⟩
      · rw [hf] at h3
        have := congrArg List.length h3
        unfold histOf at this
        simp at this
      · exact .inl hf
  · exact .inl h1
variable (W : Way P O cf ops ord lows bs ix op F M H V) (h00 : ∃ b, F 0 = .mk b nt ms) (hH0 : (H 0).length = 1) (hOn : OrcN O) (hcn : CodeN P cf)
  (hM : ∀ j, j < ops.size → isEfAt P ops.toList (ix j) = false → M (j + 1) = M j ∨ ∃ ob, M (j + 1) = .mk ((M j).h.put (M j).n ob) ((M j).n + 1))
  (I : Inv P ops bs ix op F M H V μ0 w0 nt ms k S μ a w)
include W I
theorem Inv.ge {j : Nat} (hS : S j = false) : k ≤ j := by
  rcases Nat.lt_or_ge j k with h | h
  · rw [I.done j h] at hS; cases hS
  · exact h
theorem Inv.reads {j : Nat} (hj : j < ops.size) (hS : S j = false) (hpre : ∀ a, a < ops.size → Pr bs ix a j → S a = true) {t : Nat} (ht : t ∈ names ops (op j)) : VR μ (slot (F j).a t) (a.tmps.getD t undef) := by
  rw [← W.read hj hS I.down hpre ht]; exact I.slots t
theorem Inv.opR {j : Nat} (hj : j < ops.size) (hS : S j = false) (hpre : ∀ a, a < ops.size → Pr bs ix a j → S a = true) (ho : okOpds (op j).op.operands.toList = true) : OpR μ (F j).eval a.eval (op j) := fun x hx => by
  have hk := okOpds_mem ho x (by simpa using hx)
  cases x with
  | tmp t => exact I.reads W hj hS hpre (tmp_looks hx)
  | const v => exact .flat hk
  | global g => cases hk
  | func g => exact .fn (a := []) (b := []) (c := []) (d := []) rfl (fun k x y hx => by simp at hx) rfl (fun k x y hx => by simp at hx)
theorem Inv.slots' (h00 : ∃ b, F 0 = .mk b nt ms) {j : Nat} (hj : j < ops.size) (hS : S j = false) {ν : Mp} (hle : Mp.Le μ ν) {RV : Value} (hv : VR ν (V j) RV) :
    (a.put (op j).dst RV).tmps.size = nt ∧ ∀ t, VR ν (ov (F 0) op V (upd S j) ops.size t) ((a.put (op j).dst RV).tmps.getD t undef) := by
  obtain ⟨b, hF0⟩ := h00
  cases hd : (op j).dst with
  | none => exact ⟨I.size, fun t => by rw [W.wrote hj hS I.down, if_neg (by rw [hd]; simp)]; exact (I.slots t).mono hle⟩
  | some u =>
    have hu := W.dst_lt hj hF0 hd
    refine ⟨by show (a.tmps.setIfInBounds u RV).size = nt; rw [Array.size_setIfInBounds]; exact I.size, fun t => ?_⟩
    rw [W.wrote hj hS I.down]
    show VR ν _ ((a.tmps.setIfInBounds u RV).getD t undef)
    by_cases e : u = t
    · subst e
      rw [if_pos hd, Array.getD_eq_getD_getElem?, Array.getElem?_setIfInBounds_self_of_lt (by rw [I.size]; exact hu)]; exact hv
    · rw [if_neg (by rw [hd]; intro h; cases h; exact e rfl), Array.getD_eq_getD_getElem?, Array.getElem?_setIfInBounds_ne e, ← Array.getD_eq_getD_getElem?]; exact (I.slots t).mono hle
omit W I in
theorem put_defers (a : Act) (d : Option Nat) (v : Value) : (a.put d v).defers = a.defers := by cases d <;> rfl
theorem Inv.down' {j : Nat} (hpre : ∀ a, a < ops.size → Pr bs ix a j → S a = true) : ∀ a b, a < ops.size → b < ops.size → Pr bs ix a b → upd S j b = true → upd S j a = true := fun x y hx hy hp hs => by
  by_cases e : x = j
  · rw [e]; exact upd_same _ _
  · rw [upd_ne _ e]
    by_cases e2 : y = j
    · rw [e2] at hp; exact hpre x hx hp
    · rw [upd_ne _ e2] at hs; exact I.down x y hx hy hp hs
theorem upd_true {S : Nat → Bool} {j x : Nat} (h : S x = true) : upd S j x = true := by unfold upd; split <;> simp_all
/-- One without memory is done. -/
theorem Inv.same (h00 : ∃ b, F 0 = .mk b nt ms) {j : Nat} (hj : j < ops.size) (hS : S j = false) (hpre : ∀ a, a < ops.size → Pr bs ix a j → S a = true) (he : isEfAt P ops.toList (ix j) = false) (hMj : M (j + 1) = M j) {RV : Value} (hv : VR μ (V j) RV) :
    Inv P ops bs ix op F M H V μ0 w0 nt ms k (upd S j) μ (a.put (op j).dst RV) w := by
  obtain ⟨s1, s2⟩ := I.slots' W h00 hj hS (Mp.Le.refl _) hv
  have hne : ∀ {x}, (M x).n < (M (x + 1)).n → x ≠ j := fun {x} h e => by subst e; rw [hMj] at h; omega
  refine { I with done := fun x hx => ?_, effd := fun x h1 h2 h3 => ?_, down := I.down' W hpre, free := fun i h1 h2 h3 => ?_, news := fun x ob h1 h2 h3 h4 => ?_, dist := fun x x' p p' h1 h2 h3 h4 h5 h6 h7 h8 => ?_, size := s1, slots := s2, marks := by rw [put_defers]; exact I.marks }
  · exact upd_true W I (I.done x hx)
  · by_cases e : x = j
    · subst e; rw [he] at h3; cases h3
    · rw [upd_ne _ e] at h2; exact I.effd x h1 h2 h3
  · obtain ⟨x, q1, q2, q3, q4⟩ := I.free i h1 h2 h3
    exact ⟨x, q1, q2, upd_true W I q3, q4⟩
  · have e : x ≠ j := hne (by rw [h4]; exact Nat.lt_succ_self _)
    rw [upd_ne _ e] at h3
    exact I.news x ob h1 h2 h3 h4
  · have e := hne h4
    have e' := hne h8
    rw [upd_ne _ e] at h3
    rw [upd_ne _ e'] at h7
    exact I.dist x x' p p' h1 h2 h3 h4 h5 h6 h7 h8
/-- One that makes a block is done. -/
theorem Inv.fresh (h00 : ∃ b, F 0 = .mk b nt ms) (hOn : OrcN O) (hcn : CodeN P cf) {j : Nat} (hj : j < ops.size) (hS : S j = false) (hpre : ∀ a, a < ops.size → Pr bs ix a j → S a = true) (he : isEfAt P ops.toList (ix j) = false) {ob : AO} (hMj : M (j + 1) = .mk ((M j).h.put (M j).n ob) ((M j).n + 1))
    (hl : live ob = true) {RV : Value} {cap : Nat} {w' : World} {obj : Obj} (hg : Grew w w' obj) (hom : μ (M j).n = none → OM P (μ.with (M j).n ⟨w.heap.size, 0, cap⟩) ⟨w.heap.size, 0, cap⟩ w' ob ∧ VR (μ.with (M j).n ⟨w.heap.size, 0, cap⟩) (V j) RV) :
    Inv P ops bs ix op F M H V μ0 w0 nt ms k (upd S j) (μ.with (M j).n ⟨w.heap.size, 0, cap⟩) (a.put (op j).dst RV) w' := by
  have hkj := I.ge W hS
  have hn1 : (M (j + 1)).n = (M j).n + 1 := by rw [hMj]; rfl
  -- its number is its own
  have own : ∀ x, x < ops.size → x ≠ j → (M x).n < (M (x + 1)).n → (M x).n ≠ (M j).n := fun x hx hne hlt e => by
    rcases Nat.lt_or_gt_of_ne hne with h | h
    · have := W.mono' hOn hcn (show x + 1 ≤ j by omega) (by omega); omega
    · have := W.mono' hOn hcn (show j + 1 ≤ x by omega) (by omega); omega
  have hfree : μ (M j).n = none := by
    cases hmu : μ (M j).n with
    | none => rfl
    | some p =>
      have h1 : (M (j + 1)).n ≤ (M ops.size).n := W.mono' hOn hcn (show j + 1 ≤ ops.size by omega) (Nat.le_refl _)
      obtain ⟨x, q1, q2, q3, q4, q5⟩ := I.free (M j).n (W.mono' hOn hcn hkj (by omega)) (by omega) (by rw [hmu]; simp)
      by_cases e : x = j
      · subst e; rw [hS] at q3; cases q3
      · exact absurd q4.symm (own x q2 e q5)
  obtain ⟨o1, o2⟩ := hom hfree
  have hle : Mp.Le μ (μ.with (M j).n ⟨w.heap.size, 0, cap⟩) := Mp.le_with _ hfree
  obtain ⟨s1, s2⟩ := I.slots' W h00 hj hS hle o2
  have himg : ∀ b, Img (μ.with (M j).n ⟨w.heap.size, 0, cap⟩) (M k) b → Img μ (M k) b := by
    rintro b ⟨i, o, q, q1, q2, q3, q4⟩
    obtain ⟨q', e1, _⟩ := I.hr.obj i o q1 q2
    have := hle _ _ e1
    rw [q3] at this; cases this
    exact ⟨i, o, q, q1, q2, e1, q4⟩
  have himl : ∀ b, Img μ (M k) b → b < w.heap.size := by
    rintro b ⟨i, o, q, q1, q2, q3, q4⟩
    obtain ⟨q', e1, e2⟩ := I.hr.obj i o q1 q2
    rw [q3] at e1; cases e1
    rw [← q4]; exact e2.lt q2
  refine { I with done := fun x hx => ?_, effd := fun x h1 h2 h3 => ?_, down := I.down' W hpre, hr := I.hr.wider hg hle, free := fun i h1 h2 h3 => ?_, news := fun x ob' h1 h2 h3 h4 => ?_, dist := fun x x' p p' h1 h2 h3 h4 h5 h6 h7 h8 hne hp hp' => ?_, size := s1, slots := s2, marks := (by rw [put_defers]; exact I.marks.mono hle), os := hg.os.trans I.os, tape := hg.tape.trans I.tape, output := hg.output.trans I.output, heap := (by rw [hg.size]; exact Nat.le_succ_of_le I.heap), le := I.le.trans hle, dom := fun i h1 h2 => ?_, keep := fun b hb hi => ?_, img := fun b hb hi => I.img b hb (himg b hi) }
  · exact upd_true W I (I.done x hx)
  · by_cases e : x = j
    · subst e; rw [he] at h3; cases h3
    · rw [upd_ne _ e] at h2; exact I.effd x h1 h2 h3
  · by_cases e : i = (M j).n
    · exact ⟨j, hkj, hj, upd_same _ _, e, by omega⟩
    · rw [Mp.with_ne _ _ e] at h3
      obtain ⟨x, q1, q2, q3, q4⟩ := I.free i h1 h2 h3
      exact ⟨x, q1, q2, upd_true W I q3, q4⟩
  · by_cases e : x = j
    · subst e
      rw [hMj] at h4
      have eo : ob = ob' := by
        have h5 := congrArg Me.h h4
        have h5 : (M x).h.put (M x).n ob = (M x).h.put (M x).n ob' := h5
        have h6 := congrArg (fun t => t.get (M x).n) h5
        simp only [Tr.get_put_same, Option.some.injEq] at h6
        exact h6
      subst eo
      exact ⟨hl, _, Mp.with_same _ _ _, o1, I.heap, fun hi => by have := himl _ (himg _ hi); exact Nat.lt_irrefl _ this⟩
    · rw [upd_ne _ e] at h3
      obtain ⟨q1, p, q2, q3, q4, q5⟩ := I.news x ob' h1 h2 h3 h4
      have hne := own x h2 e (by rw [h4]; exact Nat.lt_succ_self _)
      exact ⟨q1, p, by rw [Mp.with_ne _ _ hne]; exact q2, q3.mono hle (hg.old _ (q3.lt q1)), q4, fun hi => q5 (himg _ hi)⟩
  · have hob : ∀ x, x < ops.size → S x = true → k ≤ x → (M x).n < (M (x + 1)).n → ∀ q, μ (M x).n = some q → q.blk < w.heap.size := by
      intro x hx hs hkx hlt q hq
      have hex : isEfAt P ops.toList (ix x) = false := by
        cases hh : isEfAt P ops.toList (ix x) with
        | false => rfl
        | true => have := I.effd x hx hs hh; omega
      have hst := W.st x hx
      have : ∃ ob, M (x + 1) = .mk ((M x).h.put (M x).n ob) ((M x).n + 1) := by
        rcases Way.news_or W hx hex with h | h
        · rw [h] at hlt; omega
        · exact h
      obtain ⟨ob2, hob2⟩ := this
      obtain ⟨q1, q', q2, q3, _⟩ := I.news x ob2 hkx hx hs hob2
      rw [hq] at q2; cases q2
      exact q3.lt q1
    by_cases e : x = j
    · have e' : x' ≠ j := fun e2 => hne (e.trans e2.symm)
      rw [e, Mp.with_same] at hp; cases hp
      rw [Mp.with_ne _ _ (own x' h6 e' h8)] at hp'
      rw [upd_ne _ e'] at h7
      have := hob x' h6 h7 h5 h8 p' hp'
      show w.heap.size ≠ _
      omega
    · rw [Mp.with_ne _ _ (own x h2 e h4)] at hp
      rw [upd_ne _ e] at h3
      by_cases e' : x' = j
      · rw [e', Mp.with_same] at hp'; cases hp'
        have := hob x h2 h3 h1 h4 p hp
        show _ ≠ w.heap.size
        omega
      · rw [Mp.with_ne _ _ (own x' h6 e' h8)] at hp'
        rw [upd_ne _ e'] at h7
        exact I.dist x x' p p' h1 h2 h3 h4 h5 h6 h7 h8 hne hp hp'
  · by_cases e : i = (M j).n
    · rw [e]
      have h3 : (M (j + 1)).n ≤ (M ops.size).n := W.mono' hOn hcn (show j + 1 ≤ ops.size by omega) (Nat.le_refl _)
      exact ⟨W.mono' hOn hcn (Nat.zero_le _) (by omega), by omega⟩
    · rw [Mp.with_ne _ _ e] at h2; exact I.dom i h1 h2
  · exact (hg.old b (Nat.lt_of_lt_of_le hb I.heap)).trans (I.keep b hb hi)
end
/-! ### drawn regions are told rightly -/
section
variable {P : Program} {O : Orc} {cf : CodeF} {ops : Array Oper} {ord lows bs : List Nat} {ix : Nat → Nat} {op : Nat → Oper} {F : Nat → Fr} {M : Nat → Me} {H : Nat → List (Tr AO)} {V : Nat → Value}
variable {μ0 : Mp} {w0 : World} {nt : Nat} {ms : List Dm} {k : Nat} {S : Nat → Bool} {μ : Mp} {a : Act} {w : World}
theorem Way.effH (W : Way P O cf ops ord lows bs ix op F M H V) {j : Nat} (hj : j < ops.size) (he : isEfAt P ops.toList (ix j) = true) : H (j + 1) = (M (j + 1)).h :: H j := by
  have h := W.st j hj
  unfold diOf DStep at h
  have ho : ops.toList[ix j]? = some (op j) := by simpa using W.ope j hj
  have he : (kdOf P (op j)).isEf = true := by
    unfold isEfAt at he; rw [ho] at he; exact he
  have hkd : kdOf P (op j) = .ef := by cases hkk : kdOf P (op j) <;> rw [hkk] at he <;> first | rfl | cases he
  rw [h.2.2]
  cases gdOk ops (op j) with
  | false => rfl
  | true =>
    simp only [cond_true]
    unfold exOf
    rw [hkd]
    cases okOpds (op j).op.operands.toList <;> cases isCall (op j) <;> rfl
theorem Inv.effect (W : Way P O cf ops ord lows bs ix op F M H V) (hOn : OrcN O) (hcn : CodeN P cf) (h00 : ∃ b, F 0 = .mk b nt ms) {j : Nat} (I : Inv P ops bs ix op F M H V μ0 w0 nt ms j S μ a w) (hj : j < ops.size) (hS : S j = false) (hpre : ∀ a, a < ops.size → Pr bs ix a j → S a = true) (he : isEfAt P ops.toList (ix j) = true)
    {ν : Mp} {w' : World} {RV : Value} (hv : VR ν (V j) RV) (hr : HR P ν (M (j + 1)) w') (hx : Ext μ (M j) w ν (M (j + 1)) w') : Inv P ops bs ix op F M H V μ0 w0 nt ms (j + 1) (upd S j) ν (a.put (op j).dst RV) w' := by
  obtain ⟨s1, s2⟩ := I.slots' W h00 hj hS hx.le hv
  have hm1 := W.mono hOn hcn hj
  have hmn : (M (j + 1)).n ≤ (M ops.size).n := W.mono' hOn hcn (show j + 1 ≤ ops.size by omega) (Nat.le_refl _)
  have hm0 : (M 0).n ≤ (M j).n := W.mono' hOn hcn (Nat.zero_le _) (by omega)
  have early : ∀ x, j + 1 ≤ x → x < ops.size → upd S j x = true → S x = true := fun x h1 h2 h3 => by rwa [upd_ne _ (by omega)] at h3
  have known : ∀ x, j + 1 ≤ x → x < ops.size → upd S j x = true → (M x).n < (M (x + 1)).n → ∀ p, ν (M x).n = some p → μ (M x).n = some p := fun x h1 h2 h3 h4 p hp => by
    have hs := early x h1 h2 h3
    have hex : isEfAt P ops.toList (ix x) = false := by
      cases hh : isEfAt P ops.toList (ix x) with
      | false => rfl
      | true => have := I.effd x h2 hs hh; omega
    rcases Way.news_or W h2 hex with h | ⟨ob, h⟩
    · rw [h] at h4; omega
    · obtain ⟨_, q, q2, _⟩ := I.news x ob (by omega) h2 hs h
      have := hx.le _ _ q2
      rw [hp] at this; cases this; exact q2
  refine { kn := hj, done := fun x h => ?_, effd := fun x h1 h2 h3 => ?_, down := I.down' W hpre, hr := hr, hd := fun h hh => ?_, free := fun i h1 h2 h3 => ?_, news := fun x ob h1 h2 h3 h4 => ?_, dist := fun x x' p p' h1 h2 h3 h4 h5 h6 h7 h8 hne hp hp' => ?_, size := s1, slots := s2, marks := (by rw [put_defers]; exact I.marks.mono hx.le), os := hx.os.trans I.os, tape := hx.tape.trans I.tape, output := hx.output.trans I.output, heap := Nat.le_trans I.heap hx.size, le := I.le.trans hx.le, dom := fun i h1 h2 => ?_, keep := fun b hb hi => ?_, img := fun b hb hi => I.img b hb (hx.img b (Nat.lt_of_lt_of_le hb I.heap) hi) }
  · by_cases e : x = j
    · rw [e]; exact upd_same _ _
    · rw [upd_ne _ e]; exact I.done x (by omega)
  · by_cases e : x = j
    · omega
    · rw [upd_ne _ e] at h2
      exact Nat.lt_succ_of_lt (I.effd x h1 h2 h3)
  · rw [W.effH hj he] at hh
    simp at hh
    rw [← hh]; exact fun i o h => h
  · by_cases hmu : μ i = none
    · have := hx.dom i hmu h3; omega
    · obtain ⟨x, q1, q2, q3, q4, q5⟩ := I.free i (by omega) h2 hmu
      refine ⟨x, ?_, q2, by unfold upd; split <;> simp_all, q4, q5⟩
      by_cases e : x = j
      · subst e; rw [hS] at q3; cases q3
      · omega
  · obtain ⟨q1, p, q2, q3, q4, q5⟩ := I.news x ob (by omega) h2 (early x h1 h2 h3) h4
    exact ⟨q1, p, hx.le _ _ q2, q3.mono hx.le (hx.keep _ (q3.lt q1) q5), q4, fun hi => q5 (hx.img _ (q3.lt q1) hi)⟩
  · exact I.dist x x' p p' (by omega) h2 (early x h1 h2 h3) h4 (by omega) h6 (early x' h5 h6 h7) h8 hne (known x h1 h2 h3 h4 p hp) (known x' h5 h6 h7 h8 p' hp')
  · by_cases hmu : μ i = none
    · have := hx.dom i hmu h2; omega
    · exact I.dom i h1 hmu
  · exact (hx.keep b (Nat.lt_of_lt_of_le hb I.heap) fun h => hi (I.img b hb h)).trans (I.keep b hb hi)
theorem Inv.exec (W : Way P O cf ops ord lows bs ix op F M H V) (hO : OrcOK P O) (hc : CodeOK P cf) (hOn : OrcN O) (hcn : CodeN P cf) (h00 : ∃ b, F 0 = .mk b nt ms) (hH0 : (H 0).length = 1) (I : Inv P ops bs ix op F M H V μ0 w0 nt ms k S μ a w) {j : Nat} (hj : j < ops.size) (hS : S j = false)
    (hpre : ∀ a, a < ops.size → Pr bs ix a j → S a = true) {r : Option Nat} {K : Act → World → Prop} {Q : Exit → Act → World → Prop} (hK : ∀ k' μ' a' w', Inv P ops bs ix op F M H V μ0 w0 nt ms k' (upd S j) μ' a' w' → K a' w') : wpOpIn (FF r) 0 P ops Q (ix j) K a w := by
  have hkj := I.ge W hS
  have hst := W.st j hj
  unfold wpOpIn
  simp only [W.ope j hj]
  unfold diOf DStep at hst
  obtain ⟨hst, hput, hhist⟩ := hst
  have hnews : ∀ j, j < ops.size → isEfAt P ops.toList (ix j) = false → M (j + 1) = M j ∨ ∃ ob, M (j + 1) = .mk ((M j).h.put (M j).n ob) ((M j).n + 1) := fun j hj he => Way.news_or W hj he
  have adv : isEfAt P ops.toList (ix j) = true → Inv P ops bs ix op F M H V μ0 w0 nt ms j S μ a w := fun he => by
    have := Inv.advanceTo W hnews (d := j - k) I (by omega) (fun x hx => hpre x (by omega) (W.effs (by omega) hj he))
    rwa [show k + (j - k) = j from by omega] at this
  cases hgo : gdOk ops (op j) with
  | false =>
    rw [hgo, gdOf_bad hgo] at hst
    rcases hst with ⟨_, h, _⟩ | ⟨h, _⟩
    · cases h
    · cases h
  | true =>
    rw [hgo] at hst
    simp only [cond_true] at hst
    rw [wanted_of (f := F j) (fun t want hg => I.reads W hj hS hpre (gd_looks hg)) hgo]
    rcases hst with ⟨hgh, hstep, hstood⟩ | ⟨hg, hV, hM⟩
    · rw [hgh]
      simp only [if_true]
      have hok : exOf P (op j) ≠ .bad := fun e => by rw [e] at hstep; cases hstep
      obtain ⟨hops, hx⟩ := exOf_eq (x := exOf P (op j)) rfl hok
      have hopr := I.opR W hj hS hpre hops
      cases he : isEfAt P ops.toList (ix j) with
      | true =>
        have I' := adv he
        have hfree : Free μ (M j).n (M (j + 1)).n := fun i h1 h2 => by
          cases hmu : μ i with
          | none => rfl
          | some p =>
            have hmn : (M (j + 1)).n ≤ (M ops.size).n := W.mono' hOn hcn (show j + 1 ≤ ops.size by omega) (Nat.le_refl _)
            obtain ⟨x, q1, q2, q3, q4, q5⟩ := I'.free i h1 (by omega) (by rw [hmu]; simp)
            by_cases e : x = j
            · subst e; rw [hS] at q3; cases q3
            · have := W.mono' hOn hcn (show j + 1 ≤ x by omega) (by omega); omega
        refine op_sound hO hc hOn hcn hok hstep hopr I'.hr hfree fun ν RV w' h1 h2 h3 => ?_
        exact hK _ _ _ _ (I'.effect W hOn hcn h00 hj hS hpre he h1 h2 h3)
      | false =>
        have hd : ∀ c, (op j).op ≠ .defer c := fun c e => by
          have hk : kdOf P (op j) = .fl := kdOf_defer e
          have hic : isCall (op j) = false := by unfold isCall; rw [e]
          have hxe : exOf P (op j) = .fl (pop P (op j)).1 := by
            unfold exOf
            rw [hops, hic, hk]; rfl
          obtain ⟨g, hg, hg2⟩ := pop_defer (P := P) e
          rw [hxe, hg] at hstep
          unfold stepV stepX at hstep
          simp only [hg2] at hstep
          cases hstep
        rcases hx with ⟨hcall, hx⟩ | ⟨hcall, ⟨g, hg, hx⟩ | ⟨g, hg, hx⟩ | ⟨g, hg, hx⟩ | ⟨g, hg, hx⟩⟩
        · exfalso
          rcases W.float hj he with hf | ⟨hf, _⟩
          · rw [hgo] at hhist
            simp only [cond_true] at hhist
            rw [hx, hf] at hhist
            have := congrArg List.length hhist
            unfold histOf at this
            simp at this
          · rw [hf] at hgh; cases hgh
        · rw [hx] at hstep
          unfold stepV stepX at hstep
          simp only at hstep
          split at hstep
          · rename_i v' hv'
            simp only [Option.some.injEq, Prod.mk.injEq] at hstep
            obtain ⟨e1, e2⟩ := hstep
            obtain ⟨RV, h1, h2⟩ := pop_sound hg hv' hopr w
            rw [e1] at h2
            exact wp_value hd h1 (hK _ _ _ _ (I.same W h00 hj hS hpre he e2.symm h2))
          · cases hstep
        · rw [hx] at hstep hstood
          unfold stepV stepX at hstep
          simp only at hstep
          split at hstep
          · rename_i v' hv'
            simp only [Option.some.injEq, Prod.mk.injEq] at hstep
            obtain ⟨e1, e2⟩ := hstep
            -- what it reads has stood since the last effect
            obtain ⟨ps, hps⟩ := W.hist hkj (by omega)
            have hcnt := W.count I.kn hH0
            have hlow := W.low hj I.kn (fun x hx1 hx2 hx3 => I.effd x hx1 (hpre x hx1 hx2) hx3)
            have hlen : (H j).length = ps.length + (H k).length := by rw [hps, List.length_append]
            obtain ⟨h0, hs0⟩ : ∃ h0, (H k).head? = some h0 := by
              cases hhk : H k with
              | nil => rw [hhk] at hcnt; simp at hcnt
              | cons x xs => exact ⟨x, rfl⟩
            have hat : (H j)[ps.length]? = some h0 := by
              rw [hps, List.getElem?_append_right (Nat.le_refl _), Nat.sub_self]
              rw [List.head?_eq_getElem?] at hs0; exact hs0
            have hv0 := stood_get hstood ps.length h0 (by omega) hat
            obtain ⟨RV, h1, h2⟩ := lop_sound (m := .mk h0 (M k).n) hg hv0 hopr (I.hr.part (I.hd h0 hs0))
            exact wp_value hd h1 (hK _ _ _ _ (I.same W h00 hj hS hpre he e2.symm h2))
          · cases hstep
        · rw [hx] at hstep
          unfold stepV stepX at hstep
          simp only at hstep
          split at hstep
          · rename_i ob rr hv'
            rw [Me.new_eq] at hstep
            simp only [Option.some.injEq, Prod.mk.injEq] at hstep
            obtain ⟨e1, e2⟩ := hstep
            obtain ⟨RV, cap, w', obj, h1, h2, h3, h4, h5, h6⟩ := nop_sound hg hv' hopr w
            refine wp_value hd h1 (hK _ _ _ _ (I.fresh W (cap := cap) h00 hOn hcn hj hS hpre he e2.symm h3 h2 fun hf => ?_))
            rw [← e1]
            exact h6 (M j).n hf
          · cases hstep
        · exfalso
          rcases W.float hj he with hf | ⟨hf, _⟩
          · rw [hgo] at hhist
            simp only [cond_true] at hhist
            rw [hx, hf] at hhist
            have := congrArg List.length hhist
            unfold histOf at this
            simp at this
          · rw [hf] at hgh; cases hgh
    · rw [hg]
      simp only [Bool.false_eq_true, if_false]
      refine ⟨fun f _ => FF_fn r f, ?_⟩
      have hv : VR μ (V j) undef := by rw [hV]; exact VR.undef
      cases he : isEfAt P ops.toList (ix j) with
      | true => exact hK _ _ _ _ ((adv he).effect W hOn hcn h00 hj hS hpre he hv (by rw [hM]; exact (adv he).hr) (by rw [hM]; exact Ext.refl _ _ _))
      | false => exact hK _ _ _ _ (I.same W h00 hj hS hpre he hM hv)
theorem countP_set {p p' : Nat → Bool} {i : Nat} : ∀ {l : List Nat}, i ∈ l → p i = true → p' i = false → (∀ x, p' x = true → p x = true) → l.countP p' < l.countP p
  | x :: l, hi, h1, h2, h3 => by
    rw [List.countP_cons, List.countP_cons]
    have hle : l.countP p' ≤ l.countP p := List.countP_mono_left fun x _ h => h3 x h
    by_cases e : x = i
    · subst e
      rw [h1, h2]
      simp; omega
    · have hi : i ∈ l := by
        rcases List.mem_cons.1 hi with h | h
        · exact absurd h.symm e
        · exact h
      have := countP_set hi h1 h2 h3
      have h4 : (if p' x = true then 1 else 0) ≤ (if p x = true then 1 else 0) := by
        by_cases c : p' x = true
        · rw [if_pos c, if_pos (h3 x c)]; exact Nat.le_refl _
        · rw [if_neg c]; exact Nat.zero_le _
      omega
theorem draw_go (W : Way P O cf ops ord lows bs ix op F M H V) (hO : OrcOK P O) (hc : CodeOK P cf) (hOn : OrcN O) (hcn : CodeN P cf) (h00 : ∃ b, F 0 = .mk b nt ms) (hH0 : (H 0).length = 1) {r : Option Nat} {Q : Exit → Act → World → Prop}
    (hQ : ∀ μ a w S, Inv P ops bs ix op F M H V μ0 w0 nt ms ops.size S μ a w → Q .normal a w) :
    ∀ (fuel : Nat) (listed : Array Bool) (k : Nat) (S : Nat → Bool) (μ : Mp) (a : Act) (w : World), listed.size = ops.size → (∀ j, j < ops.size → listed.getD (ix j) true = S j) → (List.range ops.size).countP (fun i => !listed.getD i true) ≤ fuel →
      Inv P ops bs ix op F M H V μ0 w0 nt ms k S μ a w → wpAnyIn (FF r) 0 P .any ops Q fuel listed a w := by
  have hnews : ∀ j, j < ops.size → isEfAt P ops.toList (ix j) = false → M (j + 1) = M j ∨ ∃ ob, M (j + 1) = .mk ((M j).h.put (M j).n ob) ((M j).n + 1) := fun j hj he => Way.news_or W hj he
  -- all done
  have fin : ∀ (listed : Array Bool) (k : Nat) (S : Nat → Bool) (μ : Mp) (a : Act) (w : World), (∀ j, j < ops.size → listed.getD (ix j) true = S j) → (∀ i, i < ops.size → listed.getD i true = true) → Inv P ops bs ix op F M H V μ0 w0 nt ms k S μ a w → Q .normal a w := by
    intro listed k S μ a w hS hall I
    have hk := I.kn
    have := Inv.advanceTo W hnews (d := ops.size - k) I (by omega) (fun j hj => by
      have hj' : j < ops.size := by omega
      rw [← hS j hj']; exact hall _ (W.pl.lt _ (List.mem_of_getElem? (W.ixe j hj'))))
    rw [show k + (ops.size - k) = ops.size from by omega] at this
    exact hQ μ a w S this
  have stuckless : ∀ (listed : Array Bool), listed.size = ops.size → Region.ready .any ops listed = [] → ∀ i, i < ops.size → listed.getD i true = true := by
    intro listed hsz hr i
    induction i using Nat.strongRecOn with
    | _ i ih =>
      intro hi
      cases hl : listed.getD i true with
      | true => rfl
      | false =>
        exfalso
        obtain ⟨o, ho⟩ : ∃ o, ops[i]? = some o := ⟨ops[i], Array.getElem?_eq_getElem hi⟩
        have hmem : i ∈ Region.ready .any ops listed := by
          unfold Region.ready
          rw [List.mem_filter]
          refine ⟨List.mem_range.2 hi, ?_⟩
          rw [hl, ho]
          simp only [Bool.not_false, Bool.true_and, Option.map_some, Option.getD_some]
          rw [← Array.all_toList, List.all_eq_true]
          intro e he
          cases hb : Region.binds .any e with
          | false => rfl
          | true =>
            have hlt := W.pl.back i o ho e he hb
            have := ih e.on hlt (by omega)
            have hlt2 : e.on < listed.size := by omega
            rw [Array.getD_eq_getD_getElem?, Array.getElem?_eq_getElem hlt2] at this ⊢
            simpa using this
        rw [hr] at hmem; cases hmem
  intro fuel
  induction fuel with
  | zero =>
    intro listed k S μ a w hsz hS hcnt I
    have hall : ∀ i, i < ops.size → listed.getD i true = true := fun i hi => by
      have h0 : (List.range ops.size).countP (fun i => !listed.getD i true) = 0 := by omega
      have := (List.countP_eq_zero.1 h0) i (List.mem_range.2 hi)
      simpa using this
    refine ⟨?_, fin listed k S μ a w hS hall I⟩
    unfold Region.ready
    rw [List.filter_eq_nil_iff]
    intro i hi
    rw [hall i (List.mem_range.1 hi)]; simp
  | succ fuel ih =>
    intro listed k S μ a w hsz hS hcnt I
    refine ⟨fun hr => fin listed k S μ a w hS (stuckless listed hsz hr) I, fun i hi => ?_⟩
    unfold Region.ready at hi
    rw [List.mem_filter] at hi
    obtain ⟨hir, hip⟩ := hi
    have hin := List.mem_range.1 hir
    simp only [Bool.and_eq_true, Bool.not_eq_true'] at hip
    obtain ⟨hl, hrdy⟩ := hip
    obtain ⟨j, hj, rfl⟩ := W.pos hin
    have hSj : S j = false := by rw [← hS j hj]; exact hl
    have hpre : ∀ x, x < ops.size → Pr bs ix x j → S x = true := fun x hx hp => by
      have ho := W.ope j hj
      obtain ⟨e, he, hb, h1⟩ := (W.pl.pre (ix j) (op j) (ix x) ho).1 hp
      rw [ho] at hrdy
      simp only [Option.map_some, Option.getD_some] at hrdy
      rw [← Array.all_toList, List.all_eq_true] at hrdy
      have h2 := hrdy e he
      rw [hb] at h2
      simp only [Bool.not_true, Bool.false_or] at h2
      have hlt := W.pl.back (ix j) (op j) ho e he hb
      obtain ⟨y, hy, hye⟩ := W.pos (show e.on < ops.size by omega)
      have hSy : S y = true := by
        rw [← hS y hy, hye]
        rw [Array.getD_eq_getD_getElem?, Array.getElem?_eq_getElem (by omega)] at h2 ⊢
        simpa using h2
      rcases h1 with h1 | h1
      · have : x = y := W.inj hx hy (by rw [hye, h1])
        rw [this]; exact hSy
      · exact I.down x y hx hy (by unfold Pr; rw [hye]; exact h1) hSy
    refine I.exec W hO hc hOn hcn h00 hH0 hj hSj hpre fun k' μ' a' w' I' => ?_
    refine ih (listed.setIfInBounds (ix j) true) k' (upd S j) μ' a' w' (by rw [Array.size_setIfInBounds]; exact hsz) (fun x hx => ?_) ?_ I'
    · by_cases e : x = j
      · subst e
        rw [upd_same, Array.getD_eq_getD_getElem?, Array.getElem?_setIfInBounds_self_of_lt (by rw [hsz]; exact hin)]; rfl
      · have hne : ix j ≠ ix x := fun h => e (W.inj hj hx h).symm
        rw [upd_ne _ e, Array.getD_eq_getD_getElem?, Array.getElem?_setIfInBounds_ne hne, ← Array.getD_eq_getD_getElem?]; exact hS x hx
    · have := countP_set (p := fun i => !listed.getD i true) (p' := fun i => !(listed.setIfInBounds (ix j) true).getD i true) (i := ix j) (l := List.range ops.size) hir (by simp [hl]) (by
        rw [Array.getD_eq_getD_getElem?, Array.getElem?_setIfInBounds_self_of_lt (by rw [hsz]; exact hin)]; rfl) (fun x hx => by
        by_cases e : ix j = x
        · subst e; simp only [hl, Bool.not_false]
        · rw [Array.getD_eq_getD_getElem?, Array.getElem?_setIfInBounds_ne e, ← Array.getD_eq_getD_getElem?] at hx; exact hx)
      omega
theorem draw_ok (hO : OrcOK P O) (hOn : OrcN O) (hc : CodeOK P cf) (hcn : CodeN P cf) : DrawOK P O cf := by
  intro ops ord lows f m f1 m1 hp h μ w a r hf hm hfree
  obtain ⟨bs, ix, op, F, M, H, V, W, e1, e2, e3, e4, e5⟩ := way_of hp h
  cases hf with
  | mk hAR hMR =>
    rename_i b nt ms T ds
    have h00 : ∃ b, F 0 = .mk b nt ms := ⟨b, e1⟩
    have hH0 : (H 0).length = 1 := by rw [e3]; rfl
    refine draw_go (μ0 := μ) (w0 := w) (nt := nt) (ms := ms) W hO hc hOn hcn h00 hH0 (fun ν a' w' S I => ?_) ops.size (Array.replicate ops.size false) 0 (fun _ => false) μ _ w (by simp) (fun j hj => ?_) ?_ ?_
    · refine ⟨rfl, ν, ?_, by rw [← e5]; exact I.hr, ?_⟩
      · obtain ⟨b0, nt0, ms0, q0, ⟨b', q1⟩, q2⟩ := W.frame (Nat.le_refl _)
        rw [e1] at q0; cases q0
        rw [← e4, q1]
        have hall : ∀ t, ov (F 0) op V S ops.size t = slot b' t := fun t => by
          have h3 := q2 t
          rw [q1] at h3
          have h3 : slot b' t = _ := h3
          rw [h3]
          have key : ∀ k, k ≤ ops.size → ov (F 0) op V S k t = ov (F 0) op V (fun _ => true) k t := by
            intro k
            induction k with
            | zero => intro _; rfl
            | succ k ih =>
              intro hk
              rw [ov_succ, ov_succ, ih (by omega), I.done k (by omega)]
          exact key _ (Nat.le_refl _)
        cases a' with
        | mk T' ds' =>
          refine .mk ⟨I.size, fun t => by rw [← hall t]; exact I.slots t, fun t v hv => ?_⟩ I.marks
          -- what is in the slots is below
          have hb : ∀ k, k ≤ ops.size → ∀ bb, F k = .mk bb nt ms → ∀ t v, bb.get t = some v → t < nt := by
            intro k
            induction k with
            | zero => intro _ bb hbb t v hv; rw [e1] at hbb; cases hbb; exact hAR.2.2 t v hv
            | succ k ih =>
              intro hk bb hbb t v hv
              obtain ⟨_, _, _, z0, ⟨bk, z1⟩, _⟩ := W.frame (show k ≤ ops.size by omega)
              rw [e1] at z0; cases z0
              have hst := W.st k (by omega)
              unfold diOf DStep at hst
              have hput := hst.2.1
              rw [z1] at hput
              cases hd : (op k).dst with
              | none =>
                rw [hd] at hput
                have hput : Fr.mk bk nt ms = F (k + 1) := Option.some.inj hput
                rw [hbb] at hput; cases hput
                exact ih (by omega) _ z1 t v hv
              | some u =>
                rw [hd] at hput
                unfold Fr.put at hput
                simp only [Tr.putK_eq] at hput
                cases hlt : Nat.blt u nt with
                | false => rw [hlt] at hput; cases hput
                | true =>
                  rw [hlt] at hput
                  simp only [cond_true, Option.some.injEq] at hput
                  rw [hbb] at hput; cases hput
                  rw [Tr.get_put] at hv
                  by_cases e : t = u
                  · subst e; exact Nat.le_of_ble_eq_true hlt
                  · rw [if_neg e] at hv; exact ih (by omega) _ z1 t v hv
          exact hb ops.size (Nat.le_refl _) b' q1 t v hv
      · have hmn : (M 0).n ≤ (M ops.size).n := W.mono' hOn hcn (Nat.zero_le _) (Nat.le_refl _)
        have hk := I.keep
        have hd := I.dom
        have hi := I.img
        rw [e2] at hk hd hi hmn
        rw [e5] at hd hi hmn
        exact ⟨I.os, I.tape, I.output, I.heap, I.le, hmn, hd, hk, hi⟩
    · rw [Array.getD_eq_getD_getElem?, Array.getElem?_replicate, if_pos (W.pl.lt _ (List.mem_of_getElem? (W.ixe j hj)))]; rfl
    · refine Nat.le_trans List.countP_le_length ?_
      simp
    · have z : ∀ t, ov (F 0) op V (fun _ => false) ops.size t = slot b t := fun t => by
        have key : ∀ k, ov (F 0) op V (fun _ => false) k t = slot b t := by
          intro k
          induction k with
          | zero => show slot (F 0).a t = _; rw [e1]; rfl
          | succ k ih => rw [ov_succ, if_neg (by simp), ih]
        exact key _
      refine { kn := Nat.zero_le _, done := fun j hj => (by omega), effd := fun j _ h => (by cases h), down := fun x y _ _ _ h => (by cases h), hr := (by rw [e2]; exact hm), hd := fun h0 hh i o hi => ?_, free := fun i h1 h2 h3 => ?_, news := fun j ob _ _ h => (by cases h), dist := fun j j' p p' _ _ h => (by cases h), size := hAR.1, slots := fun t => (by rw [z t]; exact hAR.2.1 t), marks := hMR, os := rfl, tape := rfl, output := rfl, heap := Nat.le_refl _, le := Mp.Le.refl _, dom := fun i h1 h2 => absurd h1 h2, keep := fun _ _ _ => rfl, img := fun _ _ h => h }
      · rw [e3] at hh
        simp at hh
        rw [e2, hh]; exact hi
      · rw [e2] at h1
        rw [e5] at h2
        exact absurd (hfree i h1 h2) h3
/-- The runs are told rightly. -/
theorem runs_ok (hmix : P.follows .mixedOrders = true) (hO : OrcOK P O) (hOn : OrcN O) (d : Nat) : CodeOK P (run P O d) := run_sound hmix hO hOn (fun _ hc hcn => draw_ok hO hOn hc hcn) d
theorem call_ok (hmix : P.follows .mixedOrders = true) (hO : OrcOK P O) (hOn : OrcN O) (d : Nat) : CallOK P (call P O d) := callG_sound hO (runs_ok hmix hO hOn d) hOn (run_n hOn d)
theorem call_n (hOn : OrcN O) (d : Nat) : CallN (call P O d) := callG_n hOn (run_n hOn d)
end
end Go.Proofs.YthelmobipjekjaaGreat.Ev
