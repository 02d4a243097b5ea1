/- Calls that make memory, known beforehand. -/
import Derived.Test.YthelmobipjekjaaGreatLr
set_option linter.unusedVariables false
set_option linter.unusedSimpArgs false
set_option linter.unusedSectionVars false
namespace Go.Proofs.YthelmobipjekjaaGreat.Ev
open Go Go.RowKit
/-! ### calls that make memory, known beforehand -/
/-- As 'Ent'; what is handed back, and the rows that it reaches: the numbers N, N + 1, .. are theirs. -/
structure EntF where
  f : Nat
  args : List Value
  hs : Hs
  N : Nat
  v : Value
  outs : List (TypeId × List Value)
noncomputable def memF (e : EntF) : Me := .mk (hsTr .e e.hs) e.N
def outHs : Nat → List (TypeId × List Value) → Hs
  | _, [] => []
  | n, (el, cs) :: r => (n, el, cs) :: outHs (Nat.succ n) r
def idS (hs : Hs) : Sg := hs.map fun p => (p.1, p.1)
def mt3 (s : Sg) (x y : Value) : Option Sg := match x with
  | .tuple a => (match y with | .tuple b => mts mt2 s a.toList b.toList | _ => none)
  | x => mt2 s x y
/-- The call gives what is told. -/
noncomputable def entRunF (c : CallF) (e : EntF) : Bool := match c e.f e.args (memF e) with
  | some (v, m) => kept m.h e.hs && (match mt3 (idS e.hs) e.v v with
    | some s => (match mtRows m.h s (outHs e.N e.outs) with
      | some s => sgOk s (e.N + e.outs.length)
      | none => false)
    | none => false)
  | none => false
/-- numbers changed -/
def renI (N k n i : Nat) : Option Nat := bif Nat.blt i N then none else bif Nat.blt i (N + k) then some (n + (i - N)) else none
def ren0 (g : Nat → Option Nat) (v : Value) : Option Value := match v with
  | .pointer (some ⟨i, o, none⟩) => (match g i with
    | some j => fN j fun j => some (.pointer (some ⟨j, o, none⟩))
    | none => none)
  | .slice (some ⟨i, o, none⟩) l c => (match g i with
    | some j => fN j fun j => some (.slice (some ⟨j, o, none⟩) l c)
    | none => none)
  | v => bif leaf v || isEmp v then some v else none
def rens (g : Value → Option Value) : List Value → Option (List Value)
  | [] => some []
  | x :: xs => match g x with
    | some y => (match rens g xs with
      | some ys => some (y :: ys)
      | none => none)
    | none => none
def ren1 (g : Nat → Option Nat) (v : Value) : Option Value := match v with
  | .agg a => (match rens (ren0 g) a.toList with
    | some l => some (.agg ⟨l⟩)
    | none => none)
  | v => ren0 g v
def ren2 (g : Nat → Option Nat) (v : Value) : Option Value := match v with
  | .agg a => (match rens (ren1 g) a.toList with
    | some l => some (.agg ⟨l⟩)
    | none => none)
  | .tuple a => (match rens (ren1 g) a.toList with
    | some l => some (.tuple ⟨l⟩)
    | none => none)
  | v => ren1 g v
def renOuts (g : Nat → Option Nat) : List (TypeId × List Value) → Option (List (TypeId × List Value))
  | [] => some []
  | (el, cs) :: r => bif ones cs then (match rens (ren0 g) cs with
    | some l => (match renOuts g r with
      | some ls => some ((el, l) :: ls)
      | none => none)
    | none => none) else none
noncomputable def putOuts {β : Type} : List (TypeId × List Value) → Me → (Me → β) → β
  | [], m, k => k m
  | (el, cs) :: r, m, k => fN cs.length fun len => Tr.putsK cs .e 0 fun c => m.new (.row c len el [] false) fun _ m => putOuts r m k
noncomputable def entFO (e : EntF) : CallF := fun f args m => bif Nat.beq f e.f then (match mts mt2 [] e.args args with
    | some s => (match mtRows m.h s e.hs with
      | some s => bif sgOk s e.N then (match ren2 (renI e.N e.outs.length m.n) e.v with
        | some v => (match renOuts (renI e.N e.outs.length m.n) e.outs with
          | some outs => putOuts outs m fun m => some (v, m)
          | none => none)
        | none => none) else none
      | none => none)
    | none => none) else none
section
variable {P : Program} {μ ν : Mp}
theorem tup_iff {a b : List Value} (hl : a.length = b.length) (h : ∀ (k : Nat) (x y : Value), a[k]? = some x → b[k]? = some y → ∀ {V}, VR ν x V ↔ VR μ y V) {V : Value} : VR ν (.tuple ⟨a⟩) V ↔ VR μ (.tuple ⟨b⟩) V := by
  constructor
  · intro k
    obtain ⟨c, rfl, hc⟩ := k.tup_inv
    refine .tup (hl.symm.trans hc.1) fun i x y hx hy => ?_
    have hi : i < a.length := by rw [hl]; exact (List.getElem?_eq_some_iff.1 hx).1
    exact (h i _ x (List.getElem?_eq_getElem hi) hx).1 (hc.2 i _ y (List.getElem?_eq_getElem hi) hy)
  · intro k
    obtain ⟨c, rfl, hc⟩ := k.tup_inv
    refine .tup (hl.trans hc.1) fun i x y hx hy => ?_
    have hi : i < b.length := by rw [← hl]; exact (List.getElem?_eq_some_iff.1 hx).1
    exact (h i x _ hx (List.getElem?_eq_getElem hi)).2 (hc.2 i _ y (List.getElem?_eq_getElem hi) hy)
theorem mt3_ok : MtOK mt3 := by
  intro s t x y h
  unfold mt3 at h
  split at h
  · rename_i a
    split at h
    · rename_i b
      obtain ⟨h1, h2, h3, h4⟩ := mts_ok mt2_ok h
      obtain ⟨a⟩ := a
      obtain ⟨b⟩ := b
      exact ⟨h1, (fun h => by cases h), fun {ν μ V} ha => tup_iff h2 (h4 ha)⟩
    · cases h
  · exact mt2_ok h
theorem ren0_vr {g : Nat → Option Nat} (hg : ∀ i j, g i = some j → ν i = μ j) {x y V : Value} (h : ren0 g x = some y) (hx : VR ν x V) : VR μ y V ∧ (one x = true → one y = true) := by
  unfold ren0 at h
  split at h
  · rename_i i o
    split at h
    · rename_i j hj
      rw [fN_eq] at h
      cases h
      obtain ⟨p, _, hp, rfl⟩ := hx.ptr_inv
      exact ⟨.ptr (by rw [← hg _ _ hj]; exact hp), fun _ => rfl⟩
    · cases h
  · rename_i i o l c
    split at h
    · rename_i j hj
      rw [fN_eq] at h
      cases h
      rcases hx.sl_inv with ⟨p, _, hp, hl, rfl⟩ | ⟨e, _⟩
      · exact ⟨.sl (by rw [← hg _ _ hj]; exact hp) hl, fun _ => rfl⟩
      · cases e
    · cases h
  · cases hb : (leaf x || isEmp x) with
    | false => rw [hb] at h; cases h
    | true =>
      rw [hb] at h
      cases h
      refine ⟨?_, fun h => h⟩
      simp only [Bool.or_eq_true] at hb
      rcases hb with hb | hb
      · exact (VR.leaf_iff hb).1 hx
      · exact (VR.emp_iff hb).1 hx
theorem rens_vr {g : Value → Option Value} (hg : ∀ {x y V : Value}, g x = some y → VR ν x V → VR μ y V) : ∀ {xs ys VS : List Value}, rens g xs = some ys → VRs ν xs VS → VRs μ ys VS
  | [], ys, VS, h, hx => by
    simp only [rens, Option.some.injEq] at h
    subst h
    rw [hx.nil_inv]; exact VRs.nil
  | x :: xs, ys, VS, h, hx => by
    simp only [rens] at h
    split at h
    · rename_i y hy
      split at h
      · rename_i l hl
        cases h
        obtain ⟨V, VS', rfl, h1, h2⟩ := hx.cons_inv
        exact VRs.cons (hg hy h1) (rens_vr hg hl h2)
      · cases h
    · cases h
theorem ren1_vr {g : Nat → Option Nat} (hg : ∀ i j, g i = some j → ν i = μ j) {x y V : Value} (h : ren1 g x = some y) (hx : VR ν x V) : VR μ y V := by
  unfold ren1 at h
  split at h
  · rename_i a
    split at h
    · rename_i l hl
      cases h
      obtain ⟨b, rfl, hb⟩ := hx.agg_inv
      have := rens_vr (fun h k => (ren0_vr hg h k).1) hl hb
      exact .agg this.1 this.2
    · cases h
  · exact (ren0_vr hg h hx).1
theorem ren2_vr {g : Nat → Option Nat} (hg : ∀ i j, g i = some j → ν i = μ j) {x y V : Value} (h : ren2 g x = some y) (hx : VR ν x V) : VR μ y V := by
  unfold ren2 at h
  split at h
  · split at h
    · rename_i l hl
      cases h
      obtain ⟨b, rfl, hb⟩ := hx.agg_inv
      have := rens_vr (fun h k => ren1_vr hg h k) hl hb
      exact .agg this.1 this.2
    · cases h
  · split at h
    · rename_i l hl
      cases h
      obtain ⟨b, rfl, hb⟩ := hx.tup_inv
      have := rens_vr (fun h k => ren1_vr hg h k) hl hb
      exact .tup this.1 this.2
    · cases h
  · exact ren1_vr hg h hx
/-- The rows put there. -/
theorem putOuts_eq {β : Type} : ∀ {outs : List (TypeId × List Value)} {m : Me} {k : Me → β}, ∃ m', putOuts outs m k = k m' ∧ m'.n = m.n + outs.length ∧
    (∀ i o, (∀ x o, m.h.get x = some o → x < m.n) → m'.h.get i = some o → (i < m.n ∧ m.h.get i = some o) ∨ ∃ x el cs, i = m.n + x ∧ outs[x]? = some (el, cs) ∧ o = .row (Tr.ofList cs) cs.length el [] false) ∧ (∀ i, i < m.n → m'.h.get i = m.h.get i)
  | [], m, k => ⟨m, rfl, rfl, fun i o hf h => .inl ⟨hf _ _ h, h⟩, fun _ _ => rfl⟩
  | (el, cs) :: r, m, k => by
    obtain ⟨m', h1, h2, h3, h4⟩ := putOuts_eq (outs := r) (m := .mk (m.h.put m.n (.row (Tr.ofList cs) cs.length el [] false)) (m.n + 1)) (k := k)
    refine ⟨m', ?_, ?_, fun i o hf h => ?_, fun i hi => ?_⟩
    · show fN cs.length _ = _
      rw [fN_eq, Tr.putsK_eq, Me.new_eq]
      exact h1
    · rw [h2]; show m.n + 1 + r.length = m.n + (r.length + 1); omega
    · rcases h3 i o (fun x o hx => by
        by_cases e : x = m.n
        · subst e; exact Nat.lt_succ_self _
        · have hx : (m.h.put m.n _).get x = some o := hx
          rw [Tr.get_put_ne _ _ e] at hx
          exact Nat.lt_succ_of_lt (hf x o hx)) h with ⟨k1, k2⟩ | ⟨x, el', cs', k1, k2, k3⟩
      · have k2 : (m.h.put m.n _).get i = some o := k2
        by_cases e : i = m.n
        · subst e
          rw [Tr.get_put_same] at k2
          exact .inr ⟨0, el, cs, rfl, rfl, (Option.some.inj k2).symm⟩
        · rw [Tr.get_put_ne _ _ e] at k2
          exact .inl ⟨hf i o k2, k2⟩
      · exact .inr ⟨x + 1, el', cs', by rw [k1]; show m.n + 1 + x = _; omega, by simpa using k2, k3⟩
    · rw [h4 i (Nat.lt_succ_of_lt hi)]
      exact Tr.get_put_ne _ _ (by omega)
theorem renOuts_get {g : Nat → Option Nat} : ∀ {outs outs' : List (TypeId × List Value)}, renOuts g outs = some outs' → outs'.length = outs.length ∧ ∀ (x : Nat) el cs', outs'[x]? = some (el, cs') → ∃ cs, outs[x]? = some (el, cs) ∧ rens (ren0 g) cs = some cs' ∧ ones cs = true
  | [], outs', h => by cases h; exact ⟨rfl, fun x el cs' h => by simp at h⟩
  | (el, cs) :: r, outs', h => by
    simp only [renOuts] at h
    cases ho : ones cs with
    | false => rw [ho] at h; cases h
    | true =>
      rw [ho] at h
      simp only [cond_true] at h
      split at h
      · rename_i l hl
        split at h
        · rename_i ls hls
          cases h
          obtain ⟨h1, h2⟩ := renOuts_get hls
          refine ⟨by simp [h1], fun x el' cs' hx => ?_⟩
          cases x with
          | zero => simp at hx; obtain ⟨rfl, rfl⟩ := hx; exact ⟨cs, rfl, hl, ho⟩
          | succ x => obtain ⟨cs0, a, b⟩ := h2 x el' cs' (by simpa using hx); exact ⟨cs0, by simpa using a, b⟩
        · cases h
      · cases h
theorem outHs_mem : ∀ {outs : List (TypeId × List Value)} {n x : Nat} {el : TypeId} {cs : List Value}, outs[x]? = some (el, cs) → (n + x, el, cs) ∈ outHs n outs
  | [], n, x, el, cs, h => by simp at h
  | (el0, cs0) :: r, n, x, el, cs, h => by
    cases x with
    | zero => simp at h; obtain ⟨rfl, rfl⟩ := h; exact List.mem_cons_self
    | succ x =>
      have := outHs_mem (n := n + 1) (x := x) (outs := r) (el := el) (cs := cs) (by simpa using h)
      rw [show n + 1 + x = n + (x + 1) from by omega] at this
      exact List.mem_cons_of_mem _ this
theorem idS_get {hs : Hs} {en : Nat × TypeId × List Value} (h : en ∈ hs) : (idS hs).get en.1 = some en.1 := by
  induction hs with
  | nil => cases h
  | cons a r ih =>
    show Sg.get ((a.1, a.1) :: idS r) en.1 = _
    rw [Sg.get_cons]
    by_cases e : a.1 = en.1
    · rw [if_pos e, e]
    · rw [if_neg e]
      rcases List.mem_cons.1 h with rfl | h
      · exact absurd rfl e
      · exact ih h
theorem rens_length {g : Value → Option Value} : ∀ {xs ys : List Value}, rens g xs = some ys → ys.length = xs.length
  | [], ys, h => by cases h; rfl
  | x :: xs, ys, h => by
    simp only [rens] at h
    split at h
    · split at h
      · rename_i l hl; cases h; simp [rens_length hl]
      · cases h
    · cases h
theorem rens_get {g : Value → Option Value} : ∀ {xs ys : List Value}, rens g xs = some ys → ∀ (k : Nat) (y : Value), ys[k]? = some y → ∃ x, xs[k]? = some x ∧ g x = some y
  | [], ys, h, k, y, hy => by cases h; simp at hy
  | x :: xs, ys, h, k, y, hy => by
    simp only [rens] at h
    split at h
    · rename_i y0 hy0
      split at h
      · rename_i l hl
        cases h
        cases k with
        | zero => simp at hy; subst hy; exact ⟨x, rfl, hy0⟩
        | succ k => obtain ⟨z, a, b⟩ := rens_get hl k y (by simpa using hy); exact ⟨z, by simpa using a, b⟩
      · cases h
    · cases h
theorem entF_ok {c : CallF} {e : EntF} (hc : CallOK P c) (h : entRunF c e = true) : CallOK P (entFO e) := by
  unfold entRunF at h
  obtain ⟨v0, m1, hrun, h⟩ : ∃ v m1, c e.f e.args (memF e) = some (v, m1) ∧ (kept m1.h e.hs && (match mt3 (idS e.hs) e.v v with
    | some s => (match mtRows m1.h s (outHs e.N e.outs) with
      | some s => sgOk s (e.N + e.outs.length)
      | none => false)
    | none => false)) = true := by
    split at h
    · exact ⟨_, _, by assumption, h⟩
    · cases h
  simp only [Bool.and_eq_true] at h
  obtain ⟨hk, h⟩ := h
  split at h
  rotate_left
  · cases h
  rename_i t0 ht0
  split at h
  rotate_left
  · cases h
  rename_i t1 ht1
  obtain ⟨vl1, _, vl3⟩ := mt3_ok ht0
  obtain ⟨o1, o2⟩ := mtRows_ok ht1
  obtain ⟨oinj, olt⟩ := sgOk_inj h
  obtain ⟨hfn, hcall⟩ := hc _ _ _ _ _ hrun
  intro f args m v' m' ho
  unfold entFO at ho
  cases hf : Nat.beq f e.f with
  | false => rw [hf] at ho; cases ho
  | true =>
    rw [hf] at ho
    simp only [cond_true] at ho
    obtain rfl := Nat.eq_of_beq_eq_true hf
    split at ho
    rotate_left
    · cases ho
    rename_i s0 hs0
    split at ho
    rotate_left
    · cases ho
    rename_i s hs
    cases hok : sgOk s e.N with
    | false => rw [hok] at ho; cases ho
    | true =>
      rw [hok] at ho
      simp only [cond_true] at ho
      split at ho
      rotate_left
      · cases ho
      rename_i v hv
      split at ho
      rotate_left
      · cases ho
      rename_i outs' houts
      obtain ⟨m2, p1, p2, p3, p4⟩ := putOuts_eq (outs := outs') (m := m) (k := fun m => some (v, m))
      rw [p1] at ho
      simp only [Option.some.injEq, Prod.mk.injEq] at ho
      obtain ⟨rfl, rfl⟩ := ho
      obtain ⟨olen, oget⟩ := renOuts_get houts
      refine ⟨hfn, fun μ w ARGS hargs hm hfree => ?_⟩
      obtain ⟨l1, l2, _, l4⟩ := mts_ok mt2_ok hs0
      obtain ⟨r1, r2⟩ := mtRows_ok hs
      obtain ⟨inj, lt⟩ := sgOk_inj hok
      obtain ⟨κ, hκ⟩ : ∃ κ : Mp, κ = fun i => (s.get i).bind μ := ⟨_, rfl⟩
      have hag : Agree s κ μ := fun i j hij => by rw [hκ]; simp only [hij, Option.bind_some]
      have hargs' : VRs κ e.args ARGS := by
        refine ⟨l2.trans hargs.1, fun i x y hx hy => ?_⟩
        have hi : i < args.length := by rw [← l2]; exact (List.getElem?_eq_some_iff.1 hx).1
        exact (l4 (hag.le r1) i x _ hx (List.getElem?_eq_getElem hi)).2 (hargs.2 i _ y (List.getElem?_eq_getElem hi) hy)
      have inv : ∀ i o, (memF e).h.get i = some o → ∃ en ∈ e.hs, en.1 = i ∧ o = .row (Tr.ofList en.2.2) en.2.2.length en.2.1 [] false := fun i o hi => by
        rcases hsTr_get hi with h | h
        · cases h
        · exact h
      have hm0 : HR P κ (memF e) w := by
        refine ⟨fun i o hi hl => ?_, fun i o hi => ?_, fun i o j o' p q hi hl hu hj hl' hne hp hq he => ?_⟩
        · obtain ⟨en, hen, rfl, rfl⟩ := inv i o hi
          obtain ⟨j, cc, l, k1, k2, k3, s1, s2, k4, k5⟩ := r2 en hen
          obtain ⟨p, hp, arr, ty, fz, sz, g1, g2, g3⟩ := hm.obj j _ k2 rfl
          refine ⟨p, by rw [hag _ _ k1]; exact hp, arr, ty, fz, sz, g1, fun k u hu => ?_, g3⟩
          rw [Tr.get_ofList] at hu
          obtain ⟨_, m2, m3, m4⟩ := mts_ok mt1_ok k4
          obtain ⟨n1, n2⟩ := Tr.slice_spec _ _ _ _ k3
          have hkl : k < en.2.2.length := (List.getElem?_eq_some_iff.1 hu).1
          have hlk : l[k]? = some (l[k]'(by omega)) := List.getElem?_eq_getElem _
          have hg := n2 k hkl
          rw [Nat.zero_add, hlk] at hg
          obtain ⟨_, q2, V, q3, q4⟩ := g2 k _ hg
          exact ⟨hkl, m3 k u _ hu hlk q2, V, q3, (m4 (hag.le k5) k u _ hu hlk).2 q4⟩
        · obtain ⟨en, hen, rfl, rfl⟩ := inv i o hi
          obtain ⟨j, cc, l, k1, _⟩ := r2 en hen
          exact lt _ _ k1
        · exfalso
          obtain ⟨en, hen, rfl, rfl⟩ := inv i o hi
          obtain ⟨en', hen', rfl, rfl⟩ := inv j o' hj
          obtain ⟨x, cc, l, k1, k2, _⟩ := r2 en hen
          obtain ⟨y, cc', l', k1', k2', _⟩ := r2 en' hen'
          rw [hag _ _ k1] at hp
          rw [hag _ _ k1'] at hq
          have hxy : y ≠ x := fun e => hne (inj _ _ _ (by rw [← e]; exact k1') k1 ▸ rfl)
          exact absurd (hm.apart x _ y _ p q k2 rfl rfl k2' rfl hxy hp hq he).1 (by simp [anc])
      have hfree0 : Free κ (memF e).n m1.n := fun i hi _ => by
        rw [hκ]
        cases hsi : s.get i with
        | none => simp [hsi]
        | some j => have := lt i j hsi; have h9 : e.N ≤ i := hi; omega
      refine (hcall κ w ARGS hargs' hm0 hfree0).mono fun en w' hen => ?_
      obtain ⟨V, ξ, rfl, hV, hm1, hx⟩ := hen
      have hag1 : Agree s ξ μ := fun i j hij => by
        rw [← hag i j hij]
        cases hki : κ i with
        | some p => exact hx.le _ _ hki
        | none =>
          cases hxi : ξ i with
          | none => rfl
          | some p =>
            have := hx.dom i hki (by rw [hxi]; simp)
            have h8 : e.N ≤ i := this.1
            have := lt i j hij; omega
      have imgs : ∀ b, Img κ (memF e) b → ∃ en ∈ e.hs, ∃ j cc q, s.get en.1 = some j ∧ m.h.get j = some (.row cc en.2.2.length en.2.1 [] false) ∧ μ j = some q ∧ q.blk = b := by
        rintro b ⟨i, o, q, h1, h2, h3, h4⟩
        obtain ⟨en, hen, rfl, rfl⟩ := inv i o h1
        obtain ⟨j, cc, l, k1, k2, _⟩ := r2 en hen
        exact ⟨en, hen, j, cc, q, k1, k2, by rw [← hag _ _ k1]; exact h3, h4⟩
      -- what there was is as it was
      have hold : HR P μ m w' := by
        refine ⟨fun j o hj hl => ?_, hm.few, hm.apart⟩
        obtain ⟨p, hp, hom⟩ := hm.obj j o hj hl
        refine ⟨p, hp, ?_⟩
        by_cases hi : Img κ (memF e) p.blk
        · obtain ⟨en, hen, j', cc, q, k1, k2, k3, k4⟩ := imgs _ hi
          by_cases ej : j = j'
          · subst ej
            rw [hp] at k3; cases k3
            rw [k2] at hj; cases hj
            obtain ⟨cc', y1, y2⟩ := kept_get hk en hen
            obtain ⟨q', z1, arr, ty, fz, sz, g1, g2, g3⟩ := hm1.obj _ _ y1 rfl
            have e1 : κ en.1 = some p := by rw [hag _ _ k1]; exact hp
            have e2 := hx.le _ _ e1
            rw [z1] at e2; cases e2
            obtain ⟨arr0, ty0, fz0, sz0, g01, g02, _⟩ := hom
            obtain ⟨j2, cc2, l, w1, w2, w3, s1, s2, w4, w5⟩ := r2 en hen
            rw [k1] at w1; cases w1
            rw [k2] at w2; cases w2
            obtain ⟨_, m2, m3, m4⟩ := mts_ok mt1_ok w4
            obtain ⟨n1, n2⟩ := Tr.slice_spec _ _ _ _ w3
            obtain ⟨n3, n4⟩ := Tr.slice_spec _ _ _ _ y2
            refine ⟨arr, ty, fz, sz, g1, fun k u hu => ?_, g3⟩
            obtain ⟨b1, b2, _⟩ := g02 k u hu
            have hlk : l[k]? = some u := by rw [← n2 k b1, Nat.zero_add]; exact hu
            have hek : en.2.2[k]? = some (en.2.2[k]'b1) := List.getElem?_eq_getElem _
            have hck := n4 k b1
            rw [Nat.zero_add, hek] at hck
            obtain ⟨_, _, V2, c3, c4⟩ := g2 k _ hck
            exact ⟨b1, b2, V2, c3, (m4 (hag1.le w5) k _ u hek hlk).1 c4⟩
          · exfalso
            exact absurd (hm.apart j' _ j o q p k2 rfl rfl hj hl ej k3 hp k4).1 (by simp [anc])
        · exact hom.mono (Mp.Le.refl _) (hx.keep _ (hom.lt hl) hi)
      -- the new ones
      obtain ⟨lam, hlam⟩ : ∃ lam : Mp, lam = fun i => (t1.get i).bind ξ := ⟨_, rfl⟩
      have hagl : Agree t1 lam ξ := fun i j hij => by rw [hlam]; simp only [hij, Option.bind_some]
      have hN : ∀ en ∈ e.hs, en.1 < e.N := fun en hen => by
        obtain ⟨j, cc, l, k1, _⟩ := r2 en hen
        exact lt _ _ k1
      have hid : ∀ en ∈ e.hs, t1.get en.1 = some en.1 := fun en hen => o1 _ _ (vl1 _ _ (idS_get hen))
      obtain ⟨μ', hμ'⟩ : ∃ μ' : Mp, μ' = fun x => if m.n ≤ x ∧ x < m.n + e.outs.length then lam (e.N + (x - m.n)) else μ x := ⟨_, rfl⟩
      have hle : Mp.Le μ μ' := fun i p hi => by
        rw [hμ']
        by_cases c1 : m.n ≤ i ∧ i < m.n + e.outs.length
        · have := hfree i c1.1 (by rw [p2, olen]; exact c1.2)
          rw [this] at hi; cases hi
        · simp only [if_neg c1]; exact hi
      have hnew : ∀ x, x < e.outs.length → μ' (m.n + x) = lam (e.N + x) := fun x hx => by
        rw [hμ']
        simp only
        rw [if_pos (by omega), show m.n + x - m.n = x from by omega]
      have hren : ∀ i j, renI e.N e.outs.length m.n i = some j → lam i = μ' j := fun i j hij => by
        unfold renI at hij
        cases hb : Nat.blt i e.N with
        | true => rw [hb] at hij; cases hij
        | false =>
          rw [hb] at hij
          simp only [cond_false] at hij
          have hge : e.N ≤ i := by
            rcases Nat.lt_or_ge i e.N with h | h
            · have : Nat.blt i e.N = true := Nat.ble_eq_true_of_le h
              rw [hb] at this; cases this
            · exact h
          cases hb2 : Nat.blt i (e.N + e.outs.length) with
          | false => rw [hb2] at hij; cases hij
          | true =>
            rw [hb2] at hij
            cases hij
            have hlt : i < e.N + e.outs.length := Nat.le_of_ble_eq_true hb2
            rw [hnew (i - e.N) (by omega), show e.N + (i - e.N) = i from by omega]
      -- each
      have each : ∀ (x : Nat) el cs', outs'[x]? = some (el, cs') → ∃ j cc p, x < e.outs.length ∧ t1.get (e.N + x) = some j ∧ m1.h.get j = some (.row cc cs'.length el [] false) ∧ ξ j = some p ∧ μ' (m.n + x) = some p ∧ w.heap.size ≤ p.blk ∧ OM P μ' p w' (.row (Tr.ofList cs') cs'.length el [] false) := by
        intro x el cs' hx'
        obtain ⟨cs, hcs, hrens, hones⟩ := oget x el cs' hx'
        have hxl : x < e.outs.length := (List.getElem?_eq_some_iff.1 hcs).1
        obtain ⟨j, cc, l, k1, k2, k3, sa, sb, k4, k5⟩ := o2 _ (outHs_mem hcs)
        have hlen := rens_length hrens
        obtain ⟨pp, hp, arr, ty, fz, sz, g1, g2, g3⟩ := hm1.obj j _ k2 rfl
        refine ⟨j, cc, pp, hxl, k1, by rw [hlen]; exact k2, hp, by rw [hnew x hxl, hlam]; simp only [k1, Option.bind_some]; exact hp, ?_, arr, ty, fz, sz, g1, fun k u hu => ?_, by rw [hlen]; exact g3⟩
        · rcases Nat.lt_or_ge pp.blk w.heap.size with hlt | hge
          · exfalso
            obtain ⟨en, hen, j', cc', q, z1, z2, z3, z4⟩ := imgs _ (hx.img _ hlt ⟨j, _, pp, k2, rfl, hp, rfl⟩)
            obtain ⟨cc2, y1, _⟩ := kept_get hk en hen
            have e1 : κ en.1 = some q := by rw [hag _ _ z1]; exact z3
            have e2 := hx.le _ _ e1
            have hne : j ≠ en.1 := fun ee => by
              have := oinj en.1 (e.N + x) en.1 (hid en hen) (by rw [k1, ee])
              have := hN en hen
              omega
            exact absurd (hm1.apart en.1 _ j _ q pp y1 rfl rfl k2 rfl hne e2 hp z4).1 (by simp [anc])
          · exact hge
        · rw [Tr.get_ofList] at hu
          obtain ⟨x0, hx0, hr0⟩ := rens_get hrens k u hu
          have hkl : k < cs.length := (List.getElem?_eq_some_iff.1 hx0).1
          obtain ⟨_, m2', m3, m4⟩ := mts_ok mt1_ok k4
          obtain ⟨n1, n2⟩ := Tr.slice_spec _ _ _ _ k3
          have n1 : l.length = cs.length := n1
          have hlk : l[k]? = some (l[k]'(by omega)) := List.getElem?_eq_getElem _
          have hg := n2 k hkl
          rw [Nat.zero_add, hlk] at hg
          obtain ⟨_, q2, V', q3, q4⟩ := g2 k _ hg
          have h5 := (m4 (hagl.le k5) k x0 _ hx0 hlk).2 q4
          obtain ⟨h6, h7⟩ := ren0_vr hren hr0 h5
          exact ⟨by rw [hlen]; exact hkl, h7 (ones_get hones k x0 hx0), V', q3, h6⟩
      have old : ∀ j o, m.h.get j = some o → live o = true → ∃ p, μ j = some p ∧ p.blk < w.heap.size := fun j o hj hl => by
        obtain ⟨p, hp, hom⟩ := hm.obj j o hj hl
        exact ⟨p, hp, hom.lt hl⟩
      have get2 := fun i o => p3 i o hm.few
      refine ⟨V, μ', rfl, ren2_vr hren hv ((vl3 (hagl.le o1)).2 hV), ⟨fun i o hi hl => ?_, fun i o hi => ?_, fun i o j o' p q hi hl hu hj hl' hne hp hq he => ?_⟩, ⟨hx.os, hx.tape, hx.output, hx.size, hle, by rw [p2]; omega, fun i h1 h2 => ?_, fun b hb hi => hx.keep b hb fun hi' => hi ?_, fun b hb hi => ?_⟩⟩
      · rcases get2 i o hi with ⟨_, h1⟩ | ⟨x, el, cs, rfl, h2, rfl⟩
        · obtain ⟨p, hp, hom⟩ := hold.obj i o h1 hl
          exact ⟨p, hle _ _ hp, hom.mono hle rfl⟩
        · obtain ⟨j, cc, p, _, _, _, _, h8, _, h10⟩ := each x el cs h2
          exact ⟨p, h8, h10⟩
      · rcases get2 i o hi with ⟨h1, _⟩ | ⟨x, el, cs, rfl, h2, rfl⟩
        · rw [p2]; omega
        · have := (List.getElem?_eq_some_iff.1 h2).1
          rw [p2]; omega
      · rcases get2 i o hi with ⟨_, h1⟩ | ⟨x, el, cs, rfl, h2, rfl⟩
        · obtain ⟨p0, hp0, hpl⟩ := old i o h1 hl
          have ep := hle _ _ hp0
          rw [hp] at ep; cases ep
          rcases get2 j o' hj with ⟨_, h3⟩ | ⟨y, el', cs', rfl, h4, rfl⟩
          · obtain ⟨q0, hq0, _⟩ := old j o' h3 hl'
            have eq := hle _ _ hq0
            rw [hq] at eq; cases eq
            exact hm.apart i o j o' p q h1 hl hu h3 hl' hne hp0 hq0 he
          · exfalso
            obtain ⟨_, _, q1, _, _, _, _, h8, h9, _⟩ := each y el' cs' h4
            rw [hq] at h8; cases h8
            omega
        · obtain ⟨j1, cc1, p1', hx1, h5, h6, h7, h8, h9, _⟩ := each x el cs h2
          rw [hp] at h8; cases h8
          rcases get2 j o' hj with ⟨_, h3⟩ | ⟨y, el', cs', rfl, h4, rfl⟩
          · exfalso
            obtain ⟨q0, hq0, hql⟩ := old j o' h3 hl'
            have eq := hle _ _ hq0
            rw [hq] at eq; cases eq
            omega
          · exfalso
            obtain ⟨j2, cc2, q1, hy1, i5, i6, i7, i8, i9, _⟩ := each y el' cs' h4
            rw [hq] at i8; cases i8
            have hjj : j2 ≠ j1 := fun ee => by
              have := oinj (e.N + x) (e.N + y) j1 h5 (by rw [i5, ee])
              exact hne (by omega)
            exact absurd (hm1.apart j1 _ j2 _ p q h6 rfl rfl i6 rfl hjj h7 i7 he).1 (by simp [anc])
      · rw [hμ'] at h2
        simp only at h2
        by_cases c1 : m.n ≤ i ∧ i < m.n + e.outs.length
        · exact ⟨c1.1, by rw [p2, olen]; exact c1.2⟩
        · rw [if_neg c1] at h2; exact absurd h1 h2
      · obtain ⟨en, hen, j, cc, q, k1, k2, k3, k4⟩ := imgs _ hi'
        exact ⟨j, _, q, k2, rfl, k3, k4⟩
      · obtain ⟨i, o, p, h1, h2, h3, h4⟩ := hi
        rcases get2 i o h1 with ⟨_, h5⟩ | ⟨x, el, cs, rfl, h5, rfl⟩
        · obtain ⟨p0, hp0, _⟩ := old i o h5 h2
          have ep := hle _ _ hp0
          rw [h3] at ep; cases ep
          exact ⟨i, o, p, h5, h2, hp0, h4⟩
        · exfalso
          obtain ⟨_, _, p0, _, _, _, _, h8, h9, _⟩ := each x el cs h5
          rw [h3] at h8; cases h8
          omega
theorem entFO_n {e : EntF} : CallN (entFO e) := by
  intro f args m v m' ho
  unfold entFO at ho
  cases hf : Nat.beq f e.f with
  | false => rw [hf] at ho; cases ho
  | true =>
    rw [hf] at ho
    simp only [cond_true] at ho
    split at ho
    · split at ho
      · rename_i s hs
        cases hok : sgOk s e.N with
        | false => rw [hok] at ho; cases ho
        | true =>
          rw [hok] at ho
          simp only [cond_true] at ho
          split at ho
          · split at ho
            · rename_i outs' _
              obtain ⟨m2, p1, p2, _⟩ := putOuts_eq (outs := outs') (m := m) (k := fun m => some (‹Value›, m))
              rw [p1] at ho
              cases ho
              omega
            · cases ho
          · cases ho
      · cases ho
    · cases ho
end
/-! ### a body in pieces -/
section
variable {P : Program} {O : Orc}
/-- So many parts of a row of codes, run; what is left. -/
def dropS : Nat → Code → Code
  | 0, c => c
  | k + 1, c => match c with
    | .seq _ y => dropS k y
    | c => c
noncomputable def segSp (P : Program) (O : Orc) (d : Nat) (ro : Option Nat) (t : Snap) : Nat → Code → Fr → Me → Bool
  | 0, _, f, m => t.le f m
  | k + 1, c, f, m => match c with
    | .seq x y => (match run P O d ro (comp P x) f m with
      | .ok .nrm f m => segSp P O d ro t k y f m
      | _ => false)
    | _ => false
theorem RanOK.spine (hmix : P.follows .mixedOrders = true) (hO : OrcOK P O) (hOn : OrcN O) {d : Nat} {ro : Option Nat} {t : Snap} {e : Ex} {f' : Fr} {m' : Me} : ∀ {k : Nat} {c : Code} {f : Fr} {m : Me}, segSp P O d ro t k c f m = true → RanOK P ro (dropS k c) t.fr t.me e f' m' → RanOK P ro c f m e f' m'
  | 0, c, f, m, h, r => r.less (Snap.less h)
  | k + 1, c, f, m, h, r => by
    cases c with
    | seq x y =>
      have h : (match run P O d ro (comp P x) f m with
        | .ok .nrm f m => segSp P O d ro t k y f m
        | _ => false) = true := h
      split at h
      · rename_i f1 m1 hr
        exact (RanOK.of_run hmix hO hOn hr).seq (RanOK.spine hmix hO hOn h r)
      · cases h
    | _ => cases h
/-- a, a loop; the rest -/
def partsL (c : Code) : Option (Code × Code × Code) := match c with
  | .seq (.seq a (.block 0 (.loop x))) y => some (a, x, y)
  | _ => none
def partA (c : Code) : Code := match partsL c with
  | some (a, _, _) => a
  | none => .skip
def partX (c : Code) : Code := match partsL c with
  | some (_, x, _) => x
  | none => .skip
def partY (c : Code) : Code := match partsL c with
  | some (_, _, y) => y
  | none => .skip
theorem RanOK.loopAt {ro : Option Nat} {c : Code} {f f1 f2 f' : Fr} {m m1 m2 m' : Me} {e : Ex} {k : Nat} (hs : (partsL c).isSome = true) (ha : RanOK P ro (partA c) f m .nrm f1 m1) (hl : Rounds P ro (partX c) (.ext 0) f2 m2 k f1 m1) (hy : RanOK P ro (partY c) f2 m2 e f' m') : RanOK P ro c f m e f' m' := by
  unfold partA at ha
  unfold partX at hl
  unfold partY at hy
  cases hp : partsL c with
  | none => rw [hp] at hs; cases hs
  | some q =>
    obtain ⟨a, x, y⟩ := q
    rw [hp] at ha hl hy
    have hc : c = .seq (.seq a (.block 0 (.loop x))) y := by
      unfold partsL at hp
      split at hp
      · cases hp; rfl
      · cases hp
    subst hc
    have h1 := RanOK.block (id := 0) (RanOK.loop hl (by intro h; cases h))
    exact (ha.seq h1).seq hy
/-- The end of a body: what is given back. -/
noncomputable def endSp (P : Program) (O : Orc) (d : Nat) (c : Code) (v : Value) (rs : List ResultVar) (f : Fr) (m : Me) : Bool := match run P O d none (comp P c) f m with
  | .ok .nrm f m => (match endCall P O (run P O d) f m rs with
    | some (u, _) => veq u v
    | none => false)
  | .ok .ret f m => (match endCall P O (run P O d) f m rs with
    | some (u, _) => veq u v
    | none => false)
  | _ => false
theorem endSp_some {d : Nat} {c : Code} {v : Value} {rs : List ResultVar} {f : Fr} {m : Me} (h : endSp P O d c v rs f m = true) : ∃ e f1 m1 m2, (e = .nrm ∨ e = .ret) ∧ run P O d none (comp P c) f m = .ok e f1 m1 ∧ endCall P O (run P O d) f1 m1 rs = some (v, m2) := by
  unfold endSp at h
  split at h
  · rename_i f1 m1 hr
    split at h
    · rename_i u m2 he
      exact ⟨.nrm, f1, m1, m2, .inl rfl, hr, by rw [← veq_eq h]; exact he⟩
    · cases h
  · rename_i f1 m1 hr
    split at h
    · rename_i u m2 he
      exact ⟨.ret, f1, m1, m2, .inr rfl, hr, by rw [← veq_eq h]; exact he⟩
    · cases h
  · cases h
/-- A call without arguments, from nothing, its body's run being known. -/
theorem closed_ran {cf : CodeF} (ho : OrcOK P O) (hc : CodeOK P cf) (hOn : OrcN O) (hcn : CodeN P cf) {f : Nat} {fn : Func} {code : Code} {e : Ex} {f1 : Fr} {m1 m2 : Me} {v : Value} (hf : P.funcs[f]? = some fn) (hbody : fn.body = some code) (h : RanOK P none code (.mk .e fn.ntmps []) (.mk .e 0) e f1 m1) (he : e = .nrm ∨ e = .ret)
    (hend : endCall P O cf f1 m1 fn.results.toList = some (v, m2)) (hv : leaf v = true) (w : World) : Calls P f #[] w fun e w' => e = .returned v ∧ Below w.heap.size w w' := by
  have h0 : ∀ i o, (Me.mk .e 0).h.get i = some o → False := fun i o h => by cases h
  have := RanOK.call ho hc hOn hcn hf hbody (args := []) h he (Nat.zero_le _) hend (fun _ => none) w [] VRs.nil ⟨fun i o h => (h0 i o h).elim, fun i o h => (h0 i o h).elim, fun i o j o' p q h => (h0 i o h).elim⟩ (fun _ _ _ => rfl)
  refine callsIn_wide.1 (this.mono fun e w' he => ?_)
  obtain ⟨V, ν, rfl, hV, _, hx⟩ := he
  rw [hV.of_leaf hv]
  exact ⟨rfl, hx.os, hx.tape, hx.output, hx.size, fun k hk => hx.keep k hk fun ⟨i, o, p, hi, _⟩ => h0 i o hi⟩
end
end Go.Proofs.YthelmobipjekjaaGreat.Ev
