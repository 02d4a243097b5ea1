/- What is known of a call serves wherever its arguments are alike. -/
import Derived.Test.YthelmobipjekjaaGreatLo
set_option linter.unusedVariables false
set_option linter.unusedSimpArgs false
set_option linter.unusedSectionVars false
namespace Go.Proofs.YthelmobipjekjaaGreat.Ev
open Go Go.RowKit
/-! ### what is known of a call -/
/-- which number stands for which -/
abbrev Sg := List (Nat × Nat)
def Sg.get : Sg → Nat → Option Nat
  | [], _ => none
  | p :: r, i => bif Nat.beq p.1 i then some p.2 else Sg.get r i
def bindI (s : Sg) (i j : Nat) : Option Sg := match s.get i with
  | some k => bif Nat.beq j k then some s else none
  | none => some ((i, j) :: s)
def isEmp : Value → Bool
  | .slice (some ⟨0, 0, some 0⟩) 0 0 => true
  | _ => false
def mt0 (s : Sg) (x y : Value) : Option Sg := match x with
  | .pointer (some ⟨i, o, none⟩) => match y with
    | .pointer (some ⟨j, q, none⟩) => bif Nat.beq o q then bindI s i j else none
    | _ => none
  | .slice (some ⟨i, o, none⟩) l c => match y with
    | .slice (some ⟨j, q, none⟩) k d => bif Nat.beq o q && Nat.beq l k && Nat.beq c d then bindI s i j else none
    | _ => none
  | x => bif (leaf x || isEmp x) && veq x y then some s else none
def mts (g : Sg → Value → Value → Option Sg) : Sg → List Value → List Value → Option Sg
  | s, [], [] => some s
  | s, x :: xs, y :: ys => match g s x y with
    | some s => mts g s xs ys
    | none => none
  | _, _, _ => none
def mt1 (s : Sg) (x y : Value) : Option Sg := match x with
  | .agg a => (match y with | .agg b => mts mt0 s a.toList b.toList | _ => none)
  | .iface t v => (match y with | .iface u w => bif Nat.beq t u then mt0 s v w else none | _ => none)
  | x => mt0 s x y
def mt2 (s : Sg) (x y : Value) : Option Sg := match x with
  | .agg a => (match y with | .agg b => mts mt1 s a.toList b.toList | _ => none)
  | x => mt1 s x y
abbrev Hs := List (Nat × TypeId × List Value)
noncomputable def mtRows (h : Tr AO) : Sg → Hs → Option Sg
  | s, [] => some s
  | s, (i, el, cs) :: r => match s.get i with
    | none => none
    | some j => match h.get j with
      | some (.row c len el' [] false) => bif Nat.beq len cs.length && Nat.beq el el' then (match c.slice len 0 with
          | some l => (match mts mt1 s cs l with
            | some s => mtRows h s r
            | none => none)
          | none => none) else none
      | _ => none
/-- A call: its function, arguments, the rows that it reaches, a number above all of theirs; what it gives. -/
structure Ent where
  f : Nat
  args : List Value
  hs : Hs
  N : Nat
  v : Value
def sgOk (s : Sg) (N : Nat) : Bool := allPairs (fun a b => !Nat.beq a b) (s.map fun p => p.2) && s.all fun p => Nat.blt p.1 N
noncomputable def entO (e : Ent) : CallF := fun f args m => bif Nat.beq f e.f then (match mts mt2 [] e.args args with
    | some s => (match mtRows m.h s e.hs with
      | some s => bif sgOk s e.N then some (e.v, m) else none
      | none => none)
    | none => none) else none
noncomputable def hsTr (t : Tr AO) : Hs → Tr AO
  | [] => t
  | (i, el, cs) :: r => hsTr (t.put i (.row (Tr.ofList cs) cs.length el [] false)) r
noncomputable def entMem (e : Ent) : Me := .mk (hsTr .e e.hs) e.N
def leq2 : List Value → List Value → Bool
  | [], [] => true
  | x :: xs, y :: ys => veq2 x y && leq2 xs ys
  | _, _ => false
noncomputable def kept (h : Tr AO) : Hs → Bool
  | [] => true
  | (i, el, cs) :: r => (match h.get i with
    | some (.row c len el' [] false) => Nat.beq len cs.length && Nat.beq el el' && (match c.slice len 0 with | some l => leq2 l cs | none => false)
    | _ => false) && kept h r
def cl0 (v : Value) : Bool := leaf v || isEmp v
def cl1 (v : Value) : Bool := match v with
  | .agg a => a.toList.all cl0
  | .tuple a => a.toList.all cl0
  | .iface _ v => cl0 v
  | v => cl0 v
def cl2 (v : Value) : Bool := match v with
  | .agg a => a.toList.all cl1
  | .tuple a => a.toList.all cl1
  | v => cl1 v
/-- The call gives what is told. -/
noncomputable def entRun (c : Nat → List Value → Me → Option (Value × Me)) (e : Ent) : Bool := match c e.f e.args (entMem e) with
  | some (v, m) => veq2 v e.v && kept m.h e.hs && cl2 e.v
  | none => false
section
variable {P : Program} {μ ν : Mp}
def Sg.Le (s t : Sg) : Prop := ∀ i j, s.get i = some j → t.get i = some j
theorem Sg.Le.trans {s t u : Sg} (h : Sg.Le s t) (k : Sg.Le t u) : Sg.Le s u := fun i j hi => k i j (h i j hi)
theorem Sg.get_cons (i j k : Nat) (s : Sg) : Sg.get ((i, j) :: s) k = if i = k then some j else s.get k := by
  show (bif Nat.beq i k then some j else s.get k) = _
  by_cases h : i = k
  · subst h; simp
  · rw [if_neg h]
    cases hb : Nat.beq i k with
    | false => rfl
    | true => exact absurd (Nat.eq_of_beq_eq_true hb) h
theorem bindI_some {s t : Sg} {i j : Nat} (h : bindI s i j = some t) : Sg.Le s t ∧ t.get i = some j := by
  unfold bindI at h
  split at h
  · rename_i k hk
    cases hb : Nat.beq j k with
    | false => rw [hb] at h; cases h
    | true => rw [hb] at h; cases h; rw [Nat.eq_of_beq_eq_true hb]; exact ⟨fun _ _ h => h, hk⟩
  · rename_i hk
    cases h
    refine ⟨fun a b hab => ?_, by rw [Sg.get_cons, if_pos rfl]⟩
    rw [Sg.get_cons]
    by_cases e : i = a
    · subst e; rw [hk] at hab; cases hab
    · rw [if_neg e]; exact hab
/-- the two maps agree along it -/
def Agree (s : Sg) (ν μ : Mp) : Prop := ∀ i j, s.get i = some j → ν i = μ j
theorem Agree.le {s t : Sg} (h : Agree t ν μ) (hl : Sg.Le s t) : Agree s ν μ := fun i j hi => h i j (hl i j hi)
/-- what is matched stands for the same -/
def MtOK (g : Sg → Value → Value → Option Sg) : Prop := ∀ {s t : Sg} {x y : Value}, g s x y = some t → Sg.Le s t ∧ (one y = true → one x = true) ∧ ∀ {ν μ : Mp} {V : Value}, Agree t ν μ → (VR ν x V ↔ VR μ y V)
theorem VR.emp_iff {v V : Value} (h : isEmp v = true) : VR ν v V ↔ VR μ v V := by
  unfold isEmp at h
  split at h
  · constructor
    · intro h
      rcases h.sl_inv with ⟨p, hs, _⟩ | ⟨_, _, _, A, C, e⟩
      · cases hs
      · rw [e]; exact .emp
    · intro h
      rcases h.sl_inv with ⟨p, hs, _⟩ | ⟨_, _, _, A, C, e⟩
      · cases hs
      · rw [e]; exact .emp
  · cases h
theorem VR.leaf_iff {v V : Value} (h : Ev.leaf v = true) : VR ν v V ↔ VR μ v V := ⟨fun k => by rw [k.of_leaf h]; exact .leaf h, fun k => by rw [k.of_leaf h]; exact .leaf h⟩
theorem mt0_ok : MtOK mt0 := by
  intro s t x y h
  unfold mt0 at h
  split at h
  · rename_i i o
    split at h
    · rename_i j q
      cases hb : Nat.beq o q with
      | false => rw [hb] at h; cases h
      | true =>
        rw [hb] at h
        obtain rfl := Nat.eq_of_beq_eq_true hb
        obtain ⟨h1, h2⟩ := bindI_some h
        refine ⟨h1, fun _ => rfl, fun {ν μ V} ha => ?_⟩
        have e := ha _ _ h2
        constructor
        · intro k
          obtain ⟨p, _, hp, e2⟩ := k.ptr_inv
          rw [e2]; exact .ptr (by rw [← e]; exact hp)
        · intro k
          obtain ⟨p, _, hp, e2⟩ := k.ptr_inv
          rw [e2]; exact .ptr (by rw [e]; exact hp)
    · cases h
  · rename_i i o l c
    split at h
    · rename_i j q k d
      cases hb : (Nat.beq o q && Nat.beq l k && Nat.beq c d) with
      | false => rw [hb] at h; cases h
      | true =>
        rw [hb] at h
        simp only [Bool.and_eq_true] at hb
        obtain rfl := Nat.eq_of_beq_eq_true hb.1.1
        obtain rfl := Nat.eq_of_beq_eq_true hb.1.2
        obtain rfl := Nat.eq_of_beq_eq_true hb.2
        obtain ⟨h1, h2⟩ := bindI_some h
        refine ⟨h1, fun _ => rfl, fun {ν μ V} ha => ?_⟩
        have e := ha _ _ h2
        constructor
        · intro k
          rcases k.sl_inv with ⟨p, _, hp, hl, e2⟩ | ⟨e2, _⟩
          · rw [e2]; exact .sl (by rw [← e]; exact hp) hl
          · cases e2
        · intro k
          rcases k.sl_inv with ⟨p, _, hp, hl, e2⟩ | ⟨e2, _⟩
          · rw [e2]; exact .sl (by rw [e]; exact hp) hl
          · cases e2
    · cases h
  · cases hb : ((leaf x || isEmp x) && veq x y) with
    | false => rw [hb] at h; cases h
    | true =>
      rw [hb] at h
      cases h
      simp only [Bool.and_eq_true, Bool.or_eq_true] at hb
      obtain ⟨hb1, hb2⟩ := hb
      have e := veq_eq hb2
      subst e
      refine ⟨fun _ _ h => h, id, fun {ν μ V} _ => ?_⟩
      rcases hb1 with hb1 | hb1
      · exact VR.leaf_iff hb1
      · exact VR.emp_iff hb1
theorem mts_ok {g : Sg → Value → Value → Option Sg} (hg : MtOK g) : ∀ {xs ys : List Value} {s t : Sg}, mts g s xs ys = some t → Sg.Le s t ∧ xs.length = ys.length ∧
    (∀ (k : Nat) (x y : Value), xs[k]? = some x → ys[k]? = some y → one y = true → one x = true) ∧ ∀ {ν μ : Mp}, Agree t ν μ → ∀ (k : Nat) (x y : Value), xs[k]? = some x → ys[k]? = some y → ∀ {V}, VR ν x V ↔ VR μ y V
  | [], [], s, t, h => by cases h; exact ⟨fun _ _ h => h, rfl, fun k x y hx => by simp at hx, fun _ k x y hx => by simp at hx⟩
  | [], _ :: _, s, t, h => by cases h
  | _ :: _, [], s, t, h => by cases h
  | x :: xs, y :: ys, s, t, h => by
    simp only [mts] at h
    split at h
    · rename_i s1 hs1
      obtain ⟨a1, a2, a3⟩ := hg hs1
      obtain ⟨b1, b2, b3, b4⟩ := mts_ok hg h
      refine ⟨a1.trans b1, by simp [b2], fun k x' y' hx hy ho => ?_, fun ha k x' y' hx hy => ?_⟩
      · cases k with
        | zero => simp at hx hy; subst hx; subst hy; exact a2 ho
        | succ k => exact b3 k x' y' (by simpa using hx) (by simpa using hy) ho
      · cases k with
        | zero => simp at hx hy; subst hx; subst hy; exact a3 (ha.le b1)
        | succ k => exact b4 ha k x' y' (by simpa using hx) (by simpa using hy)
    · cases h
theorem agg_iff {a b : List Value} (hl : a.length = b.length) (h : ∀ (k : Nat) (x y : Value), a[k]? = some x → b[k]? = some y → ∀ {V}, VR ν x V ↔ VR μ y V) {V : Value} : VR ν (.agg ⟨a⟩) V ↔ VR μ (.agg ⟨b⟩) V := by
  constructor
  · intro k
    obtain ⟨c, rfl, hc⟩ := k.agg_inv
    refine .agg (hl.symm.trans hc.1) fun i x y hx hy => ?_
    have hi : i < a.length := by rw [hl]; exact (List.getElem?_eq_some_iff.1 hx).1
    exact (h i _ x (List.getElem?_eq_getElem hi) hx).1 (hc.2 i _ y (List.getElem?_eq_getElem hi) hy)
  · intro k
    obtain ⟨c, rfl, hc⟩ := k.agg_inv
    refine .agg (hl.trans hc.1) fun i x y hx hy => ?_
    have hi : i < b.length := by rw [← hl]; exact (List.getElem?_eq_some_iff.1 hx).1
    exact (h i x _ hx (List.getElem?_eq_getElem hi)).2 (hc.2 i _ y (List.getElem?_eq_getElem hi) hy)
theorem mt1_ok : MtOK mt1 := by
  intro s t x y h
  unfold mt1 at h
  split at h
  · rename_i a
    split at h
    · rename_i b
      obtain ⟨h1, h2, h3, h4⟩ := mts_ok mt0_ok h
      obtain ⟨a⟩ := a
      obtain ⟨b⟩ := b
      exact ⟨h1, (fun h => by cases h), fun {ν μ V} ha => agg_iff h2 (h4 ha)⟩
    · cases h
  · rename_i u v
    split at h
    · rename_i u' v'
      cases hb : Nat.beq u u' with
      | false => rw [hb] at h; cases h
      | true =>
        rw [hb] at h
        obtain rfl := Nat.eq_of_beq_eq_true hb
        obtain ⟨h1, h2, h3⟩ := mt0_ok h
        refine ⟨h1, fun _ => rfl, fun {ν μ V} ha => ⟨fun k => ?_, fun k => ?_⟩⟩
        · obtain ⟨U, rfl, hU⟩ := k.iface_inv
          exact .iface ((h3 ha).1 hU)
        · obtain ⟨U, rfl, hU⟩ := k.iface_inv
          exact .iface ((h3 ha).2 hU)
    · cases h
  · exact mt0_ok h
theorem mt2_ok : MtOK mt2 := by
  intro s t x y h
  unfold mt2 at h
  split at h
  · rename_i a
    split at h
    · rename_i b
      obtain ⟨h1, h2, h3, h4⟩ := mts_ok mt1_ok h
      obtain ⟨a⟩ := a
      obtain ⟨b⟩ := b
      exact ⟨h1, (fun h => by cases h), fun {ν μ V} ha => agg_iff h2 (h4 ha)⟩
    · cases h
  · exact mt1_ok h
theorem leq2_eq : ∀ {a b : List Value}, leq2 a b = true → a = b
  | [], [], _ => rfl
  | [], _ :: _, h => by cases h
  | _ :: _, [], h => by cases h
  | x :: xs, y :: ys, h => by
    simp only [leq2, Bool.and_eq_true] at h
    rw [veq2_eq h.1, leq2_eq h.2]
theorem cl0_vr {v V : Value} (h : cl0 v = true) (k : VR ν v V) : VR μ v V := by
  unfold cl0 at h
  simp only [Bool.or_eq_true] at h
  rcases h with h | h
  · exact (VR.leaf_iff h).1 k
  · exact (VR.emp_iff h).1 k
theorem cls_vr {g : Value → Bool} (hg : ∀ {v V : Value}, g v = true → VR ν v V → VR μ v V) {a b : List Value} (h : a.all g = true) (k : VRs ν a b) : VRs μ a b :=
  ⟨k.1, fun i x y hx hy => hg (List.all_eq_true.1 h x (List.mem_of_getElem? hx)) (k.2 i x y hx hy)⟩
theorem cl1_vr {v V : Value} (h : cl1 v = true) (k : VR ν v V) : VR μ v V := by
  unfold cl1 at h
  split at h
  · rename_i a; obtain ⟨a⟩ := a
    obtain ⟨b, rfl, hb⟩ := k.agg_inv
    have := cls_vr (μ := μ) (fun h k => cl0_vr h k) h hb
    exact .agg this.1 this.2
  · rename_i a; obtain ⟨a⟩ := a
    obtain ⟨b, rfl, hb⟩ := k.tup_inv
    have := cls_vr (μ := μ) (fun h k => cl0_vr h k) h hb
    exact .tup this.1 this.2
  · obtain ⟨U, rfl, hU⟩ := k.iface_inv
    exact .iface (cl0_vr h hU)
  · exact cl0_vr h k
theorem cl2_vr {v V : Value} (h : cl2 v = true) (k : VR ν v V) : VR μ v V := by
  unfold cl2 at h
  split at h
  · rename_i a; obtain ⟨a⟩ := a
    obtain ⟨b, rfl, hb⟩ := k.agg_inv
    have := cls_vr (μ := μ) (fun h k => cl1_vr h k) h hb
    exact .agg this.1 this.2
  · rename_i a; obtain ⟨a⟩ := a
    obtain ⟨b, rfl, hb⟩ := k.tup_inv
    have := cls_vr (μ := μ) (fun h k => cl1_vr h k) h hb
    exact .tup this.1 this.2
  · exact cl1_vr h k
/-! the rows -/
theorem mtRows_ok {h : Tr AO} : ∀ {hs : Hs} {s t : Sg}, mtRows h s hs = some t → Sg.Le s t ∧ ∀ e ∈ hs, ∃ j c l, t.get e.1 = some j ∧ h.get j = some (.row c e.2.2.length e.2.1 [] false) ∧ c.slice e.2.2.length 0 = some l ∧ ∃ s1 s2, mts mt1 s1 e.2.2 l = some s2 ∧ Sg.Le s2 t
  | [], s, t, hh => by cases hh; exact ⟨fun _ _ h => h, fun e he => by cases he⟩
  | (i, el, cs) :: r, s, t, hh => by
    simp only [mtRows] at hh
    split at hh
    · cases hh
    · rename_i j hj
      split at hh
      · rename_i c len el' hr
        cases hb : (Nat.beq len cs.length && Nat.beq el el') with
        | false => rw [hb] at hh; cases hh
        | true =>
          rw [hb] at hh
          simp only [Bool.and_eq_true] at hb
          obtain rfl := Nat.eq_of_beq_eq_true hb.1
          obtain rfl := Nat.eq_of_beq_eq_true hb.2
          simp only [cond_true] at hh
          split at hh
          · rename_i l hl
            split at hh
            · rename_i s2 hs2
              obtain ⟨a1, a2⟩ := mtRows_ok hh
              have b1 := (mts_ok mt1_ok hs2).1
              refine ⟨b1.trans a1, fun e he => ?_⟩
              rcases List.mem_cons.1 he with rfl | he
              · exact ⟨j, c, l, a1 _ _ (b1 _ _ hj), hr, hl, s, s2, hs2, a1⟩
              · exact a2 e he
            · cases hh
          · cases hh
      · cases hh
theorem hsTr_get : ∀ {hs : Hs} {t : Tr AO} {i : Nat} {o : AO}, (hsTr t hs).get i = some o → t.get i = some o ∨ ∃ e ∈ hs, e.1 = i ∧ o = .row (Tr.ofList e.2.2) e.2.2.length e.2.1 [] false
  | [], t, i, o, h => .inl h
  | (j, el, cs) :: r, t, i, o, h => by
    rcases hsTr_get (hs := r) h with h | ⟨e, he, h1, h2⟩
    · rw [Tr.get_put] at h
      by_cases e : i = j
      · rw [if_pos e] at h; cases h
        exact .inr ⟨_, List.mem_cons_self, e.symm, rfl⟩
      · rw [if_neg e] at h; exact .inl h
    · exact .inr ⟨e, List.mem_cons_of_mem _ he, h1, h2⟩
theorem kept_get : ∀ {hs : Hs} {h : Tr AO}, kept h hs = true → ∀ e ∈ hs, ∃ c, h.get e.1 = some (.row c e.2.2.length e.2.1 [] false) ∧ c.slice e.2.2.length 0 = some e.2.2
  | [], h, _, e, he => by cases he
  | (i, el, cs) :: r, h, hk, e, he => by
    simp only [kept, Bool.and_eq_true] at hk
    rcases List.mem_cons.1 he with rfl | he
    · have hk := hk.1
      split at hk
      · rename_i c len el' hg
        simp only [Bool.and_eq_true] at hk
        obtain ⟨⟨k1, k2⟩, k3⟩ := hk
        obtain rfl := Nat.eq_of_beq_eq_true k1
        obtain rfl := Nat.eq_of_beq_eq_true k2
        split at k3
        · rename_i l hl
          have := leq2_eq k3
          subst this
          exact ⟨c, hg, hl⟩
        · cases k3
      · cases hk
    · exact kept_get hk.2 e he
theorem sgOk_inj {s : Sg} {N : Nat} (h : sgOk s N = true) : (∀ i k j, s.get i = some j → s.get k = some j → i = k) ∧ ∀ i j, s.get i = some j → i < N := by
  unfold sgOk at h
  simp only [Bool.and_eq_true] at h
  obtain ⟨h1, h2⟩ := h
  have mem : ∀ (s : Sg) (i j : Nat), s.get i = some j → (i, j) ∈ s := by
    intro s
    induction s with
    | nil => intro i j h; cases h
    | cons p r ih =>
      intro i j h
      obtain ⟨a, b⟩ := p
      rw [Sg.get_cons] at h
      by_cases e : a = i
      · rw [if_pos e] at h; cases h; subst e; exact List.mem_cons_self
      · rw [if_neg e] at h; exact List.mem_cons_of_mem _ (ih i j h)
  refine ⟨?_, fun i j hi => ?_⟩
  · clear h2
    induction s with
    | nil => intro i k j h; cases h
    | cons p r ih =>
      obtain ⟨a, b⟩ := p
      simp only [List.map_cons, allPairs, Bool.and_eq_true] at h1
      have hne : ∀ x y, (x, y) ∈ r → y ≠ b := fun x y hxy e => by
        have := List.all_eq_true.1 h1.1 y (List.mem_map.2 ⟨(x, y), hxy, rfl⟩)
        subst e; simp at this
      intro i k j hi hk
      rw [Sg.get_cons] at hi hk
      by_cases e1 : a = i
      · rw [if_pos e1] at hi
        cases hi
        by_cases e2 : a = k
        · exact e1.symm.trans e2
        · rw [if_neg e2] at hk; exact absurd rfl (hne k b (mem r k b hk))
      · rw [if_neg e1] at hi
        by_cases e2 : a = k
        · rw [if_pos e2] at hk; cases hk; exact absurd rfl (hne i b (mem r i b hi))
        · rw [if_neg e2] at hk; exact ih h1.2 i k j hi hk
  · have := List.all_eq_true.1 h2 (i, j) (mem s i j hi)
    exact Nat.le_of_ble_eq_true this
theorem ent_ok {c : Nat → List Value → Me → Option (Value × Me)} {e : Ent} (hc : CallOK P c) (h : entRun c e = true) : CallOK P (entO e) := by
  unfold entRun at h
  obtain ⟨v, m1, hrun, h⟩ : ∃ v m1, c e.f e.args (entMem e) = some (v, m1) ∧ (veq2 v e.v && kept m1.h e.hs && cl2 e.v) = true := by
    split at h
    · exact ⟨_, _, by assumption, h⟩
    · cases h
  simp only [Bool.and_eq_true] at h
  obtain ⟨⟨hv, hk⟩, hcl⟩ := h
  have hv := veq2_eq hv
  subst hv
  obtain ⟨hfn, hcall⟩ := hc _ _ _ _ _ hrun
  intro f args m v' m' ho
  unfold entO at ho
  cases hf : Nat.beq f e.f with
  | false => rw [hf] at ho; cases ho
  | true =>
    rw [hf] at ho
    simp only [cond_true] at ho
    obtain rfl := Nat.eq_of_beq_eq_true hf
    split at ho
    · rename_i s0 hs0
      split at ho
      · rename_i s hs
        cases hok : sgOk s e.N with
        | false => rw [hok] at ho; cases ho
        | true =>
          rw [hok] at ho
          simp only [cond_true, Option.some.injEq, Prod.mk.injEq] at ho
          obtain ⟨rfl, rfl⟩ := ho
          refine ⟨hfn, fun μ w ARGS hargs hm hfree => ?_⟩
          obtain ⟨l1, l2, _, l4⟩ := mts_ok mt2_ok hs0
          obtain ⟨r1, r2⟩ := mtRows_ok hs
          obtain ⟨inj, lt⟩ := sgOk_inj hok
          obtain ⟨κ, hκ⟩ : ∃ κ : Mp, κ = fun i => (s.get i).bind μ := ⟨_, rfl⟩
          have hag : Agree s κ μ := fun i j hij => by rw [hκ]; simp only [hij, Option.bind_some]
          have hargs' : VRs κ e.args ARGS := by
            refine ⟨l2.trans hargs.1, fun i x y hx hy => ?_⟩
            have hi : i < args.length := by rw [← l2]; exact (List.getElem?_eq_some_iff.1 hx).1
            exact (l4 (hag.le r1) i x _ hx (List.getElem?_eq_getElem hi)).2 (hargs.2 i _ y (List.getElem?_eq_getElem hi) hy)
          -- what is laid stands for what there is
          have inv : ∀ i o, (entMem e).h.get i = some o → ∃ en ∈ e.hs, en.1 = i ∧ o = .row (Tr.ofList en.2.2) en.2.2.length en.2.1 [] false := fun i o hi => by
            rcases hsTr_get hi with h | h
            · cases h
            · exact h
          have hm0 : HR P κ (entMem e) w := by
            refine ⟨fun i o hi hl => ?_, fun i o hi => ?_, fun i o j o' p q hi hl hu hj hl' hne hp hq he => ?_⟩
            · obtain ⟨en, hen, rfl, rfl⟩ := inv i o hi
              obtain ⟨j, cc, l, k1, k2, k3, s1, s2, k4, k5⟩ := r2 en hen
              obtain ⟨p, hp, arr, ty, fz, sz, g1, g2, g3⟩ := hm.obj j _ k2 rfl
              refine ⟨p, by rw [hag _ _ k1]; exact hp, arr, ty, fz, sz, g1, fun k u hu => ?_, g3⟩
              rw [Tr.get_ofList] at hu
              obtain ⟨_, m2, m3, m4⟩ := mts_ok mt1_ok k4
              obtain ⟨n1, n2⟩ := Tr.slice_spec _ _ _ _ k3
              have hkl : k < en.2.2.length := (List.getElem?_eq_some_iff.1 hu).1
              have hlk : l[k]? = some (l[k]'(by omega)) := List.getElem?_eq_getElem _
              have hg := n2 k hkl
              rw [Nat.zero_add, hlk] at hg
              obtain ⟨_, q2, V, q3, q4⟩ := g2 k _ hg
              exact ⟨hkl, m3 k u _ hu hlk q2, V, q3, (m4 (hag.le k5) k u _ hu hlk).2 q4⟩
            · obtain ⟨en, hen, rfl, rfl⟩ := inv i o hi
              obtain ⟨j, cc, l, k1, _⟩ := r2 en hen
              exact lt _ _ k1
            · exfalso
              obtain ⟨en, hen, rfl, rfl⟩ := inv i o hi
              obtain ⟨en', hen', rfl, rfl⟩ := inv j o' hj
              obtain ⟨x, cc, l, k1, k2, _⟩ := r2 en hen
              obtain ⟨y, cc', l', k1', k2', _⟩ := r2 en' hen'
              rw [hag _ _ k1] at hp
              rw [hag _ _ k1'] at hq
              have hxy : y ≠ x := fun e => hne (inj _ _ _ (by rw [← e]; exact k1') k1 ▸ rfl)
              exact absurd (hm.apart x _ y _ p q k2 rfl rfl k2' rfl hxy hp hq he).1 (by simp [anc])
          have hfree0 : Free κ (entMem e).n m1.n := fun i hi _ => by
            rw [hκ]
            cases hsi : s.get i with
            | none => simp [hsi]
            | some j => have := lt i j hsi; have h9 : e.N ≤ i := hi; omega
          refine (hcall κ w ARGS hargs' hm0 hfree0).mono fun en w' hen => ?_
          obtain ⟨V, ξ, rfl, hV, hm1, hx⟩ := hen
          have hag1 : Agree s ξ μ := fun i j hij => by
            rw [← hag i j hij]
            cases hki : κ i with
            | some p => exact hx.le _ _ hki
            | none =>
              cases hxi : ξ i with
              | none => rfl
              | some p =>
                have := hx.dom i hki (by rw [hxi]; simp)
                have h8 : e.N ≤ i := this.1
                have := lt i j hij; omega
          have imgs : ∀ b, Img κ (entMem e) b → ∃ en ∈ e.hs, ∃ j cc q, s.get en.1 = some j ∧ m.h.get j = some (.row cc en.2.2.length en.2.1 [] false) ∧ μ j = some q ∧ q.blk = b := by
            rintro b ⟨i, o, q, h1, h2, h3, h4⟩
            obtain ⟨en, hen, rfl, rfl⟩ := inv i o h1
            obtain ⟨j, cc, l, k1, k2, _⟩ := r2 en hen
            exact ⟨en, hen, j, cc, q, k1, k2, by rw [← hag _ _ k1]; exact h3, h4⟩
          refine ⟨V, μ, rfl, cl2_vr hcl hV, ⟨fun j o hj hl => ?_, hm.few, hm.apart⟩, ⟨hx.os, hx.tape, hx.output, hx.size, Mp.Le.refl _, Nat.le_refl _, fun i h k => absurd h k, fun b hb hi => hx.keep b hb fun hi' => hi ?_, fun b _ h => h⟩⟩
          · obtain ⟨p, hp, hom⟩ := hm.obj j o hj hl
            refine ⟨p, hp, ?_⟩
            by_cases hi : Img κ (entMem e) p.blk
            · obtain ⟨en, hen, j', cc, q, k1, k2, k3, k4⟩ := imgs _ hi
              by_cases ej : j = j'
              · subst ej
                rw [hp] at k3; cases k3
                rw [k2] at hj; cases hj
                obtain ⟨cc', y1, y2⟩ := kept_get hk en hen
                obtain ⟨q', z1, arr, ty, fz, sz, g1, g2, g3⟩ := hm1.obj _ _ y1 rfl
                have e1 : κ en.1 = some p := by rw [hag _ _ k1]; exact hp
                have e2 := hx.le _ _ e1
                rw [z1] at e2; cases e2
                obtain ⟨arr0, ty0, fz0, sz0, g01, g02, _⟩ := hom
                obtain ⟨j2, cc2, l, w1, w2, w3, s1, s2, w4, w5⟩ := r2 en hen
                rw [k1] at w1; cases w1
                rw [k2] at w2; cases w2
                obtain ⟨_, m2, m3, m4⟩ := mts_ok mt1_ok w4
                obtain ⟨n1, n2⟩ := Tr.slice_spec _ _ _ _ w3
                obtain ⟨n3, n4⟩ := Tr.slice_spec _ _ _ _ y2
                refine ⟨arr, ty, fz, sz, g1, fun k u hu => ?_, g3⟩
                obtain ⟨b1, b2, _⟩ := g02 k u hu
                have hlk : l[k]? = some u := by rw [← n2 k b1, Nat.zero_add]; exact hu
                have hek : en.2.2[k]? = some (en.2.2[k]'b1) := List.getElem?_eq_getElem _
                have hck := n4 k b1
                rw [Nat.zero_add, hek] at hck
                obtain ⟨_, _, V2, c3, c4⟩ := g2 k _ hck
                exact ⟨b1, b2, V2, c3, (m4 (hag1.le w5) k _ u hek hlk).1 c4⟩
              · exfalso
                exact absurd (hm.apart j' _ j o q p k2 rfl rfl hj hl ej k3 hp k4).1 (by simp [anc])
            · exact hom.mono (Mp.Le.refl _) (hx.keep _ (hom.lt hl) hi)
          · obtain ⟨en, hen, j, cc, q, k1, k2, k3, k4⟩ := imgs _ hi'
            exact ⟨j, _, q, k2, rfl, k3, k4⟩
      · cases ho
    · cases ho
theorem entO_n {e : Ent} : CallN (entO e) := by
  intro f args m v m' h
  unfold entO at h
  revert h
  cases (Nat.beq f e.f) <;> intro h
  · cases h
  · simp only [cond_true] at h
    split at h
    · split at h
      · revert h
        cases (sgOk _ _) <;> intro h
        · cases h
        · cases h; exact Nat.le_refl _
      · cases h
    · cases h
/-- One more thing is known. -/
noncomputable def orO (A B : CallF) : CallF := fun f args m => match A f args m with
  | some r => some r
  | none => B f args m
def noO : CallF := fun _ _ _ => none
theorem orO_ok {A B : CallF} (ha : CallOK P A) (hb : CallOK P B) : CallOK P (orO A B) := by
  intro f args m v m' h
  unfold orO at h
  split at h
  · rename_i r hr; cases h; exact ha _ _ _ _ _ hr
  · exact hb _ _ _ _ _ h
theorem orO_n {A B : CallF} (ha : CallN A) (hb : CallN B) : CallN (orO A B) := by
  intro f args m v m' h
  unfold orO at h
  split at h
  · rename_i r hr; cases h; exact ha _ _ _ _ _ hr
  · exact hb _ _ _ _ _ h
/-- Calls that are known, and nothing else. -/
def plainO (c : CallF) : Orc := ⟨c, fun _ _ _ => none, fun _ _ _ => none⟩
theorem plain_ok {c : CallF} (h : CallOK P c) : OrcOK P (plainO c) := ⟨h, fun f args m m' h => (by cases h), fun f args m v m' h => (by cases h)⟩
theorem plain_n {c : CallF} (h : CallN c) : OrcN (plainO c) := ⟨h, fun f args m m' h => (by cases h), fun f args m v m' h => (by cases h)⟩
theorem noO_ok : CallOK P noO := fun f args m v m' h => by cases h
theorem noO_n : CallN noO := fun f args m v m' h => by cases h
/-- A call without arguments, from nothing: what it gives, and that nothing is turned that there was. -/
theorem closed_call {c : Nat → List Value → Me → Option (Value × Me)} {f : Nat} {v : Value} {m1 : Me} (hc : CallOK P c) (h : c f [] (.mk .e 0) = some (v, m1)) (hv : leaf v = true) (w : World) :
    Calls P f #[] w fun e w' => e = .returned v ∧ Below w.heap.size w w' := by
  obtain ⟨_, hcall⟩ := hc _ _ _ _ _ h
  have h0 : ∀ i o, (Me.mk .e 0).h.get i = some o → False := fun i o h => by cases h
  have := hcall (fun _ => none) w [] VRs.nil ⟨fun i o h => (h0 i o h).elim, fun i o h => (h0 i o h).elim, fun i o j o' p q h => (h0 i o h).elim⟩ (fun _ _ _ => rfl)
  refine callsIn_wide.1 (this.mono fun e w' he => ?_)
  obtain ⟨V, ν, rfl, hV, _, hx⟩ := he
  rw [hV.of_leaf hv]
  exact ⟨rfl, hx.os, hx.tape, hx.output, hx.size, fun k hk => hx.keep k hk fun ⟨i, o, p, hi, _⟩ => h0 i o hi⟩
end
section
variable {P : Program}
/-- As 'entO', the blocks that the first argument's row has grown of given up. -/
noncomputable def entT (e : Ent) : CallF := fun f args m => bif Nat.beq f e.f then (match args with
    | .slice (some ⟨i, _, none⟩) _ _ :: _ => writeK m ⟨i, 0, none⟩ [] (fun m2 => entO e f args m2)
    | _ => none) else none
theorem entT_ok {e : Ent} (h : CallOK P (entO e)) : CallOK P (entT e) := by
  intro f args m v m' ho
  unfold entT at ho
  revert ho
  cases hf : Nat.beq f e.f <;> intro ho
  · cases ho
  · simp only [cond_true] at ho
    split at ho
    · rename_i i o l cc rest
      obtain ⟨m1, h1, hn1⟩ := writeK_n ho
      refine ⟨(h _ _ _ _ _ h1).1, fun μ w ARGS hargs hm hfree => ?_⟩
      obtain ⟨V0, VS0, rfl, hv0, hvs⟩ := hargs.cons_inv
      rcases hv0.sl_inv with ⟨p, _, hp, _, e2⟩ | ⟨e2, _⟩
      · obtain ⟨m2, w2, k1, k2, k3, k4, k5⟩ := write_sound ho hm (a := ⟨i, 0, none⟩) hp VRs.nil
        have hw : w2 = w := by
          have k3 : Result.ok () w = Result.ok () w2 := k3
          injection k3 with _ k3; exact k3.symm
        subst hw
        obtain ⟨_, hc⟩ := h _ _ _ _ _ k1
        refine (hc μ w2 _ (VRs.cons hv0 hvs) k4 (by rw [k2]; exact hfree)).mono fun en w' hen => ?_
        obtain ⟨V, ν, rfl, j1, j2, j3⟩ := hen
        exact ⟨V, ν, rfl, j1, j2, k5.trans j3⟩
      · cases e2
    · cases ho
theorem entT_n {e : Ent} : CallN (entT e) := by
  intro f args m v m' ho
  unfold entT at ho
  revert ho
  cases (Nat.beq f e.f) <;> intro ho
  · cases ho
  · simp only [cond_true] at ho
    split at ho
    · obtain ⟨m1, h1, h2⟩ := writeK_n ho
      have := entO_n _ _ _ _ _ h1
      omega
    · cases ho
end
end Go.Proofs.YthelmobipjekjaaGreat.Ev
