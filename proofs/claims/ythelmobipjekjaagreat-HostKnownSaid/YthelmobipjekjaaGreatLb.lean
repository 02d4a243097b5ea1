/- What the runner 'Ev' says, the model does ('VR', 'HR': a memory of the runner's stands for a part of the world). -/
import Derived.Test.YthelmobipjekjaaGreatLa
set_option linter.unusedVariables false
set_option linter.unusedSimpArgs false
namespace Go.Proofs.YthelmobipjekjaaGreat.Ev
open Go
/-! ### trees -/
section
variable {α β γ : Type}
theorem bc_ite (b : Bool) (x y : α) : bc b x y = if b = true then x else y := by cases b <;> rfl
namespace Tr
theorem get_e (i : Nat) : (Tr.e : Tr α).get i = none := rfl
theorem get_n (l : Tr α) (v : Option α) (r : Tr α) (i : Nat) : (Tr.n l v r).get i = if i = 0 then v else if i % 2 = 1 then l.get (i / 2) else r.get (i / 2 - 1) := by
  show bc (Nat.beq i 0) v (bc (Nat.beq (Nat.mod i 2) 1) (l.get (Nat.div i 2)) (r.get (Nat.pred (Nat.div i 2)))) = _
  simp only [bc_ite, Nat.beq_eq]; rfl
theorem setK_e (f : Nat) (i : Nat) (x : α) (k : Tr α → β) : setK (f + 1) .e i x k = if i = 0 then k (.n .e (some x) .e) else if i % 2 = 1 then setK f .e (i / 2) x (fun t => k (.n t none .e)) else setK f .e (i / 2 - 1) x (fun t => k (.n .e none t)) := by
  have h : setK (f + 1) .e i x k = bc (Nat.beq i 0) (k (.n .e (some x) .e)) (bc (Nat.beq (Nat.mod i 2) 1) (setK f .e (Nat.div i 2) x (fun t => k (.n t none .e))) (setK f .e (Nat.pred (Nat.div i 2)) x (fun t => k (.n .e none t)))) := rfl
  rw [h, bc_ite, bc_ite]
  simp only [Nat.beq_eq]
  rfl
theorem setK_n (f : Nat) (l : Tr α) (v : Option α) (r : Tr α) (i : Nat) (x : α) (k : Tr α → β) : setK (f + 1) (.n l v r) i x k = if i = 0 then k (.n l (some x) r) else if i % 2 = 1 then setK f l (i / 2) x (fun t => k (.n t v r)) else setK f r (i / 2 - 1) x (fun t => k (.n l v t)) := by
  have h : setK (f + 1) (.n l v r) i x k = bc (Nat.beq i 0) (k (.n l (some x) r)) (bc (Nat.beq (Nat.mod i 2) 1) (setK f l (Nat.div i 2) x (fun t => k (.n t v r))) (setK f r (Nat.pred (Nat.div i 2)) x (fun t => k (.n l v t)))) := rfl
  rw [h, bc_ite, bc_ite]
  simp only [Nat.beq_eq]
  rfl
theorem setK_z (t : Tr α) (i : Nat) (x : α) (k : Tr α → β) : setK 0 t i x k = k t := rfl
theorem setK_eq {α : Type} (f : Nat) : ∀ {β : Type} (t : Tr α) (i : Nat) (x : α) (k : Tr α → β), setK f t i x k = k (setK f t i x id) := by
  induction f with
  | zero => intro β t i x k; rfl
  | succ f ih =>
    intro β t i x k
    cases t with
    | e =>
      rw [setK_e, setK_e]
      by_cases h0 : i = 0
      · simp [h0]
      · by_cases h1 : i % 2 = 1
        · simp only [h0, h1, if_true, if_false]; rw [ih, ih _ _ _ (fun t => id (Tr.n t none .e))]; rfl
        · simp only [h0, h1, if_false]; rw [ih, ih _ _ _ (fun t => id (Tr.n .e none t))]; rfl
    | n l v r =>
      rw [setK_n, setK_n]
      by_cases h0 : i = 0
      · simp [h0]
      · by_cases h1 : i % 2 = 1
        · simp only [h0, h1, if_true, if_false]; rw [ih, ih _ _ _ (fun t => id (Tr.n t v r))]; rfl
        · simp only [h0, h1, if_false]; rw [ih, ih _ _ _ (fun t => id (Tr.n l v t))]; rfl
theorem get_setK (f : Nat) : ∀ (t : Tr α) (i : Nat) (x : α) (j : Nat), i < f → (setK f t i x id).get j = if j = i then some x else t.get j := by
  induction f with
  | zero => intro t i x j h; omega
  | succ f ih =>
    intro t i x j h
    cases t with
    | e =>
      rw [setK_e]
      by_cases h0 : i = 0
      · subst h0; simp only [if_true, id, get_n, get_e]
        by_cases hj : j = 0 <;> simp [hj]
      · by_cases h1 : i % 2 = 1
        · simp only [h0, h1, if_true, if_false]
          rw [setK_eq, id, get_n, ih _ _ _ _ (by omega)]
          simp only [get_e]
          by_cases hj : j = 0
          · simp [hj, Ne.symm h0]
          · by_cases hj1 : j % 2 = 1
            · simp only [hj, hj1, if_true, if_false]
              by_cases e : j = i
              · simp [e]
              · rw [if_neg (by omega), if_neg e]
            · simp only [hj, hj1, if_false]; rw [if_neg (by omega)]
        · simp only [h0, h1, if_false]
          rw [setK_eq, id, get_n, ih _ _ _ _ (by omega)]
          simp only [get_e]
          by_cases hj : j = 0
          · simp [hj, Ne.symm h0]
          · by_cases hj1 : j % 2 = 1
            · simp only [hj, hj1, if_true, if_false]; rw [if_neg (by omega)]
            · simp only [hj, hj1, if_false]
              by_cases e : j = i
              · simp [e]
              · rw [if_neg (by omega), if_neg e]
    | n l v r =>
      rw [setK_n]
      by_cases h0 : i = 0
      · subst h0; simp only [if_true, id, get_n]
        by_cases hj : j = 0 <;> simp [hj]
      · by_cases h1 : i % 2 = 1
        · simp only [h0, h1, if_true, if_false]
          rw [setK_eq, id, get_n, ih _ _ _ _ (by omega), get_n]
          by_cases hj : j = 0
          · simp [hj, Ne.symm h0]
          · by_cases hj1 : j % 2 = 1
            · simp only [hj, hj1, if_true, if_false]
              by_cases e : j = i
              · simp [e]
              · rw [if_neg (by omega), if_neg e]
            · simp only [hj, hj1, if_false]; rw [if_neg (by omega)]
        · simp only [h0, h1, if_false]
          rw [setK_eq, id, get_n, ih _ _ _ _ (by omega), get_n]
          by_cases hj : j = 0
          · simp [hj, Ne.symm h0]
          · by_cases hj1 : j % 2 = 1
            · simp only [hj, hj1, if_true, if_false]; rw [if_neg (by omega)]
            · simp only [hj, hj1, if_false]
              by_cases e : j = i
              · simp [e]
              · rw [if_neg (by omega), if_neg e]
/-- one more entry -/
noncomputable def put (t : Tr α) (i : Nat) (x : α) : Tr α := putK t i x id
theorem putK_eq (t : Tr α) (i : Nat) (x : α) (k : Tr α → β) : t.putK i x k = k (t.put i x) := setK_eq _ _ _ _ _
theorem get_put (t : Tr α) (i : Nat) (x : α) (j : Nat) : (t.put i x).get j = if j = i then some x else t.get j := get_setK _ _ _ _ _ (Nat.lt_succ_self i)
theorem get_put_same (t : Tr α) (i : Nat) (x : α) : (t.put i x).get i = some x := by rw [get_put, if_pos rfl]
theorem get_put_ne (t : Tr α) {i j : Nat} (x : α) (h : j ≠ i) : (t.put i x).get j = t.get j := by rw [get_put, if_neg h]
noncomputable def puts (xs : List α) (t : Tr α) (i : Nat) : Tr α := putsK xs t i id
theorem putsK_cons (x : α) (xs : List α) (t : Tr α) (i : Nat) (k : Tr α → β) : putsK (x :: xs) t i k = putsK xs (t.put i x) (i + 1) k := by
  show t.putK i x _ = _; rw [putK_eq]
theorem putsK_eq : ∀ (xs : List α) (t : Tr α) (i : Nat) (k : Tr α → β), putsK xs t i k = k (puts xs t i)
  | [], _, _, _ => rfl
  | x :: xs, t, i, k => by
    rw [putsK_cons, putsK_eq xs]
    show _ = k (putsK (x :: xs) t i id)
    rw [putsK_cons]; rfl
theorem get_puts : ∀ (xs : List α) (t : Tr α) (i j : Nat), (puts xs t i).get j = if i ≤ j ∧ j < i + xs.length then xs[j - i]? else t.get j
  | [], t, i, j => by rw [if_neg (by simp)]; rfl
  | x :: xs, t, i, j => by
    show (putsK (x :: xs) t i id).get j = _
    rw [putsK_cons]
    show (puts xs (t.put i x) (i + 1)).get j = _
    rw [get_puts xs, get_put]
    simp only [List.length_cons]
    by_cases h1 : i + 1 ≤ j ∧ j < i + 1 + xs.length
    · rw [if_pos h1, if_pos (by omega), show j - i = (j - (i + 1)) + 1 from by omega, List.getElem?_cons_succ]
    · rw [if_neg h1]
      by_cases h2 : j = i
      · subst h2; rw [if_pos rfl, if_pos (by omega), Nat.sub_self]; rfl
      · rw [if_neg h2, if_neg (by omega)]
theorem get_ofList (xs : List α) (j : Nat) : (ofList xs).get j = xs[j]? := by
  show (puts xs .e 0).get j = _
  rw [get_puts]
  by_cases h : j < xs.length
  · rw [if_pos (by omega)]; rfl
  · rw [if_neg (by omega), List.getElem?_eq_none (by omega)]; rfl
theorem slice_spec : ∀ (k : Nat) (t : Tr α) (i : Nat) (l : List α), t.slice k i = some l → l.length = k ∧ ∀ j, j < k → t.get (i + j) = l[j]?
  | 0, t, i, l, h => by cases h; exact ⟨rfl, fun j hj => by omega⟩
  | k + 1, t, i, l, h => by
    simp only [slice] at h
    cases hx : t.get i with
    | none => simp [hx] at h
    | some x =>
      simp only [hx] at h
      cases hs : t.slice k (Nat.succ i) with
      | none => simp [hs] at h
      | some xs =>
        simp only [hs, Option.some.injEq] at h
        subst h
        obtain ⟨h1, h2⟩ := slice_spec k t (Nat.succ i) xs hs
        refine ⟨by simp [h1], fun j hj => ?_⟩
        cases j with
        | zero => simpa using hx
        | succ j => have := h2 j (by omega); rw [show i + (j + 1) = Nat.succ i + j from by omega]; simpa using this
end Tr
theorem fN_eq (n : Nat) (k : Nat → β) : fN n k = k n := by cases n <;> rfl
theorem fI_eq (n : Int) (k : Int → β) : fI n k = k n := by cases n <;> simp only [fI, fN_eq]
theorem fB_eq (b : Bool) : fB b = some (.bool b) := by cases b <;> rfl
end
theorem Me.put_eq {β : Type} (m : Me) (i : Nat) (o : AO) (k : Me → β) : m.put i o k = k (.mk (m.h.put i o) m.n) := by
  cases m; simp only [Me.put, Tr.putK_eq]; rfl
theorem Me.new_eq {β : Type} (m : Me) (o : AO) (k : Nat → Me → β) : m.new o k = k m.n (.mk (m.h.put m.n o) (m.n + 1)) := by
  cases m; simp only [Me.new, Tr.putK_eq, fN_eq]; rfl
theorem nth_eq {α : Type} : ∀ (l : List α) (i : Nat), nth l i = l[i]?
  | [], i => by simp [nth]
  | x :: xs, 0 => by simp [nth]
  | x :: xs, i + 1 => by
    have : Nat.beq (i + 1) 0 = false := rfl
    simp [nth, this, nth_eq xs i]
/-! ### what a value stands for -/
/-- where a block of the runner's lies: the block, the cell where it begins, how many elements there is room for -/
structure Pl where
  blk : Nat
  base : Nat
  cap : Nat
abbrev Mp := Nat → Option Pl
def Mp.Le (μ ν : Mp) : Prop := ∀ i p, μ i = some p → ν i = some p
theorem Mp.Le.refl (μ : Mp) : Mp.Le μ μ := fun _ _ h => h
theorem Mp.Le.trans {μ ν ξ : Mp} (h : Mp.Le μ ν) (k : Mp.Le ν ξ) : Mp.Le μ ξ := fun i p hi => k i p (h i p hi)
def Mp.with (μ : Mp) (i : Nat) (p : Pl) : Mp := fun j => if j = i then some p else μ j
theorem Mp.with_same (μ : Mp) (i : Nat) (p : Pl) : μ.with i p i = some p := by simp [Mp.with]
theorem Mp.with_ne (μ : Mp) {i j : Nat} (p : Pl) (h : j ≠ i) : μ.with i p j = μ j := by simp [Mp.with, h]
theorem Mp.le_with {μ : Mp} {i : Nat} (p : Pl) (h : μ i = none) : Mp.Le μ (μ.with i p) := fun j q hj => by
  by_cases e : j = i
  · subst e; rw [h] at hj; cases hj
  · rw [Mp.with_ne _ _ e]; exact hj

def capOf (p : Pl) (c : Nat) : Nat := if c < sym then c else p.cap - (c - sym)

inductive VR (μ : Mp) : Value → Value → Prop where
  | leaf {v : Value} (h : leaf v = true) : VR μ v v
  | ptr {i o : Nat} {p : Pl} (h : μ i = some p) : VR μ (.pointer (some ⟨i, o, none⟩)) (.pointer (some ⟨p.blk, p.base + o, none⟩))
  | sl {i o l c : Nat} {p : Pl} (h : μ i = some p) (hl : l ≤ capOf p c) : VR μ (.slice (some ⟨i, o, none⟩) l c) (.slice (some ⟨p.blk, p.base + o, none⟩) l (capOf p c))
  | emp {A : Addr} {C : Nat} : VR μ emptyS (.slice (some A) 0 C)
  | map {i : Nat} {p : Pl} (h : μ i = some p) : VR μ (.map (some i)) (.map (some p.blk))
  | fn {f : Nat} {a b c d : List Value} (ha : a.length = b.length) (ha' : ∀ (k : Nat) (x y : Value), a[k]? = some x → b[k]? = some y → VR μ x y) (hc : c.length = d.length) (hc' : ∀ (k : Nat) (x y : Value), c[k]? = some x → d[k]? = some y → VR μ x y) :
      VR μ (.func (.func f) ⟨a⟩ ⟨c⟩) (.func (.func f) ⟨b⟩ ⟨d⟩)
  | yld {i : Nat} {p : Pl} (h : μ i = some p) : VR μ (.func (.yield i) #[] #[]) (.func (.yield p.blk) #[] #[])
  | iface {t : TypeId} {v V : Value} (h : VR μ v V) : VR μ (.iface t v) (.iface t V)
  | agg {a b : List Value} (ha : a.length = b.length) (h : ∀ (k : Nat) (x y : Value), a[k]? = some x → b[k]? = some y → VR μ x y) : VR μ (.agg ⟨a⟩) (.agg ⟨b⟩)
  | tup {a b : List Value} (ha : a.length = b.length) (h : ∀ (k : Nat) (x y : Value), a[k]? = some x → b[k]? = some y → VR μ x y) : VR μ (.tuple ⟨a⟩) (.tuple ⟨b⟩)

def VRs (μ : Mp) (a b : List Value) : Prop := a.length = b.length ∧ ∀ (k : Nat) (x y : Value), a[k]? = some x → b[k]? = some y → VR μ x y
section
variable {μ ν : Mp}
theorem VR.mono {v V : Value} (h : VR μ v V) (hle : Mp.Le μ ν) : VR ν v V := by
  induction h with
  | leaf h => exact .leaf h
  | ptr h => exact .ptr (hle _ _ h)
  | sl h hl => exact .sl (hle _ _ h) hl
  | emp => exact .emp
  | map h => exact .map (hle _ _ h)
  | fn ha _ hc _ i1 i2 => exact .fn ha i1 hc i2
  | yld h => exact .yld (hle _ _ h)
  | iface _ ih => exact .iface ih
  | agg ha _ ih => exact .agg ha ih
  | tup ha _ ih => exact .tup ha ih
theorem VRs.mono {a b : List Value} (h : VRs μ a b) (hle : Mp.Le μ ν) : VRs ν a b := ⟨h.1, fun k x y hx hy => (h.2 k x y hx hy).mono hle⟩
theorem VRs.nil : VRs μ [] [] := ⟨rfl, fun k x y hx => by simp at hx⟩
theorem VRs.cons {x y : Value} {a b : List Value} (h : VR μ x y) (k : VRs μ a b) : VRs μ (x :: a) (y :: b) := ⟨by simp [k.1], fun j u v hu hv => by
  cases j with
  | zero => simp at hu hv; subst hu; subst hv; exact h
  | succ j => exact k.2 j u v (by simpa using hu) (by simpa using hv)⟩
theorem VRs.head {x y : Value} {a b : List Value} (h : VRs μ (x :: a) (y :: b)) : VR μ x y := h.2 0 x y rfl rfl
theorem VRs.tail {x y : Value} {a b : List Value} (h : VRs μ (x :: a) (y :: b)) : VRs μ a b := ⟨by simpa using h.1, fun k u v hu hv => h.2 (k + 1) u v (by simpa using hu) (by simpa using hv)⟩
theorem VRs.cons_inv {x : Value} {a b : List Value} (h : VRs μ (x :: a) b) : ∃ y b', b = y :: b' ∧ VR μ x y ∧ VRs μ a b' := by
  cases b with
  | nil => have := h.1; simp at this
  | cons y b => exact ⟨y, b, rfl, h.head, h.tail⟩
theorem VRs.nil_inv {b : List Value} (h : VRs μ [] b) : b = [] := by
  cases b with
  | nil => rfl
  | cons y b => have := h.1; simp at this
theorem VRs.get {a b : List Value} (h : VRs μ a b) {k : Nat} {x : Value} (hx : a[k]? = some x) : ∃ y, b[k]? = some y ∧ VR μ x y := by
  have hk : k < b.length := by rw [← h.1]; exact (List.getElem?_eq_some_iff.1 hx).1
  exact ⟨b[k], List.getElem?_eq_getElem hk, h.2 k x _ hx (List.getElem?_eq_getElem hk)⟩
theorem VRs.append {a b c d : List Value} (h : VRs μ a b) (k : VRs μ c d) : VRs μ (a ++ c) (b ++ d) := ⟨by simp [h.1, k.1], fun j u v hu hv => by
  by_cases hj : j < a.length
  · rw [List.getElem?_append_left hj] at hu
    rw [List.getElem?_append_left (by rw [← h.1]; exact hj)] at hv
    exact h.2 j u v hu hv
  · rw [List.getElem?_append_right (by omega)] at hu
    rw [List.getElem?_append_right (by rw [← h.1]; omega), ← h.1] at hv
    exact k.2 _ u v hu hv⟩
theorem VRs.take {a b : List Value} (h : VRs μ a b) (n : Nat) : VRs μ (a.take n) (b.take n) := ⟨by simp [h.1], fun j u v hu hv => by
  rw [List.getElem?_take] at hu hv
  by_cases hj : j < n
  · rw [if_pos hj] at hu hv; exact h.2 j u v hu hv
  · rw [if_neg hj] at hu; cases hu⟩
theorem VRs.drop {a b : List Value} (h : VRs μ a b) (n : Nat) : VRs μ (a.drop n) (b.drop n) := ⟨by simp [h.1], fun j u v hu hv => by
  rw [List.getElem?_drop] at hu hv; exact h.2 _ u v hu hv⟩
theorem VRs.map {α : Type} {f g : α → Value} : ∀ {l : List α}, (∀ x ∈ l, VR μ (f x) (g x)) → VRs μ (l.map f) (l.map g)
  | [], _ => VRs.nil
  | x :: l, h => VRs.cons (h x (by simp)) (VRs.map fun y hy => h y (by simp [hy]))
theorem leaves_get : ∀ {l : List Value}, leaves l = true → ∀ (k : Nat) (x : Value), l[k]? = some x → leaf x = true
  | v :: l, h, k, x, hx => by
    simp only [leaves] at h
    cases hv : leaf v with
    | false => rw [hv] at h; cases h
    | true =>
      rw [hv] at h
      cases k with
      | zero => simp at hx; subst hx; exact hv
      | succ k => exact leaves_get (l := l) h k x (by simpa using hx)
/-- A leaf stands for itself. -/
theorem VR.of_leaf {v V : Value} (hv : Ev.leaf v = true) (h : VR μ v V) : V = v := by
  cases h <;> first | rfl | (exfalso; simp [Ev.leaf, emptyS] at hv; done)
theorem VRs.of_leaves {a b : List Value} (ha : leaves a = true) (h : VRs μ a b) : b = a := by
  apply List.ext_getElem?
  intro k
  cases hx : a[k]? with
  | none => rw [List.getElem?_eq_none_iff] at hx ⊢; rw [← h.1]; exact hx
  | some x =>
    obtain ⟨y, hy, hr⟩ := h.get hx
    rw [hy, hr.of_leaf (leaves_get ha k x hx)]
theorem VR.of_flat {v V : Value} (hv : flat v = true) (h : VR μ v V) : V = v := by
  cases h with
  | agg ha h => exact congrArg (fun l : List Value => Value.agg ⟨l⟩) (VRs.of_leaves hv ⟨ha, h⟩)
  | tup ha h => exact congrArg (fun l : List Value => Value.tuple ⟨l⟩) (VRs.of_leaves hv ⟨ha, h⟩)
  | iface h => exact congrArg _ (h.of_leaf hv)
  | leaf h => rfl
  | _ => exfalso; simp [flat, Ev.leaf, emptyS] at hv
theorem VRs.leaves {a : List Value} (ha : Ev.leaves a = true) : VRs μ a a := ⟨rfl, fun k x y hx hy => by rw [hx] at hy; cases hy; exact .leaf (leaves_get ha k x hx)⟩
theorem VR.flat {v : Value} (hv : Ev.flat v = true) : VR μ v v := by
  cases v with
  | agg cs => obtain ⟨l⟩ := cs; have := VRs.leaves (μ := μ) (a := l) hv; exact .agg this.1 this.2
  | tuple cs => obtain ⟨l⟩ := cs; have := VRs.leaves (μ := μ) (a := l) hv; exact .tup this.1 this.2
  | iface t v => exact .iface (.leaf hv)
  | _ => exact .leaf hv
theorem VR.undef : VR μ undef undef := .flat rfl
end
/-- The cells of a value. -/
theorem cells_eq (v : Value) : v.cells.toList = cells v := by cases v <;> rfl
theorem VR.cells {μ : Mp} {v V : Value} (h : VR μ v V) : VRs μ (Ev.cells v) (Ev.cells V) := by
  cases h with
  | agg ha h => exact ⟨ha, h⟩
  | leaf h => cases ‹Value› <;> first | exact VRs.cons (.leaf h) VRs.nil | (simp [Ev.leaf] at h; done)
  | ptr h => exact VRs.cons (.ptr h) VRs.nil
  | sl h hl => exact VRs.cons (.sl h hl) VRs.nil
  | emp => exact VRs.cons .emp VRs.nil
  | map h => exact VRs.cons (.map h) VRs.nil
  | fn ha h hc k => exact VRs.cons (.fn ha h hc k) VRs.nil
  | yld h => exact VRs.cons (.yld h) VRs.nil
  | iface h => exact VRs.cons (.iface h) VRs.nil
  | tup ha h => exact VRs.cons (.tup ha h) VRs.nil
/-! ### what a memory stands for -/
def live : AO → Bool
  | .dead => false
  | _ => true
def unf : AO → Bool
  | .row _ _ _ _ fz => !fz
  | _ => true
def endOf (p : Pl) : AO → Nat
  | .row _ len _ _ _ => p.base + len
  | _ => p.base
/-- the blocks that it has grown of -/
def anc : AO → List Nat
  | .row _ _ _ an _ => an
  | _ => []
/-- The slots of an activation. -/
def AR (μ : Mp) (a : Tr Value) (nt : Nat) (T : Array Value) : Prop := T.size = nt ∧ (∀ t, VR μ (slot a t) (T.getD t undef)) ∧ ∀ t v, a.get t = some v → t < nt

def OM (P : Program) (μ : Mp) (p : Pl) (w : World) : AO → Prop
  | .row c len el _ _ => ∃ (cs : Array Value) (ty : TypeId) (fz : Nat × Nat) (sz : Nat), w.heap[p.blk]? = some (.cells cs ty fz) ∧
      (∀ k v, c.get k = some v → k < len ∧ one v = true ∧ ∃ V, cs[p.base + k]? = some V ∧ VR μ v V) ∧ (fz.1 = fz.2 ∨ (cs.size ≤ fz.1 ∧ fz.1 ≤ fz.2)) ∧
      size? P el = some sz ∧ len ≤ p.cap * sz ∧ p.base + p.cap * sz ≤ cs.size
  | .mp es cl => ∃ ES : Array MapEntry, w.heap[p.blk]? = some (.map ES cl) ∧ ES.size = es.length ∧ ∀ (k : Nat) (e : Value × Value × Nat) (E : MapEntry), es[k]? = some e → ES[k]? = some E → E.key = e.1 ∧ leaf e.1 = true ∧ VR μ e.2.1 E.val ∧ E.born = e.2.2
  | .lp st pe a nt ps asg body df => ∃ (fn : FuncId) (T : Array Value) (q : Pl), w.heap[p.blk]? = some (.loop { state := st, pending := pe, fn := fn, tmps := T, params := ⟨ps⟩, assign := asg, body := body, defers := q.blk }) ∧ AR μ a nt T ∧ μ df = some q
  | .df tk => w.heap[p.blk]? = some (.deferred (if tk then none else some []))
  | .it mp since seen last => p.base = 0 ∧ ∃ mm : Option Nat, w.heap[p.blk]? = some (.mapIter mm since ⟨seen⟩ last) ∧ ((mp = none ∧ mm = none) ∨ ∃ i q, mp = some i ∧ μ i = some q ∧ mm = some q.blk)
  | .dead => True

theorem unfrozen {fz : Nat × Nat} {n k : Nat} (h : fz.1 = fz.2 ∨ (n ≤ fz.1 ∧ fz.1 ≤ fz.2)) (hk : k < n) : (fz.1 ≤ k && k < fz.2) = false := by
  simp only [Bool.and_eq_false_iff, decide_eq_false_iff_not]
  omega
structure HR (P : Program) (μ : Mp) (m : Me) (w : World) : Prop where
  obj : ∀ i o, m.h.get i = some o → live o = true → ∃ p, μ i = some p ∧ OM P μ p w o
  few : ∀ i o, m.h.get i = some o → i < m.n
  apart : ∀ i o j o' p q, m.h.get i = some o → live o = true → unf o = true → m.h.get j = some o' → live o' = true → j ≠ i → μ i = some p → μ j = some q → p.blk = q.blk →
    j ∈ anc o ∧ unf o' = false ∧ endOf q o' ≤ endOf p o

/-- b is the block of something. -/
def Img (μ : Mp) (m : Me) (b : Nat) : Prop := ∃ i o p, m.h.get i = some o ∧ live o = true ∧ μ i = some p ∧ p.blk = b

/-- What may have become of the rest. -/
structure Ext (μ : Mp) (m : Me) (w : World) (ν : Mp) (m' : Me) (w' : World) : Prop where
  os : w'.os = w.os
  tape : w'.tape = w.tape
  output : w'.output = w.output
  size : w.heap.size ≤ w'.heap.size
  le : Mp.Le μ ν
  next : m.n ≤ m'.n
  dom : ∀ i, μ i = none → ν i ≠ none → m.n ≤ i ∧ i < m'.n
  keep : ∀ b, b < w.heap.size → ¬ Img μ m b → w'.heap[b]? = w.heap[b]?
  img : ∀ b, b < w.heap.size → Img ν m' b → Img μ m b
theorem Ext.refl (μ : Mp) (m : Me) (w : World) : Ext μ m w μ m w := ⟨rfl, rfl, rfl, Nat.le_refl _, Mp.Le.refl _, Nat.le_refl _, fun i h k => absurd h k, fun _ _ _ => rfl, fun _ _ h => h⟩
theorem Ext.trans {μ ν ξ : Mp} {m m' m'' : Me} {w w' w'' : World} (h : Ext μ m w ν m' w') (k : Ext ν m' w' ξ m'' w'') : Ext μ m w ξ m'' w'' where
  os := k.os.trans h.os
  tape := k.tape.trans h.tape
  output := k.output.trans h.output
  size := Nat.le_trans h.size k.size
  le := h.le.trans k.le
  next := Nat.le_trans h.next k.next
  dom := fun i h0 h1 => by
    by_cases hn : ν i = none
    · have := k.dom i hn h1; exact ⟨Nat.le_trans h.next this.1, this.2⟩
    · have := h.dom i h0 hn; exact ⟨this.1, Nat.lt_of_lt_of_le this.2 k.next⟩
  keep := fun b hb hi => (k.keep b (Nat.lt_of_lt_of_le hb h.size) fun hi' => hi (h.img b hb hi')).trans (h.keep b hb hi)
  img := fun b hb hi => h.img b hb (k.img b (Nat.lt_of_lt_of_le hb h.size) hi)
/-- The numbers to come are free. -/
def Free (μ : Mp) (n n' : Nat) : Prop := ∀ i, n ≤ i → i < n' → μ i = none
theorem Free.left {μ : Mp} {n k n' : Nat} (h : Free μ n n') (hk : k ≤ n') : Free μ n k := fun i h1 h2 => h i h1 (by omega)
theorem Free.right {μ ν : Mp} {m m' : Me} {w w' : World} {n' : Nat} (h : Free μ m.n n') (k : Ext μ m w ν m' w') (hk : m'.n ≤ n') : Free ν m'.n n' := fun i h1 h2 => by
  have hm := h i (Nat.le_trans k.next h1) h2
  cases hv : ν i with
  | none => rfl
  | some p => have := k.dom i hm (by simp [hv]); omega
theorem OM.mono {P : Program} {μ ν : Mp} {p : Pl} {w w' : World} {o : AO} (h : OM P μ p w o) (hle : Mp.Le μ ν) (hw : w'.heap[p.blk]? = w.heap[p.blk]?) : OM P ν p w' o := by
  cases o with
  | row c len el pr fz =>
    obtain ⟨cs, ty, f, sz, h1, h2, h3⟩ := h
    exact ⟨cs, ty, f, sz, hw.trans h1, fun k v hk => by obtain ⟨a, b, V, c, d⟩ := h2 k v hk; exact ⟨a, b, V, c, d.mono hle⟩, h3⟩
  | mp es cl =>
    obtain ⟨ES, h1, h2, h3⟩ := h
    exact ⟨ES, hw.trans h1, h2, fun k e E he hE => by obtain ⟨a, b, c, d⟩ := h3 k e E he hE; exact ⟨a, b, c.mono hle, d⟩⟩
  | lp st pe a nt ps asg body df =>
    obtain ⟨fn, T, q, h1, h2, h3⟩ := h
    exact ⟨fn, T, q, hw.trans h1, ⟨h2.1, fun t => (h2.2.1 t).mono hle, h2.2.2⟩, hle _ _ h3⟩
  | df tk => exact hw.trans h
  | it mp since seen last =>
    obtain ⟨h0, mm, h1, h2⟩ := h
    refine ⟨h0, mm, hw.trans h1, ?_⟩
    rcases h2 with h2 | ⟨i, q, h2, h3, h4⟩
    · exact .inl h2
    · exact .inr ⟨i, q, h2, hle _ _ h3, h4⟩
  | dead => trivial
end Go.Proofs.YthelmobipjekjaaGreat.Ev
