/- What a region that draws its order gives. -/
import Derived.Test.YthelmobipjekjaaGreatLm
set_option linter.unusedVariables false
set_option linter.unusedSimpArgs false
namespace Go.Proofs.YthelmobipjekjaaGreat.Ev
open Go Go.RowKit
/-! ### the plan -/
section
theorem perm_of_cover : ∀ (n : Nat) (l : List Nat), l.length = n → (∀ i, i < n → i ∈ l) → l.Nodup ∧ ∀ i ∈ l, i < n
  | 0, l, hl, _ => by
    have : l = [] := List.eq_nil_of_length_eq_zero hl
    subst this; exact ⟨List.nodup_nil, fun i h => by cases h⟩
  | n + 1, l, hl, hc => by
    have hn := hc n (Nat.lt_succ_self n)
    have hp := List.perm_cons_erase hn
    have hle : (l.erase n).length = n := by rw [List.length_erase_of_mem hn, hl]; rfl
    obtain ⟨h1, h2⟩ := perm_of_cover n (l.erase n) hle fun i hi => by
      have : i ∈ n :: l.erase n := hp.mem_iff.1 (hc i (by omega))
      rcases List.mem_cons.1 this with h | h
      · omega
      · exact h
    have hnn : n ∉ l.erase n := fun h => by have := h2 n h; omega
    refine ⟨hp.nodup_iff.2 (List.nodup_cons.2 ⟨hnn, h1⟩), fun i hi => ?_⟩
    rcases List.mem_cons.1 (hp.mem_iff.1 hi) with h | h
    · omega
    · have := h2 i h; omega
theorem allPairs_get {p : Nat → Nat → Bool} : ∀ {l : List Nat}, allPairs p l = true → ∀ (a b x y : Nat), a < b → l[a]? = some x → l[b]? = some y → p x y = true
  | [], h, a, b, x, y, hab, hx, hy => by simp at hx
  | z :: l, h, a, b, x, y, hab, hx, hy => by
    simp only [allPairs, Bool.and_eq_true] at h
    cases b with
    | zero => omega
    | succ b =>
      have hy : l[b]? = some y := by simpa using hy
      cases a with
      | zero =>
        simp at hx; subst hx
        exact List.all_eq_true.1 h.1 y (List.mem_of_getElem? hy)
      | succ a => exact allPairs_get h.2 a b x y (by omega) (by simpa using hx) hy
def foldB (bs : List Nat) (L : List Edge) (s : Nat) : Nat := L.foldl (fun s e => bif Region.binds .any e then Nat.lor s (Nat.lor (2 ^ e.on) (bs.getD e.on 0)) else s) s
theorem foldB_bit (bs : List Nat) (j : Nat) : ∀ (L : List Edge) (s : Nat), (foldB bs L s).testBit j = true ↔ s.testBit j = true ∨ ∃ e ∈ L, Region.binds .any e = true ∧ (e.on = j ∨ (bs.getD e.on 0).testBit j = true)
  | [], s => by simp [foldB]
  | e :: L, s => by
    show (foldB bs L (bif Region.binds .any e then Nat.lor s (Nat.lor (2 ^ e.on) (bs.getD e.on 0)) else s)).testBit j = true ↔ _
    rw [foldB_bit bs j L]
    cases hb : Region.binds .any e with
    | false =>
      simp only [cond_false]
      constructor
      · rintro (h | ⟨e', h1, h2⟩)
        · exact .inl h
        · exact .inr ⟨e', List.mem_cons_of_mem _ h1, h2⟩
      · rintro (h | ⟨e', h1, h2, h3⟩)
        · exact .inl h
        · rcases List.mem_cons.1 h1 with rfl | h1
          · rw [hb] at h2; cases h2
          · exact .inr ⟨e', h1, h2, h3⟩
    | true =>
      simp only [cond_true]
      have hor : (Nat.lor s (Nat.lor (2 ^ e.on) (bs.getD e.on 0))).testBit j = true ↔ s.testBit j = true ∨ e.on = j ∨ (bs.getD e.on 0).testBit j = true := by
        show (s ||| (2 ^ e.on ||| bs.getD e.on 0)).testBit j = true ↔ _
        rw [Nat.testBit_or, Nat.testBit_or, Nat.testBit_two_pow]
        simp
      rw [hor]
      constructor
      · rintro ((h | h) | ⟨e', h1, h2⟩)
        · exact .inl h
        · exact .inr ⟨e, List.mem_cons_self, hb, h⟩
        · exact .inr ⟨e', List.mem_cons_of_mem _ h1, h2⟩
      · rintro (h | ⟨e', h1, h2, h3⟩)
        · exact .inl (.inl h)
        · rcases List.mem_cons.1 h1 with rfl | h1
          · exact .inl (.inr h3)
          · exact .inr ⟨e', h1, h2, h3⟩
theorem foldB_congr {bs bs' : List Nat} : ∀ (L : List Edge) (s : Nat), (∀ e ∈ L, Region.binds .any e = true → bs.getD e.on 0 = bs'.getD e.on 0) → foldB bs L s = foldB bs' L s
  | [], s, _ => rfl
  | e :: L, s, h => by
    show foldB bs L (bif Region.binds .any e then Nat.lor s (Nat.lor (2 ^ e.on) (bs.getD e.on 0)) else s) = foldB bs' L (bif Region.binds .any e then Nat.lor s (Nat.lor (2 ^ e.on) (bs'.getD e.on 0)) else s)
    have : (bif Region.binds .any e then Nat.lor s (Nat.lor (2 ^ e.on) (bs.getD e.on 0)) else s) = (bif Region.binds .any e then Nat.lor s (Nat.lor (2 ^ e.on) (bs'.getD e.on 0)) else s) := by
      cases hb : Region.binds .any e with
      | false => rfl
      | true => simp only [cond_true]; rw [h e List.mem_cons_self hb]
    rw [this]
    exact foldB_congr L _ fun e' h1 h2 => h e' (List.mem_cons_of_mem _ h1) h2
theorem befs_append : ∀ (os : List Oper) (acc : List Nat), ∃ r, befs os acc = acc ++ r
  | [], acc => ⟨[], by simp [befs]⟩
  | o :: os, acc => by
    obtain ⟨r, hr⟩ := befs_append os (acc ++ [foldB acc o.after.toList 0])
    exact ⟨foldB acc o.after.toList 0 :: r, by
      show befs os (acc ++ [foldB acc o.after.toList 0]) = _
      rw [hr]; simp⟩
theorem befs_get : ∀ (os : List Oper) (acc : List Nat) (k : Nat) (o : Oper), os[k]? = some o → (∀ e ∈ o.after.toList, Region.binds .any e = true → e.on < acc.length + k) → (befs os acc).getD (acc.length + k) 0 = foldB (befs os acc) o.after.toList 0
  | [], acc, k, o, h, _ => by simp at h
  | o' :: os, acc, 0, o, h, hb => by
    simp at h; subst h
    obtain ⟨r, hr⟩ := befs_append os (acc ++ [foldB acc o'.after.toList 0])
    have e : befs (o' :: os) acc = acc ++ (foldB acc o'.after.toList 0 :: r) := by
      show befs os (acc ++ [foldB acc o'.after.toList 0]) = _
      rw [hr]; simp
    rw [e, Nat.add_zero, List.getD_eq_getElem?_getD, List.getElem?_append_right (Nat.le_refl _), Nat.sub_self]
    show foldB acc o'.after.toList 0 = _
    refine foldB_congr _ _ fun e h1 h2 => ?_
    have := hb e h1 h2
    rw [List.getD_eq_getElem?_getD, List.getD_eq_getElem?_getD, List.getElem?_append_left (by omega)]
  | o' :: os, acc, k + 1, o, h, hb => by
    have := befs_get os (acc ++ [foldB acc o'.after.toList 0]) k o (by simpa using h) (fun e h1 h2 => by have := hb e h1 h2; simp; omega)
    have e : befs (o' :: os) acc = befs os (acc ++ [foldB acc o'.after.toList 0]) := rfl
    rw [e]
    have e2 : acc.length + (k + 1) = (acc ++ [foldB acc o'.after.toList 0]).length + k := by simp; omega
    rw [e2]; exact this
/-- What a plan says. -/
structure PlanOK (P : Program) (ops : Array Oper) (ord lows bs : List Nat) : Prop where
  nd : ord.Nodup
  lt : ∀ i ∈ ord, i < ops.size
  len : ord.length = ops.size
  all : ∀ i, i < ops.size → i ∈ ord
  back : ∀ i o, ops[i]? = some o → ∀ e ∈ o.after.toList, Region.binds .any e = true → e.on < i
  pre : ∀ i o j, ops[i]? = some o → (isPre bs j i = true ↔ ∃ e ∈ o.after.toList, Region.binds .any e = true ∧ (e.on = j ∨ isPre bs j e.on = true))
  ahead : ∀ (a b x y : Nat), a < b → ord[a]? = some x → ord[b]? = some y → isPre bs y x = false
  effs : ∀ (a b x y : Nat), a < b → ord[a]? = some x → ord[b]? = some y → isEfAt P ops.toList y = true → isPre bs x y = true
  slots : ∀ i j o o' t, ops[i]? = some o → ops[j]? = some o' → o.dst = some t → t ∈ names ops o' → i = j ∨ isPre bs i j = true ∨ isPre bs j i = true
  low : ∀ i, i < ops.size → (nth lows i).getD 0 = lowOf bs ((List.range ops.size).filter (isEfAt P ops.toList)) i
theorem plan_ok {P : Program} {ops : Array Oper} {ord lows : List Nat} (h : planOf P ops = .mk ord lows true) : PlanOK P ops ord lows (befs ops.toList []) := by
  unfold planOf at h
  simp only [Plan.mk.injEq, Bool.and_eq_true, decide_eq_true_eq] at h
  obtain ⟨h1, h2, ⟨⟨⟨⟨⟨c1, c2⟩, c3⟩, c4⟩, c5⟩, c6⟩⟩ := h
  rw [h1] at c1 c2 c4 c5
  have hsz : ops.toList.length = ops.size := Array.length_toList
  rw [hsz] at c1 c2
  have hall : ∀ i, i < ops.size → i ∈ ord := fun i hi => by
    have := List.all_eq_true.1 c2 i (List.mem_range.2 hi)
    simpa using this
  obtain ⟨hnd, hlt⟩ := perm_of_cover ops.size ord c1 hall
  have hzip : ∀ {i o}, ops[i]? = some o → (o, i) ∈ ops.toList.zipIdx := fun {i o} ho => by
    rw [List.mem_zipIdx_iff_getElem?]
    simpa using ho
  have hback : ∀ i o, ops[i]? = some o → ∀ e ∈ o.after.toList, Region.binds .any e = true → e.on < i := fun i o ho e he hb => by
    have := List.all_eq_true.1 c3 (o, i) (hzip ho)
    have := List.all_eq_true.1 this e he
    rw [hb] at this
    have h9 : e.on + 1 ≤ i := by simpa [Nat.blt] using this
    exact h9
  refine ⟨hnd, hlt, c1, hall, hback, fun i o j ho => ?_, fun a b x y hab hx hy => ?_, fun a b x y hab hx hy he => ?_, fun i j o o' t hi hj hd hn => ?_, fun i hi => ?_⟩
  · unfold isPre
    have hl : ops.toList[i]? = some o := by simpa using ho
    have := befs_get ops.toList [] i o hl (fun e h1 h2 => by have := hback i o ho e h1 h2; simpa using this)
    rw [List.length_nil, Nat.zero_add] at this
    rw [this, foldB_bit]
    simp
  · have := allPairs_get c4 a b x y hab hx hy
    simpa using this
  · have := allPairs_get c5 a b x y hab hx hy
    rw [he] at this
    simpa using this
  · have := List.all_eq_true.1 c6 (o, i) (hzip hi)
    simp only [hd] at this
    have := List.all_eq_true.1 this (o', j) (hzip hj)
    simp only [Bool.or_eq_true, decide_eq_true_eq, Bool.not_eq_true', List.contains_eq_mem, decide_eq_false_iff_not] at this
    rcases this with ((h | h) | h) | h
    · exact .inl h
    · exact absurd hn h
    · exact .inr (.inl h)
    · exact .inr (.inr h)
  · rw [← h2, nth_eq, List.getElem?_map, List.getElem?_range (by rw [hsz]; exact hi)]
    simp [hsz]
end
/-! ### the runner's way through a drawn region -/
section
variable {P : Program} {O : Orc} {cf : CodeF}
theorem keq_eq {a b : IntKind} (h : keq a b = true) : a = b := (keq_iff a b).1 h
theorem veq_eq {x y : Value} (h : veq x y = true) : x = y := by
  unfold veq at h
  split at h
  · rw [eq_of_beq h]
  · simp only [Bool.and_eq_true, eqI_eq, decide_eq_true_eq] at h; rw [keq_eq h.1, h.2]
  · rename_i a b
    have h := of_decide_eq_true h
    have : a = b := by
      cases a with
      | mk a => cases b with
        | mk b => exact congrArg ByteArray.mk (Array.ext' h)
    rw [this]
  · rw [of_decide_eq_true h]
  · simp only [Bool.and_eq_true, decide_eq_true_eq] at h
    rw [h.1.1, Nat.eq_of_beq_eq_true h.1.2, Nat.eq_of_beq_eq_true h.2]
  · rw [of_decide_eq_true h]
  · rfl
  · rfl
  · cases h
theorem leq_eq : ∀ {a b : List Value}, leq a b = true → a = b
  | [], [], _ => rfl
  | [], _ :: _, h => by cases h
  | _ :: _, [], h => by cases h
  | x :: xs, y :: ys, h => by
    simp only [leq, Bool.and_eq_true] at h
    rw [veq_eq h.1, leq_eq h.2]
theorem veq1_eq {x y : Value} (h : veq1 x y = true) : x = y := by
  unfold veq1 at h
  split at h
  · split at h
    · rw [Array.ext' (leq_eq h)]
    · cases h
  · split at h
    · rw [Array.ext' (leq_eq h)]
    · cases h
  · split at h
    · simp only [Bool.and_eq_true] at h
      rw [Nat.eq_of_beq_eq_true h.1, veq_eq h.2]
    · cases h
  · split at h
    · simp only [Bool.and_eq_true, decide_eq_true_eq] at h
      rw [h.1.1, Array.ext' (leq_eq h.1.2), Array.ext' (leq_eq h.2)]
    · cases h
  · exact veq_eq h
theorem leq1_eq : ∀ {a b : List Value}, leq1 a b = true → a = b
  | [], [], _ => rfl
  | [], _ :: _, h => by cases h
  | _ :: _, [], h => by cases h
  | x :: xs, y :: ys, h => by
    simp only [leq1, Bool.and_eq_true] at h
    rw [veq1_eq h.1, leq1_eq h.2]
theorem veq2_eq {x y : Value} (h : veq2 x y = true) : x = y := by
  unfold veq2 at h
  split at h
  · split at h
    · rw [Array.ext' (leq1_eq h)]
    · cases h
  · split at h
    · rw [Array.ext' (leq1_eq h)]
    · cases h
  · exact veq1_eq h
theorem stood_get {g : Lf} {ρ : Operand → Value} {v : Value} : ∀ {c : Nat} {hist : List (Tr AO)}, stood g ρ v c hist = true → ∀ (i : Nat) (h : Tr AO), i < c → hist[i]? = some h → g ρ h = some v
  | 0, _, _, i, h, hi, _ => by omega
  | c + 1, [], _, i, h, _, hh => by simp at hh
  | c + 1, h0 :: hs, hst, i, h, hi, hh => by
    simp only [stood] at hst
    cases i with
    | zero =>
      simp at hh; subst hh
      cases hg : g ρ h0 with
      | none => rw [hg] at hst; cases hst
      | some u =>
        rw [hg] at hst
        simp only at hst
        cases hv : veq2 u v with
        | false => rw [hv] at hst; cases hst
        | true => rw [veq2_eq hv]
    | succ i =>
      have key : ∀ b : Bool, (bif b then stood g ρ v c hs else false) = true → stood g ρ v c hs = true := by intro b; cases b <;> simp
      exact stood_get (key _ hst) i h (by omega) (by simpa using hh)
/-- One operation of a drawn region, as the runner goes. -/
def DStep (P : Program) (O : Orc) (cf : CodeF) : DI → Fr → Me → List (Tr AO) → Value → Fr → Me → List (Tr AO) → Prop
  | .mk o dst gd x low, f, m, H, v, f', m', H' =>
    ((gdHolds f gd = true ∧ stepV P O cf o x f.eval m = some (v, m') ∧ stoodX x f.eval v (H.length - low) H = true) ∨ (gdHolds f gd = false ∧ v = undef ∧ m' = m)) ∧ f.put dst v some = some f' ∧ H' = histOf x m' H
theorem put_some {β : Type} {f : Fr} {d : Option Nat} {v : Value} {k : Fr → Option β} {r : β} (hk : f.put d v k = some r) : ∃ f', k f' = some r ∧ f.put d v some = some f' := by
  cases d with
  | none => exact ⟨f, hk, rfl⟩
  | some t =>
    cases f with
    | mk a nt ms =>
      unfold Fr.put at hk ⊢
      simp only [Tr.putK_eq] at hk ⊢
      revert hk
      cases (Nat.blt t nt) <;> intro hk
      · cases hk
      · exact ⟨_, hk, rfl⟩
theorem put_inv {f f' : Fr} {d : Option Nat} {v : Value} (h : f.put d v some = some f') : ∃ a nt ms a', f = .mk a nt ms ∧ f' = .mk a' nt ms ∧ (∀ t, d = some t → t < nt) ∧ ∀ t, slot a' t = if d = some t then v else slot a t := by
  cases f with
  | mk a nt ms =>
    cases d with
    | none => exact ⟨a, nt, ms, a, rfl, (Option.some.inj h).symm, (fun t e => by cases e), (fun t => by rw [if_neg (by simp)])⟩
    | some u =>
      unfold Fr.put at h
      simp only [Tr.putK_eq] at h
      cases hb : Nat.blt u nt with
      | false => rw [hb] at h; cases h
      | true =>
        rw [hb] at h
        simp only [cond_true, Option.some.injEq] at h
        refine ⟨a, nt, ms, a.put u v, rfl, h.symm, fun t e => by cases e; exact Nat.le_of_ble_eq_true hb, fun t => ?_⟩
        rw [slot_put]
        by_cases e : t = u
        · subst e; rw [if_pos rfl, if_pos rfl]
        · rw [if_neg e, if_neg (fun e' => e (by cases e'; rfl))]
theorem trace_of {f1 : Fr} {m1 : Me} : ∀ {l : List DI} {f : Fr} {m : Me} {H0 : List (Tr AO)}, runDraw P O cf l f m H0 (fun f m => some (f, m)) = some (f1, m1) →
    ∃ (F : Nat → Fr) (M : Nat → Me) (H : Nat → List (Tr AO)) (V : Nat → Value), F 0 = f ∧ M 0 = m ∧ H 0 = H0 ∧ F l.length = f1 ∧ M l.length = m1 ∧ ∀ (k : Nat) (d : DI), l[k]? = some d → DStep P O cf d (F k) (M k) (H k) (V k) (F (k + 1)) (M (k + 1)) (H (k + 1))
  | [], f, m, H0, h => by cases h; exact ⟨fun _ => f1, fun _ => m1, fun _ => H0, fun _ => undef, rfl, rfl, rfl, rfl, rfl, fun k d h => by simp at h⟩
  | .mk o dst gd x low :: l, f, m, H0, h => by
    simp only [runDraw] at h
    have fin : ∀ {v : Value} {f' : Fr} {m' : Me}, DStep P O cf (.mk o dst gd x low) f m H0 v f' m' (histOf x m' H0) → runDraw P O cf l f' m' (histOf x m' H0) (fun f m => some (f, m)) = some (f1, m1) →
        ∃ (F : Nat → Fr) (M : Nat → Me) (H : Nat → List (Tr AO)) (V : Nat → Value), F 0 = f ∧ M 0 = m ∧ H 0 = H0 ∧ F (DI.mk o dst gd x low :: l).length = f1 ∧ M (DI.mk o dst gd x low :: l).length = m1 ∧ ∀ (k : Nat) (d : DI), (DI.mk o dst gd x low :: l)[k]? = some d → DStep P O cf d (F k) (M k) (H k) (V k) (F (k + 1)) (M (k + 1)) (H (k + 1)) := by
      intro v f' m' hs hr
      obtain ⟨F, M, H, V, e1, e2, e3, e4, e5, e6⟩ := trace_of hr
      refine ⟨fun | 0 => f | k + 1 => F k, fun | 0 => m | k + 1 => M k, fun | 0 => H0 | k + 1 => H k, fun | 0 => v | k + 1 => V k, rfl, rfl, rfl, e4, e5, fun k d hd => ?_⟩
      cases k with
      | zero =>
        simp at hd; subst hd
        simp only [e1, e2, e3]; exact hs
      | succ k => exact e6 k d (by simpa using hd)
    cases hg : gdHolds f gd with
    | true =>
      rw [hg] at h
      simp only [cond_true] at h
      obtain ⟨v, m2, h1, h2⟩ := stepX_some h
      cases hst : stoodX x f.eval v (H0.length - low) H0 with
      | false => rw [hst] at h2; cases h2
      | true =>
        rw [hst] at h2
        simp only [cond_true] at h2
        obtain ⟨f', h3, h4⟩ := put_some h2
        exact fin ⟨.inl ⟨hg, h1, hst⟩, h4, rfl⟩ h3
    | false =>
      rw [hg] at h
      simp only [cond_false] at h
      obtain ⟨f', h3, h4⟩ := put_some h
      exact fin ⟨.inr ⟨hg, rfl, rfl⟩, h4, rfl⟩ h3
theorem disBy_get {ops : Array Oper} {lows : List Nat} : ∀ {ord : List Nat} {k i : Nat} {o : Oper}, ord[k]? = some i → ops[i]? = some o → (disBy P ops lows ord)[k]? = some (diOf P ops ((nth lows i).getD 0) o)
  | [], k, i, o, h, _ => by simp at h
  | j :: ord, k, i, o, h, ho => by
    cases k with
    | zero =>
      simp at h; subst h
      have : nth ops.toList j = some o := by rw [nth_eq]; simpa using ho
      unfold disBy
      rw [this]; rfl
    | succ k =>
      have ih := disBy_get (ops := ops) (lows := lows) (ord := ord) (k := k) (by simpa using h) ho
      unfold disBy
      split <;> simpa using ih
theorem disBy_length {ops : Array Oper} {lows : List Nat} : ∀ (ord : List Nat), (disBy P ops lows ord).length = ord.length
  | [] => rfl
  | j :: ord => by
    unfold disBy
    split <;> simp [disBy_length ord]
/-- The way, by positions. -/
structure Way (P : Program) (O : Orc) (cf : CodeF) (ops : Array Oper) (ord lows bs : List Nat) (ix : Nat → Nat) (op : Nat → Oper) (F : Nat → Fr) (M : Nat → Me) (H : Nat → List (Tr AO)) (V : Nat → Value) : Prop where
  pl : PlanOK P ops ord lows bs
  ixe : ∀ k, k < ops.size → ord[k]? = some (ix k)
  ope : ∀ k, k < ops.size → ops[ix k]? = some (op k)
  st : ∀ k, k < ops.size → DStep P O cf (diOf P ops ((nth lows (ix k)).getD 0) (op k)) (F k) (M k) (H k) (V k) (F (k + 1)) (M (k + 1)) (H (k + 1))
variable {ops : Array Oper} {ord lows bs : List Nat} {ix : Nat → Nat} {op : Nat → Oper} {F : Nat → Fr} {M : Nat → Me} {H : Nat → List (Tr AO)} {V : Nat → Value}
theorem way_of {f f1 : Fr} {m m1 : Me} (hp : planOf P ops = .mk ord lows true) (h : runDraw P O cf (disBy P ops lows ord) f m [m.h] (fun f m => some (f, m)) = some (f1, m1)) :
    ∃ bs ix op F M H V, Way P O cf ops ord lows bs ix op F M H V ∧ F 0 = f ∧ M 0 = m ∧ H 0 = [m.h] ∧ F ops.size = f1 ∧ M ops.size = m1 := by
  have pl := plan_ok hp
  obtain ⟨F, M, H, V, e1, e2, e3, e4, e5, e6⟩ := trace_of h
  rw [disBy_length, pl.len] at e4 e5
  have hix : ∀ k, k < ops.size → ord[k]? = some (ord.getD k 0) := fun k hk => by
    rw [List.getD_eq_getElem?_getD, List.getElem?_eq_getElem (by rw [pl.len]; exact hk)]; rfl
  have hop : ∀ k, k < ops.size → ops[ord.getD k 0]? = some (ops.getD (ord.getD k 0) default) := fun k hk => by
    have := pl.lt _ (List.mem_of_getElem? (hix k hk))
    rw [Array.getD_eq_getD_getElem?, Array.getElem?_eq_getElem this]; rfl
  exact ⟨_, fun k => ord.getD k 0, fun k => ops.getD (ord.getD k 0) default, F, M, H, V, ⟨pl, hix, hop, fun k hk => e6 k _ (disBy_get (hix k hk) (hop k hk))⟩, e1, e2, e3, e4, e5⟩
/-- position a must be done ahead of b -/
def Pr (bs : List Nat) (ix : Nat → Nat) (a b : Nat) : Prop := isPre bs (ix a) (ix b) = true
section
variable (W : Way P O cf ops ord lows bs ix op F M H V)
include W
theorem Way.ahead {a b : Nat} (hab : a < b) (hb : b < ops.size) : ¬ Pr bs ix b a := fun h => by
  have := W.pl.ahead a b _ _ hab (W.ixe a (by omega)) (W.ixe b hb)
  unfold Pr at h
  rw [this] at h; cases h
theorem Way.effs {a b : Nat} (hab : a < b) (hb : b < ops.size) (he : isEfAt P ops.toList (ix b) = true) : Pr bs ix a b := W.pl.effs a b _ _ hab (W.ixe a (by omega)) (W.ixe b hb) he
theorem Way.inj {a b : Nat} (ha : a < ops.size) (hb : b < ops.size) (h : ix a = ix b) : a = b := by
  have h1 := W.ixe a ha
  have h2 := W.ixe b hb
  rw [h] at h1
  have la : a < ord.length := by rw [W.pl.len]; exact ha
  have lb : b < ord.length := by rw [W.pl.len]; exact hb
  rw [List.getElem?_eq_getElem la] at h1
  rw [List.getElem?_eq_getElem lb] at h2
  exact (List.getElem_inj W.pl.nd).1 ((Option.some.inj h1).trans (Option.some.inj h2).symm)
theorem Way.pos {i : Nat} (hi : i < ops.size) : ∃ k, k < ops.size ∧ ix k = i := by
  obtain ⟨k, hk⟩ := List.getElem?_of_mem (W.pl.all i hi)
  have hl := (List.getElem?_eq_some_iff.1 hk).1
  rw [W.pl.len] at hl
  exact ⟨k, hl, by have := W.ixe k hl; rw [hk] at this; exact (Option.some.inj this).symm⟩
theorem Way.slots {a b t : Nat} (ha : a < ops.size) (hb : b < ops.size) (hd : (op a).dst = some t) (hn : t ∈ names ops (op b)) : a = b ∨ Pr bs ix a b ∨ Pr bs ix b a := by
  rcases W.pl.slots _ _ _ _ t (W.ope a ha) (W.ope b hb) hd hn with h | h | h
  · exact .inl (W.inj ha hb h)
  · exact .inr (.inl h)
  · exact .inr (.inr h)
/-- numbers only grow -/
theorem Way.mono (hOn : OrcN O) (hcn : CodeN P cf) {k : Nat} (hk : k < ops.size) : (M k).n ≤ (M (k + 1)).n := by
  have h := W.st k hk
  unfold diOf DStep at h
  obtain ⟨⟨_, h, _⟩ | ⟨_, _, h⟩, _⟩ := h
  · refine step_n hOn hcn ?_ h
    cases gdOk ops (op k) with
    | true => exact .inl rfl
    | false => exact .inr rfl
  · rw [h]; exact Nat.le_refl _
theorem Way.mono' (hOn : OrcN O) (hcn : CodeN P cf) {k j : Nat} (hkj : k ≤ j) (hj : j ≤ ops.size) : (M k).n ≤ (M j).n := by
  induction j with
  | zero => have : k = 0 := by omega
            subst this; exact Nat.le_refl _
  | succ j ih =>
    by_cases e : k = j + 1
    · subst e; exact Nat.le_refl _
    · exact Nat.le_trans (ih (by omega) (by omega)) (W.mono hOn hcn (by omega))
theorem Way.hist {k j : Nat} (hkj : k ≤ j) (hj : j ≤ ops.size) : ∃ ps, H j = ps ++ H k := by
  induction j with
  | zero => have : k = 0 := by omega
            subst this; exact ⟨[], rfl⟩
  | succ j ih =>
    by_cases e : k = j + 1
    · subst e; exact ⟨[], rfl⟩
    · obtain ⟨ps, hps⟩ := ih (by omega) (by omega)
      have h := W.st j (by omega)
      unfold diOf DStep at h
      rw [h.2.2]
      unfold histOf
      split
      · exact ⟨ps, hps⟩
      · exact ⟨ps, hps⟩
      · exact ⟨ps, hps⟩
      · exact ⟨_ :: ps, by rw [hps]; rfl⟩
end
end
/-! ### slots, counts -/
section
variable {P : Program} {O : Orc} {cf : CodeF} {ops : Array Oper} {ord lows bs : List Nat} {ix : Nat → Nat} {op : Nat → Oper} {F : Nat → Fr} {M : Nat → Me} {H : Nat → List (Tr AO)} {V : Nat → Value}
/-- what the slots hold when the operations at the positions S are done -/
noncomputable def ov (f : Fr) (op : Nat → Oper) (V : Nat → Value) (S : Nat → Bool) : Nat → Nat → Value
  | 0, t => slot f.a t
  | k + 1, t => if S k = true ∧ (op k).dst = some t then V k else ov f op V S k t
theorem ov_succ (f : Fr) (op : Nat → Oper) (V : Nat → Value) (S : Nat → Bool) (k t : Nat) : ov f op V S (k + 1) t = if S k = true ∧ (op k).dst = some t then V k else ov f op V S k t := rfl
def upd (S : Nat → Bool) (j : Nat) : Nat → Bool := fun x => if x = j then true else S x
theorem upd_same (S : Nat → Bool) (j : Nat) : upd S j j = true := by simp [upd]
theorem upd_ne (S : Nat → Bool) {j k : Nat} (h : k ≠ j) : upd S j k = S k := by simp [upd, h]
section
variable (W : Way P O cf ops ord lows bs ix op F M H V)
include W
theorem Way.frame {k : Nat} (hk : k ≤ ops.size) : ∃ b nt ms, F 0 = .mk b nt ms ∧ (∃ b', F k = .mk b' nt ms) ∧ ∀ t, slot (F k).a t = ov (F 0) op V (fun _ => true) k t := by
  induction k with
  | zero =>
    obtain ⟨b, nt, ms, h⟩ : ∃ b nt ms, F 0 = .mk b nt ms := by cases F 0 with | mk b nt ms => exact ⟨_, _, _, rfl⟩
    exact ⟨b, nt, ms, h, ⟨b, h⟩, fun t => rfl⟩
  | succ k ih =>
    obtain ⟨b, nt, ms, h1, ⟨b', h2⟩, h3⟩ := ih (by omega)
    have h := W.st k (by omega)
    unfold diOf DStep at h
    obtain ⟨a, nt2, ms2, a', e1, e2, e3, e4⟩ := put_inv h.2.1
    rw [h2] at e1; cases e1
    refine ⟨b, nt, ms, h1, ⟨a', e2⟩, fun t => ?_⟩
    rw [e2, ov_succ]
    show slot a' t = _
    rw [e4]
    have h3 := h3 t
    rw [h2] at h3
    have h3 : slot b' t = _ := h3
    by_cases c : (op k).dst = some t
    · rw [if_pos c, if_pos ⟨rfl, c⟩]
    · rw [if_neg c, if_neg (fun h => c h.2)]; exact h3
theorem Way.dst_lt {k : Nat} (hk : k < ops.size) {b : Tr Value} {nt : Nat} {ms : List Dm} (h0 : F 0 = .mk b nt ms) {t : Nat} (ht : (op k).dst = some t) : t < nt := by
  obtain ⟨b1, nt1, ms1, e0, ⟨b', e1⟩, _⟩ := W.frame (Nat.le_of_lt hk)
  rw [h0] at e0; cases e0
  have h := W.st k hk
  unfold diOf DStep at h
  obtain ⟨a, nt2, ms2, a', e1', e2, e3, e4⟩ := put_inv h.2.1
  rw [e1] at e1'; cases e1'
  exact e3 t ht
theorem Way.read {S : Nat → Bool} {j t : Nat} (hj : j < ops.size) (hS : S j = false) (hdown : ∀ a b, a < ops.size → b < ops.size → Pr bs ix a b → S b = true → S a = true) (hpre : ∀ a, a < ops.size → Pr bs ix a j → S a = true)
    (ht : t ∈ names ops (op j)) : ov (F 0) op V S ops.size t = slot (F j).a t := by
  obtain ⟨_, _, _, _, _, h3⟩ := W.frame (Nat.le_of_lt hj)
  rw [h3]
  have key : ∀ k, k ≤ ops.size → ov (F 0) op V S k t = ov (F 0) op V (fun _ => true) (min k j) t := by
    intro k
    induction k with
    | zero => intro _; rw [Nat.zero_min]; rfl
    | succ k ih =>
      intro hk
      have ih := ih (by omega)
      rw [ov_succ]
      by_cases hd : (op k).dst = some t
      · by_cases hkj : k < j
        · have hs : S k = true := by
            rcases W.slots (by omega) hj hd ht with h | h | h
            · omega
            · exact hpre k (by omega) h
            · exact absurd h (W.ahead hkj hj)
          rw [if_pos ⟨hs, hd⟩, show min (k + 1) j = k + 1 from by omega]
          rw [ov_succ]
          rw [if_pos ⟨rfl, hd⟩]
        · have hns : ¬ S k = true := fun hs => by
            rcases W.slots (by omega) hj hd ht with h | h | h
            · subst h; rw [hS] at hs; cases hs
            · by_cases e : k = j
              · subst e; rw [hS] at hs; cases hs
              · exact W.ahead (show j < k by omega) (by omega) h
            · have := hdown j k hj (by omega) h hs
              rw [hS] at this; cases this
          rw [if_neg (fun h => hns h.1), ih, show min (k + 1) j = min k j from by omega]
      · rw [if_neg (fun h => hd h.2), ih]
        by_cases hkj : k < j
        · rw [show min (k + 1) j = k + 1 from by omega, show min k j = k from by omega]
          rw [ov_succ]
          rw [if_neg (fun h => hd h.2)]
        · rw [show min (k + 1) j = min k j from by omega]
  rw [key ops.size (Nat.le_refl _), show min ops.size j = j from by omega]
theorem Way.wrote {S : Nat → Bool} {j : Nat} (hj : j < ops.size) (hS : S j = false) (hdown : ∀ a b, a < ops.size → b < ops.size → Pr bs ix a b → S b = true → S a = true) (t : Nat) :
    ov (F 0) op V (upd S j) ops.size t = if (op j).dst = some t then V j else ov (F 0) op V S ops.size t := by
  have key : ∀ k, k ≤ ops.size → ov (F 0) op V (upd S j) k t = if j < k ∧ (op j).dst = some t then V j else ov (F 0) op V S k t := by
    intro k
    induction k with
    | zero => intro _; rw [if_neg (by omega)]; rfl
    | succ k ih =>
      intro hk
      have ih := ih (by omega)
      rw [ov_succ]
      by_cases e : k = j
      · subst e
        by_cases hd : (op k).dst = some t
        · rw [if_pos ⟨upd_same _ _, hd⟩, if_pos ⟨by omega, hd⟩]
        · rw [if_neg (fun h => hd h.2), if_neg (fun h => hd h.2), ih, if_neg (by omega)]
          rw [ov_succ]
          rw [if_neg (fun h => hd h.2)]
      · rw [upd_ne _ e]
        by_cases hd : S k = true ∧ (op k).dst = some t
        · rw [if_pos hd, if_neg]
          · rw [ov_succ]
            rw [if_pos hd]
          · rintro ⟨h1, h2⟩
            have hn : t ∈ names ops (op k) := by
              unfold names
              rw [hd.2]; simp
            rcases W.slots hj (by omega) h2 hn with h | h | h
            · exact e h.symm
            · have := hdown j k hj (by omega) h hd.1
              rw [hS] at this; cases this
            · exact W.ahead (show j < k by omega) (by omega) h
        · rw [if_neg hd, ih]
          by_cases c : j < k ∧ (op j).dst = some t
          · rw [if_pos c, if_pos ⟨by omega, c.2⟩]
          · rw [if_neg c, if_neg (fun h => c ⟨by omega, h.2⟩)]
            rw [ov_succ]
            rw [if_neg hd]
  rw [key ops.size (Nat.le_refl _)]
  by_cases c : (op j).dst = some t
  · rw [if_pos ⟨hj, c⟩, if_pos c]
  · rw [if_neg (fun h => c h.2), if_neg c]
/-! the effects so far -/
theorem Way.count {k : Nat} (hk : k ≤ ops.size) (h0 : (H 0).length = 1) : 1 + ((ord.take k).filter (isEfAt P ops.toList)).length ≤ (H k).length := by
  induction k with
  | zero => simp [h0]
  | succ k ih =>
    have ih := ih (by omega)
    have h := W.st k (by omega)
    unfold diOf DStep at h
    have hl : k < ord.length := by rw [W.pl.len]; omega
    have hx : ord.take (k + 1) = ord.take k ++ [ix k] := by
      rw [List.take_add_one, W.ixe k (by omega)]; rfl
    rw [hx, List.filter_append, List.length_append]
    have hef : ∀ x : EX, ((bif gdOk ops (op k) then exOf P (op k) else .bad) = x) → isEfAt P ops.toList (ix k) = true → (∀ g, x ≠ .fl g) ∧ (∀ g, x ≠ .ld g) ∧ ∀ g, x ≠ .nw g := by
      intro x hx he
      have ho : ops.toList[ix k]? = some (op k) := by simpa using W.ope k (by omega)
      have he : (kdOf P (op k)).isEf = true := by
        unfold isEfAt at he; rw [ho] at he; exact he
      have hkd : kdOf P (op k) = .ef := by cases hkk : kdOf P (op k) <;> rw [hkk] at he <;> first | rfl | cases he
      subst hx
      cases gdOk ops (op k) with
      | false => exact ⟨(fun g h => by cases h), (fun g h => by cases h), (fun g h => by cases h)⟩
      | true =>
        simp only [cond_true]
        unfold exOf
        rw [hkd]
        cases okOpds (op k).op.operands.toList <;> cases isCall (op k) <;> exact ⟨(fun g h => by cases h), (fun g h => by cases h), (fun g h => by cases h)⟩
    rw [h.2.2]
    by_cases he : isEfAt P ops.toList (ix k) = true
    · have hf : ([ix k].filter (isEfAt P ops.toList)).length = 1 := by simp [he]
      rw [hf]
      obtain ⟨h1, h2, h3⟩ := hef _ rfl he
      unfold histOf
      split
      · rename_i g hg; exact absurd hg (h1 g)
      · rename_i g hg; exact absurd hg (h2 g)
      · rename_i g hg; exact absurd hg (h3 g)
      · simp only [List.length_cons]; omega
    · have hf : ([ix k].filter (isEfAt P ops.toList)).length = 0 := by simp [he]
      rw [hf]
      have : (H k).length ≤ (histOf (bif gdOk ops (op k) then exOf P (op k) else .bad) (M (k + 1)) (H k)).length := by
        unfold histOf
        split <;> simp
      omega
omit W in
theorem perm_range : ∀ (n : Nat) (l : List Nat), l.length = n → (∀ i, i < n → i ∈ l) → l.Perm (List.range n)
  | 0, l, hl, _ => by
    have : l = [] := List.eq_nil_of_length_eq_zero hl
    subst this; exact List.Perm.refl _
  | n + 1, l, hl, hc => by
    have hn := hc n (Nat.lt_succ_self n)
    have hp := List.perm_cons_erase hn
    have hle : (l.erase n).length = n := by rw [List.length_erase_of_mem hn, hl]; rfl
    have ih := perm_range n (l.erase n) hle fun i hi => by
      have : i ∈ n :: l.erase n := hp.mem_iff.1 (hc i (by omega))
      rcases List.mem_cons.1 this with h | h
      · omega
      · exact h
    rw [List.range_succ]
    exact hp.trans ((List.Perm.cons n ih).trans (List.perm_append_singleton n (List.range n)).symm)
theorem Way.low {k j : Nat} (hj : j < ops.size) (hk : k ≤ ops.size) (hpre : ∀ a, a < ops.size → Pr bs ix a j → isEfAt P ops.toList (ix a) = true → a < k) :
    (nth lows (ix j)).getD 0 ≤ ((ord.take k).filter (isEfAt P ops.toList)).length := by
  have hx : ix j < ops.size := W.pl.lt _ (List.mem_of_getElem? (W.ixe j hj))
  rw [W.pl.low _ hx]
  unfold lowOf
  rw [List.filter_filter]
  have hp := (perm_range ops.size ord W.pl.len W.pl.all).filter fun e => isPre bs e (ix j) && isEfAt P ops.toList e
  rw [← hp.length_eq]
  have hsplit : ord = ord.take k ++ ord.drop k := (List.take_append_drop k ord).symm
  have hd : (ord.drop k).filter (fun e => isPre bs e (ix j) && isEfAt P ops.toList e) = [] := by
    rw [List.filter_eq_nil_iff]
    intro x hx
    obtain ⟨i, hi⟩ := List.getElem?_of_mem hx
    rw [List.getElem?_drop] at hi
    have hl := (List.getElem?_eq_some_iff.1 hi).1
    rw [W.pl.len] at hl
    have he : ix (k + i) = x := by have := W.ixe (k + i) hl; rw [hi] at this; exact (Option.some.inj this).symm
    simp only [Bool.and_eq_true, not_and]
    intro h1 h2
    have := hpre (k + i) hl (by unfold Pr; rw [he]; exact h1) (by rw [he]; exact h2)
    omega
  have hlen : (ord.filter fun e => isPre bs e (ix j) && isEfAt P ops.toList e).length = ((ord.take k).filter fun e => isPre bs e (ix j) && isEfAt P ops.toList e).length := by
    conv => lhs; rw [hsplit, List.filter_append, hd, List.append_nil]
  rw [hlen, ← List.countP_eq_length_filter, ← List.countP_eq_length_filter]
  exact List.countP_mono_left fun x _ h => by simp only [Bool.and_eq_true] at h; exact h.2
end
end
end Go.Proofs.YthelmobipjekjaaGreat.Ev
