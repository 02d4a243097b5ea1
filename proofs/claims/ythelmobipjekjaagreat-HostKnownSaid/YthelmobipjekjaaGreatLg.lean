/- What the runner's operations on memory give, the model's give. -/
import Derived.Test.YthelmobipjekjaaGreatLf
import Derived.Laws.BytesString
import Derived.Laws.IdiomCopy
import Derived.Laws.Rows
import Derived.Laws.LoneSync
set_option linter.unusedVariables false
set_option linter.unusedSimpArgs false
namespace Go.Proofs.YthelmobipjekjaaGreat.Ev
open Go
/-! ### operations that read memory -/
section
variable {P : Program} {μ : Mp} {m : Me} {w : World}
theorem HR.row {i : Nat} {c : Tr Value} {len el : Nat} {pr : List Nat} {fz : Bool} {p : Pl} (h : HR P μ m w) (hi : m.h.get i = some (.row c len el pr fz)) (hp : μ i = some p) : OM P μ p w (.row c len el pr fz) := by
  obtain ⟨q, hq, ho⟩ := h.obj _ _ hi rfl
  rw [hp] at hq; cases hq; exact ho
theorem HR.mp {i : Nat} {es : List (Value × Value × Nat)} {cl : Nat} {p : Pl} (h : HR P μ m w) (hi : m.h.get i = some (.mp es cl)) (hp : μ i = some p) : OM P μ p w (.mp es cl) := by
  obtain ⟨q, hq, ho⟩ := h.obj _ _ hi rfl
  rw [hp] at hq; cases hq; exact ho
theorem OM.cell {c : Tr Value} {len el : Nat} {pr : List Nat} {fz : Bool} {p : Pl} (h : OM P μ p w (.row c len el pr fz)) {k : Nat} {v : Value} (hk : c.get k = some v) :
    ∃ V, w.cell? ⟨p.blk, p.base + k, none⟩ = some V ∧ VR μ v V := by
  obtain ⟨cs, ty, f, sz, h1, h2, _⟩ := h
  obtain ⟨_, _, V, hV, hv⟩ := h2 k v hk
  exact ⟨V, by rw [cell_of_row _ _ _ _ _ _ h1]; exact hV, hv⟩
theorem OM.cells {c : Tr Value} {len el : Nat} {pr : List Nat} {fz : Bool} {p : Pl} (h : OM P μ p w (.row c len el pr fz)) {k off : Nat} {l : List Value} (hk : c.slice k off = some l) :
    ∃ L, VRs μ l L ∧ L.length = k ∧ ∀ j v, L[j]? = some v → w.cell? ((⟨p.blk, p.base + off, none⟩ : Addr).add j) = some v := by
  obtain ⟨hl, hg⟩ := Tr.slice_spec _ _ _ _ hk
  have key : ∀ j, j < k → ∃ V, w.cell? ⟨p.blk, p.base + off + j, none⟩ = some V ∧ VR μ (l.getD j undef) V := by
    intro j hj
    have hx : l[j]? = some (l.getD j undef) := by rw [List.getD_eq_getElem?_getD, List.getElem?_eq_getElem (by omega)]; rfl
    have := h.cell (k := off + j) (v := l.getD j undef) (by rw [hg j hj, hx])
    rwa [← Nat.add_assoc] at this
  refine ⟨(List.range k).map fun j => (w.cell? ⟨p.blk, p.base + off + j, none⟩).getD undef, ⟨by simp [hl], fun j x y hx hy => ?_⟩, by simp, fun j v hv => ?_⟩
  · have hj : j < k := by rw [← hl]; exact (List.getElem?_eq_some_iff.1 hx).1
    obtain ⟨V, hV, hr⟩ := key j hj
    rw [List.getElem?_map, List.getElem?_range hj] at hy
    simp only [Option.map_some, hV, Option.getD_some, Option.some.injEq] at hy
    rw [List.getD_eq_getElem?_getD, hx] at hr
    subst hy; exact hr
  · have hj : j < k := by have := (List.getElem?_eq_some_iff.1 hv).1; simpa using this
    obtain ⟨V, hV, hr⟩ := key j hj
    rw [List.getElem?_map, List.getElem?_range hj] at hv
    simp only [Option.map_some, hV, Option.getD_some, Option.some.injEq] at hv
    rw [add_at, hV, hv]
theorem loadVar_agg {t k : Nat} {A : Addr} {L : List Value} (ha : agg? P t = some true) (hk : size? P t = some k) (hl : L.length = k) (h : ∀ j v, L[j]? = some v → w.cell? (A.add j) = some v) : (loadVar t A).run P w = .ok (.agg ⟨L⟩) w := by
  have := run_loadCells_list (P := P) w A L h
  unfold loadVar
  rw [map_ok _ (agg_run ha w)]
  simp only [if_true]
  rw [map_ok _ (size_run hk w), ← hl, map_ok _ this]; rfl
theorem loadVar_one {t : Nat} {A : Addr} {V : Value} (ha : agg? P t = some false) (h : w.cell? A = some V) : (loadVar t A).run P w = .ok V w := by
  unfold loadVar
  rw [map_ok _ (agg_run ha w)]
  simp only [Bool.false_eq_true, if_false]
  simp [load, Sem.run, h]
theorem rowThen_some {β : Type} {h : Tr AO} {a : Addr} {g : Tr Value → Option β} {r : β} (hr : rowThen h a g = some r) : ∃ b o c len el pr fz, a = ⟨b, o, none⟩ ∧ h.get b = some (.row c len el pr fz) ∧ g c = some r := by
  unfold rowThen at hr
  split at hr
  · rename_i b o
    split at hr
    · rename_i c len el pr fz hg
      exact ⟨b, o, c, len, el, pr, fz, rfl, hg, hr⟩
    · cases hr
  · cases hr
theorem load_sound {t : Nat} {g : Tr AO → Addr → Option Value} (hg : loadK P t = .mk g) {a : Addr} {v : Value} (h : g m.h a = some v) (hm : HR P μ m w) {p : Pl} (hp : μ a.block = some p) :
    a.spot = none ∧ ∃ V, (loadVar t ⟨p.blk, p.base + a.off, none⟩).run P w = .ok V w ∧ VR μ v V := by
  unfold loadK at hg
  split at hg
  · rename_i ha
    split at hg
    · rename_i k hk
      cases hg
      obtain ⟨b, o, c, len, el, pr, fz, rfl, hb, h⟩ := rowThen_some h
      split at h
      · rename_i l hl
        simp only [Option.some.injEq] at h; subst h
        obtain ⟨L, h1, h2, h3⟩ := (hm.row hb hp).cells hl
        exact ⟨rfl, _, loadVar_agg ha hk h2 h3, .agg h1.1 h1.2⟩
      · cases h
    · cases hg; cases h
  · rename_i ha
    cases hg
    obtain ⟨b, o, c, len, el, pr, fz, rfl, hb, h⟩ := rowThen_some h
    obtain ⟨V, h1, h2⟩ := (hm.row hb hp).cell h
    exact ⟨rfl, V, loadVar_one ha h1, h2⟩
  · cases hg; cases h
theorem mapThen_some {β : Type} {h : Tr AO} {v : Value} {g : Nat → List (Value × Value × Nat) → Nat → Option β} {r : β} (hr : mapThen h v g = some r) : ∃ i es cl, v = .map (some i) ∧ h.get i = some (.mp es cl) ∧ g i es cl = some r := by
  unfold mapThen at hr
  split at hr
  · rename_i i
    split at hr
    · rename_i es cl hg
      exact ⟨i, es, cl, rfl, hg, hr⟩
    · cases hr
  · cases hr
theorem bytesOf_spec : ∀ {l : List Value} {bs : List UInt8}, bytesOf l = some bs → ∃ ns : List Nat, l = ns.map (fun (n : Nat) => Value.int .u8 (n : Int)) ∧ bs = ns.map UInt8.ofNat
  | [], bs, h => by simp only [bytesOf, Option.some.injEq] at h; subst h; exact ⟨[], rfl, rfl⟩
  | v :: l, bs, h => by
    unfold bytesOf at h
    split at h
    · rename_i h2; cases h2
    · rename_i n r h2
      cases h2
      split at h
      · rename_i l' hl
        simp only [Option.some.injEq] at h; subst h
        obtain ⟨ns, h1, h2⟩ := bytesOf_spec hl
        exact ⟨n :: ns, by rw [h1]; rfl, by rw [h2]; rfl⟩
      · cases h
    · cases h
theorem leaves_ints (ns : List Nat) (k : IntKind) : leaves (ns.map fun (n : Nat) => Value.int k (n : Int)) = true := by
  induction ns with
  | nil => rfl
  | cons n ns ih => simp [leaves, leaf, ih]
theorem push_bytes : ∀ (ns : List Int) (s : ByteArray), ns.foldl (fun r n => r.push (UInt8.ofNat n.toNat)) s = ⟨⟨s.data.toList ++ ns.map fun n => UInt8.ofNat n.toNat⟩⟩
  | [], s => by simp
  | n :: ns, s => by
    rw [List.foldl_cons, push_bytes ns]
    simp [ByteArray.push]
theorem string_sound {v s : Value} {V : Value} (h : stringOf m.h v = some s) (hm : HR P μ m w) (hr : VR μ v V) : (Conv.bytesToString V).run P w = .ok s w ∧ leaf s = true := by
  unfold stringOf at h
  split at h
  · simp only [Option.some.injEq] at h; subst h
    rw [hr.of_flat rfl]; exact ⟨rfl, rfl⟩
  · rename_i a len cap
    cases hb : Nat.beq len 0 with
    | true =>
      rw [hb] at h
      obtain rfl : len = 0 := Nat.eq_of_beq_eq_true hb
      simp only [cond_true, Option.some.injEq] at h; subst h
      obtain ⟨A, C, e⟩ := hr.slsome
      rw [e]
      refine ⟨?_, rfl⟩
      have := run_bytesToString (P := P) w A 0 C [] (by simpa using run_loadCells_list (P := P) w A [] (by simp))
      exact (show _ = Result.ok (Value.string ByteArray.empty) w from by simpa using this)
    | false =>
      rw [hb] at h
      simp only [cond_false] at h
      obtain ⟨b, o, c, rl, el, pr, fz, rfl, hb2, h⟩ := rowThen_some h
      split at h
      · rename_i l hl
        split at h
        · rename_i bs hbs
          simp only [Option.some.injEq] at h; subst h
          rcases hr.sl_inv with ⟨p, _, hp, _, e⟩ | ⟨e, _⟩
          · obtain ⟨L, h1, h2, h3⟩ := (hm.row hb2 hp).cells hl
            obtain ⟨ns, e1, e2⟩ := bytesOf_spec hbs
            have hL : L = ns.map fun (n : Nat) => Value.int .u8 (n : Int) := by rw [e1] at h1; exact h1.of_leaves (leaves_ints ns _)
            have hlc := run_loadCells_list (P := P) w ⟨p.blk, p.base + o, none⟩ L h3
            rw [e]
            refine ⟨?_, rfl⟩
            have := run_bytesToString (P := P) w ⟨p.blk, p.base + o, none⟩ len (capOf p cap) (ns.map fun (n : Nat) => (n : Int)) (by
              rw [← h2, hlc, hL]; simp [Function.comp_def])
            rw [this, push_bytes, e2]
            simp [Function.comp_def]
          · cases e
        · cases h
      · cases h
  · cases h
theorem findL_spec {p : IntKind} {a : Int} : ∀ {es : List (Value × Value × Nat)} {i : Nat} {r : Option (Nat × Value)}, findL p a es i = some r →
    ∀ (ES : List MapEntry) (kd : TypeDesc), (∃ q, kd = .int q) → (∀ (k : Nat) (e : Value × Value × Nat) (E : MapEntry), es[k]? = some e → ES[k]? = some E → E.key = e.1) → es.length = ES.length →
    match r with
    | none => Instr.findNow kd (.int p a) ES i = some none
    | some (j, v) => i ≤ j ∧ ∃ e E, es[j - i]? = some e ∧ ES[j - i]? = some E ∧ v = e.2.1 ∧ e.1 = .int p a ∧ Instr.findNow kd (.int p a) ES i = some (some (j, E.val))
  | [], i, r, h, ES, kd, hq, hk, hl => by
    simp only [findL, Option.some.injEq] at h; subst h
    cases ES with
    | nil => rfl
    | cons E ES => simp at hl
  | e :: es, i, r, h, ES, kd, hq, hk, hl => by
    cases ES with
    | nil => simp at hl
    | cons E ES =>
      have hE := hk 0 e E rfl rfl
      obtain ⟨q0, rfl⟩ := hq
      unfold findL at h
      split at h
      · rename_i q b he
        cases hpq : keq p q with
        | false => rw [hpq] at h; cases h
        | true =>
          rw [hpq] at h
          obtain rfl := (keq_iff p q).1 hpq
          simp only [cond_true, eqI_eq] at h
          have hs : Instr.sameNow (.int q0) (.int p a) E.key = some (a == b) := by rw [hE, he]; simp [Instr.sameNow]
          by_cases hab : a = b
          · subst hab
            simp only [decide_true, cond_true, Option.some.injEq] at h; subst h
            refine ⟨Nat.le_refl _, e, E, by simp, by simp, rfl, he, ?_⟩
            simp only [Instr.findNow, hs, beq_self_eq_true]
          · simp only [hab, decide_false, cond_false] at h
            have ih := findL_spec h ES (.int q0) ⟨q0, rfl⟩ (fun k e' E' h1 h2 => hk (k + 1) e' E' (by simpa using h1) (by simpa using h2)) (by simpa using hl)
            have hf : Instr.findNow (.int q0) (.int p a) (E :: ES) i = Instr.findNow (.int q0) (.int p a) ES (i + 1) := by
              simp only [Instr.findNow, hs, show (a == b) = false from by simpa using hab]
            cases r with
            | none => rw [hf]; exact ih
            | some jv =>
              obtain ⟨j, v⟩ := jv
              obtain ⟨h1, e', E', h2, h3, h4⟩ := ih
              refine ⟨by omega, e', E', ?_, ?_, by rw [hf]; exact h4⟩
              · rw [show j - i = (j - (i + 1)) + 1 from by omega]; simpa using h2
              · rw [show j - i = (j - (i + 1)) + 1 from by omega]; simpa using h3
      · cases h
theorem checkKey_int {em : Bool} {kt : Nat} {k : IntKind} (hu : P.underlying kt = some (.int k)) (q : IntKind) (n : Int) (d : Nat) (w : World) : (Instr.checkKey em (d + 1) kt (.int q n)).run P w = .ok () w := by
  simp only [Instr.checkKey]
  rw [map_ok _ (run_underlying hu w)]; rfl
/-! going over a map -/
def ER (μ : Mp) (e : Value × Value × Nat) (E : MapEntry) : Prop := E.key = e.1 ∧ leaf e.1 = true ∧ VR μ e.2.1 E.val ∧ E.born = e.2.2
inductive ERs (μ : Mp) : List (Value × Value × Nat) → List MapEntry → Prop where
  | nil : ERs μ [] []
  | cons {e : Value × Value × Nat} {E : MapEntry} {es : List (Value × Value × Nat)} {L : List MapEntry} (h : ER μ e E) (hs : ERs μ es L) : ERs μ (e :: es) (E :: L)
theorem ERs.of : ∀ {es : List (Value × Value × Nat)} {L : List MapEntry}, L.length = es.length → (∀ (k : Nat) (e : Value × Value × Nat) (E : MapEntry), es[k]? = some e → L[k]? = some E → ER μ e E) → ERs μ es L
  | [], [], _, _ => .nil
  | [], E :: L, h, _ => by simp at h
  | e :: es, [], h, _ => by simp at h
  | e :: es, E :: L, h, hk => .cons (hk 0 e E rfl rfl) (ERs.of (by simpa using h) fun k a b ha hb => hk (k + 1) a b (by simpa using ha) (by simpa using hb))
theorem isIn_eq (n : Nat) : ∀ l : List Nat, isIn n l = l.contains n
  | [] => rfl
  | x :: xs => by
    simp only [isIn, List.contains_cons, isIn_eq n xs]
    congr 1
    by_cases h : x = n
    · subst h; simp
    · have : Nat.beq x n = false := by cases hb : Nat.beq x n with | false => rfl | true => exact absurd (Nat.eq_of_beq_eq_true hb) h
      rw [this]; simp [Ne.symm h]
theorem ERs.left {seen : List Nat} {es : List (Value × Value × Nat)} {L : List MapEntry} (h : ERs μ es L) : ERs μ (leftOf seen es) (L.filter fun E => !(seen.contains E.born)) := by
  induction h with
  | nil => exact .nil
  | @cons e E es L h hs ih =>
    simp only [leftOf, isIn_eq, List.filter_cons]
    rw [← h.2.2.2]
    cases hc : seen.contains E.born with
    | true => simpa using ih
    | false => simpa using ERs.cons h ih
theorem ERs.allNew {last : Nat} {es : List (Value × Value × Nat)} {L : List MapEntry} (h : ERs μ es L) : Ev.allNew last es = L.all fun E => decide (E.born ≥ last) := by
  induction h with
  | nil => rfl
  | @cons e E es L h hs ih =>
    simp only [Ev.allNew, List.all_cons, ih]
    rw [← h.2.2.2]
    congr 1
    by_cases hl : last ≤ E.born
    · rw [Nat.ble_eq_true_of_le hl]; simp [hl]
    · have : Nat.ble last E.born = false := by cases hb : Nat.ble last E.born with | false => rfl | true => exact absurd (Nat.le_of_ble_eq_true hb) hl
      rw [this]; simp [hl]
theorem ERs.born {n : Nat} {k u : Value} {es : List (Value × Value × Nat)} {L : List MapEntry} (h : ERs μ es L) (hb : bornAt n es = some (k, u)) : ∃ E, L.find? (fun E => E.born == n) = some E ∧ E.key = k ∧ leaf k = true ∧ VR μ u E.val := by
  induction h with
  | nil => cases hb
  | @cons e E es L h hs ih =>
    simp only [bornAt] at hb
    rw [List.find?_cons]
    by_cases he : e.2.2 = n
    · have : Nat.beq e.2.2 n = true := by rw [he]; simp
      rw [this] at hb
      simp only [cond_true, Option.some.injEq, Prod.mk.injEq] at hb
      obtain ⟨rfl, rfl⟩ := hb
      have : (E.born == n) = true := by rw [h.2.2.2]; simp [he]
      rw [this]
      exact ⟨E, rfl, h.1, h.2.1, h.2.2.1⟩
    · have : Nat.beq e.2.2 n = false := by cases hbb : Nat.beq e.2.2 n with | false => rfl | true => exact absurd (Nat.eq_of_beq_eq_true hbb) he
      rw [this] at hb
      have : (E.born == n) = false := by rw [h.2.2.2]; simp [he]
      rw [this]
      exact ih hb
theorem ERs.length {es : List (Value × Value × Nat)} {L : List MapEntry} (h : ERs μ es L) : es.length = L.length := by
  induction h with
  | nil => rfl
  | cons _ _ ih => simp [ih]
theorem lastOf_eq : ∀ l : List Nat, lastOf l = l.getLast?
  | [] => rfl
  | [x] => rfl
  | x :: y :: xs => by
    have := lastOf_eq (y :: xs)
    simp only [lastOf] at this ⊢
    rw [this, List.getLast?_cons_cons]
    cases h : (y :: xs).getLast? with
    | none => simp at h
    | some z => rfl
/-- What is known of an iterator. -/
theorem HR.iter {b : Nat} {X : Value} {mp : Option Nat} {since last : Nat} {seen : List Nat} (hm : HR P μ m w) (hb : m.h.get b = some (.it mp since seen last)) (hX : VR μ (.pointer (some ⟨b, 0, none⟩)) X) :
    ∃ p mm, μ b = some p ∧ X = .pointer (some ⟨p.blk, 0, none⟩) ∧ w.heap[p.blk]? = some (.mapIter mm since ⟨seen⟩ last) ∧ ((mp = none ∧ mm = none) ∨ ∃ i q, mp = some i ∧ μ i = some q ∧ mm = some q.blk) := by
  obtain ⟨p, _, hp, e⟩ := hX.ptr_inv
  obtain ⟨q, hq, h0, mm, h1, h2⟩ := hm.obj _ _ hb rfl
  have hp : μ b = some p := hp
  rw [hp] at hq; cases hq
  exact ⟨p, mm, hp, by rw [e, h0]; rfl, h1, h2⟩
theorem HR.entries {r : Nat} {q : Pl} {es : List (Value × Value × Nat)} {cl : Nat} (hm : HR P μ m w) (hr : m.h.get r = some (.mp es cl)) (hq : μ r = some q) : ∃ ES : Array MapEntry, w.heap[q.blk]? = some (.map ES cl) ∧ ERs μ es ES.toList := by
  obtain ⟨ES, hb, hsz, hes⟩ := hm.mp hr hq
  exact ⟨ES, hb, ERs.of (by simpa using hsz) fun k e E h1 h2 => hes k e E h1 (by simpa using h2)⟩
theorem entry_sound {x X v : Value} (h : entryV x m.h = some v) (hm : HR P μ m w) (hX : VR μ x X) : ∃ V, (Instr.entry X).run P w = .ok V w ∧ VR μ v V := by
  unfold entryV at h
  split at h
  · rename_i b
    split at h
    · rename_i r since seen last hb
      split at h
      · rename_i es cl hr
        cases hcl : Nat.beq cl last with
        | false => rw [hcl] at h; cases h
        | true =>
          rw [hcl] at h
          simp only [cond_true] at h
          obtain rfl := Nat.eq_of_beq_eq_true hcl
          split at h
          · rename_i n hn
            split at h
            · rename_i k u hbn
              simp only [Option.some.injEq] at h
              subst h
              obtain ⟨p, mm, hp, rfl, h1, h2⟩ := hm.iter hb hX
              rcases h2 with ⟨h2, _⟩ | ⟨i, q, h2, hq, rfl⟩
              · cases h2
              · cases h2
                obtain ⟨ES, g1, g2⟩ := hm.entries hr hq
                obtain ⟨E, e1, e2, e3, e4⟩ := g2.born hbn
                refine ⟨.tuple #[E.key, E.val], ?_, ?_⟩
                · have k1 : (getObj p.blk).run P w = .ok (.mapIter (some q.blk) since ⟨seen⟩ cl) w := by simp [getObj, Sem.run, h1]
                  have k2 : (getObj q.blk).run P w = .ok (.map ES cl) w := by simp [getObj, Sem.run, g1]
                  refine (map_ok _ k1).trans ?_
                  have k3 : (⟨seen⟩ : Array Nat).back? = some n := by rw [lastOf_eq] at hn; simpa using hn
                  simp only [k3]
                  refine (map_ok _ k2).trans ?_
                  have k4 : ES.find? (fun x => x.born == n) = some E := by rw [← Array.find?_toList]; exact e1
                  simp [k4]
                · rw [e2]
                  exact .tup (a := [k, u]) (b := [k, E.val]) rfl (VRs.cons (.leaf e3) (VRs.cons e4 VRs.nil)).2
            · cases h
          · cases h
      · cases h
    · cases h
  · cases h
theorem lop_sound {o : Oper} {g : Lf} (hl : lop P o = .mk g) {ρ A : Operand → Value} {v : Value} (h : g ρ m.h = some v) (hr : OpR μ ρ A o) (hm : HR P μ m w) :
    ∃ V, (execOp A o).run P w = .ok (.value V) w ∧ VR μ v V := by
  unfold OpR at hr
  unfold lop at hl
  unfold execOp
  split at hl
  · rename_i t x ho
    split at hl
    rename_i g' hg
    cases hl
    dsimp only at h
    simp only [ho]
    have hX := hr x (by simp [ho, Op.operands])
    unfold ptrThen at h
    split at h
    · rename_i a ha
      rw [ha] at hX
      obtain ⟨p, hs, hp, e⟩ := hX.ptr_inv
      obtain ⟨_, V, hV, hv⟩ := load_sound hg h hm hp
      exact ⟨V, vrun (by rw [e]; exact hV), hv⟩
    · cases h
  · rename_i s d x ho
    split at hl
    · rename_i el hs hd
      split at hl
      · rename_i hel
        cases hl
        dsimp only at h
        simp only [ho]
        have hX := hr x (by simp [ho, Op.operands])
        obtain ⟨h1, h2⟩ := string_sound h hm hX
        refine ⟨v, vrun ?_, .leaf h2⟩
        obtain ⟨A', l', c', e⟩ : ∃ A' l' c', A x = .slice A' l' c' := by
          unfold stringOf at h
          split at h
          · rename_i hx; rw [hx] at hX; exact ⟨_, _, _, hX.of_flat rfl⟩
          · rename_i hx; rw [hx] at hX; obtain ⟨B, C, e⟩ := hX.slsome; exact ⟨_, _, _, e⟩
          · cases h
        unfold convert
        rw [map_ok _ (run_underlying hs w), map_ok _ (run_underlying hd w)]
        rw [e] at h1 ⊢
        have : (do match ← underlying el with
                     | .int .u8 => Conv.bytesToString (.slice A' l' c')
                     | .int .i32 => Conv.runesToString (.slice A' l' c')
                     | _ => stuck "Convert: a slice of what to string?" : Sem Value).run P w = .ok v w := by
          rw [map_ok _ (run_underlying hel w)]; exact h1
        cases A' <;> exact this
      · cases hl; cases h
    · rename_i t hs hd
      split at hl
      · rename_i hsz
        cases hl
        dsimp only at h
        simp only [ho]
        have hX := hr x (by simp [ho, Op.operands])
        unfold ptrThen at h
        split at h
        · rename_i a ha
          rw [ha] at hX
          obtain ⟨b, o, c, len, el, pr, fz, rfl, hb, h⟩ := rowThen_some h
          split at h
          · rename_i u hu
            simp only [Option.some.injEq] at h
            obtain ⟨p, _, hp, e⟩ := hX.ptr_inv
            obtain ⟨V, hV, _⟩ := (hm.row hb hp).cell hu
            refine ⟨_, vrun (by rw [e]; exact run_convert_to_unsafe hs hd hsz hV), ?_⟩
            rw [← h, ha]; exact .ptr hp
          · cases h
        · cases h
      · cases hl; cases h
    · cases hl; cases h
  · rename_i t x ix ok ho
    split at hl
    · rename_i kt et hu
      split at hl
      · rename_i k z hk hz
        cases hl
        dsimp only at h
        simp only [ho]
        have hX := hr x (by simp [ho, Op.operands])
        have hI := hr ix (by simp [ho, Op.operands])
        obtain ⟨i, es, cl, hx, hi, h⟩ := mapThen_some h
        rw [hx] at hX
        obtain ⟨p, hp, e⟩ := hX.map_inv
        obtain ⟨ES, hb, hsz, hes⟩ := hm.mp hi hp
        split at h
        · rename_i q n hn
          rw [hn] at hI
          have hkey : ∀ (k : Nat) (e : Value × Value × Nat) (E : MapEntry), es[k]? = some e → ES.toList[k]? = some E → E.key = e.1 := fun k e E h1 h2 => (hes k e E h1 (by simpa using h2)).1
          have hgo : (getObj p.blk).run P w = .ok (.map ES cl) w := by simp [getObj, Sem.run, hb]
          have base : ∀ (r : Option (Nat × Value)) (R : Value × Bool), Instr.findNow (.int k) (.int q n) ES.toList 0 = some r → (match r with | some (_, v) => R = (v, true) | none => R = (z, false)) →
              (Instr.lookup t (A x) (A ix) ok).run P w = .ok (if ok then .tuple #[R.1, .bool R.2] else R.1) w := by
            intro r R hf hR
            rw [e, hI.int_inv]
            unfold Instr.lookup
            rw [map_ok _ (run_underlying hu w)]
            dsimp only
            rw [map_ok _ hgo]
            dsimp only
            rw [map_ok (a := ES) _ rfl, map_ok _ (checkKey_int hk q n 9999 w)]
            have hfk : (Instr.findKey kt (.int q n) ES.toList).run P w = .ok r w := by
              unfold Instr.findKey
              rw [map_ok _ (run_underlying hk w)]
              simp only [hf]; rfl
            cases r with
            | none =>
              subst hR
              rw [map_ok _ hfk]
              dsimp only
              rw [map_ok _ (zero_run hz w)]
              rfl
            | some jv =>
              obtain ⟨j, u⟩ := jv
              subst hR
              rw [map_ok _ hfk]
              rfl
          split at h
          · rename_i j u hf
            simp only [Option.some.injEq] at h; subst h
            obtain ⟨_, e', E', h2, h3, h4, _, h5⟩ := findL_spec hf ES.toList (.int k) ⟨k, rfl⟩ hkey (by simpa using hsz.symm)
            have hv := (hes _ e' E' (by simpa using h2) (by simpa using h3)).2.2.1
            refine ⟨_, vrun (base _ (E'.val, true) h5 rfl), ?_⟩
            rw [h4]
            cases ok with
            | false => exact hv
            | true => exact .tup (a := [e'.2.1, .bool true]) (b := [E'.val, .bool true]) rfl (VRs.cons hv (VRs.cons (.leaf rfl) VRs.nil)).2
          · rename_i hf
            simp only [Option.some.injEq] at h; subst h
            have h5 := findL_spec hf ES.toList (.int k) ⟨k, rfl⟩ hkey (by simpa using hsz.symm)
            refine ⟨_, vrun (base none (z, false) h5 rfl), ?_⟩
            cases ok with
            | false => exact .flat (zero_flat hz)
            | true => exact .tup (a := [z, .bool false]) (b := [z, .bool false]) rfl (VRs.cons (.flat (zero_flat hz)) (VRs.cons (.leaf rfl) VRs.nil)).2
          · cases h
        · cases h
      · cases hl; cases h
    · cases hl; cases h
  · rename_i x ho
    cases hl
    dsimp only at h
    simp only [ho]
    obtain ⟨V, h1, h2⟩ := entry_sound h hm (hr x (by simp [ho, Op.operands]))
    exact ⟨V, vrun h1, h2⟩
  · rename_i c ho
    split at hl
    · rename_i x t ts hc hargs ht
      split at hl
      · rename_i kt et hu
        cases hl
        dsimp only at h
        simp only [ho]
        have hX := hr x (by simp [ho, Op.operands, Call.operands, hc]; rw [show c.args = ⟨[x]⟩ from by apply Array.ext'; simpa using hargs]; simp)
        obtain ⟨i, es, cl, hx, hi, h⟩ := mapThen_some h
        simp only [Option.some.injEq] at h; subst h
        rw [hx] at hX
        obtain ⟨p, hp, e⟩ := hX.map_inv
        obtain ⟨ES, hb, hsz, hes⟩ := hm.mp hi hp
        have hgo : (getObj p.blk).run P w = .ok (.map ES cl) w := by simp [getObj, Sem.run, hb]
        have ea : c.args = ⟨[x]⟩ := by apply Array.ext'; simpa using hargs
        have et : c.argTypes[0]? = some t := by rw [← Array.getElem?_toList, ht]; rfl
        refine ⟨.int .i64 (es.length : Int), ?_, .leaf rfl⟩
        simp only [resolve, hc, ea]
        simp [invoke, builtin, Builtin.len_, et, e, run_underlying hu, Result.andThen, goInt, hgo, hsz]
      · cases hl; cases h
    · cases hl; cases h
  · cases hl; cases h
end
end Go.Proofs.YthelmobipjekjaaGreat.Ev
