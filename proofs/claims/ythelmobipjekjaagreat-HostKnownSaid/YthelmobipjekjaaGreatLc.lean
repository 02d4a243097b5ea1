/- What the runner's operations give, the model's give. -/
import Derived.Test.YthelmobipjekjaaGreatLb
import Derived.IntWalk
set_option linter.unusedVariables false
set_option linter.unusedSimpArgs false
namespace Go.Proofs.YthelmobipjekjaaGreat.Ev
open Go
/-! ### numbers -/
theorem pev_run {P : Program} {α : Type} (s : Sem α) : ∀ {a : α}, pev P s = some a → ∀ w, s.run P w = .ok a w := by
  induction s with
  | pure b => intro a h w; simp only [pev, Option.some.injEq] at h; subst h; rfl
  | program k ih => intro a h w; exact ih P h w
  | mark m k ih => intro a h w; exact ih h w
  | _ => intro a h; simp [pev] at h
theorem keq_iff (a b : IntKind) : keq a b = true ↔ a = b := by cases a <;> cases b <;> simp [keq]
theorem eqI_eq (a b : Int) : eqI a b = decide (a = b) := by
  rw [Bool.eq_iff_iff]
  cases a with
  | ofNat m => cases b with
    | ofNat n => simp [eqI]; omega
    | negSucc n => simp [eqI]
  | negSucc m => cases b with
    | ofNat n => simp [eqI]
    | negSucc n => simp [eqI]; omega
theorem ltI_eq (a b : Int) : ltI a b = decide (a < b) := by
  rw [Bool.eq_iff_iff]
  cases a with
  | ofNat m => cases b with
    | ofNat n => simp [ltI, Nat.blt]; omega
    | negSucc n => simp only [ltI, Int.negSucc_eq, Int.ofNat_eq_natCast, decide_eq_true_eq]; exact ⟨fun h => (by cases h), fun h => (by exfalso; omega)⟩
  | negSucc m => cases b with
    | ofNat n => exact ⟨fun _ => decide_eq_true (by rw [Int.negSucc_eq, Int.ofNat_eq_natCast]; omega), fun _ => rfl⟩
    | negSucc n => simp only [ltI, Int.negSucc_eq, Nat.blt, decide_eq_true_eq, Nat.ble_eq]; omega
theorem kmax_lt (k : IntKind) : kmax k < 2 ^ k.bits := by cases k <;> decide
theorem wrap_small (k : IntKind) (m : Nat) (h : m ≤ kmax k) : k.wrap (m : Int) = m := by
  cases k <;> simp only [kmax] at h
  · exact IntWalk.i8_in _ (by omega)
  · exact IntWalk.i16_in _ (by omega)
  · exact IntWalk.i32_in _ (by omega)
  · exact IntWalk.i64_in _ (by omega)
  · exact IntWalk.u8_in _ (by omega)
  · exact IntWalk.u16_in _ (by omega)
  · exact IntWalk.u32_in _ (by omega)
  · exact IntWalk.u64_in _ (by omega)
theorem wrap_neg (k : IntKind) (m : Nat) (hs : ksig k = true) (h : m ≤ kmax k) : k.wrap (Int.negSucc m) = Int.negSucc m := by
  have e := Int.negSucc_eq m
  cases k <;> simp only [kmax] at h
  · exact IntWalk.i8_in _ (by omega)
  · exact IntWalk.i16_in _ (by omega)
  · exact IntWalk.i32_in _ (by omega)
  · exact IntWalk.i64_in _ (by omega)
  all_goals (cases hs; done)
theorem wrapF_eq (k : IntKind) (n : Int) : wrapF k n = k.wrap n := by
  cases n with
  | ofNat m =>
    simp only [wrapF]
    cases h : Nat.ble m (kmax k) with
    | false => rfl
    | true => exact (wrap_small k m (Nat.le_of_ble_eq_true h)).symm
  | negSucc m =>
    simp only [wrapF]
    cases hs : ksig k with
    | false => rfl
    | true =>
      cases h : Nat.ble m (kmax k) with
      | false => rfl
      | true => exact (wrap_neg k m hs (Nat.le_of_ble_eq_true h)).symm
theorem kmax_two (k : IntKind) : ∃ j, kmax k = 2 ^ j - 1 ∧ j ≤ k.bits := by
  cases k <;> first | exact ⟨7, by decide, by decide⟩ | exact ⟨15, by decide, by decide⟩ | exact ⟨31, by decide, by decide⟩ | exact ⟨63, by decide, by decide⟩ | exact ⟨8, by decide, by decide⟩ | exact ⟨16, by decide, by decide⟩ | exact ⟨32, by decide, by decide⟩ | exact ⟨64, by decide, by decide⟩
theorem ofInt_toNat (k : IntKind) (m : Nat) (h : m ≤ kmax k) : (BitVec.ofInt k.bits (m : Int)).toNat = m := by
  have := kmax_lt k
  rw [BitVec.toNat_ofInt, Int.emod_eq_of_lt (by omega) (by omega)]; simp
theorem bits_slow {P : Program} {op : BinOp} {k : IntKind} {a b : Int} {v : Value} (hg : op = .and ∨ op = .or ∨ op = .xor) (h : pev P (Op.intBits op k a b) = some v) (w : World) :
    (Op.intBits op k a b).run P w = .ok v w ∧ ∃ n, v = .int k n := by
  refine ⟨pev_run _ h w, ?_⟩
  rcases hg with rfl | rfl | rfl <;> exact ⟨_, (Option.some.inj (show some _ = some _ from h)).symm⟩
theorem bits_run {P : Program} {g : Nat → Nat → Nat} {op : BinOp} {k : IntKind} {a b : Int} {v : Value}
    (hg : (op = .and ∧ g = Nat.land) ∨ (op = .or ∧ g = Nat.lor) ∨ (op = .xor ∧ g = Nat.xor)) (h : bits g op P k a b = some v) (w : World) :
    (Op.intBits op k a b).run P w = .ok v w ∧ ∃ n, v = .int k n := by
  have slow := fun {a b : Int} {v : Value} (h : pev P (Op.intBits op k a b) = some v) => bits_slow (P := P) (hg.imp And.left (Or.imp And.left And.left)) h w
  cases a with
  | negSucc m => exact slow h
  | ofNat m =>
    cases b with
    | negSucc n => exact slow h
    | ofNat n =>
      simp only [bits] at h
      cases hc : (Nat.ble m (kmax k) && Nat.ble n (kmax k)) with
      | false => rw [hc] at h; exact slow h
      | true =>
        rw [hc] at h
        simp only [cond_true, fN_eq, Option.some.injEq] at h
        subst h
        simp only [Bool.and_eq_true] at hc
        have hm := Nat.le_of_ble_eq_true hc.1
        have hn := Nat.le_of_ble_eq_true hc.2
        obtain ⟨j, hj, hj2⟩ := kmax_two k
        have hp : 0 < 2 ^ j := Nat.two_pow_pos j
        have em := ofInt_toNat k m hm
        have en := ofInt_toNat k n hn
        refine ⟨?_, _, rfl⟩
        rcases hg with ⟨rfl, rfl⟩ | ⟨rfl, rfl⟩ | ⟨rfl, rfl⟩
        · have hr : m &&& n ≤ kmax k := by have := Nat.and_lt_two_pow m (show n < 2 ^ j by omega); omega
          show Result.ok _ w = _
          simp only [Int.ofNat_eq_natCast, BitVec.toNat_and, em, en]
          rw [wrap_small k _ hr]; rfl
        · have hr : m ||| n ≤ kmax k := by have := Nat.or_lt_two_pow (show m < 2 ^ j by omega) (show n < 2 ^ j by omega); omega
          show Result.ok _ w = _
          simp only [Int.ofNat_eq_natCast, BitVec.toNat_or, em, en]
          rw [wrap_small k _ hr]; rfl
        · have hr : m ^^^ n ≤ kmax k := by have := Nat.xor_lt_two_pow (show m < 2 ^ j by omega) (show n < 2 ^ j by omega); omega
          show Result.ok _ w = _
          simp only [Int.ofNat_eq_natCast, BitVec.toNat_xor, em, en]
          rw [wrap_small k _ hr]; rfl
theorem decide_not_lt (a b : Int) : (!decide (a < b)) = decide (b ≤ a) := by
  by_cases h : a < b <;> simp [h] <;> omega
/-- An operator on two numbers. -/
theorem bopI_run {P : Program} {op : BinOp} {g : IntKind → Int → Int → Option Value} (hg : bopI P op = .mk g) {k q : IntKind} {a b : Int} {v : Value} (h : g k a b = some v) (hk : (keq k q || isShift op) = true) (t : TypeId) (w : World) :
    (binOp op t (.int k a) (.int q b)).run P w = .ok v w ∧ leaf v = true := by
  cases op <;> simp only [bopI, BX.mk.injEq] at hg <;> subst hg <;> (try simp only [isShift, Bool.or_false, keq_iff] at hk) <;> (try subst hk)
  case add => simp only [fI_eq, wrapF_eq, Option.some.injEq] at h; subst h; exact ⟨by simp [binOp, Op.intArith], rfl⟩
  case sub => simp only [fI_eq, wrapF_eq, Option.some.injEq] at h; subst h; exact ⟨by simp [binOp, Op.intArith]; rfl, rfl⟩
  case mul => simp only [fI_eq, wrapF_eq, Option.some.injEq] at h; subst h; exact ⟨by simp [binOp, Op.intArith], rfl⟩
  case quo =>
    dsimp only at h
    rw [eqI_eq] at h
    by_cases hb : b = 0
    · simp [hb] at h
    · simp only [hb, decide_false, cond_false, fI_eq, wrapF_eq, Option.some.injEq] at h; subst h
      exact ⟨by simp [binOp, Op.intDiv, hb], rfl⟩
  case rem =>
    dsimp only at h
    rw [eqI_eq] at h
    by_cases hb : b = 0
    · simp [hb] at h
    · simp only [hb, decide_false, cond_false, fI_eq, Option.some.injEq] at h; subst h
      exact ⟨by simp [binOp, Op.intDiv, hb], rfl⟩
  case and => obtain ⟨h1, n, rfl⟩ := bits_run (.inl ⟨rfl, rfl⟩) h w; exact ⟨by simpa [binOp] using h1, rfl⟩
  case or => obtain ⟨h1, n, rfl⟩ := bits_run (.inr (.inl ⟨rfl, rfl⟩)) h w; exact ⟨by simpa [binOp] using h1, rfl⟩
  case xor => obtain ⟨h1, n, rfl⟩ := bits_run (.inr (.inr ⟨rfl, rfl⟩)) h w; exact ⟨by simpa [binOp] using h1, rfl⟩
  case andNot =>
    have h1 := pev_run _ h w
    refine ⟨by simpa [binOp] using h1, ?_⟩
    have h2 := Option.some.inj h
    subst h2; rfl
  case eql => simp only [fB_eq, eqI_eq, Option.some.injEq] at h; subst h; exact ⟨by simp only [binOp, Op.intCmp, if_neg (show ¬ (k ≠ k) from fun h => h rfl), Sem.run_pure]; congr 2, rfl⟩
  case neq => simp only [fB_eq, eqI_eq, Option.some.injEq] at h; subst h; exact ⟨by simp only [binOp, Op.intCmp, bne, if_neg (show ¬ (k ≠ k) from fun h => h rfl), Sem.run_pure]; congr 2, rfl⟩
  case lss => simp only [fB_eq, ltI_eq, Option.some.injEq] at h; subst h; exact ⟨by simp [binOp, Op.intCmp], rfl⟩
  case leq => simp only [fB_eq, ltI_eq, decide_not_lt, Option.some.injEq] at h; subst h; exact ⟨by simp [binOp, Op.intCmp], rfl⟩
  case gtr => simp only [fB_eq, ltI_eq, Option.some.injEq] at h; subst h; exact ⟨by simp [binOp, Op.intCmp], rfl⟩
  case geq => simp only [fB_eq, ltI_eq, decide_not_lt, Option.some.injEq] at h; subst h; exact ⟨by simp [binOp, Op.intCmp], rfl⟩
  case shl =>
    have slow : ∀ {a b : Int} {v : Value}, pev P (Op.shift .shl k a k b) = some v → (binOp .shl t (.int k a) (.int q b)).run P w = .ok v w ∧ leaf v = true := fun {a b v} h => by
      refine ⟨by have := pev_run _ h w; simpa [binOp, Op.shift] using this, ?_⟩
      unfold Op.shift at h
      by_cases hb : b < 0
      · rw [if_pos hb] at h; cases h
      · rw [if_neg hb] at h; have h2 := Option.some.inj h; subst h2; rfl
    cases a with
    | negSucc m => exact slow h
    | ofNat m =>
      cases b with
      | negSucc n => exact slow h
      | ofNat n =>
        simp only [fI_eq, wrapF_eq, Option.some.injEq] at h; subst h
        refine ⟨?_, rfl⟩
        have e : Nat.shiftLeft m (Nat.min n k.bits) = m * 2 ^ min n k.bits := Nat.shiftLeft_eq m _
        have hn : ¬ ((n : Int) < 0) := by omega
        rw [e]
        simp [binOp, Op.shift, hn]
  case shr =>
    have slow : ∀ {a b : Int} {v : Value}, pev P (Op.shift .shr k a k b) = some v → (binOp .shr t (.int k a) (.int q b)).run P w = .ok v w ∧ leaf v = true := fun {a b v} h => by
      refine ⟨by have := pev_run _ h w; simpa [binOp, Op.shift] using this, ?_⟩
      unfold Op.shift at h
      by_cases hb : b < 0
      · rw [if_pos hb] at h; cases h
      · rw [if_neg hb] at h; have h2 := Option.some.inj h; subst h2; rfl
    cases a with
    | negSucc m => exact slow h
    | ofNat m =>
      cases b with
      | negSucc n => exact slow h
      | ofNat n =>
        simp only [fN_eq, Option.some.injEq] at h; subst h
        refine ⟨?_, rfl⟩
        have e : Nat.shiftRight m (Nat.min n k.bits) = m / 2 ^ min n k.bits := Nat.shiftRight_eq_div_pow m _
        have e2 : (m : Int).fdiv (2 ^ min n k.bits) = ((m / 2 ^ min n k.bits : Nat) : Int) := by
          rw [Int.fdiv_eq_ediv_of_nonneg _ (by exact Int.le_of_lt (Int.pow_pos (by decide)))]; simp
        have hn : ¬ ((n : Int) < 0) := by omega
        rw [e]
        simp only [binOp, Op.shift, Int.ofNat_eq_natCast, if_neg hn, Int.toNat_natCast, e2, Sem.run_pure]
/-! ### the tables -/
section
variable {P : Program} {μ : Mp}
theorem add_at (b o i : Nat) : (⟨b, o, none⟩ : Addr).add i = ⟨b, o + i, none⟩ := by unfold Addr.add; split <;> simp_all
theorem run_typeInfo {t : Nat} {i : TypeInfo} (h : P.info? t = some i) (w : World) : (typeInfo t).run P w = .ok i w := by
  simp [typeInfo, h]
theorem size_info {t k : Nat} (h : size? P t = some k) : ∃ i, P.info? t = some i ∧ i.size = k := by
  unfold size? at h
  split at h
  · rename_i i hi; exact ⟨i, hi, by simpa using h⟩
  · cases h
theorem size_run {t k : Nat} (h : size? P t = some k) (w : World) : (sizeOf t).run P w = .ok k w := by
  obtain ⟨i, hi, hk⟩ := size_info h
  simp [sizeOf, run_typeInfo hi w, hk]
theorem agg_run {t : Nat} {b : Bool} (h : agg? P t = some b) (w : World) : (isAgg t).run P w = .ok b w := by
  unfold agg? at h
  unfold isAgg
  simp only [Sem.run_bind]
  split at h
  · rename_i fs hu; cases h; rw [run_underlying hu]; rfl
  · rename_i n e hu; cases h; rw [run_underlying hu]; rfl
  · rename_i d h1 h2 hu
    cases h; rw [run_underlying hu]
    show Sem.run P (match d with | .struct _ => pure true | .array _ _ => pure true | _ => pure false) w = _
    cases d <;> first | rfl | (exact absurd rfl (h1 _)) | (exact absurd rfl (h2 _ _))
  · cases h
theorem zero_info {t : Nat} {z : Value} (h : zero? P t = some z) : ∃ i, P.info? t = some i ∧ i.zero = some z ∧ flat z = true := by
  unfold zero? at h
  split at h
  · rename_i i hi
    split at h
    · rename_i z' hz
      cases hf : flat z' with
      | false => rw [hf] at h; cases h
      | true => rw [hf] at h; simp only [cond_true, Option.some.injEq] at h; subst h; exact ⟨i, hi, hz, hf⟩
    · cases h
  · cases h
theorem zero_run {t : Nat} {z : Value} (h : zero? P t = some z) (w : World) : (zeroValue t).run P w = .ok z w := by
  obtain ⟨i, hi, hz, _⟩ := zero_info h
  simp [zeroValue, run_typeInfo hi w, hz]
theorem zero_flat {t : Nat} {z : Value} (h : zero? P t = some z) : flat z = true := by obtain ⟨_, _, _, hf⟩ := zero_info h; exact hf

/-- The operands stand for one another. -/
def OpR (μ : Mp) (ρ A : Operand → Value) (o : Oper) : Prop := ∀ x ∈ o.op.operands, VR μ (ρ x) (A x)
theorem plain_sound {o : Oper} {ρ A : Operand → Value} {v : Value} (hs : ∀ cs b, o.op ≠ .select cs b) (h : plainOp P o ρ = some v) (hr : OpR μ ρ A o) (w : World) :
    (execOp A o).run P w = .ok (.value v) w ∧ VR μ v v := by
  unfold plainOp at h
  cases hc : o.op.operands.toList.all fun x => flat (ρ x) with
  | false => rw [hc] at h; cases h
  | true =>
    rw [hc] at h
    simp only [cond_true] at h
    rw [List.all_eq_true] at hc
    have he : execOp A o = execOp ρ o := execOp_congr o hs fun x hx => (hr x hx).of_flat (hc x (by simpa using hx))
    split at h
    · rename_i u hu
      cases hf : flat u with
      | false => rw [hf] at h; cases h
      | true => rw [hf] at h; simp only [cond_true, Option.some.injEq] at h; subst h; exact ⟨by rw [he]; exact pev_run _ hu w, .flat hf⟩
    · cases h
theorem partK_sound {t off : Nat} {g : List Value → Option Value} (hg : partK P t off = .mk g) {a b : List Value} {v : Value} (h : g a = some v) (hr : VRs μ a b) (w : World) :
    ∃ V, (part t ⟨b⟩ off).run P w = .ok V w ∧ VR μ v V := by
  unfold partK at hg
  unfold part
  simp only [Sem.run_bind]
  split at hg
  · rename_i k ha hk
    cases hg
    simp only [Option.some.injEq] at h
    subst h
    rw [agg_run ha]
    refine ⟨.agg ⟨(b.drop off).take k⟩, ?_, .agg (hr.drop off |>.take k).1 (hr.drop off |>.take k).2⟩
    simp [Result.andThen, size_run hk, List.extract_eq_take_drop]
  · rename_i ha
    cases hg
    dsimp only at h
    rw [nth_eq] at h
    obtain ⟨V, hV, hv⟩ := hr.get h
    rw [agg_run ha]
    exact ⟨V, by simp [Result.andThen, hV], hv⟩
  · cases hg; cases h
theorem VRs.of_map {ρ A : Operand → Value} {l : List Operand} (h : ∀ x ∈ l, VR μ (ρ x) (A x)) : VRs μ (l.map ρ) (l.map A) := VRs.map h
theorem arr_map (l : Array Operand) (ρ : Operand → Value) : l.map ρ = ⟨l.toList.map ρ⟩ := by apply Array.ext'; simp
theorem VR.bool_inv {b : Bool} {V : Value} (h : VR μ (.bool b) V) : V = .bool b := h.of_flat rfl
theorem VR.int_inv {k : IntKind} {n : Int} {V : Value} (h : VR μ (.int k n) V) : V = .int k n := h.of_flat rfl
theorem VR.str_inv {b : ByteArray} {V : Value} (h : VR μ (.string b) V) : V = .string b := h.of_flat rfl
theorem VR.ptr_inv {a : Addr} {V : Value} (h : VR μ (.pointer (some a)) V) : ∃ p, a.spot = none ∧ μ a.block = some p ∧ V = .pointer (some ⟨p.blk, p.base + a.off, none⟩) := by
  cases h with
  | leaf h => simp [Ev.leaf] at h
  | ptr h => exact ⟨_, rfl, h, rfl⟩
theorem VR.sl_inv {a : Addr} {l c : Nat} {V : Value} (h : VR μ (.slice (some a) l c) V) :
    (∃ p, a.spot = none ∧ μ a.block = some p ∧ l ≤ capOf p c ∧ V = .slice (some ⟨p.blk, p.base + a.off, none⟩) l (capOf p c)) ∨ (a = ⟨0, 0, some 0⟩ ∧ l = 0 ∧ c = 0 ∧ ∃ A C, V = .slice (some A) 0 C) := by
  generalize hv : Value.slice (some a) l c = v at h
  cases h with
  | leaf h => subst hv; simp [Ev.leaf] at h
  | sl h hl => cases hv; exact .inl ⟨_, rfl, h, hl, rfl⟩
  | emp => cases hv; exact .inr ⟨rfl, rfl, rfl, _, _, rfl⟩
  | _ => cases hv
theorem VR.agg_inv {a : List Value} {V : Value} (h : VR μ (.agg ⟨a⟩) V) : ∃ b, V = .agg ⟨b⟩ ∧ VRs μ a b := by
  cases h with
  | leaf h => simp [Ev.leaf] at h
  | agg ha h => exact ⟨_, rfl, ha, h⟩
theorem VR.tup_inv {a : List Value} {V : Value} (h : VR μ (.tuple ⟨a⟩) V) : ∃ b, V = .tuple ⟨b⟩ ∧ VRs μ a b := by
  cases h with
  | leaf h => simp [Ev.leaf] at h
  | tup ha h => exact ⟨_, rfl, ha, h⟩
theorem VR.iface_inv {t : TypeId} {v V : Value} (h : VR μ (.iface t v) V) : ∃ U, V = .iface t U ∧ VR μ v U := by
  cases h with
  | leaf h => simp [Ev.leaf] at h
  | iface h => exact ⟨_, rfl, h⟩
theorem VR.map_inv {i : Nat} {V : Value} (h : VR μ (.map (some i)) V) : ∃ p, μ i = some p ∧ V = .map (some p.blk) := by
  cases h with
  | leaf h => simp [Ev.leaf] at h
  | map h => exact ⟨_, h, rfl⟩
theorem VR.fn_inv {f : Nat} {a c : Array Value} {V : Value} (h : VR μ (.func (.func f) a c) V) : ∃ b d, V = .func (.func f) ⟨b⟩ ⟨d⟩ ∧ VRs μ a.toList b ∧ VRs μ c.toList d := by
  cases h with
  | leaf h => simp [Ev.leaf] at h
  | fn h1 h2 h3 h4 => exact ⟨_, _, rfl, ⟨h1, h2⟩, ⟨h3, h4⟩⟩
theorem VR.yld_inv {l : Nat} {a c : Array Value} {V : Value} (h : VR μ (.func (.yield l) a c) V) : ∃ p, μ l = some p ∧ V = .func (.yield p.blk) #[] #[] := by
  cases h with
  | leaf h => simp [Ev.leaf] at h
  | yld h => exact ⟨_, h, rfl⟩
theorem VR.sl' {i o l c B C : Nat} {p : Pl} (h : μ i = some p) (hB : B = p.base + o) (hC : C = capOf p c) (hl : l ≤ C) : VR μ (.slice (some ⟨i, o, none⟩) l c) (.slice (some ⟨p.blk, B, none⟩) l C) := by
  subst hB; subst hC; exact .sl h hl
theorem capOf_lt {p : Pl} {c : Nat} (h : c < sym) : capOf p c = c := if_pos h
theorem capOf_ge {p : Pl} {c : Nat} (h : sym ≤ c) : capOf p c = p.cap - (c - sym) := if_neg (by omega)
theorem nat_inv {v V : Value} {β : Type} {g : Nat → Option β} {r : β} (h : natThen v g = some r) (hr : VR μ v V) : ∃ k n, v = .int k (.ofNat n) ∧ V = .int k (.ofNat n) ∧ g n = some r := by
  unfold natThen at h
  split at h
  · exact ⟨_, _, rfl, hr.int_inv, h⟩
  · cases h
theorem ptrAt_some {a : Addr} {i : Nat} {v : Value} (h : ptrAt a i = some v) : a.spot = none ∧ v = .pointer (some ⟨a.block, a.off + i, none⟩) := by
  unfold ptrAt at h
  split at h
  · simp only [fN_eq, Option.some.injEq] at h; exact ⟨rfl, h.symm⟩
  · cases h
theorem slAt_some {a : Addr} {i l c : Nat} {v : Value} (h : slAt a i l c = some v) : v = .slice (some ⟨a.block, a.off + i, a.spot⟩) l c := by
  unfold slAt at h
  simp only [fN_eq, Option.some.injEq] at h; exact h.symm
theorem map_ok {P : Program} {α β : Type} {s : Sem α} {w : World} {a : α} (f : α → Sem β) (h : s.run P w = .ok a w) : (s >>= f).run P w = (f a).run P w := by
  simp only [Sem.run_bind, h, Result.andThen]
end
end Go.Proofs.YthelmobipjekjaaGreat.Ev
