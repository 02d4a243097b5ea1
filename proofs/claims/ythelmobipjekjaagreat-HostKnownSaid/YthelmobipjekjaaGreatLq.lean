/- A long run, cut in pieces. -/
import Derived.Test.YthelmobipjekjaaGreatLp
set_option linter.unusedVariables false
set_option linter.unusedSimpArgs false
set_option linter.unusedSectionVars false
namespace Go.Proofs.YthelmobipjekjaaGreat.Ev
open Go Go.RowKit
/-! ### a run in pieces -/
section
variable {P : Program} {O : Orc}
/-- What a piece of code does. -/
def RanOK (P : Program) (ro : Option Nat) (c : Code) (f : Fr) (m : Me) (e : Ex) (f' : Fr) (m' : Me) : Prop :=
  m.n ≤ m'.n ∧ ∀ μ w a r, RoR μ ro r → FR μ f a → HR P μ m w → Free μ m.n m'.n → c.wpIn (FF r) 0 P (Post P e f' m' μ m w) a w
/-- f1, m1 tell less. -/
structure Less (P : Program) (f : Fr) (m : Me) (f1 : Fr) (m1 : Me) : Prop where
  n : m1.n = m.n
  fr : ∀ {μ a}, FR μ f a → FR μ f1 a
  hr : ∀ {μ w}, HR P μ m w → HR P μ m1 w
  img : ∀ {μ b}, Img μ m1 b → Img μ m b
theorem Less.ext {f f1 : Fr} {m m1 m0 : Me} {μ ν : Mp} {w w' : World} (h : Less P f m f1 m1) (k : Ext μ m0 w ν m w') : Ext μ m0 w ν m1 w' :=
  ⟨k.os, k.tape, k.output, k.size, k.le, by rw [h.n]; exact k.next, fun i a b => by rw [h.n]; exact k.dom i a b, k.keep, fun b hb hi => k.img b hb (h.img hi)⟩
/-- ... ahead of what is done -/
theorem Less.ext' {f f1 : Fr} {m m1 m2 : Me} {μ ν : Mp} {w w' : World} (h : Less P f m f1 m1) (k : Ext μ m1 w ν m2 w') : Ext μ m w ν m2 w' :=
  ⟨k.os, k.tape, k.output, k.size, k.le, by rw [← h.n]; exact k.next, fun i a b => by rw [← h.n]; exact k.dom i a b, fun b hb hi => k.keep b hb fun hi' => hi (h.img hi'), fun b hb hi => h.img (k.img b hb hi)⟩
theorem RanOK.of_run (hmix : P.follows .mixedOrders = true) (hO : OrcOK P O) (hOn : OrcN O) {d : Nat} {ro : Option Nat} {c : Code} {f f' : Fr} {m m' : Me} {e : Ex} (h : run P O d ro (comp P c) f m = .ok e f' m') : RanOK P ro c f m e f' m' :=
  ⟨run_n (P := P) hOn d _ _ _ _ _ _ _ (comp_ok c) h, runs_ok hmix hO hOn d ro c f m e f' m' h⟩
theorem RanOK.less {ro : Option Nat} {c : Code} {f f' f1 : Fr} {m m' m1 : Me} {e : Ex} (h : RanOK P ro c f1 m1 e f' m') (l : Less P f m f1 m1) : RanOK P ro c f m e f' m' :=
  ⟨by rw [← l.n]; exact h.1, fun μ w a r hro hf hm hfree => wpIn_mono (h.2 μ w a r hro (l.fr hf) (l.hr hm) (by rw [l.n]; exact hfree)) fun z a' w' hz => by
    obtain ⟨z1, ν, z2, z3, z4⟩ := hz
    exact ⟨z1, ν, z2, z3, l.ext' z4⟩⟩
theorem RanOK.less' {ro : Option Nat} {c : Code} {f f' f1 : Fr} {m m' m1 : Me} {e : Ex} (h : RanOK P ro c f m e f' m') (l : Less P f' m' f1 m1) : RanOK P ro c f m e f1 m1 :=
  ⟨by rw [l.n]; exact h.1, fun μ w a r hro hf hm hfree => wpIn_mono (h.2 μ w a r hro hf hm (by rw [← l.n]; exact hfree)) fun z a' w' hz => by
    obtain ⟨z1, ν, z2, z3, z4⟩ := hz
    exact ⟨z1, ν, l.fr z2, l.hr z3, l.ext z4⟩⟩
theorem RanOK.seq {ro : Option Nat} {x y : Code} {f f2 f' : Fr} {m m2 m' : Me} {e : Ex} (h : RanOK P ro x f m .nrm f2 m2) (k : RanOK P ro y f2 m2 e f' m') : RanOK P ro (.seq x y) f m e f' m' :=
  ⟨Nat.le_trans h.1 k.1, fun μ w a r hro hf hm hfree => by
    refine wpIn_seq (wpIn_mono (h.2 μ w a r hro hf hm (hfree.left k.1)) fun z a' w' hz => ?_)
    obtain ⟨rfl, ν, k1, k2, k3⟩ := hz
    exact wpIn_mono (k.2 ν w' a' r (hro.mono k3.le) k1 k2 (hfree.right k3 k.1)) fun z a'' w'' hz => hz.step k3⟩
theorem RanOK.seq_out {ro : Option Nat} {x y : Code} {f f' : Fr} {m m' : Me} {e : Ex} (h : RanOK P ro x f m e f' m') (he : e ≠ .nrm) : RanOK P ro (.seq x y) f m e f' m' :=
  ⟨h.1, fun μ w a r hro hf hm hfree => by
    refine wpIn_seq (wpIn_mono (h.2 μ w a r hro hf hm hfree) fun z a' w' hz => ?_)
    obtain ⟨rfl, hz⟩ := hz
    cases e with
    | nrm => exact absurd rfl he
    | ret => exact ⟨rfl, hz⟩
    | ext id => exact ⟨rfl, hz⟩⟩
theorem RanOK.block {ro : Option Nat} {id : Nat} {x : Code} {f f' : Fr} {m m' : Me} {e : Ex} (h : RanOK P ro x f m e f' m') : RanOK P ro (.block id x) f m (match e with | .ext j => if j = id then .nrm else .ext j | e => e) f' m' :=
  ⟨h.1, fun μ w a r hro hf hm hfree => by
    refine wpIn_block (wpIn_mono (h.2 μ w a r hro hf hm hfree) fun z a' w' hz => ?_)
    obtain ⟨rfl, ν, k1, k2, k3⟩ := hz
    cases e with
    | nrm => exact ⟨rfl, ν, k1, k2, k3⟩
    | ret => exact ⟨rfl, ν, k1, k2, k3⟩
    | ext j =>
      show if j = id then _ else _
      by_cases hj : j = id
      · rw [if_pos hj]; exact ⟨by simp [hj, exitOf], ν, k1, k2, k3⟩
      · rw [if_neg hj]; exact ⟨by simp [hj, exitOf], ν, k1, k2, k3⟩⟩
/-- So many rounds of a loop. -/
inductive Rounds (P : Program) (ro : Option Nat) (x : Code) (e : Ex) (f' : Fr) (m' : Me) : Nat → Fr → Me → Prop where
  | last {f : Fr} {m : Me} (h : RanOK P ro x f m e f' m') : Rounds P ro x e f' m' 0 f m
  | next {f f1 : Fr} {m m1 : Me} {j : Nat} (h : RanOK P ro x f m .nrm f1 m1) (k : Rounds P ro x e f' m' j f1 m1) : Rounds P ro x e f' m' (j + 1) f m
  | less {f f1 : Fr} {m m1 : Me} {j : Nat} (l : Less P f m f1 m1) (k : Rounds P ro x e f' m' j f1 m1) : Rounds P ro x e f' m' j f m
theorem Rounds.n {ro : Option Nat} {x : Code} {e : Ex} {f' f : Fr} {m' m : Me} {j : Nat} (h : Rounds P ro x e f' m' j f m) : m.n ≤ m'.n := by
  induction h with
  | last h => exact h.1
  | next h _ ih => exact Nat.le_trans h.1 ih
  | less l _ ih => rw [← l.n]; exact ih
theorem RanOK.loop {ro : Option Nat} {x : Code} {e : Ex} {f' f : Fr} {m' m : Me} {j : Nat} (h : Rounds P ro x e f' m' j f m) (he : e ≠ .nrm) : RanOK P ro (.loop x) f m e f' m' :=
  ⟨h.n, fun μ w a r hro hf hm hfree => by
    let I : Nat → Act → World → Prop := fun j a' w' => ∃ f2 m2 ν, Rounds P ro x e f' m' j f2 m2 ∧ FR ν f2 a' ∧ HR P ν m2 w' ∧ Ext μ m w ν m2 w'
    have h0 : I j a w := ⟨f, m, μ, h, hf, hm, Ext.refl _ _ _⟩
    refine wpIn_loop_n I h0 fun j a' w' hI => ?_
    obtain ⟨f2, m2, ν, h1, k1, k2, k3⟩ := hI
    clear h0 h hf hm
    induction h1 with
    | @last f2 m2 h =>
      refine wpIn_mono (h.2 ν w' a' r (hro.mono k3.le) k1 k2 (hfree.right k3 h.1)) fun z a'' w'' hz => ?_
      obtain ⟨rfl, ξ, q1, q2, q3⟩ := hz
      cases e with
      | nrm => exact absurd rfl he
      | ret => exact ⟨rfl, ξ, q1, q2, k3.trans q3⟩
      | ext id => exact ⟨rfl, ξ, q1, q2, k3.trans q3⟩
    | @next f2 f3 m2 m3 j h k _ =>
      refine wpIn_mono (h.2 ν w' a' r (hro.mono k3.le) k1 k2 ((hfree.right k3 (Nat.le_trans h.1 k.n)).left k.n)) fun z a'' w'' hz => ?_
      obtain ⟨rfl, ξ, q1, q2, q3⟩ := hz
      exact ⟨j, Nat.lt_succ_self _, f3, m3, ξ, k, q1, q2, k3.trans q3⟩
    | less l k ih => exact ih (l.fr k1) (l.hr k2) (l.ext k3)⟩
/-- A call, its body's run being known. -/
theorem RanOK.call {cf : CodeF} (ho : OrcOK P O) (hc : CodeOK P cf) (hOn : OrcN O) (hcn : CodeN P cf) {f : Nat} {fn : Func} {code : Code} {args : List Value} {m m1 m' : Me} {e : Ex} {f' : Fr} {v : Value} (hf : P.funcs[f]? = some fn) (hbody : fn.body = some code) (h : RanOK P none code (.mk (Tr.puts args .e 0) fn.ntmps []) m e f' m1) (he : e = .nrm ∨ e = .ret)
    (hl : args.length ≤ fn.ntmps) (hend : endCall P O cf f' m1 fn.results.toList = some (v, m')) (μ : Mp) (w : World) (ARGS : List Value) (hargs : VRs μ args ARGS) (hm : HR P μ m w) (hfree : Free μ m.n m'.n) : CallsIn Fence.wide 0 P f ⟨ARGS⟩ w (Gave P μ m w v m') := by
  have har := AR.enter hargs hl
  refine callsIn_of_wp_marks hf hbody trivial ?_
  refine wpIn_mono (h.2 μ w _ none rfl (.mk har MR.nil) hm (hfree.left (endCall_n hOn hcn hend))) fun x a' w' hx => ?_
  obtain ⟨rfl, ν, h1, h2, h3⟩ := hx
  have key : LeavesInM Fence.wide 0 P fn a'.tmps (Gave P μ m w v m') a'.defers .returning w' := endCall_sound ho hc hOn hcn hend rfl h1 h2 (hfree.right h3 (endCall_n hOn hcn hend)) fun ξ V w2 k1 k2 k3 => ⟨V, ξ, rfl, k1, k2, h3.trans k3⟩
  rcases he with rfl | rfl <;> exact key
end
/-! ### a memory spelled out -/
/-- What lies in a block, its cells listed. -/
inductive SO where
  | row (cs : List Value) (el : Nat) (an : List Nat) (fz : Bool)
  | mp (es : List (Value × Value × Nat)) (cl : Nat)
  | lp (st : LoopState) (a : List Value) (ps : List Nat) (asg body : Code) (df : Nat)
  | df (tk : Bool)
/-- Slots, marks, blocks, the next number. -/
structure Snap where
  a : List Value
  ms : List Nat
  hs : List (Nat × SO)
  n : Nat
noncomputable def SO.ob : SO → AO
  | .row cs el an fz => .row (Tr.ofList cs) cs.length el an fz
  | .mp es cl => .mp es cl
  | .lp st a ps asg body d0 => .lp st none (Tr.ofList a) a.length ps asg body d0
  | .df tk => .df tk
noncomputable def snapTr : List (Nat × SO) → Tr AO → Tr AO
  | [], t => t
  | (i, s) :: r, t => t.putK i s.ob fun t => snapTr r t
noncomputable def Snap.fr (s : Snap) : Fr := .mk (Tr.ofList s.a) s.a.length (s.ms.map .mark)
noncomputable def Snap.me (s : Snap) : Me := .mk (snapTr s.hs .e) s.n
def beqB : Bool → Bool → Bool
  | true, b => b
  | false, b => !b
def nleq : List Nat → List Nat → Bool
  | [], [] => true
  | x :: xs, y :: ys => Nat.beq x y && nleq xs ys
  | _, _ => false
def msLe : List Nat → List Dm → Bool
  | [], [] => true
  | x :: xs, .mark y :: ys => Nat.beq x y && msLe xs ys
  | _, _ => false
def nmem (i : Nat) : List Nat → Bool
  | [] => false
  | x :: xs => Nat.beq i x || nmem i xs
/-- Code of the smallest kind, alike. -/
def ceq : Code → Code → Bool
  | .skip, .skip => true
  | .ret, .ret => true
  | .exit i, .exit j => Nat.beq i j
  | .label i, .label j => Nat.beq i j
  | .seq x y, .seq z t => ceq x z && ceq y t
  | .block i x, .block j y => Nat.beq i j && ceq x y
  | _, _ => false
def stEq : LoopState → LoopState → Bool
  | .ready, .ready => true
  | .busy, .busy => true
  | _, _ => false
noncomputable def slotsEq : List Value → Tr Value → Nat → Bool
  | [], _, _ => true
  | v :: vs, a, t => veq2 v (slot a t) && slotsEq vs a (Nat.succ t)
def esEq : List (Value × Value × Nat) → List (Value × Value × Nat) → Bool
  | [], [] => true
  | (a, b, c) :: r, (x, y, z) :: s => veq2 a x && veq2 b y && Nat.beq c z && esEq r s
  | _, _ => false
noncomputable def soLe (ids : List Nat) (s : SO) (o : AO) : Bool := match s with
  | .row cs el an fz => (match o with
    | .row c len el' an' fz' => Nat.beq len cs.length && Nat.beq el el' && beqB fz fz' && an'.all (fun j => nmem j an || !nmem j ids) && (match c.slice len 0 with
      | some l => leq2 cs l
      | none => false)
    | _ => false)
  | .mp es cl => (match o with
    | .mp es' cl' => Nat.beq cl cl' && esEq es es'
    | _ => false)
  | .lp st a ps asg body df => (match o with
    | .lp st' none a' nt' ps' asg' body' df' => stEq st st' && Nat.beq nt' a.length && nleq ps ps' && ceq asg asg' && ceq body body' && Nat.beq df df' && slotsEq a a' 0
    | _ => false)
  | .df tk => (match o with
    | .df tk' => beqB tk tk'
    | _ => false)
noncomputable def hsLe (ids : List Nat) (h : Tr AO) : List (Nat × SO) → Bool
  | [] => true
  | (i, s) :: r => (match h.get i with
    | some o => soLe ids s o
    | none => false) && hsLe ids h r
noncomputable def Snap.le (s : Snap) (f : Fr) (m : Me) : Bool := match f with
  | .mk a nt ms => match m with
    | .mk h n => Nat.beq n s.n && Nat.beq nt s.a.length && msLe s.ms ms && slotsEq s.a a 0 && hsLe (s.hs.map fun p => p.1) h s.hs
section
variable {P : Program}
theorem beqB_eq {a b : Bool} (h : beqB a b = true) : a = b := by cases a <;> cases b <;> simp_all [beqB]
theorem nleq_eq : ∀ {a b : List Nat}, nleq a b = true → a = b
  | [], [], _ => rfl
  | x :: xs, y :: ys, h => by
    simp only [nleq, Bool.and_eq_true] at h
    rw [Nat.eq_of_beq_eq_true h.1, nleq_eq h.2]
theorem msLe_eq : ∀ {a : List Nat} {b : List Dm}, msLe a b = true → a.map .mark = b
  | [], [], _ => rfl
  | x :: xs, .mark y :: ys, h => by
    simp only [msLe, Bool.and_eq_true] at h
    rw [List.map_cons, Nat.eq_of_beq_eq_true h.1, msLe_eq h.2]
theorem nmem_iff {i : Nat} : ∀ {l : List Nat}, nmem i l = true ↔ i ∈ l
  | [] => by simp [nmem]
  | x :: xs => by simp only [nmem, Bool.or_eq_true, Nat.beq_eq, List.mem_cons, nmem_iff (l := xs)]
theorem ceq_eq : ∀ {a b : Code}, ceq a b = true → a = b := by
  intro a
  induction a with
  | seq x y ihx ihy =>
    intro b h
    cases b <;> first | cases h | skip
    simp only [ceq, Bool.and_eq_true] at h
    rw [ihx h.1, ihy h.2]
  | block i x ih =>
    intro b h
    cases b <;> first | cases h | skip
    simp only [ceq, Bool.and_eq_true] at h
    rw [Nat.eq_of_beq_eq_true h.1, ih h.2]
  | skip => intro b h; cases b <;> first | rfl | cases h
  | ret => intro b h; cases b <;> first | rfl | cases h
  | exit i => intro b h; cases b <;> first | (rw [Nat.eq_of_beq_eq_true h]; done) | cases h
  | label i => intro b h; cases b <;> first | (rw [Nat.eq_of_beq_eq_true h]; done) | cases h
  | _ => intro b h; cases b <;> cases h
theorem stEq_eq {a b : LoopState} (h : stEq a b = true) : a = b := by cases a <;> cases b <;> first | rfl | cases h
theorem slotsEq_get : ∀ {vs : List Value} {a : Tr Value} {t : Nat}, slotsEq vs a t = true → ∀ (j : Nat) (v : Value), vs[j]? = some v → slot a (t + j) = v
  | [], a, t, _, j, v, hv => by simp at hv
  | x :: xs, a, t, h, j, v, hv => by
    simp only [slotsEq, Bool.and_eq_true] at h
    cases j with
    | zero => simp at hv; rw [← hv]; exact (veq2_eq h.1).symm
    | succ j =>
      have := slotsEq_get h.2 j v (by simpa using hv)
      rw [← this]; congr 1; omega
theorem slot_ofList {vs : List Value} {j : Nat} {v : Value} (h : vs[j]? = some v) : slot (Tr.ofList vs) j = v := by unfold slot; rw [Tr.get_ofList, h]
theorem AR.snap {μ : Mp} {vs : List Value} {a : Tr Value} {nt : Nat} {T : Array Value} (h : AR μ a nt T) (hn : nt = vs.length) (hs : slotsEq vs a 0 = true) : AR μ (Tr.ofList vs) vs.length T := by
  refine ⟨by rw [h.1]; exact hn, fun t => ?_, fun t v hv => ?_⟩
  · cases hv : vs[t]? with
    | some v =>
      rw [slot_ofList hv]
      have := slotsEq_get hs t v hv
      rw [Nat.zero_add] at this
      rw [← this]; exact h.2.1 t
    | none =>
      have hlt : vs.length ≤ t := List.getElem?_eq_none_iff.1 hv
      unfold slot
      rw [Tr.get_ofList, hv]
      have : T.getD t undef = undef := by
        rw [Array.getD_eq_getD_getElem?, Array.getElem?_eq_none (by have := h.1; omega)]; rfl
      rw [this]; exact VR.undef
  · rw [Tr.get_ofList] at hv
    exact (List.getElem?_eq_some_iff.1 hv).1
theorem esEq_eq : ∀ {a b : List (Value × Value × Nat)}, esEq a b = true → a = b
  | [], [], _ => rfl
  | (a, b, c) :: r, (x, y, z) :: s, h => by
    simp only [esEq, Bool.and_eq_true] at h
    obtain ⟨⟨⟨h1, h2⟩, h3⟩, h4⟩ := h
    rw [veq2_eq h1, veq2_eq h2, Nat.eq_of_beq_eq_true h3, esEq_eq h4]
/-- What is told of a block, is so. -/
structure Tells (P : Program) (ids : List Nat) (s o : AO) : Prop where
  om : ∀ {μ p w}, OM P μ p w o → OM P μ p w s
  lv : live s = true ∧ live o = true
  un : unf s = unf o
  en : ∀ p, endOf p s = endOf p o
  an : ∀ j, j ∈ anc o → j ∈ ids → j ∈ anc s
theorem soLe_tells {ids : List Nat} {s : SO} {o : AO} (h : soLe ids s o = true) : Tells P ids s.ob o := by
  unfold soLe at h
  split at h
  · rename_i cs el an fz
    split at h
    · rename_i c len el' an' fz'
      simp only [Bool.and_eq_true] at h
      obtain ⟨⟨⟨⟨h1, h2⟩, h3⟩, h4⟩, h5⟩ := h
      obtain rfl := Nat.eq_of_beq_eq_true h1
      obtain rfl := Nat.eq_of_beq_eq_true h2
      obtain rfl := beqB_eq h3
      split at h5
      · rename_i l hl
        obtain rfl := leq2_eq h5
        obtain ⟨s1, s2⟩ := Tr.slice_spec _ _ _ _ hl
        refine ⟨fun ho => ?_, ⟨rfl, rfl⟩, rfl, fun p => rfl, fun j hj hi => ?_⟩
        · refine ho.sub fun k v hk => ?_
          rw [Tr.get_ofList] at hk
          have hkl := (List.getElem?_eq_some_iff.1 hk).1
          have := s2 k hkl
          rw [Nat.zero_add] at this
          rw [this]; exact hk
        · have := List.all_eq_true.1 h4 j hj
          simp only [Bool.or_eq_true, Bool.not_eq_true'] at this
          rcases this with h | h
          · exact nmem_iff.1 h
          · rw [nmem_iff.2 hi] at h; cases h
      · cases h5
    · cases h
  · split at h
    · simp only [Bool.and_eq_true] at h
      obtain rfl := Nat.eq_of_beq_eq_true h.1
      obtain rfl := esEq_eq h.2
      exact ⟨fun ho => ho, ⟨rfl, rfl⟩, rfl, fun p => rfl, fun j hj _ => hj⟩
    · cases h
  · split at h
    · simp only [Bool.and_eq_true] at h
      obtain ⟨⟨⟨⟨⟨⟨h1, h2⟩, h3⟩, h4⟩, h5⟩, h6⟩, h7⟩ := h
      obtain rfl := stEq_eq h1
      obtain rfl := nleq_eq h3
      obtain rfl := ceq_eq h4
      obtain rfl := ceq_eq h5
      obtain rfl := Nat.eq_of_beq_eq_true h6
      refine ⟨fun ho => ?_, ⟨rfl, rfl⟩, rfl, fun p => rfl, fun j hj _ => hj⟩
      obtain ⟨fn, T, q, g1, g2, g3⟩ := ho
      exact ⟨fn, T, q, g1, g2.snap (Nat.eq_of_beq_eq_true h2) h7, g3⟩
    · cases h
  · split at h
    · obtain rfl := beqB_eq h
      exact ⟨fun ho => ho, ⟨rfl, rfl⟩, rfl, fun p => rfl, fun j hj _ => hj⟩
    · cases h
theorem snapTr_get : ∀ {hs : List (Nat × SO)} {t : Tr AO} {i : Nat} {o : AO}, (snapTr hs t).get i = some o → t.get i = some o ∨ ∃ s, (i, s) ∈ hs ∧ o = s.ob
  | [], t, i, o, h => .inl h
  | (j, s) :: r, t, i, o, h => by
    simp only [snapTr, Tr.putK_eq] at h
    rcases snapTr_get (hs := r) h with h | ⟨s', h1, h2⟩
    · rw [Tr.get_put] at h
      by_cases e : i = j
      · rw [if_pos e] at h; cases h
        exact .inr ⟨s, by rw [e]; exact List.mem_cons_self, rfl⟩
      · rw [if_neg e] at h; exact .inl h
    · exact .inr ⟨s', List.mem_cons_of_mem _ h1, h2⟩
theorem hsLe_get {ids : List Nat} {h : Tr AO} : ∀ {hs : List (Nat × SO)}, hsLe ids h hs = true → ∀ i s, (i, s) ∈ hs → ∃ o, h.get i = some o ∧ soLe ids s o = true
  | [], _, i, s, hi => by cases hi
  | (j, u) :: r, hh, i, s, hi => by
    simp only [hsLe, Bool.and_eq_true] at hh
    rcases List.mem_cons.1 hi with e | hi
    · cases e
      have := hh.1
      split at this
      · rename_i o ho; exact ⟨o, ho, this⟩
      · cases this
    · exact hsLe_get hh.2 i s hi
theorem Snap.less {s : Snap} {f : Fr} {m : Me} (h : s.le f m = true) : Less P f m s.fr s.me := by
  unfold Snap.le at h
  split at h
  rename_i a nt ms
  split at h
  rename_i hh n
  simp only [Bool.and_eq_true] at h
  obtain ⟨⟨⟨⟨h1, h2⟩, h3⟩, h4⟩, h5⟩ := h
  have hn := Nat.eq_of_beq_eq_true h1
  have hg : ∀ i o, s.me.h.get i = some o → ∃ o', hh.get i = some o' ∧ Tells P (s.hs.map fun p => p.1) o o' ∧ i ∈ s.hs.map fun p => p.1 := fun i o hi => by
    rcases snapTr_get hi with hi | ⟨u, hu, rfl⟩
    · cases hi
    · obtain ⟨o', h6, h7⟩ := hsLe_get h5 i u hu
      exact ⟨o', h6, soLe_tells h7, List.mem_map.2 ⟨_, hu, rfl⟩⟩
  refine ⟨hn.symm, fun {μ b} hf => ?_, fun {μ w} hm => ⟨fun i o hi hl => ?_, fun i o hi => ?_, fun i o j o' p q h1 hl hu h2 hl' hne hp hq he => ?_⟩, fun {μ b} hi => ?_⟩
  · cases hf with
    | mk ha hms =>
      have := msLe_eq h3
      show FR μ (.mk (Tr.ofList s.a) s.a.length (s.ms.map .mark)) _
      exact .mk (ha.snap (Nat.eq_of_beq_eq_true h2) h4) (by rw [this]; exact hms)
  · obtain ⟨o', h6, h7, _⟩ := hg i o hi
    obtain ⟨p, hp, ho⟩ := hm.obj i o' h6 h7.lv.2
    exact ⟨p, hp, h7.om ho⟩
  · obtain ⟨o', h6, _⟩ := hg i o hi
    have := hm.few i o' h6
    show i < s.n
    rw [← hn]; exact this
  · obtain ⟨o1, g1, g2, _⟩ := hg i o h1
    obtain ⟨o2, g3, g4, g5⟩ := hg j o' h2
    obtain ⟨z1, z2, z3⟩ := hm.apart i o1 j o2 p q g1 g2.lv.2 (by rw [← g2.un]; exact hu) g3 g4.lv.2 hne hp hq he
    exact ⟨g2.an j z1 g5, by rw [g4.un]; exact z2, by rw [g2.en, g4.en]; exact z3⟩
  · obtain ⟨i, o, p, h6, h7, h8, h9⟩ := hi
    obtain ⟨o', g1, g2, _⟩ := hg i o h6
    exact ⟨i, o', p, g1, g2.lv.2, h8, h9⟩
end
/-! ### what the kernel runs -/
section
variable {P : Program} {O : Orc}
def exEq : Ex → Ex → Bool
  | .nrm, .nrm => true
  | .ret, .ret => true
  | .ext i, .ext j => Nat.beq i j
  | _, _ => false
theorem exEq_eq {a b : Ex} (h : exEq a b = true) : a = b := by
  cases a <;> cases b <;> first | rfl | (rw [Nat.eq_of_beq_eq_true h]; done) | cases h
/-- Rounds that end in what is known; the last one e. -/
noncomputable def segs (cf : CodeF) (ro : Option Nat) (x : CC) (e : Ex) (t : Snap) (k : Nat) : Fr → Me → Bool :=
  Nat.rec (fun f m => match cf ro x f m with
    | .ok e' f m => exEq e e' && t.le f m
    | .bad => false) (fun _ ih f m => match cf ro x f m with
    | .ok .nrm f m => ih f m
    | _ => false) k
noncomputable def seg (P : Program) (O : Orc) (d : Nat) (ro : Option Nat) (x : Code) (e : Ex) (s t : Snap) (k : Nat) : Bool := segs (run P O d) ro (comp P x) e t k s.fr s.me
theorem segs_zero {cf : CodeF} {ro : Option Nat} {x : CC} {e : Ex} {t : Snap} {f : Fr} {m : Me} (h : segs cf ro x e t 0 f m = true) : ∃ f1 m1, cf ro x f m = .ok e f1 m1 ∧ t.le f1 m1 = true := by
  have h : (match cf ro x f m with
    | .ok e' f m => exEq e e' && t.le f m
    | .bad => false) = true := h
  split at h
  · rename_i e' f1 m1 hr
    simp only [Bool.and_eq_true] at h
    exact ⟨f1, m1, by rw [exEq_eq h.1]; exact hr, h.2⟩
  · cases h
theorem segs_succ {cf : CodeF} {ro : Option Nat} {x : CC} {e : Ex} {t : Snap} {k : Nat} {f : Fr} {m : Me} (h : segs cf ro x e t (k + 1) f m = true) : ∃ f1 m1, cf ro x f m = .ok .nrm f1 m1 ∧ segs cf ro x e t k f1 m1 = true := by
  have h : (match cf ro x f m with
    | .ok .nrm f m => segs cf ro x e t k f m
    | _ => false) = true := h
  split at h
  · rename_i f1 m1 hr
    exact ⟨f1, m1, hr, h⟩
  · cases h
/-- A stretch of rounds. -/
theorem Rounds.seg (hmix : P.follows .mixedOrders = true) (hO : OrcOK P O) (hOn : OrcN O) {d : Nat} {ro : Option Nat} {x : Code} {e : Ex} {f' : Fr} {m' : Me} {s t : Snap} {k j : Nat} (h : seg P O d ro x .nrm s t k = true) (r : Rounds P ro x e f' m' j t.fr t.me) : Rounds P ro x e f' m' (j + 1 + k) s.fr s.me := by
  have key : ∀ k f m, segs (run P O d) ro (comp P x) .nrm t k f m = true → Rounds P ro x e f' m' (j + 1 + k) f m := by
    intro k
    induction k with
    | zero =>
      intro f m h
      obtain ⟨f1, m1, h1, h2⟩ := segs_zero h
      exact .next (.of_run hmix hO hOn h1) (.less (Snap.less h2) r)
    | succ k ih =>
      intro f m h
      obtain ⟨f1, m1, h1, h2⟩ := segs_succ h
      exact .next (.of_run hmix hO hOn h1) (ih _ _ h2)
  exact key k _ _ h
/-- The last one. -/
theorem Rounds.segEnd (hmix : P.follows .mixedOrders = true) (hO : OrcOK P O) (hOn : OrcN O) {d : Nat} {ro : Option Nat} {x : Code} {e : Ex} {s t : Snap} {k : Nat} (h : Ev.seg P O d ro x e s t k = true) : Rounds P ro x e t.fr t.me k s.fr s.me := by
  have key : ∀ k f m, segs (run P O d) ro (comp P x) e t k f m = true → Rounds P ro x e t.fr t.me k f m := by
    intro k
    induction k with
    | zero =>
      intro f m h
      obtain ⟨f1, m1, h1, h2⟩ := segs_zero h
      exact .last ((RanOK.of_run hmix hO hOn h1).less' (Snap.less h2))
    | succ k ih =>
      intro f m h
      obtain ⟨f1, m1, h1, h2⟩ := segs_succ h
      exact .next (.of_run hmix hO hOn h1) (ih _ _ h2)
  exact key k _ _ h
theorem RanOK.seg (hmix : P.follows .mixedOrders = true) (hO : OrcOK P O) (hOn : OrcN O) {d : Nat} {ro : Option Nat} {c : Code} {e : Ex} {s t : Snap} (h : Ev.seg P O d ro c e s t 0 = true) : RanOK P ro c s.fr s.me e t.fr t.me := by
  obtain ⟨f1, m1, h1, h2⟩ := segs_zero h
  exact (RanOK.of_run hmix hO hOn h1).less' (Snap.less h2)
/-- A call that is known: its arguments and what there is; what it gives, and what there is then. -/
noncomputable def snapO (f nt : Nat) (s : Snap) (v : Value) (t : Snap) : CallF := fun g args m => bif Nat.beq g f && Nat.ble args.length nt && s.le (.mk (Tr.puts args .e 0) nt []) m then some (v, t.me) else none
theorem snapO_ok {cf : CodeF} (ho : OrcOK P O) (hc : CodeOK P cf) (hOn : OrcN O) (hcn : CodeN P cf) {f : Nat} {fn : Func} {code : Code} {s t u : Snap} {e : Ex} {v : Value} (hf : P.funcs[f]? = some fn) (hbody : fn.body = some code) (hn : (fn.name == "runtime.NumGoroutine") = false) (h : RanOK P none code s.fr s.me e u.fr u.me) (he : e = .nrm ∨ e = .ret) (hend : endCall P O cf u.fr u.me fn.results.toList = some (v, t.me)) : CallOK P (snapO f fn.ntmps s v t) := by
  intro g args m v' m' ho
  unfold snapO at ho
  revert ho
  cases hb : (Nat.beq g f && Nat.ble args.length fn.ntmps && s.le (.mk (Tr.puts args .e 0) fn.ntmps []) m) with
  | false => intro ho; cases ho
  | true =>
    intro ho
    simp only [cond_true, Option.some.injEq, Prod.mk.injEq] at ho
    obtain ⟨rfl, rfl⟩ := ho
    simp only [Bool.and_eq_true] at hb
    obtain ⟨⟨h1, h2⟩, h3⟩ := hb
    obtain rfl := Nat.eq_of_beq_eq_true h1
    exact ⟨⟨fn, hf, by rw [hbody]; rfl, hn⟩, fun μ w ARGS hargs hm hfree => (h.less (Snap.less h3)).call ho hc hOn hcn hf hbody he (Nat.le_of_ble_eq_true h2) hend μ w ARGS hargs hm hfree⟩
theorem snapO_n {f nt : Nat} {s t : Snap} {v : Value} (h : Nat.ble s.n t.n = true) : CallN (snapO f nt s v t) := by
  intro g args m v' m' ho
  unfold snapO at ho
  revert ho
  cases hb : (Nat.beq g f && Nat.ble args.length nt && s.le (.mk (Tr.puts args .e 0) nt []) m) with
  | false => intro ho; cases ho
  | true =>
    intro ho
    simp only [cond_true, Option.some.injEq, Prod.mk.injEq] at ho
    obtain ⟨rfl, rfl⟩ := ho
    simp only [Bool.and_eq_true] at hb
    have := (Snap.less (P := default) hb.2).n
    show m.n ≤ t.n
    rw [← this]; exact Nat.le_of_ble_eq_true h
end
/-! ### a function that is one loop -/
def loopIn (o : Option Func) : Code := match o with
  | some fn => (match fn.body with
    | some (.block _ (.loop x)) => x
    | _ => .skip)
  | none => .skip
def loopShape (o : Option Func) (nt : Nat) : Bool := match o with
  | some fn => Nat.beq fn.ntmps nt && fn.results.toList.isEmpty && !(fn.name == "runtime.NumGoroutine") && (match fn.body with
    | some (.block id (.loop _)) => Nat.beq id 0
    | _ => false)
  | none => false
theorem loopShape_ok {o : Option Func} {nt : Nat} (h : loopShape o nt = true) : ∃ fn, o = some fn ∧ fn.body = some (.block 0 (.loop (loopIn o))) ∧ fn.ntmps = nt ∧ fn.results.toList = [] ∧ (fn.name == "runtime.NumGoroutine") = false := by
  unfold loopShape at h
  split at h
  · rename_i fn
    simp only [Bool.and_eq_true] at h
    obtain ⟨⟨⟨h1, h2⟩, h3⟩, h4⟩ := h
    split at h4
    · rename_i id x hb
      obtain rfl := Nat.eq_of_beq_eq_true h4
      refine ⟨fn, rfl, ?_, Nat.eq_of_beq_eq_true h1, by simpa using h2, by simpa using h3⟩
      unfold loopIn
      simp only [hb]
    · cases h4
  · cases h
theorem loop_ok {P : Program} {f nt : Nat} {s t : Snap} {k : Nat} (h : loopShape P.funcs[f]? nt = true) (hms : nleq t.ms [] = true) (r : Rounds P none (loopIn P.funcs[f]?) (.ext 0) t.fr t.me k s.fr s.me) : CallOK P (snapO f nt s (.tuple ⟨[]⟩) t) := by
  obtain ⟨fn, hf, hb, rfl, hr, hn⟩ := loopShape_ok h
  have hl := RanOK.block (id := 0) (RanOK.loop r (by intro h; cases h))
  refine snapO_ok (O := plainO noO) (cf := fun _ _ _ _ => .bad) (plain_ok noO_ok) (fun ro c f m e f' m' h => by cases h) (plain_n noO_n) (fun ro c f m e f' m' _ h => by cases h) hf hb hn hl (.inl rfl) ?_
  rw [hr]
  have hm := nleq_eq hms
  unfold endCall Snap.fr
  simp only [hm]
  rfl
end Go.Proofs.YthelmobipjekjaaGreat.Ev
