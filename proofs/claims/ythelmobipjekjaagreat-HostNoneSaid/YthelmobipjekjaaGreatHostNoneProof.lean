/- Calls on no host and on a zero one answer that there is none: the law HostNone returns true whatever the call, and the argument reads as it did. No condition. -/
import Derived.Test.YthelmobipjekjaaGreatRows
import Derived.WalkKit
import Derived.ProofKit
import Derived.OpenShut
import Derived.ChangeSame
import Derived.ChangeArms
import Derived.ChangeStays
import Derived.Test.YthelmobipjekjaaGreatJe
import Derived.Test.YthelmobipjekjaaGreatHostNoneFacts
namespace Go.Proofs.YthelmobipjekjaaGreat.hostNone
open Go.ChangeShapes Go.WideShapes Go.ChangeAt Go.RowKit
set_option linter.unusedVariables false
set_option linter.unusedSimpArgs false

theorem own : ownKnob Tryz.prog.godebug = none := by kernel_rfl

/-! ### The post's condition, where only the blocks that there were stay as frozen as they were. -/
section
variable {H : Type} {enc : TypeId × Value → H} {P : Program}
theorem post_of_same_old {f : Func} {s : ChangeSpec} {apart fresh handsOn again : Bool} {W W' : World} {args : Array Value} {v : Value} {ds gs : List (DataW H)} {before pa pv : List MemPlace}
    (hW : DataW.Whole enc P f.params.toList s.vars apart W args.toList ds gs before)
    (hres : ∀ (b : Nat) (sp : Nat → Bool) (hd : Bool), DataW.TrodAll enc P W' b sp hd f.resultTypes.toList (v.resultList f.resultTypes.size) (s.fn H (ds ++ gs)).results [])
    (hargs : ∀ sp : Nat → Bool, (∀ p ∈ before, sp p.block = true) → DataW.TrodAll enc P W' 0 sp true f.params.toList args.toList (s.fn H (ds ++ gs)).args pa)
    (hvars : ∀ sp : Nat → Bool, (∀ p ∈ before, sp p.block = true) → DataW.TrodVars enc P W' sp s.vars (s.fn H (ds ++ gs)).vars pv)
    (hps : before = pa ++ pv) (hk : W.keptBut W' (· ∈ before)) (hfz : ∀ a : Addr, a.block < W.heap.size → W'.frozen? a = W.frozen? a)
    (hok : ∀ (j : Nat) (t : TypeId) (r : Value), f.resultTypes[j]? = some t → (v.resultList f.resultTypes.size)[j]? = some r → Value.okWide P W' .any 0 t r) :
    s.post enc P f apart fresh handsOn again W args v W' := by
  have hold : ∀ p ∈ before, (fun b => decide (b < W.heap.size)) p.block = true := fun p hp => by simpa using hW.lt p hp
  have hlt : ∀ p ∈ before, p.block < W.heap.size := fun p hp => by simpa using hold p hp
  refine ⟨ds, gs, before, [], pa, pv, hW, hres _ _ _, hargs _ hold, hvars _ hold, World.keptBut_mono (fun p hp => ⟨hp, ?_⟩) hk, fun _ => ?_⟩
  · rw [hps, List.mem_append] at hp
    exact Or.inr hp
  · obtain ⟨_, _, _, _, _, hz, hn⟩ := hW
    refine ⟨hok, _, _, ([] ++ pa) ++ pv, ⟨[] ++ pa, pv, trodAll_append (hargs _ (fun _ _ => rfl)) (hres _ _ _), hvars _ (fun _ _ => rfl), rfl, ?_, ?_⟩, ?_⟩
    · intro b off hp
      have hm : MemPlace.cell b off ∈ before := by rw [hps]; simpa using hp
      rw [hfz _ (hlt _ hm)]
      exact hz b off hm
    · intro ha
      have := hn ha
      rw [hps] at this
      simpa using this
    · intro p hp _
      rw [hps]
      simpa using hp
end
theorem Below.fz {W W' : World} (h : Below W.heap.size W W') (a : Addr) (ha : a.block < W.heap.size) : W'.frozen? a = W.frozen? a := by
  unfold World.frozen?
  rw [h.block _ ha]

/-! ### What the argument is. -/
theorem cells62 : Tryz.prog.cellsOf 62 = 6 := by kernel_rfl
theorem cells3 : Tryz.prog.cellsOf 3 = 1 := by kernel_rfl
theorem cells53 : Tryz.prog.cellsOf 53 = 1 := by kernel_rfl
theorem cells2 : Tryz.prog.cellsOf 2 = 1 := by kernel_rfl
theorem cells9 : Tryz.prog.cellsOf 9 = 1 := by kernel_rfl
theorem cells27 : Tryz.prog.cellsOf 27 = 1 := by kernel_rfl
theorem cells5 : Tryz.prog.cellsOf 5 = 1 := by kernel_rfl
section
variable {H : Type} {enc : TypeId × Value → H} {w : World} {sp : Nat → Bool} {held : Bool}
theorem slice_shape {t e : TypeId} {n : Nat} {c : Value} {x : DataW H × List MemPlace} (ht : Tryz.prog.underlying t = some (.slice e)) (he : Tryz.prog.cellsOf e = 1) (h : DataW.trod enc Tryz.prog w 0 sp held n t [c] = some x) : Ev.SlShape c := by
  rcases DataW.trod_slice ht h with ⟨h1, _⟩ | ⟨a, len, cap, elems, rest, k, _, h1, _, _, h2, h3, h4, h5, _⟩
  · cases h1; exact .inl rfl
  · cases h1
    refine .inr ⟨a, len, cap, rfl, h2, Nat.lt_of_le_of_lt h3 (by decide), ?_⟩
    by_cases hl : len = 0
    · exact .inl hl
    · right
      have h6 := h5 0 (by omega)
      rw [he] at h6
      have h7 : elems[0]? = some (elems[0]'(by omega)) := List.getElem?_eq_getElem _
      rw [h7] at h6
      obtain ⟨cs, hcs, _⟩ := Option.bind_eq_some_iff.1 h6
      unfold World.cells? at hcs
      rw [if_pos (Nat.zero_le _)] at hcs
      simp only [List.range_one, List.mapM_cons, List.mapM_nil] at hcs
      cases hc : w.cell? ((a.add (0 * 1)).add 0) with
      | none => rw [hc] at hcs; cases hcs
      | some u =>
        have : (a.add (0 * 1)).add 0 = a := by simp [Addr.add]
        rw [this] at hc
        exact (World.shape?_of_cell? hc).choose_spec.choose_spec.2.2
theorem arg_shape {n : Nat} {cs : Array Value} {x : DataW H × List MemPlace} (h : DataW.trod enc Tryz.prog w 0 sp held n 62 cs.toList = some x) :
    ∃ (k h n : Int) (s : ByteArray) (B A : Value), cs = #[.int .i64 k, B, .int .i64 h, .int .i64 n, .string s, A] ∧ Ev.SlShape B ∧ Ev.SlShape A := by
  obtain ⟨xs, m, _, _, hl, hlen, hf⟩ := DataW.trod_struct Tryz.underlying62 h
  rw [cells62] at hl
  have hlen : xs.length = 6 := hlen
  obtain ⟨c0, c1, c2, c3, c4, c5, hcs⟩ : ∃ c0 c1 c2 c3 c4 c5, cs.toList = [c0, c1, c2, c3, c4, c5] := by
    match hh : cs.toList, hl with
    | [c0, c1, c2, c3, c4, c5], _ => exact ⟨c0, c1, c2, c3, c4, c5, rfl⟩
  have hx : ∀ i, i < 6 → ∃ y, xs[i]? = some y := fun i hi => ⟨_, List.getElem?_eq_getElem (by omega)⟩
  obtain ⟨y0, e0⟩ := hx 0 (by omega)
  obtain ⟨y1, e1⟩ := hx 1 (by omega)
  obtain ⟨y2, e2⟩ := hx 2 (by omega)
  obtain ⟨y3, e3⟩ := hx 3 (by omega)
  obtain ⟨y4, e4⟩ := hx 4 (by omega)
  obtain ⟨y5, e5⟩ := hx 5 (by omega)
  have f0 : DataW.trod enc Tryz.prog w 0 sp held m 3 ((cs.toList.drop 0).take (Tryz.prog.cellsOf 3)) = xs[0]? := hf 0 _ rfl
  have f1 : DataW.trod enc Tryz.prog w 0 sp held m 53 ((cs.toList.drop 1).take (Tryz.prog.cellsOf 53)) = xs[1]? := hf 1 _ rfl
  have f2 : DataW.trod enc Tryz.prog w 0 sp held m 3 ((cs.toList.drop 2).take (Tryz.prog.cellsOf 3)) = xs[2]? := hf 2 _ rfl
  have f3 : DataW.trod enc Tryz.prog w 0 sp held m 2 ((cs.toList.drop 3).take (Tryz.prog.cellsOf 2)) = xs[3]? := hf 3 _ rfl
  have f4 : DataW.trod enc Tryz.prog w 0 sp held m 9 ((cs.toList.drop 4).take (Tryz.prog.cellsOf 9)) = xs[4]? := hf 4 _ rfl
  have f5 : DataW.trod enc Tryz.prog w 0 sp held m 27 ((cs.toList.drop 5).take (Tryz.prog.cellsOf 27)) = xs[5]? := hf 5 _ rfl
  rw [hcs, e0] at f0
  rw [hcs, e1] at f1
  rw [hcs, e2] at f2
  rw [hcs, e3] at f3
  rw [hcs, e4] at f4
  rw [hcs, e5] at f5
  rw [cells3] at f0
  simp only [List.drop_zero, List.drop_succ_cons, List.take_succ_cons, List.take_zero] at f0
  rw [cells53] at f1
  simp only [List.drop_zero, List.drop_succ_cons, List.take_succ_cons, List.take_zero] at f1
  rw [cells3] at f2
  simp only [List.drop_zero, List.drop_succ_cons, List.take_succ_cons, List.take_zero] at f2
  rw [cells2] at f3
  simp only [List.drop_zero, List.drop_succ_cons, List.take_succ_cons, List.take_zero] at f3
  rw [cells9] at f4
  simp only [List.drop_zero, List.drop_succ_cons, List.take_succ_cons, List.take_zero] at f4
  rw [cells27] at f5
  simp only [List.drop_zero, List.drop_succ_cons, List.take_succ_cons, List.take_zero] at f5
  obtain ⟨k, g0, _⟩ := DataW.trod_int Tryz.underlying3 f0
  obtain ⟨hh, g2, _⟩ := DataW.trod_int Tryz.underlying3 f2
  obtain ⟨nn, g3, _⟩ := DataW.trod_int Tryz.underlying2 f3
  obtain ⟨s, g4, _⟩ := DataW.trod_string Tryz.underlying9 f4
  have s1 := slice_shape Tryz.underlying53 cells5 f1
  have s5 := slice_shape Tryz.underlying27 cells2 f5
  refine ⟨k, hh, nn, s, c1, c5, ?_, s1, s5⟩
  apply Array.ext'
  rw [hcs]
  cases g0; cases g2; cases g3; cases g4; rfl
end
def Ty (t : TypeId) : Prop := t = 62 ∨ t = 3 ∨ t = 53 ∨ t = 2 ∨ t = 9 ∨ t = 27 ∨ t = 5
theorem under {t : TypeId} {d : TypeDesc} (h : Ty t) (hu : Tryz.prog.underlying t = some d) :
    (∃ k, d = .int k) ∨ d = .string ∨ (t = 53 ∧ d = .slice 5) ∨ (t = 27 ∧ d = .slice 2) ∨ (t = 62 ∧ ∃ fs, d = .struct fs) := by
  rcases h with rfl | rfl | rfl | rfl | rfl | rfl | rfl
  · rw [Tryz.underlying62] at hu; cases hu; exact .inr (.inr (.inr (.inr ⟨rfl, _, rfl⟩)))
  · rw [Tryz.underlying3] at hu; cases hu; exact .inl ⟨_, rfl⟩
  · rw [Tryz.underlying53] at hu; cases hu; exact .inr (.inr (.inl ⟨rfl, rfl⟩))
  · rw [Tryz.underlying2] at hu; cases hu; exact .inl ⟨_, rfl⟩
  · rw [Tryz.underlying9] at hu; cases hu; exact .inr (.inl rfl)
  · rw [Tryz.underlying27] at hu; cases hu; exact .inr (.inr (.inr (.inl ⟨rfl, rfl⟩)))
  · rw [Tryz.underlying5] at hu; cases hu; exact .inl ⟨_, rfl⟩
theorem kids : Kids Tryz.prog Ty where
  pointer := fun h hu => by
    rcases under h hu with ⟨_, h⟩ | h | ⟨_, h⟩ | ⟨_, h⟩ | ⟨_, _, h⟩ <;> cases h
  slice := fun h hu => by
    rcases under h hu with ⟨_, h⟩ | h | ⟨_, h⟩ | ⟨_, h⟩ | ⟨_, _, h⟩
    · cases h
    · cases h
    · cases h; exact .inr (.inr (.inr (.inr (.inr (.inr rfl)))))
    · cases h; exact .inr (.inr (.inr (.inl rfl)))
    · cases h
  array := fun h hu => by
    rcases under h hu with ⟨_, h⟩ | h | ⟨_, h⟩ | ⟨_, h⟩ | ⟨_, _, h⟩ <;> cases h
  struct := fun h hu => by
    rcases under h hu with ⟨_, h⟩ | h | ⟨_, h⟩ | ⟨_, h⟩ | ⟨rfl, _, _⟩
    · cases h
    · cases h
    · cases h
    · cases h
    · rw [Tryz.underlying62] at hu
      cases hu
      refine ⟨?_, ?_, ?_⟩
      · intro f hf
        simp only [List.mem_cons, List.not_mem_nil, or_false] at hf
        rcases hf with rfl | rfl | rfl | rfl | rfl | rfl <;> simp [Ty]
      · simp [cells62, cells3, cells53, cells2, cells9, cells27]
      · intro j f hf
        match j, hf with
        | 0, hf => simp at hf; subst hf; simp
        | 1, hf => simp at hf; subst hf; simp [cells3]
        | 2, hf => simp at hf; subst hf; simp [cells3, cells53]
        | 3, hf => simp at hf; subst hf; simp [cells3, cells53]
        | 4, hf => simp at hf; subst hf; simp [cells3, cells53, cells2]
        | 5, hf => simp at hf; subst hf; simp [cells3, cells53, cells2, cells9]
        | j + 6, hf => simp at hf
  map := fun h hu => by
    rcases under h hu with ⟨_, h⟩ | h | ⟨_, h⟩ | ⟨_, h⟩ | ⟨_, _, h⟩ <;> cases h
theorem sized {t e : TypeId} (h : Ty t) (hu : Tryz.prog.underlying t = some (.slice e)) : 0 < Tryz.prog.cellsOf e := by
  rcases under h hu with ⟨_, h⟩ | h | ⟨_, h⟩ | ⟨_, h⟩ | ⟨_, _, h⟩
  · cases h
  · cases h
  · cases h; rw [cells5]; exact Nat.one_pos
  · cases h; rw [cells2]; exact Nat.one_pos
  · cases h

/-! ### The row's step. -/
set_option maxRecDepth 100000 in
theorem lifted (os : Os) (started : os.Started) (H : Type) (enc : TypeId × Value → H) :
    ReturnsInHanded {} Tryz.checked os 11 .any (Rows.hostNoneSpec.pre6 enc Tryz.prog Tryz.f11 Rows.hostNoneRow.domain false) (Rows.hostNoneSpec.post enc Tryz.prog Tryz.f11 false true false false) := by
  refine returnsInHanded_of_change (C := Tryz.checked) own started (by kernel_rfl) Tryz.func11
    (ChangeSpec.witness6 (enc := enc) (C := Tryz.checked) false ⟨#[], #[.agg #[.int .i64 0, .slice none 0 0, .int .i64 0, .int .i64 0, .string ⟨#[]⟩, .slice none 0 0]], []⟩ 8 (by kernel_rfl) (by kernel_rfl) (by kernel_rfl) (by kernel_rfl)) ?_
  intro W base args ds gs before hval0 hW hcnd _
  have hval : ∀ (j : Nat) t v, Tryz.f11.params[j]? = some t → args[j]? = some v → Value.okWide Tryz.prog W .any base t v := hval0
  have hW' := hW
  have hlt := hW.lt
  obtain ⟨p, q, hA0, hV, rfl, hfz, hnd⟩ := hW
  have hA : DataW.TrodAll enc Tryz.prog W 0 (fun _ => true) true Tryz.f11.params.toList args.toList ds p := hA0
  rw [Tryz.params11] at hA hval
  obtain ⟨v, d, rfl, rfl, n, ht⟩ := trodAll_one hA
  obtain ⟨rfl, rfl⟩ := trodVars_none hV
  have hv := hval 0 62 v rfl rfl
  unfold Value.okWide at hv
  rw [Tryz.underlying62] at hv
  obtain ⟨cs, rfl, _, _⟩ := hv
  have ht : DataW.trod enc Tryz.prog W 0 (fun _ => true) true n 62 cs.toList = some (d, p) := ht
  obtain ⟨k, h, nn, s, B, A, rfl, hB, hA2⟩ := arg_shape ht
  clear hA0 hval0
  simp only [List.append_nil] at hW' hlt
  refine (Ev.none_walk k h nn s hB hA2 W).mono fun e W' ⟨he, hg⟩ => ?_
  subst he
  exact ⟨_, rfl, post_of_same_old (pa := p) (pv := []) hW' (fun _ _ _ => (trodAll_cons_mk (shut_bool Tryz.underlying4 _) trodAll_mk0))
    (fun sp hsp => trodAll_mk1 ⟨n, DataW.trod_stays kids sized (fun h => by cases h) (.inl rfl) ht (fun x hx => hg.same (hlt x hx)) (fun x hx => hsp x hx)⟩)
    (fun _ _ => rfl) (by simp)
    (hg.frame _) (Below.fz hg) (ok_one (by kernel_rfl) rfl (okWide_bool_mk Tryz.underlying4 _))⟩

theorem over : Rows.hostNoneRow.holds Tryz.pinned (OpenSpec.ofChange Rows.hostNoneSpec) :=
  OpenClaim.holds_of_wide 11 Tryz.f11 rfl rfl rfl rfl rfl rfl rfl ⟨rfl, rfl, rfl, rfl, rfl⟩ rfl rfl rfl rfl rfl at_name Tryz.func11 facts
    at_instance at_wrapper
    (fun os started H enc _ => lifted os started H enc)

/-- The statement. -/
theorem proved : Rows.HostNoneSaid :=
  over
#print axioms proved
end Go.Proofs.YthelmobipjekjaaGreat.hostNone
