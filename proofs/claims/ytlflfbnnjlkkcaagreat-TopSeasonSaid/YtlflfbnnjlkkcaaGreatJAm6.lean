/- Parts Am6, Am7, Am8, Am9 of the abstract machine over this program, joined: what each part says stands at its head. -/
import Derived.Test.YtlflfbnnjlkkcaaGreatJAm4
import Derived.Laws.BytesArg
import Derived.Laws.BytesString
set_option linter.unusedSimpArgs false
set_option linter.unusedVariables false
set_option linter.defProp false
namespace Go.Am
open Go
theorem fold_set (off : Nat) : ∀ (vs : List Value) (k : Nat) (cells : Array Value), off + k + vs.length ≤ cells.size →
    ((vs.zipIdx k).foldl (fun (cs : Array Value) (x : Value × Nat) => cs.setIfInBounds (off + x.2) x.1) cells).toList = cells.toList.take (off + k) ++ vs ++ cells.toList.drop (off + k + vs.length) := by
  intro vs
  induction vs with
  | nil => intro k cells h; simp
  | cons v vs ih =>
    intro k cells h
    simp only [List.zipIdx_cons, List.foldl_cons]
    rw [ih (k + 1) _ (by simp at h ⊢; omega)]
    have := list_seg_step cells.toList (off + k) v vs (by simp at h ⊢; omega)
    simpa [Array.toList_setIfInBounds, Nat.add_assoc] using this
theorem fold_zipIdx (vs cells : Array Value) (off : Nat) (h : off + vs.size ≤ cells.size) :
    (vs.zipIdx.foldl (fun cs (c, j) => cs.setIfInBounds (off + j) c) cells).toList = cells.toList.take off ++ (vs.toList ++ cells.toList.drop (off + vs.size)) := by
  rw [← Array.foldl_toList, Array.toList_zipIdx]
  have := fold_set off vs.toList 0 cells (by simpa using h)
  simpa [List.append_assoc] using this
theorem fill_sim {μ : Mu} {place : Nat → Option (Nat × Nat)} {ρ R : Operand → Value} : ∀ (ps : List (Nat × Operand)) (cells l : List Value) (CELLS : Array Value),
    (∀ p ∈ ps, VRel μ (ρ p.2) (R p.2)) → VRels μ cells CELLS.toList → fillWith place (ps.map fun p => (p.1, ρ p.2)) cells = some l →
    ∃ L, Instr.fill place CELLS (ps.map fun p => (p.1, R p.2)) = some L ∧ VRels μ l L.toList := by
  intro ps
  induction ps with
  | nil =>
    intro cells l CELLS _ hc h
    have : cells = l := by simpa [fillWith, lrec_nil] using h
    subst this
    exact ⟨CELLS, rfl, hc⟩
  | cons p ps ih =>
    intro cells l CELLS hp hc h
    have h : obind (fill1 place cells (p.1, ρ p.2)) (fillWith place (ps.map fun p => (p.1, ρ p.2))) = some l := h
    obtain ⟨cells', h1, h2⟩ := obind_eq h
    obtain ⟨⟨off, n⟩, hq, h3⟩ := obind_eq h1
    obtain ⟨h4, h5⟩ := guardB_eq h3
    obtain ⟨h6, h7⟩ := guardB_eq h5
    simp at h7
    have hv := (hp p (List.mem_cons_self ..)).cells
    have e4 : (cellsOf (ρ p.2)).length = n := Nat.eq_of_beq_eq_true h4
    have e6 : off + n ≤ cells.length := Nat.le_of_ble_eq_true h6
    have eS : (R p.2).cells.size = n := by have := hv.1; rw [e4] at this; simpa using this.symm
    have eC : CELLS.size = cells.length := by have := hc.1; simpa using this.symm
    have hz := fold_zipIdx (R p.2).cells CELLS off (by rw [eS, eC]; exact e6)
    obtain ⟨L, hL, hr⟩ := ih cells' l _ (fun q hq => hp q (List.mem_cons_of_mem _ hq)) (by
      rw [hz, ← h7, eS]
      exact (hc.take off).append (hv.append (hc.drop (off + n)))) h2
    refine ⟨L, ?_, hr⟩
    have hq' : place p.1 = some (off, n) := hq
    simp only [List.map_cons, Instr.fill, hq']
    rw [if_neg (by simp only [eS, eC, Bool.or_eq_true, decide_eq_true_eq]; omega)]
    exact hL
theorem fill_length {place : Nat → Option (Nat × Nat)} : ∀ (ps : List (Nat × Value)) (cells l : List Value), fillWith place ps cells = some l → l.length = cells.length := by
  intro ps
  induction ps with
  | nil => intro cells l h; have : cells = l := by simpa [fillWith, lrec_nil] using h
           rw [this]
  | cons p ps ih =>
    intro cells l h
    have h : obind (fill1 place cells p) (fillWith place ps) = some l := h
    obtain ⟨cells', h1, h2⟩ := obind_eq h
    obtain ⟨⟨off, n⟩, hq, h3⟩ := obind_eq h1
    obtain ⟨h4, h5⟩ := guardB_eq h3
    obtain ⟨h6, h7⟩ := guardB_eq h5
    simp at h7
    have e4 : (cellsOf p.2).length = n := Nat.eq_of_beq_eq_true h4
    have e6 : off + n ≤ cells.length := Nat.le_of_ble_eq_true h6
    rw [ih _ _ h2, ← h7]
    simp [e4]; omega
theorem mapM_run {α β : Type} {P : Program} {f : α → Sem β} {g : α → β} (w : World) (xs : Array α) (h : ∀ a ∈ xs.toList, (f a).run P w = .ok (g a) w) : (xs.mapM f).run P w = .ok (xs.map g) w := by
  rw [Array.mapM_eq_mapM_toList]
  have key : ∀ (l : List α), (∀ a ∈ l, (f a).run P w = .ok (g a) w) → (l.mapM f).run P w = .ok (l.map g) w := by
    intro l
    induction l with
    | nil => intro _; rfl
    | cons a l ih =>
      intro h
      rw [List.mapM_cons]
      simp [h a (List.mem_cons_self ..), ih (fun b hb => h b (List.mem_cons_of_mem _ hb))]
  simp only [Sem.run_map, key xs.toList h, Result.andThen_ok]
  congr 1
  apply Array.ext'; simp
theorem repeat_eq (z : List Value) : ∀ n, ((List.range (n * z.length)).map fun i => z[i % z.length]!) = repeatCells z n := by
  intro n
  induction n with
  | zero => simp [repeatCells, nrec_zero]
  | succ n ih =>
    have e : repeatCells z (n + 1) = z ++ repeatCells z n := rfl
    rw [e, ← ih, Nat.succ_mul, Nat.add_comm, List.range_add, List.map_append, List.map_map]
    congr 1
    · apply List.ext_getElem?
      intro i
      rw [List.getElem?_map]
      by_cases h : i < z.length
      · rw [List.getElem?_range h]
        simp [Nat.mod_eq_of_lt h, h]
      · simp [h]
    · apply List.map_congr_left
      intro i _
      simp
section
variable {C : Ctx} (hC : C.Ok0) {good : Code → Prop} {w0 : World} {μ : Mu} {h : Heap} {w : World}
include hC
theorem zero_cells {t : TypeId} {z : Value} (hz : C.zero t = some z) : VRels μ (cellsOf z) z.cells.toList := (VRel.ofPlain (zero_plain hC hz)).cells
theorem build_sim {t : TypeId} {ps : Array (Nat × Operand)} {ρ R : Operand → Value} {v : Value} (hp : ∀ p ∈ ps.toList, VRel μ (ρ p.2) (R p.2)) (hv : aBuild C t (partsOf ρ ps) = some v) :
    ∃ V, (Instr.build t (ps.map fun (i, x) => (i, R x))).run C.P w = .ok V w ∧ VRel μ v V := by
  obtain ⟨z, hz, h1⟩ := obind_eq hv
  obtain ⟨d, hd, h2⟩ := obind_eq h1
  obtain ⟨l, hl, h3⟩ := obind_eq h2
  simp at h3; subst h3
  have hzc := zero_cells (μ := μ) hC hz
  have hmap : ((ps.map fun (i, x) => (i, R x)) : Array (Nat × Value)).toList = ps.toList.map fun p => (p.1, R p.2) := by simp
  cases d <;> simp only [buildIn] at hl <;> try (simp at hl; done)
  · rename_i n e
    obtain ⟨s, hs, hl⟩ := obind_eq hl
    obtain ⟨L, hL, hr⟩ := fill_sim (R := R) ps.toList _ l z.cells hp hzc hl
    refine ⟨.agg L, ?_, .agg' hr⟩
    unfold Instr.build
    simp only [Sem.run_bind, zero_run hC hz, Result.andThen_ok, und_run hC hd, size_run hC hs, hmap]
    have : (fun i => some (i * s, s)) = rowPlace s := rfl
    rw [this, hL]
    rfl
  · rename_i fs
    obtain ⟨L, hL, hr⟩ := fill_sim (R := R) ps.toList _ l z.cells hp hzc hl
    refine ⟨.agg L, ?_, .agg' hr⟩
    have hS := hC.S t fs hd
    have hm := mapM_run (P := C.P) (f := fun f : Field => (do pure (f.offset, ← sizeOf f.type) : Sem (Nat × Nat))) (g := fun f => (f.offset, (C.size f.type).getD 0)) w fs (by
      intro f hf
      obtain ⟨n, hn⟩ := hS f hf
      simp [size_run hC hn, hn])
    unfold Instr.build
    simp only [Sem.run_bind, zero_run hC hz, Result.andThen_ok, und_run hC hd, hm, hmap]
    have hpl : (fun i => (fs.map fun f => (f.offset, (C.size f.type).getD 0))[i]?) = structPlace C t := by
      funext i
      rw [Array.getElem?_map]
      unfold structPlace Ctx.fieldAt
      rw [hd]
      simp only [obind_some, fieldIn, Array.getElem?_toList]
      cases hi : fs[i]? with
      | none => rfl
      | some f =>
        obtain ⟨n, hn⟩ := hS f (by rw [← Array.getElem?_toList] at hi; exact List.mem_of_getElem? hi)
        simp [hn]
    rw [hpl, hL]
    rfl
omit hC in
theorem newRow_rel {i : Nat} {l L : List Value} (hr : VRels μ l L) (hi : μ i = none) (el : TypeId) (s : Nat) (hsz : w0.heap.size ≤ w.heap.size) :
    ORel good w0.heap.size (μ.upd i ⟨w.heap.size, 0, L.length, s⟩) ⟨w.heap.size, 0, L.length, s⟩ (.row l s true) (some (.cells ⟨L⟩ el)) := by
  refine ⟨⟨L⟩, el, (0, 0), rfl, by simp, by rw [hr.1]; exact Nat.le_refl _, rfl, ?_, fun _ => ⟨hsz, fun j _ hj => by simp at hj⟩⟩
  have := (hr.mono (Mu.le_upd (i := i) ⟨w.heap.size, 0, L.length, s⟩ hi))
  rw [hr.1]
  simpa using this
omit hC in
theorem ptrTo_rel (i : Nat) (e : Spot) (hb : e.base = 0) : VRel (μ.upd i e) (ptrTo i) (.pointer (some ⟨e.blk, 0, none⟩)) :=
  .ptr _ _ ⟨rfl, e, Mu.upd_self _ _ _, rfl, by simp [hb]⟩
omit hC in
theorem sliceTo_rel (i : Nat) (e : Spot) (hb : e.base = 0) (hi0 : i ≠ 0) (n c C' : Nat) (hc : c ≤ C') (hn : n ≤ C') (hl : C' * e.esz ≤ e.lim) :
    VRel (μ.upd i e) (sliceTo e.esz n c i) (.slice (some ⟨e.blk, 0, none⟩) n C') :=
  .slice _ _ _ _ _ hc hn (.inr ⟨hi0, e, Mu.upd_self _ _ _, .inl ⟨rfl, rfl, by simp [hb], fun s hs => by simp at hs; subst hs; exact ⟨rfl, by simpa using hl⟩⟩⟩)
theorem alloc_sim (hsz : w0.heap.size ≤ w.heap.size) {t : TypeId} {ev : EV} (hv : aAlloc C t = some ev) :
    ∃ x mk V w' O lim esz, ev = .new x mk ∧ (Instr.alloc t true (.tuple #[])).run C.P w = .ok V w' ∧ Grew w w' O ∧
      ∀ i, μ i = none → i ≠ 0 → ORel good w0.heap.size (μ.upd i ⟨w.heap.size, 0, lim, esz⟩) ⟨w.heap.size, 0, lim, esz⟩ x (some O) ∧ VRel (μ.upd i ⟨w.heap.size, 0, lim, esz⟩) (mk i) V := by
  obtain ⟨z, hz, h1⟩ := obind_eq hv
  simp at h1
  refine ⟨_, _, .pointer (some ⟨w.heap.size, 0, none⟩), w.alloc (.cells z.cells t), .cells z.cells t, z.cells.toList.length, 0, h1.symm, ?_, Grew.alloc _ _, fun i hi hi0 => ⟨?_, ptrTo_rel i _ rfl⟩⟩
  · unfold Instr.alloc
    simp [zero_run hC hz, newVar, newRow]
  · exact newRow_rel (zero_cells hC hz) hi t 0 hsz
omit hC in
theorem box_sim {P : Program} (hsz : w0.heap.size ≤ w.heap.size) {t : TypeId} {v V : Value} {ev : EV} (hr : VRel μ v V) (hv : aBox v = some ev) :
    ∃ x mk V' w' O lim esz, ev = .new x mk ∧ (Instr.box t V).run P w = .ok V' w' ∧ Grew w w' O ∧
      ∀ i, μ i = none → i ≠ 0 → ORel good w0.heap.size (μ.upd i ⟨w.heap.size, 0, lim, esz⟩) ⟨w.heap.size, 0, lim, esz⟩ x (some O) ∧ VRel (μ.upd i ⟨w.heap.size, 0, lim, esz⟩) (mk i) V' := by
  simp [aBox] at hv
  refine ⟨_, _, .pointer (some ⟨w.heap.size, 0, none⟩), w.alloc (.cells V.cells t), .cells V.cells t, V.cells.toList.length, 0, hv.symm, ?_, Grew.alloc _ _, fun i hi hi0 => ⟨?_, ptrTo_rel i _ rfl⟩⟩
  · simp [Instr.box, newVar, newRow]
  · refine ⟨V.cells, t, (0, 0), rfl, by simp, by rw [hr.cells.1]; exact Nat.le_refl _, rfl, ?_, fun _ => ⟨hsz, fun j _ hj => by simp at hj⟩⟩
    have := (hr.cells.mono (Mu.le_upd (i := i) ⟨w.heap.size, 0, V.cells.toList.length, 0⟩ hi))
    rw [hr.cells.1]
    show VRels _ _ ((V.cells.toList.drop 0).take V.cells.toList.length)
    rw [List.drop_zero, List.take_length]
    exact this
omit hC in
theorem zeroRow_of {e : TypeId} {n s : Nat} {l : List Value} (hz : zeroRow C e n = some (l, s)) : ∃ z, C.size e = some s ∧ C.zero e = some z ∧ (cellsOf z).length = s ∧ l = repeatCells (cellsOf z) n := by
  obtain ⟨s', hs, h1⟩ := obind_eq hz
  obtain ⟨z, hzz, h2⟩ := obind_eq h1
  obtain ⟨h3, h4⟩ := guardB_eq h2
  simp at h4
  obtain ⟨rfl, rfl⟩ := h4
  exact ⟨z, hs, hzz, Nat.eq_of_beq_eq_true h3, rfl⟩
theorem zeroCells_run {e : TypeId} {n s : Nat} {l : List Value} (hz : zeroRow C e n = some (l, s)) : ∃ Z : Array Value,
    ((n * s = 0 ∧ Z = #[]) ∨ (n * s ≠ 0 ∧ ∃ z, (zeroValue e).run C.P w = .ok z w ∧ Z = z.cells)) ∧ VRels μ l (((Array.range (n * s)).map (Z[· % Z.size]!)).toList) := by
  obtain ⟨z, hs, hzz, hl, rfl⟩ := zeroRow_of hz
  have hc := zero_cells (μ := μ) hC hzz
  by_cases h0 : n * s = 0
  · refine ⟨#[], .inl ⟨h0, rfl⟩, ?_⟩
    have : repeatCells (cellsOf z) n = [] := by
      rw [← repeat_eq, hl, h0]; rfl
    rw [this, h0]
    simpa using VRels.nil
  · refine ⟨z.cells, .inr ⟨h0, z, zero_run hC hzz w, rfl⟩, ?_⟩
    have hzl : z.cells.size = s := by have := hc.1; rw [hl] at this; simpa using this.symm
    have e1 : ((Array.range (n * s)).map (z.cells[· % z.cells.size]!)).toList = repeatCells z.cells.toList n := by
      rw [← repeat_eq]
      simp only [Array.toList_map, Array.toList_range, Array.length_toList, hzl]
      apply List.map_congr_left
      intro a _
      rw [getElem!_def, getElem!_def, Array.getElem?_toList]
    rw [e1]
    clear e1 h0 hz
    induction n with
    | zero => exact VRels.nil
    | succ n ih => exact hc.append ih
theorem buildSlice_sim (hsz : w0.heap.size ≤ w.heap.size) {t : TypeId} {n : Nat} {ps : Array (Nat × Operand)} {ρ R : Operand → Value} {ev : EV} (hp : ∀ p ∈ ps.toList, VRel μ (ρ p.2) (R p.2))
    (hv : aBuildSlice C t n (partsOf ρ ps) = some ev) :
    ∃ x mk V w' O lim esz, ev = .new x mk ∧ (Instr.buildSlice t n (ps.map fun (i, x) => (i, R x))).run C.P w = .ok V w' ∧ Grew w w' O ∧
      ∀ i, μ i = none → i ≠ 0 → ORel good w0.heap.size (μ.upd i ⟨w.heap.size, 0, lim, esz⟩) ⟨w.heap.size, 0, lim, esz⟩ x (some O) ∧ VRel (μ.upd i ⟨w.heap.size, 0, lim, esz⟩) (mk i) V := by
  obtain ⟨d, hd, h1⟩ := obind_eq hv
  obtain ⟨e, he, h2⟩ := obind_eq h1
  obtain ⟨⟨z, s⟩, hz, h3⟩ := obind_eq h2
  obtain ⟨h4, h5⟩ := guardB_eq h3
  obtain ⟨l, hl, h6⟩ := obind_eq h5
  simp at h6
  have hb : ¬ n * s > 2 ^ 24 := by have := Nat.le_of_ble_eq_true h4; dsimp only at this; omega
  cases d <;> simp [sliceElem] at he
  rename_i el
  subst he
  obtain ⟨Z, hZ, hzr⟩ := zeroCells_run (μ := μ) (w := w) hC hz
  obtain ⟨zz, hs, hzz, hzl, hzeq⟩ := zeroRow_of hz
  obtain ⟨L, hL, hr⟩ := fill_sim (R := R) ps.toList _ l _ hp hzr hl
  have hmap : ((ps.map fun (i, x) => (i, R x)) : Array (Nat × Value)).toList = ps.toList.map fun p => (p.1, R p.2) := by simp
  have hLlen : L.toList.length = n * s := by
    rw [← hr.1, fill_length _ _ _ hl, hzr.1]
    simp
  refine ⟨_, _, .slice (some ⟨w.heap.size, 0, none⟩) n n, w.alloc (.cells L el), .cells L el, L.toList.length, s, h6.symm, ?_, Grew.alloc _ _, fun i hi hi0 => ⟨newRow_rel hr hi el s hsz, ?_⟩⟩
  · unfold Instr.buildSlice
    have hpl : (fun i => some (i * s, s)) = rowPlace s := rfl
    rcases hZ with ⟨h0, rfl⟩ | ⟨h0, zv, hzv, rfl⟩
    · simp only [Sem.run_bind, und_run hC hd, Result.andThen_ok, size_run hC hs, if_neg hb, if_pos h0, hmap, Sem.run_pure, hpl]
      dsimp only at hL
      rw [hL]
      rfl
    · simp only [Sem.run_bind, und_run hC hd, Result.andThen_ok, size_run hC hs, if_neg hb, if_neg h0, hmap, Sem.run_pure, hpl, hzv]
      dsimp only at hL
      rw [hL]
      rfl
  · exact sliceTo_rel i ⟨w.heap.size, 0, L.toList.length, s⟩ rfl hi0 n n n (Nat.le_refl _) (Nat.le_refl _) (by dsimp only; omega)
end
end Go.Am

namespace Go.Am
open Go
def ORelV (μ : Mu) : Option Value → Option Value → Prop
  | none, none => True
  | some v, some V => VRel μ v V
  | _, _ => False
theorem ORelV.map {μ : Mu} {ρ R : Operand → Value} {o : Option Operand} (h : ∀ x, o = some x → VRel μ (ρ x) (R x)) : ORelV μ (o.map ρ) (o.map R) := by
  cases o with
  | none => trivial
  | some x => exact h x rfl
def boundRun (O : Option Value) (y : Nat) (code : BoundsCode) (d : Nat) : Sem Nat :=
  match O with
  | some v => Instr.sliceBound v y code
  | none => pure d
theorem bound_sim {P : Program} {μ : Mu} {w : World} {hi y d n : Nat} {o O : Option Value} (hb : bound? hi d o = some n) (hr : ORelV μ o O) (hy : hi ≤ y) (code : BoundsCode) :
    (boundRun O y code d).run P w = .ok n w ∧ (O = none ∧ n = d ∨ n ≤ hi) := by
  cases o with
  | none =>
    cases O with
    | some V => exact hr.elim
    | none => simp [bound?] at hb; subst hb; exact ⟨rfl, .inl ⟨rfl, rfl⟩⟩
  | some v =>
    cases O with
    | none => exact hr.elim
    | some V =>
      cases v <;> simp only [bound?] at hb <;> try (simp at hb; done)
      rename_i k i
      obtain ⟨rfl, _, hle⟩ := natIn_eq hb
      have hV : V = .int k (n : Int) := VRel.int_inv hr
      subst hV
      refine ⟨?_, .inr hle⟩
      have h1 : (0 : Int) ≤ (n : Int) ∧ (n : Int) ≤ (y : Int) := ⟨by omega, by omega⟩
      simp [boundRun, Instr.sliceBound, asIntOf, h1]
section
variable {C : Ctx} (hC : C.Ok0) {good : Code → Prop} {w0 : World} {μ : Mu} {h : Heap} {w : World}
include hC
theorem makeSlice_sim (hsz : w0.heap.size ≤ w.heap.size) {t : TypeId} {l c L C' : Value} {ev : EV} (hl : VRel μ l L) (hc : VRel μ c C') (hv : aMakeSlice C t l c = some ev) :
    ∃ x mk V w' O lim esz, ev = .new x mk ∧ (Instr.makeSlice t L C').run C.P w = .ok V w' ∧ Grew w w' O ∧
      ∀ i, μ i = none → i ≠ 0 → ORel good w0.heap.size (μ.upd i ⟨w.heap.size, 0, lim, esz⟩) ⟨w.heap.size, 0, lim, esz⟩ x (some O) ∧ VRel (μ.upd i ⟨w.heap.size, 0, lim, esz⟩) (mk i) V := by
  obtain ⟨d, hd, h1⟩ := obind_eq hv
  obtain ⟨e, he, h2⟩ := obind_eq h1
  obtain ⟨ln, hln, h3⟩ := obind_eq h2
  obtain ⟨cn, hcn, h4⟩ := obind_eq h3
  obtain ⟨⟨z, s⟩, hz, h5⟩ := obind_eq h4
  obtain ⟨i, hi, h6⟩ := obind_eq h5
  obtain ⟨h7, h8⟩ := guardB_eq h6
  simp at h8
  simp only [Bool.and_eq_true] at h7
  obtain ⟨⟨b1, b2⟩, b3⟩ := h7
  have b1 := Nat.le_of_ble_eq_true b1
  have b2 := Nat.le_of_ble_eq_true b2
  have b3 := Nat.le_of_ble_eq_true b3
  cases d <;> simp [sliceElem] at he
  rename_i el
  subst he
  have hl1 : l = .int .i64 ln := by
    cases l <;> simp [natOfV] at hln
    rename_i k n
    cases k <;> cases n <;> simp [natOfV] at hln
    rw [hln]; rfl
  have hc1 : c = .int .i64 cn := by
    cases c <;> simp [natOfV] at hcn
    rename_i k n
    cases k <;> cases n <;> simp [natOfV] at hcn
    rw [hcn]; rfl
  subst hl1; subst hc1
  obtain rfl := hl.int_inv
  obtain rfl := hc.int_inv
  obtain ⟨Z, hZ, hzr⟩ := zeroCells_run (μ := μ) (w := w) hC hz
  obtain ⟨zz, hs, hzz, hzl, hzeq⟩ := zeroRow_of hz
  have wrap : ∀ n : Nat, n ≤ 4611686018427387904 → IntKind.i64.wrap (n : Int) = n := by
    intro n hn
    rw [IntKind.wrap_i64]; omega
  have wl := wrap ln (by omega)
  have wc := wrap cn b2
  have hlen : ((Array.range (cn * s)).map (Z[· % Z.size]!)).toList.length = cn * s := by simp
  have hcond : ¬ ((decide ((cn : Int) < 0) || decide ((i.bytes : Int) * (cn : Int) > 2 ^ 48)) = true ∨ (ln : Int) < 0 ∨ (ln : Int) > (cn : Int)) := by
    have : (i.bytes : Int) * (cn : Int) ≤ 70368744177664 := by
      have : ((cn * i.bytes : Nat) : Int) ≤ 70368744177664 := by omega
      rw [Int.natCast_mul, Int.mul_comm] at this; exact this
    simp only [Bool.or_eq_true, decide_eq_true_eq]
    omega
  refine ⟨_, _, .slice (some ⟨w.heap.size, 0, none⟩) ln cn, w.alloc (.cells ((Array.range (cn * s)).map (Z[· % Z.size]!)) el), .cells ((Array.range (cn * s)).map (Z[· % Z.size]!)) el, cn * s, s, h8.symm, ?_, Grew.alloc _ _, fun i hi hi0 => ⟨?_, ?_⟩⟩
  · unfold Instr.makeSlice
    rcases hZ with ⟨h0, rfl⟩ | ⟨h0, zv, hzv, rfl⟩
    all_goals
      simp only [Sem.run_bind, und_run hC hd, Result.andThen_ok, asInt, asIntOf, Sem.run_pure, info_run hC hi, wl, wc, Bool.or_eq_true, decide_eq_true_eq, Int.toNat_natCast, size_run hC hs]
      simp only [Bool.or_eq_true, decide_eq_true_eq] at hcond
      rw [if_neg (by omega)]
      simp only [Sem.run_bind, run_askRoom, Result.andThen_ok, size_run hC hs, Sem.run_pure]
    · rw [if_pos h0]; rfl
    · rw [if_neg h0]; simp only [Sem.run_bind, hzv, Result.andThen_ok, Sem.run_pure]; rfl
  · have := newRow_rel (good := good) (w0 := w0) (w := w) hzr hi el s hsz
    rw [hlen] at this
    exact this
  · exact sliceTo_rel i ⟨w.heap.size, 0, cn * s, s⟩ rfl hi0 ln cn cn (Nat.le_refl _) b1 (Nat.le_refl _)
omit hC in
theorem makeMap_sim {P : Program} (hsz : w0.heap.size ≤ w.heap.size) {t : TypeId} {r : Option Operand} {R : Operand → Value} {ev : EV} (hv : aMakeMap r = some ev) :
    ∃ x mk V w' O lim esz, ev = .new x mk ∧ (Instr.makeMap t (r.map R)).run P w = .ok V w' ∧ Grew w w' O ∧
      ∀ i, μ i = none → i ≠ 0 → ORel good w0.heap.size (μ.upd i ⟨w.heap.size, 0, lim, esz⟩) ⟨w.heap.size, 0, lim, esz⟩ x (some O) ∧ VRel (μ.upd i ⟨w.heap.size, 0, lim, esz⟩) (mk i) V := by
  cases r with
  | some r => simp [aMakeMap] at hv
  | none =>
    simp [aMakeMap] at hv
    refine ⟨_, _, .map (some w.heap.size), w.alloc (.map #[] 0), .map #[] 0, 0, 0, hv.symm, rfl, Grew.alloc _ _, fun i hi hi0 => ⟨?_, ?_⟩⟩
    · exact ⟨hsz, #[], rfl, rfl, fun j e E a _ => by simp at a⟩
    · exact .map i _ (Mu.upd_self _ _ _)
omit hC in
theorem sliceStr_sim {P : Program} {s : ByteArray} {lo hi LO HI : Option Value} {v : Value} (hlo : ORelV μ lo LO) (hhi : ORelV μ hi HI) (hv : sliceStr s.data.toList lo hi = some v) :
    (do let (l, h, _) ← Instr.sliceBounds false s.size s.size LO HI none; pure (.string (s.extract l h)) : Sem Value).run P w = .ok v w ∧ cellPlain v = true := by
  obtain ⟨b, hb, h1⟩ := obind_eq hv
  obtain ⟨a, ha, h2⟩ := obind_eq h1
  simp at h2; subst h2
  have hsz : s.data.toList.length = s.size := Array.length_toList
  rw [hsz] at hb
  have hbs := bound_sim (P := P) (w := w) (y := s.size) hb hhi (Nat.le_refl _) .sliceAlen
  have has := bound_sim (P := P) (w := w) (y := b) ha hlo (Nat.le_refl _) .sliceB
  refine ⟨?_, rfl⟩
  have e3 : (Instr.sliceBounds false s.size s.size LO HI none).run P w = .ok (a, b, s.size) w := by
    have e1 := hbs.1
    have e2 := has.1
    clear hbs has hb ha hv h1 hlo hhi
    unfold Instr.sliceBounds
    cases HI <;> cases LO <;> simp_all [boundRun]
  simp only [Sem.run_bind, e3, Result.andThen_ok, Sem.run_pure]
  congr 2
  apply ByteArray.ext
  apply Array.ext'
  simp [ByteArray.data_extract, List.extract_eq_take_drop]
end
end Go.Am

namespace Go.Am
open Go
theorem keepSpot_eq {n : Nat} {o : Option Nat} {s : Nat} (h : keepSpot n o = some s) : o = some s ∧ s = n := by
  cases o with
  | none => simp [keepSpot] at h
  | some t =>
    simp only [keepSpot] at h
    split at h
    · rename_i hb
      simp at h; subst h
      exact ⟨rfl, Nat.eq_of_beq_eq_true hb⟩
    · simp at h
section
variable {C : Ctx} (hC : C.Ok0) {good : Code → Prop} {w0 : World} {μ : Mu} {h : Heap} {w : World}
theorem shift_rel {a : Addr} {A : Addr} {CAP l n : Nat} (hs : SlRel μ a A CAP) (hl : l ≤ CAP) :
    ∃ x, shiftAddr l n (some a) = some x ∧ SlRel μ x (if CAP = l then A else A.add (l * n)) (CAP - l) := by
  obtain ⟨b, off, sp⟩ := a
  cases b with
  | zero =>
    refine ⟨⟨0, 0, none⟩, rfl, ?_⟩
    rcases hs with ⟨_, h2⟩ | ⟨h1, _⟩
    · exact .inl ⟨rfl, by omega⟩
    · exact absurd rfl h1
  | succ r =>
    refine ⟨⟨r + 1, off + l * n, keepSpot n sp⟩, rfl, ?_⟩
    rcases hs with ⟨h1, _⟩ | ⟨_, e, he, h2⟩
    · simp at h1
    · refine .inr ⟨by simp, e, he, ?_⟩
      by_cases hcl : CAP = l
      · exact .inr (by omega)
      · rcases h2 with ⟨s1, s2, s3, s4⟩ | h3
        · left
          rw [if_neg hcl, addr_add s1]
          refine ⟨rfl, s2, by dsimp only at s3 ⊢; omega, fun s hs => ?_⟩
          obtain ⟨e1, e2⟩ := keepSpot_eq hs
          obtain ⟨e3, e4⟩ := s4 s e1
          refine ⟨e3, ?_⟩
          subst e2
          dsimp only at e4 ⊢
          have : l * s + (CAP - l) * s = CAP * s := by rw [← Nat.add_mul]; congr 1; omega
          omega
        · omega
include hC
theorem slice_sim (h0 : ∀ i e, μ i = some e → i ≠ 0) {t : TypeId} {x X : Value} {lo hi mx LO HI MX : Option Value} {v : Value} (hx : VRel μ x X) (hlo : ORelV μ lo LO) (hhi : ORelV μ hi HI) (hmx : ORelV μ mx MX)
    (hv : aSlice C t x lo hi mx = some v) : ∃ V, (Instr.sliceAt t X LO HI MX).run C.P w = .ok V w ∧ VRel μ v V := by
  obtain ⟨d, hd, h1⟩ := obind_eq hv
  unfold Instr.sliceAt
  simp only [Sem.run_bind, und_run hC hd, Result.andThen_ok]
  cases d <;> simp only [sliceIn] at h1 <;> try (simp at h1; done)
  · split at h1
    · obtain rfl := hx.string_inv
      cases MX with
      | some _ => exact hmx.elim
      | none =>
        obtain ⟨p, q⟩ := sliceStr_sim (P := C.P) (w := w) hlo hhi h1
        refine ⟨v, ?_, .plain _ q⟩
        rw [← p]
        unfold Instr.slice
        simp only [Sem.run_bind, und_run hC hd, Result.andThen_ok, Option.isSome_none, Bool.false_eq_true, if_false]
    · simp at h1
  · rename_i el
    unfold Instr.slice
    simp only [Sem.run_bind, und_run hC hd, Result.andThen_ok]
    split at h1
    · rename_i p len cap
      cases MX with
      | some _ => exact hmx.elim
      | none =>
        obtain ⟨n, hn, h2'⟩ := obind_eq h1
        obtain ⟨hnl, h2⟩ := guardB_eq h2'
        have hnl := Nat.le_of_ble_eq_true hnl
        obtain ⟨b, hb, h3⟩ := obind_eq h2
        obtain ⟨a, ha, h4⟩ := obind_eq h3
        simp at h4; subst h4
        have key : ∀ (CAP : Nat), cap ≤ CAP → len ≤ CAP → (Instr.sliceBounds true len CAP LO HI none).run C.P w = .ok (a, b, CAP) w ∧ b ≤ CAP ∧ a ≤ b := by
          intro CAP hcc hlc
          have hb' : bound? CAP len hi = some b := by
            cases hi with
            | none => exact hb
            | some u =>
              cases u <;> simp only [bound?] at hb ⊢ <;> try (simp at hb; done)
              obtain ⟨e1, e2, e3⟩ := natIn_eq hb
              subst e1
              show guardB (Nat.ble 0 b && Nat.ble b CAP) (some b) = some b
              have : (Nat.ble 0 b && Nat.ble b CAP) = true := by
                rw [Bool.and_eq_true]; exact ⟨Nat.ble_eq_true_of_le (Nat.zero_le _), Nat.ble_eq_true_of_le (by omega)⟩
              rw [this]; rfl
          have hbs := bound_sim (P := C.P) (w := w) (y := CAP) hb' hhi (Nat.le_refl _) .sliceAcap
          have has := bound_sim (P := C.P) (w := w) (y := b) ha hlo (Nat.le_refl _) .sliceB
          refine ⟨?_, by rcases hbs.2 with ⟨_, e⟩ | e <;> omega, by rcases has.2 with ⟨_, e⟩ | e <;> omega⟩
          have e1 := hbs.1
          have e2 := has.1
          clear hbs has hb hb' ha hv h1 h2 h2' h3 hlo hhi
          unfold Instr.sliceBounds
          cases HI <;> cases LO <;> simp_all [boundRun]
        cases p with
        | none =>
          obtain rfl := hx.nilslice_inv
          obtain ⟨k1, k2, k3⟩ := key cap (Nat.le_refl _) hnl
          refine ⟨.slice none (b - a) (cap - a), ?_, .plain _ rfl⟩
          simp only [Sem.run_bind, k1, Result.andThen_ok, size_run hC hn, Sem.run_pure]
          congr 2
          by_cases hca : cap = a <;> simp [hca]
        | some p =>
          obtain ⟨A, CAP, rfl, hcc, hlc, hs⟩ := hx.slice_inv
          obtain ⟨k1, k2, k3⟩ := key CAP hcc hlc
          obtain ⟨y, hy, hr⟩ := shift_rel (n := n) hs (Nat.le_trans k3 k2)
          rw [hy]
          refine ⟨.slice (some (if CAP = a then A else A.add (a * n))) (b - a) (CAP - a), ?_, .slice _ _ _ _ _ (by omega) (by omega) hr⟩
          simp only [Sem.run_bind, k1, Result.andThen_ok, size_run hC hn, Sem.run_pure]
          congr 2
          by_cases hca : CAP = a <;> simp [hca]
    · rename_i p len cap m
      cases MX with
      | none => exact hmx.elim
      | some M =>
        obtain ⟨n, hn, h2⟩ := obind_eq h1
        obtain ⟨mm, hm, h3⟩ := obind_eq h2
        obtain ⟨hiv, hhv, h4⟩ := obind_eq h3
        obtain ⟨b, hb, h5⟩ := obind_eq h4
        obtain ⟨a, ha, h6⟩ := obind_eq h5
        subst hhv
        cases HI with
        | none => exact hhi.elim
        | some HI =>
        have key : ∀ (CAP : Nat), cap ≤ CAP → (Instr.sliceBounds true len CAP LO (some HI) (some M)).run C.P w = .ok (a, b, mm) w ∧ mm ≤ CAP ∧ b ≤ mm ∧ a ≤ b := by
          intro CAP hcc
          have hms := bound_sim (P := C.P) (w := w) (y := CAP) (d := cap) (O := some M) hm hmx hcc .slice3Acap
          have hbs := bound_sim (P := C.P) (w := w) (y := mm) (O := some HI) hb hhi (Nat.le_refl _) .slice3B
          have has := bound_sim (P := C.P) (w := w) (y := b) ha hlo (Nat.le_refl _) .slice3C
          have q1 : mm ≤ CAP := by
            rcases hms.2 with ⟨e, _⟩ | e
            · simp at e
            · omega
          have q2 : b ≤ mm := by
            rcases hbs.2 with ⟨e, _⟩ | e
            · simp at e
            · omega
          have q3 : a ≤ b := by rcases has.2 with ⟨_, e⟩ | e <;> omega
          refine ⟨?_, q1, q2, q3⟩
          have e0 := hms.1
          have e1 := hbs.1
          have e2 := has.1
          clear hms hbs has hb ha hv h1 h2 h3 h4 h5 hlo hhi hm hmx
          unfold Instr.sliceBounds
          cases LO <;> simp_all [boundRun]
        cases p with
        | none =>
          obtain rfl := hx.nilslice_inv
          obtain ⟨k1, k2, k3, k4⟩ := key cap (Nat.le_refl _)
          simp [slice3At] at h6; subst h6
          refine ⟨.slice none (b - a) (mm - a), ?_, .plain _ rfl⟩
          simp only [Sem.run_bind, k1, Result.andThen_ok, size_run hC hn, Sem.run_pure]
          congr 2
          by_cases hca : mm = a <;> simp [hca]
        | some p =>
          obtain ⟨A, CAP, rfl, hcc, hlc, hs⟩ := hx.slice_inv
          obtain ⟨k1, k2, k3, k4⟩ := key CAP hcc
          refine ⟨.slice (some (if mm = a then A else A.add (a * n))) (b - a) (mm - a), ?_, ?_⟩
          · simp only [Sem.run_bind, k1, Result.andThen_ok, size_run hC hn, Sem.run_pure]
            congr 2
            by_cases hca : mm = a <;> simp [hca]
          · simp only [slice3At] at h6
            split at h6
            · rename_i hz
              have := Nat.eq_of_beq_eq_true hz
              simp at h6; subst h6
              have e1 : b - a = 0 := by omega
              have e2 : mm - a = 0 := by omega
              rw [e1, e2]
              exact .slice _ _ _ _ _ (Nat.le_refl _) (Nat.le_refl _) (.inl ⟨rfl, rfl⟩)
            · rename_i hz
              obtain ⟨hnz, h7⟩ := guardB_eq h6
              simp at h7; subst h7
              have hma : mm ≠ a := by intro e; rw [e] at hz; simp at hz
              refine .slice _ _ _ _ _ (Nat.le_refl _) (by omega) ?_
              rw [if_neg hma]
              rcases hs with ⟨q1, q2⟩ | ⟨q1, e, he, q3⟩
              · omega
              · refine .inr ⟨q1, e, he, ?_⟩
                rcases q3 with ⟨s1, s2, s3, s4⟩ | q4
                · left
                  rw [addr_add s1]
                  refine ⟨rfl, s2, by dsimp only; omega, fun s hs => ?_⟩
                  obtain ⟨e1, e2⟩ := keepSpot_eq hs
                  obtain ⟨e3, e4⟩ := s4 s e1
                  refine ⟨e3, ?_⟩
                  subst e2
                  dsimp only
                  have t1 : a * s + (mm - a) * s = mm * s := by rw [← Nat.add_mul]; congr 1; omega
                  have t2 : mm * s ≤ CAP * s := Nat.mul_le_mul_right _ k2
                  omega
                · omega
    · simp at h1
  · rename_i n e
    cases mx with
    | some m => simp at h1
    | none =>
      cases MX with
      | some _ => exact hmx.elim
      | none =>
        obtain ⟨q, hq, h2⟩ := obind_eq h1
        obtain ⟨s, hs, h3⟩ := obind_eq h2
        obtain ⟨b, hb, h4⟩ := obind_eq h3
        obtain ⟨a, ha, h5⟩ := obind_eq h4
        obtain ⟨hne, h6⟩ := guardB_eq h5
        simp at h6; subst h6
        have hne : n ≠ a := beq_false_ne hne
        obtain rfl := ptrOf_eq hq
        obtain ⟨A, rfl, sp, ee, he, e1, e2⟩ := hx.ptr_inv
        have hbs := bound_sim (P := C.P) (w := w) (y := n) hb hhi (Nat.le_refl _) .sliceAlen
        have has := bound_sim (P := C.P) (w := w) (y := b) ha hlo (Nat.le_refl _) .sliceB
        have q1 : b ≤ n := by rcases hbs.2 with ⟨_, e⟩ | e <;> omega
        have q2 : a ≤ b := by rcases has.2 with ⟨_, e⟩ | e <;> omega
        have k1 : (Instr.sliceBounds false n n LO HI none).run C.P w = .ok (a, b, n) w := by
          have e1 := hbs.1
          have e2 := has.1
          clear hbs has hb ha hv h1 h2 h3 h4 h5 hlo hhi
          unfold Instr.sliceBounds
          cases HI <;> cases LO <;> simp_all [boundRun]
        refine ⟨.slice (some ⟨A.block, A.off + a * s, none⟩) (b - a) (n - a), ?_, .slice _ _ _ _ _ (Nat.le_refl _) (by omega) (.inr ⟨h0 _ _ he, ee, he, .inl ⟨rfl, e1, by dsimp only; omega, fun s hs => by simp at hs⟩⟩)⟩
        simp only [Instr.sureAddr, Sem.run_bind, Sem.run_pure, Result.andThen_ok, k1, size_run hC hs, if_neg hne, addr_add sp]
end
end Go.Am

namespace Go.Am
open Go
section
variable {C : Ctx} (hC : C.Ok0) {good : Code → Prop} {w0 : World} {μ : Mu} {h : Heap} {w : World}
theorem sliceCells_sim (H : HRel good w0 μ h w) {s n : Nat} {x X : Value} {l : List Value} (hn : lenOfV x = some n ∨ ∃ m, lenOfV x = some m ∧ n ≤ m) (hx : VRel μ x X) (hc : sliceCells h s n x = some l) :
    ∃ L : Array Value, (Builtin.firstCells s n X).run C.P w = .ok L w ∧ VRels μ l L.toList := by
  cases x with
  | slice p len cap =>
    cases p with
    | none =>
      obtain rfl := hx.nilslice_inv
      cases n with
      | zero => simp [sliceCells] at hc; subst hc; exact ⟨#[], by simp [Builtin.firstCells], .nil⟩
      | succ n => simp [sliceCells] at hc
    | some a =>
      obtain ⟨A, CAP, rfl, hcc, hlc, hsl⟩ := hx.slice_inv
      cases n with
      | zero =>
        simp [sliceCells] at hc; subst hc
        exact ⟨#[], by simp [Builtin.firstCells, loadCells, loadCellsFrom], .nil⟩
      | succ n =>
        simp only [sliceCells] at hc
        obtain ⟨cells, hcl, h2⟩ := obind_eq hc
        obtain ⟨e1, e2⟩ := take?_eq h2
        have hlen : n + 1 ≤ len := by
          rcases hn with h | ⟨m, h, hm⟩ <;> simp [lenOfV] at h <;> omega
        rcases hsl with ⟨_, hz⟩ | ⟨_, e, he, hz⟩
        · omega
        · rcases hz with ⟨s1, s2, s3, _⟩ | hz
          · obtain ⟨B, el, fz, x1, x2, x3, x5⟩ := H.row he hcl
            have hL : VRels μ l ((((B.toList.drop e.base).take cells.length).drop a.off).take ((n + 1) * s)) := by rw [e1]; exact (x5.drop _).take _
            generalize hLe : (((B.toList.drop e.base).take cells.length).drop a.off).take ((n + 1) * s) = L at hL
            have hget : ∀ j u, L[j]? = some u → w.cell? (A.add j) = some u := by
              intro j u hu
              rw [addr_add s1, s2, s3, cell_of_row w e.blk _ B el fz x1]
              rw [← hLe, List.getElem?_take] at hu
              split at hu
              · rw [List.getElem?_drop, List.getElem?_take] at hu
                split at hu
                · rw [List.getElem?_drop] at hu
                  rw [← Array.getElem?_toList, ← hu]; congr 1; omega
                · simp at hu
              · simp at hu
            refine ⟨L.toArray, ?_, by simpa using hL⟩
            exact run_firstCells_some w s (n + 1) A len CAP L (by rw [← hL.1]; exact e2) hget
          · omega
  | string b =>
    obtain rfl := hx.string_inv
    simp [sliceCells] at hc
    subst hc
    refine ⟨(b.extract 0 n).data.map fun x => .int .u8 x.toNat, by simp [Builtin.firstCells], ?_⟩
    have : ((b.extract 0 n).data.map fun x => Value.int .u8 x.toNat).toList = (b.data.toList.take n).map fun x => Value.int .u8 x.toNat := by
      simp [ByteArray.data_extract, List.extract_eq_take_drop]
    rw [this]
    rw [← List.map_take]
    refine VRels.plain (l := (b.data.toList.take n).map fun x => Value.int .u8 x.toNat) ?_
    apply List.all_eq_true.2
    intro x hx
    obtain ⟨y, _, rfl⟩ := List.mem_map.1 hx
    rfl
  | _ => simp [sliceCells] at hc
theorem byteOf_eq {v : Value} {x : UInt8} (h : byteOf v = some x) : ∃ n, v = .int .u8 n ∧ x = UInt8.ofNat n.toNat := by
  unfold byteOf at h
  split at h
  · simp at h; exact ⟨_, rfl, h.symm⟩
  · simp at h
theorem bytesOf_nums {l : List Value} : ∀ {b : List UInt8}, bytesOf l = some b → ∃ ns : List Int, l = ns.map (Value.int .u8) ∧ b = ns.map fun n => UInt8.ofNat n.toNat := by
  induction l with
  | nil => intro b hb; simp [bytesOf, lrec_nil] at hb; exact ⟨[], rfl, hb⟩
  | cons v l ih =>
    intro b hb
    have hb : obind (byteOf v) (fun x => obind (bytesOf l) fun t => some (x :: t)) = some b := hb
    obtain ⟨x, hx, h1⟩ := obind_eq hb
    obtain ⟨t, ht, h2⟩ := obind_eq h1
    simp at h2
    obtain ⟨ns, rfl, rfl⟩ := ih ht
    obtain ⟨n, rfl, hx'⟩ := byteOf_eq hx
    exact ⟨n :: ns, rfl, by rw [← h2, hx']; rfl⟩
include hC
theorem convert_sim (H : HRel good w0 μ h w) {s d : TypeId} {x X : Value} {v : Value} (hx : VRel μ x X) (hv : aConvert C s d x h = some (.val v)) :
    ∃ V, (convert s d X).run C.P w = .ok V w ∧ VRel μ v V := by
  obtain ⟨ds, hds, h1⟩ := obind_eq hv
  obtain ⟨dd, hdd, h2⟩ := obind_eq h1
  cases x <;> try (simp at h2; done)
  · rename_i k n
    obtain rfl := hx.int_inv
    simp only at h2
    cases dd <;> simp only [convInt] at h2 <;> try (simp at h2; done)
    · simp at h2; subst h2
      refine ⟨_, ?_, .plain _ rfl⟩
      unfold convert
      simp only [Sem.run_bind, und_run hC hds, und_run hC hdd, Result.andThen_ok]
      cases ds <;> rfl
    · obtain ⟨u, hu, h3⟩ := obind_eq h2
      simp [asVal] at h3; subst h3
      obtain ⟨p, q⟩ := pureStr_run hu w
      exact ⟨_, p, .plain _ q⟩
  · rename_i b
    obtain rfl := hx.string_inv
    simp only at h2
    unfold convStr at h2
    split at h2
    · simp at h2; subst h2
      refine ⟨_, ?_, .plain _ rfl⟩
      unfold convert
      simp only [Sem.run_bind, und_run hC hds, und_run hC hdd, Result.andThen_ok]
      cases ds <;> rfl
    · obtain ⟨d8, hd8, h3⟩ := obind_eq h2
      obtain ⟨_, h4⟩ := guardB_eq h3
      simp at h4
    · simp at h2
  · rename_i p n cap
    simp only at h2
    unfold convSl at h2
    split at h2
    · rename_i e
      obtain ⟨d8, hd8, h3⟩ := obind_eq h2
      obtain ⟨h8, h4⟩ := guardB_eq h3
      obtain ⟨l, hl, h5⟩ := obind_eq h4
      obtain ⟨b, hb, h6⟩ := obind_eq h5
      simp at h6; subst h6
      have hu8 : d8 = .int .u8 := by
        cases d8 <;> simp [isU8] at h8
        rename_i k; cases k <;> simp at h8 ⊢
      subst hu8
      obtain ⟨L, hL, hr⟩ := sliceCells_sim H (.inl rfl) hx hl
      obtain ⟨ns, rfl, rfl⟩ := bytesOf_nums hb
      have hLe : L.toList = ns.map (Value.int .u8) := hr.basic (by simp [List.all_eq_true, basic])
      have hLe' : L = (ns.map (Value.int .u8)).toArray := by apply Array.ext'; rw [hLe]
      subst hLe'
      have key : ∀ X', (convert s d X').run C.P w = (Conv.bytesToString X').run C.P w → X' = X → ∃ V, (convert s d X).run C.P w = .ok V w ∧ VRel μ (mkStr (ns.map fun n => UInt8.ofNat n.toNat)) V := by
        intro X' he hX
        subst hX
        refine ⟨mkStr (ns.map fun n => UInt8.ofNat n.toNat), ?_, .plain _ rfl⟩
        rw [he]
        cases p with
        | none =>
          obtain rfl := hx.nilslice_inv
          have : ns = [] := by
            cases n with
            | zero => simp [sliceCells] at hl; exact hl
            | succ n => simp [sliceCells] at hl
          subst this
          rfl
        | some a =>
          obtain ⟨A, CAP, rfl, _⟩ := hx.slice_inv
          have := run_bytesToString w A n CAP ns (by simpa [Builtin.firstCells] using hL)
          rw [this, foldl_push_bytes]
          congr 2
          apply ByteArray.ext
          simp [mkStr]
      cases p with
      | none => obtain rfl := hx.nilslice_inv; exact key _ (run_convert_bytes_string w s d e none n cap (und_of hC hds) (und_of hC hd8) (und_of hC hdd)) rfl
      | some a => obtain ⟨A, CAP, rfl, _⟩ := hx.slice_inv; exact key _ (run_convert_bytes_string w s d e (some A) n CAP (und_of hC hds) (und_of hC hd8) (und_of hC hdd)) rfl
    · simp at h2
omit hC in
theorem findMethod_eq {t : TypeId} {name : String} {f : FuncId} (h : findMethod C t name = some f) :
    ∃ i m d b, C.T.get t = some i ∧ i.methods.toList.find? (fun m => m.name == name) = some m ∧ m.path = #[] ∧ m.func = some (f, b) ∧ C.und t = some d ∧ b = isPtrD d := by
  obtain ⟨i, hi, h1⟩ := obind_eq h
  obtain ⟨m, hm, h2⟩ := obind_eq h1
  obtain ⟨d, hd, h3⟩ := obind_eq h2
  unfold methodFor at h3
  split at h3
  · rename_i f' b hp hf
    obtain ⟨h4, h5⟩ := guardB_eq h3
    simp at h5; subst h5
    refine ⟨i, m, d, b, hi, hm, ?_, hf, hd, by simpa using h4⟩
    apply Array.ext'; rw [hp]
  · simp at h3
theorem nilAhead_sim {t : TypeId} {name : String} {f : FuncId} {V : Value} (h : findMethod C t name = some f) (n : Nat) : (nilAhead (n + 1) t V name).run C.P w = .ok (some false) w := by
  obtain ⟨i, m, d, b, hi, hm, hp, hf, hd, hb⟩ := findMethod_eq h
  have hm' : i.methods.find? (fun m => m.name == name) = some m := by rw [← Array.find?_toList]; exact hm
  unfold nilAhead
  simp only [Sem.run_bind, info_run hC hi, Result.andThen_ok, hm', hp, followBlind, Sem.run_pure, hf]
  cases b with
  | true => rfl
  | false =>
    simp only [Sem.run_bind, und_run hC hd, Result.andThen_ok]
    cases d <;> simp [isPtrD] at hb <;> rfl
theorem method_sim {t : TypeId} {name : String} {f : FuncId} {V : Value} (h : findMethod C t name = some f) (n : Nat) : (method (n + 1) t V name).run C.P w = .ok (f, V) w := by
  obtain ⟨i, m, d, b, hi, hm, hp, hf, hd, hb⟩ := findMethod_eq h
  have hm' : i.methods.find? (fun m => m.name == name) = some m := by rw [← Array.find?_toList]; exact hm
  unfold method
  simp only [Sem.run_bind, info_run hC hi, Result.andThen_ok, hm', hp, follow, Sem.run_pure, hf]
  unfold receiverAt
  simp only [Sem.run_bind, und_run hC hd, Result.andThen_ok]
  cases b with
  | true => cases d <;> simp [isPtrD] at hb; rfl
  | false => cases d <;> simp [isPtrD] at hb <;> rfl
omit hC in
theorem extract_sim {P : Program} {x X : Value} {i : Nat} {ev : EV} (hx : VRel μ x X) (hv : aExtract x i = some ev) : ∃ v V, ev = .val v ∧ (Instr.extract X i).run P w = .ok V w ∧ VRel μ v V := by
  obtain ⟨vs, h1, h2⟩ := obind_eq hv
  obtain ⟨v, h3, h4⟩ := obind_eq h2
  cases x <;> simp [tupOf] at h1
  subst h1
  obtain ⟨Xs, rfl, hs⟩ := hx.tuple_inv
  obtain ⟨V, hV, hr⟩ := hs.get h3
  simp [asVal] at h4
  rw [Array.getElem?_toList] at hV
  exact ⟨v, V, h4.symm, by simp [Instr.extract, hV], hr⟩
theorem assert_sim {x X v : Value} {xt t : TypeId} {ok : Bool} (hx : VRel μ x X) (hv : aTypeAssert C x t ok = some v) : ∃ V, (Instr.typeAssert X xt t ok).run C.P w = .ok V w ∧ VRel μ v V := by
  obtain ⟨d, hd, h1⟩ := obind_eq hv
  obtain ⟨hni, h2⟩ := guardB_eq h1
  obtain ⟨z, hz, h3⟩ := obind_eq h2
  have hzr : VRel μ z z := .ofPlain (zero_plain hC hz)
  have two : ∀ a A : Value, ∀ b : Bool, VRel μ a A → VRel μ (mkTup [a, .bool b]) (.tuple #[A, .bool b]) := fun a A b h => .tup' (.cons h (.cons (.plain _ rfl) .nil))
  unfold Instr.typeAssert
  simp only [Sem.run_bind, und_run hC hd, Result.andThen_ok]
  cases x <;> simp only [assertOn] at h3 <;> try (simp at h3; done)
  · rename_i u y
    obtain ⟨Y, rfl, hy⟩ := hx.iface_inv
    by_cases hut : u = t
    · subst hut
      simp only [Nat.beq_refl] at h3
      cases ok with
      | true => simp at h3; subst h3; exact ⟨.tuple #[Y, .bool true], by cases d <;> simp [isIfaceD] at hni <;> simp, two _ _ _ hy⟩
      | false => simp at h3; subst h3; exact ⟨Y, by cases d <;> simp [isIfaceD] at hni <;> simp, hy⟩
    · have hb : Nat.beq u t = false := by cases hb : Nat.beq u t with | false => rfl | true => exact absurd (Nat.eq_of_beq_eq_true hb) hut
      simp only [hb] at h3
      obtain ⟨hok, h4⟩ := guardB_eq h3
      simp at h4; subst h4; subst hok
      exact ⟨.tuple #[z, .bool false], by cases d <;> simp [isIfaceD] at hni <;> simp [hut, zero_run hC hz], two _ _ _ hzr⟩
  · obtain rfl := hx.nilIface_inv
    obtain ⟨hok, h4⟩ := guardB_eq h3
    simp at h4; subst h4; subst hok
    exact ⟨.tuple #[z, .bool false], by cases d <;> simp [isIfaceD] at hni <;> simp [zero_run hC hz], two _ _ _ hzr⟩
end
end Go.Am
