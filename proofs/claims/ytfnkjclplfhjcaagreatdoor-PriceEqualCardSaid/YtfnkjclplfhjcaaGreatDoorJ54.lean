/- Parts 54, 55 of the abstract machine over this program, joined: what each part says stands at its head. -/
import Derived.Test.YtfnkjclplfhjcaaGreatDoorJ52
set_option linter.unusedSimpArgs false
set_option linter.unusedVariables false
/- The abstract machine, part 54: contracts: bills, bounds, spans, ends. -/
namespace Go.Am
open Go Go.Proofs

theorem bill_72 {h : Heap} (hk : HOK h) {a b c v : Value} {s : Sheet} {hs : List Int} (hsh : IsSheet h a b c s) (hv : LS h v hs ints 1) :
    CW CC 72 [.agg ⟨[a, b, c]⟩, v] h fun r h' => ∃ m, Fr h h' ∧ h.next ≤ m ∧ IsBill h' r s hs m ∧ HasMap h' m := by
  obtain ⟨p1, c1, rfl, _⟩ := hsh.offs.open
  obtain ⟨p2, c2, rfl, _⟩ := hsh.boards.open
  obtain ⟨p3, c3, rfl, _⟩ := hsh.tars.open
  obtain ⟨p4, c4, rfl, _⟩ := hv.open
  refine CW_in Tryz.f72 (by kernel_rfl) (by kernel_rfl) rfl rfl ?_
  simp only [Tryz.f72]
  simp (maxDischargeDepth := 30) only [AMS, AMH, ↓reduceIte, Nat.reduceLT, Nat.reduceEqDiff, Nat.reduceAdd, Nat.reduceMul, reduceCtorEq, decide_true, decide_false, Nat.reduceLeDiff, Int.reduceNe, Int.reduceEq, ne_eq, not_false_eq_true, and_self, bld_94, fld_94_0, fld_94_1, fld_94_2, ld_26, ld_94, size_92, size_94, sp_94_0, sp_94_1, sp_94_2, und_92, zero_92, zero_94, hk]
  have f : ∀ x y z w, Fr h ((((h.alloc x).alloc y).alloc z).set (h.next + 1) w) := fun x y z w => ((((Fr.refl hk).alloc x).alloc y).alloc z).set (by omega) (by simp) w
  refine ⟨h.next + 1 + 1, f _ _ _ _, by omega, ⟨_, _, _, _, rfl, hsh.fr hk (f _ _ _ _), hv.fr hk (f _ _ _ _)⟩, [], 0, ?_, fun e he => by simp at he⟩
  rw [Heap.get_set_ne _ _ (by omega)]
  exact get_at _ (by simp)

theorem span_27 (x y : Int) {h : Heap} (hk : HOK h) : CW CC 27 [.int .i64 x, .int .i64 y] h fun r h' => r = .agg ⟨[.int .i64 x, .int .i64 y]⟩ ∧ Fr h h' := by
  refine CW_in Tryz.f27 (by kernel_rfl) (by kernel_rfl) rfl rfl ?_
  simp only [Tryz.f27]
  simp (maxDischargeDepth := 30) only [AMS, AMH, ↓reduceIte, Nat.reduceLT, Nat.reduceEqDiff, Nat.reduceAdd, Nat.reduceMul, reduceCtorEq, decide_true, decide_false, Nat.reduceLeDiff, Int.reduceNe, Int.reduceEq, ne_eq, not_false_eq_true, and_self, bld_30, fld_30_0, fld_30_1, ld_30, size_30, sp_30_0, sp_30_1, zero_30, hk]
  exact ⟨trivial, ((Fr.refl hk).alloc _).set (Nat.le_refl _) (by simp) _⟩

def endOf (high : Bool) (b : Board) : Int := if high then b.hi else b.lo
def endsL (high : Bool) (bs : List Board) : List Int := bs.map (endOf high)

set_option maxRecDepth 10000 in
set_option maxHeartbeats 1000000 in
theorem ends_26 {h : Heap} (hk : HOK h) (hp : 0 < h.next) {a b c : Value} {s : Sheet} (hsh : IsSheet h a b c s) (high : Bool) (hn : s.boards.length ≤ 1000) :
    CW CC 26 [.agg ⟨[a, b, c]⟩, .bool high] h fun r h' => SL h.next h' r ((endsL high s.boards).flatMap ints) 1 s.boards.length ∧ Fr h h' := by
  obtain ⟨p1, c1, rfl, _⟩ := hsh.offs.open
  obtain ⟨p2, c2, rfl, x2⟩ := hsh.boards.open
  obtain ⟨p3, c3, rfl, _⟩ := hsh.tars.open
  refine CW_in Tryz.f26 (by kernel_rfl) (by kernel_rfl) rfl rfl ?_
  simp only [Tryz.f26]
  simp (maxDischargeDepth := 30) only [AMS, AMH, ↓reduceIte, Nat.reduceLT, Nat.reduceEqDiff, Nat.reduceAdd, Nat.reduceMul, reduceCtorEq, decide_true, decide_false, Nat.reduceLeDiff, Int.reduceNe, Int.reduceEq, ne_eq, not_false_eq_true, and_self, bs_22, fp_26_1, fp_30_0, fp_30_1, fp_72_2, ix_22, ix_23, ld_23, ld_3, len_23, part_3, part_72, size_22, size_23, size_3, size_72, und_22, und_23, zero_22, zero_23, hk]
  have f1 : Fr h (h.alloc (.row [.slice p1 s.offs.length c1, .slice p2 s.boards.length c2, .slice p3 s.tars.length c3] 0 true)) := (Fr.refl hk).alloc _
  have r1 : rowAt (h.alloc (.row [.slice p1 s.offs.length c1, .slice p2 s.boards.length c2, .slice p3 s.tars.length c3] 0 true)) h.next = some [.slice p1 s.offs.length c1, .slice p2 s.boards.length c2, .slice p3 s.tars.length c3] := rowAt_new _ _ _ _
  have m1 : h.next < (h.alloc (.row [.slice p1 s.offs.length c1, .slice p2 s.boards.length c2, .slice p3 s.tars.length c3] 0 true)).next := by simp
  refine W_loop s.boards.length (fun m' f h' => ∃ i, i ≤ s.boards.length ∧ m' = s.boards.length - i ∧ f 1 = .bool high ∧ f 2 = .pointer (some ⟨h.next, 0, none⟩) ∧ f 6 = .int .i64 i ∧
      SL h.next h' (f 5) (((endsL high s.boards).take i).flatMap ints) 1 i ∧ blkOf (f 5) ≠ some h.next ∧ Fr h h' ∧ h.next < h'.next ∧ rowAt h' h.next = some [.slice p1 s.offs.length c1, .slice p2 s.boards.length c2, .slice p3 s.tars.length c3])
    ⟨0, by omega, by omega, by simp [upd_at, argsFn_at], by simp [upd_at], by simp [upd_at], by simpa [upd_at] using SL.nil h.next _ 1, by simp [upd_at, blkOf], f1, m1, r1⟩ ?_
  clear f1 r1 m1
  rintro m' f h' ⟨i, hi, rfl, g1, g2, g6, q5, nb, fr, m2, r2⟩ ih
  have k' := fr.ok
  by_cases hil : i < s.boards.length
  · obtain ⟨x, gx⟩ : ∃ x, s.boards[i]? = some x := ⟨_, List.getElem?_eq_getElem hil⟩
    rcases x2 with hx | ⟨b2, o2, sp2, row2, rfl, rr2, x2⟩
    · rw [hx] at hil; simp at hil
    have rr2' := fr.row' hk rr2
    have e1 : row2[o2 + i * 5 + 2]? = some (.int .i64 x.lo) := by simpa [Board.cells] using (x2 _ _ gx).2 2 (by omega)
    have e2 : row2[o2 + i * 5 + 2 + 1]? = some (.int .i64 x.hi) := by simpa [Board.cells] using (x2 _ _ gx).2 3 (by omega)
    obtain ⟨h5, e5, q5', f5, n5, g5⟩ := append_one (ts := []) app_22 fr (by omega) q5 (v := .int .i64 (endOf high x)) rfl (by omega)
    have hrow : rowAt h5 h.next = some [.slice p1 s.offs.length c1, .slice (some ⟨b2, o2, sp2⟩) s.boards.length c2, .slice p3 s.tars.length c3] := by
      unfold rowAt; rw [g5 _ m2 nb]; exact r2
    have fin : SL h.next h5 (.slice (some ⟨h'.next + 1, 0, some 1⟩) (i + 1) (i + 1)) (((endsL high s.boards).take (i + 1)).flatMap ints) 1 (i + 1) := by
      have : (endsL high s.boards)[i]? = some (endOf high x) := by simp [endsL, gx]
      rw [take_snoc this, List.flatMap_append]
      simpa [ints] using q5'
    cases high with
    | true =>
      simp only [endOf, if_true] at e5
      simp (maxDischargeDepth := 30) only [AMS, AMH, ↓reduceIte, Nat.reduceLT, Nat.reduceEqDiff, Nat.reduceAdd, Nat.reduceMul, reduceCtorEq, decide_true, decide_false, Nat.reduceLeDiff, Int.reduceNe, Int.reduceEq, ne_eq, not_false_eq_true, and_self, bs_22, fp_26_1, fp_30_0, fp_30_1, fp_72_2, ix_22, ix_23, ld_23, ld_3, len_23, part_3, part_72, size_22, size_23, size_3, size_72, und_22, und_23, zero_22, zero_23, k', g1, g2, g6, r2, lt_t hil, hil, rr2', e1, e2, bs_22 (cells_int _ _), e5, i_next hil hn]
      refine ih (s.boards.length - (i + 1)) _ _ (by omega) ?_
      exact ⟨i + 1, by omega, rfl, by simp [upd_at, g1], by simp [upd_at, g2], by simp [upd_at], by simpa [upd_at] using fin, by simp [upd_at, blkOf]; omega, f5, by omega, hrow⟩
    | false =>
      simp only [endOf, Bool.false_eq_true, if_false] at e5
      simp (maxDischargeDepth := 30) only [AMS, AMH, ↓reduceIte, Nat.reduceLT, Nat.reduceEqDiff, Nat.reduceAdd, Nat.reduceMul, reduceCtorEq, decide_true, decide_false, Nat.reduceLeDiff, Int.reduceNe, Int.reduceEq, ne_eq, not_false_eq_true, and_self, bs_22, fp_26_1, fp_30_0, fp_30_1, fp_72_2, ix_22, ix_23, ld_23, ld_3, len_23, part_3, part_72, size_22, size_23, size_3, size_72, und_22, und_23, zero_22, zero_23, k', g1, g2, g6, r2, lt_t hil, hil, rr2', e1, e2, bs_22 (cells_int _ _), e5, i_next hil hn]
      refine ih (s.boards.length - (i + 1)) _ _ (by omega) ?_
      exact ⟨i + 1, by omega, rfl, by simp [upd_at, g1], by simp [upd_at, g2], by simp [upd_at], by simpa [upd_at] using fin, by simp [upd_at, blkOf]; omega, f5, by omega, hrow⟩
  · have : i = s.boards.length := by omega
    subst this
    simp (maxDischargeDepth := 30) only [AMS, AMH, ↓reduceIte, Nat.reduceLT, Nat.reduceEqDiff, Nat.reduceAdd, Nat.reduceMul, reduceCtorEq, decide_true, decide_false, Nat.reduceLeDiff, Int.reduceNe, Int.reduceEq, ne_eq, not_false_eq_true, and_self, bs_22, fp_26_1, fp_30_0, fp_30_1, fp_72_2, ix_22, ix_23, ld_23, ld_3, len_23, part_3, part_72, size_22, size_23, size_3, size_72, und_22, und_23, zero_22, zero_23, k', g1, g2, g6, r2, lt_f]
    refine ⟨?_, fr⟩
    rw [List.take_of_length_le (by simp [endsL])] at q5
    exact q5

set_option maxRecDepth 10000 in
set_option maxHeartbeats 1000000 in
theorem bounds_71 {h : Heap} (hk : HOK h) (hp : 0 < h.next) {a b c : Value} {s : Sheet} (hsh : IsSheet h a b c s) (hn : s.boards.length ≤ 1000) :
    CW CC 71 [.agg ⟨[a, b, c]⟩] h fun r h' => ∃ v w, r = .tuple ⟨[v, w]⟩ ∧ SL h.next h' v ((endsL false s.boards).flatMap ints) 1 s.boards.length ∧ SL h.next h' w ((endsL true s.boards).flatMap ints) 1 s.boards.length ∧ Fr h h' := by
  obtain ⟨p1, c1, rfl, _⟩ := hsh.offs.open
  obtain ⟨p2, c2, rfl, x2⟩ := hsh.boards.open
  obtain ⟨p3, c3, rfl, _⟩ := hsh.tars.open
  refine CW_in Tryz.f71 (by kernel_rfl) (by kernel_rfl) rfl rfl ?_
  simp only [Tryz.f71]
  simp (maxDischargeDepth := 30) only [AMS, AMH, ↓reduceIte, Nat.reduceLT, Nat.reduceEqDiff, Nat.reduceAdd, Nat.reduceMul, reduceCtorEq, decide_true, decide_false, Nat.reduceLeDiff, Int.reduceNe, Int.reduceEq, ne_eq, not_false_eq_true, and_self, bs_22, fp_26_1, fp_30_0, fp_30_1, fp_72_2, ix_22, ix_23, ld_23, ld_3, ld_72, len_23, part_3, part_72, size_22, size_23, size_3, size_72, und_22, und_23, zero_22, zero_23, zero_72, hk]
  have f1 : Fr h (h.alloc (.row [.slice p1 s.offs.length c1, .slice p2 s.boards.length c2, .slice p3 s.tars.length c3] 0 true)) := (Fr.refl hk).alloc _
  refine W_loop s.boards.length (fun m' f h' => ∃ i, i ≤ s.boards.length ∧ m' = s.boards.length - i ∧ f 9 = .slice p2 s.boards.length c2 ∧ f 10 = .int .i64 s.boards.length ∧ f 11 = .int .i64 i ∧
      SL h.next h' (f 4) (((endsL false s.boards).take i).flatMap ints) 1 i ∧ SL h.next h' (f 5) (((endsL true s.boards).take i).flatMap ints) 1 i ∧ (∀ b, blkOf (f 4) = some b → blkOf (f 5) ≠ some b) ∧ Fr h h' ∧ 0 < h'.next)
    ⟨0, by omega, by omega, by simp [upd_at], by simp [upd_at], by simp [upd_at], by simpa [upd_at] using SL.nil h.next _ 1, by simpa [upd_at] using SL.nil h.next _ 1, by simp [upd_at, blkOf], f1, by simp⟩ ?_
  clear f1
  rintro m' f h' ⟨i, hi, rfl, g9, g10, g11, q4, q5, nb, fr, m2⟩ ih
  have k' := fr.ok
  by_cases hil : i < s.boards.length
  · obtain ⟨x, gx⟩ : ∃ x, s.boards[i]? = some x := ⟨_, List.getElem?_eq_getElem hil⟩
    rcases x2 with hx | ⟨b2, o2, sp2, row2, rfl, rr2, x2⟩
    · rw [hx] at hil; simp at hil
    have rr2' := fr.row' hk rr2
    have e1 : take? row2 (o2 + i * 5) 5 = some x.cells := (x2 _ _ gx).1
    have kx : take? x.cells 0 5 = some x.cells := rfl
    have lx : x.cells.length = 5 := rfl
    have ax : allOne x.cells = true := rfl
    have cl : x.cells[2]? = some (.int .i64 x.lo) := rfl
    have ch : x.cells[3]? = some (.int .i64 x.hi) := rfl
    simp (maxDischargeDepth := 30) only [AMS, AMH, ↓reduceIte, Nat.reduceLT, Nat.reduceEqDiff, Nat.reduceAdd, Nat.reduceMul, reduceCtorEq, decide_true, decide_false, Nat.reduceLeDiff, Int.reduceNe, Int.reduceEq, ne_eq, not_false_eq_true, and_self, bs_22, fp_26_1, fp_30_0, fp_30_1, fp_72_2, ix_22, ix_23, ld_23, ld_3, ld_72, len_23, part_3, part_72, size_22, size_23, size_3, size_72, und_22, und_23, zero_22, zero_23, zero_72, k', g9, g10, g11, lt_t hil, hil, rr2', e1, kx, lx, ax]
    refine W_draw [(true, 0), (true, 1), (true, 2), (true, 3), (true, 4), (true, 6), (true, 7), (true, 8), (true, 9), (true, 10), (true, 5), (false, 9), (false, 10), (true, 11), (true, 12), (true, 13)] (by kernel_rfl) ?_
    -- the board's copy, then the two slices to be appended
    have fb : Fr h ((h'.alloc (.row [.int .i64 0, .int .i64 0, .int .i64 0, .int .i64 0, .int .i64 0] 0 true)).set h'.next (.row x.cells 0 true)) := (fr.alloc _).set (by have := fr.next; omega) (by simp) _
    have keepB : ∀ b, b < h'.next → ((h'.alloc (.row [.int .i64 0, .int .i64 0, .int .i64 0, .int .i64 0, .int .i64 0] 0 true)).set h'.next (.row x.cells 0 true)).get b = h'.get b := fun b hb => by
      rw [Heap.get_set_ne _ _ (by omega), Heap.get_alloc_ne _ _ (by omega)]
    have q4b := q4.keep fun b hb => keepB b (q4.blk_lt k' hb).2
    have q5b := q5.keep fun b hb => keepB b (q5.blk_lt k' hb).2
    have rB : rowAt ((h'.alloc (.row [.int .i64 0, .int .i64 0, .int .i64 0, .int .i64 0, .int .i64 0] 0 true)).set h'.next (.row x.cells 0 true)) h'.next = some x.cells := rowAt_set_self _ _ _ _ _
    have nB : ((h'.alloc (.row [.int .i64 0, .int .i64 0, .int .i64 0, .int .i64 0, .int .i64 0] 0 true)).set h'.next (.row x.cells 0 true)).next = h'.next + 1 := by simp
    have bl4 := fun b hb => (q4.blk_lt k' (b := b) hb).2
    have bl5 := fun b hb => (q5.blk_lt k' (b := b) hb).2
    generalize ((h'.alloc (.row [.int .i64 0, .int .i64 0, .int .i64 0, .int .i64 0, .int .i64 0] 0 true)).set h'.next (.row x.cells 0 true)) = hB at fb q4b q5b rB nB ⊢
    have kB := fb.ok
    have fC : Fr h ((hB.alloc (.row [.int .i64 x.lo] 1 true)).alloc (.row [.int .i64 x.hi] 1 true)) := (fb.alloc _).alloc _
    have q4c := (q4b.fr kB ((Fr.refl kB).alloc (.row [.int .i64 x.lo] 1 true))).fr (kB.alloc _) ((Fr.refl (kB.alloc _)).alloc (.row [.int .i64 x.hi] 1 true))
    have q5c := (q5b.fr kB ((Fr.refl kB).alloc (.row [.int .i64 x.lo] 1 true))).fr (kB.alloc _) ((Fr.refl (kB.alloc _)).alloc (.row [.int .i64 x.hi] 1 true))
    have rlo : rowAt ((hB.alloc (.row [.int .i64 x.lo] 1 true)).alloc (.row [.int .i64 x.hi] 1 true)) hB.next = some [.int .i64 x.lo] := by rw [rowAt_old _ (by simp), rowAt_new]
    have rhi : ((hB.alloc (.row [.int .i64 x.lo] 1 true)).alloc (.row [.int .i64 x.hi] 1 true)).get (hB.next + 1) = some (.row [.int .i64 x.hi] 1 true) := get_at _ (by simp)
    have rcc : rowAt ((hB.alloc (.row [.int .i64 x.lo] 1 true)).alloc (.row [.int .i64 x.hi] 1 true)) h'.next = some x.cells := by rw [rowAt_old _ (by simp; omega), rowAt_old _ (by omega)]; exact rB
    obtain ⟨h5, e5, q4', f5, n5, g5⟩ := append_at (ts := []) app_22 fC (by simp) q4c (x := .slice (some ⟨hB.next, 0, some 1⟩) 1 1) (new := [.int .i64 x.lo]) (m := 0) rfl (by
      show obind (rowAt _ hB.next) (fun cells => take? cells 0 (1 * 1)) = _
      rw [rlo]; rfl) rfl rfl (by omega)
    have n5' : h5.next = hB.next + 3 := by rw [n5]; simp
    have q5' : SL h.next h5 (f 5) (((endsL true s.boards).take i).flatMap ints) 1 i := q5c.keep fun b hb => g5 b (by simp; have := bl5 b hb; omega) (fun hc => nb b hc hb)
    have rhi5 : h5.get (hB.next + 1) = some (.row [.int .i64 x.hi] 1 true) := by
      rw [g5 _ (by simp) (fun hc => by have := bl4 _ hc; omega)]; exact rhi
    have rhi5' : rowAt h5 (hB.next + 1) = some [.int .i64 x.hi] := by unfold rowAt; rw [rhi5]; rfl
    have rcc5 : rowAt h5 h'.next = some x.cells := by
      unfold rowAt; rw [g5 _ (by simp; omega) (fun hc => by have := bl4 _ hc; omega)]; exact rcc
    obtain ⟨h7, e7, q5'', f7, n7, g7⟩ := append_at (ts := []) app_22 f5 (by omega) q5' (x := .slice (some ⟨hB.next + 1, 0, some 1⟩) 1 1) (new := [.int .i64 x.hi]) (m := 0) rfl (by
      show obind (rowAt _ (hB.next + 1)) (fun cells => take? cells 0 (1 * 1)) = _
      rw [rhi5']; rfl) rfl rfl (by omega)
    have q4'' : SL h.next h7 (.slice (some ⟨hB.next + 1 + 1, 0, some 1⟩) (i + 1) (i + 1)) (((endsL false s.boards).take (i + 1)).flatMap ints) 1 (i + 1) := by
      have : (endsL false s.boards)[i]? = some x.lo := by simp [endsL, endOf, gx]
      rw [take_snoc this, List.flatMap_append]
      have q : SL h.next h7 _ _ 1 (i + 1) := q4'.keep fun b hb => g7 b (by simp [sliceTo, blkOf] at hb; omega) (fun hc => by simp [sliceTo, blkOf] at hb; have := bl5 _ hc; omega)
      simpa [ints, sliceTo] using q
    have q5f : SL h.next h7 (.slice (some ⟨h5.next, 0, some 1⟩) (i + 1) (i + 1)) (((endsL true s.boards).take (i + 1)).flatMap ints) 1 (i + 1) := by
      have : (endsL true s.boards)[i]? = some x.hi := by simp [endsL, endOf, gx]
      rw [take_snoc this, List.flatMap_append]
      simpa [ints, sliceTo] using q5''
    simp only [sliceTo, Heap.next_alloc, Nat.zero_add] at e5 e7
    have kC := fC.ok
    have nlt : h'.next < hB.next := by omega
    simp (maxDischargeDepth := 30) only [AMS, AMH, ↓reduceIte, Nat.reduceLT, Nat.reduceEqDiff, Nat.reduceAdd, Nat.reduceMul, reduceCtorEq, decide_true, decide_false, Nat.reduceLeDiff, Int.reduceNe, Int.reduceEq, ne_eq, not_false_eq_true, and_self, AMR, bs_22, fp_26_1, fp_30_0, fp_30_1, fp_72_2, ix_22, ix_23, ld_23, ld_3, ld_72, len_23, part_3, part_72, size_22, size_23, size_3, size_72, und_22, und_23, zero_22, zero_23, zero_72, kB, f5.ok, g9, g10, g11, rB, nlt, cl, ch, rcc, rcc5, bs_22 (cells_int _ _), e5, e7, rhi5, i_next hil hn]
    refine ih (s.boards.length - (i + 1)) _ _ (by omega) ?_
    refine ⟨i + 1, by omega, rfl, by simp [upd_at, g9], by simp [upd_at, g10], by simp [upd_at], by simpa [upd_at] using q4'', by simpa [upd_at] using q5f, ?_, f7, by omega⟩
    simp [upd_at, blkOf]; omega
  · have : i = s.boards.length := by omega
    subst this
    simp (maxDischargeDepth := 30) only [AMS, AMH, ↓reduceIte, Nat.reduceLT, Nat.reduceEqDiff, Nat.reduceAdd, Nat.reduceMul, reduceCtorEq, decide_true, decide_false, Nat.reduceLeDiff, Int.reduceNe, Int.reduceEq, ne_eq, not_false_eq_true, and_self, bs_22, fp_26_1, fp_30_0, fp_30_1, fp_72_2, ix_22, ix_23, ld_23, ld_3, ld_72, len_23, part_3, part_72, size_22, size_23, size_3, size_72, und_22, und_23, zero_22, zero_23, zero_72, k', g9, g10, g11, lt_f]
    rw [List.take_of_length_le (by simp [endsL])] at q4 q5
    exact ⟨_, _, rfl, q4, q5, fr⟩
end Go.Am

/- The abstract machine, part 55: contracts: Total, Paid. -/
namespace Go.Am
open Go Go.Proofs

theorem hoursOK_at {bs : List Board} {l : List Int} (h : hoursOK bs l = true) : l.length = bs.length ∧ ∀ (i : Nat) x b, l[i]? = some x → bs[i]? = some b → b.lo ≤ x ∧ x ≤ b.hi := by
  unfold hoursOK at h
  obtain ⟨h1, h2⟩ := (Bool.and_eq_true _ _).mp h
  have h1 := of_decide_eq_true h1
  refine ⟨h1, fun i x b hx hb => ?_⟩
  have : (x, b) ∈ l.zip bs := List.mem_of_getElem? (i := i) (List.getElem?_zip_eq_some.2 ⟨hx, hb⟩)
  exact of_decide_eq_true (List.all_eq_true.1 h2 _ this)
theorem Sheet.ok_boards {s : Sheet} (h : s.ok = true) : ∀ b ∈ s.boards, b.ok s.offs.length = true := by
  unfold Sheet.ok at h
  simp only [Bool.and_eq_true] at h
  intro b hb
  have h2 := h.2.2.2.2.1
  rw [Bool.not_eq_true', List.any_eq_false] at h2
  have := h2 b hb
  simpa using this
theorem Sheet.ok_tars {s : Sheet} (h : s.ok = true) : ∀ t ∈ s.tars, t.ok = true := by
  unfold Sheet.ok at h
  simp only [Bool.and_eq_true] at h
  intro t ht
  have h2 := h.2.2.2.2.2
  rw [Bool.not_eq_true', List.any_eq_false] at h2
  have := h2 t ht
  simpa using this
theorem qtys_b {s : Sheet} {l : List Int} (h : s.ok = true) (hl : hoursOK s.boards l = true) (t : Tar) : ∀ x ∈ qtys t s.boards l, 0 ≤ x ∧ x ≤ 60 := by
  intro x hx
  obtain ⟨i, hi⟩ := List.mem_iff_getElem?.1 hx
  unfold qtys at hi
  rw [List.getElem?_map] at hi
  cases hz : (s.boards.zip l)[i]? with
  | none => rw [hz] at hi; simp at hi
  | some p =>
    rw [hz] at hi
    simp at hi
    obtain ⟨b, y⟩ := p
    rw [List.getElem?_zip_eq_some] at hz
    have hb := of_decide_eq_true (Sheet.ok_boards h b (List.mem_of_getElem? hz.1))
    have hy := (hoursOK_at hl).2 i y b hz.2 hz.1
    subst hi
    unfold qty
    simp only
    split
    · omega
    split
    · omega
    split
    · omega
    · omega

theorem LS.at {α : Type} {h : Heap} {p : Option Addr} {n c : Nat} {xs : List α} {f : α → List Value} {s : Nat} (hx : xs = [] ∨ ∃ b o sp row, p = some ⟨b, o, sp⟩ ∧ rowAt h b = some row ∧ ∀ (i : Nat) x, xs[i]? = some x → take? row (o + i * s) s = some (f x) ∧ ∀ j, j < s → row[o + i * s + j]? = (f x)[j]?) {i : Nat} {x : α} (hi : xs[i]? = some x) :
    ∃ b o sp row, p = some ⟨b, o, sp⟩ ∧ rowAt h b = some row ∧ take? row (o + i * s) s = some (f x) := by
  rcases hx with rfl | ⟨b, o, sp, row, e, hr, hx⟩
  · simp at hi
  · exact ⟨b, o, sp, row, e, hr, (hx i x hi).1⟩

set_option maxRecDepth 10000 in
set_option maxHeartbeats 1000000 in
theorem total_25 {h : Heap} (hk : HOK h) (hp : 0 < h.next) {a b c v : Value} {s : Sheet} {l : List Int} {i : Nat} {t : Tar} (hs : IsSheet h a b c s) (hv : LS h v l ints 1) (ok : s.ok = true) (hl : hoursOK s.boards l = true) (ht : s.tars[i]? = some t) :
    CW CC 25 [.agg ⟨[a, b, c]⟩, .int .i64 i, v] h fun r h' => r = .tuple ⟨[.int .i64 (paid t s.boards l), .int .i64 0]⟩ ∧ Fr h h' := by
  have hlen := Sheet.ok_len ok
  have hil := (List.getElem?_eq_some_iff.1 ht).1
  have hll := (hoursOK_at hl).1
  have htok := Sheet.ok_tars ok t (List.mem_of_getElem? ht)
  have hq := qtys_b ok hl t
  obtain ⟨p1, c1, rfl, _⟩ := hs.offs.open
  obtain ⟨p2, c2, rfl, _⟩ := hs.boards.open
  obtain ⟨p3, c3, rfl, x3⟩ := hs.tars.open
  obtain ⟨p4, c4, rfl, _⟩ := hv.open
  obtain ⟨b3, o3, sp3, row3, rfl, rr3, e3⟩ := LS.at (n := 0) (c := 0) x3 ht
  refine CW_in Tryz.f25 (by kernel_rfl) (by kernel_rfl) rfl rfl ?_
  simp only [Tryz.f25]
  have f1 : Fr h (h.alloc (.row [.slice p1 s.offs.length c1, .slice p2 s.boards.length c2, .slice (some ⟨b3, o3, sp3⟩) s.tars.length c3] 0 true)) := (Fr.refl hk).alloc _
  have r1 : rowAt (h.alloc (.row [.slice p1 s.offs.length c1, .slice p2 s.boards.length c2, .slice (some ⟨b3, o3, sp3⟩) s.tars.length c3] 0 true)) h.next = some [.slice p1 s.offs.length c1, .slice p2 s.boards.length c2, .slice (some ⟨b3, o3, sp3⟩) s.tars.length c3] := rowAt_new _ _ _ _
  obtain ⟨_, h2, e2, rfl, fr2⟩ := isOne_70 f1.ok (hs.fr hk f1) (i : Int) (by omega)
  have f2 := f1.trans fr2
  have r2 := fr2.row' f1.ok r1
  have hin : (s.ok && inP i 0 (s.tars.length - 1)) = true := by
    rw [ok]; simp [inP]; omega
  rw [hin] at e2
  obtain ⟨_, h3, e4, rfl, fr3⟩ := areHours_74 f2.ok (hs.fr hk f2) (hv.fr hk f2) (by omega) (by omega)
  rw [hl] at e4
  have f3 := f2.trans fr3
  have r3 := fr3.row' f2.ok r2
  have kt : take? t.cells 0 5 = some t.cells := rfl
  have kc : t.cells.all selfC = true := rfl
  simp (maxDischargeDepth := 30) only [AMS, AMH, ↓reduceIte, Nat.reduceLT, Nat.reduceEqDiff, Nat.reduceAdd, Nat.reduceMul, reduceCtorEq, decide_true, decide_false, Nat.reduceLeDiff, Int.reduceNe, Int.reduceEq, ne_eq, not_false_eq_true, and_self, fp_26_2, ix_24, ld_24, ld_26, ld_41, part_41, size_24, size_41, und_24, zero_24, hk, e2, f2.ok, r2, e4]
  refine W_draw [(true, 0), (true, 1), (true, 3), (true, 4), (true, 5), (true, 6), (true, 7), (true, 2), (false, 4), (false, 7), (true, 8), (true, 9), (true, 10)] (by kernel_rfl) ?_
  have rr3' := f3.row' hk rr3
  simp (maxDischargeDepth := 30) only [AMS, AMH, ↓reduceIte, Nat.reduceLT, Nat.reduceEqDiff, Nat.reduceAdd, Nat.reduceMul, reduceCtorEq, decide_true, decide_false, Nat.reduceLeDiff, Int.reduceNe, Int.reduceEq, ne_eq, not_false_eq_true, and_self, fp_26_2, ix_24, ld_24, ld_26, ld_41, part_41, size_24, size_41, und_24, zero_24, f3.ok, r3, hil, rr3', e3]
  refine W_callP (bill_72 f3.ok (hs.fr hk f3) (hv.fr hk f3)) ?_
  rintro bv h4 ⟨m, fr4, hm4, hb4, hmap⟩
  have f4 := f3.trans fr4
  have r4 := fr4.row' f3.ok r3
  have rr4' := f4.row' hk rr3
  simp (maxDischargeDepth := 30) only [AMS, AMH, ↓reduceIte, Nat.reduceLT, Nat.reduceEqDiff, Nat.reduceAdd, Nat.reduceMul, reduceCtorEq, decide_true, decide_false, Nat.reduceLeDiff, Int.reduceNe, Int.reduceEq, ne_eq, not_false_eq_true, and_self, AMR, fp_26_2, ix_24, ld_24, ld_26, ld_41, part_41, size_24, size_41, und_24, zero_24, f4.ok, r4, hil, rr4', e3, kc]
  refine W_callP (paid_73 (t := t) f4.ok (by have := f4.next; omega) hb4 hmap htok hll (by omega) fun x hx => by have := hq x hx; omega) ?_
  rintro _ h5 ⟨rfl, F5⟩
  simp (maxDischargeDepth := 30) only [AMS, AMH, ↓reduceIte, Nat.reduceLT, Nat.reduceEqDiff, Nat.reduceAdd, Nat.reduceMul, reduceCtorEq, decide_true, decide_false, Nat.reduceLeDiff, Int.reduceNe, Int.reduceEq, ne_eq, not_false_eq_true, and_self, AMR, fp_26_2, ix_24, ld_24, ld_26, ld_41, part_41, size_24, size_41, und_24, zero_24]
  exact ⟨trivial, F5.fr f4 (by have := f3.next; omega)⟩

set_option maxRecDepth 10000 in
set_option maxHeartbeats 1000000 in
theorem paid_24 {h : Heap} (hk : HOK h) (hp : 0 < h.next) {a b c : Value} {s : Sheet} {i : Nat} {t : Tar} (hs : IsSheet h a b c s) (ok : s.ok = true) (ht : s.tars[i]? = some t) (hlo : hoursOK s.boards (endsL false s.boards) = true) (hhi : hoursOK s.boards (endsL true s.boards) = true) :
    CW CC 24 [.agg ⟨[a, b, c]⟩, .int .i64 i] h fun r h' => r = .tuple ⟨[.agg ⟨[.int .i64 (paid t s.boards (endsL false s.boards)), .int .i64 (paid t s.boards (endsL true s.boards))]⟩, .int .i64 0]⟩ ∧ Fr h h' := by
  have hlen := Sheet.ok_len ok
  have hil := (List.getElem?_eq_some_iff.1 ht).1
  have htok := Sheet.ok_tars ok t (List.mem_of_getElem? ht)
  have hq1 := qtys_b ok hlo t
  have hq2 := qtys_b ok hhi t
  obtain ⟨p1, c1, rfl, _⟩ := hs.offs.open
  obtain ⟨p2, c2, rfl, _⟩ := hs.boards.open
  obtain ⟨p3, c3, rfl, x3⟩ := hs.tars.open
  obtain ⟨b3, o3, sp3, row3, rfl, rr3, e3⟩ := LS.at (n := 0) (c := 0) x3 ht
  refine CW_in Tryz.f24 (by kernel_rfl) (by kernel_rfl) rfl rfl ?_
  simp only [Tryz.f24]
  have fa : ∀ x y, Fr h ((h.alloc x).alloc y) := fun x y => ((Fr.refl hk).alloc x).alloc y
  have ra : ∀ y, rowAt ((h.alloc (.row [.slice p1 s.offs.length c1, .slice p2 s.boards.length c2, .slice (some ⟨b3, o3, sp3⟩) s.tars.length c3] 0 true)).alloc y) h.next = some [.slice p1 s.offs.length c1, .slice p2 s.boards.length c2, .slice (some ⟨b3, o3, sp3⟩) s.tars.length c3] := fun y => by rw [rowAt_old _ (by simp), rowAt_new]
  have rb : ∀ x (y : List Value), ((h.alloc x).alloc (.row y 0 true)).get (h.next + 1) = some (.row y 0 true) := fun x y => get_at _ (by simp)
  have hin : (s.ok && inP i 0 (s.tars.length - 1)) = true := by
    rw [ok]; simp [inP]; omega
  simp (maxDischargeDepth := 30) only [AMS, AMH, ↓reduceIte, Nat.reduceLT, Nat.reduceEqDiff, Nat.reduceAdd, Nat.reduceMul, reduceCtorEq, decide_true, decide_false, Nat.reduceLeDiff, Int.reduceNe, Int.reduceEq, ne_eq, not_false_eq_true, and_self, bld_30, fld_30_0, fld_30_1, fp_26_2, ix_24, ld_24, ld_26, ld_30, ld_41, part_41, size_24, size_30, size_41, sp_30_0, sp_30_1, und_24, zero_24, zero_30, zero_41, hk]
  refine W_call (isOne_70 (fa _ _).ok (hs.fr hk (fa _ _)) (i : Int) (by omega)) ?_
  rintro _ h2 ⟨rfl, fr2⟩
  rw [hin]
  have f2 := (fa _ _).trans fr2
  have r2 := fr2.row' (fa _ _).ok (ra _)
  have g2 := fr2.get' (fa _ _).ok (rb _ _)
  simp (maxDischargeDepth := 30) only [AMS, AMH, ↓reduceIte, Nat.reduceLT, Nat.reduceEqDiff, Nat.reduceAdd, Nat.reduceMul, reduceCtorEq, decide_true, decide_false, Nat.reduceLeDiff, Int.reduceNe, Int.reduceEq, ne_eq, not_false_eq_true, and_self, bld_30, fld_30_0, fld_30_1, fp_26_2, ix_24, ld_24, ld_26, ld_30, ld_41, part_41, size_24, size_30, size_41, sp_30_0, sp_30_1, und_24, zero_24, zero_30, zero_41, f2.ok, r2]
  refine W_call (bounds_71 f2.ok (by have := f2.next; omega) (hs.fr hk f2) (by omega)) ?_
  rintro _ h3 ⟨lo, hi, rfl, q1, q2, fr3⟩
  have f3 := f2.trans fr3
  have r3 := fr3.row' f2.ok r2
  have g3 := fr3.get' f2.ok g2
  have l1 : LS h3 lo (endsL false s.boards) ints 1 := SL.ls ints_len (by simpa [endsL] using q1)
  have l2 : LS h3 hi (endsL true s.boards) ints 1 := SL.ls ints_len (by simpa [endsL] using q2)
  have rr3' := f3.row' hk rr3
  have kt : take? t.cells 0 5 = some t.cells := rfl
  have kc : t.cells.all selfC = true := rfl
  have tl : t.cells.length = 5 := rfl
  have ta : allOne t.cells = true := rfl
  simp (maxDischargeDepth := 30) only [AMS, AMH, ↓reduceIte, Nat.reduceLT, Nat.reduceEqDiff, Nat.reduceAdd, Nat.reduceMul, reduceCtorEq, decide_true, decide_false, Nat.reduceLeDiff, Int.reduceNe, Int.reduceEq, ne_eq, not_false_eq_true, and_self, bld_30, fld_30_0, fld_30_1, fp_26_2, ix_24, ld_24, ld_26, ld_30, ld_41, part_41, size_24, size_30, size_41, sp_30_0, sp_30_1, und_24, zero_24, zero_30, zero_41, f3.ok, r3, hil, rr3', e3, tl, ta]
  refine W_draw [(true, 0), (true, 1), (true, 3), (true, 5), (true, 6), (true, 8), (true, 2), (false, 3), (false, 5), (false, 8), (true, 4), (false, 5), (false, 8), (true, 7), (false, 8), (true, 9), (true, 10), (true, 11), (true, 12)] (by kernel_rfl) ?_
  have f4 : Fr h ((h3.alloc (.row [.int .i64 0, .int .i64 0, .int .i64 0, .int .i64 0, .bool false] 0 true)).set h3.next (.row t.cells 0 true)) := (f3.alloc _).set (by have := f3.next; omega) (by simp) _
  have f34 : Fr h3 ((h3.alloc (.row [.int .i64 0, .int .i64 0, .int .i64 0, .int .i64 0, .bool false] 0 true)).set h3.next (.row t.cells 0 true)) := ((Fr.refl f3.ok).alloc _).set (Nat.le_refl _) (by simp) _
  have rt : rowAt ((h3.alloc (.row [.int .i64 0, .int .i64 0, .int .i64 0, .int .i64 0, .bool false] 0 true)).set h3.next (.row t.cells 0 true)) h3.next = some t.cells := rowAt_set_self _ _ _ _ _
  have n34 : h3.next < ((h3.alloc (.row [.int .i64 0, .int .i64 0, .int .i64 0, .int .i64 0, .bool false] 0 true)).set h3.next (.row t.cells 0 true)).next := by simp
  generalize ((h3.alloc (.row [.int .i64 0, .int .i64 0, .int .i64 0, .int .i64 0, .bool false] 0 true)).set h3.next (.row t.cells 0 true)) = h4 at f4 f34 rt n34 ⊢
  have r4 := f34.row' f3.ok r3
  have g4 := f34.get' f3.ok g3
  have n3 : h.next + 1 < h3.next := get_lt f3.ok g3
  simp (maxDischargeDepth := 30) only [AMS, AMH, ↓reduceIte, Nat.reduceLT, Nat.reduceEqDiff, Nat.reduceAdd, Nat.reduceMul, reduceCtorEq, decide_true, decide_false, Nat.reduceLeDiff, Int.reduceNe, Int.reduceEq, ne_eq, not_false_eq_true, and_self, bld_30, fld_30_0, fld_30_1, fp_26_2, ix_24, ld_24, ld_26, ld_30, ld_41, part_41, size_24, size_30, size_41, sp_30_0, sp_30_1, und_24, zero_24, zero_30, zero_41, f4.ok, r4, rt, kt]
  refine W_callP (bill_72 f4.ok (hs.fr hk f4) (l1.fr f3.ok f34)) ?_
  rintro bv h5 ⟨m, fr5, hm5, hb5, hmap5⟩
  have f5 := f4.trans fr5
  have r5 := fr5.row' f4.ok r4
  have g5 := fr5.get' f4.ok g4
  have rt5 := fr5.row' f4.ok rt
  simp (maxDischargeDepth := 30) only [AMS, AMH, ↓reduceIte, Nat.reduceLT, Nat.reduceEqDiff, Nat.reduceAdd, Nat.reduceMul, reduceCtorEq, decide_true, decide_false, Nat.reduceLeDiff, Int.reduceNe, Int.reduceEq, ne_eq, not_false_eq_true, and_self, AMR, bld_30, fld_30_0, fld_30_1, fp_26_2, ix_24, ld_24, ld_26, ld_30, ld_41, part_41, size_24, size_30, size_41, sp_30_0, sp_30_1, und_24, zero_24, zero_30, zero_41, f5.ok, r5, rt5, kt, kc]
  refine W_callP (paid_73 (t := t) f5.ok (by have := f5.next; omega) hb5 hmap5 htok (by simp [endsL]) (by omega) fun x hx => by have := hq1 x hx; omega) ?_
  rintro _ h6 ⟨rfl, F6⟩
  have f6 : Fr h h6 := F6.fr f5 (by have := f4.next; omega)
  have f46 : Fr h4 h6 := F6.fr fr5 hm5
  have r6 := f46.row' f4.ok r4
  have g6 := f46.get' f4.ok g4
  have rt6 := f46.row' f4.ok rt
  simp (maxDischargeDepth := 30) only [AMS, AMH, ↓reduceIte, Nat.reduceLT, Nat.reduceEqDiff, Nat.reduceAdd, Nat.reduceMul, reduceCtorEq, decide_true, decide_false, Nat.reduceLeDiff, Int.reduceNe, Int.reduceEq, ne_eq, not_false_eq_true, and_self, AMR, bld_30, fld_30_0, fld_30_1, fp_26_2, ix_24, ld_24, ld_26, ld_30, ld_41, part_41, size_24, size_30, size_41, sp_30_0, sp_30_1, und_24, zero_24, zero_30, zero_41, f6.ok, r6, rt6, kt, kc]
  refine W_callP (bill_72 f6.ok (hs.fr hk f6) (l2.fr f3.ok (f34.trans f46))) ?_
  rintro bv2 h7 ⟨m2, fr7, hm7, hb7, hmap7⟩
  have f7 := f6.trans fr7
  have r7 := fr7.row' f6.ok r6
  have g7 := fr7.get' f6.ok g6
  have rt7 := fr7.row' f6.ok rt6
  simp (maxDischargeDepth := 30) only [AMS, AMH, ↓reduceIte, Nat.reduceLT, Nat.reduceEqDiff, Nat.reduceAdd, Nat.reduceMul, reduceCtorEq, decide_true, decide_false, Nat.reduceLeDiff, Int.reduceNe, Int.reduceEq, ne_eq, not_false_eq_true, and_self, AMR, bld_30, fld_30_0, fld_30_1, fp_26_2, ix_24, ld_24, ld_26, ld_30, ld_41, part_41, size_24, size_30, size_41, sp_30_0, sp_30_1, und_24, zero_24, zero_30, zero_41, f7.ok, r7, rt7, kt, kc]
  refine W_callP (paid_73 (t := t) f7.ok (by have := f7.next; omega) hb7 hmap7 htok (by simp [endsL]) (by omega) fun x hx => by have := hq2 x hx; omega) ?_
  rintro _ h8 ⟨rfl, F8⟩
  have f8 : Fr h h8 := F8.fr f7 (by have := f6.next; omega)
  have f68 : Fr h6 h8 := F8.fr fr7 hm7
  have g8 := f68.get' f6.ok g6
  have l8 := get_lt f8.ok g8
  simp (maxDischargeDepth := 30) only [AMS, AMH, ↓reduceIte, Nat.reduceLT, Nat.reduceEqDiff, Nat.reduceAdd, Nat.reduceMul, reduceCtorEq, decide_true, decide_false, Nat.reduceLeDiff, Int.reduceNe, Int.reduceEq, ne_eq, not_false_eq_true, and_self, AMR, bld_30, fld_30_0, fld_30_1, fp_26_2, ix_24, ld_24, ld_26, ld_30, ld_41, part_41, size_24, size_30, size_41, sp_30_0, sp_30_1, und_24, zero_24, zero_30, zero_41, f8.ok, g8, l8]
  exact ⟨trivial, f8.set (by omega) l8 _⟩
end Go.Am
