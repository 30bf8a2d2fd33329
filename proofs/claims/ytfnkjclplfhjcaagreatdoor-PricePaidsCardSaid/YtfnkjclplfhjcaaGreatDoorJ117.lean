/- Parts 117 of the abstract machine over this program, joined: what each part says stands at its head. -/
import Derived.Test.YtfnkjclplfhjcaaGreatDoorJ114
set_option linter.unusedSimpArgs false
set_option linter.unusedVariables false
/- The abstract machine, part 117: the statement PricePaids. -/
namespace Go.Am
open Go Go.Proofs

theorem ne_30 (c : Bool) (x y : Int) : aBin CC .neq 30 c (.agg ⟨[.int .i64 x, .int .i64 y]⟩) (.agg ⟨[.int .i64 x, .int .i64 y]⟩) = some (.bool false) := by
  rw [A_neq CC 30 c [.int .i64 x, .int .i64 y] [.int .i64 x, .int .i64 y] eqOk_30 (like_30 x y) rfl]
  simp only [cellsEq_int, cellsEq_nil, beq_self_eq_true, Bool.and_self, obind_some]
  rfl

set_option maxRecDepth 10000 in
set_option maxHeartbeats 4000000 in
theorem paids_18 {h : Heap} (hk : HOK h) (hp : 0 < h.next) {a b c v : Value} {s : Sheet} {l : List Int} (hs : IsSheet h a b c s) (hv : LS h v l ints 1) (t : Int) :
    CW CC 18 [.agg ⟨[a, b, c]⟩, .int .i64 t, v] h fun r h' => r = .bool true ∧ Fr h h' := by
  have z00 : ((0 : Int) == 0) = true := rfl
  have z22 : ((2 : Int) == 2) = true := rfl
  have n00 : ((0 : Int) != 0) = false := rfl
  obtain ⟨p1, c1, rfl, _⟩ := hs.offs.open
  obtain ⟨p2, c2, rfl, _⟩ := hs.boards.open
  obtain ⟨p3, c3, rfl, x3⟩ := hs.tars.open
  obtain ⟨p4, c4, rfl, _⟩ := hv.open
  refine CW_in Tryz.f18 (by kernel_rfl) (by kernel_rfl) rfl rfl ?_
  simp only [Tryz.f18]
  have f1 : Fr h (h.alloc (.row [.slice p1 s.offs.length c1, .slice p2 s.boards.length c2, .slice p3 s.tars.length c3] 0 true)) := (Fr.refl hk).alloc _
  have r1 : rowAt (h.alloc (.row [.slice p1 s.offs.length c1, .slice p2 s.boards.length c2, .slice p3 s.tars.length c3] 0 true)) h.next = some [.slice p1 s.offs.length c1, .slice p2 s.boards.length c2, .slice p3 s.tars.length c3] := rowAt_new _ _ _ _
  obtain ⟨_, h2, e2, rfl, fr2⟩ := short_28 p1 p2 p3 s.offs.length c1 s.boards.length c2 s.tars.length c3 _ f1.ok
  have f2 := f1.trans fr2
  have r2 := fr2.row' f1.ok r1
  cases i1 : decide ((s.offs.length : Int) ≤ 5 ∧ (s.boards.length : Int) ≤ 6 ∧ (s.tars.length : Int) ≤ 5) with
  | false =>
    rw [i1] at e2
    simp (maxDischargeDepth := 30) only [AMS, AMH, ↓reduceIte, Nat.reduceLT, Nat.reduceEqDiff, Nat.reduceAdd, Nat.reduceMul, reduceCtorEq, decide_true, decide_false, Nat.reduceLeDiff, Int.reduceNe, Int.reduceEq, ne_eq, not_false_eq_true, and_self, bld_30, fld_30_0, fld_30_1, fp_26_2, ix_24, ld_24, ld_26, ld_30, ld_41, part_41, size_24, size_30, size_41, sp_30_0, sp_30_1, und_24, zero_24, zero_30, zero_41, hk, e2, known_23]
    exact ⟨trivial, f2⟩
  | true =>
  rw [i1] at e2
  have i1' := of_decide_eq_true i1
  cases i2 : decide ((l.length : Int) ≤ 7) with
  | false =>
    simp (maxDischargeDepth := 30) only [AMS, AMH, ↓reduceIte, Nat.reduceLT, Nat.reduceEqDiff, Nat.reduceAdd, Nat.reduceMul, reduceCtorEq, decide_true, decide_false, Nat.reduceLeDiff, Int.reduceNe, Int.reduceEq, ne_eq, not_false_eq_true, and_self, bld_30, fld_30_0, fld_30_1, fp_26_2, ix_24, ld_24, ld_26, ld_30, ld_41, part_41, size_24, size_30, size_41, sp_30_0, sp_30_1, und_24, zero_24, zero_30, zero_41, hk, e2, slim_29, i2, known_23]
    exact ⟨trivial, f2⟩
  | true =>
  have i2' := of_decide_eq_true i2
  simp (maxDischargeDepth := 30) only [AMS, AMH, ↓reduceIte, Nat.reduceLT, Nat.reduceEqDiff, Nat.reduceAdd, Nat.reduceMul, reduceCtorEq, decide_true, decide_false, Nat.reduceLeDiff, Int.reduceNe, Int.reduceEq, ne_eq, not_false_eq_true, and_self, bld_30, fld_30_0, fld_30_1, fp_26_2, ix_24, ld_24, ld_26, ld_30, ld_41, part_41, size_24, size_30, size_41, sp_30_0, sp_30_1, und_24, zero_24, zero_30, zero_41, hk, e2, slim_29, i2, f2.ok, r2]
  cases j1 : s.ok with
  | false =>
    refine W_call (check_60 f2.ok (hs.fr hk f2)) ?_
    rintro _ h3 ⟨rfl, fr3⟩
    have f3 := f2.trans fr3
    have r3 := fr3.row' f2.ok r2
    rw [j1]
    simp (maxDischargeDepth := 30) only [AMS, AMH, ↓reduceIte, Nat.reduceLT, Nat.reduceEqDiff, Nat.reduceAdd, Nat.reduceMul, reduceCtorEq, decide_true, decide_false, Nat.reduceLeDiff, Int.reduceNe, Int.reduceEq, ne_eq, not_false_eq_true, and_self, bld_30, fld_30_0, fld_30_1, fp_26_2, ix_24, ld_24, ld_26, ld_30, ld_41, part_41, size_24, size_30, size_41, sp_30_0, sp_30_1, und_24, zero_24, zero_30, zero_41, f3.ok, r3]
    refine W_call (paid_24_bad f3.ok t (hs.fr hk f3) (by omega) (by rw [j1]; rfl)) ?_
    rintro _ h4 ⟨rfl, fr4⟩
    have f4 := f3.trans fr4
    have r4 := fr4.row' f3.ok r3
    simp (maxDischargeDepth := 30) only [AMS, AMH, ↓reduceIte, Nat.reduceLT, Nat.reduceEqDiff, Nat.reduceAdd, Nat.reduceMul, reduceCtorEq, decide_true, decide_false, Nat.reduceLeDiff, Int.reduceNe, Int.reduceEq, ne_eq, not_false_eq_true, and_self, bld_30, fld_30_0, fld_30_1, fp_26_2, ix_24, ld_24, ld_26, ld_30, ld_41, part_41, size_24, size_30, size_41, sp_30_0, sp_30_1, und_24, zero_24, zero_30, zero_41, f4.ok, r4]

    have f5 : Fr h ((h4.alloc (.row [.int .i64 0, .int .i64 0] 0 true)).set h4.next (.row [.int .i64 0, .int .i64 0] 0 true)) := (f4.alloc _).set (by have := f4.next; omega) (by simp) _
    have fr5 : Fr h4 ((h4.alloc (.row [.int .i64 0, .int .i64 0] 0 true)).set h4.next (.row [.int .i64 0, .int .i64 0] 0 true)) := ((Fr.refl f4.ok).alloc _).set (Nat.le_refl _) (by simp) _
    have z5 : rowAt ((h4.alloc (.row [.int .i64 0, .int .i64 0] 0 true)).set h4.next (.row [.int .i64 0, .int .i64 0] 0 true)) h4.next = some [.int .i64 0, .int .i64 0] := rowAt_set_self _ _ _ _ _
    have nz5 : ((h4.alloc (.row [.int .i64 0, .int .i64 0] 0 true)).set h4.next (.row [.int .i64 0, .int .i64 0] 0 true)).next = h4.next + 1 := by simp
    generalize ((h4.alloc (.row [.int .i64 0, .int .i64 0] 0 true)).set h4.next (.row [.int .i64 0, .int .i64 0] 0 true)) = h5 at f5 fr5 z5 nz5 ⊢
    have r5 := fr5.row' f4.ok r4
    simp (maxDischargeDepth := 30) only [AMS, AMH, ↓reduceIte, Nat.reduceLT, Nat.reduceEqDiff, Nat.reduceAdd, Nat.reduceMul, reduceCtorEq, decide_true, decide_false, Nat.reduceLeDiff, Int.reduceNe, Int.reduceEq, ne_eq, not_false_eq_true, and_self, bld_30, fld_30_0, fld_30_1, fp_26_2, ix_24, ld_24, ld_26, ld_30, ld_41, part_41, size_24, size_30, size_41, sp_30_0, sp_30_1, und_24, zero_24, zero_30, zero_41, f5.ok, r5]
    refine W_call (total_25_bad f5.ok t (hs.fr hk f5) (hv.fr hk f5) (by omega) (by omega) (by omega) (by unfold goodB; rw [j1]; rfl)) ?_
    rintro _ h6 ⟨rfl, fr6⟩
    have f6 := f5.trans fr6
    have r6 := fr6.row' f5.ok r5
    have z6 := fr6.row' f5.ok z5
    simp (maxDischargeDepth := 30) only [AMS, AMH, ↓reduceIte, Nat.reduceLT, Nat.reduceEqDiff, Nat.reduceAdd, Nat.reduceMul, reduceCtorEq, decide_true, decide_false, Nat.reduceLeDiff, Int.reduceNe, Int.reduceEq, ne_eq, not_false_eq_true, and_self, bld_30, fld_30_0, fld_30_1, fp_26_2, ix_24, ld_24, ld_26, ld_30, ld_41, part_41, size_24, size_30, size_41, sp_30_0, sp_30_1, und_24, zero_24, zero_30, zero_41, f6.ok, r6]
    obtain ⟨_, h7, e7, rfl, fr7⟩ := sheet_32 f6.ok (hs.fr hk f6)
    have f7 := f6.trans fr7
    have r7 := fr7.row' f6.ok r6
    have z7 := fr7.row' f6.ok z6
    rw [j1] at e7
    simp (maxDischargeDepth := 30) only [AMS, AMH, ↓reduceIte, Nat.reduceLT, Nat.reduceEqDiff, Nat.reduceAdd, Nat.reduceMul, reduceCtorEq, decide_true, decide_false, Nat.reduceLeDiff, Int.reduceNe, Int.reduceEq, ne_eq, not_false_eq_true, and_self, bld_30, fld_30_0, fld_30_1, fp_26_2, ix_24, ld_24, ld_26, ld_30, ld_41, part_41, size_24, size_30, size_41, sp_30_0, sp_30_1, und_24, zero_24, zero_30, zero_41, f6.ok, r6, e7, f7.ok, r7, z7, eq_30, and_self', known_23, z00, z22]
    exact ⟨trivial, f7⟩
  | true =>
  cases j2 : inP t 0 (s.tars.length - 1) with
  | false =>
    refine W_call (check_60 f2.ok (hs.fr hk f2)) ?_
    rintro _ h3 ⟨rfl, fr3⟩
    have f3 := f2.trans fr3
    have r3 := fr3.row' f2.ok r2
    rw [j1]
    simp (maxDischargeDepth := 30) only [AMS, AMH, ↓reduceIte, Nat.reduceLT, Nat.reduceEqDiff, Nat.reduceAdd, Nat.reduceMul, reduceCtorEq, decide_true, decide_false, Nat.reduceLeDiff, Int.reduceNe, Int.reduceEq, ne_eq, not_false_eq_true, and_self, bld_30, fld_30_0, fld_30_1, fp_26_2, ix_24, ld_24, ld_26, ld_30, ld_41, part_41, size_24, size_30, size_41, sp_30_0, sp_30_1, und_24, zero_24, zero_30, zero_41, f3.ok, r3]
    refine W_call (paid_24_bad f3.ok t (hs.fr hk f3) (by omega) (by rw [j1]; rw [j2]; rfl)) ?_
    rintro _ h4 ⟨rfl, fr4⟩
    have f4 := f3.trans fr4
    have r4 := fr4.row' f3.ok r3
    simp (maxDischargeDepth := 30) only [AMS, AMH, ↓reduceIte, Nat.reduceLT, Nat.reduceEqDiff, Nat.reduceAdd, Nat.reduceMul, reduceCtorEq, decide_true, decide_false, Nat.reduceLeDiff, Int.reduceNe, Int.reduceEq, ne_eq, not_false_eq_true, and_self, bld_30, fld_30_0, fld_30_1, fp_26_2, ix_24, ld_24, ld_26, ld_30, ld_41, part_41, size_24, size_30, size_41, sp_30_0, sp_30_1, und_24, zero_24, zero_30, zero_41, f4.ok, r4]

    have f5 : Fr h ((h4.alloc (.row [.int .i64 0, .int .i64 0] 0 true)).set h4.next (.row [.int .i64 0, .int .i64 0] 0 true)) := (f4.alloc _).set (by have := f4.next; omega) (by simp) _
    have fr5 : Fr h4 ((h4.alloc (.row [.int .i64 0, .int .i64 0] 0 true)).set h4.next (.row [.int .i64 0, .int .i64 0] 0 true)) := ((Fr.refl f4.ok).alloc _).set (Nat.le_refl _) (by simp) _
    have z5 : rowAt ((h4.alloc (.row [.int .i64 0, .int .i64 0] 0 true)).set h4.next (.row [.int .i64 0, .int .i64 0] 0 true)) h4.next = some [.int .i64 0, .int .i64 0] := rowAt_set_self _ _ _ _ _
    have nz5 : ((h4.alloc (.row [.int .i64 0, .int .i64 0] 0 true)).set h4.next (.row [.int .i64 0, .int .i64 0] 0 true)).next = h4.next + 1 := by simp
    generalize ((h4.alloc (.row [.int .i64 0, .int .i64 0] 0 true)).set h4.next (.row [.int .i64 0, .int .i64 0] 0 true)) = h5 at f5 fr5 z5 nz5 ⊢
    have r5 := fr5.row' f4.ok r4
    simp (maxDischargeDepth := 30) only [AMS, AMH, ↓reduceIte, Nat.reduceLT, Nat.reduceEqDiff, Nat.reduceAdd, Nat.reduceMul, reduceCtorEq, decide_true, decide_false, Nat.reduceLeDiff, Int.reduceNe, Int.reduceEq, ne_eq, not_false_eq_true, and_self, bld_30, fld_30_0, fld_30_1, fp_26_2, ix_24, ld_24, ld_26, ld_30, ld_41, part_41, size_24, size_30, size_41, sp_30_0, sp_30_1, und_24, zero_24, zero_30, zero_41, f5.ok, r5]
    refine W_call (total_25_bad f5.ok t (hs.fr hk f5) (hv.fr hk f5) (by omega) (by omega) (by omega) (by unfold goodB; rw [j1]; rw [j2]; rfl)) ?_
    rintro _ h6 ⟨rfl, fr6⟩
    have f6 := f5.trans fr6
    have r6 := fr6.row' f5.ok r5
    have z6 := fr6.row' f5.ok z5
    simp (maxDischargeDepth := 30) only [AMS, AMH, ↓reduceIte, Nat.reduceLT, Nat.reduceEqDiff, Nat.reduceAdd, Nat.reduceMul, reduceCtorEq, decide_true, decide_false, Nat.reduceLeDiff, Int.reduceNe, Int.reduceEq, ne_eq, not_false_eq_true, and_self, bld_30, fld_30_0, fld_30_1, fp_26_2, ix_24, ld_24, ld_26, ld_30, ld_41, part_41, size_24, size_30, size_41, sp_30_0, sp_30_1, und_24, zero_24, zero_30, zero_41, f6.ok, r6]
    obtain ⟨_, h7, e7, rfl, fr7⟩ := sheet_32 f6.ok (hs.fr hk f6)
    have f7 := f6.trans fr7
    have r7 := fr7.row' f6.ok r6
    have z7 := fr7.row' f6.ok z6
    rw [j1] at e7
    obtain ⟨_, h8, e8, rfl, fr8⟩ := tariff_33 p1 p2 p3 s.offs.length c1 s.boards.length c2 s.tars.length c3 t _ f7.ok (by omega)
    have f8 := f7.trans fr8
    have r8 := fr8.row' f7.ok r7
    have z8 := fr8.row' f7.ok z7
    rw [j2] at e8
    simp (maxDischargeDepth := 30) only [AMS, AMH, ↓reduceIte, Nat.reduceLT, Nat.reduceEqDiff, Nat.reduceAdd, Nat.reduceMul, reduceCtorEq, decide_true, decide_false, Nat.reduceLeDiff, Int.reduceNe, Int.reduceEq, ne_eq, not_false_eq_true, and_self, bld_30, fld_30_0, fld_30_1, fp_26_2, ix_24, ld_24, ld_26, ld_30, ld_41, part_41, size_24, size_30, size_41, sp_30_0, sp_30_1, und_24, zero_24, zero_30, zero_41, f6.ok, r6, e7, f7.ok, r7, e8, f8.ok, z8, eq_30, and_self', known_23, z00, z22]
    exact ⟨trivial, f8⟩
  | true =>
  have hin := of_decide_eq_true j2
  obtain ⟨i, rfl⟩ : ∃ i : Nat, t = i := ⟨t.toNat, by omega⟩
  obtain ⟨T, hT⟩ : ∃ T, s.tars[i]? = some T := ⟨_, List.getElem?_eq_getElem (by omega)⟩
  have hil := (List.getElem?_eq_some_iff.1 hT).1
  have tok := Sheet.ok_tars j1 T (List.mem_of_getElem? hT)
  have hlen := Sheet.ok_len j1
  obtain ⟨b3, o3, sp3, row3, rfl, rr3, e3⟩ := LS.at (n := 0) (c := 0) x3 hT
  have kt : take? T.cells 0 5 = some T.cells := rfl
  have kc : T.cells.all selfC = true := rfl
  have tl : T.cells.length = 5 := rfl
  have ta : allOne T.cells = true := rfl
  refine W_call (check_60 f2.ok (hs.fr hk f2)) ?_
  rintro _ h3 ⟨rfl, fr3⟩
  have f3 := f2.trans fr3
  have r3 := fr3.row' f2.ok r2
  rw [j1]
  simp (maxDischargeDepth := 30) only [AMS, AMH, ↓reduceIte, Nat.reduceLT, Nat.reduceEqDiff, Nat.reduceAdd, Nat.reduceMul, reduceCtorEq, decide_true, decide_false, Nat.reduceLeDiff, Int.reduceNe, Int.reduceEq, ne_eq, not_false_eq_true, and_self, bld_30, fld_30_0, fld_30_1, fp_26_2, ix_24, ld_24, ld_26, ld_30, ld_41, part_41, size_24, size_30, size_41, sp_30_0, sp_30_1, und_24, zero_24, zero_30, zero_41, f3.ok, r3]
  refine W_call (paid_24 f3.ok (by have := f3.next; omega) (hs.fr hk f3) j1 hT (ends_ok j1 false) (ends_ok j1 true)) ?_
  rintro _ h4 ⟨rfl, fr4⟩
  have f4 := f3.trans fr4
  have r4 := fr4.row' f3.ok r3
  generalize hlo : paid T s.boards (endsL false s.boards) = lo
  generalize hhi : paid T s.boards (endsL true s.boards) = hi
  simp (maxDischargeDepth := 30) only [AMS, AMH, ↓reduceIte, Nat.reduceLT, Nat.reduceEqDiff, Nat.reduceAdd, Nat.reduceMul, reduceCtorEq, decide_true, decide_false, Nat.reduceLeDiff, Int.reduceNe, Int.reduceEq, ne_eq, not_false_eq_true, and_self, bld_30, fld_30_0, fld_30_1, fp_26_2, ix_24, ld_24, ld_26, ld_30, ld_41, part_41, size_24, size_30, size_41, sp_30_0, sp_30_1, und_24, zero_24, zero_30, zero_41, f4.ok, r4]
  have f5 : Fr h ((h4.alloc (.row [.int .i64 0, .int .i64 0] 0 true)).set h4.next (.row [.int .i64 lo, .int .i64 hi] 0 true)) := (f4.alloc _).set (by have := f4.next; omega) (by simp) _
  have fr5 : Fr h4 ((h4.alloc (.row [.int .i64 0, .int .i64 0] 0 true)).set h4.next (.row [.int .i64 lo, .int .i64 hi] 0 true)) := ((Fr.refl f4.ok).alloc _).set (Nat.le_refl _) (by simp) _
  have z5 : rowAt ((h4.alloc (.row [.int .i64 0, .int .i64 0] 0 true)).set h4.next (.row [.int .i64 lo, .int .i64 hi] 0 true)) h4.next = some [.int .i64 lo, .int .i64 hi] := rowAt_set_self _ _ _ _ _
  have nz5 : ((h4.alloc (.row [.int .i64 0, .int .i64 0] 0 true)).set h4.next (.row [.int .i64 lo, .int .i64 hi] 0 true)).next = h4.next + 1 := by simp
  generalize ((h4.alloc (.row [.int .i64 0, .int .i64 0] 0 true)).set h4.next (.row [.int .i64 lo, .int .i64 hi] 0 true)) = h5 at f5 fr5 z5 nz5 ⊢
  have r5 := fr5.row' f4.ok r4
  simp (maxDischargeDepth := 30) only [AMS, AMH, ↓reduceIte, Nat.reduceLT, Nat.reduceEqDiff, Nat.reduceAdd, Nat.reduceMul, reduceCtorEq, decide_true, decide_false, Nat.reduceLeDiff, Int.reduceNe, Int.reduceEq, ne_eq, not_false_eq_true, and_self, bld_30, fld_30_0, fld_30_1, fp_26_2, ix_24, ld_24, ld_26, ld_30, ld_41, part_41, size_24, size_30, size_41, sp_30_0, sp_30_1, und_24, zero_24, zero_30, zero_41, f5.ok, r5]
  cases hg : goodB s i l with
  | false =>
    have j3 : hoursOK s.boards l = false := by
      unfold goodB at hg; rw [j1, j2] at hg; simpa using hg
    refine W_call (total_25_bad f5.ok (i : Int) (hs.fr hk f5) (hv.fr hk f5) (by omega) (by omega) (by omega) hg) ?_
    rintro _ h6 ⟨rfl, fr6⟩
    have f6 := f5.trans fr6
    have r6 := fr6.row' f5.ok r5
    have z6 := fr6.row' f5.ok z5
    obtain ⟨_, h7, e7, rfl, fr7⟩ := sheet_32 f6.ok (hs.fr hk f6)
    have f7 := f6.trans fr7
    have r7 := fr7.row' f6.ok r6
    rw [j1] at e7
    obtain ⟨_, h8, e8, rfl, fr8⟩ := tariff_33 p1 p2 (some ⟨b3, o3, sp3⟩) s.offs.length c1 s.boards.length c2 s.tars.length c3 (i : Int) _ f7.ok (by omega)
    have f8 := f7.trans fr8
    have r8 := fr8.row' f7.ok r7
    have z8 := (fr7.trans fr8).row' f6.ok z6
    rw [j2] at e8
    have rr8 := f8.row' hk rr3
    simp (maxDischargeDepth := 30) only [AMS, AMH, ↓reduceIte, Nat.reduceLT, Nat.reduceEqDiff, Nat.reduceAdd, Nat.reduceMul, reduceCtorEq, decide_true, decide_false, Nat.reduceLeDiff, Int.reduceNe, Int.reduceEq, ne_eq, not_false_eq_true, and_self, bld_30, fld_30_0, fld_30_1, fp_26_2, ix_24, ld_24, ld_26, ld_30, ld_41, part_41, size_24, size_30, size_41, sp_30_0, sp_30_1, und_24, zero_24, zero_30, zero_41, f6.ok, r6, e7, f7.ok, r7, e8, f8.ok, r8, hil, rr8, e3, tl, ta]
    have f9 : Fr h ((h8.alloc (.row [.int .i64 0, .int .i64 0, .int .i64 0, .int .i64 0, .bool false] 0 true)).set h8.next (.row T.cells 0 true)) := (f8.alloc _).set (by have := f8.next; omega) (by simp) _
    have fr9 : Fr h8 ((h8.alloc (.row [.int .i64 0, .int .i64 0, .int .i64 0, .int .i64 0, .bool false] 0 true)).set h8.next (.row T.cells 0 true)) := ((Fr.refl f8.ok).alloc _).set (Nat.le_refl _) (by simp) _
    have t9 : rowAt ((h8.alloc (.row [.int .i64 0, .int .i64 0, .int .i64 0, .int .i64 0, .bool false] 0 true)).set h8.next (.row T.cells 0 true)) h8.next = some T.cells := rowAt_set_self _ _ _ _ _
    generalize ((h8.alloc (.row [.int .i64 0, .int .i64 0, .int .i64 0, .int .i64 0, .bool false] 0 true)).set h8.next (.row T.cells 0 true)) = h9 at f9 fr9 t9 ⊢
    have r9 := fr9.row' f8.ok r8
    have z9 := fr9.row' f8.ok z8
    refine W_draw [(true, 0), (true, 1), (true, 2), (true, 3), (true, 4), (true, 5), (true, 6), (true, 7), (true, 8), (true, 9), (true, 10), (false, 7), (true, 11), (true, 12)] (by kernel_rfl) ?_
    simp (maxDischargeDepth := 30) only [AMS, AMH, ↓reduceIte, Nat.reduceLT, Nat.reduceEqDiff, Nat.reduceAdd, Nat.reduceMul, reduceCtorEq, decide_true, decide_false, Nat.reduceLeDiff, Int.reduceNe, Int.reduceEq, ne_eq, not_false_eq_true, and_self, AMR, bld_30, fld_30_0, fld_30_1, fp_26_2, ix_24, ld_24, ld_26, ld_30, ld_41, part_41, size_24, size_30, size_41, sp_30_0, sp_30_1, und_24, zero_24, zero_30, zero_41, f9.ok, n00, r9, t9, z9, kt, kc]
    refine W_callP (paid_61 (T := T) f9.ok (by have := f9.next; omega) (hs.fr hk f9) j1 tok) ?_
    rintro _ hB ⟨rfl, frB⟩
    have fB := f9.trans frB
    have rB := frB.row' f9.ok r9
    have tB := frB.row' f9.ok t9
    have zB := frB.row' f9.ok z9
    rw [hlo, hhi]
    obtain ⟨_, hC, eC, rfl, frC⟩ := hours_34 fB.ok (hs.fr hk fB) (hv.fr hk fB) (by omega) (by omega)
    have fC := fB.trans frC
    have rC := frC.row' fB.ok rB
    have tC := frC.row' fB.ok tB
    simp (maxDischargeDepth := 30) only [AMS, AMH, ↓reduceIte, Nat.reduceLT, Nat.reduceEqDiff, Nat.reduceAdd, Nat.reduceMul, reduceCtorEq, decide_true, decide_false, Nat.reduceLeDiff, Int.reduceNe, Int.reduceEq, ne_eq, not_false_eq_true, and_self, AMR, bld_30, fld_30_0, fld_30_1, fp_26_2, ix_24, ld_24, ld_26, ld_30, ld_41, part_41, size_24, size_30, size_41, sp_30_0, sp_30_1, und_24, zero_24, zero_30, zero_41, fB.ok, n00, rB, tB, zB, kt, kc, ne_30]
    rw [j3] at eC
    simp (maxDischargeDepth := 30) only [AMS, AMH, ↓reduceIte, Nat.reduceLT, Nat.reduceEqDiff, Nat.reduceAdd, Nat.reduceMul, reduceCtorEq, decide_true, decide_false, Nat.reduceLeDiff, Int.reduceNe, Int.reduceEq, ne_eq, not_false_eq_true, and_self, bld_30, fld_30_0, fld_30_1, fp_26_2, ix_24, ld_24, ld_26, ld_30, ld_41, part_41, size_24, size_30, size_41, sp_30_0, sp_30_1, und_24, zero_24, zero_30, zero_41, fB.ok, rB, eC, known_23, z00, z22, n00, tB]
    exact ⟨trivial, fC⟩
  | true =>
    obtain ⟨_, j3, _⟩ := goodB_at hg
    have hll := (hoursOK_at j3).1
    have hq := qtys_b j1 j3 T
    refine W_call (total_25 f5.ok (by have := f5.next; omega) (hs.fr hk f5) (hv.fr hk f5) j1 j3 hT) ?_
    rintro _ h6 ⟨rfl, fr6⟩
    generalize hP : paid T s.boards l = P
    have f6 := f5.trans fr6
    have r6 := fr6.row' f5.ok r5
    have z6 := fr6.row' f5.ok z5
    obtain ⟨_, h7, e7, rfl, fr7⟩ := sheet_32 f6.ok (hs.fr hk f6)
    have f7 := f6.trans fr7
    have r7 := fr7.row' f6.ok r6
    rw [j1] at e7
    obtain ⟨_, h8, e8, rfl, fr8⟩ := tariff_33 p1 p2 (some ⟨b3, o3, sp3⟩) s.offs.length c1 s.boards.length c2 s.tars.length c3 (i : Int) _ f7.ok (by omega)
    have f8 := f7.trans fr8
    have r8 := fr8.row' f7.ok r7
    have z8 := (fr7.trans fr8).row' f6.ok z6
    rw [j2] at e8
    have rr8 := f8.row' hk rr3
    simp (maxDischargeDepth := 30) only [AMS, AMH, ↓reduceIte, Nat.reduceLT, Nat.reduceEqDiff, Nat.reduceAdd, Nat.reduceMul, reduceCtorEq, decide_true, decide_false, Nat.reduceLeDiff, Int.reduceNe, Int.reduceEq, ne_eq, not_false_eq_true, and_self, bld_30, fld_30_0, fld_30_1, fp_26_2, ix_24, ld_24, ld_26, ld_30, ld_41, part_41, size_24, size_30, size_41, sp_30_0, sp_30_1, und_24, zero_24, zero_30, zero_41, f6.ok, r6, e7, f7.ok, r7, e8, f8.ok, r8, hil, rr8, e3, tl, ta]
    have f9 : Fr h ((h8.alloc (.row [.int .i64 0, .int .i64 0, .int .i64 0, .int .i64 0, .bool false] 0 true)).set h8.next (.row T.cells 0 true)) := (f8.alloc _).set (by have := f8.next; omega) (by simp) _
    have fr9 : Fr h8 ((h8.alloc (.row [.int .i64 0, .int .i64 0, .int .i64 0, .int .i64 0, .bool false] 0 true)).set h8.next (.row T.cells 0 true)) := ((Fr.refl f8.ok).alloc _).set (Nat.le_refl _) (by simp) _
    have t9 : rowAt ((h8.alloc (.row [.int .i64 0, .int .i64 0, .int .i64 0, .int .i64 0, .bool false] 0 true)).set h8.next (.row T.cells 0 true)) h8.next = some T.cells := rowAt_set_self _ _ _ _ _
    generalize ((h8.alloc (.row [.int .i64 0, .int .i64 0, .int .i64 0, .int .i64 0, .bool false] 0 true)).set h8.next (.row T.cells 0 true)) = h9 at f9 fr9 t9 ⊢
    have r9 := fr9.row' f8.ok r8
    have z9 := fr9.row' f8.ok z8
    refine W_draw [(true, 0), (true, 1), (true, 2), (true, 3), (true, 4), (true, 5), (true, 6), (true, 7), (true, 8), (true, 9), (true, 10), (false, 7), (true, 11), (true, 12)] (by kernel_rfl) ?_
    simp (maxDischargeDepth := 30) only [AMS, AMH, ↓reduceIte, Nat.reduceLT, Nat.reduceEqDiff, Nat.reduceAdd, Nat.reduceMul, reduceCtorEq, decide_true, decide_false, Nat.reduceLeDiff, Int.reduceNe, Int.reduceEq, ne_eq, not_false_eq_true, and_self, AMR, bld_30, fld_30_0, fld_30_1, fp_26_2, ix_24, ld_24, ld_26, ld_30, ld_41, part_41, size_24, size_30, size_41, sp_30_0, sp_30_1, und_24, zero_24, zero_30, zero_41, f9.ok, n00, r9, t9, z9, kt, kc]
    refine W_callP (paid_61 (T := T) f9.ok (by have := f9.next; omega) (hs.fr hk f9) j1 tok) ?_
    rintro _ hB ⟨rfl, frB⟩
    have fB := f9.trans frB
    have rB := frB.row' f9.ok r9
    have tB := frB.row' f9.ok t9
    have zB := frB.row' f9.ok z9
    rw [hlo, hhi]
    obtain ⟨_, hC, eC, rfl, frC⟩ := hours_34 fB.ok (hs.fr hk fB) (hv.fr hk fB) (by omega) (by omega)
    have fC := fB.trans frC
    have rC := frC.row' fB.ok rB
    have tC := frC.row' fB.ok tB
    simp (maxDischargeDepth := 30) only [AMS, AMH, ↓reduceIte, Nat.reduceLT, Nat.reduceEqDiff, Nat.reduceAdd, Nat.reduceMul, reduceCtorEq, decide_true, decide_false, Nat.reduceLeDiff, Int.reduceNe, Int.reduceEq, ne_eq, not_false_eq_true, and_self, AMR, bld_30, fld_30_0, fld_30_1, fp_26_2, ix_24, ld_24, ld_26, ld_30, ld_41, part_41, size_24, size_30, size_41, sp_30_0, sp_30_1, und_24, zero_24, zero_30, zero_41, fB.ok, n00, rB, tB, zB, kt, kc, ne_30]
    rw [j3] at eC
    obtain ⟨_, hD, eD, rfl, frD⟩ := total_62 (t := T) fC.ok (by have := fC.next; omega) (hs.fr hk fC) (hv.fr hk fC) tok hll (by omega) fun x hx => by have := hq x hx; omega
    have fD := fC.trans frD
    rw [hP] at eD
    have pp : (P == P) = true := by simp
    simp (maxDischargeDepth := 30) only [AMS, AMH, ↓reduceIte, Nat.reduceLT, Nat.reduceEqDiff, Nat.reduceAdd, Nat.reduceMul, reduceCtorEq, decide_true, decide_false, Nat.reduceLeDiff, Int.reduceNe, Int.reduceEq, ne_eq, not_false_eq_true, and_self, bld_30, fld_30_0, fld_30_1, fp_26_2, ix_24, ld_24, ld_26, ld_30, ld_41, part_41, size_24, size_30, size_41, sp_30_0, sp_30_1, und_24, zero_24, zero_30, zero_41, fB.ok, rB, eC, fC.ok, rC, tC, kt, eD, known_23, z00, z22, n00, pp]
    exact ⟨trivial, fD⟩
end Go.Am
