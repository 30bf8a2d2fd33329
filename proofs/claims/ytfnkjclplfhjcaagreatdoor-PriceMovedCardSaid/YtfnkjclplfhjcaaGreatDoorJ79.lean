/- Parts 79 of the abstract machine over this program, joined: what each part says stands at its head. -/
import Derived.Test.YtfnkjclplfhjcaaGreatDoorJ75
set_option linter.unusedSimpArgs false
set_option linter.unusedVariables false
/- The abstract machine, part 79: the statement PriceParts, on the machine. -/
namespace Go.Am
open Go Go.Proofs

theorem goodB_of {s : Sheet} {t : Int} {l : List Int} (h1 : s.ok = true) (h2 : inP t 0 (s.tars.length - 1) = true) (h3 : hoursOK s.boards l = true) : goodB s t l = true := by
  unfold goodB; rw [h1, h2, h3]; rfl

set_option maxRecDepth 10000 in
set_option maxHeartbeats 2000000 in
theorem parts_4 {h : Heap} (hk : HOK h) (hp : 0 < h.next) {a b c v : Value} {s : Sheet} {l : List Int} (hs : IsSheet h a b c s) (hv : LS h v l ints 1) (t : Int) :
    CW CC 4 [.agg ⟨[a, b, c]⟩, .int .i64 t, v] h fun r h' => r = .bool true ∧ Fr h h' := by
  have z00 : ((0 : Int) == 0) = true := rfl
  have z22 : ((2 : Int) == 2) = true := rfl
  have zn : (((0 : Nat) : Int) == 0) = true := rfl
  obtain ⟨p1, c1, rfl, _⟩ := hs.offs.open
  obtain ⟨p2, c2, rfl, _⟩ := hs.boards.open
  obtain ⟨p3, c3, rfl, x3⟩ := hs.tars.open
  obtain ⟨p4, c4, rfl, _⟩ := hv.open
  refine CW_in Tryz.f4 (by kernel_rfl) (by kernel_rfl) rfl rfl ?_
  simp only [Tryz.f4]
  have f1 : Fr h (h.alloc (.row [.slice p1 s.offs.length c1, .slice p2 s.boards.length c2, .slice p3 s.tars.length c3] 0 true)) := (Fr.refl hk).alloc _
  have r1 : rowAt (h.alloc (.row [.slice p1 s.offs.length c1, .slice p2 s.boards.length c2, .slice p3 s.tars.length c3] 0 true)) h.next = some [.slice p1 s.offs.length c1, .slice p2 s.boards.length c2, .slice p3 s.tars.length c3] := rowAt_new _ _ _ _
  obtain ⟨_, h2, e2, rfl, fr2⟩ := short_28 p1 p2 p3 s.offs.length c1 s.boards.length c2 s.tars.length c3 _ f1.ok
  have f2 := f1.trans fr2
  have r2 := fr2.row' f1.ok r1
  cases i1 : decide ((s.offs.length : Int) ≤ 5 ∧ (s.boards.length : Int) ≤ 6 ∧ (s.tars.length : Int) ≤ 5) with
  | false =>
    rw [i1] at e2
    simp (maxDischargeDepth := 30) only [AMS, AMH, ↓reduceIte, Nat.reduceLT, Nat.reduceEqDiff, Nat.reduceAdd, Nat.reduceMul, reduceCtorEq, decide_true, decide_false, Nat.reduceLeDiff, Int.reduceNe, Int.reduceEq, ne_eq, not_false_eq_true, and_self, fp_26_2, ix_24, ld_24, ld_26, ld_41, len_22, part_41, size_24, size_41, und_24, zero_24, zero_41, hk, e2, known_23]
    exact ⟨trivial, f2⟩
  | true =>
  rw [i1] at e2
  have i1' := of_decide_eq_true i1
  cases i2 : decide ((l.length : Int) ≤ 7) with
  | false =>
    simp (maxDischargeDepth := 30) only [AMS, AMH, ↓reduceIte, Nat.reduceLT, Nat.reduceEqDiff, Nat.reduceAdd, Nat.reduceMul, reduceCtorEq, decide_true, decide_false, Nat.reduceLeDiff, Int.reduceNe, Int.reduceEq, ne_eq, not_false_eq_true, and_self, fp_26_2, ix_24, ld_24, ld_26, ld_41, len_22, part_41, size_24, size_41, und_24, zero_24, zero_41, hk, e2, slim_29, i2, known_23]
    exact ⟨trivial, f2⟩
  | true =>
  have i2' := of_decide_eq_true i2
  cases hg : goodB s t l with
  | false =>
    simp (maxDischargeDepth := 30) only [AMS, AMH, ↓reduceIte, Nat.reduceLT, Nat.reduceEqDiff, Nat.reduceAdd, Nat.reduceMul, reduceCtorEq, decide_true, decide_false, Nat.reduceLeDiff, Int.reduceNe, Int.reduceEq, ne_eq, not_false_eq_true, and_self, fp_26_2, ix_24, ld_24, ld_26, ld_41, len_22, part_41, size_24, size_41, und_24, zero_24, zero_41, hk, e2, slim_29, i2, r2]
    refine W_call (parts_30_bad f2.ok t (hs.fr hk f2) (hv.fr hk f2) (by omega) (by omega) (by omega) hg) ?_
    rintro _ h3 ⟨rfl, fr3⟩
    have f3 := f2.trans fr3
    have r3 := fr3.row' f2.ok r2
    simp (maxDischargeDepth := 30) only [AMS, AMH, ↓reduceIte, Nat.reduceLT, Nat.reduceEqDiff, Nat.reduceAdd, Nat.reduceMul, reduceCtorEq, decide_true, decide_false, Nat.reduceLeDiff, Int.reduceNe, Int.reduceEq, ne_eq, not_false_eq_true, and_self, fp_26_2, ix_24, ld_24, ld_26, ld_41, len_22, part_41, size_24, size_41, und_24, zero_24, zero_41, f3.ok, r3]
    refine W_call (rules_31_bad f3.ok t (hs.fr hk f3) (hv.fr hk f3) (by omega) (by omega) (by omega) hg) ?_
    rintro _ h4 ⟨rfl, fr4⟩
    have f4 := f3.trans fr4
    have r4 := fr4.row' f3.ok r3
    obtain ⟨_, h5, e5, rfl, fr5⟩ := sheet_32 f4.ok (hs.fr hk f4)
    have f5 := f4.trans fr5
    have r5 := fr5.row' f4.ok r4
    obtain ⟨_, h6, e6, rfl, fr6⟩ := tariff_33 p1 p2 p3 s.offs.length c1 s.boards.length c2 s.tars.length c3 t _ f5.ok (by omega)
    have f6 := f5.trans fr6
    have r6 := fr6.row' f5.ok r5
    obtain ⟨_, h7, e7, rfl, fr7⟩ := hours_34 f6.ok (hs.fr hk f6) (hv.fr hk f6) (by omega) (by omega)
    have f7 := f6.trans fr7
    unfold goodB at hg
    cases j1 : s.ok with
    | false =>
      rw [j1] at e5
      simp (maxDischargeDepth := 30) only [AMS, AMH, ↓reduceIte, Nat.reduceLT, Nat.reduceEqDiff, Nat.reduceAdd, Nat.reduceMul, reduceCtorEq, decide_true, decide_false, Nat.reduceLeDiff, Int.reduceNe, Int.reduceEq, ne_eq, not_false_eq_true, and_self, fp_26_2, ix_24, ld_24, ld_26, ld_41, len_22, part_41, size_24, size_41, und_24, zero_24, zero_41, f4.ok, r4, e5, known_23, z00, z22, zn]
      exact ⟨trivial, f5⟩
    | true =>
    rw [j1] at e5 hg
    cases j2 : inP t 0 (s.tars.length - 1) with
    | false =>
      rw [j2] at e6
      simp (maxDischargeDepth := 30) only [AMS, AMH, ↓reduceIte, Nat.reduceLT, Nat.reduceEqDiff, Nat.reduceAdd, Nat.reduceMul, reduceCtorEq, decide_true, decide_false, Nat.reduceLeDiff, Int.reduceNe, Int.reduceEq, ne_eq, not_false_eq_true, and_self, fp_26_2, ix_24, ld_24, ld_26, ld_41, len_22, part_41, size_24, size_41, und_24, zero_24, zero_41, f4.ok, r4, e5, r5, e6, known_23, z00, z22, zn]
      exact ⟨trivial, f6⟩
    | true =>
    rw [j2] at e6 hg
    cases j3 : hoursOK s.boards l with
    | false =>
      rw [j3] at e7
      simp (maxDischargeDepth := 30) only [AMS, AMH, ↓reduceIte, Nat.reduceLT, Nat.reduceEqDiff, Nat.reduceAdd, Nat.reduceMul, reduceCtorEq, decide_true, decide_false, Nat.reduceLeDiff, Int.reduceNe, Int.reduceEq, ne_eq, not_false_eq_true, and_self, fp_26_2, ix_24, ld_24, ld_26, ld_41, len_22, part_41, size_24, size_41, und_24, zero_24, zero_41, f4.ok, r4, e5, r5, e6, r6, e7, known_23, z00, z22, zn]
      exact ⟨trivial, f7⟩
    | true =>
      rw [j3] at hg
      cases hg
  | true =>
    obtain ⟨ok, hl, i, T, rfl, hT⟩ := goodB_at hg
    have hil := (List.getElem?_eq_some_iff.1 hT).1
    have tok := Sheet.ok_tars ok T (List.mem_of_getElem? hT)
    have hlen := Sheet.ok_len ok
    have hll := (hoursOK_at hl).1
    have hq := qtys_b ok hl T
    have hin : inP (i : Int) 0 (s.tars.length - 1) = true := by simp [inP]; omega
    obtain ⟨b3, o3, sp3, row3, rfl, rr3, e3⟩ := LS.at (n := 0) (c := 0) x3 hT
    simp (maxDischargeDepth := 30) only [AMS, AMH, ↓reduceIte, Nat.reduceLT, Nat.reduceEqDiff, Nat.reduceAdd, Nat.reduceMul, reduceCtorEq, decide_true, decide_false, Nat.reduceLeDiff, Int.reduceNe, Int.reduceEq, ne_eq, not_false_eq_true, and_self, fp_26_2, ix_24, ld_24, ld_26, ld_41, len_22, part_41, size_24, size_41, und_24, zero_24, zero_41, hk, e2, slim_29, i2, r2]
    refine W_call (parts_30 f2.ok (by have := f2.next; omega) (hs.fr hk f2) (hv.fr hk f2) ok hl hT) ?_
    rintro _ h3 ⟨x, rfl, q3, fr3⟩
    have f3 := f2.trans fr3
    have r3 := fr3.row' f2.ok r2
    obtain ⟨px, cx, rfl, _⟩ := q3.open
    simp (maxDischargeDepth := 30) only [AMS, AMH, ↓reduceIte, Nat.reduceLT, Nat.reduceEqDiff, Nat.reduceAdd, Nat.reduceMul, reduceCtorEq, decide_true, decide_false, Nat.reduceLeDiff, Int.reduceNe, Int.reduceEq, ne_eq, not_false_eq_true, and_self, fp_26_2, ix_24, ld_24, ld_26, ld_41, len_22, part_41, size_24, size_41, und_24, zero_24, zero_41, f3.ok, r3]
    refine W_call (rules_31 f3.ok (by have := f3.next; omega) (hs.fr hk f3) (hv.fr hk f3) ok hl hT) ?_
    rintro _ h4 ⟨y, rfl, q4, fr4⟩
    have f4 := f3.trans fr4
    have r4 := fr4.row' f3.ok r3
    obtain ⟨py, cy, rfl, _⟩ := q4.open
    obtain ⟨_, h5, e5, rfl, fr5⟩ := sheet_32 f4.ok (hs.fr hk f4)
    have f5 := f4.trans fr5
    have r5 := fr5.row' f4.ok r4
    obtain ⟨_, h6, e6, rfl, fr6⟩ := tariff_33 p1 p2 (some ⟨b3, o3, sp3⟩) s.offs.length c1 s.boards.length c2 s.tars.length c3 (i : Int) _ f5.ok (by omega)
    have f6 := f5.trans fr6
    have r6 := fr6.row' f5.ok r5
    obtain ⟨_, h7, e7, rfl, fr7⟩ := hours_34 f6.ok (hs.fr hk f6) (hv.fr hk f6) (by omega) (by omega)
    have f7 := f6.trans fr7
    have r7 := fr7.row' f6.ok r6
    rw [ok] at e5
    rw [hin] at e6
    rw [hl] at e7
    have rr7 := f7.row' hk rr3
    have tl : T.cells.length = 5 := rfl
    have ta : allOne T.cells = true := rfl
    have kt : take? T.cells 0 5 = some T.cells := rfl
    have f78 : Fr h7 ((h7.alloc (.row [.int .i64 0, .int .i64 0, .int .i64 0, .int .i64 0, .bool false] 0 true)).set h7.next (.row T.cells 0 true)) := ((Fr.refl f7.ok).alloc _).set (Nat.le_refl _) (by simp) _
    have rt8 : rowAt ((h7.alloc (.row [.int .i64 0, .int .i64 0, .int .i64 0, .int .i64 0, .bool false] 0 true)).set h7.next (.row T.cells 0 true)) h7.next = some T.cells := rowAt_set_self _ _ _ _ _
    have qx7 := ((q3.fr f3.ok fr4).fr f4.ok fr5).fr f5.ok (fr6.trans fr7)
    have qy7 := (q4.fr f4.ok fr5).fr f5.ok (fr6.trans fr7)
    generalize hH : ((h7.alloc (.row [.int .i64 0, .int .i64 0, .int .i64 0, .int .i64 0, .bool false] 0 true)).set h7.next (.row T.cells 0 true)) = H at f78 rt8
    have f8 := f7.trans f78
    have r8 := f78.row' f7.ok r7
    have p8 : 0 < H.next := by have := f8.next; omega
    obtain ⟨_, h9, e9, q9, fr9⟩ := parts_36 (t := T) f8.ok p8 (hs.fr hk f8) (hv.fr hk f8) tok hll (by omega) fun x hx => by have := hq x hx; omega
    have plen := parts_len (t := T) hll
    have q9' : LS h9 _ (parts T s.boards l) ints 1 := SL.ls ints_len (by rw [plen]; exact q9)
    have f9 := f8.trans fr9
    have r9 := fr9.row' f8.ok r8
    have rt9 := fr9.row' f8.ok rt8
    obtain ⟨_, h10, e10, rfl, rfl⟩ := same_35 _ _ _ _ h9 f9.ok ((qx7.fr f7.ok f78).fr f8.ok fr9) q9' (by omega) (by omega)
    obtain ⟨_, h11, e11, q11, fr11⟩ := rules_37 (t := T) f9.ok (by have := f9.next; omega) (hs.fr hk f9) (hv.fr hk f9) tok hll (by omega) fun x hx => by have := hq x hx; omega
    have q11' : LS h11 _ (rulesL T s.boards l 4) ints 1 := SL.ls ints_len (by simpa [rulesL] using q11)
    have f11 := f9.trans fr11
    obtain ⟨_, h12, e12, rfl, rfl⟩ := same_35 _ _ _ _ h11 f11.ok (((qy7.fr f7.ok f78).fr f8.ok fr9).fr f9.ok fr11) q11' (by simp [rulesL]) (by simp [rulesL])
    simp only [decide_true] at e10 e12
    simp (maxDischargeDepth := 30) only [AMS, AMH, ↓reduceIte, Nat.reduceLT, Nat.reduceEqDiff, Nat.reduceAdd, Nat.reduceMul, reduceCtorEq, decide_true, decide_false, Nat.reduceLeDiff, Int.reduceNe, Int.reduceEq, ne_eq, not_false_eq_true, and_self, fp_26_2, ix_24, ld_24, ld_26, ld_41, len_22, part_41, size_24, size_41, und_24, zero_24, zero_41, f4.ok, r4, e5, r5, e6, r6, e7, f7.ok, r7, hil, rr7, e3, tl, ta, z00, hH, f8.ok, f9.ok, f11.ok, r8, rt8, kt, e9, e10, r9, rt9, e11, e12, known_23]
    exact ⟨trivial, f11⟩
end Go.Am
