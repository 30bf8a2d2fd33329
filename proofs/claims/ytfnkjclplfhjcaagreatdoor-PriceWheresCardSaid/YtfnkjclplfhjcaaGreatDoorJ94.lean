/- Parts 94 of the abstract machine over this program, joined: what each part says stands at its head. -/
import Derived.Test.YtfnkjclplfhjcaaGreatDoorJ93
set_option linter.unusedSimpArgs false
set_option linter.unusedVariables false
/- The abstract machine, part 94: the statements PriceWheres and PriceFirst. -/
namespace Go.Am
open Go Go.Proofs

set_option maxRecDepth 10000 in
set_option maxHeartbeats 4000000 in
theorem wheres_8 {h : Heap} (hk : HOK h) (hp : 0 < h.next) {a b c v : Value} {s : Sheet} {l : List Int} (hs : IsSheet h a b c s) (hv : LS h v l ints 1) (one other : Int) :
    CW CC 8 [.agg ⟨[a, b, c]⟩, .int .i64 one, .int .i64 other, v] h fun r h' => r = .bool true ∧ Fr h h' := by
  have z00 : ((0 : Int) == 0) = true := rfl
  have z22 : ((2 : Int) == 2) = true := rfl
  have z55 : ((5 : Int) == 5) = true := rfl
  have n00 : ((0 : Int) != 0) = false := rfl
  obtain ⟨p1, c1, rfl, _⟩ := hs.offs.open
  obtain ⟨p2, c2, rfl, _⟩ := hs.boards.open
  obtain ⟨p3, c3, rfl, x3⟩ := hs.tars.open
  obtain ⟨p4, c4, rfl, _⟩ := hv.open
  refine CW_in Tryz.f8 (by kernel_rfl) (by kernel_rfl) rfl rfl ?_
  simp only [Tryz.f8]
  have f1 : Fr h (h.alloc (.row [.slice p1 s.offs.length c1, .slice p2 s.boards.length c2, .slice p3 s.tars.length c3] 0 true)) := (Fr.refl hk).alloc _
  have r1 : rowAt (h.alloc (.row [.slice p1 s.offs.length c1, .slice p2 s.boards.length c2, .slice p3 s.tars.length c3] 0 true)) h.next = some [.slice p1 s.offs.length c1, .slice p2 s.boards.length c2, .slice p3 s.tars.length c3] := rowAt_new _ _ _ _
  obtain ⟨_, h2, e2, rfl, fr2⟩ := short_28 p1 p2 p3 s.offs.length c1 s.boards.length c2 s.tars.length c3 _ f1.ok
  have f2 := f1.trans fr2
  have r2 := fr2.row' f1.ok r1
  cases i1 : decide ((s.offs.length : Int) ≤ 5 ∧ (s.boards.length : Int) ≤ 6 ∧ (s.tars.length : Int) ≤ 5) with
  | false =>
    rw [i1] at e2
    simp (maxDischargeDepth := 30) only [AMS, AMH, ↓reduceIte, Nat.reduceLT, Nat.reduceEqDiff, Nat.reduceAdd, Nat.reduceMul, reduceCtorEq, decide_true, decide_false, Nat.reduceLeDiff, Int.reduceNe, Int.reduceEq, ne_eq, not_false_eq_true, and_self, ld_26, hk, e2, known_23]
    exact ⟨trivial, f2⟩
  | true =>
  rw [i1] at e2
  have i1' := of_decide_eq_true i1
  cases i2 : decide ((l.length : Int) ≤ 7) with
  | false =>
    simp (maxDischargeDepth := 30) only [AMS, AMH, ↓reduceIte, Nat.reduceLT, Nat.reduceEqDiff, Nat.reduceAdd, Nat.reduceMul, reduceCtorEq, decide_true, decide_false, Nat.reduceLeDiff, Int.reduceNe, Int.reduceEq, ne_eq, not_false_eq_true, and_self, ld_26, hk, e2, slim_29, i2, known_23]
    exact ⟨trivial, f2⟩
  | true =>
  have i2' := of_decide_eq_true i2
  simp (maxDischargeDepth := 30) only [AMS, AMH, ↓reduceIte, Nat.reduceLT, Nat.reduceEqDiff, Nat.reduceAdd, Nat.reduceMul, reduceCtorEq, decide_true, decide_false, Nat.reduceLeDiff, Int.reduceNe, Int.reduceEq, ne_eq, not_false_eq_true, and_self, ld_26, hk, e2, slim_29, i2, f2.ok, r2]
  cases hA : (s.ok && hoursOK s.boards l) with
  | false =>
    have hg : (twoB s one other && hoursOK s.boards l) = false := by
      unfold twoB
      cases j1 : s.ok with
      | false => rfl
      | true => rw [j1] at hA; simp only [Bool.true_and] at hA; rw [hA, Bool.and_false]
    refine W_call (where_44_bad f2.ok one other (hs.fr hk f2) (hv.fr hk f2) (by omega) (by omega) (by omega) hg) ?_
    rintro _ h3 ⟨rfl, fr3⟩
    have f3 := f2.trans fr3
    have r3 := fr3.row' f2.ok r2
    simp (maxDischargeDepth := 30) only [AMS, AMH, ↓reduceIte, Nat.reduceLT, Nat.reduceEqDiff, Nat.reduceAdd, Nat.reduceMul, reduceCtorEq, decide_true, decide_false, Nat.reduceLeDiff, Int.reduceNe, Int.reduceEq, ne_eq, not_false_eq_true, and_self, ld_26, f3.ok, r3]
    refine W_call (cheapest_45_bad f3.ok (hs.fr hk f3) (hv.fr hk f3) (by omega) (by omega) hA) ?_
    rintro _ h4 ⟨rfl, fr4⟩
    have f4 := f3.trans fr4
    have r4 := fr4.row' f3.ok r3
    obtain ⟨_, h5, e5, rfl, fr5⟩ := sheet_32 f4.ok (hs.fr hk f4)
    have f5 := f4.trans fr5
    have r5 := fr5.row' f4.ok r4
    obtain ⟨_, h6, e6, rfl, fr6⟩ := hours_34 f5.ok (hs.fr hk f5) (hv.fr hk f5) (by omega) (by omega)
    have f6 := f5.trans fr6
    cases j1 : s.ok with
    | false =>
      rw [j1] at e5
      simp (maxDischargeDepth := 30) only [AMS, AMH, ↓reduceIte, Nat.reduceLT, Nat.reduceEqDiff, Nat.reduceAdd, Nat.reduceMul, reduceCtorEq, decide_true, decide_false, Nat.reduceLeDiff, Int.reduceNe, Int.reduceEq, ne_eq, not_false_eq_true, and_self, ld_26, f4.ok, r4, e5, known_23, z00, z22]
      exact ⟨trivial, f5⟩
    | true =>
      rw [j1] at e5 hA
      simp only [Bool.true_and] at hA
      rw [hA] at e6
      simp (maxDischargeDepth := 30) only [AMS, AMH, ↓reduceIte, Nat.reduceLT, Nat.reduceEqDiff, Nat.reduceAdd, Nat.reduceMul, reduceCtorEq, decide_true, decide_false, Nat.reduceLeDiff, Int.reduceNe, Int.reduceEq, ne_eq, not_false_eq_true, and_self, ld_26, f4.ok, r4, e5, f5.ok, r5, e6, known_23, z00, z22]
      exact ⟨trivial, f6⟩
  | true =>
    rw [Bool.and_eq_true] at hA
    obtain ⟨ok, hl⟩ := hA
    cases hB : twoB s one other with
    | false =>
      refine W_call (where_44_bad f2.ok one other (hs.fr hk f2) (hv.fr hk f2) (by omega) (by omega) (by omega) (by rw [hB]; rfl)) ?_
      rintro _ h3 ⟨rfl, fr3⟩
      have f3 := f2.trans fr3
      have r3 := fr3.row' f2.ok r2
      simp (maxDischargeDepth := 30) only [AMS, AMH, ↓reduceIte, Nat.reduceLT, Nat.reduceEqDiff, Nat.reduceAdd, Nat.reduceMul, reduceCtorEq, decide_true, decide_false, Nat.reduceLeDiff, Int.reduceNe, Int.reduceEq, ne_eq, not_false_eq_true, and_self, ld_26, f3.ok, r3]
      refine W_call (cheapest_45 f3.ok (by have := f3.next; omega) (hs.fr hk f3) (hv.fr hk f3) ok hl) ?_
      rintro _ h4 ⟨⟨jm, pm, rfl, hmin⟩, fr4⟩
      have f4 := f3.trans fr4
      have r4 := fr4.row' f3.ok r3
      obtain ⟨_, h5, e5, rfl, fr5⟩ := sheet_32 f4.ok (hs.fr hk f4)
      have f5 := f4.trans fr5
      have r5 := fr5.row' f4.ok r4
      obtain ⟨_, h6, e6, rfl, fr6⟩ := hours_34 f5.ok (hs.fr hk f5) (hv.fr hk f5) (by omega) (by omega)
      have f6 := f5.trans fr6
      have r6 := fr6.row' f5.ok r5
      rw [ok] at e5
      rw [hl] at e6
      obtain ⟨_, h7, e7, ⟨jm', pm', rfl, hmin'⟩, fr7⟩ := cheapest_46 f6.ok (by have := f6.next; omega) (hs.fr hk f6) (hv.fr hk f6) ok hl
      obtain ⟨rfl, rfl⟩ := hmin.uniq hmin'
      have f7 := f6.trans fr7
      have r7 := fr7.row' f6.ok r6
      obtain ⟨_, h8, e8, rfl, fr8⟩ := tariff_33 p1 p2 p3 s.offs.length c1 s.boards.length c2 s.tars.length c3 one _ f7.ok (by omega)
      have f8 := f7.trans fr8
      have r8 := fr8.row' f7.ok r7
      obtain ⟨_, h9, e9, rfl, fr9⟩ := tariff_33 p1 p2 p3 s.offs.length c1 s.boards.length c2 s.tars.length c3 other _ f8.ok (by omega)
      have f9 := f8.trans fr9
      have r9 := fr9.row' f8.ok r8
      unfold twoB at hB
      rw [ok] at hB
      simp only [Bool.true_and] at hB
      cases j2 : inP one 0 (s.tars.length - 1) with
      | false =>
        rw [j2] at e8
        simp (maxDischargeDepth := 30) only [AMS, AMH, ↓reduceIte, Nat.reduceLT, Nat.reduceEqDiff, Nat.reduceAdd, Nat.reduceMul, reduceCtorEq, decide_true, decide_false, Nat.reduceLeDiff, Int.reduceNe, Int.reduceEq, ne_eq, not_false_eq_true, and_self, ld_26, f4.ok, r4, e5, r5, e6, f6.ok, r6, e7, f7.ok, r7, e8, known_23, z00, z22, n00, ne_self]
        exact ⟨trivial, f8⟩
      | true =>
      rw [j2] at e8 hB
      cases j3 : inP other 0 (s.tars.length - 1) with
      | false =>
        rw [j3] at e9
        simp (maxDischargeDepth := 30) only [AMS, AMH, ↓reduceIte, Nat.reduceLT, Nat.reduceEqDiff, Nat.reduceAdd, Nat.reduceMul, reduceCtorEq, decide_true, decide_false, Nat.reduceLeDiff, Int.reduceNe, Int.reduceEq, ne_eq, not_false_eq_true, and_self, ld_26, f4.ok, r4, e5, r5, e6, f6.ok, r6, e7, f7.ok, r7, e8, f8.ok, r8, e9, known_23, z00, z22, n00, ne_self]
        exact ⟨trivial, f9⟩
      | true =>
      rw [j3] at e9 hB
      have j4 : (one == other) = true := by simpa using hB
      simp (maxDischargeDepth := 30) only [AMS, AMH, ↓reduceIte, Nat.reduceLT, Nat.reduceEqDiff, Nat.reduceAdd, Nat.reduceMul, reduceCtorEq, decide_true, decide_false, Nat.reduceLeDiff, Int.reduceNe, Int.reduceEq, ne_eq, not_false_eq_true, and_self, ld_26, f4.ok, r4, e5, r5, e6, f6.ok, r6, e7, f7.ok, r7, e8, f8.ok, r8, e9, j4, known_23, z00, z22, n00, ne_self]
      exact ⟨trivial, f9⟩
    | true =>
      obtain ⟨_, hne, ⟨i, T, rfl, hT⟩, j, U, rfl, hU⟩ := twoB_at hB
      have hil := (List.getElem?_eq_some_iff.1 hT).1
      have hjl := (List.getElem?_eq_some_iff.1 hU).1
      have hin : inP (i : Int) 0 (s.tars.length - 1) = true := by simp [inP]; omega
      have hjn : inP (j : Int) 0 (s.tars.length - 1) = true := by simp [inP]; omega
      have j4 : ((i : Int) == j) = false := by simpa using hne
      refine W_call (where_44 f2.ok (by have := f2.next; omega) (hs.fr hk f2) (hv.fr hk f2) hB hl hT hU) ?_
      rintro R h3 ⟨hR, fr3⟩
      obtain ⟨ra, rb, hRt⟩ : ∃ ra rb : Int, R = .tuple ⟨[.int .i64 ra, .int .i64 rb]⟩ := by
        rcases hR with ⟨_, rfl⟩ | ⟨n, _, rfl⟩
        · exact ⟨0, 5, rfl⟩
        · exact ⟨n, 0, rfl⟩
      subst hRt
      have f3 := f2.trans fr3
      have r3 := fr3.row' f2.ok r2
      simp (maxDischargeDepth := 30) only [AMS, AMH, ↓reduceIte, Nat.reduceLT, Nat.reduceEqDiff, Nat.reduceAdd, Nat.reduceMul, reduceCtorEq, decide_true, decide_false, Nat.reduceLeDiff, Int.reduceNe, Int.reduceEq, ne_eq, not_false_eq_true, and_self, ld_26, f3.ok, r3]
      refine W_call (cheapest_45 f3.ok (by have := f3.next; omega) (hs.fr hk f3) (hv.fr hk f3) ok hl) ?_
      rintro _ h4 ⟨⟨jm, pm, rfl, hmin⟩, fr4⟩
      have f4 := f3.trans fr4
      have r4 := fr4.row' f3.ok r3
      obtain ⟨_, h5, e5, rfl, fr5⟩ := sheet_32 f4.ok (hs.fr hk f4)
      have f5 := f4.trans fr5
      have r5 := fr5.row' f4.ok r4
      obtain ⟨_, h6, e6, rfl, fr6⟩ := hours_34 f5.ok (hs.fr hk f5) (hv.fr hk f5) (by omega) (by omega)
      have f6 := f5.trans fr6
      have r6 := fr6.row' f5.ok r5
      rw [ok] at e5
      rw [hl] at e6
      obtain ⟨_, h7, e7, ⟨jm', pm', rfl, hmin'⟩, fr7⟩ := cheapest_46 f6.ok (by have := f6.next; omega) (hs.fr hk f6) (hv.fr hk f6) ok hl
      obtain ⟨rfl, rfl⟩ := hmin.uniq hmin'
      have f7 := f6.trans fr7
      have r7 := fr7.row' f6.ok r6
      obtain ⟨_, h8, e8, rfl, fr8⟩ := tariff_33 p1 p2 p3 s.offs.length c1 s.boards.length c2 s.tars.length c3 (i : Int) _ f7.ok (by omega)
      have f8 := f7.trans fr8
      have r8 := fr8.row' f7.ok r7
      obtain ⟨_, h9, e9, rfl, fr9⟩ := tariff_33 p1 p2 p3 s.offs.length c1 s.boards.length c2 s.tars.length c3 (j : Int) _ f8.ok (by omega)
      have f9 := f8.trans fr9
      have r9 := fr9.row' f8.ok r8
      rw [hin] at e8
      rw [hjn] at e9
      obtain ⟨_, hA, eA, hQ, frA⟩ := where_47 f9.ok (by have := f9.next; omega) (hs.fr hk f9) (hv.fr hk f9) ok hl hT hU
      have fA := f9.trans frA
      rcases hQ with ⟨hE, rfl⟩ | ⟨n, hN, rfl⟩
      · rcases hR with ⟨_, hR⟩ | ⟨n', hN', hR⟩
        · obtain ⟨rfl, rfl⟩ : ra = 0 ∧ rb = 5 := by simpa using hR
          simp (maxDischargeDepth := 30) only [AMS, AMH, ↓reduceIte, Nat.reduceLT, Nat.reduceEqDiff, Nat.reduceAdd, Nat.reduceMul, reduceCtorEq, decide_true, decide_false, Nat.reduceLeDiff, Int.reduceNe, Int.reduceEq, ne_eq, not_false_eq_true, and_self, ld_26, f4.ok, r4, e5, r5, e6, f6.ok, r6, e7, f7.ok, r7, e8, f8.ok, r8, e9, j4, f9.ok, r9, eA, known_23, z00, z55, n00, ne_self]
          exact ⟨trivial, fA⟩
        · exact absurd hE hN'.ne
      · rcases hR with ⟨hE, _⟩ | ⟨n', hN', hR⟩
        · exact absurd hE hN.ne
        · obtain ⟨rfl, rfl⟩ : ra = n' ∧ rb = 0 := by simpa using hR
          obtain rfl := hN'.uniq hN
          have nn : (ra == ra) = true := by simp
          simp (maxDischargeDepth := 30) only [AMS, AMH, ↓reduceIte, Nat.reduceLT, Nat.reduceEqDiff, Nat.reduceAdd, Nat.reduceMul, reduceCtorEq, decide_true, decide_false, Nat.reduceLeDiff, Int.reduceNe, Int.reduceEq, ne_eq, not_false_eq_true, and_self, ld_26, f4.ok, r4, e5, r5, e6, f6.ok, r6, e7, f7.ok, r7, e8, f8.ok, r8, e9, j4, f9.ok, r9, eA, known_23, z00, nn, n00, ne_self]
          exact ⟨trivial, fA⟩
end Go.Am
