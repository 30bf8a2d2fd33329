/- Parts 124 of the abstract machine over this program, joined: what each part says stands at its head. -/
import Derived.Test.YtfnkjclplfhjcaaGreatDoorJ123
set_option linter.unusedSimpArgs false
set_option linter.unusedVariables false
/- The abstract machine, part 124: the statement PriceSames. -/
namespace Go.Am
open Go Go.Proofs

theorem at0_54 {b o n c : Nat} {sp : Option Nat} (h : 0 < n) : aIndexAddr CC 54 (.slice (some ⟨b, o, sp⟩) n c) (.int .i64 0) = some (.pointer (some ⟨b, o, none⟩)) := ix_54 b o sp n c 0 h

set_option maxRecDepth 10000 in
set_option maxHeartbeats 4000000 in
theorem sames_6 {h : Heap} (hk : HOK h) (hp : 0 < h.next) {a b c : Value} {s : Sheet} (hs : IsSheet h a b c s) (one other : Int) :
    CW CC 6 [.agg ⟨[a, b, c]⟩, .int .i64 one, .int .i64 other] h fun r h' => r = .bool true ∧ Fr h h' := by
  have z00 : ((0 : Int) == 0) = true := rfl
  have z22 : ((2 : Int) == 2) = true := rfl
  have z55 : ((5 : Int) == 5) = true := rfl
  have n00 : ((0 : Int) != 0) = false := rfl
  have zn : (((0 : Nat) : Int) == 0) = true := rfl
  obtain ⟨p1, c1, rfl, _⟩ := hs.offs.open
  obtain ⟨p2, c2, rfl, _⟩ := hs.boards.open
  obtain ⟨p3, c3, rfl, x3⟩ := hs.tars.open
  refine CW_in Tryz.f6 (by kernel_rfl) (by kernel_rfl) rfl rfl ?_
  simp only [Tryz.f6]
  have f1 : Fr h (h.alloc (.row [.slice p1 s.offs.length c1, .slice p2 s.boards.length c2, .slice p3 s.tars.length c3] 0 true)) := (Fr.refl hk).alloc _
  have r1 : rowAt (h.alloc (.row [.slice p1 s.offs.length c1, .slice p2 s.boards.length c2, .slice p3 s.tars.length c3] 0 true)) h.next = some [.slice p1 s.offs.length c1, .slice p2 s.boards.length c2, .slice p3 s.tars.length c3] := rowAt_new _ _ _ _
  obtain ⟨_, h2, e2, rfl, fr2⟩ := short_28 p1 p2 p3 s.offs.length c1 s.boards.length c2 s.tars.length c3 _ f1.ok
  have f2 := f1.trans fr2
  have r2 := fr2.row' f1.ok r1
  have n2 := f2.next
  cases i1 : decide ((s.offs.length : Int) ≤ 5 ∧ (s.boards.length : Int) ≤ 6 ∧ (s.tars.length : Int) ≤ 5) with
  | false =>
    rw [i1] at e2
    simp (maxDischargeDepth := 30) only [AMS, AMH, ↓reduceIte, Nat.reduceLT, Nat.reduceEqDiff, Nat.reduceAdd, Nat.reduceMul, reduceCtorEq, decide_true, decide_false, Nat.reduceLeDiff, Int.reduceNe, Int.reduceEq, ne_eq, not_false_eq_true, and_self, ix_54, ld_22, ld_26, len_22, len_54, part_22, size_22, size_54, und_54, zero_54, hk, e2, known_23]
    exact ⟨trivial, f2⟩
  | true =>
  rw [i1] at e2
  have i1' := of_decide_eq_true i1
  simp (maxDischargeDepth := 30) only [AMS, AMH, ↓reduceIte, Nat.reduceLT, Nat.reduceEqDiff, Nat.reduceAdd, Nat.reduceMul, reduceCtorEq, decide_true, decide_false, Nat.reduceLeDiff, Int.reduceNe, Int.reduceEq, ne_eq, not_false_eq_true, and_self, ix_54, ld_22, ld_26, len_22, len_54, part_22, size_22, size_54, und_54, zero_54, hk, e2, f2.ok, r2]
  cases hB : twoB s one other with
  | false =>
    refine W_call (same_38_bad f2.ok one other (hs.fr hk f2) (by omega) hB) ?_
    rintro _ h3 ⟨rfl, fr3⟩
    have f3 := f2.trans fr3
    have r3 := fr3.row' f2.ok r2
    simp (maxDischargeDepth := 30) only [AMS, AMH, ↓reduceIte, Nat.reduceLT, Nat.reduceEqDiff, Nat.reduceAdd, Nat.reduceMul, reduceCtorEq, decide_true, decide_false, Nat.reduceLeDiff, Int.reduceNe, Int.reduceEq, ne_eq, not_false_eq_true, and_self, ix_54, ld_22, ld_26, len_22, len_54, part_22, size_22, size_54, und_54, zero_54, f3.ok, r3]
    refine W_call (when_39_bad f3.ok one other (hs.fr hk f3) (by omega) hB) ?_
    rintro _ h4 ⟨rfl, fr4⟩
    have f4 := f3.trans fr4
    have r4 := fr4.row' f3.ok r3
    obtain ⟨_, h5, e5, rfl, fr5⟩ := sheet_32 f4.ok (hs.fr hk f4)
    have f5 := f4.trans fr5
    have r5 := fr5.row' f4.ok r4
    obtain ⟨_, h8, e8, rfl, fr8⟩ := tariff_33 p1 p2 p3 s.offs.length c1 s.boards.length c2 s.tars.length c3 one _ f5.ok (by omega)
    have f8 := f5.trans fr8
    have r8 := fr8.row' f5.ok r5
    obtain ⟨_, h9, e9, rfl, fr9⟩ := tariff_33 p1 p2 p3 s.offs.length c1 s.boards.length c2 s.tars.length c3 other _ f8.ok (by omega)
    have f9 := f8.trans fr9
    unfold twoB at hB
    cases j1 : s.ok with
    | false =>
      rw [j1] at e5
      simp (maxDischargeDepth := 30) only [AMS, AMH, ↓reduceIte, Nat.reduceLT, Nat.reduceEqDiff, Nat.reduceAdd, Nat.reduceMul, reduceCtorEq, decide_true, decide_false, Nat.reduceLeDiff, Int.reduceNe, Int.reduceEq, ne_eq, not_false_eq_true, and_self, ix_54, ld_22, ld_26, len_22, len_54, part_22, size_22, size_54, und_54, zero_54, f4.ok, r4, e5, known_23, z00, z22, zn]
      exact ⟨trivial, f5⟩
    | true =>
    rw [j1] at e5 hB
    simp only [Bool.true_and] at hB
    cases j2 : inP one 0 (s.tars.length - 1) with
    | false =>
      rw [j2] at e8
      simp (maxDischargeDepth := 30) only [AMS, AMH, ↓reduceIte, Nat.reduceLT, Nat.reduceEqDiff, Nat.reduceAdd, Nat.reduceMul, reduceCtorEq, decide_true, decide_false, Nat.reduceLeDiff, Int.reduceNe, Int.reduceEq, ne_eq, not_false_eq_true, and_self, ix_54, ld_22, ld_26, len_22, len_54, part_22, size_22, size_54, und_54, zero_54, f4.ok, r4, e5, r5, e8, known_23, z00, z22, zn]
      exact ⟨trivial, f8⟩
    | true =>
    rw [j2] at e8 hB
    cases j3 : inP other 0 (s.tars.length - 1) with
    | false =>
      rw [j3] at e9
      simp (maxDischargeDepth := 30) only [AMS, AMH, ↓reduceIte, Nat.reduceLT, Nat.reduceEqDiff, Nat.reduceAdd, Nat.reduceMul, reduceCtorEq, decide_true, decide_false, Nat.reduceLeDiff, Int.reduceNe, Int.reduceEq, ne_eq, not_false_eq_true, and_self, ix_54, ld_22, ld_26, len_22, len_54, part_22, size_22, size_54, und_54, zero_54, f4.ok, r4, e5, r5, e8, f8.ok, r8, e9, known_23, z00, z22, zn]
      exact ⟨trivial, f9⟩
    | true =>
    rw [j3] at e9 hB
    have j4 : (one == other) = true := by simpa using hB
    simp (maxDischargeDepth := 30) only [AMS, AMH, ↓reduceIte, Nat.reduceLT, Nat.reduceEqDiff, Nat.reduceAdd, Nat.reduceMul, reduceCtorEq, decide_true, decide_false, Nat.reduceLeDiff, Int.reduceNe, Int.reduceEq, ne_eq, not_false_eq_true, and_self, ix_54, ld_22, ld_26, len_22, len_54, part_22, size_22, size_54, und_54, zero_54, f4.ok, r4, e5, r5, e8, f8.ok, r8, e9, j4, known_23, z00, z22, zn]
    exact ⟨trivial, f9⟩
  | true =>
    obtain ⟨ok, hne, ⟨i, T, rfl, hT⟩, j, U, rfl, hU⟩ := twoB_at hB
    have hil := (List.getElem?_eq_some_iff.1 hT).1
    have hjl := (List.getElem?_eq_some_iff.1 hU).1
    have hlen := Sheet.ok_len ok
    have hin : inP (i : Int) 0 (s.tars.length - 1) = true := by simp [inP]; omega
    have hjn : inP (j : Int) 0 (s.tars.length - 1) = true := by simp [inP]; omega
    have j4 : ((i : Int) == j) = false := by simpa using hne
    have hbs : ∀ b ∈ s.boards, b.hi - b.lo ≤ 6 := fun b hb => by
      have := of_decide_eq_true (Sheet.ok_boards ok b hb); omega
    have hcount : (allN s.boards s.boards.length).length ≤ 2401 := by
      have h1 := allN_len (bs := s.boards) hbs (Nat.le_refl _) (by omega)
      have h2 : 7 ^ s.boards.length ≤ 7 ^ 4 := Nat.pow_le_pow_right (by omega) (by omega)
      omega
    refine W_call (same_38 f2.ok (by omega) (hs.fr hk f2) hB hT hU) ?_
    rintro _ h3 ⟨rfl, fr3⟩
    have f3 := f2.trans fr3
    have r3 := fr3.row' f2.ok r2
    have n3 := fr3.next
    simp (maxDischargeDepth := 30) only [AMS, AMH, ↓reduceIte, Nat.reduceLT, Nat.reduceEqDiff, Nat.reduceAdd, Nat.reduceMul, reduceCtorEq, decide_true, decide_false, Nat.reduceLeDiff, Int.reduceNe, Int.reduceEq, ne_eq, not_false_eq_true, and_self, ix_54, ld_22, ld_26, len_22, len_54, part_22, size_22, size_54, und_54, zero_54, f3.ok, r3]
    refine W_call (when_39 f3.ok (by omega) (hs.fr hk f3) hB hT hU) ?_
    rintro R h4 ⟨hR, fr4⟩
    have f4 := f3.trans fr4
    have r4 := fr4.row' f3.ok r3
    have n4 := fr4.next
    obtain ⟨_, h5, e5, rfl, fr5⟩ := sheet_32 f4.ok (hs.fr hk f4)
    have f5 := f4.trans fr5
    have r5 := fr5.row' f4.ok r4
    have n5 := fr5.next
    rw [ok] at e5
    obtain ⟨_, h8, e8, rfl, fr8⟩ := tariff_33 p1 p2 p3 s.offs.length c1 s.boards.length c2 s.tars.length c3 (i : Int) _ f5.ok (by omega)
    have f8 := f5.trans fr8
    have r8 := fr8.row' f5.ok r5
    have n8 := fr8.next
    rw [hin] at e8
    obtain ⟨_, h9, e9, rfl, fr9⟩ := tariff_33 p1 p2 p3 s.offs.length c1 s.boards.length c2 s.tars.length c3 (j : Int) _ f8.ok (by omega)
    have f9 := f8.trans fr9
    have r9 := fr9.row' f8.ok r8
    have n9 := fr9.next
    rw [hjn] at e9
    obtain ⟨E, hA, eA, ⟨us, LE, RE⟩, frA⟩ := equal_40 f9.ok (by omega) (hs.fr hk f9) ok hT hU
    have fA := f9.trans frA
    have rA := frA.row' f9.ok r9
    have nA := frA.next
    obtain ⟨V, hC, eC, ⟨vs, LV, RV⟩, frC⟩ := all_42 fA.ok (by omega) (hs.fr hk fA) ok
    have fC := fA.trans frC
    have LE' := LE.fr fA.ok frC
    have RE' := RE.fr fA.ok frC
    have f4C : Fr h4 hC := (((fr5.trans fr8).trans fr9).trans frA).trans frC
    obtain ⟨pE, cE, rfl, xE⟩ := LE'.open
    obtain ⟨pV, cV, rfl, _⟩ := LV.open
    have hw := word_same (allN s.boards s.boards.length) (eqB s T U)
    rw [RE.1] at eA
    rw [RV.1] at eC
    rcases hR with ⟨hno, rfl⟩ | ⟨l0, q, l2, v, hL, hno, hyes, rfl, lv⟩
    · have hz : (allN s.boards s.boards.length).filter (eqB s T U) = [] := by
        rw [List.filter_eq_nil_iff]
        intro a ha hc
        exact List.any_eq_false.1 hno a ha hc
      have hzl : ((allN s.boards s.boards.length).filter (eqB s T U)).length = 0 := by rw [hz]; rfl
      rw [hzl] at eA hw
      have e41 := same_41 0 (allN s.boards s.boards.length).length hC
      generalize hW : wordOf (allN s.boards s.boards.length) (eqB s T U) = w
      rw [hW] at hw
      rw [← hw] at e41
      simp (maxDischargeDepth := 30) only [AMS, AMH, ↓reduceIte, Nat.reduceLT, Nat.reduceEqDiff, Nat.reduceAdd, Nat.reduceMul, reduceCtorEq, decide_true, decide_false, Nat.reduceLeDiff, Int.reduceNe, Int.reduceEq, ne_eq, not_false_eq_true, and_self, ix_54, ld_22, ld_26, len_22, len_54, part_22, size_22, size_54, und_54, zero_54, f4.ok, r4, e5, r5, e8, f8.ok, r8, e9, j4, f9.ok, r9, eA, fA.ok, rA, eC, e41, known_23, z00, z55, zn, n00, ne_self]

      exact ⟨trivial, fC⟩
    · have hf : (allN s.boards s.boards.length).filter (eqB s T U) = q :: l2.filter (eqB s T U) := by
        rw [hL, List.filter_append, List.filter_cons, if_pos hyes]
        have : l0.filter (eqB s T U) = [] := by
          rw [List.filter_eq_nil_iff]
          intro a ha hc
          exact List.any_eq_false.1 hno a ha hc
        rw [this]; rfl
      have hql : q.length ≤ 1000 := by
        have : q ∈ allN s.boards s.boards.length := by rw [hL]; simp
        have := ((allN_mem (Nat.le_refl _) q).1 this).1
        omega
      have hpos : 0 < ((allN s.boards s.boards.length).filter (eqB s T U)).length := by rw [hf]; simp
      obtain ⟨u, hu, lu⟩ := RE'.2 0 q (by rw [hf]; rfl)
      obtain ⟨pu, cu, rfl⟩ := lu.len
      rcases xE with hx | ⟨b6, o6, sp6, row6, rfl, rr6, x6⟩
      · have := RE.1; rw [hx] at this; simp only [List.length_nil] at this; omega
      have e6 : row6[o6]? = some (.slice pu q.length cu) := by simpa [unit] using (x6 _ _ hu).2 0 (by omega)
      generalize hM : ((allN s.boards s.boards.length).filter (eqB s T U)).length = M at *
      have e41 := same_41 M (allN s.boards s.boards.length).length hC
      generalize hW : wordOf (allN s.boards s.boards.length) (eqB s T U) = w at *
      rw [← hw] at e41
      have hM0 : ((M : Int) == 0) = false := by simp; omega
      obtain ⟨pw, cw, rfl⟩ := lv.len
      have lvC := lv.fr f4.ok f4C
      obtain ⟨_, h9', e35, rfl, rfl⟩ := same_35 _ _ _ _ hC fC.ok lvC lu hql hql
      simp only [decide_true] at e35
      simp (maxDischargeDepth := 30) only [AMS, AMH, ↓reduceIte, Nat.reduceLT, Nat.reduceEqDiff, Nat.reduceAdd, Nat.reduceMul, reduceCtorEq, decide_true, decide_false, Nat.reduceLeDiff, Int.reduceNe, Int.reduceEq, ne_eq, not_false_eq_true, and_self, ix_54, ld_22, ld_26, len_22, len_54, part_22, size_22, size_54, und_54, zero_54, f4.ok, r4, e5, r5, e8, f8.ok, r8, e9, j4, f9.ok, r9, eA, fA.ok, rA, eC, e41, known_23, z00, z55, zn, n00, ne_self, hM0, fC.ok, at0_54, hpos, rr6, e6, e35]

      exact ⟨trivial, fC⟩
end Go.Am
