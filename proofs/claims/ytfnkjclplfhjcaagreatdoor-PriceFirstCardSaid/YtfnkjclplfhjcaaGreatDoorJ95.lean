/- Parts 95 of the abstract machine over this program, joined: what each part says stands at its head. -/
import Derived.Test.YtfnkjclplfhjcaaGreatDoorJ93
set_option linter.unusedSimpArgs false
set_option linter.unusedVariables false
/- The abstract machine, part 95: the statement PriceFirst. -/
namespace Go.Am
open Go Go.Proofs

set_option maxRecDepth 10000 in
set_option maxHeartbeats 4000000 in
theorem first_9 {h : Heap} (hk : HOK h) (hp : 0 < h.next) {a b c v : Value} {s : Sheet} {l : List Int} (hs : IsSheet h a b c s) (hv : LS h v l ints 1) (one other bd : Int) :
    CW CC 9 [.agg ⟨[a, b, c]⟩, .int .i64 one, .int .i64 other, v, .int .i64 bd] h fun r h' => r = .bool true ∧ Fr h h' := by
  have n00 : ((0 : Int) != 0) = false := rfl
  have n50 : ((5 : Int) != 0) = true := rfl
  have n55 : ((5 : Int) != 5) = false := rfl
  obtain ⟨p1, c1, rfl, _⟩ := hs.offs.open
  obtain ⟨p2, c2, rfl, _⟩ := hs.boards.open
  obtain ⟨p3, c3, rfl, x3⟩ := hs.tars.open
  obtain ⟨p4, c4, rfl, _⟩ := hv.open
  refine CW_in Tryz.f9 (by kernel_rfl) (by kernel_rfl) rfl rfl ?_
  simp only [Tryz.f9]
  have f1 : Fr h (h.alloc (.row [.slice p1 s.offs.length c1, .slice p2 s.boards.length c2, .slice p3 s.tars.length c3] 0 true)) := (Fr.refl hk).alloc _
  have r1 : rowAt (h.alloc (.row [.slice p1 s.offs.length c1, .slice p2 s.boards.length c2, .slice p3 s.tars.length c3] 0 true)) h.next = some [.slice p1 s.offs.length c1, .slice p2 s.boards.length c2, .slice p3 s.tars.length c3] := rowAt_new _ _ _ _
  obtain ⟨_, h2, e2, rfl, fr2⟩ := asked_22 f1.ok (hs.fr hk f1) (hv.fr hk f1) one
  have f2 := f1.trans fr2
  have r2 := fr2.row' f1.ok r1
  cases hask : askedB s one l with
  | false =>
    rw [hask] at e2
    simp (maxDischargeDepth := 30) only [AMS, AMH, ↓reduceIte, Nat.reduceLT, Nat.reduceEqDiff, Nat.reduceAdd, Nat.reduceMul, reduceCtorEq, decide_true, decide_false, Nat.reduceLeDiff, Int.reduceNe, Int.reduceEq, ne_eq, not_false_eq_true, and_self, fp_26_1, ix_22, ld_23, ld_26, ld_3, len_22, len_23, part_3, size_22, size_3, und_22, zero_22, hk, e2, known_23]
    exact ⟨trivial, f2⟩
  | true =>
  rw [hask] at e2
  unfold askedB at hask
  simp only [Bool.and_eq_true] at hask
  obtain ⟨⟨_, ok⟩, _, hin, hl⟩ := hask
  have hlen := Sheet.ok_len ok
  have hll := (hoursOK_at hl).1
  obtain ⟨_, h3, e3, rfl, fr3⟩ := tariff_33 p1 p2 p3 s.offs.length c1 s.boards.length c2 s.tars.length c3 other _ f2.ok (by omega)
  have f3 := f2.trans fr3
  have r3 := fr3.row' f2.ok r2
  cases hon : inP other 0 (s.tars.length - 1) with
  | false =>
    rw [hon] at e3
    simp (maxDischargeDepth := 30) only [AMS, AMH, ↓reduceIte, Nat.reduceLT, Nat.reduceEqDiff, Nat.reduceAdd, Nat.reduceMul, reduceCtorEq, decide_true, decide_false, Nat.reduceLeDiff, Int.reduceNe, Int.reduceEq, ne_eq, not_false_eq_true, and_self, fp_26_1, ix_22, ld_23, ld_26, ld_3, len_22, len_23, part_3, size_22, size_3, und_22, zero_22, hk, e2, f2.ok, r2, e3, known_23]
    exact ⟨trivial, f3⟩
  | true =>
  rw [hon] at e3
  cases j4 : (one == other) with
  | true =>
    simp (maxDischargeDepth := 30) only [AMS, AMH, ↓reduceIte, Nat.reduceLT, Nat.reduceEqDiff, Nat.reduceAdd, Nat.reduceMul, reduceCtorEq, decide_true, decide_false, Nat.reduceLeDiff, Int.reduceNe, Int.reduceEq, ne_eq, not_false_eq_true, and_self, fp_26_1, ix_22, ld_23, ld_26, ld_3, len_22, len_23, part_3, size_22, size_3, und_22, zero_22, hk, e2, f2.ok, r2, e3, j4, known_23]
    exact ⟨trivial, f3⟩
  | false =>
  cases d1 : decide (bd < 0) with
  | true =>
    simp (maxDischargeDepth := 30) only [AMS, AMH, ↓reduceIte, Nat.reduceLT, Nat.reduceEqDiff, Nat.reduceAdd, Nat.reduceMul, reduceCtorEq, decide_true, decide_false, Nat.reduceLeDiff, Int.reduceNe, Int.reduceEq, ne_eq, not_false_eq_true, and_self, fp_26_1, ix_22, ld_23, ld_26, ld_3, len_22, len_23, part_3, size_22, size_3, und_22, zero_22, hk, e2, f2.ok, r2, e3, j4, d1, known_23]
    exact ⟨trivial, f3⟩
  | false =>
  cases d2 : decide (bd ≥ (s.boards.length : Int)) with
  | true =>
    simp (maxDischargeDepth := 30) only [AMS, AMH, ↓reduceIte, Nat.reduceLT, Nat.reduceEqDiff, Nat.reduceAdd, Nat.reduceMul, reduceCtorEq, decide_true, decide_false, Nat.reduceLeDiff, Int.reduceNe, Int.reduceEq, ne_eq, not_false_eq_true, and_self, fp_26_1, ix_22, ld_23, ld_26, ld_3, len_22, len_23, part_3, size_22, size_3, und_22, zero_22, hk, e2, f2.ok, r2, e3, j4, d1, f3.ok, r3, d2, known_23]
    exact ⟨trivial, f3⟩
  | false =>
  have d1' := of_decide_eq_false d1
  have d2' := of_decide_eq_false d2
  have two : twoB s one other = true := by
    unfold twoB
    rw [ok, hin, hon, bne, j4]; rfl
  obtain ⟨_, hne, ⟨i, T, rfl, hT⟩, j, U, rfl, hU⟩ := twoB_at two
  obtain ⟨w, rfl⟩ : ∃ w : Nat, bd = w := ⟨bd.toNat, by omega⟩
  have hil := (List.getElem?_eq_some_iff.1 hT).1
  have lA := parts_len (t := T) hll
  have lB := parts_len (t := U) hll
  have pl : (paids s l).length = s.tars.length := by simp [paids]
  have hwl : w < s.boards.length := by omega
  obtain ⟨xa, gxa⟩ : ∃ x, (parts T s.boards l)[w]? = some x := ⟨_, List.getElem?_eq_getElem (by omega)⟩
  obtain ⟨xb, gxb⟩ : ∃ x, (parts U s.boards l)[w]? = some x := ⟨_, List.getElem?_eq_getElem (by omega)⟩
  simp (maxDischargeDepth := 30) only [AMS, AMH, ↓reduceIte, Nat.reduceLT, Nat.reduceEqDiff, Nat.reduceAdd, Nat.reduceMul, reduceCtorEq, decide_true, decide_false, Nat.reduceLeDiff, Int.reduceNe, Int.reduceEq, ne_eq, not_false_eq_true, and_self, fp_26_1, ix_22, ld_23, ld_26, ld_3, len_22, len_23, part_3, size_22, size_3, und_22, zero_22, hk, e2, f2.ok, r2, e3, j4, d1, d2, f3.ok, r3]
  refine W_call (where_44 f3.ok (by have := f3.next; omega) (hs.fr hk f3) (hv.fr hk f3) two hl hT hU) ?_
  rintro R h4 ⟨hR, fr4⟩
  obtain ⟨ra, rb, hRt⟩ : ∃ ra rb : Int, R = .tuple ⟨[.int .i64 ra, .int .i64 rb]⟩ := by
    rcases hR with ⟨_, rfl⟩ | ⟨n, _, rfl⟩
    · exact ⟨0, 5, rfl⟩
    · exact ⟨n, 0, rfl⟩
  subst hRt
  have f4 := f3.trans fr4
  have r4 := fr4.row' f3.ok r3
  simp (maxDischargeDepth := 30) only [AMS, AMH, ↓reduceIte, Nat.reduceLT, Nat.reduceEqDiff, Nat.reduceAdd, Nat.reduceMul, reduceCtorEq, decide_true, decide_false, Nat.reduceLeDiff, Int.reduceNe, Int.reduceEq, ne_eq, not_false_eq_true, and_self, fp_26_1, ix_22, ld_23, ld_26, ld_3, len_22, len_23, part_3, size_22, size_3, und_22, zero_22, f4.ok, r4]
  refine W_call (parts_30 f4.ok (by have := f4.next; omega) (hs.fr hk f4) (hv.fr hk f4) ok hl hT) ?_
  rintro _ h5 ⟨A, rfl, qA, fr5⟩
  obtain ⟨pA, cA, rfl⟩ := qA.len
  have f5 := f4.trans fr5
  have r5 := fr5.row' f4.ok r4
  simp (maxDischargeDepth := 30) only [AMS, AMH, ↓reduceIte, Nat.reduceLT, Nat.reduceEqDiff, Nat.reduceAdd, Nat.reduceMul, reduceCtorEq, decide_true, decide_false, Nat.reduceLeDiff, Int.reduceNe, Int.reduceEq, ne_eq, not_false_eq_true, and_self, fp_26_1, ix_22, ld_23, ld_26, ld_3, len_22, len_23, part_3, size_22, size_3, und_22, zero_22, f5.ok, r5]
  refine W_call (parts_30 f5.ok (by have := f5.next; omega) (hs.fr hk f5) (hv.fr hk f5) ok hl hU) ?_
  rintro _ h6 ⟨B, rfl, qB, fr6⟩
  obtain ⟨pB, cB, rfl⟩ := qB.len
  have f6 := f5.trans fr6
  have r6 := fr6.row' f5.ok r5
  simp (maxDischargeDepth := 30) only [AMS, AMH, ↓reduceIte, Nat.reduceLT, Nat.reduceEqDiff, Nat.reduceAdd, Nat.reduceMul, reduceCtorEq, decide_true, decide_false, Nat.reduceLeDiff, Int.reduceNe, Int.reduceEq, ne_eq, not_false_eq_true, and_self, fp_26_1, ix_22, ld_23, ld_26, ld_3, len_22, len_23, part_3, size_22, size_3, und_22, zero_22, f6.ok, r6]
  refine W_call (cheapest_45 f6.ok (by have := f6.next; omega) (hs.fr hk f6) (hv.fr hk f6) ok hl) ?_
  rintro _ h7 ⟨⟨jm, pm, rfl, hmin⟩, fr7⟩
  have f7 := f6.trans fr7
  have r7 := fr7.row' f6.ok r6
  simp (maxDischargeDepth := 30) only [AMS, AMH, ↓reduceIte, Nat.reduceLT, Nat.reduceEqDiff, Nat.reduceAdd, Nat.reduceMul, reduceCtorEq, decide_true, decide_false, Nat.reduceLeDiff, Int.reduceNe, Int.reduceEq, ne_eq, not_false_eq_true, and_self, fp_26_1, ix_22, ld_23, ld_26, ld_3, len_22, len_23, part_3, size_22, size_3, und_22, zero_22, f7.ok, r7]
  refine W_call (total_25 f7.ok (by have := f7.next; omega) (hs.fr hk f7) (hv.fr hk f7) ok hl hT) ?_
  rintro _ h8 ⟨rfl, fr8⟩
  have f8 := f7.trans fr8
  have r8 := fr8.row' f7.ok r7
  obtain ⟨_, h9, e9, rfl, fr9⟩ := tariff_33 p1 p2 p3 s.offs.length c1 s.boards.length c2 s.tars.length c3 (jm : Int) _ f8.ok (by omega)
  have f9 := f8.trans fr9
  have r9 := fr9.row' f8.ok r8
  have hjm := (List.getElem?_eq_some_iff.1 hmin.1).1
  have hjn : inP (jm : Int) 0 (s.tars.length - 1) = true := by simp [inP]; omega
  rw [hjn] at e9
  have hb : (rb != 0) = false ∨ ((rb != 0) = true ∧ (rb != 5) = false) := by
    rcases hR with ⟨_, hR⟩ | ⟨n, _, hR⟩
    · obtain ⟨_, rfl⟩ : ra = 0 ∧ rb = 5 := by simpa using hR
      exact .inr ⟨rfl, rfl⟩
    · obtain ⟨_, rfl⟩ : ra = n ∧ rb = 0 := by simpa using hR
      exact .inl rfl
  obtain ⟨M, hM⟩ : ∃ M, s.tars[jm]? = some M := ⟨_, List.getElem?_eq_getElem (by omega)⟩
  have hpm : paid M s.boards l = pm := by
    have := hmin.1
    simp [paids, hM] at this; exact this
  have hown := hmin.2 i (paid T s.boards l) (by simp [paids, hT])
  have nA : (((parts T s.boards l).length : Int) != s.boards.length) = false := by rw [lA]; simp
  have nB : (((parts U s.boards l).length : Int) != s.boards.length) = false := by rw [lB]; simp
  have c1' : decide (paid T s.boards l < pm) = false := by simp; omega
  have c2' : (paid T s.boards l == pm) = true → decide ((i : Int) < jm) = false := by
    intro q
    have q : paid T s.boards l = pm := by simpa using q
    refine decide_eq_false fun hlt => ?_
    have := hown.2 (by omega); omega
  have r59 := ((fr6.trans fr7).trans fr8).trans fr9
  have r69 := (fr7.trans fr8).trans fr9
  rcases hb with hb1 | ⟨hb1, hb2⟩
  · simp (maxDischargeDepth := 30) only [AMS, AMH, ↓reduceIte, Nat.reduceLT, Nat.reduceEqDiff, Nat.reduceAdd, Nat.reduceMul, reduceCtorEq, decide_true, decide_false, Nat.reduceLeDiff, Int.reduceNe, Int.reduceEq, ne_eq, not_false_eq_true, and_self, fp_26_1, ix_22, ld_23, ld_26, ld_3, len_22, len_23, part_3, size_22, size_3, und_22, zero_22, f8.ok, r8, n00, n50, n55, hb1, nA, nB, e9, f9.ok, r9]
    refine W_call (total_25 f9.ok (by have := f9.next; omega) (hs.fr hk f9) (hv.fr hk f9) ok hl hM) ?_
    rintro _ hA ⟨rfl, frA⟩
    have fA := f9.trans frA
    rw [hpm]
    have LA : LS hA (.slice pA (parts T s.boards l).length cA) (parts T s.boards l) ints 1 := (qA.fr f5.ok r59).fr f9.ok frA
    have LB : LS hA (.slice pB (parts U s.boards l).length cB) (parts U s.boards l) ints 1 := (qB.fr f6.ok r69).fr f9.ok frA
    obtain ⟨b5, o5, sp5, row5, hA5, rr5, e5⟩ := LA.cell gxa
    obtain ⟨b6, o6, sp6, row6, hA6, rr6, e6⟩ := LB.cell gxb
    subst hA5 hA6
    obtain ⟨k, hk0, hkl, hdiff, hsame⟩ : FirstOff (parts T s.boards l) (parts U s.boards l) ra := by
      rcases hR with ⟨q, hR⟩ | ⟨n, hn, hR⟩
      · obtain ⟨_, rfl⟩ : ra = 0 ∧ rb = 5 := by simpa using hR
        simp at hb1
      · obtain ⟨rfl, _⟩ : ra = n ∧ rb = 0 := by simpa using hR
        exact hn
    subst hk0
    obtain ⟨ya, gya⟩ : ∃ x, (parts T s.boards l)[k]? = some x := ⟨_, List.getElem?_eq_getElem (by omega)⟩
    obtain ⟨yb, gyb⟩ : ∃ x, (parts U s.boards l)[k]? = some x := ⟨_, List.getElem?_eq_getElem (by omega)⟩
    rw [gya, gyb] at hdiff
    have xy : (ya != yb) = true := by simpa using hdiff
    obtain ⟨b7, o7, sp7, row7, hA7, rr7, ek5⟩ := LA.cell gya
    obtain ⟨b8, o8, sp8, row8, hA8, rr8, ek6⟩ := LB.cell gyb
    simp only [Option.some.injEq, Addr.mk.injEq] at hA7 hA8
    obtain ⟨rfl, rfl, rfl⟩ := hA7
    obtain ⟨rfl, rfl, rfl⟩ := hA8
    rw [rr5] at rr7
    rw [rr6] at rr8
    obtain rfl : row5 = row7 := by simpa using rr7
    obtain rfl : row6 = row8 := by simpa using rr8
    have k0 : decide ((k : Int) ≥ 0) = true := by simp
    have kA : decide ((k : Int) < ((parts T s.boards l).length : Int)) = true := by simp; omega
    have kA' : k < (parts T s.boards l).length := hkl
    have kB' : k < (parts U s.boards l).length := by omega
    have wA : w < (parts T s.boards l).length := by omega
    have wB : w < (parts U s.boards l).length := by omega
    cases q : (paid T s.boards l == pm) with
    | true =>
      simp (maxDischargeDepth := 30) only [AMS, AMH, ↓reduceIte, Nat.reduceLT, Nat.reduceEqDiff, Nat.reduceAdd, Nat.reduceMul, reduceCtorEq, decide_true, decide_false, Nat.reduceLeDiff, Int.reduceNe, Int.reduceEq, ne_eq, not_false_eq_true, and_self, fp_26_1, ix_22, ld_23, ld_26, ld_3, len_22, len_23, part_3, size_22, size_3, und_22, zero_22, fA.ok, n00, ne_self, c1', q, c2' q, hb1, boolIs_undef]
      refine W_draw [(true, 0), (true, 1), (true, 2), (true, 3), (true, 4), (true, 5), (true, 6), (true, 7), (true, 8), (true, 9), (true, 10), (true, 11), (true, 12), (true, 13), (true, 14), (true, 15), (true, 16), (true, 17), (true, 18), (true, 19), (true, 20), (true, 21), (true, 22), (true, 23), (true, 24), (true, 25), (true, 26), (true, 27), (true, 28), (true, 29), (true, 30), (true, 31), (true, 32), (true, 33), (true, 34), (true, 35), (true, 36), (true, 37), (true, 38)] (by kernel_rfl) ?_
      cases hge : decide ((w : Int) ≥ (k : Int)) with
      | true =>
        simp (maxDischargeDepth := 30) only [AMS, AMH, ↓reduceIte, Nat.reduceLT, Nat.reduceEqDiff, Nat.reduceAdd, Nat.reduceMul, reduceCtorEq, decide_true, decide_false, Nat.reduceLeDiff, Int.reduceNe, Int.reduceEq, ne_eq, not_false_eq_true, and_self, AMR, fp_26_1, ix_22, ld_23, ld_26, ld_3, len_22, len_23, part_3, size_22, size_3, und_22, zero_22, fA.ok, k0, kA, kA', kB', Nat.mul_one, rr5, rr6, ek5, ek6, xy, hge, boolIs_undef, known_23]
        exact ⟨trivial, fA⟩
      | false =>
        have hlt := of_decide_eq_false hge
        have exy : xa = xb := by
          have := congrArg (·[w]?) hsame
          simp only [List.getElem?_take] at this
          rw [if_pos (by omega), if_pos (by omega), gxa, gxb] at this
          simpa using this
        have xx : (xa == xb) = true := by simp [exy]
        simp (maxDischargeDepth := 30) only [AMS, AMH, ↓reduceIte, Nat.reduceLT, Nat.reduceEqDiff, Nat.reduceAdd, Nat.reduceMul, reduceCtorEq, decide_true, decide_false, Nat.reduceLeDiff, Int.reduceNe, Int.reduceEq, ne_eq, not_false_eq_true, and_self, AMR, fp_26_1, ix_22, ld_23, ld_26, ld_3, len_22, len_23, part_3, size_22, size_3, und_22, zero_22, fA.ok, k0, kA, kA', kB', wA, wB, Nat.mul_one, rr5, rr6, e5, e6, ek5, ek6, xy, hge, xx, boolIs_undef, known_23]
        exact ⟨trivial, fA⟩
    | false =>
      simp (maxDischargeDepth := 30) only [AMS, AMH, ↓reduceIte, Nat.reduceLT, Nat.reduceEqDiff, Nat.reduceAdd, Nat.reduceMul, reduceCtorEq, decide_true, decide_false, Nat.reduceLeDiff, Int.reduceNe, Int.reduceEq, ne_eq, not_false_eq_true, and_self, fp_26_1, ix_22, ld_23, ld_26, ld_3, len_22, len_23, part_3, size_22, size_3, und_22, zero_22, fA.ok, n00, ne_self, c1', q, hb1, boolIs_undef]
      refine W_draw [(true, 0), (true, 1), (true, 2), (true, 3), (true, 4), (true, 5), (true, 6), (true, 7), (true, 8), (true, 9), (true, 10), (true, 11), (true, 12), (true, 13), (true, 14), (true, 15), (true, 16), (true, 17), (true, 18), (true, 19), (true, 20), (true, 21), (true, 22), (true, 23), (true, 24), (true, 25), (true, 26), (true, 27), (true, 28), (true, 29), (true, 30), (true, 31), (true, 32), (true, 33), (true, 34), (true, 35), (true, 36), (true, 37), (true, 38)] (by kernel_rfl) ?_
      cases hge : decide ((w : Int) ≥ (k : Int)) with
      | true =>
        simp (maxDischargeDepth := 30) only [AMS, AMH, ↓reduceIte, Nat.reduceLT, Nat.reduceEqDiff, Nat.reduceAdd, Nat.reduceMul, reduceCtorEq, decide_true, decide_false, Nat.reduceLeDiff, Int.reduceNe, Int.reduceEq, ne_eq, not_false_eq_true, and_self, AMR, fp_26_1, ix_22, ld_23, ld_26, ld_3, len_22, len_23, part_3, size_22, size_3, und_22, zero_22, fA.ok, k0, kA, kA', kB', Nat.mul_one, rr5, rr6, ek5, ek6, xy, hge, boolIs_undef, known_23]
        exact ⟨trivial, fA⟩
      | false =>
        have hlt := of_decide_eq_false hge
        have exy : xa = xb := by
          have := congrArg (·[w]?) hsame
          simp only [List.getElem?_take] at this
          rw [if_pos (by omega), if_pos (by omega), gxa, gxb] at this
          simpa using this
        have xx : (xa == xb) = true := by simp [exy]
        simp (maxDischargeDepth := 30) only [AMS, AMH, ↓reduceIte, Nat.reduceLT, Nat.reduceEqDiff, Nat.reduceAdd, Nat.reduceMul, reduceCtorEq, decide_true, decide_false, Nat.reduceLeDiff, Int.reduceNe, Int.reduceEq, ne_eq, not_false_eq_true, and_self, AMR, fp_26_1, ix_22, ld_23, ld_26, ld_3, len_22, len_23, part_3, size_22, size_3, und_22, zero_22, fA.ok, k0, kA, kA', kB', wA, wB, Nat.mul_one, rr5, rr6, e5, e6, ek5, ek6, xy, hge, xx, boolIs_undef, known_23]
        exact ⟨trivial, fA⟩
  · simp (maxDischargeDepth := 30) only [AMS, AMH, ↓reduceIte, Nat.reduceLT, Nat.reduceEqDiff, Nat.reduceAdd, Nat.reduceMul, reduceCtorEq, decide_true, decide_false, Nat.reduceLeDiff, Int.reduceNe, Int.reduceEq, ne_eq, not_false_eq_true, and_self, fp_26_1, ix_22, ld_23, ld_26, ld_3, len_22, len_23, part_3, size_22, size_3, und_22, zero_22, f8.ok, r8, n00, n50, n55, hb1, hb2, nA, nB, e9, f9.ok, r9]
    refine W_call (total_25 f9.ok (by have := f9.next; omega) (hs.fr hk f9) (hv.fr hk f9) ok hl hM) ?_
    rintro _ hA ⟨rfl, frA⟩
    have fA := f9.trans frA
    rw [hpm]
    have LA : LS hA (.slice pA (parts T s.boards l).length cA) (parts T s.boards l) ints 1 := (qA.fr f5.ok r59).fr f9.ok frA
    have LB : LS hA (.slice pB (parts U s.boards l).length cB) (parts U s.boards l) ints 1 := (qB.fr f6.ok r69).fr f9.ok frA
    obtain ⟨b5, o5, sp5, row5, hA5, rr5, e5⟩ := LA.cell gxa
    obtain ⟨b6, o6, sp6, row6, hA6, rr6, e6⟩ := LB.cell gxb
    subst hA5 hA6
    have hAB : parts T s.boards l = parts U s.boards l := by
      rcases hR with ⟨q, _⟩ | ⟨n, _, hR⟩
      · exact q
      · obtain ⟨_, rfl⟩ : ra = n ∧ rb = 0 := by simpa using hR
        simp at hb1
    rw [hAB, gxb] at gxa
    obtain rfl : xb = xa := by simpa using gxa
    have xx : (xb == xb) = true := by simp
    have wA : w < (parts T s.boards l).length := by omega
    have wB : w < (parts U s.boards l).length := by omega
    cases q : (paid T s.boards l == pm) with
    | true =>
      simp (maxDischargeDepth := 30) only [AMS, AMH, ↓reduceIte, Nat.reduceLT, Nat.reduceEqDiff, Nat.reduceAdd, Nat.reduceMul, reduceCtorEq, decide_true, decide_false, Nat.reduceLeDiff, Int.reduceNe, Int.reduceEq, ne_eq, not_false_eq_true, and_self, fp_26_1, ix_22, ld_23, ld_26, ld_3, len_22, len_23, part_3, size_22, size_3, und_22, zero_22, fA.ok, n00, ne_self, c1', q, c2' q, hb1, boolIs_undef]
      refine W_draw [(true, 0), (true, 1), (true, 2), (true, 3), (true, 4), (true, 5), (true, 6), (true, 7), (true, 8), (true, 9), (true, 10), (true, 11), (true, 12)] (by kernel_rfl) ?_
      simp (maxDischargeDepth := 30) only [AMS, AMH, ↓reduceIte, Nat.reduceLT, Nat.reduceEqDiff, Nat.reduceAdd, Nat.reduceMul, reduceCtorEq, decide_true, decide_false, Nat.reduceLeDiff, Int.reduceNe, Int.reduceEq, ne_eq, not_false_eq_true, and_self, AMR, fp_26_1, ix_22, ld_23, ld_26, ld_3, len_22, len_23, part_3, size_22, size_3, und_22, zero_22, fA.ok, wA, wB, Nat.mul_one, rr5, rr6, e5, e6, xx, known_23]
      exact ⟨trivial, fA⟩
    | false =>
      simp (maxDischargeDepth := 30) only [AMS, AMH, ↓reduceIte, Nat.reduceLT, Nat.reduceEqDiff, Nat.reduceAdd, Nat.reduceMul, reduceCtorEq, decide_true, decide_false, Nat.reduceLeDiff, Int.reduceNe, Int.reduceEq, ne_eq, not_false_eq_true, and_self, fp_26_1, ix_22, ld_23, ld_26, ld_3, len_22, len_23, part_3, size_22, size_3, und_22, zero_22, fA.ok, n00, ne_self, c1', q, hb1, boolIs_undef]
      refine W_draw [(true, 0), (true, 1), (true, 2), (true, 3), (true, 4), (true, 5), (true, 6), (true, 7), (true, 8), (true, 9), (true, 10), (true, 11), (true, 12)] (by kernel_rfl) ?_
      simp (maxDischargeDepth := 30) only [AMS, AMH, ↓reduceIte, Nat.reduceLT, Nat.reduceEqDiff, Nat.reduceAdd, Nat.reduceMul, reduceCtorEq, decide_true, decide_false, Nat.reduceLeDiff, Int.reduceNe, Int.reduceEq, ne_eq, not_false_eq_true, and_self, AMR, fp_26_1, ix_22, ld_23, ld_26, ld_3, len_22, len_23, part_3, size_22, size_3, und_22, zero_22, fA.ok, wA, wB, Nat.mul_one, rr5, rr6, e5, e6, xx, known_23]
      exact ⟨trivial, fA⟩
end Go.Am
