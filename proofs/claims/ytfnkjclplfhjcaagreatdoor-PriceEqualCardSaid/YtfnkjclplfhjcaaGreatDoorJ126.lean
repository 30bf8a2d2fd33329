/- Parts 126 of the abstract machine over this program, joined: what each part says stands at its head. -/
import Derived.Test.YtfnkjclplfhjcaaGreatDoorJ125
set_option linter.unusedSimpArgs false
set_option linter.unusedVariables false
/- The abstract machine, part 126: the statement PriceEqual. -/
namespace Go.Am
open Go Go.Proofs

theorem ne_4 (c x y : Bool) : aBin CC .neq 4 c (.bool x) (.bool y) = some (.bool (x != y)) := by cases x <;> cases y <;> cases c <;> kernel_rfl
theorem word_b (L : List (List Int)) (f : List Int → Bool) : 1 ≤ wordOf L f ∧ wordOf L f ≤ 3 := by
  unfold wordOf
  split
  · split <;> omega
  · omega

set_option maxRecDepth 10000 in
set_option maxHeartbeats 8000000 in
theorem equal_7 {h : Heap} (hk : HOK h) (hp : 0 < h.next) {a b c v : Value} {s : Sheet} {l : List Int} (hs : IsSheet h a b c s) (hv : LS h v l ints 1) (one other : Int) :
    CW CC 7 [.agg ⟨[a, b, c]⟩, .int .i64 one, .int .i64 other, v] h fun r h' => r = .bool true ∧ Fr h h' := by
  have z00 : ((0 : Int) == 0) = true := rfl
  have z22 : ((2 : Int) == 2) = true := rfl
  have z55 : ((5 : Int) == 5) = true := rfl
  have n00 : ((0 : Int) != 0) = false := rfl
  have n50 : ((5 : Int) != 0) = true := rfl
  have n55 : ((5 : Int) != 5) = false := rfl
  have z05 : ((0 : Int) == 5) = false := rfl
  have zn : (((0 : Nat) : Int) == 0) = true := rfl
  obtain ⟨p1, c1, rfl, _⟩ := hs.offs.open
  obtain ⟨p2, c2, rfl, _⟩ := hs.boards.open
  obtain ⟨p3, c3, rfl, x3⟩ := hs.tars.open
  obtain ⟨p4, c4, rfl, _⟩ := hv.open
  refine CW_in Tryz.f7 (by kernel_rfl) (by kernel_rfl) rfl rfl ?_
  simp only [Tryz.f7]
  have f1 : Fr h (h.alloc (.row [.slice p1 s.offs.length c1, .slice p2 s.boards.length c2, .slice p3 s.tars.length c3] 0 true)) := (Fr.refl hk).alloc _
  have r1 : rowAt (h.alloc (.row [.slice p1 s.offs.length c1, .slice p2 s.boards.length c2, .slice p3 s.tars.length c3] 0 true)) h.next = some [.slice p1 s.offs.length c1, .slice p2 s.boards.length c2, .slice p3 s.tars.length c3] := rowAt_new _ _ _ _
  obtain ⟨_, h2, e2, rfl, fr2⟩ := asked_22 f1.ok (hs.fr hk f1) (hv.fr hk f1) one
  have f2 := f1.trans fr2
  have r2 := fr2.row' f1.ok r1
  cases hask : askedB s one l with
  | false =>
    rw [hask] at e2
    simp (maxDischargeDepth := 30) only [AMS, AMH, ↓reduceIte, Nat.reduceLT, Nat.reduceEqDiff, Nat.reduceAdd, Nat.reduceMul, reduceCtorEq, decide_true, decide_false, Nat.reduceLeDiff, Int.reduceNe, Int.reduceEq, ne_eq, not_false_eq_true, and_self, ld_26, und_4, hk, e2, known_23]
    exact ⟨trivial, f2⟩
  | true =>
  rw [hask] at e2
  unfold askedB at hask
  simp only [Bool.and_eq_true] at hask
  obtain ⟨⟨_, ok⟩, _, hin, hl⟩ := hask
  have hlen := Sheet.ok_len ok
  obtain ⟨_, h3, e3, rfl, fr3⟩ := tariff_33 p1 p2 p3 s.offs.length c1 s.boards.length c2 s.tars.length c3 other _ f2.ok (by omega)
  have f3 := f2.trans fr3
  have r3 := fr3.row' f2.ok r2
  cases j2 : inP other 0 (s.tars.length - 1) with
  | false =>
    rw [j2] at e3
    simp (maxDischargeDepth := 30) only [AMS, AMH, ↓reduceIte, Nat.reduceLT, Nat.reduceEqDiff, Nat.reduceAdd, Nat.reduceMul, reduceCtorEq, decide_true, decide_false, Nat.reduceLeDiff, Int.reduceNe, Int.reduceEq, ne_eq, not_false_eq_true, and_self, ld_26, und_4, hk, e2, f2.ok, r2, e3, known_23]
    exact ⟨trivial, f3⟩
  | true =>
  rw [j2] at e3
  cases j4 : (one == other) with
  | true =>
    simp (maxDischargeDepth := 30) only [AMS, AMH, ↓reduceIte, Nat.reduceLT, Nat.reduceEqDiff, Nat.reduceAdd, Nat.reduceMul, reduceCtorEq, decide_true, decide_false, Nat.reduceLeDiff, Int.reduceNe, Int.reduceEq, ne_eq, not_false_eq_true, and_self, ld_26, und_4, hk, e2, f2.ok, r2, e3, j4, known_23]
    exact ⟨trivial, f3⟩
  | false =>
  simp (maxDischargeDepth := 30) only [AMS, AMH, ↓reduceIte, Nat.reduceLT, Nat.reduceEqDiff, Nat.reduceAdd, Nat.reduceMul, reduceCtorEq, decide_true, decide_false, Nat.reduceLeDiff, Int.reduceNe, Int.reduceEq, ne_eq, not_false_eq_true, and_self, ld_26, und_4, hk, e2, f2.ok, r2, e3, j4]
  have hin' := of_decide_eq_true hin
  have hin2 := of_decide_eq_true j2
  have hne : one ≠ other := by simpa using j4
  obtain ⟨i, rfl⟩ : ∃ i : Nat, one = i := ⟨one.toNat, by omega⟩
  obtain ⟨j, rfl⟩ : ∃ j : Nat, other = j := ⟨other.toNat, by omega⟩
  obtain ⟨T, hT⟩ : ∃ T, s.tars[i]? = some T := ⟨_, List.getElem?_eq_getElem (by omega)⟩
  obtain ⟨U, hU⟩ : ∃ T, s.tars[j]? = some T := ⟨_, List.getElem?_eq_getElem (by omega)⟩
  have hB : twoB s i j = true := by
    unfold twoB
    have e1 : inP (i : Int) 0 (s.tars.length - 1) = true := by simp [inP]; omega
    have e2 : inP (j : Int) 0 (s.tars.length - 1) = true := by simp [inP]; omega
    rw [ok, e1, e2]
    simpa using hne
  have hB' : twoB s j i = true := by
    unfold twoB
    have e1 : inP (i : Int) 0 (s.tars.length - 1) = true := by simp [inP]; omega
    have e2 : inP (j : Int) 0 (s.tars.length - 1) = true := by simp [inP]; omega
    rw [ok, e1, e2]
    simpa using fun c => hne c.symm
  have hmem := allN_ok.1 hl
  have hll := (hoursOK_at hl).1
  have n3 := f3.next
  simp (maxDischargeDepth := 30) only [AMS, AMH, ↓reduceIte, Nat.reduceLT, Nat.reduceEqDiff, Nat.reduceAdd, Nat.reduceMul, reduceCtorEq, decide_true, decide_false, Nat.reduceLeDiff, Int.reduceNe, Int.reduceEq, ne_eq, not_false_eq_true, and_self, ld_26, und_4, f3.ok, r3]
  refine W_call (same_38 f3.ok (by omega) (hs.fr hk f3) hB hT hU) ?_
  rintro _ h4 ⟨rfl, fr4⟩
  have f4 := f3.trans fr4
  have r4 := fr4.row' f3.ok r3
  have n4 := fr4.next
  simp (maxDischargeDepth := 30) only [AMS, AMH, ↓reduceIte, Nat.reduceLT, Nat.reduceEqDiff, Nat.reduceAdd, Nat.reduceMul, reduceCtorEq, decide_true, decide_false, Nat.reduceLeDiff, Int.reduceNe, Int.reduceEq, ne_eq, not_false_eq_true, and_self, ld_26, und_4, f4.ok, r4]
  refine W_call (same_38 f4.ok (by omega) (hs.fr hk f4) hB' hU hT) ?_
  rintro _ h5 ⟨rfl, fr5⟩
  rw [eqB_symm s T U]
  have f5 := f4.trans fr5
  have r5 := fr5.row' f4.ok r4
  have n5 := fr5.next
  simp (maxDischargeDepth := 30) only [AMS, AMH, ↓reduceIte, Nat.reduceLT, Nat.reduceEqDiff, Nat.reduceAdd, Nat.reduceMul, reduceCtorEq, decide_true, decide_false, Nat.reduceLeDiff, Int.reduceNe, Int.reduceEq, ne_eq, not_false_eq_true, and_self, ld_26, und_4, f5.ok, r5]
  refine W_call (when_39 f5.ok (by omega) (hs.fr hk f5) hB hT hU) ?_
  rintro R h6 ⟨hR, fr6⟩
  have f6 := f5.trans fr6
  have r6 := fr6.row' f5.ok r5
  have n6 := fr6.next
  obtain ⟨Q, hQ, eQ, rfl, frQ⟩ := total_25 f6.ok (by omega) (hs.fr hk f6) (hv.fr hk f6) ok hl hT
  have fQ := f6.trans frQ
  have rQ := frQ.row' f6.ok r6
  have nQ := frQ.next
  obtain ⟨_, hV, eV, rfl, frV⟩ := total_25 fQ.ok (by omega) (hs.fr hk fQ) (hv.fr hk fQ) ok hl hU
  have fV := fQ.trans frV
  have rV := frV.row' fQ.ok rQ
  have nV := frV.next
  have fq : eqB s T U l = decide (paid T s.boards l = paid U s.boards l) := rfl
  have wb := word_b (allN s.boards s.boards.length) (eqB s T U)
  have hA1 : paid T s.boards l = paid U s.boards l → wordOf (allN s.boards s.boards.length) (eqB s T U) ≠ 1 := fun e => by
    have : (allN s.boards s.boards.length).any (eqB s T U) = true := List.any_eq_true.2 ⟨l, hmem, by rw [fq]; exact decide_eq_true e⟩
    unfold wordOf; simp only [this, ↓reduceIte]; split <;> simp
  have hA3 : paid T s.boards l ≠ paid U s.boards l → wordOf (allN s.boards s.boards.length) (eqB s T U) ≠ 3 := fun e => by
    have : (allN s.boards s.boards.length).any (fun q => !eqB s T U q) = true := List.any_eq_true.2 ⟨l, hmem, by rw [fq, decide_eq_false e]; rfl⟩
    unfold wordOf; simp only [this, ↓reduceIte]; split <;> simp
  generalize hX : paid T s.boards l = X at *
  generalize hY : paid U s.boards l = Y at *
  rcases hR with ⟨hno, rfl⟩ | ⟨l0, q, l2, v, hL, hno, hyes, rfl, lv⟩
  · have hw : wordOf (allN s.boards s.boards.length) (eqB s T U) = 1 := by unfold wordOf; rw [hno]; rfl
    rw [hw] at wb hA1 hA3 ⊢
    have w13 : ((1 : Int) == 3) = false := rfl
    have w11 : ((1 : Int) == 1) = true := rfl
    have wl : decide ((1 : Int) < 1) = false := rfl
    have wg : decide ((1 : Int) > 3) = false := rfl
    have hne' : X ≠ Y := fun e => hA1 e rfl
    have xy : (X == Y) = false := by simpa using hne'
    have xy' : (X != Y) = true := by simpa using hne'
    simp (maxDischargeDepth := 30) only [AMS, AMH, ↓reduceIte, Nat.reduceLT, Nat.reduceEqDiff, Nat.reduceAdd, Nat.reduceMul, reduceCtorEq, decide_true, decide_false, Nat.reduceLeDiff, Int.reduceNe, Int.reduceEq, ne_eq, not_false_eq_true, and_self, ld_26, und_4, f6.ok, r6, eQ, fQ.ok, rQ, eV, fV.ok, rV, ne_self, n00, n50, n55, z55, w13, w11, wl, wg, xy, xy', known_23, ne_4, bne_self_eq_false]
    exact ⟨trivial, fV⟩
  · have hq : q ∈ allN s.boards s.boards.length := by rw [hL]; simp
    have hhq := allN_ok.2 hq
    have hqll := (hoursOK_at hhq).1
    have hw : wordOf (allN s.boards s.boards.length) (eqB s T U) ≠ 1 := by
      have : (allN s.boards s.boards.length).any (eqB s T U) = true := List.any_eq_true.2 ⟨q, hq, hyes⟩
      unfold wordOf; simp only [this, ↓reduceIte]; split <;> simp
    have hqe : paid T s.boards q = paid U s.boards q := of_decide_eq_true hyes
    have hbef : X = Y → befB l q = false := fun e => first_least hL hno hmem (by rw [fq]; exact decide_eq_true e)
    obtain ⟨pw, cw, rfl⟩ := lv.len
    have lvV := (lv.fr f6.ok frQ).fr fQ.ok frV
    obtain ⟨_, hG, eG, rfl, frG⟩ := hours_34 fV.ok (hs.fr hk fV) lvV (by omega) (by omega)
    rw [hhq] at eG
    have fG := fV.trans frG
    have rG := frG.row' fV.ok rV
    have nG := frG.next
    have lvG := lvV.fr fV.ok frG
    obtain ⟨_, hM, eM, rfl, frM⟩ := total_25 fG.ok (by omega) (hs.fr hk fG) lvG ok hhq hT
    have fM := fG.trans frM
    have rM := frM.row' fG.ok rG
    have nM := frM.next
    have lvM := lvG.fr fG.ok frM
    obtain ⟨_, hN, eN, rfl, frN⟩ := total_25 fM.ok (by omega) (hs.fr hk fM) lvM ok hhq hU
    have fN := fM.trans frN
    have rN := frN.row' fM.ok rM
    have lvN := lvM.fr fM.ok frN
    obtain ⟨_, _, eB, rfl, rfl⟩ := before_43 _ _ _ _ hN fN.ok (hv.fr hk fN) lvN (by omega) (by omega)
    rw [hqe] at eM
    generalize hZ : paid U s.boards q = Z at *
    generalize hW : wordOf (allN s.boards s.boards.length) (eqB s T U) = w at *
    have w1 : (w == 1) = false := by simpa using hw
    have wl : decide (w < 1) = false := decide_eq_false (by omega)
    have wg : decide (w > 3) = false := decide_eq_false (by omega)
    have zz : (Z == Z) = true := by simp
    by_cases e : X = Y
    · have xy : (X == Y) = true := by simpa using e
      have xy' : (X != Y) = false := by simpa using e
      rw [hbef e] at eB
      simp (maxDischargeDepth := 30) only [AMS, AMH, ↓reduceIte, Nat.reduceLT, Nat.reduceEqDiff, Nat.reduceAdd, Nat.reduceMul, reduceCtorEq, decide_true, decide_false, Nat.reduceLeDiff, Int.reduceNe, Int.reduceEq, ne_eq, not_false_eq_true, and_self, ld_26, und_4, f6.ok, r6, eQ, fQ.ok, rQ, eV, fV.ok, rV, ne_self, n00, z05, w1, wl, wg, xy, xy', eG, fG.ok, rG, eM, fM.ok, rM, eN, fN.ok, zz, z00, eB, known_23, ne_4, bne_self_eq_false]
      exact ⟨trivial, fN⟩
    · have xy : (X == Y) = false := by simpa using e
      have xy' : (X != Y) = true := by simpa using e
      have w3 : (w == 3) = false := by simpa using hA3 e
      simp (maxDischargeDepth := 30) only [AMS, AMH, ↓reduceIte, Nat.reduceLT, Nat.reduceEqDiff, Nat.reduceAdd, Nat.reduceMul, reduceCtorEq, decide_true, decide_false, Nat.reduceLeDiff, Int.reduceNe, Int.reduceEq, ne_eq, not_false_eq_true, and_self, ld_26, und_4, f6.ok, r6, eQ, fQ.ok, rQ, eV, fV.ok, rV, ne_self, n00, z05, w1, w3, wl, wg, xy, xy', eG, fG.ok, rG, eM, fM.ok, rM, eN, fN.ok, zz, z00, known_23, ne_4, bne_self_eq_false]
      exact ⟨trivial, fN⟩
end Go.Am
