/- Parts 149 of the abstract machine over this program, joined: what each part says stands at its head. -/
import Derived.Test.YtfnkjclplfhjcaaGreatDoorJ148
import Derived.Test.YtfnkjclplfhjcaaGreatDoorJ45
set_option linter.unusedSimpArgs false
set_option linter.unusedVariables false
/- The abstract machine, part 149: the statement PricePrints. -/
namespace Go.Am
open Go Go.Proofs

theorem read_print {s : Sheet} (h : s.ok = true) : readB (textB s) = (s, 0) := by
  have hl := text_len h
  unfold readB
  rw [if_neg (by omega), parse_text (ok_okS h)]
  simp [h]
set_option maxRecDepth 10000 in
set_option maxHeartbeats 2000000 in
theorem prints_19 {h : Heap} (hk : HOK h) (hp : 0 < h.next) {a b c : Value} {s : Sheet} (hs : IsSheet h a b c s) : CW CC 19 [.agg ⟨[a, b, c]⟩] h fun r h' => r = .bool true ∧ Fr h h' := by
  have z00 : ((0 : Int) == 0) = true := rfl
  have z22 : ((2 : Int) == 2) = true := rfl
  obtain ⟨p1, c1, rfl, _⟩ := hs.offs.open
  obtain ⟨p2, c2, rfl, _⟩ := hs.boards.open
  obtain ⟨p3, c3, rfl, _⟩ := hs.tars.open
  refine CW_in Tryz.f19 (by kernel_rfl) (by kernel_rfl) rfl rfl ?_
  simp only [Tryz.f19, bs_mk]
  have f1 : Fr h (h.alloc (.row [.slice p1 s.offs.length c1, .slice p2 s.boards.length c2, .slice p3 s.tars.length c3] 0 true)) := (Fr.refl hk).alloc _
  have r1 : rowAt (h.alloc (.row [.slice p1 s.offs.length c1, .slice p2 s.boards.length c2, .slice p3 s.tars.length c3] 0 true)) h.next = some [.slice p1 s.offs.length c1, .slice p2 s.boards.length c2, .slice p3 s.tars.length c3] := rowAt_new _ _ _ _
  obtain ⟨_, h2, e2, rfl, fr2⟩ := short_28 p1 p2 p3 s.offs.length c1 s.boards.length c2 s.tars.length c3 _ f1.ok
  have f2 := f1.trans fr2
  have r2 := fr2.row' f1.ok r1
  have n1 : (h.alloc (.row [.slice p1 s.offs.length c1, .slice p2 s.boards.length c2, .slice p3 s.tars.length c3] 0 true)).next = h.next + 1 := by simp
  have n2 := fr2.next
  cases i1 : decide ((s.offs.length : Int) ≤ 5 ∧ (s.boards.length : Int) ≤ 6 ∧ (s.tars.length : Int) ≤ 5) with
  | false =>
    rw [i1] at e2
    simp (maxDischargeDepth := 30) only [AMS, AMH, ↓reduceIte, Nat.reduceLT, Nat.reduceEqDiff, Nat.reduceAdd, Nat.reduceMul, reduceCtorEq, decide_true, decide_false, Nat.reduceLeDiff, Int.reduceNe, Int.reduceEq, ne_eq, not_false_eq_true, and_self, ld_26, size_26, zero_26, hk, e2, known_23s]
    exact ⟨trivial, f2⟩
  | true =>
  rw [i1] at e2
  have i1' := of_decide_eq_true i1
  simp (maxDischargeDepth := 30) only [AMS, AMH, ↓reduceIte, Nat.reduceLT, Nat.reduceEqDiff, Nat.reduceAdd, Nat.reduceMul, reduceCtorEq, decide_true, decide_false, Nat.reduceLeDiff, Int.reduceNe, Int.reduceEq, ne_eq, not_false_eq_true, and_self, ld_26, size_26, zero_26, hk, e2, f2.ok, r2]
  refine W_call (print_63 f2.ok (by omega) (hs.fr hk f2)) ?_
  rintro _ h3 ⟨rfl, fr3⟩
  have f3 := f2.trans fr3
  have r3 := fr3.row' f2.ok r2
  simp (maxDischargeDepth := 30) only [AMS, AMH, ↓reduceIte, Nat.reduceLT, Nat.reduceEqDiff, Nat.reduceAdd, Nat.reduceMul, reduceCtorEq, decide_true, decide_false, Nat.reduceLeDiff, Int.reduceNe, Int.reduceEq, ne_eq, not_false_eq_true, and_self, ld_26, size_26, zero_26, f3.ok, r3]
  obtain ⟨_, h4, e4, rfl, fr4⟩ := sheet_32 f3.ok (hs.fr hk f3)
  have f4 := f3.trans fr4
  have r4 := fr4.row' f3.ok r3
  unfold printB
  cases hok : s.ok with
  | false =>
    rw [hok] at e4
    have d1 : decide (([] : Bs) = []) = true := by simp
    simp (maxDischargeDepth := 30) only [AMS, AMH, ↓reduceIte, Nat.reduceLT, Nat.reduceEqDiff, Nat.reduceAdd, Nat.reduceMul, reduceCtorEq, decide_true, decide_false, Nat.reduceLeDiff, Int.reduceNe, Int.reduceEq, ne_eq, not_false_eq_true, and_self, ld_26, size_26, zero_26, f4.ok, e4, z22, s_eq, d1, known_23s, bs_mk, Bool.false_eq_true]
    exact ⟨trivial, f4⟩
  | true =>
    rw [hok] at e4
    have hl := text_len hok
    simp (maxDischargeDepth := 30) only [AMS, AMH, ↓reduceIte, Nat.reduceLT, Nat.reduceEqDiff, Nat.reduceAdd, Nat.reduceMul, reduceCtorEq, decide_true, decide_false, Nat.reduceLeDiff, Int.reduceNe, Int.reduceEq, ne_eq, not_false_eq_true, and_self, ld_26, size_26, zero_26, f4.ok, e4]
    refine W_call (read_64 (t := textB s) f4.ok (by have := fr3.next; have := fr4.next; omega) (by omega)) ?_
    rintro _ h5 ⟨a, b, c, rfl, hy, fr5⟩
    rw [read_print hok] at hy ⊢
    simp only at hy
    have f5 := f4.trans fr5
    have r5 := fr5.row' f4.ok r4
    obtain ⟨p4, c4, rfl, _⟩ := hy.offs.open
    obtain ⟨p5, c5, rfl, _⟩ := hy.boards.open
    obtain ⟨p6, c6, rfl, _⟩ := hy.tars.open
    have fr6 : Fr h5 ((h5.alloc (.row [.slice none 0 0, .slice none 0 0, .slice none 0 0] 0 true)).set h5.next (.row [.slice p4 s.offs.length c4, .slice p5 s.boards.length c5, .slice p6 s.tars.length c6] 0 true)) := ((Fr.refl f5.ok).alloc _).set (Nat.le_refl _) (by simp) _
    have y6 : rowAt ((h5.alloc (.row [.slice none 0 0, .slice none 0 0, .slice none 0 0] 0 true)).set h5.next (.row [.slice p4 s.offs.length c4, .slice p5 s.boards.length c5, .slice p6 s.tars.length c6] 0 true)) h5.next = some [.slice p4 s.offs.length c4, .slice p5 s.boards.length c5, .slice p6 s.tars.length c6] := rowAt_set_self _ _ _ _ _
    simp (maxDischargeDepth := 30) only [AMS, AMH, ↓reduceIte, Nat.reduceLT, Nat.reduceEqDiff, Nat.reduceAdd, Nat.reduceMul, reduceCtorEq, decide_true, decide_false, Nat.reduceLeDiff, Int.reduceNe, Int.reduceEq, ne_eq, not_false_eq_true, and_self, ld_26, size_26, zero_26, f5.ok, r5]
    generalize ((h5.alloc (.row [.slice none 0 0, .slice none 0 0, .slice none 0 0] 0 true)).set h5.next (.row [.slice p4 s.offs.length c4, .slice p5 s.boards.length c5, .slice p6 s.tars.length c6] 0 true)) = h6 at fr6 y6 ⊢
    have f6 := f5.trans fr6
    have r6 := fr6.row' f5.ok r5
    have k6 := f6.ok
    obtain ⟨_, h7, e7, rfl, fr7⟩ := print_65 k6 (by have := fr3.next; have := fr4.next; have := fr5.next; have := fr6.next; omega) (hs.fr hk f6) (ok_okS hok) (by omega) (by omega) (by omega)
    have k7 := fr7.ok
    have r7 := fr7.row' k6 r6
    have y7 := fr7.row' k6 y6
    have f7 := f6.trans fr7
    obtain ⟨_, h8, e8, rfl, fr8⟩ := sames_66 k7 ((hy.fr f5.ok fr6).fr k6 fr7) (hs.fr hk f7) (by omega) (by omega) (by omega) (by omega) (by omega) (by omega)
    have d1 : decide (textB s = textB s) = true := by simp
    have d2 : decide (sameS s s) = true := by simp [sameS]
    rw [d2] at e8
    simp (maxDischargeDepth := 30) only [AMS, AMH, ↓reduceIte, Nat.reduceLT, Nat.reduceEqDiff, Nat.reduceAdd, Nat.reduceMul, reduceCtorEq, decide_true, decide_false, Nat.reduceLeDiff, Int.reduceNe, Int.reduceEq, ne_eq, not_false_eq_true, and_self, ld_26, size_26, zero_26, k6, r6, e7, z00, s_eq, d1, k7, r7, y7, e8, known_23s, fr8.ok]
    exact ⟨trivial, f7.trans fr8⟩
end Go.Am
