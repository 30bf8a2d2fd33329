/- DaybookLines on the machine: the line of an entry, or the error; it is read as the entry again. -/
import Derived.Test.YtfnllpibhjikgaaGreatDoorJP8
set_option linter.unusedSimpArgs false
set_option linter.unusedVariables false
namespace Go.Am
open Go Go.Proofs
theorem F3_DLines : type_of% (And.intro @fp_25_1 <| And.intro @ld_23 <| And.intro @ld_25 <| And.intro @len_23 <| And.intro @size_25 @zero_25) := And.intro @fp_25_1 <| And.intro @ld_23 <| And.intro @ld_25 <| And.intro @len_23 <| And.intro @size_25 @zero_25

theorem known_cl (h : Heap) : callF CC (Lim CC) 6 [] h = some (.ret (.bool true) h none) := by
  unfold callF
  rw [show CC.A 6 = some knownSpec by kernel_rfl]
  rfl
theorem known_wl (h : Heap) : CW CC 6 [] h fun r h' => r = .bool true ∧ h' = h := ⟨_, _, known_cl h, rfl, rfl⟩
set_option maxRecDepth 10000 in
set_option maxHeartbeats 1000000 in
theorem lines_3 {h : Heap} (hk : HOK h) (hp : 0 < h.next) (k : Int) {a : Value} {l : List Int} (hl : LS h a l ints 1) :
    CW CC 3 [.agg ⟨[.int .i64 k, a]⟩] h fun r h' => r = .bool true ∧ Fr h h' := by
  obtain ⟨p, c, rfl, hx⟩ := hl.open
  refine CW_in Tryz.f3 (by kernel_rfl) (by kernel_rfl) rfl rfl ?_
  simp only [Tryz.f3, bs_mk]
  have f1 : Fr h (h.alloc (.row [.int .i64 k, .slice p l.length c] 0 true)) := (Fr.refl hk).alloc _
  have r1 : rowAt (h.alloc (.row [.int .i64 k, .slice p l.length c] 0 true)) h.next = some [.int .i64 k, .slice p l.length c] := rowAt_new _ _ _ _
  have n1 : (h.alloc (.row [.int .i64 k, .slice p l.length c] 0 true)).next = h.next + 1 := by simp
  simp (maxDischargeDepth := 30) only [AMS, AMH, ↓reduceIte, Nat.reduceLT, Nat.reduceEqDiff, Nat.reduceAdd, Nat.reduceMul, reduceCtorEq, decide_true, decide_false, Nat.reduceLeDiff, Int.reduceNe, Int.reduceEq, ne_eq, not_false_eq_true, and_self, F3_DLines, hk, bs_mk]
  generalize (h.alloc (.row [.int .i64 k, .slice p l.length c] 0 true)) = h1 at f1 r1 n1 ⊢
  have k1 := f1.ok
  by_cases h9 : 9 < l.length
  · have d : decide (((l.length : Nat) : Int) > 9) = true := decide_eq_true (by omega)
    simp (maxDischargeDepth := 30) only [AMS, AMH, ↓reduceIte, Nat.reduceLT, Nat.reduceEqDiff, Nat.reduceAdd, Nat.reduceMul, reduceCtorEq, decide_true, decide_false, Nat.reduceLeDiff, Int.reduceNe, Int.reduceEq, ne_eq, not_false_eq_true, and_self, F3_DLines, k1, d]
    refine W_call (known_wl _) ?_
    rintro _ _ ⟨rfl, rfl⟩
    simp (maxDischargeDepth := 30) only [AMS, AMH, ↓reduceIte, Nat.reduceLT, Nat.reduceEqDiff, Nat.reduceAdd, Nat.reduceMul, reduceCtorEq, decide_true, decide_false, Nat.reduceLeDiff, Int.reduceNe, Int.reduceEq, ne_eq, not_false_eq_true, and_self, F3_DLines, k1]
    exact ⟨by first | rfl | trivial, f1⟩
  have d : decide (((l.length : Nat) : Int) > 9) = false := decide_eq_false (by omega)
  simp (maxDischargeDepth := 30) only [AMS, AMH, ↓reduceIte, Nat.reduceLT, Nat.reduceEqDiff, Nat.reduceAdd, Nat.reduceMul, reduceCtorEq, decide_true, decide_false, Nat.reduceLeDiff, Int.reduceNe, Int.reduceEq, ne_eq, not_false_eq_true, and_self, F3_DLines, k1, r1, d]
  refine W_call (write_p k1 (by omega) (hl.fr hk f1) (by omega)) ?_
  rintro _ h2 ⟨rfl, fr2⟩
  have f2 := f1.trans fr2
  have k2 := f2.ok
  have r2 := fr2.row' k1 r1
  simp (maxDischargeDepth := 30) only [AMS, AMH, ↓reduceIte, Nat.reduceLT, Nat.reduceEqDiff, Nat.reduceAdd, Nat.reduceMul, reduceCtorEq, decide_true, decide_false, Nat.reduceLeDiff, Int.reduceNe, Int.reduceEq, ne_eq, not_false_eq_true, and_self, F3_DLines, k2, r2]
  refine W_call (Formed_p k2 (hl.fr hk f2) (by omega)) ?_
  rintro _ h3 ⟨rfl, fr3⟩
  have f3 := f2.trans fr3
  have k3 := f3.ok
  have r3 := fr3.row' k2 r2
  cases hf : formed k l with
  | false =>
    have e : writeB k l = ([], 2) := by unfold writeB; rw [hf]; rfl
    have e2 : ((2 : Int) == 2) = true := rfl
    have d0 : decide (([] : Bs) = []) = true := decide_eq_true rfl
    simp (maxDischargeDepth := 30) only [AMS, AMH, ↓reduceIte, Nat.reduceLT, Nat.reduceEqDiff, Nat.reduceAdd, Nat.reduceMul, reduceCtorEq, decide_true, decide_false, Nat.reduceLeDiff, Int.reduceNe, Int.reduceEq, ne_eq, not_false_eq_true, and_self, F3_DLines, k3, r3, e, e2, s_eq, d0]
    refine W_call (known_wl _) ?_
    rintro _ _ ⟨rfl, rfl⟩
    simp (maxDischargeDepth := 30) only [AMS, AMH, ↓reduceIte, Nat.reduceLT, Nat.reduceEqDiff, Nat.reduceAdd, Nat.reduceMul, reduceCtorEq, decide_true, decide_false, Nat.reduceLeDiff, Int.reduceNe, Int.reduceEq, ne_eq, not_false_eq_true, and_self, F3_DLines, k3]
    exact ⟨by first | rfl | trivial, f3⟩
  | true =>
    obtain ⟨a1, a2, a3⟩ := formed_ok hf
    have e : writeB k l = (lineB k l, 0) := by unfold writeB; rw [hf]; rfl
    have len := line_len hf
    simp (maxDischargeDepth := 30) only [AMS, AMH, ↓reduceIte, Nat.reduceLT, Nat.reduceEqDiff, Nat.reduceAdd, Nat.reduceMul, reduceCtorEq, decide_true, decide_false, Nat.reduceLeDiff, Int.reduceNe, Int.reduceEq, ne_eq, not_false_eq_true, and_self, F3_DLines, k3, r3, e]
    refine W_call (parse_p k3 (by have := f3.next; omega) (by omega)) ?_
    rw [line_parse hf]
    rintro _ h4 ⟨v, rfl, lv0, fr4⟩
    have lv : LS h4 v l ints 1 := lv0
    have f4 := f3.trans fr4
    have k4 := f4.ok
    have r4 := fr4.row' k3 r3
    obtain ⟨p', c', rfl, _⟩ := lv.open
    have f45 := ((Fr.refl k4).alloc (.row [.int .i64 0, .slice none 0 0] 0 true)).set (Nat.le_refl _) (by simp) (.row [.int .i64 k, .slice p' l.length c'] 0 true)
    have r5 := f45.row' k4 r4
    have s5 : rowAt ((h4.alloc (.row [.int .i64 0, .slice none 0 0] 0 true)).set h4.next (.row [.int .i64 k, .slice p' l.length c'] 0 true)) h4.next = some [.int .i64 k, .slice p' l.length c'] := rowAt_set_self _ _ _ _ _
    have lv5 := lv.fr k4 f45
    have e0 : ((0 : Int) == 0) = true := rfl
    simp (maxDischargeDepth := 30) only [AMS, AMH, ↓reduceIte, Nat.reduceLT, Nat.reduceEqDiff, Nat.reduceAdd, Nat.reduceMul, reduceCtorEq, decide_true, decide_false, Nat.reduceLeDiff, Int.reduceNe, Int.reduceEq, ne_eq, not_false_eq_true, and_self, F3_DLines, k4, List.set_cons_zero, e0]
    generalize ((h4.alloc (.row [.int .i64 0, .slice none 0 0] 0 true)).set h4.next (.row [.int .i64 k, .slice p' l.length c'] 0 true)) = h5 at f45 r5 s5 lv5 ⊢
    have f5 := f4.trans f45
    have k5 := f5.ok
    simp (maxDischargeDepth := 30) only [AMS, AMH, ↓reduceIte, Nat.reduceLT, Nat.reduceEqDiff, Nat.reduceAdd, Nat.reduceMul, reduceCtorEq, decide_true, decide_false, Nat.reduceLeDiff, Int.reduceNe, Int.reduceEq, ne_eq, not_false_eq_true, and_self, F3_DLines, k5, r5, s5, e0]
    refine W_call (Line_p k5 (by have := f5.next; omega) (hl.fr hk f5) a1 a2 (by omega)) ?_
    rintro _ h6 ⟨rfl, fr6⟩
    have f6 := f5.trans fr6
    have k6 := f6.ok
    have r6 := fr6.row' k5 r5
    have s6 := fr6.row' k5 s5
    have dl : decide (lineB k l = lineB k l) = true := decide_eq_true rfl
    simp (maxDischargeDepth := 30) only [AMS, AMH, ↓reduceIte, Nat.reduceLT, Nat.reduceEqDiff, Nat.reduceAdd, Nat.reduceMul, reduceCtorEq, decide_true, decide_false, Nat.reduceLeDiff, Int.reduceNe, Int.reduceEq, ne_eq, not_false_eq_true, and_self, F3_DLines, k6, r6, s6, e0, s_eq, dl]
    refine W_call (sameE_r k6 (hl.fr hk f6) (lv5.fr k5 fr6) (by omega) (by omega)) ?_
    rintro _ h7 ⟨rfl, fr7⟩
    have f7 := f6.trans fr7
    have ds : decide (k = k ∧ l = l) = true := decide_eq_true ⟨rfl, rfl⟩
    simp (maxDischargeDepth := 30) only [AMS, AMH, ↓reduceIte, Nat.reduceLT, Nat.reduceEqDiff, Nat.reduceAdd, Nat.reduceMul, reduceCtorEq, decide_true, decide_false, Nat.reduceLeDiff, Int.reduceNe, Int.reduceEq, ne_eq, not_false_eq_true, and_self, F3_DLines, f7.ok, ds]
    refine W_call (known_wl _) ?_
    rintro _ _ ⟨rfl, rfl⟩
    simp (maxDischargeDepth := 30) only [AMS, AMH, ↓reduceIte, Nat.reduceLT, Nat.reduceEqDiff, Nat.reduceAdd, Nat.reduceMul, reduceCtorEq, decide_true, decide_false, Nat.reduceLeDiff, Int.reduceNe, Int.reduceEq, ne_eq, not_false_eq_true, and_self, F3_DLines, f7.ok]
    exact ⟨by first | rfl | trivial, f7⟩
end Go.Am
