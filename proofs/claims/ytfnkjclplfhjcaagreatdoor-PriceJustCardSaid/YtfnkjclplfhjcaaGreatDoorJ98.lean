/- Parts 98 of the abstract machine over this program, joined: what each part says stands at its head. -/
import Derived.Test.YtfnkjclplfhjcaaGreatDoorJ96
set_option linter.unusedSimpArgs false
set_option linter.unusedVariables false
/- The abstract machine, part 98: contracts: slices.Repeat of one 1. -/
namespace Go.Am
open Go Go.Proofs

theorem RPr_copy {C : Ctx} {rd : Option Nat} {ops : List Oper} {pl : List PE} {k : List Item} {rs : List Rec} {dst : Option Tmp} {s : FrS} {h : Heap} (ts : Array TypeId) (x y : Operand) (xs : List Operand) : RPr C rd ops pl k rs (effOp C (Lim C) rd dst s h (.call ⟨.builtin .copy, ⟨x :: y :: xs⟩, ts⟩)) = RPq C rd ops pl k rs dst s (aCopy C ts.toList (ev s.tmps x) (ev s.tmps y) h) := by
  show RPr C rd ops pl k rs (obind (aCopy C ts.toList (ev s.tmps x) (ev s.tmps y) h) (ofVal s dst)) = _
  cases aCopy C ts.toList (ev s.tmps x) (ev s.tmps y) h <;> rfl

theorem and_0 (c : Bool) : aBin CC .and 194 c (.int .u64 0) (.int .u64 4294967295) = some (.int .u64 0) := by cases c <;> kernel_rfl
theorem shr_0 (c : Bool) : aBin CC .shr 194 c (.int .u64 0) (.int .u64 32) = some (.int .u64 0) := by cases c <;> kernel_rfl
theorem and_1 (c : Bool) : aBin CC .and 194 c (.int .u64 1) (.int .u64 4294967295) = some (.int .u64 1) := by cases c <;> kernel_rfl
theorem shr_1 (c : Bool) : aBin CC .shr 194 c (.int .u64 1) (.int .u64 32) = some (.int .u64 0) := by cases c <;> kernel_rfl
theorem and_2 (c : Bool) : aBin CC .and 194 c (.int .u64 2) (.int .u64 4294967295) = some (.int .u64 2) := by cases c <;> kernel_rfl
theorem shr_2 (c : Bool) : aBin CC .shr 194 c (.int .u64 2) (.int .u64 32) = some (.int .u64 0) := by cases c <;> kernel_rfl
theorem and_3 (c : Bool) : aBin CC .and 194 c (.int .u64 3) (.int .u64 4294967295) = some (.int .u64 3) := by cases c <;> kernel_rfl
theorem shr_3 (c : Bool) : aBin CC .shr 194 c (.int .u64 3) (.int .u64 32) = some (.int .u64 0) := by cases c <;> kernel_rfl
theorem and_4 (c : Bool) : aBin CC .and 194 c (.int .u64 4) (.int .u64 4294967295) = some (.int .u64 4) := by cases c <;> kernel_rfl
theorem shr_4 (c : Bool) : aBin CC .shr 194 c (.int .u64 4) (.int .u64 32) = some (.int .u64 0) := by cases c <;> kernel_rfl

set_option maxRecDepth 10000 in
theorem mul_156_1 (h : Heap) : callF CC (Lim CC) 156 [.int .u64 1, .int .u64 1] h = some (.ret (.tuple ⟨[.int .u64 0, .int .u64 1]⟩) h none) := by
  refine CW.eq (CW_in Tryz.f156 (by kernel_rfl) (by kernel_rfl) rfl rfl ?_)
  simp only [Tryz.f156]
  have w0 : IntKind.u64.wrap (1 * 1) = 1 := rfl
  have w1 : IntKind.u64.wrap (0 * 1) = 0 := rfl
  have w2 : IntKind.u64.wrap (0 + 0) = 0 := rfl
  have w3 : IntKind.u64.wrap (1 * 0) = 0 := rfl
  have w4 : IntKind.u64.wrap (0 * 0) = 0 := rfl
  simp (maxDischargeDepth := 30) only [AMS, AMH, ↓reduceIte, Nat.reduceLT, Nat.reduceEqDiff, Nat.reduceAdd, Nat.reduceMul, reduceCtorEq, decide_true, decide_false, Nat.reduceLeDiff, Int.reduceNe, Int.reduceEq, ne_eq, not_false_eq_true, and_self, L_nil, and_0, and_1, and_1, shr_0, shr_1, shr_1, w0, w1, w2, w3, w4]
  all_goals exact ⟨rfl, trivial⟩
theorem mul_142_1 (h : Heap) : callF CC (Lim CC) 142 [.int .u64 1, .int .u64 1] h = some (.ret (.tuple ⟨[.int .u64 0, .int .u64 1]⟩) h none) := by
  refine CW.eq (CW_in Tryz.f142 (by kernel_rfl) (by kernel_rfl) rfl rfl ?_)
  simp only [Tryz.f142]
  simp (maxDischargeDepth := 30) only [AMS, AMH, ↓reduceIte, Nat.reduceLT, Nat.reduceEqDiff, Nat.reduceAdd, Nat.reduceMul, reduceCtorEq, decide_true, decide_false, Nat.reduceLeDiff, Int.reduceNe, Int.reduceEq, ne_eq, not_false_eq_true, and_self, und_166, und_191, mul_156_1]
  all_goals exact ⟨rfl, trivial⟩

set_option maxRecDepth 10000 in
theorem mul_156_2 (h : Heap) : callF CC (Lim CC) 156 [.int .u64 1, .int .u64 2] h = some (.ret (.tuple ⟨[.int .u64 0, .int .u64 2]⟩) h none) := by
  refine CW.eq (CW_in Tryz.f156 (by kernel_rfl) (by kernel_rfl) rfl rfl ?_)
  simp only [Tryz.f156]
  have w0 : IntKind.u64.wrap (1 * 2) = 2 := rfl
  have w1 : IntKind.u64.wrap (0 * 2) = 0 := rfl
  have w2 : IntKind.u64.wrap (0 + 0) = 0 := rfl
  have w3 : IntKind.u64.wrap (1 * 0) = 0 := rfl
  have w4 : IntKind.u64.wrap (0 * 0) = 0 := rfl
  simp (maxDischargeDepth := 30) only [AMS, AMH, ↓reduceIte, Nat.reduceLT, Nat.reduceEqDiff, Nat.reduceAdd, Nat.reduceMul, reduceCtorEq, decide_true, decide_false, Nat.reduceLeDiff, Int.reduceNe, Int.reduceEq, ne_eq, not_false_eq_true, and_self, L_nil, and_0, and_1, and_2, shr_0, shr_1, shr_2, w0, w1, w2, w3, w4]
  all_goals exact ⟨rfl, trivial⟩
theorem mul_142_2 (h : Heap) : callF CC (Lim CC) 142 [.int .u64 1, .int .u64 2] h = some (.ret (.tuple ⟨[.int .u64 0, .int .u64 2]⟩) h none) := by
  refine CW.eq (CW_in Tryz.f142 (by kernel_rfl) (by kernel_rfl) rfl rfl ?_)
  simp only [Tryz.f142]
  simp (maxDischargeDepth := 30) only [AMS, AMH, ↓reduceIte, Nat.reduceLT, Nat.reduceEqDiff, Nat.reduceAdd, Nat.reduceMul, reduceCtorEq, decide_true, decide_false, Nat.reduceLeDiff, Int.reduceNe, Int.reduceEq, ne_eq, not_false_eq_true, and_self, und_166, und_191, mul_156_2]
  all_goals exact ⟨rfl, trivial⟩

set_option maxRecDepth 10000 in
theorem mul_156_3 (h : Heap) : callF CC (Lim CC) 156 [.int .u64 1, .int .u64 3] h = some (.ret (.tuple ⟨[.int .u64 0, .int .u64 3]⟩) h none) := by
  refine CW.eq (CW_in Tryz.f156 (by kernel_rfl) (by kernel_rfl) rfl rfl ?_)
  simp only [Tryz.f156]
  have w0 : IntKind.u64.wrap (1 * 3) = 3 := rfl
  have w1 : IntKind.u64.wrap (0 * 3) = 0 := rfl
  have w2 : IntKind.u64.wrap (0 + 0) = 0 := rfl
  have w3 : IntKind.u64.wrap (1 * 0) = 0 := rfl
  have w4 : IntKind.u64.wrap (0 * 0) = 0 := rfl
  simp (maxDischargeDepth := 30) only [AMS, AMH, ↓reduceIte, Nat.reduceLT, Nat.reduceEqDiff, Nat.reduceAdd, Nat.reduceMul, reduceCtorEq, decide_true, decide_false, Nat.reduceLeDiff, Int.reduceNe, Int.reduceEq, ne_eq, not_false_eq_true, and_self, L_nil, and_0, and_1, and_3, shr_0, shr_1, shr_3, w0, w1, w2, w3, w4]
  all_goals exact ⟨rfl, trivial⟩
theorem mul_142_3 (h : Heap) : callF CC (Lim CC) 142 [.int .u64 1, .int .u64 3] h = some (.ret (.tuple ⟨[.int .u64 0, .int .u64 3]⟩) h none) := by
  refine CW.eq (CW_in Tryz.f142 (by kernel_rfl) (by kernel_rfl) rfl rfl ?_)
  simp only [Tryz.f142]
  simp (maxDischargeDepth := 30) only [AMS, AMH, ↓reduceIte, Nat.reduceLT, Nat.reduceEqDiff, Nat.reduceAdd, Nat.reduceMul, reduceCtorEq, decide_true, decide_false, Nat.reduceLeDiff, Int.reduceNe, Int.reduceEq, ne_eq, not_false_eq_true, and_self, und_166, und_191, mul_156_3]
  all_goals exact ⟨rfl, trivial⟩

set_option maxRecDepth 10000 in
theorem mul_156_4 (h : Heap) : callF CC (Lim CC) 156 [.int .u64 1, .int .u64 4] h = some (.ret (.tuple ⟨[.int .u64 0, .int .u64 4]⟩) h none) := by
  refine CW.eq (CW_in Tryz.f156 (by kernel_rfl) (by kernel_rfl) rfl rfl ?_)
  simp only [Tryz.f156]
  have w0 : IntKind.u64.wrap (1 * 4) = 4 := rfl
  have w1 : IntKind.u64.wrap (0 * 4) = 0 := rfl
  have w2 : IntKind.u64.wrap (0 + 0) = 0 := rfl
  have w3 : IntKind.u64.wrap (1 * 0) = 0 := rfl
  have w4 : IntKind.u64.wrap (0 * 0) = 0 := rfl
  simp (maxDischargeDepth := 30) only [AMS, AMH, ↓reduceIte, Nat.reduceLT, Nat.reduceEqDiff, Nat.reduceAdd, Nat.reduceMul, reduceCtorEq, decide_true, decide_false, Nat.reduceLeDiff, Int.reduceNe, Int.reduceEq, ne_eq, not_false_eq_true, and_self, L_nil, and_0, and_1, and_4, shr_0, shr_1, shr_4, w0, w1, w2, w3, w4]
  all_goals exact ⟨rfl, trivial⟩
theorem mul_142_4 (h : Heap) : callF CC (Lim CC) 142 [.int .u64 1, .int .u64 4] h = some (.ret (.tuple ⟨[.int .u64 0, .int .u64 4]⟩) h none) := by
  refine CW.eq (CW_in Tryz.f142 (by kernel_rfl) (by kernel_rfl) rfl rfl ?_)
  simp only [Tryz.f142]
  simp (maxDischargeDepth := 30) only [AMS, AMH, ↓reduceIte, Nat.reduceLT, Nat.reduceEqDiff, Nat.reduceAdd, Nat.reduceMul, reduceCtorEq, decide_true, decide_false, Nat.reduceLeDiff, Int.reduceNe, Int.reduceEq, ne_eq, not_false_eq_true, and_self, und_166, und_191, mul_156_4]
  all_goals exact ⟨rfl, trivial⟩

theorem cv_i (h : Heap) : aConvert CC 3 166 (.int .i64 ((1 : Nat) : Int)) h = some (.val (.int .u64 1)) := by kernel_rfl
theorem copy_22 {h : Heap} {b o n c m s : Nat} {sp : Option Nat} {x v : Value} {vs row row' : List Value} (h1 : lenOfV x = some m) (h2 : sliceCells h 1 (Nat.min m n) x = some (v :: vs)) (h3 : allOne (v :: vs) = true) (h4 : h.get b = some (.row row s true)) (h5 : write? row o (v :: vs) = some row') :
    aCopy CC [22, 22] (.slice (some ⟨b, o, sp⟩) n c) x h = some (.int .i64 (Nat.min m n), h.set b (.row row' s true)) := by
  unfold aCopy
  simp only [und_22, obind_some, sliceElem, size_3, sliceOf, h1, h2, copyTo, h3, guardB_true, h4, ownRowOf, h5]

theorem cv_1 (h : Heap) : aConvert CC 3 166 (.int .i64 1) h = some (.val (.int .u64 1)) := by kernel_rfl
theorem cw_1 (h : Heap) : aConvert CC 166 3 (.int .u64 1) h = some (.val (.int .i64 1)) := by kernel_rfl
set_option maxRecDepth 10000 in
set_option maxHeartbeats 1000000 in
theorem repeat_120_1 {h : Heap} (hk : HOK h) (hp : 0 < h.next) {b : Nat} {sp : Option Nat} (g : rowAt h b = some [.int .i64 1]) :
    CW CC 120 [.slice (some ⟨b, 0, sp⟩) 1 1, .int .i64 1] h fun r h' => SL h.next h' r ((List.replicate 1 1).flatMap ints) 1 1 ∧ Fr h h' := by
  refine CW_in Tryz.f120 (by kernel_rfl) (by kernel_rfl) rfl rfl ?_
  simp only [Tryz.f120]
  have d0 : decide ((1 : Int) < 0) = false := rfl
  have d1 : decide ((0 : Int) > 0) = false := rfl
  have d2 : decide ((1 : Int) > 9223372036854775807) = false := rfl
  have bl := row_lt hk g
  have fH : Fr h (h.alloc (.row [.int .i64 0] 1 true)) := (Fr.refl hk).alloc _
  have gH : (h.alloc (.row [.int .i64 0] 1 true)).get h.next = some (.row [.int .i64 0] 1 true) := Heap.get_alloc_self _ _
  have nH : (h.alloc (.row [.int .i64 0] 1 true)).next = h.next + 1 := by simp
  simp (maxDischargeDepth := 30) only [AMS, AMH, ↓reduceIte, Nat.reduceLT, Nat.reduceEqDiff, Nat.reduceAdd, Nat.reduceMul, reduceCtorEq, decide_true, decide_false, Nat.reduceLeDiff, Int.reduceNe, Int.reduceEq, ne_eq, not_false_eq_true, and_self, ix_22, len_22, mi_9, part_3, size_22, size_3, size_9, und_166, und_22, und_3, und_9, zero_22, zero_9, hk, d0, mul_142_1, cv_i, cv_1, cw_1, d1, d2, mk_22_1]
  generalize (h.alloc (.row [.int .i64 0] 1 true)) = H at fH gH nH ⊢
  obtain ⟨q, hq⟩ : ∃ q, h.next = q + 1 := ⟨h.next - 1, by omega⟩
  rw [hq] at gH nH bl ⊢
  have rb : rowAt H b = some [.int .i64 1] := fH.row' hk g
  have cp : aCopy CC [22, 22] (.slice (some ⟨q + 1, 0, some 1⟩) 1 1) (.slice (some ⟨b, 0, sp⟩) 1 1) H = some (.int .i64 1, H.set (q + 1) (.row [.int .i64 1] 1 true)) := copy_22 (m := 1) (v := .int .i64 1) (vs := []) (row := [.int .i64 0]) rfl (by
    show obind (rowAt H b) _ = _
    rw [rb]; rfl) rfl gH rfl
  have f1 : Fr h (H.set (q + 1) (.row [.int .i64 1] 1 true)) := fH.set (by omega) (by omega) _
  have g1 : (H.set (q + 1) (.row [.int .i64 1] 1 true)).get (q + 1) = some (.row [.int .i64 1] 1 true) := Heap.get_set_self _ _ _
  have n1 : (H.set (q + 1) (.row [.int .i64 1] 1 true)).next = q + 2 := by rw [Heap.next_set]; omega
  simp (maxDischargeDepth := 30) only [AMS, AMH, ↓reduceIte, Nat.reduceLT, Nat.reduceEqDiff, Nat.reduceAdd, Nat.reduceMul, reduceCtorEq, decide_true, decide_false, Nat.reduceLeDiff, Int.reduceNe, Int.reduceEq, ne_eq, not_false_eq_true, and_self, ix_22, len_22, mi_9, part_3, size_22, size_3, size_9, und_166, und_22, und_3, und_9, zero_22, zero_9, fH.ok, cp]
  generalize (H.set (q + 1) (.row [.int .i64 1] 1 true)) = H1 at f1 g1 n1 ⊢
  have tE : decide ((1 : Int) < ((1 : Nat) : Int)) = false := rfl
  rw [L_inLoop]
  simp (maxDischargeDepth := 30) only [AMS, AMH, ↓reduceIte, Nat.reduceLT, Nat.reduceEqDiff, Nat.reduceAdd, Nat.reduceMul, reduceCtorEq, decide_true, decide_false, Nat.reduceLeDiff, Int.reduceNe, Int.reduceEq, ne_eq, not_false_eq_true, and_self, ix_22, len_22, mi_9, part_3, size_22, size_3, size_9, und_166, und_22, und_3, und_9, zero_22, zero_9, f1.ok, tE]
  exact ⟨.inr ⟨q + 1, rfl, by omega, by omega, g1, rfl⟩, f1⟩

theorem cv_2 (h : Heap) : aConvert CC 3 166 (.int .i64 2) h = some (.val (.int .u64 2)) := by kernel_rfl
theorem cw_2 (h : Heap) : aConvert CC 166 3 (.int .u64 2) h = some (.val (.int .i64 2)) := by kernel_rfl
theorem hi_2_1 (q : Nat) : aSlice CC 22 (.slice (some ⟨q + 1, 0, some 1⟩) 2 2) (some (.int .i64 1)) none none = some (.slice (some ⟨q + 1, 1, some 1⟩) 1 1) := by kernel_rfl
theorem lo_2_1 (q : Nat) : aSlice CC 22 (.slice (some ⟨q + 1, 0, some 1⟩) 2 2) none (some (.int .i64 1)) none = some (.slice (some ⟨q + 1, 0, some 1⟩) 1 2) := by kernel_rfl
set_option maxRecDepth 10000 in
set_option maxHeartbeats 1000000 in
theorem repeat_120_2 {h : Heap} (hk : HOK h) (hp : 0 < h.next) {b : Nat} {sp : Option Nat} (g : rowAt h b = some [.int .i64 1]) :
    CW CC 120 [.slice (some ⟨b, 0, sp⟩) 1 1, .int .i64 2] h fun r h' => SL h.next h' r ((List.replicate 2 1).flatMap ints) 1 2 ∧ Fr h h' := by
  refine CW_in Tryz.f120 (by kernel_rfl) (by kernel_rfl) rfl rfl ?_
  simp only [Tryz.f120]
  have d0 : decide ((2 : Int) < 0) = false := rfl
  have d1 : decide ((0 : Int) > 0) = false := rfl
  have d2 : decide ((2 : Int) > 9223372036854775807) = false := rfl
  have bl := row_lt hk g
  have fH : Fr h (h.alloc (.row [.int .i64 0, .int .i64 0] 1 true)) := (Fr.refl hk).alloc _
  have gH : (h.alloc (.row [.int .i64 0, .int .i64 0] 1 true)).get h.next = some (.row [.int .i64 0, .int .i64 0] 1 true) := Heap.get_alloc_self _ _
  have nH : (h.alloc (.row [.int .i64 0, .int .i64 0] 1 true)).next = h.next + 1 := by simp
  simp (maxDischargeDepth := 30) only [AMS, AMH, ↓reduceIte, Nat.reduceLT, Nat.reduceEqDiff, Nat.reduceAdd, Nat.reduceMul, reduceCtorEq, decide_true, decide_false, Nat.reduceLeDiff, Int.reduceNe, Int.reduceEq, ne_eq, not_false_eq_true, and_self, ix_22, len_22, mi_9, part_3, size_22, size_3, size_9, und_166, und_22, und_3, und_9, zero_22, zero_9, hk, d0, mul_142_2, cv_i, cv_2, cw_2, d1, d2, mk_22_2]
  generalize (h.alloc (.row [.int .i64 0, .int .i64 0] 1 true)) = H at fH gH nH ⊢
  obtain ⟨q, hq⟩ : ∃ q, h.next = q + 1 := ⟨h.next - 1, by omega⟩
  rw [hq] at gH nH bl ⊢
  have rb : rowAt H b = some [.int .i64 1] := fH.row' hk g
  have cp : aCopy CC [22, 22] (.slice (some ⟨q + 1, 0, some 1⟩) 2 2) (.slice (some ⟨b, 0, sp⟩) 1 1) H = some (.int .i64 1, H.set (q + 1) (.row [.int .i64 1, .int .i64 0] 1 true)) := copy_22 (m := 1) (v := .int .i64 1) (vs := []) (row := [.int .i64 0, .int .i64 0]) rfl (by
    show obind (rowAt H b) _ = _
    rw [rb]; rfl) rfl gH rfl
  have f1 : Fr h (H.set (q + 1) (.row [.int .i64 1, .int .i64 0] 1 true)) := fH.set (by omega) (by omega) _
  have g1 : (H.set (q + 1) (.row [.int .i64 1, .int .i64 0] 1 true)).get (q + 1) = some (.row [.int .i64 1, .int .i64 0] 1 true) := Heap.get_set_self _ _ _
  have n1 : (H.set (q + 1) (.row [.int .i64 1, .int .i64 0] 1 true)).next = q + 2 := by rw [Heap.next_set]; omega
  simp (maxDischargeDepth := 30) only [AMS, AMH, ↓reduceIte, Nat.reduceLT, Nat.reduceEqDiff, Nat.reduceAdd, Nat.reduceMul, reduceCtorEq, decide_true, decide_false, Nat.reduceLeDiff, Int.reduceNe, Int.reduceEq, ne_eq, not_false_eq_true, and_self, ix_22, len_22, mi_9, part_3, size_22, size_3, size_9, und_166, und_22, und_3, und_9, zero_22, zero_9, fH.ok, cp]
  generalize (H.set (q + 1) (.row [.int .i64 1, .int .i64 0] 1 true)) = H1 at f1 g1 n1 ⊢
  have t1 : decide ((1 : Int) < ((2 : Nat) : Int)) = true := rfl
  have r1 : rowAt H1 (q + 1) = some [.int .i64 1, .int .i64 0] := by unfold rowAt; rw [g1]; rfl
  have cp1 : aCopy CC [22, 22] (.slice (some ⟨q + 1, 1, some 1⟩) 1 1) (.slice (some ⟨q + 1, 0, some 1⟩) 1 2) H1 = some (.int .i64 1, H1.set (q + 1) (.row [.int .i64 1, .int .i64 1] 1 true)) := copy_22 (m := 1) (v := .int .i64 1) (vs := []) (row := [.int .i64 1, .int .i64 0]) rfl (by
    show obind (rowAt H1 (q + 1)) _ = _
    rw [r1]; rfl) rfl g1 rfl
  have w1 : IntKind.i64.wrap (1 + 1) = 2 := rfl
  rw [L_inLoop]
  simp (maxDischargeDepth := 30) only [AMS, AMH, ↓reduceIte, Nat.reduceLT, Nat.reduceEqDiff, Nat.reduceAdd, Nat.reduceMul, reduceCtorEq, decide_true, decide_false, Nat.reduceLeDiff, Int.reduceNe, Int.reduceEq, ne_eq, not_false_eq_true, and_self, ix_22, len_22, mi_9, part_3, size_22, size_3, size_9, und_166, und_22, und_3, und_9, zero_22, zero_9, f1.ok, t1]
  refine W_draw [(true, 0), (true, 1), (true, 2), (true, 3), (true, 4), (true, 5), (true, 6), (true, 7), (true, 8), (true, 9)] (by kernel_rfl) ?_
  simp (maxDischargeDepth := 30) only [AMS, AMH, ↓reduceIte, Nat.reduceLT, Nat.reduceEqDiff, Nat.reduceAdd, Nat.reduceMul, reduceCtorEq, decide_true, decide_false, Nat.reduceLeDiff, Int.reduceNe, Int.reduceEq, ne_eq, not_false_eq_true, and_self, AMR, ix_22, len_22, mi_9, part_3, size_22, size_3, size_9, und_166, und_22, und_3, und_9, zero_22, zero_9, f1.ok, RPr_copy, Option.map_some, Option.map_none, hi_2_1, lo_2_1, cp1, w1]
  have f2 : Fr h (H1.set (q + 1) (.row [.int .i64 1, .int .i64 1] 1 true)) := f1.set (by omega) (by omega) _
  have g2 : (H1.set (q + 1) (.row [.int .i64 1, .int .i64 1] 1 true)).get (q + 1) = some (.row [.int .i64 1, .int .i64 1] 1 true) := Heap.get_set_self _ _ _
  have n2 : (H1.set (q + 1) (.row [.int .i64 1, .int .i64 1] 1 true)).next = q + 2 := by rw [Heap.next_set]; omega
  generalize (H1.set (q + 1) (.row [.int .i64 1, .int .i64 1] 1 true)) = H2 at f2 g2 n2 ⊢
  have tE : decide ((2 : Int) < ((2 : Nat) : Int)) = false := rfl
  rw [L_inLoop]
  simp (maxDischargeDepth := 30) only [AMS, AMH, ↓reduceIte, Nat.reduceLT, Nat.reduceEqDiff, Nat.reduceAdd, Nat.reduceMul, reduceCtorEq, decide_true, decide_false, Nat.reduceLeDiff, Int.reduceNe, Int.reduceEq, ne_eq, not_false_eq_true, and_self, ix_22, len_22, mi_9, part_3, size_22, size_3, size_9, und_166, und_22, und_3, und_9, zero_22, zero_9, f2.ok, tE]
  exact ⟨.inr ⟨q + 1, rfl, by omega, by omega, g2, rfl⟩, f2⟩

theorem cv_3 (h : Heap) : aConvert CC 3 166 (.int .i64 3) h = some (.val (.int .u64 3)) := by kernel_rfl
theorem cw_3 (h : Heap) : aConvert CC 166 3 (.int .u64 3) h = some (.val (.int .i64 3)) := by kernel_rfl
theorem hi_3_1 (q : Nat) : aSlice CC 22 (.slice (some ⟨q + 1, 0, some 1⟩) 3 3) (some (.int .i64 1)) none none = some (.slice (some ⟨q + 1, 1, some 1⟩) 2 2) := by kernel_rfl
theorem lo_3_1 (q : Nat) : aSlice CC 22 (.slice (some ⟨q + 1, 0, some 1⟩) 3 3) none (some (.int .i64 1)) none = some (.slice (some ⟨q + 1, 0, some 1⟩) 1 3) := by kernel_rfl
theorem hi_3_2 (q : Nat) : aSlice CC 22 (.slice (some ⟨q + 1, 0, some 1⟩) 3 3) (some (.int .i64 2)) none none = some (.slice (some ⟨q + 1, 2, some 1⟩) 1 1) := by kernel_rfl
theorem lo_3_2 (q : Nat) : aSlice CC 22 (.slice (some ⟨q + 1, 0, some 1⟩) 3 3) none (some (.int .i64 2)) none = some (.slice (some ⟨q + 1, 0, some 1⟩) 2 3) := by kernel_rfl
set_option maxRecDepth 10000 in
set_option maxHeartbeats 1000000 in
theorem repeat_120_3 {h : Heap} (hk : HOK h) (hp : 0 < h.next) {b : Nat} {sp : Option Nat} (g : rowAt h b = some [.int .i64 1]) :
    CW CC 120 [.slice (some ⟨b, 0, sp⟩) 1 1, .int .i64 3] h fun r h' => SL h.next h' r ((List.replicate 3 1).flatMap ints) 1 3 ∧ Fr h h' := by
  refine CW_in Tryz.f120 (by kernel_rfl) (by kernel_rfl) rfl rfl ?_
  simp only [Tryz.f120]
  have d0 : decide ((3 : Int) < 0) = false := rfl
  have d1 : decide ((0 : Int) > 0) = false := rfl
  have d2 : decide ((3 : Int) > 9223372036854775807) = false := rfl
  have bl := row_lt hk g
  have fH : Fr h (h.alloc (.row [.int .i64 0, .int .i64 0, .int .i64 0] 1 true)) := (Fr.refl hk).alloc _
  have gH : (h.alloc (.row [.int .i64 0, .int .i64 0, .int .i64 0] 1 true)).get h.next = some (.row [.int .i64 0, .int .i64 0, .int .i64 0] 1 true) := Heap.get_alloc_self _ _
  have nH : (h.alloc (.row [.int .i64 0, .int .i64 0, .int .i64 0] 1 true)).next = h.next + 1 := by simp
  simp (maxDischargeDepth := 30) only [AMS, AMH, ↓reduceIte, Nat.reduceLT, Nat.reduceEqDiff, Nat.reduceAdd, Nat.reduceMul, reduceCtorEq, decide_true, decide_false, Nat.reduceLeDiff, Int.reduceNe, Int.reduceEq, ne_eq, not_false_eq_true, and_self, ix_22, len_22, mi_9, part_3, size_22, size_3, size_9, und_166, und_22, und_3, und_9, zero_22, zero_9, hk, d0, mul_142_3, cv_i, cv_3, cw_3, d1, d2, mk_22_3]
  generalize (h.alloc (.row [.int .i64 0, .int .i64 0, .int .i64 0] 1 true)) = H at fH gH nH ⊢
  obtain ⟨q, hq⟩ : ∃ q, h.next = q + 1 := ⟨h.next - 1, by omega⟩
  rw [hq] at gH nH bl ⊢
  have rb : rowAt H b = some [.int .i64 1] := fH.row' hk g
  have cp : aCopy CC [22, 22] (.slice (some ⟨q + 1, 0, some 1⟩) 3 3) (.slice (some ⟨b, 0, sp⟩) 1 1) H = some (.int .i64 1, H.set (q + 1) (.row [.int .i64 1, .int .i64 0, .int .i64 0] 1 true)) := copy_22 (m := 1) (v := .int .i64 1) (vs := []) (row := [.int .i64 0, .int .i64 0, .int .i64 0]) rfl (by
    show obind (rowAt H b) _ = _
    rw [rb]; rfl) rfl gH rfl
  have f1 : Fr h (H.set (q + 1) (.row [.int .i64 1, .int .i64 0, .int .i64 0] 1 true)) := fH.set (by omega) (by omega) _
  have g1 : (H.set (q + 1) (.row [.int .i64 1, .int .i64 0, .int .i64 0] 1 true)).get (q + 1) = some (.row [.int .i64 1, .int .i64 0, .int .i64 0] 1 true) := Heap.get_set_self _ _ _
  have n1 : (H.set (q + 1) (.row [.int .i64 1, .int .i64 0, .int .i64 0] 1 true)).next = q + 2 := by rw [Heap.next_set]; omega
  simp (maxDischargeDepth := 30) only [AMS, AMH, ↓reduceIte, Nat.reduceLT, Nat.reduceEqDiff, Nat.reduceAdd, Nat.reduceMul, reduceCtorEq, decide_true, decide_false, Nat.reduceLeDiff, Int.reduceNe, Int.reduceEq, ne_eq, not_false_eq_true, and_self, ix_22, len_22, mi_9, part_3, size_22, size_3, size_9, und_166, und_22, und_3, und_9, zero_22, zero_9, fH.ok, cp]
  generalize (H.set (q + 1) (.row [.int .i64 1, .int .i64 0, .int .i64 0] 1 true)) = H1 at f1 g1 n1 ⊢
  have t1 : decide ((1 : Int) < ((3 : Nat) : Int)) = true := rfl
  have r1 : rowAt H1 (q + 1) = some [.int .i64 1, .int .i64 0, .int .i64 0] := by unfold rowAt; rw [g1]; rfl
  have cp1 : aCopy CC [22, 22] (.slice (some ⟨q + 1, 1, some 1⟩) 2 2) (.slice (some ⟨q + 1, 0, some 1⟩) 1 3) H1 = some (.int .i64 1, H1.set (q + 1) (.row [.int .i64 1, .int .i64 1, .int .i64 0] 1 true)) := copy_22 (m := 1) (v := .int .i64 1) (vs := []) (row := [.int .i64 1, .int .i64 0, .int .i64 0]) rfl (by
    show obind (rowAt H1 (q + 1)) _ = _
    rw [r1]; rfl) rfl g1 rfl
  have w1 : IntKind.i64.wrap (1 + 1) = 2 := rfl
  rw [L_inLoop]
  simp (maxDischargeDepth := 30) only [AMS, AMH, ↓reduceIte, Nat.reduceLT, Nat.reduceEqDiff, Nat.reduceAdd, Nat.reduceMul, reduceCtorEq, decide_true, decide_false, Nat.reduceLeDiff, Int.reduceNe, Int.reduceEq, ne_eq, not_false_eq_true, and_self, ix_22, len_22, mi_9, part_3, size_22, size_3, size_9, und_166, und_22, und_3, und_9, zero_22, zero_9, f1.ok, t1]
  refine W_draw [(true, 0), (true, 1), (true, 2), (true, 3), (true, 4), (true, 5), (true, 6), (true, 7), (true, 8), (true, 9)] (by kernel_rfl) ?_
  simp (maxDischargeDepth := 30) only [AMS, AMH, ↓reduceIte, Nat.reduceLT, Nat.reduceEqDiff, Nat.reduceAdd, Nat.reduceMul, reduceCtorEq, decide_true, decide_false, Nat.reduceLeDiff, Int.reduceNe, Int.reduceEq, ne_eq, not_false_eq_true, and_self, AMR, ix_22, len_22, mi_9, part_3, size_22, size_3, size_9, und_166, und_22, und_3, und_9, zero_22, zero_9, f1.ok, RPr_copy, Option.map_some, Option.map_none, hi_3_1, lo_3_1, cp1, w1]
  have f2 : Fr h (H1.set (q + 1) (.row [.int .i64 1, .int .i64 1, .int .i64 0] 1 true)) := f1.set (by omega) (by omega) _
  have g2 : (H1.set (q + 1) (.row [.int .i64 1, .int .i64 1, .int .i64 0] 1 true)).get (q + 1) = some (.row [.int .i64 1, .int .i64 1, .int .i64 0] 1 true) := Heap.get_set_self _ _ _
  have n2 : (H1.set (q + 1) (.row [.int .i64 1, .int .i64 1, .int .i64 0] 1 true)).next = q + 2 := by rw [Heap.next_set]; omega
  generalize (H1.set (q + 1) (.row [.int .i64 1, .int .i64 1, .int .i64 0] 1 true)) = H2 at f2 g2 n2 ⊢
  have t2 : decide ((2 : Int) < ((3 : Nat) : Int)) = true := rfl
  have r2 : rowAt H2 (q + 1) = some [.int .i64 1, .int .i64 1, .int .i64 0] := by unfold rowAt; rw [g2]; rfl
  have cp2 : aCopy CC [22, 22] (.slice (some ⟨q + 1, 2, some 1⟩) 1 1) (.slice (some ⟨q + 1, 0, some 1⟩) 2 3) H2 = some (.int .i64 1, H2.set (q + 1) (.row [.int .i64 1, .int .i64 1, .int .i64 1] 1 true)) := copy_22 (m := 2) (v := .int .i64 1) (vs := []) (row := [.int .i64 1, .int .i64 1, .int .i64 0]) rfl (by
    show obind (rowAt H2 (q + 1)) _ = _
    rw [r2]; rfl) rfl g2 rfl
  have w2 : IntKind.i64.wrap (2 + 1) = 3 := rfl
  rw [L_inLoop]
  simp (maxDischargeDepth := 30) only [AMS, AMH, ↓reduceIte, Nat.reduceLT, Nat.reduceEqDiff, Nat.reduceAdd, Nat.reduceMul, reduceCtorEq, decide_true, decide_false, Nat.reduceLeDiff, Int.reduceNe, Int.reduceEq, ne_eq, not_false_eq_true, and_self, ix_22, len_22, mi_9, part_3, size_22, size_3, size_9, und_166, und_22, und_3, und_9, zero_22, zero_9, f2.ok, t2]
  refine W_draw [(true, 0), (true, 1), (true, 2), (true, 3), (true, 4), (true, 5), (true, 6), (true, 7), (true, 8), (true, 9)] (by kernel_rfl) ?_
  simp (maxDischargeDepth := 30) only [AMS, AMH, ↓reduceIte, Nat.reduceLT, Nat.reduceEqDiff, Nat.reduceAdd, Nat.reduceMul, reduceCtorEq, decide_true, decide_false, Nat.reduceLeDiff, Int.reduceNe, Int.reduceEq, ne_eq, not_false_eq_true, and_self, AMR, ix_22, len_22, mi_9, part_3, size_22, size_3, size_9, und_166, und_22, und_3, und_9, zero_22, zero_9, f2.ok, RPr_copy, Option.map_some, Option.map_none, hi_3_2, lo_3_2, cp2, w2]
  have f3 : Fr h (H2.set (q + 1) (.row [.int .i64 1, .int .i64 1, .int .i64 1] 1 true)) := f2.set (by omega) (by omega) _
  have g3 : (H2.set (q + 1) (.row [.int .i64 1, .int .i64 1, .int .i64 1] 1 true)).get (q + 1) = some (.row [.int .i64 1, .int .i64 1, .int .i64 1] 1 true) := Heap.get_set_self _ _ _
  have n3 : (H2.set (q + 1) (.row [.int .i64 1, .int .i64 1, .int .i64 1] 1 true)).next = q + 2 := by rw [Heap.next_set]; omega
  generalize (H2.set (q + 1) (.row [.int .i64 1, .int .i64 1, .int .i64 1] 1 true)) = H3 at f3 g3 n3 ⊢
  have tE : decide ((3 : Int) < ((3 : Nat) : Int)) = false := rfl
  rw [L_inLoop]
  simp (maxDischargeDepth := 30) only [AMS, AMH, ↓reduceIte, Nat.reduceLT, Nat.reduceEqDiff, Nat.reduceAdd, Nat.reduceMul, reduceCtorEq, decide_true, decide_false, Nat.reduceLeDiff, Int.reduceNe, Int.reduceEq, ne_eq, not_false_eq_true, and_self, ix_22, len_22, mi_9, part_3, size_22, size_3, size_9, und_166, und_22, und_3, und_9, zero_22, zero_9, f3.ok, tE]
  exact ⟨.inr ⟨q + 1, rfl, by omega, by omega, g3, rfl⟩, f3⟩

theorem cv_4 (h : Heap) : aConvert CC 3 166 (.int .i64 4) h = some (.val (.int .u64 4)) := by kernel_rfl
theorem cw_4 (h : Heap) : aConvert CC 166 3 (.int .u64 4) h = some (.val (.int .i64 4)) := by kernel_rfl
theorem hi_4_1 (q : Nat) : aSlice CC 22 (.slice (some ⟨q + 1, 0, some 1⟩) 4 4) (some (.int .i64 1)) none none = some (.slice (some ⟨q + 1, 1, some 1⟩) 3 3) := by kernel_rfl
theorem lo_4_1 (q : Nat) : aSlice CC 22 (.slice (some ⟨q + 1, 0, some 1⟩) 4 4) none (some (.int .i64 1)) none = some (.slice (some ⟨q + 1, 0, some 1⟩) 1 4) := by kernel_rfl
theorem hi_4_2 (q : Nat) : aSlice CC 22 (.slice (some ⟨q + 1, 0, some 1⟩) 4 4) (some (.int .i64 2)) none none = some (.slice (some ⟨q + 1, 2, some 1⟩) 2 2) := by kernel_rfl
theorem lo_4_2 (q : Nat) : aSlice CC 22 (.slice (some ⟨q + 1, 0, some 1⟩) 4 4) none (some (.int .i64 2)) none = some (.slice (some ⟨q + 1, 0, some 1⟩) 2 4) := by kernel_rfl
set_option maxRecDepth 10000 in
set_option maxHeartbeats 1000000 in
theorem repeat_120_4 {h : Heap} (hk : HOK h) (hp : 0 < h.next) {b : Nat} {sp : Option Nat} (g : rowAt h b = some [.int .i64 1]) :
    CW CC 120 [.slice (some ⟨b, 0, sp⟩) 1 1, .int .i64 4] h fun r h' => SL h.next h' r ((List.replicate 4 1).flatMap ints) 1 4 ∧ Fr h h' := by
  refine CW_in Tryz.f120 (by kernel_rfl) (by kernel_rfl) rfl rfl ?_
  simp only [Tryz.f120]
  have d0 : decide ((4 : Int) < 0) = false := rfl
  have d1 : decide ((0 : Int) > 0) = false := rfl
  have d2 : decide ((4 : Int) > 9223372036854775807) = false := rfl
  have bl := row_lt hk g
  have fH : Fr h (h.alloc (.row [.int .i64 0, .int .i64 0, .int .i64 0, .int .i64 0] 1 true)) := (Fr.refl hk).alloc _
  have gH : (h.alloc (.row [.int .i64 0, .int .i64 0, .int .i64 0, .int .i64 0] 1 true)).get h.next = some (.row [.int .i64 0, .int .i64 0, .int .i64 0, .int .i64 0] 1 true) := Heap.get_alloc_self _ _
  have nH : (h.alloc (.row [.int .i64 0, .int .i64 0, .int .i64 0, .int .i64 0] 1 true)).next = h.next + 1 := by simp
  simp (maxDischargeDepth := 30) only [AMS, AMH, ↓reduceIte, Nat.reduceLT, Nat.reduceEqDiff, Nat.reduceAdd, Nat.reduceMul, reduceCtorEq, decide_true, decide_false, Nat.reduceLeDiff, Int.reduceNe, Int.reduceEq, ne_eq, not_false_eq_true, and_self, ix_22, len_22, mi_9, part_3, size_22, size_3, size_9, und_166, und_22, und_3, und_9, zero_22, zero_9, hk, d0, mul_142_4, cv_i, cv_4, cw_4, d1, d2, mk_22_4]
  generalize (h.alloc (.row [.int .i64 0, .int .i64 0, .int .i64 0, .int .i64 0] 1 true)) = H at fH gH nH ⊢
  obtain ⟨q, hq⟩ : ∃ q, h.next = q + 1 := ⟨h.next - 1, by omega⟩
  rw [hq] at gH nH bl ⊢
  have rb : rowAt H b = some [.int .i64 1] := fH.row' hk g
  have cp : aCopy CC [22, 22] (.slice (some ⟨q + 1, 0, some 1⟩) 4 4) (.slice (some ⟨b, 0, sp⟩) 1 1) H = some (.int .i64 1, H.set (q + 1) (.row [.int .i64 1, .int .i64 0, .int .i64 0, .int .i64 0] 1 true)) := copy_22 (m := 1) (v := .int .i64 1) (vs := []) (row := [.int .i64 0, .int .i64 0, .int .i64 0, .int .i64 0]) rfl (by
    show obind (rowAt H b) _ = _
    rw [rb]; rfl) rfl gH rfl
  have f1 : Fr h (H.set (q + 1) (.row [.int .i64 1, .int .i64 0, .int .i64 0, .int .i64 0] 1 true)) := fH.set (by omega) (by omega) _
  have g1 : (H.set (q + 1) (.row [.int .i64 1, .int .i64 0, .int .i64 0, .int .i64 0] 1 true)).get (q + 1) = some (.row [.int .i64 1, .int .i64 0, .int .i64 0, .int .i64 0] 1 true) := Heap.get_set_self _ _ _
  have n1 : (H.set (q + 1) (.row [.int .i64 1, .int .i64 0, .int .i64 0, .int .i64 0] 1 true)).next = q + 2 := by rw [Heap.next_set]; omega
  simp (maxDischargeDepth := 30) only [AMS, AMH, ↓reduceIte, Nat.reduceLT, Nat.reduceEqDiff, Nat.reduceAdd, Nat.reduceMul, reduceCtorEq, decide_true, decide_false, Nat.reduceLeDiff, Int.reduceNe, Int.reduceEq, ne_eq, not_false_eq_true, and_self, ix_22, len_22, mi_9, part_3, size_22, size_3, size_9, und_166, und_22, und_3, und_9, zero_22, zero_9, fH.ok, cp]
  generalize (H.set (q + 1) (.row [.int .i64 1, .int .i64 0, .int .i64 0, .int .i64 0] 1 true)) = H1 at f1 g1 n1 ⊢
  have t1 : decide ((1 : Int) < ((4 : Nat) : Int)) = true := rfl
  have r1 : rowAt H1 (q + 1) = some [.int .i64 1, .int .i64 0, .int .i64 0, .int .i64 0] := by unfold rowAt; rw [g1]; rfl
  have cp1 : aCopy CC [22, 22] (.slice (some ⟨q + 1, 1, some 1⟩) 3 3) (.slice (some ⟨q + 1, 0, some 1⟩) 1 4) H1 = some (.int .i64 1, H1.set (q + 1) (.row [.int .i64 1, .int .i64 1, .int .i64 0, .int .i64 0] 1 true)) := copy_22 (m := 1) (v := .int .i64 1) (vs := []) (row := [.int .i64 1, .int .i64 0, .int .i64 0, .int .i64 0]) rfl (by
    show obind (rowAt H1 (q + 1)) _ = _
    rw [r1]; rfl) rfl g1 rfl
  have w1 : IntKind.i64.wrap (1 + 1) = 2 := rfl
  rw [L_inLoop]
  simp (maxDischargeDepth := 30) only [AMS, AMH, ↓reduceIte, Nat.reduceLT, Nat.reduceEqDiff, Nat.reduceAdd, Nat.reduceMul, reduceCtorEq, decide_true, decide_false, Nat.reduceLeDiff, Int.reduceNe, Int.reduceEq, ne_eq, not_false_eq_true, and_self, ix_22, len_22, mi_9, part_3, size_22, size_3, size_9, und_166, und_22, und_3, und_9, zero_22, zero_9, f1.ok, t1]
  refine W_draw [(true, 0), (true, 1), (true, 2), (true, 3), (true, 4), (true, 5), (true, 6), (true, 7), (true, 8), (true, 9)] (by kernel_rfl) ?_
  simp (maxDischargeDepth := 30) only [AMS, AMH, ↓reduceIte, Nat.reduceLT, Nat.reduceEqDiff, Nat.reduceAdd, Nat.reduceMul, reduceCtorEq, decide_true, decide_false, Nat.reduceLeDiff, Int.reduceNe, Int.reduceEq, ne_eq, not_false_eq_true, and_self, AMR, ix_22, len_22, mi_9, part_3, size_22, size_3, size_9, und_166, und_22, und_3, und_9, zero_22, zero_9, f1.ok, RPr_copy, Option.map_some, Option.map_none, hi_4_1, lo_4_1, cp1, w1]
  have f2 : Fr h (H1.set (q + 1) (.row [.int .i64 1, .int .i64 1, .int .i64 0, .int .i64 0] 1 true)) := f1.set (by omega) (by omega) _
  have g2 : (H1.set (q + 1) (.row [.int .i64 1, .int .i64 1, .int .i64 0, .int .i64 0] 1 true)).get (q + 1) = some (.row [.int .i64 1, .int .i64 1, .int .i64 0, .int .i64 0] 1 true) := Heap.get_set_self _ _ _
  have n2 : (H1.set (q + 1) (.row [.int .i64 1, .int .i64 1, .int .i64 0, .int .i64 0] 1 true)).next = q + 2 := by rw [Heap.next_set]; omega
  generalize (H1.set (q + 1) (.row [.int .i64 1, .int .i64 1, .int .i64 0, .int .i64 0] 1 true)) = H2 at f2 g2 n2 ⊢
  have t2 : decide ((2 : Int) < ((4 : Nat) : Int)) = true := rfl
  have r2 : rowAt H2 (q + 1) = some [.int .i64 1, .int .i64 1, .int .i64 0, .int .i64 0] := by unfold rowAt; rw [g2]; rfl
  have cp2 : aCopy CC [22, 22] (.slice (some ⟨q + 1, 2, some 1⟩) 2 2) (.slice (some ⟨q + 1, 0, some 1⟩) 2 4) H2 = some (.int .i64 2, H2.set (q + 1) (.row [.int .i64 1, .int .i64 1, .int .i64 1, .int .i64 1] 1 true)) := copy_22 (m := 2) (v := .int .i64 1) (vs := [.int .i64 1]) (row := [.int .i64 1, .int .i64 1, .int .i64 0, .int .i64 0]) rfl (by
    show obind (rowAt H2 (q + 1)) _ = _
    rw [r2]; rfl) rfl g2 rfl
  have w2 : IntKind.i64.wrap (2 + 2) = 4 := rfl
  rw [L_inLoop]
  simp (maxDischargeDepth := 30) only [AMS, AMH, ↓reduceIte, Nat.reduceLT, Nat.reduceEqDiff, Nat.reduceAdd, Nat.reduceMul, reduceCtorEq, decide_true, decide_false, Nat.reduceLeDiff, Int.reduceNe, Int.reduceEq, ne_eq, not_false_eq_true, and_self, ix_22, len_22, mi_9, part_3, size_22, size_3, size_9, und_166, und_22, und_3, und_9, zero_22, zero_9, f2.ok, t2]
  refine W_draw [(true, 0), (true, 1), (true, 2), (true, 3), (true, 4), (true, 5), (true, 6), (true, 7), (true, 8), (true, 9)] (by kernel_rfl) ?_
  simp (maxDischargeDepth := 30) only [AMS, AMH, ↓reduceIte, Nat.reduceLT, Nat.reduceEqDiff, Nat.reduceAdd, Nat.reduceMul, reduceCtorEq, decide_true, decide_false, Nat.reduceLeDiff, Int.reduceNe, Int.reduceEq, ne_eq, not_false_eq_true, and_self, AMR, ix_22, len_22, mi_9, part_3, size_22, size_3, size_9, und_166, und_22, und_3, und_9, zero_22, zero_9, f2.ok, RPr_copy, Option.map_some, Option.map_none, hi_4_2, lo_4_2, cp2, w2]
  have f3 : Fr h (H2.set (q + 1) (.row [.int .i64 1, .int .i64 1, .int .i64 1, .int .i64 1] 1 true)) := f2.set (by omega) (by omega) _
  have g3 : (H2.set (q + 1) (.row [.int .i64 1, .int .i64 1, .int .i64 1, .int .i64 1] 1 true)).get (q + 1) = some (.row [.int .i64 1, .int .i64 1, .int .i64 1, .int .i64 1] 1 true) := Heap.get_set_self _ _ _
  have n3 : (H2.set (q + 1) (.row [.int .i64 1, .int .i64 1, .int .i64 1, .int .i64 1] 1 true)).next = q + 2 := by rw [Heap.next_set]; omega
  generalize (H2.set (q + 1) (.row [.int .i64 1, .int .i64 1, .int .i64 1, .int .i64 1] 1 true)) = H3 at f3 g3 n3 ⊢
  have tE : decide ((4 : Int) < ((4 : Nat) : Int)) = false := rfl
  rw [L_inLoop]
  simp (maxDischargeDepth := 30) only [AMS, AMH, ↓reduceIte, Nat.reduceLT, Nat.reduceEqDiff, Nat.reduceAdd, Nat.reduceMul, reduceCtorEq, decide_true, decide_false, Nat.reduceLeDiff, Int.reduceNe, Int.reduceEq, ne_eq, not_false_eq_true, and_self, ix_22, len_22, mi_9, part_3, size_22, size_3, size_9, und_166, und_22, und_3, und_9, zero_22, zero_9, f3.ok, tE]
  exact ⟨.inr ⟨q + 1, rfl, by omega, by omega, g3, rfl⟩, f3⟩

theorem repeat_120 {h : Heap} (hk : HOK h) (hp : 0 < h.next) {b n : Nat} {sp : Option Nat} (g : rowAt h b = some [.int .i64 1]) (h1 : 1 ≤ n) (h4 : n ≤ 4) :
    CW CC 120 [.slice (some ⟨b, 0, sp⟩) 1 1, .int .i64 n] h fun r h' => SL h.next h' r ((List.replicate n 1).flatMap ints) 1 n ∧ Fr h h' := by
  have hc : n = 1 ∨ n = 2 ∨ n = 3 ∨ n = 4 := by omega
  rcases hc with rfl | rfl | rfl | rfl
  · exact repeat_120_1 hk hp g
  · exact repeat_120_2 hk hp g
  · exact repeat_120_3 hk hp g
  · exact repeat_120_4 hk hp g
end Go.Am
