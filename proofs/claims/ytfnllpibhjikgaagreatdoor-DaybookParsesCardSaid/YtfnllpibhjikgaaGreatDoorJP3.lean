/- Parts P3, P4, P5 of the abstract machine over this program, joined: what each part says stands at its head. -/
import Derived.Test.YtfnllpibhjikgaaGreatDoorJP2
set_option linter.unusedSimpArgs false
set_option linter.unusedVariables false
/- The abstract machine over this program: entries that are formed: of the program and of the specification. -/
namespace Go.Am
open Go Go.Proofs

theorem in_p (x lo hi : Int) (h : Heap) : callF CC (Lim CC) 49 [.int .i64 x, .int .i64 lo, .int .i64 hi] h = some (.ret (.bool (inP x lo hi)) h none) := by
  refine CW.eq (CW_in Tryz.f49 (by kernel_rfl) (by kernel_rfl) rfl rfl ?_)
  simp only [Tryz.f49]
  by_cases h1 : x ≥ lo
  · simp (maxDischargeDepth := 30) only [AMS, AMH, ↓reduceIte, Nat.reduceLT, Nat.reduceEqDiff, Nat.reduceAdd, Nat.reduceMul, reduceCtorEq, decide_true, decide_false, Nat.reduceLeDiff, Int.reduceNe, Int.reduceEq, ne_eq, not_false_eq_true, and_self, h1]
    simp [inP, show lo ≤ x from h1]
  · simp (maxDischargeDepth := 30) only [AMS, AMH, ↓reduceIte, Nat.reduceLT, Nat.reduceEqDiff, Nat.reduceAdd, Nat.reduceMul, reduceCtorEq, decide_true, decide_false, Nat.reduceLeDiff, Int.reduceNe, Int.reduceEq, ne_eq, not_false_eq_true, and_self, h1]
    simp [inP, show ¬ lo ≤ x from h1]
theorem in_r (x lo hi : Int) (h : Heap) : callF CC (Lim CC) 20 [.int .i64 x, .int .i64 lo, .int .i64 hi] h = some (.ret (.bool (inP x lo hi)) h none) := by
  refine CW.eq (CW_in Tryz.f20 (by kernel_rfl) (by kernel_rfl) rfl rfl ?_)
  simp only [Tryz.f20]
  by_cases h1 : x ≥ lo
  · simp (maxDischargeDepth := 30) only [AMS, AMH, ↓reduceIte, Nat.reduceLT, Nat.reduceEqDiff, Nat.reduceAdd, Nat.reduceMul, reduceCtorEq, decide_true, decide_false, Nat.reduceLeDiff, Int.reduceNe, Int.reduceEq, ne_eq, not_false_eq_true, and_self, h1]
    simp [inP, show lo ≤ x from h1]
  · simp (maxDischargeDepth := 30) only [AMS, AMH, ↓reduceIte, Nat.reduceLT, Nat.reduceEqDiff, Nat.reduceAdd, Nat.reduceMul, reduceCtorEq, decide_true, decide_false, Nat.reduceLeDiff, Int.reduceNe, Int.reduceEq, ne_eq, not_false_eq_true, and_self, h1]
    simp [inP, show ¬ lo ≤ x from h1]
/-- how many numbers an entry of a kind has, at least and at most -/
def manyK (k : Int) : Int × Int :=
  if k = 1 then (1, 1) else if k = 2 then (0, 0) else if k = 3 then (3, 3) else if k = 4 then (1, 5) else if k = 5 then (1, 4) else if k = 6 then (2, 2) else if k = 7 then (2, 2)
  else if k = 8 then (1, 1) else if k = 9 then (2, 2) else if k = 10 then (1, 1) else if k = 11 then (2, 2) else if k = 12 then (1, 1) else if k = 13 then (0, 0) else (0, -1)
def isKind (k : Int) : Bool := decide (1 ≤ k ∧ k ≤ 13)
theorem kinds_of {k : Int} (h : 1 ≤ k ∧ k ≤ 13) : k = 1 ∨ k = 2 ∨ k = 3 ∨ k = 4 ∨ k = 5 ∨ k = 6 ∨ k = 7 ∨ k = 8 ∨ k = 9 ∨ k = 10 ∨ k = 11 ∨ k = 12 ∨ k = 13 := by omega
theorem many_none {k : Int} (h : ¬ (1 ≤ k ∧ k ≤ 13)) : manyK k = (0, -1) := by
  unfold manyK
  repeat rw [if_neg (by omega)]
theorem ne_k {k : Int} {j : Int} (h : k ≠ j) : (k == j) = false := by simpa using h
theorem bldS_2 (a b : Int) : aBuild CC 44 [(0, .int .i64 a), (1, .int .i64 b)] = some (.agg ⟨[.int .i64 a, .int .i64 b]⟩) := by kernel_rfl
theorem bldS_n : aBuild CC 44 [] = some (.agg ⟨[.int .i64 0, .int .i64 0]⟩) := by kernel_rfl
set_option maxRecDepth 10000 in
set_option maxHeartbeats 2000000 in
theorem many_p (k : Int) {h : Heap} (hk : HOK h) : CW CC 48 [.int .i64 k] h fun r h' => (∃ s : Int × Int, r = .tuple ⟨[.agg ⟨[.int .i64 s.1, .int .i64 s.2]⟩, .bool (isKind k)]⟩ ∧ (isKind k = true → s = manyK k)) ∧ Fr h h' := by
  have f1 := fun (l : List Value) => ((Fr.refl hk).alloc (.row [.int .i64 0, .int .i64 0] 0 true)).set (Nat.le_refl _) (by simp) (.row l 0 true)
  by_cases hn : 1 ≤ k ∧ k ≤ 13
  · have e : isKind k = true := decide_eq_true hn
    rw [e]
    rcases kinds_of hn with rfl | rfl | rfl | rfl | rfl | rfl | rfl | rfl | rfl | rfl | rfl | rfl | rfl <;>
    · refine CW_in Tryz.f48 (by kernel_rfl) (by kernel_rfl) rfl rfl ?_
      simp only [Tryz.f48]
      simp (maxDischargeDepth := 30) only [AMS, AMH, ↓reduceIte, Nat.reduceLT, Nat.reduceEqDiff, Nat.reduceAdd, Nat.reduceMul, reduceCtorEq, decide_true, decide_false, Nat.reduceLeDiff, Int.reduceNe, Int.reduceEq, ne_eq, not_false_eq_true, and_self, bld_44, fld_44_0, fld_44_1, ld_44, size_44, sp_44_0, sp_44_1, zero_44, hk, bldS_2, bldS_n, List.set_cons_zero, beq_self_eq_true, Int.reduceBEq]
      exact ⟨⟨manyK _, by first | rfl | trivial, fun _ => rfl⟩, f1 _⟩
  · have e : isKind k = false := decide_eq_false hn
    rw [e]
    refine CW_in Tryz.f48 (by kernel_rfl) (by kernel_rfl) rfl rfl ?_
    simp only [Tryz.f48]
    have n1 := ne_k (k := k) (j := 1) (by omega)
    have n2 := ne_k (k := k) (j := 2) (by omega)
    have n3 := ne_k (k := k) (j := 3) (by omega)
    have n4 := ne_k (k := k) (j := 4) (by omega)
    have n5 := ne_k (k := k) (j := 5) (by omega)
    have n6 := ne_k (k := k) (j := 6) (by omega)
    have n7 := ne_k (k := k) (j := 7) (by omega)
    have n8 := ne_k (k := k) (j := 8) (by omega)
    have n9 := ne_k (k := k) (j := 9) (by omega)
    have n10 := ne_k (k := k) (j := 10) (by omega)
    have n11 := ne_k (k := k) (j := 11) (by omega)
    have n12 := ne_k (k := k) (j := 12) (by omega)
    have n13 := ne_k (k := k) (j := 13) (by omega)
    simp (maxDischargeDepth := 30) only [AMS, AMH, ↓reduceIte, Nat.reduceLT, Nat.reduceEqDiff, Nat.reduceAdd, Nat.reduceMul, reduceCtorEq, decide_true, decide_false, Nat.reduceLeDiff, Int.reduceNe, Int.reduceEq, ne_eq, not_false_eq_true, and_self, bld_44, fld_44_0, fld_44_1, ld_44, size_44, sp_44_0, sp_44_1, zero_44, hk, bldS_2, bldS_n, n1, n2, n3, n4, n5, n6, n7, n8, n9, n10, n11, n12, n13]
    exact ⟨⟨(0, 0), by first | rfl | trivial, fun q => by cases q⟩, f1 _⟩
end Go.Am

/- The abstract machine over this program: entries that are formed. -/
namespace Go.Am
open Go Go.Proofs
theorem F18_P4 : type_of% (And.intro @fp_25_0 <| And.intro @fp_25_1 <| And.intro @fp_44_0 <| And.intro @fp_44_1 <| And.intro @ld_22 <| And.intro @ld_23 <| And.intro @ld_3 <| And.intro @len_23 <| And.intro @size_44 @zero_44) := And.intro @fp_25_0 <| And.intro @fp_25_1 <| And.intro @fp_44_0 <| And.intro @fp_44_1 <| And.intro @ld_22 <| And.intro @ld_23 <| And.intro @ld_3 <| And.intro @len_23 <| And.intro @size_44 @zero_44
theorem F21_P4 : type_of% (And.intro @bld_44 <| And.intro @bs_23 <| And.intro @fld_44_0 <| And.intro @fld_44_1 <| And.intro @ix_23 <| And.intro @ld_3 <| And.intro @ld_44 <| And.intro @part_3 <| And.intro @size_23 <| And.intro @size_3 <| And.intro @size_44 <| And.intro @sp_44_0 <| And.intro @sp_44_1 <| And.intro @und_23 <| And.intro @zero_23 @zero_44) := And.intro @bld_44 <| And.intro @bs_23 <| And.intro @fld_44_0 <| And.intro @fld_44_1 <| And.intro @ix_23 <| And.intro @ld_3 <| And.intro @ld_44 <| And.intro @part_3 <| And.intro @size_23 <| And.intro @size_3 <| And.intro @size_44 <| And.intro @sp_44_0 <| And.intro @sp_44_1 <| And.intro @und_23 <| And.intro @zero_23 @zero_44
theorem F50_P4 : type_of% (And.intro @ix_23 <| And.intro @ld_3 <| And.intro @len_23 <| And.intro @part_3 <| And.intro @size_23 <| And.intro @size_3 <| And.intro @und_23 @zero_23) := And.intro @ix_23 <| And.intro @ld_3 <| And.intro @len_23 <| And.intro @part_3 <| And.intro @size_23 <| And.intro @size_3 <| And.intro @und_23 @zero_23

theorem bs13 (a b c d e f g i j k l m n : Int) : aBuildSlice CC 23 13 [(0, .int .i64 a), (1, .int .i64 b), (2, .int .i64 c), (3, .int .i64 d), (4, .int .i64 e), (5, .int .i64 f), (6, .int .i64 g), (7, .int .i64 i), (8, .int .i64 j), (9, .int .i64 k), (10, .int .i64 l), (11, .int .i64 m), (12, .int .i64 n)] =
    some (.new (.row [.int .i64 a, .int .i64 b, .int .i64 c, .int .i64 d, .int .i64 e, .int .i64 f, .int .i64 g, .int .i64 i, .int .i64 j, .int .i64 k, .int .i64 l, .int .i64 m, .int .i64 n] 1 true) (sliceTo 1 13 13)) := by kernel_rfl
set_option maxRecDepth 10000 in
set_option maxHeartbeats 2000000 in
theorem many_r (k : Int) {h : Heap} (hk : HOK h) : CW CC 21 [.int .i64 k] h fun r h' => r = .agg ⟨[.int .i64 (manyK k).1, .int .i64 (manyK k).2]⟩ ∧ Fr h h' := by
  have f1 := fun (l : List Value) => ((Fr.refl hk).alloc (.row [.int .i64 0, .int .i64 0] 0 true)).set (Nat.le_refl _) (by simp) (.row l 0 true)
  have f2 := fun (l m : List Value) => (((Fr.refl hk).alloc (.row [.int .i64 0, .int .i64 0] 0 true)).alloc (.row l 1 true)).set (Nat.le_refl _) (by simp; omega) (.row m 0 true)
  by_cases hn : 1 ≤ k ∧ k ≤ 13
  · rcases kinds_of hn with rfl | rfl | rfl | rfl | rfl | rfl | rfl | rfl | rfl | rfl | rfl | rfl | rfl
    · refine CW_in Tryz.f21 (by kernel_rfl) (by kernel_rfl) rfl rfl ?_
      simp only [Tryz.f21]
      have w : IntKind.i64.wrap ((1 : Int) - 1) = ((0 : Nat) : Int) := rfl
      have a1 : decide ((1 : Int) < 1) = false := rfl
      have a2 : decide ((1 : Int) > 13) = false := rfl
      simp (maxDischargeDepth := 30) only [AMS, AMH, ↓reduceIte, Nat.reduceLT, Nat.reduceEqDiff, Nat.reduceAdd, Nat.reduceMul, reduceCtorEq, decide_true, decide_false, Nat.reduceLeDiff, Int.reduceNe, Int.reduceEq, ne_eq, not_false_eq_true, and_self, F21_P4, hk, bldS_2, bldS_n, bs13, w, a1, a2, List.set_cons_zero, beq_self_eq_true, Int.reduceBEq]
      exact ⟨by first | rfl | trivial, f2 _ _⟩
    · refine CW_in Tryz.f21 (by kernel_rfl) (by kernel_rfl) rfl rfl ?_
      simp only [Tryz.f21]
      have w : IntKind.i64.wrap ((2 : Int) - 1) = ((1 : Nat) : Int) := rfl
      have a1 : decide ((2 : Int) < 1) = false := rfl
      have a2 : decide ((2 : Int) > 13) = false := rfl
      simp (maxDischargeDepth := 30) only [AMS, AMH, ↓reduceIte, Nat.reduceLT, Nat.reduceEqDiff, Nat.reduceAdd, Nat.reduceMul, reduceCtorEq, decide_true, decide_false, Nat.reduceLeDiff, Int.reduceNe, Int.reduceEq, ne_eq, not_false_eq_true, and_self, F21_P4, hk, bldS_2, bldS_n, bs13, w, a1, a2, List.set_cons_zero, beq_self_eq_true, Int.reduceBEq]
      exact ⟨by first | rfl | trivial, f2 _ _⟩
    · refine CW_in Tryz.f21 (by kernel_rfl) (by kernel_rfl) rfl rfl ?_
      simp only [Tryz.f21]
      have w : IntKind.i64.wrap ((3 : Int) - 1) = ((2 : Nat) : Int) := rfl
      have a1 : decide ((3 : Int) < 1) = false := rfl
      have a2 : decide ((3 : Int) > 13) = false := rfl
      simp (maxDischargeDepth := 30) only [AMS, AMH, ↓reduceIte, Nat.reduceLT, Nat.reduceEqDiff, Nat.reduceAdd, Nat.reduceMul, reduceCtorEq, decide_true, decide_false, Nat.reduceLeDiff, Int.reduceNe, Int.reduceEq, ne_eq, not_false_eq_true, and_self, F21_P4, hk, bldS_2, bldS_n, bs13, w, a1, a2, List.set_cons_zero, beq_self_eq_true, Int.reduceBEq]
      exact ⟨by first | rfl | trivial, f2 _ _⟩
    · refine CW_in Tryz.f21 (by kernel_rfl) (by kernel_rfl) rfl rfl ?_
      simp only [Tryz.f21]
      simp (maxDischargeDepth := 30) only [AMS, AMH, ↓reduceIte, Nat.reduceLT, Nat.reduceEqDiff, Nat.reduceAdd, Nat.reduceMul, reduceCtorEq, decide_true, decide_false, Nat.reduceLeDiff, Int.reduceNe, Int.reduceEq, ne_eq, not_false_eq_true, and_self, F21_P4, hk, bldS_2, bldS_n, List.set_cons_zero, beq_self_eq_true, Int.reduceBEq]
      exact ⟨by first | rfl | trivial, f1 _⟩
    · refine CW_in Tryz.f21 (by kernel_rfl) (by kernel_rfl) rfl rfl ?_
      simp only [Tryz.f21]
      simp (maxDischargeDepth := 30) only [AMS, AMH, ↓reduceIte, Nat.reduceLT, Nat.reduceEqDiff, Nat.reduceAdd, Nat.reduceMul, reduceCtorEq, decide_true, decide_false, Nat.reduceLeDiff, Int.reduceNe, Int.reduceEq, ne_eq, not_false_eq_true, and_self, F21_P4, hk, bldS_2, bldS_n, List.set_cons_zero, beq_self_eq_true, Int.reduceBEq]
      exact ⟨by first | rfl | trivial, f1 _⟩
    · refine CW_in Tryz.f21 (by kernel_rfl) (by kernel_rfl) rfl rfl ?_
      simp only [Tryz.f21]
      have w : IntKind.i64.wrap ((6 : Int) - 1) = ((5 : Nat) : Int) := rfl
      have a1 : decide ((6 : Int) < 1) = false := rfl
      have a2 : decide ((6 : Int) > 13) = false := rfl
      simp (maxDischargeDepth := 30) only [AMS, AMH, ↓reduceIte, Nat.reduceLT, Nat.reduceEqDiff, Nat.reduceAdd, Nat.reduceMul, reduceCtorEq, decide_true, decide_false, Nat.reduceLeDiff, Int.reduceNe, Int.reduceEq, ne_eq, not_false_eq_true, and_self, F21_P4, hk, bldS_2, bldS_n, bs13, w, a1, a2, List.set_cons_zero, beq_self_eq_true, Int.reduceBEq]
      exact ⟨by first | rfl | trivial, f2 _ _⟩
    · refine CW_in Tryz.f21 (by kernel_rfl) (by kernel_rfl) rfl rfl ?_
      simp only [Tryz.f21]
      have w : IntKind.i64.wrap ((7 : Int) - 1) = ((6 : Nat) : Int) := rfl
      have a1 : decide ((7 : Int) < 1) = false := rfl
      have a2 : decide ((7 : Int) > 13) = false := rfl
      simp (maxDischargeDepth := 30) only [AMS, AMH, ↓reduceIte, Nat.reduceLT, Nat.reduceEqDiff, Nat.reduceAdd, Nat.reduceMul, reduceCtorEq, decide_true, decide_false, Nat.reduceLeDiff, Int.reduceNe, Int.reduceEq, ne_eq, not_false_eq_true, and_self, F21_P4, hk, bldS_2, bldS_n, bs13, w, a1, a2, List.set_cons_zero, beq_self_eq_true, Int.reduceBEq]
      exact ⟨by first | rfl | trivial, f2 _ _⟩
    · refine CW_in Tryz.f21 (by kernel_rfl) (by kernel_rfl) rfl rfl ?_
      simp only [Tryz.f21]
      have w : IntKind.i64.wrap ((8 : Int) - 1) = ((7 : Nat) : Int) := rfl
      have a1 : decide ((8 : Int) < 1) = false := rfl
      have a2 : decide ((8 : Int) > 13) = false := rfl
      simp (maxDischargeDepth := 30) only [AMS, AMH, ↓reduceIte, Nat.reduceLT, Nat.reduceEqDiff, Nat.reduceAdd, Nat.reduceMul, reduceCtorEq, decide_true, decide_false, Nat.reduceLeDiff, Int.reduceNe, Int.reduceEq, ne_eq, not_false_eq_true, and_self, F21_P4, hk, bldS_2, bldS_n, bs13, w, a1, a2, List.set_cons_zero, beq_self_eq_true, Int.reduceBEq]
      exact ⟨by first | rfl | trivial, f2 _ _⟩
    · refine CW_in Tryz.f21 (by kernel_rfl) (by kernel_rfl) rfl rfl ?_
      simp only [Tryz.f21]
      have w : IntKind.i64.wrap ((9 : Int) - 1) = ((8 : Nat) : Int) := rfl
      have a1 : decide ((9 : Int) < 1) = false := rfl
      have a2 : decide ((9 : Int) > 13) = false := rfl
      simp (maxDischargeDepth := 30) only [AMS, AMH, ↓reduceIte, Nat.reduceLT, Nat.reduceEqDiff, Nat.reduceAdd, Nat.reduceMul, reduceCtorEq, decide_true, decide_false, Nat.reduceLeDiff, Int.reduceNe, Int.reduceEq, ne_eq, not_false_eq_true, and_self, F21_P4, hk, bldS_2, bldS_n, bs13, w, a1, a2, List.set_cons_zero, beq_self_eq_true, Int.reduceBEq]
      exact ⟨by first | rfl | trivial, f2 _ _⟩
    · refine CW_in Tryz.f21 (by kernel_rfl) (by kernel_rfl) rfl rfl ?_
      simp only [Tryz.f21]
      have w : IntKind.i64.wrap ((10 : Int) - 1) = ((9 : Nat) : Int) := rfl
      have a1 : decide ((10 : Int) < 1) = false := rfl
      have a2 : decide ((10 : Int) > 13) = false := rfl
      simp (maxDischargeDepth := 30) only [AMS, AMH, ↓reduceIte, Nat.reduceLT, Nat.reduceEqDiff, Nat.reduceAdd, Nat.reduceMul, reduceCtorEq, decide_true, decide_false, Nat.reduceLeDiff, Int.reduceNe, Int.reduceEq, ne_eq, not_false_eq_true, and_self, F21_P4, hk, bldS_2, bldS_n, bs13, w, a1, a2, List.set_cons_zero, beq_self_eq_true, Int.reduceBEq]
      exact ⟨by first | rfl | trivial, f2 _ _⟩
    · refine CW_in Tryz.f21 (by kernel_rfl) (by kernel_rfl) rfl rfl ?_
      simp only [Tryz.f21]
      have w : IntKind.i64.wrap ((11 : Int) - 1) = ((10 : Nat) : Int) := rfl
      have a1 : decide ((11 : Int) < 1) = false := rfl
      have a2 : decide ((11 : Int) > 13) = false := rfl
      simp (maxDischargeDepth := 30) only [AMS, AMH, ↓reduceIte, Nat.reduceLT, Nat.reduceEqDiff, Nat.reduceAdd, Nat.reduceMul, reduceCtorEq, decide_true, decide_false, Nat.reduceLeDiff, Int.reduceNe, Int.reduceEq, ne_eq, not_false_eq_true, and_self, F21_P4, hk, bldS_2, bldS_n, bs13, w, a1, a2, List.set_cons_zero, beq_self_eq_true, Int.reduceBEq]
      exact ⟨by first | rfl | trivial, f2 _ _⟩
    · refine CW_in Tryz.f21 (by kernel_rfl) (by kernel_rfl) rfl rfl ?_
      simp only [Tryz.f21]
      have w : IntKind.i64.wrap ((12 : Int) - 1) = ((11 : Nat) : Int) := rfl
      have a1 : decide ((12 : Int) < 1) = false := rfl
      have a2 : decide ((12 : Int) > 13) = false := rfl
      simp (maxDischargeDepth := 30) only [AMS, AMH, ↓reduceIte, Nat.reduceLT, Nat.reduceEqDiff, Nat.reduceAdd, Nat.reduceMul, reduceCtorEq, decide_true, decide_false, Nat.reduceLeDiff, Int.reduceNe, Int.reduceEq, ne_eq, not_false_eq_true, and_self, F21_P4, hk, bldS_2, bldS_n, bs13, w, a1, a2, List.set_cons_zero, beq_self_eq_true, Int.reduceBEq]
      exact ⟨by first | rfl | trivial, f2 _ _⟩
    · refine CW_in Tryz.f21 (by kernel_rfl) (by kernel_rfl) rfl rfl ?_
      simp only [Tryz.f21]
      have w : IntKind.i64.wrap ((13 : Int) - 1) = ((12 : Nat) : Int) := rfl
      have a1 : decide ((13 : Int) < 1) = false := rfl
      have a2 : decide ((13 : Int) > 13) = false := rfl
      simp (maxDischargeDepth := 30) only [AMS, AMH, ↓reduceIte, Nat.reduceLT, Nat.reduceEqDiff, Nat.reduceAdd, Nat.reduceMul, reduceCtorEq, decide_true, decide_false, Nat.reduceLeDiff, Int.reduceNe, Int.reduceEq, ne_eq, not_false_eq_true, and_self, F21_P4, hk, bldS_2, bldS_n, bs13, w, a1, a2, List.set_cons_zero, beq_self_eq_true, Int.reduceBEq]
      exact ⟨by first | rfl | trivial, f2 _ _⟩
  · rw [many_none hn]
    refine CW_in Tryz.f21 (by kernel_rfl) (by kernel_rfl) rfl rfl ?_
    simp only [Tryz.f21]
    have n4 := ne_k (k := k) (j := 4) (by omega)
    have n5 := ne_k (k := k) (j := 5) (by omega)
    by_cases h1 : k < 1
    · have a1 : decide (k < 1) = true := decide_eq_true h1
      simp (maxDischargeDepth := 30) only [AMS, AMH, ↓reduceIte, Nat.reduceLT, Nat.reduceEqDiff, Nat.reduceAdd, Nat.reduceMul, reduceCtorEq, decide_true, decide_false, Nat.reduceLeDiff, Int.reduceNe, Int.reduceEq, ne_eq, not_false_eq_true, and_self, F21_P4, hk, bldS_2, bldS_n, n4, n5, a1, List.set_cons_zero]
      exact ⟨by first | rfl | trivial, f1 _⟩
    · have a1 : decide (k < 1) = false := decide_eq_false h1
      have a2 : decide (k > 13) = true := decide_eq_true (by omega)
      simp (maxDischargeDepth := 30) only [AMS, AMH, ↓reduceIte, Nat.reduceLT, Nat.reduceEqDiff, Nat.reduceAdd, Nat.reduceMul, reduceCtorEq, decide_true, decide_false, Nat.reduceLeDiff, Int.reduceNe, Int.reduceEq, ne_eq, not_false_eq_true, and_self, F21_P4, hk, bldS_2, bldS_n, n4, n5, a1, a2, List.set_cons_zero]
      exact ⟨by first | rfl | trivial, f1 _⟩

/- SOME -/
set_option maxRecDepth 10000 in
theorem some_p {h : Heap} (hk : HOK h) {v fv : Value} {xs : List Int} (g : Int → Bool) (hv : LS h v xs ints 1) (hl : xs.length ≤ 1000)
    (hcl : ∀ h1, Fr h h1 → ∀ x ∈ xs, ∃ h2, appV CC fv [.int .i64 x] h1 = some (.ret (.bool (g x)) h2 none) ∧ Fr h1 h2) :
    CW CC 50 [v, fv] h fun r h' => r = .bool (xs.any g) ∧ Fr h h' := by
  obtain ⟨p, c, rfl, hx⟩ := hv.open
  refine CW_in Tryz.f50 (by kernel_rfl) (by kernel_rfl) rfl rfl ?_
  simp only [Tryz.f50]
  simp (maxDischargeDepth := 30) only [AMS, AMH, ↓reduceIte, Nat.reduceLT, Nat.reduceEqDiff, Nat.reduceAdd, Nat.reduceMul, reduceCtorEq, decide_true, decide_false, Nat.reduceLeDiff, Int.reduceNe, Int.reduceEq, ne_eq, not_false_eq_true, and_self, F50_P4, hk]
  refine W_loop xs.length (fun m f h' => ∃ i, i ≤ xs.length ∧ m = xs.length - i ∧ f 1 = fv ∧ f 5 = .bool false ∧ f 8 = .slice p xs.length c ∧ f 9 = .int .i64 xs.length ∧ f 10 = .int .i64 i ∧ (∀ (j : Nat) x, j < i → xs[j]? = some x → g x = false) ∧ Fr h h')
    ⟨0, by omega, by omega, by simp [upd_at, argsFn_at], by simp [upd_at, argsFn_at], by simp [upd_at, argsFn_at], by simp [upd_at], by simp [upd_at], fun j x hj => by omega, Fr.refl hk⟩ ?_
  rintro m f h' ⟨i, hi, rfl, f1, f5, f8, f9, f10, hall, fr⟩ ih
  have hk' := fr.ok
  by_cases hil : i < xs.length
  · obtain ⟨x, g1⟩ : ∃ x, xs[i]? = some x := ⟨_, List.getElem?_eq_getElem hil⟩
    rcases hx with hx | ⟨b, o, sp, row, rfl, hr, hx⟩
    · rw [hx] at hil; simp at hil
    have k1 : row[o + i]? = some (.int .i64 x) := by simpa [ints] using (hx i x g1).2 0 (by omega)
    have hr' := fr.row' hk hr
    obtain ⟨h2, e2, fr2⟩ := hcl h' fr x (List.mem_of_getElem? g1)
    cases hg : g x with
    | true =>
      rw [hg] at e2
      simp (maxDischargeDepth := 30) only [AMS, AMH, ↓reduceIte, Nat.reduceLT, Nat.reduceEqDiff, Nat.reduceAdd, Nat.reduceMul, reduceCtorEq, decide_true, decide_false, Nat.reduceLeDiff, Int.reduceNe, Int.reduceEq, ne_eq, not_false_eq_true, and_self, F50_P4, hk', f1, f5, f8, f9, f10, lt_t hil, hil, hr', Nat.mul_one, k1, e2]
      refine ⟨?_, fr.trans fr2⟩
      have : xs.any g = true := List.any_eq_true.2 ⟨x, List.mem_of_getElem? g1, hg⟩
      rw [this]
    | false =>
      rw [hg] at e2
      simp (maxDischargeDepth := 30) only [AMS, AMH, ↓reduceIte, Nat.reduceLT, Nat.reduceEqDiff, Nat.reduceAdd, Nat.reduceMul, reduceCtorEq, decide_true, decide_false, Nat.reduceLeDiff, Int.reduceNe, Int.reduceEq, ne_eq, not_false_eq_true, and_self, F50_P4, hk', f1, f5, f8, f9, f10, lt_t hil, hil, hr', Nat.mul_one, k1, e2, i_next hil hl]
      refine ih (xs.length - (i + 1)) _ _ (by omega) ?_
      refine ⟨i + 1, by omega, rfl, by simp [upd_at, f1], by simp [upd_at, f5], by simp [upd_at, f8], by simp [upd_at, f9], by simp [upd_at], fun j y hj hy => ?_, fr.trans fr2⟩
      by_cases hji : j < i
      · exact hall j y hji hy
      · have : j = i := by omega
        subst this
        rw [g1] at hy; simp at hy; subst hy; exact hg
  · have : i = xs.length := by omega
    subst this
    simp (maxDischargeDepth := 30) only [AMS, AMH, ↓reduceIte, Nat.reduceLT, Nat.reduceEqDiff, Nat.reduceAdd, Nat.reduceMul, reduceCtorEq, decide_true, decide_false, Nat.reduceLeDiff, Int.reduceNe, Int.reduceEq, ne_eq, not_false_eq_true, and_self, F50_P4, hk', f1, f5, f8, f9, f10, lt_f]
    refine ⟨?_, fr⟩
    have : xs.any g = false := by
      rw [List.any_eq_false]
      intro x hx
      obtain ⟨j, hj⟩ := List.mem_iff_getElem?.1 hx
      simp [hall j x (List.getElem?_eq_some_iff.1 hj).1 hj]
    rw [this]

/-- a number of an entry -/
def numK (n : Int) : Bool := inP n 0 9999
/-- an entry that is formed -/
def formed (k : Int) (l : List Int) : Bool := isKind k && (inP l.length (manyK k).1 (manyK k).2 && l.all numK)
theorem formed1_p (n : Int) (h : Heap) : callF CC (Lim CC) 51 [.int .i64 n] h = some (.ret (.bool (!numK n)) h none) := by
  refine CW.eq (CW_in Tryz.f51 (by kernel_rfl) (by kernel_rfl) rfl rfl ?_)
  simp only [Tryz.f51]
  simp (maxDischargeDepth := 30) only [AMS, AMH, ↓reduceIte, Nat.reduceLT, Nat.reduceEqDiff, Nat.reduceAdd, Nat.reduceMul, reduceCtorEq, decide_true, decide_false, Nat.reduceLeDiff, Int.reduceNe, Int.reduceEq, ne_eq, not_false_eq_true, and_self, L_nil, in_p]
  exact ⟨rfl, trivial⟩
theorem any_not (l : List Int) : (!l.any fun n => !numK n) = l.all numK := by
  induction l with
  | nil => rfl
  | cons x l ih => rw [List.any_cons, List.all_cons, ← ih]; cases numK x <;> simp
set_option maxRecDepth 10000 in
theorem isFormed_p {k : Int} {a : Value} {l : List Int} {h : Heap} (hk : HOK h) (hl : LS h a l ints 1) (hn : l.length ≤ 1000) : CW CC 18 [.agg ⟨[.int .i64 k, a]⟩] h fun r h' => r = .bool (formed k l) ∧ Fr h h' := by
  obtain ⟨p, c, rfl, hx⟩ := hl.open
  refine CW_in Tryz.f18 (by kernel_rfl) (by kernel_rfl) rfl rfl ?_
  simp only [Tryz.f18]
  have f1 : Fr h (h.alloc (.row [.int .i64 k, .slice p l.length c] 0 true)) := (Fr.refl hk).alloc _
  have r1 : rowAt (h.alloc (.row [.int .i64 k, .slice p l.length c] 0 true)) h.next = some [.int .i64 k, .slice p l.length c] := rowAt_new _ _ _ _
  simp (maxDischargeDepth := 30) only [AMS, AMH, ↓reduceIte, Nat.reduceLT, Nat.reduceEqDiff, Nat.reduceAdd, Nat.reduceMul, reduceCtorEq, decide_true, decide_false, Nat.reduceLeDiff, Int.reduceNe, Int.reduceEq, ne_eq, not_false_eq_true, and_self, F18_P4, hk]
  generalize (h.alloc (.row [.int .i64 k, .slice p l.length c] 0 true)) = h1 at f1 r1 ⊢
  refine W_call (many_p k f1.ok) ?_
  rintro _ h2 ⟨⟨s, rfl, hs⟩, fr2⟩
  have f2 := f1.trans fr2
  have k2 := f2.ok
  have r2 := fr2.row' f1.ok r1
  have l2 := hl.fr hk f2
  have n2 := row_lt k2 r2
  have f23 := fun l => ((Fr.refl k2).alloc (.row [.int .i64 0, .int .i64 0] 0 true)).set (Nat.le_refl _) (by simp) (.row l 0 true)
  cases hkd : isKind k with
  | false =>
    have e : formed k l = false := by unfold formed; rw [hkd]; rfl
    simp (maxDischargeDepth := 30) only [AMS, AMH, ↓reduceIte, Nat.reduceLT, Nat.reduceEqDiff, Nat.reduceAdd, Nat.reduceMul, reduceCtorEq, decide_true, decide_false, Nat.reduceLeDiff, Int.reduceNe, Int.reduceEq, ne_eq, not_false_eq_true, and_self, F18_P4, k2, r2, n2, List.set_cons_zero]
    exact ⟨by rw [e], f2.trans (f23 _)⟩
  | true =>
    rw [hs hkd]
    cases hin : inP l.length (manyK k).1 (manyK k).2 with
    | false =>
      have e : formed k l = false := by unfold formed; rw [hkd, hin]; rfl
      simp (maxDischargeDepth := 30) only [AMS, AMH, ↓reduceIte, Nat.reduceLT, Nat.reduceEqDiff, Nat.reduceAdd, Nat.reduceMul, reduceCtorEq, decide_true, decide_false, Nat.reduceLeDiff, Int.reduceNe, Int.reduceEq, ne_eq, not_false_eq_true, and_self, F18_P4, k2, r2, n2, in_p, hin, List.set_cons_zero]
      exact ⟨by rw [e], f2.trans (f23 _)⟩
    | true =>
      have e : formed k l = l.all numK := by unfold formed; rw [hkd, hin]; rfl
      have f3 := f23 [.int .i64 (manyK k).1, .int .i64 (manyK k).2]
      simp (maxDischargeDepth := 30) only [AMS, AMH, ↓reduceIte, Nat.reduceLT, Nat.reduceEqDiff, Nat.reduceAdd, Nat.reduceMul, reduceCtorEq, decide_true, decide_false, Nat.reduceLeDiff, Int.reduceNe, Int.reduceEq, ne_eq, not_false_eq_true, and_self, F18_P4, k2, r2, n2, in_p, hin, List.set_cons_zero]
      refine W_call (some_p f3.ok (fun n => !numK n) (l2.fr k2 f3) hn fun h1 fh x _ => ⟨h1, ?_, Fr.refl fh.ok⟩) ?_
      · first | (rw [V_func]; exact formed1_p x h1) | (rw [V_clo]; exact formed1_p x h1)
      rintro _ h4 ⟨rfl, f4⟩
      simp (maxDischargeDepth := 30) only [AMS, AMH, ↓reduceIte, Nat.reduceLT, Nat.reduceEqDiff, Nat.reduceAdd, Nat.reduceMul, reduceCtorEq, decide_true, decide_false, Nat.reduceLeDiff, Int.reduceNe, Int.reduceEq, ne_eq, not_false_eq_true, and_self, F18_P4, f4.ok, any_not]
      exact ⟨by rw [e], (f2.trans f3).trans f4⟩
end Go.Am

/- The abstract machine over this program: lines of entries that are formed. -/
namespace Go.Am
open Go Go.Proofs
theorem F53_P5 : type_of% (And.intro @bs_87 <| And.intro @ix_23 <| And.intro @ix_87 <| And.intro @ld_3 <| And.intro @len_23 <| And.intro @part_3 <| And.intro @part_9 <| And.intro @size_23 <| And.intro @size_3 <| And.intro @size_87 <| And.intro @size_9 <| And.intro @und_23 <| And.intro @und_87 <| And.intro @zero_23 @zero_87) := And.intro @bs_87 <| And.intro @ix_23 <| And.intro @ix_87 <| And.intro @ld_3 <| And.intro @len_23 <| And.intro @part_3 <| And.intro @part_9 <| And.intro @size_23 <| And.intro @size_3 <| And.intro @size_87 <| And.intro @size_9 <| And.intro @und_23 <| And.intro @und_87 <| And.intro @zero_23 @zero_87

/-- the words of lines -/
def wordL : List Bs := [[119, 97, 105, 116], [99, 111, 97, 116], [100, 114, 121], [115, 112, 111, 116], [109, 105, 120], [102, 105, 108, 108], [103, 105, 118, 101], [100, 111, 110, 101], [104, 111, 117, 114, 115], [100, 101, 97, 108], [112, 97, 121], [102, 114, 111, 110, 116], [117, 110, 100, 111], [100, 97, 121], [115, 101, 116], [112, 108, 97, 110], [108, 97, 105, 100], [111, 114, 100, 101, 114], [98, 101, 102, 111, 114, 101], [115, 116, 111, 99, 107], [119, 111, 114, 100], [104, 97, 110, 100], [114, 101, 97, 100, 121], [101, 110, 100, 115], [98, 101, 115, 116], [111, 119, 101, 115], [112, 97, 105, 100], [115, 97, 109, 101], [115, 116, 97, 110, 100, 115]]
/-- the words of entries -/
def wordE : List Bs := [[119, 97, 105, 116], [99, 111, 97, 116], [100, 114, 121], [115, 112, 111, 116], [109, 105, 120], [102, 105, 108, 108], [103, 105, 118, 101], [100, 111, 110, 101], [104, 111, 117, 114, 115], [100, 101, 97, 108], [112, 97, 121], [102, 114, 111, 110, 116], [117, 110, 100, 111]]
noncomputable def sV (w : Bs) : Value := .string (bs w)
theorem wordE_is : wordE = wordL.take 13 := by kernel_rfl
theorem wordL_short : ∀ w ∈ wordL, w.length ≤ 6 := by decide
theorem wordL_len : wordL.length = 29 := rfl
theorem zero_W : CC.zero 120 = some (.agg ⟨List.replicate 29 (.string ⟨⟨[]⟩⟩)⟩) := by kernel_rfl
theorem bld_W : aBuild CC 120 [(0, .string (bs [119, 97, 105, 116])), (1, .string (bs [99, 111, 97, 116])), (2, .string (bs [100, 114, 121])), (3, .string (bs [115, 112, 111, 116])), (4, .string (bs [109, 105, 120])), (5, .string (bs [102, 105, 108, 108])), (6, .string (bs [103, 105, 118, 101])), (7, .string (bs [100, 111, 110, 101])), (8, .string (bs [104, 111, 117, 114, 115])), (9, .string (bs [100, 101, 97, 108])), (10, .string (bs [112, 97, 121])), (11, .string (bs [102, 114, 111, 110, 116])), (12, .string (bs [117, 110, 100, 111])), (13, .string (bs [100, 97, 121])), (14, .string (bs [115, 101, 116])), (15, .string (bs [112, 108, 97, 110])), (16, .string (bs [108, 97, 105, 100])), (17, .string (bs [111, 114, 100, 101, 114])), (18, .string (bs [98, 101, 102, 111, 114, 101])), (19, .string (bs [115, 116, 111, 99, 107])), (20, .string (bs [119, 111, 114, 100])), (21, .string (bs [104, 97, 110, 100])), (22, .string (bs [114, 101, 97, 100, 121])), (23, .string (bs [101, 110, 100, 115])), (24, .string (bs [98, 101, 115, 116])), (25, .string (bs [111, 119, 101, 115])), (26, .string (bs [112, 97, 105, 100])), (27, .string (bs [115, 97, 109, 101])), (28, .string (bs [115, 116, 97, 110, 100, 115]))] = some (.agg ⟨wordL.map sV⟩) := by kernel_rfl
theorem put_W : write? (List.replicate 29 (.string ⟨⟨[]⟩⟩)) 0 (wordL.map sV) = some (wordL.map sV) := write_all _ _ rfl
theorem take_W : take? (wordL.map sV) 0 29 = some (wordL.map sV) := by kernel_rfl
theorem len_W : (wordL.map sV).length = 29 := rfl
theorem one_W : allOne (wordL.map sV) = true := rfl
theorem cells_W (l : List Value) : cellsOf (.agg ⟨l⟩) = l := rfl
set_option maxRecDepth 10000 in
theorem words_p {h : Heap} (hk : HOK h) : CW CC 52 [] h fun r h' => r = .agg ⟨wordL.map sV⟩ ∧ Fr h h' := by
  refine CW_in Tryz.f52 (by kernel_rfl) (by kernel_rfl) rfl rfl ?_
  simp only [Tryz.f52, bs_mk]
  simp (maxDischargeDepth := 30) only [AMS, AMH, ↓reduceIte, Nat.reduceLT, Nat.reduceEqDiff, Nat.reduceAdd, Nat.reduceMul, reduceCtorEq, decide_true, decide_false, Nat.reduceLeDiff, Int.reduceNe, Int.reduceEq, ne_eq, not_false_eq_true, and_self, ld_120, part_9, size_120, size_9, und_120, hk, zero_W, bld_W, put_W, take_W, cells_W, len_W, one_W]
  exact ⟨by first | rfl | trivial, ((Fr.refl hk).alloc _).set (Nat.le_refl _) (by simp) _⟩
theorem idx_all : (List.range 29).map (fun j => aIndex CC 120 (.agg ⟨wordL.map sV⟩) (.int .i64 (j : Nat))) = (List.range 29).map fun j => (wordL[j]?).map sV := by kernel_rfl
theorem idx_W {i : Nat} {w : Bs} (h : wordL[i]? = some w) : aIndex CC 120 (.agg ⟨wordL.map sV⟩) (.int .i64 i) = some (.string (bs w)) := by
  have hi := (List.getElem?_eq_some_iff.1 h).1
  rw [wordL_len] at hi
  have e := congrArg (fun l => l[i]?) idx_all
  simp only [List.getElem?_map, List.getElem?_range hi, Option.map_some, h] at e
  simpa [sV] using e

set_option maxRecDepth 10000 in
theorem joined_p {a : Value} {l : List Int} {h : Heap} (hk : HOK h) (hp : 0 < h.next) (hv : LS h a l ints 1) (hn : ∀ n ∈ l, okN n) (hl : l.length ≤ 100) (h1 : 1 ≤ l.length) :
    CW CC 53 [a] h fun r h' => r = .string (bs (glue 32 (l.map dec))) ∧ Fr h h' := by
  obtain ⟨p, c, rfl, hx⟩ := hv.open
  refine CW_in Tryz.f53 (by kernel_rfl) (by kernel_rfl) rfl rfl ?_
  simp only [Tryz.f53, bs_mk]
  simp (maxDischargeDepth := 30) only [AMS, AMH, ↓reduceIte, Nat.reduceLT, Nat.reduceEqDiff, Nat.reduceAdd, Nat.reduceMul, reduceCtorEq, decide_true, decide_false, Nat.reduceLeDiff, Int.reduceNe, Int.reduceEq, ne_eq, not_false_eq_true, and_self, F53_P5, hk]
  refine W_loop l.length (fun m f h' => ∃ i, i ≤ l.length ∧ m = l.length - i ∧ f 6 = .slice p l.length c ∧ f 7 = .int .i64 l.length ∧ f 8 = .int .i64 i ∧ SL h.next h' (f 3) (((l.take i).map dec).flatMap strC) 1 i ∧ Fr h h')
    ⟨0, by omega, by omega, by simp [upd_at, argsFn_at], by simp [upd_at], by simp [upd_at], by simpa [upd_at] using SL.nil h.next h 1, Fr.refl hk⟩ ?_
  rintro m f h1 ⟨i, hi, rfl, g6, g7, g8, q3, f1⟩ ih
  have k1 := f1.ok
  by_cases hil : i < l.length
  · obtain ⟨n, gn⟩ : ∃ n, l[i]? = some n := ⟨_, List.getElem?_eq_getElem hil⟩
    rcases hx with hx | ⟨b, o, sp, row, rfl, hr, hx⟩
    · rw [hx] at hil; simp at hil
    have hcell : row[o + i]? = some (.int .i64 n) := by simpa [ints] using (hx _ _ gn).2 0 (by omega)
    have on := hn n (List.mem_of_getElem? gn)
    have hr1 := f1.row' hk hr
    obtain ⟨h2, e2, q2, f2, n2, _⟩ := append_one (ts := []) app_87 f1 (by have := f1.next; omega) q3 (v := .string (bs (dec n))) rfl (by omega)
    simp (maxDischargeDepth := 30) only [AMS, AMH, ↓reduceIte, Nat.reduceLT, Nat.reduceEqDiff, Nat.reduceAdd, Nat.reduceMul, reduceCtorEq, decide_true, decide_false, Nat.reduceLeDiff, Int.reduceNe, Int.reduceEq, ne_eq, not_false_eq_true, and_self, F53_P5, k1, g6, g7, g8, lt_t hil, hil, Nat.mul_one, hr1, hcell]
    refine W_call (itoa_126 on.1 (by have := on.2; omega) h1) ?_
    rintro _ _ ⟨rfl, rfl⟩
    simp (maxDischargeDepth := 30) only [AMS, AMH, ↓reduceIte, Nat.reduceLT, Nat.reduceEqDiff, Nat.reduceAdd, Nat.reduceMul, reduceCtorEq, decide_true, decide_false, Nat.reduceLeDiff, Int.reduceNe, Int.reduceEq, ne_eq, not_false_eq_true, and_self, F53_P5, k1, g6, g7, g8, e2, f2.ok, i_ok hil (by omega)]
    refine ih (l.length - (i + 1)) _ _ (by omega) ?_
    refine ⟨i + 1, by omega, rfl, by simp [upd_at, g6], by simp [upd_at, g7], by simp [upd_at], ?_, f2⟩
    have e : ((l.take (i + 1)).map dec).flatMap strC = ((l.take i).map dec).flatMap strC ++ [.string (bs (dec n))] := by
      rw [take_snoc gn, List.map_append, List.flatMap_append]; rfl
    rw [e]; simpa [upd_at] using q2
  · have : i = l.length := by omega
    subst this
    rw [List.take_length] at q3
    have q3' : SL h.next h1 (f 3) ((l.map dec).flatMap strC) 1 (l.map dec).length := by simpa using q3
    have hj : (Lib.join (l.map dec) [32]).length ≤ 140737488355328 := by
      cases l with
      | nil => simp at h1
      | cons x r =>
        rw [List.map_cons, join_glue, glue_tail]
        have a1 := (dec_num (hn x List.mem_cons_self)).2.2.1
        have a2 := tail_len (ns := r) fun y hy => hn y (List.mem_cons_of_mem _ hy)
        simp at hl ⊢; omega
    simp (maxDischargeDepth := 30) only [AMS, AMH, ↓reduceIte, Nat.reduceLT, Nat.reduceEqDiff, Nat.reduceAdd, Nat.reduceMul, reduceCtorEq, decide_true, decide_false, Nat.reduceLeDiff, Int.reduceNe, Int.reduceEq, ne_eq, not_false_eq_true, and_self, F53_P5, k1, g6, g7, g8, lt_f]
    refine W_call (join_127 q3' (by simp; omega) hj) ?_
    rintro _ _ ⟨rfl, rfl⟩
    simp (maxDischargeDepth := 30) only [AMS, AMH, ↓reduceIte, Nat.reduceLT, Nat.reduceEqDiff, Nat.reduceAdd, Nat.reduceMul, reduceCtorEq, decide_true, decide_false, Nat.reduceLeDiff, Int.reduceNe, Int.reduceEq, ne_eq, not_false_eq_true, and_self, F53_P5, k1]
    refine ⟨?_, f1⟩
    cases l with
    | nil => simp at h1
    | cons x r => rw [List.map_cons, join_glue]
end Go.Am
