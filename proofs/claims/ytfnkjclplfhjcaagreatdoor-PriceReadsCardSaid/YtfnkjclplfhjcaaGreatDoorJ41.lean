/- Parts 41, 42, 43, 44 of the abstract machine over this program, joined: what each part says stands at its head. -/
import Derived.Test.YtfnkjclplfhjcaaGreatDoorJ39
set_option linter.unusedSimpArgs false
set_option linter.unusedVariables false
/- The abstract machine, part 41: contracts: checks of ranges and lengths. -/
namespace Go.Am
open Go Go.Proofs
theorem F28_Am41 : type_of% (And.intro @fp_26_0 <| And.intro @fp_26_1 <| And.intro @fp_26_2 <| And.intro @ld_22 <| And.intro @ld_23 <| And.intro @ld_24 <| And.intro @len_22 <| And.intro @len_23 @len_24) := And.intro @fp_26_0 <| And.intro @fp_26_1 <| And.intro @fp_26_2 <| And.intro @ld_22 <| And.intro @ld_23 <| And.intro @ld_24 <| And.intro @len_22 <| And.intro @len_23 @len_24
theorem F77_Am41 : type_of% (And.intro @fp_41_0 <| And.intro @fp_41_1 <| And.intro @fp_41_2 <| And.intro @fp_41_3 <| And.intro @ld_3 <| And.intro @ld_38 @ld_39) := And.intro @fp_41_0 <| And.intro @fp_41_1 <| And.intro @fp_41_2 <| And.intro @fp_41_3 <| And.intro @ld_3 <| And.intro @ld_38 @ld_39
theorem F88_Am41 : type_of% (And.intro @fp_41_0 <| And.intro @fp_41_1 <| And.intro @fp_41_2 <| And.intro @fp_41_3 <| And.intro @ld_3 <| And.intro @ld_38 @ld_39) := And.intro @fp_41_0 <| And.intro @fp_41_1 <| And.intro @fp_41_2 <| And.intro @fp_41_3 <| And.intro @ld_3 <| And.intro @ld_38 @ld_39
theorem F116_Am41 : type_of% (And.intro @fp_26_0 <| And.intro @fp_30_0 <| And.intro @fp_30_1 <| And.intro @fp_72_0 <| And.intro @fp_72_1 <| And.intro @fp_72_2 <| And.intro @fp_72_3 <| And.intro @ld_22 <| And.intro @ld_3 @len_22) := And.intro @fp_26_0 <| And.intro @fp_30_0 <| And.intro @fp_30_1 <| And.intro @fp_72_0 <| And.intro @fp_72_1 <| And.intro @fp_72_2 <| And.intro @fp_72_3 <| And.intro @ld_22 <| And.intro @ld_3 @len_22

theorem in_104 (x lo hi : Int) (h : Heap) : callF CC (Lim CC) 104 [.int .i64 x, .int .i64 lo, .int .i64 hi] h = some (.ret (.bool (inP x lo hi)) h none) := by
  refine CW.eq (CW_in Tryz.f104 (by kernel_rfl) (by kernel_rfl) rfl rfl ?_)
  simp only [Tryz.f104]
  by_cases h1 : x ≥ lo
  · simp (maxDischargeDepth := 30) only [AMS, AMH, ↓reduceIte, Nat.reduceLT, Nat.reduceEqDiff, Nat.reduceAdd, Nat.reduceMul, reduceCtorEq, decide_true, decide_false, Nat.reduceLeDiff, Int.reduceNe, Int.reduceEq, ne_eq, not_false_eq_true, and_self, h1]
    simp [inP, show lo ≤ x from h1]
  · simp (maxDischargeDepth := 30) only [AMS, AMH, ↓reduceIte, Nat.reduceLT, Nat.reduceEqDiff, Nat.reduceAdd, Nat.reduceMul, reduceCtorEq, decide_true, decide_false, Nat.reduceLeDiff, Int.reduceNe, Int.reduceEq, ne_eq, not_false_eq_true, and_self, h1]
    simp [inP, show ¬ lo ≤ x from h1]
theorem in_76 (x lo hi : Int) (h : Heap) : callF CC (Lim CC) 76 [.int .i64 x, .int .i64 lo, .int .i64 hi] h = some (.ret (.bool (inP x lo hi)) h none) := by
  refine CW.eq (CW_in Tryz.f76 (by kernel_rfl) (by kernel_rfl) rfl rfl ?_)
  simp only [Tryz.f76]
  by_cases h1 : x ≥ lo
  · simp (maxDischargeDepth := 30) only [AMS, AMH, ↓reduceIte, Nat.reduceLT, Nat.reduceEqDiff, Nat.reduceAdd, Nat.reduceMul, reduceCtorEq, decide_true, decide_false, Nat.reduceLeDiff, Int.reduceNe, Int.reduceEq, ne_eq, not_false_eq_true, and_self, h1]
    simp [inP, show lo ≤ x from h1]
  · simp (maxDischargeDepth := 30) only [AMS, AMH, ↓reduceIte, Nat.reduceLT, Nat.reduceEqDiff, Nat.reduceAdd, Nat.reduceMul, reduceCtorEq, decide_true, decide_false, Nat.reduceLeDiff, Int.reduceNe, Int.reduceEq, ne_eq, not_false_eq_true, and_self, h1]
    simp [inP, show ¬ lo ≤ x from h1]

theorem short_28 (p q r : Option Addr) (a b c d e f : Nat) (h : Heap) (hk : HOK h) : CW CC 28 [.agg ⟨[.slice p a b, .slice q c d, .slice r e f]⟩] h fun v h' => v = .bool (decide ((a : Int) ≤ 5 ∧ (c : Int) ≤ 6 ∧ (e : Int) ≤ 5)) ∧ Fr h h' := by
  refine CW_in Tryz.f28 (by kernel_rfl) (by kernel_rfl) rfl rfl ?_
  simp only [Tryz.f28]
  by_cases h1 : ((a : Int) ≤ 5)
  · by_cases h2 : ((c : Int) ≤ 6)
    · simp (maxDischargeDepth := 30) only [AMS, AMH, ↓reduceIte, Nat.reduceLT, Nat.reduceEqDiff, Nat.reduceAdd, Nat.reduceMul, reduceCtorEq, decide_true, decide_false, Nat.reduceLeDiff, Int.reduceNe, Int.reduceEq, ne_eq, not_false_eq_true, and_self, F28_Am41, hk, h1, h2]
      exact ⟨by simp, (Fr.refl hk).alloc _⟩
    · simp (maxDischargeDepth := 30) only [AMS, AMH, ↓reduceIte, Nat.reduceLT, Nat.reduceEqDiff, Nat.reduceAdd, Nat.reduceMul, reduceCtorEq, decide_true, decide_false, Nat.reduceLeDiff, Int.reduceNe, Int.reduceEq, ne_eq, not_false_eq_true, and_self, F28_Am41, hk, h1, h2]
      exact ⟨by simp, (Fr.refl hk).alloc _⟩
  · simp (maxDischargeDepth := 30) only [AMS, AMH, ↓reduceIte, Nat.reduceLT, Nat.reduceEqDiff, Nat.reduceAdd, Nat.reduceMul, reduceCtorEq, decide_true, decide_false, Nat.reduceLeDiff, Int.reduceNe, Int.reduceEq, ne_eq, not_false_eq_true, and_self, F28_Am41, hk, h1]
    exact ⟨by simp, (Fr.refl hk).alloc _⟩

def Tar.ok (t : Tar) : Bool := decide (1 ≤ t.kind ∧ t.kind ≤ 4 ∧ 1 ≤ t.rule ∧ t.rule ≤ 4 ∧ 0 ≤ t.coins ∧ t.coins ≤ 500 ∧ 1 ≤ t.units ∧ t.units ≤ 12)

theorem Tar.ok_eq (k c u r : Int) (e : Bool) : (decide (k ≥ 1) && (decide (k ≤ 4) && (decide (r ≥ 1) && (decide (r ≤ 4) && (inP c 0 500 && inP u 1 12))))) = Tar.ok ⟨k, c, u, r, e⟩ := by
  simp only [Tar.ok, inP]
  rw [Bool.eq_iff_iff]
  simp
  omega
theorem isTariff_88 (t : Tar) (h : Heap) (hk : HOK h) : CW CC 88 [.agg ⟨t.cells⟩] h fun v h' => v = .bool t.ok ∧ Fr h h' := by
  obtain ⟨k, c, u, r, e⟩ := t
  refine CW_in Tryz.f88 (by kernel_rfl) (by kernel_rfl) rfl rfl ?_
  simp only [Tryz.f88, Tar.cells]
  have go := Tar.ok_eq k c u r e
  cases c1 : decide (k ≥ 1) with
  | false =>
    simp (maxDischargeDepth := 30) only [AMS, AMH, ↓reduceIte, Nat.reduceLT, Nat.reduceEqDiff, Nat.reduceAdd, Nat.reduceMul, reduceCtorEq, decide_true, decide_false, Nat.reduceLeDiff, Int.reduceNe, Int.reduceEq, ne_eq, not_false_eq_true, and_self, F88_Am41, hk, in_104, c1]
    exact ⟨by first | (rw [← go]; simp only [c1, Bool.true_and, Bool.false_and, Bool.not_true, Bool.not_false, Bool.and_false, Bool.and_true]) | (rw [← go]; simp [c1]), (Fr.refl hk).alloc _⟩
  | true =>
  cases c2 : decide (k ≤ 4) with
  | false =>
    simp (maxDischargeDepth := 30) only [AMS, AMH, ↓reduceIte, Nat.reduceLT, Nat.reduceEqDiff, Nat.reduceAdd, Nat.reduceMul, reduceCtorEq, decide_true, decide_false, Nat.reduceLeDiff, Int.reduceNe, Int.reduceEq, ne_eq, not_false_eq_true, and_self, F88_Am41, hk, in_104, c1, c2]
    exact ⟨by first | (rw [← go]; simp only [c1, c2, Bool.true_and, Bool.false_and, Bool.not_true, Bool.not_false, Bool.and_false, Bool.and_true]) | (rw [← go]; simp [c1, c2]), (Fr.refl hk).alloc _⟩
  | true =>
  cases c3 : decide (r ≥ 1) with
  | false =>
    simp (maxDischargeDepth := 30) only [AMS, AMH, ↓reduceIte, Nat.reduceLT, Nat.reduceEqDiff, Nat.reduceAdd, Nat.reduceMul, reduceCtorEq, decide_true, decide_false, Nat.reduceLeDiff, Int.reduceNe, Int.reduceEq, ne_eq, not_false_eq_true, and_self, F88_Am41, hk, in_104, c1, c2, c3]
    exact ⟨by first | (rw [← go]; simp only [c1, c2, c3, Bool.true_and, Bool.false_and, Bool.not_true, Bool.not_false, Bool.and_false, Bool.and_true]) | (rw [← go]; simp [c1, c2, c3]), (Fr.refl hk).alloc _⟩
  | true =>
  cases c4 : decide (r ≤ 4) with
  | false =>
    simp (maxDischargeDepth := 30) only [AMS, AMH, ↓reduceIte, Nat.reduceLT, Nat.reduceEqDiff, Nat.reduceAdd, Nat.reduceMul, reduceCtorEq, decide_true, decide_false, Nat.reduceLeDiff, Int.reduceNe, Int.reduceEq, ne_eq, not_false_eq_true, and_self, F88_Am41, hk, in_104, c1, c2, c3, c4]
    exact ⟨by first | (rw [← go]; simp only [c1, c2, c3, c4, Bool.true_and, Bool.false_and, Bool.not_true, Bool.not_false, Bool.and_false, Bool.and_true]) | (rw [← go]; simp [c1, c2, c3, c4]), (Fr.refl hk).alloc _⟩
  | true =>
  cases c5 : inP c 0 500 with
  | false =>
    simp (maxDischargeDepth := 30) only [AMS, AMH, ↓reduceIte, Nat.reduceLT, Nat.reduceEqDiff, Nat.reduceAdd, Nat.reduceMul, reduceCtorEq, decide_true, decide_false, Nat.reduceLeDiff, Int.reduceNe, Int.reduceEq, ne_eq, not_false_eq_true, and_self, F88_Am41, hk, in_104, c1, c2, c3, c4, c5]
    exact ⟨by first | (rw [← go]; simp only [c1, c2, c3, c4, c5, Bool.true_and, Bool.false_and, Bool.not_true, Bool.not_false, Bool.and_false, Bool.and_true]) | (rw [← go]; simp [c1, c2, c3, c4, c5]), (Fr.refl hk).alloc _⟩
  | true =>
  simp (maxDischargeDepth := 30) only [AMS, AMH, ↓reduceIte, Nat.reduceLT, Nat.reduceEqDiff, Nat.reduceAdd, Nat.reduceMul, reduceCtorEq, decide_true, decide_false, Nat.reduceLeDiff, Int.reduceNe, Int.reduceEq, ne_eq, not_false_eq_true, and_self, F88_Am41, hk, in_104, c1, c2, c3, c4, c5]
  exact ⟨by first | (rw [← go]; simp only [c1, c2, c3, c4, c5, Bool.true_and, Bool.false_and, Bool.not_true, Bool.not_false, Bool.and_false, Bool.and_true]) | (rw [← go]; simp [c1, c2, c3, c4, c5]), (Fr.refl hk).alloc _⟩
theorem Tar.ok_eq' (k c u r : Int) (e : Bool) : (decide (k ≥ 1) && (decide (k ≤ 4) && (inP c 0 500 && (inP u 1 12 && (decide (r ≥ 1) && decide (r ≤ 4)))))) = Tar.ok ⟨k, c, u, r, e⟩ := by
  simp only [Tar.ok, inP]
  rw [Bool.eq_iff_iff]
  simp
  omega
theorem fine_77 (t : Tar) (h : Heap) (hk : HOK h) : CW CC 77 [.agg ⟨t.cells⟩] h fun v h' => v = .bool t.ok ∧ Fr h h' := by
  obtain ⟨k, c, u, r, e⟩ := t
  refine CW_in Tryz.f77 (by kernel_rfl) (by kernel_rfl) rfl rfl ?_
  simp only [Tryz.f77, Tar.cells]
  have go := Tar.ok_eq' k c u r e
  cases c1 : decide (k ≥ 1) with
  | false =>
    simp (maxDischargeDepth := 30) only [AMS, AMH, ↓reduceIte, Nat.reduceLT, Nat.reduceEqDiff, Nat.reduceAdd, Nat.reduceMul, reduceCtorEq, decide_true, decide_false, Nat.reduceLeDiff, Int.reduceNe, Int.reduceEq, ne_eq, not_false_eq_true, and_self, F77_Am41, hk, in_76, c1]
    exact ⟨by first | (rw [← go]; simp only [c1, Bool.true_and, Bool.false_and, Bool.not_true, Bool.not_false, Bool.and_false, Bool.and_true]) | (rw [← go]; simp [c1]), (Fr.refl hk).alloc _⟩
  | true =>
  cases c2 : decide (k ≤ 4) with
  | false =>
    simp (maxDischargeDepth := 30) only [AMS, AMH, ↓reduceIte, Nat.reduceLT, Nat.reduceEqDiff, Nat.reduceAdd, Nat.reduceMul, reduceCtorEq, decide_true, decide_false, Nat.reduceLeDiff, Int.reduceNe, Int.reduceEq, ne_eq, not_false_eq_true, and_self, F77_Am41, hk, in_76, c1, c2]
    exact ⟨by first | (rw [← go]; simp only [c1, c2, Bool.true_and, Bool.false_and, Bool.not_true, Bool.not_false, Bool.and_false, Bool.and_true]) | (rw [← go]; simp [c1, c2]), (Fr.refl hk).alloc _⟩
  | true =>
  cases c3 : inP c 0 500 with
  | false =>
    simp (maxDischargeDepth := 30) only [AMS, AMH, ↓reduceIte, Nat.reduceLT, Nat.reduceEqDiff, Nat.reduceAdd, Nat.reduceMul, reduceCtorEq, decide_true, decide_false, Nat.reduceLeDiff, Int.reduceNe, Int.reduceEq, ne_eq, not_false_eq_true, and_self, F77_Am41, hk, in_76, c1, c2, c3]
    exact ⟨by first | (rw [← go]; simp only [c1, c2, c3, Bool.true_and, Bool.false_and, Bool.not_true, Bool.not_false, Bool.and_false, Bool.and_true]) | (rw [← go]; simp [c1, c2, c3]), (Fr.refl hk).alloc _⟩
  | true =>
  cases c4 : inP u 1 12 with
  | false =>
    simp (maxDischargeDepth := 30) only [AMS, AMH, ↓reduceIte, Nat.reduceLT, Nat.reduceEqDiff, Nat.reduceAdd, Nat.reduceMul, reduceCtorEq, decide_true, decide_false, Nat.reduceLeDiff, Int.reduceNe, Int.reduceEq, ne_eq, not_false_eq_true, and_self, F77_Am41, hk, in_76, c1, c2, c3, c4]
    exact ⟨by first | (rw [← go]; simp only [c1, c2, c3, c4, Bool.true_and, Bool.false_and, Bool.not_true, Bool.not_false, Bool.and_false, Bool.and_true]) | (rw [← go]; simp [c1, c2, c3, c4]), (Fr.refl hk).alloc _⟩
  | true =>
  cases c5 : decide (r ≥ 1) with
  | false =>
    simp (maxDischargeDepth := 30) only [AMS, AMH, ↓reduceIte, Nat.reduceLT, Nat.reduceEqDiff, Nat.reduceAdd, Nat.reduceMul, reduceCtorEq, decide_true, decide_false, Nat.reduceLeDiff, Int.reduceNe, Int.reduceEq, ne_eq, not_false_eq_true, and_self, F77_Am41, hk, in_76, c1, c2, c3, c4, c5]
    exact ⟨by first | (rw [← go]; simp only [c1, c2, c3, c4, c5, Bool.true_and, Bool.false_and, Bool.not_true, Bool.not_false, Bool.and_false, Bool.and_true]) | (rw [← go]; simp [c1, c2, c3, c4, c5]), (Fr.refl hk).alloc _⟩
  | true =>
  simp (maxDischargeDepth := 30) only [AMS, AMH, ↓reduceIte, Nat.reduceLT, Nat.reduceEqDiff, Nat.reduceAdd, Nat.reduceMul, reduceCtorEq, decide_true, decide_false, Nat.reduceLeDiff, Int.reduceNe, Int.reduceEq, ne_eq, not_false_eq_true, and_self, F77_Am41, hk, in_76, c1, c2, c3, c4, c5]
  exact ⟨by first | (rw [← go]; simp only [c1, c2, c3, c4, c5, Bool.true_and, Bool.false_and, Bool.not_true, Bool.not_false, Bool.and_false, Bool.and_true]) | (rw [← go]; simp [c1, c2, c3, c4, c5]), (Fr.refl hk).alloc _⟩

def Board.ok (m : Nat) (b : Board) : Bool := decide (0 ≤ b.L ∧ b.L ≤ 60 ∧ 0 ≤ b.F ∧ b.F ≤ 40 ∧ 0 ≤ b.lo ∧ b.lo ≤ 40 ∧ b.lo ≤ b.hi ∧ b.hi ≤ 40 ∧ b.hi - b.lo ≤ 6 ∧ 0 ≤ b.ow ∧ b.ow ≤ m - 1)
theorem Board.ok_eq (L F lo hi ow : Int) (n : Nat) : (inP L 0 60 && (inP F 0 40 && (inP lo 0 40 && (inP hi lo 40 && (decide (hi - lo ≤ 6) && inP ow 0 (n - 1)))))) = Board.ok n ⟨L, F, lo, hi, ow⟩ := by
  simp only [Board.ok, inP]
  rw [Bool.eq_iff_iff]
  simp
  omega
theorem isBoard_116 (p q r : Option Addr) (a b c d e f : Nat) (x : Board) (h : Heap) (hk : HOK h) (ha : a ≤ 100) : CW CC 116 [.agg ⟨[.slice p a b, .slice q c d, .slice r e f]⟩, .agg ⟨x.cells⟩] h fun v h' => v = .bool (x.ok a) ∧ Fr h h' := by
  obtain ⟨L, F, lo, hi, ow⟩ := x
  refine CW_in Tryz.f116 (by kernel_rfl) (by kernel_rfl) rfl rfl ?_
  simp only [Tryz.f116, Board.cells]
  have go := Board.ok_eq L F lo hi ow a
  have w2 : IntKind.i64.wrap ((a : Int) - 1) = a - 1 := wrap64 (by omega) (by omega)
  cases c1 : inP L 0 60 with
  | false =>
    simp (maxDischargeDepth := 30) only [AMS, AMH, ↓reduceIte, Nat.reduceLT, Nat.reduceEqDiff, Nat.reduceAdd, Nat.reduceMul, reduceCtorEq, decide_true, decide_false, Nat.reduceLeDiff, Int.reduceNe, Int.reduceEq, ne_eq, not_false_eq_true, and_self, F116_Am41, hk, in_104, w2, c1]
    exact ⟨by first | (rw [← go]; simp only [c1, Bool.true_and, Bool.false_and, Bool.not_true, Bool.not_false, Bool.and_false, Bool.and_true]) | (rw [← go]; simp [c1]), (Fr.refl hk).alloc _ |>.alloc _⟩
  | true =>
  cases c2 : inP F 0 40 with
  | false =>
    simp (maxDischargeDepth := 30) only [AMS, AMH, ↓reduceIte, Nat.reduceLT, Nat.reduceEqDiff, Nat.reduceAdd, Nat.reduceMul, reduceCtorEq, decide_true, decide_false, Nat.reduceLeDiff, Int.reduceNe, Int.reduceEq, ne_eq, not_false_eq_true, and_self, F116_Am41, hk, in_104, w2, c1, c2]
    exact ⟨by first | (rw [← go]; simp only [c1, c2, Bool.true_and, Bool.false_and, Bool.not_true, Bool.not_false, Bool.and_false, Bool.and_true]) | (rw [← go]; simp [c1, c2]), (Fr.refl hk).alloc _ |>.alloc _⟩
  | true =>
  cases c3 : inP lo 0 40 with
  | false =>
    simp (maxDischargeDepth := 30) only [AMS, AMH, ↓reduceIte, Nat.reduceLT, Nat.reduceEqDiff, Nat.reduceAdd, Nat.reduceMul, reduceCtorEq, decide_true, decide_false, Nat.reduceLeDiff, Int.reduceNe, Int.reduceEq, ne_eq, not_false_eq_true, and_self, F116_Am41, hk, in_104, w2, c1, c2, c3]
    exact ⟨by first | (rw [← go]; simp only [c1, c2, c3, Bool.true_and, Bool.false_and, Bool.not_true, Bool.not_false, Bool.and_false, Bool.and_true]) | (rw [← go]; simp [c1, c2, c3]), (Fr.refl hk).alloc _ |>.alloc _⟩
  | true =>
  cases c4 : inP hi lo 40 with
  | false =>
    simp (maxDischargeDepth := 30) only [AMS, AMH, ↓reduceIte, Nat.reduceLT, Nat.reduceEqDiff, Nat.reduceAdd, Nat.reduceMul, reduceCtorEq, decide_true, decide_false, Nat.reduceLeDiff, Int.reduceNe, Int.reduceEq, ne_eq, not_false_eq_true, and_self, F116_Am41, hk, in_104, w2, c1, c2, c3, c4]
    exact ⟨by first | (rw [← go]; simp only [c1, c2, c3, c4, Bool.true_and, Bool.false_and, Bool.not_true, Bool.not_false, Bool.and_false, Bool.and_true]) | (rw [← go]; simp [c1, c2, c3, c4]), (Fr.refl hk).alloc _ |>.alloc _⟩
  | true =>
  have := of_decide_eq_true c3
  have := of_decide_eq_true c4
  have w1 : IntKind.i64.wrap (hi - lo) = hi - lo := wrap64 (by omega) (by omega)
  cases c5 : decide (hi - lo ≤ 6) with
  | false =>
    simp (maxDischargeDepth := 30) only [AMS, AMH, ↓reduceIte, Nat.reduceLT, Nat.reduceEqDiff, Nat.reduceAdd, Nat.reduceMul, reduceCtorEq, decide_true, decide_false, Nat.reduceLeDiff, Int.reduceNe, Int.reduceEq, ne_eq, not_false_eq_true, and_self, F116_Am41, hk, in_104, w2, w1, c1, c2, c3, c4, c5]
    exact ⟨by first | (rw [← go]; simp only [c1, c2, c3, c4, c5, Bool.true_and, Bool.false_and, Bool.not_true, Bool.not_false, Bool.and_false, Bool.and_true]) | (rw [← go]; simp [c1, c2, c3, c4, c5]), (Fr.refl hk).alloc _ |>.alloc _⟩
  | true =>
  simp (maxDischargeDepth := 30) only [AMS, AMH, ↓reduceIte, Nat.reduceLT, Nat.reduceEqDiff, Nat.reduceAdd, Nat.reduceMul, reduceCtorEq, decide_true, decide_false, Nat.reduceLeDiff, Int.reduceNe, Int.reduceEq, ne_eq, not_false_eq_true, and_self, F116_Am41, hk, in_104, w2, w1, c1, c2, c3, c4, c5]
  exact ⟨by first | (rw [← go]; simp only [c1, c2, c3, c4, c5, Bool.true_and, Bool.false_and, Bool.not_true, Bool.not_false, Bool.and_false, Bool.and_true]) | (rw [← go]; simp [c1, c2, c3, c4, c5]), (Fr.refl hk).alloc _ |>.alloc _⟩
end Go.Am

/- The abstract machine, part 42: contracts: sums. -/
namespace Go.Am
open Go Go.Proofs
theorem LS.open {α : Type} {h : Heap} {v : Value} {xs : List α} {f : α → List Value} {s : Nat} (q : LS h v xs f s) :
    ∃ p c, v = .slice p xs.length c ∧ (xs = [] ∨ ∃ b o sp row, p = some ⟨b, o, sp⟩ ∧ rowAt h b = some row ∧ ∀ (i : Nat) x, xs[i]? = some x → take? row (o + i * s) s = some (f x) ∧ ∀ j, j < s → row[o + i * s + j]? = (f x)[j]?) := by
  rcases q with ⟨rfl, p, c, rfl⟩ | ⟨b, o, sp, c, row, rfl, h1, h2⟩
  · exact ⟨p, c, rfl, .inl rfl⟩
  · exact ⟨_, c, rfl, .inr ⟨b, o, sp, row, rfl, h1, h2⟩⟩

end Go.Am

/- The abstract machine, part 43: contracts: hours. -/
namespace Go.Am
open Go Go.Proofs
end Go.Am

/- The abstract machine, part 44: contracts: hours, as the program has them. -/
namespace Go.Am
open Go Go.Proofs
end Go.Am
