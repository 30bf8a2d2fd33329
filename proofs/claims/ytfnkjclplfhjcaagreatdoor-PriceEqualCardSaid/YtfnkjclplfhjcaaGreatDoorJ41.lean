/- Parts 41, 42, 43, 44 of the abstract machine over this program, joined: what each part says stands at its head. -/
import Derived.Test.YtfnkjclplfhjcaaGreatDoorJ39
set_option linter.unusedSimpArgs false
set_option linter.unusedVariables false
/- The abstract machine, part 41: contracts: checks of ranges and lengths. -/
namespace Go.Am
open Go Go.Proofs

theorem in_104 (x lo hi : Int) (h : Heap) : callF CC (Lim CC) 104 [.int .i64 x, .int .i64 lo, .int .i64 hi] h = some (.ret (.bool (inP x lo hi)) h none) := by
  refine CW.eq (CW_in Tryz.f104 (by kernel_rfl) (by kernel_rfl) rfl rfl ?_)
  simp only [Tryz.f104]
  by_cases h1 : x ≥ lo
  · simp (maxDischargeDepth := 30) only [AMS, AMH, ↓reduceIte, Nat.reduceLT, Nat.reduceEqDiff, Nat.reduceAdd, Nat.reduceMul, reduceCtorEq, decide_true, decide_false, Nat.reduceLeDiff, Int.reduceNe, Int.reduceEq, ne_eq, not_false_eq_true, and_self, h1]
    simp [inP, show lo ≤ x from h1]
  · simp (maxDischargeDepth := 30) only [AMS, AMH, ↓reduceIte, Nat.reduceLT, Nat.reduceEqDiff, Nat.reduceAdd, Nat.reduceMul, reduceCtorEq, decide_true, decide_false, Nat.reduceLeDiff, Int.reduceNe, Int.reduceEq, ne_eq, not_false_eq_true, and_self, h1]
    simp [inP, show ¬ lo ≤ x from h1]
theorem in_76 (x lo hi : Int) (h : Heap) : callF CC (Lim CC) 76 [.int .i64 x, .int .i64 lo, .int .i64 hi] h = some (.ret (.bool (inP x lo hi)) h none) := by
  refine CW.eq (CW_in Tryz.f76 (by kernel_rfl) (by kernel_rfl) rfl rfl ?_)
  simp only [Tryz.f76]
  by_cases h1 : x ≥ lo
  · simp (maxDischargeDepth := 30) only [AMS, AMH, ↓reduceIte, Nat.reduceLT, Nat.reduceEqDiff, Nat.reduceAdd, Nat.reduceMul, reduceCtorEq, decide_true, decide_false, Nat.reduceLeDiff, Int.reduceNe, Int.reduceEq, ne_eq, not_false_eq_true, and_self, h1]
    simp [inP, show lo ≤ x from h1]
  · simp (maxDischargeDepth := 30) only [AMS, AMH, ↓reduceIte, Nat.reduceLT, Nat.reduceEqDiff, Nat.reduceAdd, Nat.reduceMul, reduceCtorEq, decide_true, decide_false, Nat.reduceLeDiff, Int.reduceNe, Int.reduceEq, ne_eq, not_false_eq_true, and_self, h1]
    simp [inP, show ¬ lo ≤ x from h1]

theorem slim_29 (p : Option Addr) (n c : Nat) (h : Heap) : callF CC (Lim CC) 29 [.slice p n c] h = some (.ret (.bool (decide ((n : Int) ≤ 7))) h none) := by
  refine CW.eq (CW_in Tryz.f29 (by kernel_rfl) (by kernel_rfl) rfl rfl ?_)
  simp only [Tryz.f29]
  simp (maxDischargeDepth := 30) only [AMS, AMH, ↓reduceIte, Nat.reduceLT, Nat.reduceEqDiff, Nat.reduceAdd, Nat.reduceMul, reduceCtorEq, decide_true, decide_false, Nat.reduceLeDiff, Int.reduceNe, Int.reduceEq, ne_eq, not_false_eq_true, and_self, len_22]
  all_goals simp

theorem short_28 (p q r : Option Addr) (a b c d e f : Nat) (h : Heap) (hk : HOK h) : CW CC 28 [.agg ⟨[.slice p a b, .slice q c d, .slice r e f]⟩] h fun v h' => v = .bool (decide ((a : Int) ≤ 5 ∧ (c : Int) ≤ 6 ∧ (e : Int) ≤ 5)) ∧ Fr h h' := by
  refine CW_in Tryz.f28 (by kernel_rfl) (by kernel_rfl) rfl rfl ?_
  simp only [Tryz.f28]
  by_cases h1 : ((a : Int) ≤ 5)
  · by_cases h2 : ((c : Int) ≤ 6)
    · simp (maxDischargeDepth := 30) only [AMS, AMH, ↓reduceIte, Nat.reduceLT, Nat.reduceEqDiff, Nat.reduceAdd, Nat.reduceMul, reduceCtorEq, decide_true, decide_false, Nat.reduceLeDiff, Int.reduceNe, Int.reduceEq, ne_eq, not_false_eq_true, and_self, fp_26_0, fp_26_1, fp_26_2, ld_22, ld_23, ld_24, len_22, len_23, len_24, hk, h1, h2]
      exact ⟨by simp, (Fr.refl hk).alloc _⟩
    · simp (maxDischargeDepth := 30) only [AMS, AMH, ↓reduceIte, Nat.reduceLT, Nat.reduceEqDiff, Nat.reduceAdd, Nat.reduceMul, reduceCtorEq, decide_true, decide_false, Nat.reduceLeDiff, Int.reduceNe, Int.reduceEq, ne_eq, not_false_eq_true, and_self, fp_26_0, fp_26_1, fp_26_2, ld_22, ld_23, ld_24, len_22, len_23, len_24, hk, h1, h2]
      exact ⟨by simp, (Fr.refl hk).alloc _⟩
  · simp (maxDischargeDepth := 30) only [AMS, AMH, ↓reduceIte, Nat.reduceLT, Nat.reduceEqDiff, Nat.reduceAdd, Nat.reduceMul, reduceCtorEq, decide_true, decide_false, Nat.reduceLeDiff, Int.reduceNe, Int.reduceEq, ne_eq, not_false_eq_true, and_self, fp_26_0, fp_26_1, fp_26_2, ld_22, ld_23, ld_24, len_22, len_23, len_24, hk, h1]
    exact ⟨by simp, (Fr.refl hk).alloc _⟩

theorem tariff_33 (p q r : Option Addr) (a b c d e f : Nat) (x : Int) (h : Heap) (hk : HOK h) (he : e ≤ 100) : CW CC 33 [.agg ⟨[.slice p a b, .slice q c d, .slice r e f]⟩, .int .i64 x] h fun v h' => v = .bool (inP x 0 (e - 1)) ∧ Fr h h' := by
  refine CW_in Tryz.f33 (by kernel_rfl) (by kernel_rfl) rfl rfl ?_
  simp only [Tryz.f33]
  simp (maxDischargeDepth := 30) only [AMS, AMH, ↓reduceIte, Nat.reduceLT, Nat.reduceEqDiff, Nat.reduceAdd, Nat.reduceMul, reduceCtorEq, decide_true, decide_false, Nat.reduceLeDiff, Int.reduceNe, Int.reduceEq, ne_eq, not_false_eq_true, and_self, fp_26_2, ld_24, len_24, hk, wrap64 (n := (e : Int) - 1) (by omega) (by omega), in_76]
  exact ⟨trivial, (Fr.refl hk).alloc _⟩

def Tar.ok (t : Tar) : Bool := decide (1 ≤ t.kind ∧ t.kind ≤ 4 ∧ 1 ≤ t.rule ∧ t.rule ≤ 4 ∧ 0 ≤ t.coins ∧ t.coins ≤ 500 ∧ 1 ≤ t.units ∧ t.units ≤ 12)

theorem Tar.ok_eq (k c u r : Int) (e : Bool) : (decide (k ≥ 1) && (decide (k ≤ 4) && (decide (r ≥ 1) && (decide (r ≤ 4) && (inP c 0 500 && inP u 1 12))))) = Tar.ok ⟨k, c, u, r, e⟩ := by
  simp only [Tar.ok, inP]
  rw [Bool.eq_iff_iff]
  simp
  omega
theorem isTariff_88 (t : Tar) (h : Heap) (hk : HOK h) : CW CC 88 [.agg ⟨t.cells⟩] h fun v h' => v = .bool t.ok ∧ Fr h h' := by
  obtain ⟨k, c, u, r, e⟩ := t
  refine CW_in Tryz.f88 (by kernel_rfl) (by kernel_rfl) rfl rfl ?_
  simp only [Tryz.f88, Tar.cells]
  have go := Tar.ok_eq k c u r e
  cases c1 : decide (k ≥ 1) with
  | false =>
    simp (maxDischargeDepth := 30) only [AMS, AMH, ↓reduceIte, Nat.reduceLT, Nat.reduceEqDiff, Nat.reduceAdd, Nat.reduceMul, reduceCtorEq, decide_true, decide_false, Nat.reduceLeDiff, Int.reduceNe, Int.reduceEq, ne_eq, not_false_eq_true, and_self, fp_41_0, fp_41_1, fp_41_2, fp_41_3, ld_3, ld_38, ld_39, hk, in_104, c1]
    exact ⟨by first | (rw [← go]; simp only [c1, Bool.true_and, Bool.false_and, Bool.not_true, Bool.not_false, Bool.and_false, Bool.and_true]) | (rw [← go]; simp [c1]), (Fr.refl hk).alloc _⟩
  | true =>
  cases c2 : decide (k ≤ 4) with
  | false =>
    simp (maxDischargeDepth := 30) only [AMS, AMH, ↓reduceIte, Nat.reduceLT, Nat.reduceEqDiff, Nat.reduceAdd, Nat.reduceMul, reduceCtorEq, decide_true, decide_false, Nat.reduceLeDiff, Int.reduceNe, Int.reduceEq, ne_eq, not_false_eq_true, and_self, fp_41_0, fp_41_1, fp_41_2, fp_41_3, ld_3, ld_38, ld_39, hk, in_104, c1, c2]
    exact ⟨by first | (rw [← go]; simp only [c1, c2, Bool.true_and, Bool.false_and, Bool.not_true, Bool.not_false, Bool.and_false, Bool.and_true]) | (rw [← go]; simp [c1, c2]), (Fr.refl hk).alloc _⟩
  | true =>
  cases c3 : decide (r ≥ 1) with
  | false =>
    simp (maxDischargeDepth := 30) only [AMS, AMH, ↓reduceIte, Nat.reduceLT, Nat.reduceEqDiff, Nat.reduceAdd, Nat.reduceMul, reduceCtorEq, decide_true, decide_false, Nat.reduceLeDiff, Int.reduceNe, Int.reduceEq, ne_eq, not_false_eq_true, and_self, fp_41_0, fp_41_1, fp_41_2, fp_41_3, ld_3, ld_38, ld_39, hk, in_104, c1, c2, c3]
    exact ⟨by first | (rw [← go]; simp only [c1, c2, c3, Bool.true_and, Bool.false_and, Bool.not_true, Bool.not_false, Bool.and_false, Bool.and_true]) | (rw [← go]; simp [c1, c2, c3]), (Fr.refl hk).alloc _⟩
  | true =>
  cases c4 : decide (r ≤ 4) with
  | false =>
    simp (maxDischargeDepth := 30) only [AMS, AMH, ↓reduceIte, Nat.reduceLT, Nat.reduceEqDiff, Nat.reduceAdd, Nat.reduceMul, reduceCtorEq, decide_true, decide_false, Nat.reduceLeDiff, Int.reduceNe, Int.reduceEq, ne_eq, not_false_eq_true, and_self, fp_41_0, fp_41_1, fp_41_2, fp_41_3, ld_3, ld_38, ld_39, hk, in_104, c1, c2, c3, c4]
    exact ⟨by first | (rw [← go]; simp only [c1, c2, c3, c4, Bool.true_and, Bool.false_and, Bool.not_true, Bool.not_false, Bool.and_false, Bool.and_true]) | (rw [← go]; simp [c1, c2, c3, c4]), (Fr.refl hk).alloc _⟩
  | true =>
  cases c5 : inP c 0 500 with
  | false =>
    simp (maxDischargeDepth := 30) only [AMS, AMH, ↓reduceIte, Nat.reduceLT, Nat.reduceEqDiff, Nat.reduceAdd, Nat.reduceMul, reduceCtorEq, decide_true, decide_false, Nat.reduceLeDiff, Int.reduceNe, Int.reduceEq, ne_eq, not_false_eq_true, and_self, fp_41_0, fp_41_1, fp_41_2, fp_41_3, ld_3, ld_38, ld_39, hk, in_104, c1, c2, c3, c4, c5]
    exact ⟨by first | (rw [← go]; simp only [c1, c2, c3, c4, c5, Bool.true_and, Bool.false_and, Bool.not_true, Bool.not_false, Bool.and_false, Bool.and_true]) | (rw [← go]; simp [c1, c2, c3, c4, c5]), (Fr.refl hk).alloc _⟩
  | true =>
  simp (maxDischargeDepth := 30) only [AMS, AMH, ↓reduceIte, Nat.reduceLT, Nat.reduceEqDiff, Nat.reduceAdd, Nat.reduceMul, reduceCtorEq, decide_true, decide_false, Nat.reduceLeDiff, Int.reduceNe, Int.reduceEq, ne_eq, not_false_eq_true, and_self, fp_41_0, fp_41_1, fp_41_2, fp_41_3, ld_3, ld_38, ld_39, hk, in_104, c1, c2, c3, c4, c5]
  exact ⟨by first | (rw [← go]; simp only [c1, c2, c3, c4, c5, Bool.true_and, Bool.false_and, Bool.not_true, Bool.not_false, Bool.and_false, Bool.and_true]) | (rw [← go]; simp [c1, c2, c3, c4, c5]), (Fr.refl hk).alloc _⟩
theorem Tar.ok_eq' (k c u r : Int) (e : Bool) : (decide (k ≥ 1) && (decide (k ≤ 4) && (inP c 0 500 && (inP u 1 12 && (decide (r ≥ 1) && decide (r ≤ 4)))))) = Tar.ok ⟨k, c, u, r, e⟩ := by
  simp only [Tar.ok, inP]
  rw [Bool.eq_iff_iff]
  simp
  omega
theorem fine_77 (t : Tar) (h : Heap) (hk : HOK h) : CW CC 77 [.agg ⟨t.cells⟩] h fun v h' => v = .bool t.ok ∧ Fr h h' := by
  obtain ⟨k, c, u, r, e⟩ := t
  refine CW_in Tryz.f77 (by kernel_rfl) (by kernel_rfl) rfl rfl ?_
  simp only [Tryz.f77, Tar.cells]
  have go := Tar.ok_eq' k c u r e
  cases c1 : decide (k ≥ 1) with
  | false =>
    simp (maxDischargeDepth := 30) only [AMS, AMH, ↓reduceIte, Nat.reduceLT, Nat.reduceEqDiff, Nat.reduceAdd, Nat.reduceMul, reduceCtorEq, decide_true, decide_false, Nat.reduceLeDiff, Int.reduceNe, Int.reduceEq, ne_eq, not_false_eq_true, and_self, fp_41_0, fp_41_1, fp_41_2, fp_41_3, ld_3, ld_38, ld_39, hk, in_76, c1]
    exact ⟨by first | (rw [← go]; simp only [c1, Bool.true_and, Bool.false_and, Bool.not_true, Bool.not_false, Bool.and_false, Bool.and_true]) | (rw [← go]; simp [c1]), (Fr.refl hk).alloc _⟩
  | true =>
  cases c2 : decide (k ≤ 4) with
  | false =>
    simp (maxDischargeDepth := 30) only [AMS, AMH, ↓reduceIte, Nat.reduceLT, Nat.reduceEqDiff, Nat.reduceAdd, Nat.reduceMul, reduceCtorEq, decide_true, decide_false, Nat.reduceLeDiff, Int.reduceNe, Int.reduceEq, ne_eq, not_false_eq_true, and_self, fp_41_0, fp_41_1, fp_41_2, fp_41_3, ld_3, ld_38, ld_39, hk, in_76, c1, c2]
    exact ⟨by first | (rw [← go]; simp only [c1, c2, Bool.true_and, Bool.false_and, Bool.not_true, Bool.not_false, Bool.and_false, Bool.and_true]) | (rw [← go]; simp [c1, c2]), (Fr.refl hk).alloc _⟩
  | true =>
  cases c3 : inP c 0 500 with
  | false =>
    simp (maxDischargeDepth := 30) only [AMS, AMH, ↓reduceIte, Nat.reduceLT, Nat.reduceEqDiff, Nat.reduceAdd, Nat.reduceMul, reduceCtorEq, decide_true, decide_false, Nat.reduceLeDiff, Int.reduceNe, Int.reduceEq, ne_eq, not_false_eq_true, and_self, fp_41_0, fp_41_1, fp_41_2, fp_41_3, ld_3, ld_38, ld_39, hk, in_76, c1, c2, c3]
    exact ⟨by first | (rw [← go]; simp only [c1, c2, c3, Bool.true_and, Bool.false_and, Bool.not_true, Bool.not_false, Bool.and_false, Bool.and_true]) | (rw [← go]; simp [c1, c2, c3]), (Fr.refl hk).alloc _⟩
  | true =>
  cases c4 : inP u 1 12 with
  | false =>
    simp (maxDischargeDepth := 30) only [AMS, AMH, ↓reduceIte, Nat.reduceLT, Nat.reduceEqDiff, Nat.reduceAdd, Nat.reduceMul, reduceCtorEq, decide_true, decide_false, Nat.reduceLeDiff, Int.reduceNe, Int.reduceEq, ne_eq, not_false_eq_true, and_self, fp_41_0, fp_41_1, fp_41_2, fp_41_3, ld_3, ld_38, ld_39, hk, in_76, c1, c2, c3, c4]
    exact ⟨by first | (rw [← go]; simp only [c1, c2, c3, c4, Bool.true_and, Bool.false_and, Bool.not_true, Bool.not_false, Bool.and_false, Bool.and_true]) | (rw [← go]; simp [c1, c2, c3, c4]), (Fr.refl hk).alloc _⟩
  | true =>
  cases c5 : decide (r ≥ 1) with
  | false =>
    simp (maxDischargeDepth := 30) only [AMS, AMH, ↓reduceIte, Nat.reduceLT, Nat.reduceEqDiff, Nat.reduceAdd, Nat.reduceMul, reduceCtorEq, decide_true, decide_false, Nat.reduceLeDiff, Int.reduceNe, Int.reduceEq, ne_eq, not_false_eq_true, and_self, fp_41_0, fp_41_1, fp_41_2, fp_41_3, ld_3, ld_38, ld_39, hk, in_76, c1, c2, c3, c4, c5]
    exact ⟨by first | (rw [← go]; simp only [c1, c2, c3, c4, c5, Bool.true_and, Bool.false_and, Bool.not_true, Bool.not_false, Bool.and_false, Bool.and_true]) | (rw [← go]; simp [c1, c2, c3, c4, c5]), (Fr.refl hk).alloc _⟩
  | true =>
  simp (maxDischargeDepth := 30) only [AMS, AMH, ↓reduceIte, Nat.reduceLT, Nat.reduceEqDiff, Nat.reduceAdd, Nat.reduceMul, reduceCtorEq, decide_true, decide_false, Nat.reduceLeDiff, Int.reduceNe, Int.reduceEq, ne_eq, not_false_eq_true, and_self, fp_41_0, fp_41_1, fp_41_2, fp_41_3, ld_3, ld_38, ld_39, hk, in_76, c1, c2, c3, c4, c5]
  exact ⟨by first | (rw [← go]; simp only [c1, c2, c3, c4, c5, Bool.true_and, Bool.false_and, Bool.not_true, Bool.not_false, Bool.and_false, Bool.and_true]) | (rw [← go]; simp [c1, c2, c3, c4, c5]), (Fr.refl hk).alloc _⟩

def Board.ok (m : Nat) (b : Board) : Bool := decide (0 ≤ b.L ∧ b.L ≤ 60 ∧ 0 ≤ b.F ∧ b.F ≤ 40 ∧ 0 ≤ b.lo ∧ b.lo ≤ 40 ∧ b.lo ≤ b.hi ∧ b.hi ≤ 40 ∧ b.hi - b.lo ≤ 6 ∧ 0 ≤ b.ow ∧ b.ow ≤ m - 1)
theorem Board.ok_eq (L F lo hi ow : Int) (n : Nat) : (inP L 0 60 && (inP F 0 40 && (inP lo 0 40 && (inP hi lo 40 && (decide (hi - lo ≤ 6) && inP ow 0 (n - 1)))))) = Board.ok n ⟨L, F, lo, hi, ow⟩ := by
  simp only [Board.ok, inP]
  rw [Bool.eq_iff_iff]
  simp
  omega
theorem isBoard_116 (p q r : Option Addr) (a b c d e f : Nat) (x : Board) (h : Heap) (hk : HOK h) (ha : a ≤ 100) : CW CC 116 [.agg ⟨[.slice p a b, .slice q c d, .slice r e f]⟩, .agg ⟨x.cells⟩] h fun v h' => v = .bool (x.ok a) ∧ Fr h h' := by
  obtain ⟨L, F, lo, hi, ow⟩ := x
  refine CW_in Tryz.f116 (by kernel_rfl) (by kernel_rfl) rfl rfl ?_
  simp only [Tryz.f116, Board.cells]
  have go := Board.ok_eq L F lo hi ow a
  have w2 : IntKind.i64.wrap ((a : Int) - 1) = a - 1 := wrap64 (by omega) (by omega)
  cases c1 : inP L 0 60 with
  | false =>
    simp (maxDischargeDepth := 30) only [AMS, AMH, ↓reduceIte, Nat.reduceLT, Nat.reduceEqDiff, Nat.reduceAdd, Nat.reduceMul, reduceCtorEq, decide_true, decide_false, Nat.reduceLeDiff, Int.reduceNe, Int.reduceEq, ne_eq, not_false_eq_true, and_self, fp_26_0, fp_30_0, fp_30_1, fp_72_0, fp_72_1, fp_72_2, fp_72_3, ld_22, ld_3, len_22, hk, in_104, w2, c1]
    exact ⟨by first | (rw [← go]; simp only [c1, Bool.true_and, Bool.false_and, Bool.not_true, Bool.not_false, Bool.and_false, Bool.and_true]) | (rw [← go]; simp [c1]), (Fr.refl hk).alloc _ |>.alloc _⟩
  | true =>
  cases c2 : inP F 0 40 with
  | false =>
    simp (maxDischargeDepth := 30) only [AMS, AMH, ↓reduceIte, Nat.reduceLT, Nat.reduceEqDiff, Nat.reduceAdd, Nat.reduceMul, reduceCtorEq, decide_true, decide_false, Nat.reduceLeDiff, Int.reduceNe, Int.reduceEq, ne_eq, not_false_eq_true, and_self, fp_26_0, fp_30_0, fp_30_1, fp_72_0, fp_72_1, fp_72_2, fp_72_3, ld_22, ld_3, len_22, hk, in_104, w2, c1, c2]
    exact ⟨by first | (rw [← go]; simp only [c1, c2, Bool.true_and, Bool.false_and, Bool.not_true, Bool.not_false, Bool.and_false, Bool.and_true]) | (rw [← go]; simp [c1, c2]), (Fr.refl hk).alloc _ |>.alloc _⟩
  | true =>
  cases c3 : inP lo 0 40 with
  | false =>
    simp (maxDischargeDepth := 30) only [AMS, AMH, ↓reduceIte, Nat.reduceLT, Nat.reduceEqDiff, Nat.reduceAdd, Nat.reduceMul, reduceCtorEq, decide_true, decide_false, Nat.reduceLeDiff, Int.reduceNe, Int.reduceEq, ne_eq, not_false_eq_true, and_self, fp_26_0, fp_30_0, fp_30_1, fp_72_0, fp_72_1, fp_72_2, fp_72_3, ld_22, ld_3, len_22, hk, in_104, w2, c1, c2, c3]
    exact ⟨by first | (rw [← go]; simp only [c1, c2, c3, Bool.true_and, Bool.false_and, Bool.not_true, Bool.not_false, Bool.and_false, Bool.and_true]) | (rw [← go]; simp [c1, c2, c3]), (Fr.refl hk).alloc _ |>.alloc _⟩
  | true =>
  cases c4 : inP hi lo 40 with
  | false =>
    simp (maxDischargeDepth := 30) only [AMS, AMH, ↓reduceIte, Nat.reduceLT, Nat.reduceEqDiff, Nat.reduceAdd, Nat.reduceMul, reduceCtorEq, decide_true, decide_false, Nat.reduceLeDiff, Int.reduceNe, Int.reduceEq, ne_eq, not_false_eq_true, and_self, fp_26_0, fp_30_0, fp_30_1, fp_72_0, fp_72_1, fp_72_2, fp_72_3, ld_22, ld_3, len_22, hk, in_104, w2, c1, c2, c3, c4]
    exact ⟨by first | (rw [← go]; simp only [c1, c2, c3, c4, Bool.true_and, Bool.false_and, Bool.not_true, Bool.not_false, Bool.and_false, Bool.and_true]) | (rw [← go]; simp [c1, c2, c3, c4]), (Fr.refl hk).alloc _ |>.alloc _⟩
  | true =>
  have := of_decide_eq_true c3
  have := of_decide_eq_true c4
  have w1 : IntKind.i64.wrap (hi - lo) = hi - lo := wrap64 (by omega) (by omega)
  cases c5 : decide (hi - lo ≤ 6) with
  | false =>
    simp (maxDischargeDepth := 30) only [AMS, AMH, ↓reduceIte, Nat.reduceLT, Nat.reduceEqDiff, Nat.reduceAdd, Nat.reduceMul, reduceCtorEq, decide_true, decide_false, Nat.reduceLeDiff, Int.reduceNe, Int.reduceEq, ne_eq, not_false_eq_true, and_self, fp_26_0, fp_30_0, fp_30_1, fp_72_0, fp_72_1, fp_72_2, fp_72_3, ld_22, ld_3, len_22, hk, in_104, w2, w1, c1, c2, c3, c4, c5]
    exact ⟨by first | (rw [← go]; simp only [c1, c2, c3, c4, c5, Bool.true_and, Bool.false_and, Bool.not_true, Bool.not_false, Bool.and_false, Bool.and_true]) | (rw [← go]; simp [c1, c2, c3, c4, c5]), (Fr.refl hk).alloc _ |>.alloc _⟩
  | true =>
  simp (maxDischargeDepth := 30) only [AMS, AMH, ↓reduceIte, Nat.reduceLT, Nat.reduceEqDiff, Nat.reduceAdd, Nat.reduceMul, reduceCtorEq, decide_true, decide_false, Nat.reduceLeDiff, Int.reduceNe, Int.reduceEq, ne_eq, not_false_eq_true, and_self, fp_26_0, fp_30_0, fp_30_1, fp_72_0, fp_72_1, fp_72_2, fp_72_3, ld_22, ld_3, len_22, hk, in_104, w2, w1, c1, c2, c3, c4, c5]
  exact ⟨by first | (rw [← go]; simp only [c1, c2, c3, c4, c5, Bool.true_and, Bool.false_and, Bool.not_true, Bool.not_false, Bool.and_false, Bool.and_true]) | (rw [← go]; simp [c1, c2, c3, c4, c5]), (Fr.refl hk).alloc _ |>.alloc _⟩
end Go.Am

/- The abstract machine, part 42: contracts: sums. -/
namespace Go.Am
open Go Go.Proofs

theorem mid_get {α : Type} (pre : List α) (x : α) (rest : List α) : (pre ++ x :: rest)[pre.length]? = some x := by simp
theorem LS.open {α : Type} {h : Heap} {v : Value} {xs : List α} {f : α → List Value} {s : Nat} (q : LS h v xs f s) :
    ∃ p c, v = .slice p xs.length c ∧ (xs = [] ∨ ∃ b o sp row, p = some ⟨b, o, sp⟩ ∧ rowAt h b = some row ∧ ∀ (i : Nat) x, xs[i]? = some x → take? row (o + i * s) s = some (f x) ∧ ∀ j, j < s → row[o + i * s + j]? = (f x)[j]?) := by
  rcases q with ⟨rfl, p, c, rfl⟩ | ⟨b, o, sp, c, row, rfl, h1, h2⟩
  · exact ⟨p, c, rfl, .inl rfl⟩
  · exact ⟨_, c, rfl, .inr ⟨b, o, sp, row, rfl, h1, h2⟩⟩

def sumI (l : List Int) : Int := l.foldl (· + ·) 0
theorem sumI_app (l : List Int) (x : Int) : sumI (l ++ [x]) = sumI l + x := by simp [sumI]
theorem snoc_cons {α : Type} (l : List α) (x : α) (r : List α) : l ++ x :: r = (l ++ [x]) ++ r := by simp
theorem foldl_add (l : List Int) : ∀ a : Int, l.foldl (· + ·) a = a + l.foldl (· + ·) 0 := by
  induction l with
  | nil => intro a; simp
  | cons x l ih => intro a; simp only [List.foldl_cons]; rw [ih (a + x), ih (0 + x)]; omega
theorem sumI_cons (x : Int) (l : List Int) : sumI (x :: l) = x + sumI l := by
  unfold sumI; rw [List.foldl_cons, foldl_add]; omega
theorem sumI_bound {B : Int} : ∀ {l : List Int}, (∀ x ∈ l, 0 ≤ x ∧ x ≤ B) → 0 ≤ sumI l ∧ sumI l ≤ B * l.length
  | [], _ => by simp [sumI]
  | x :: l, hb => by
    have h1 := hb x List.mem_cons_self
    have h2 := sumI_bound (l := l) fun y hy => hb y (List.mem_cons_of_mem _ hy)
    rw [sumI_cons]
    have e : B * ((x :: l).length : Int) = B * l.length + B := by simp [Int.mul_add]
    rw [e]; omega

set_option maxRecDepth 10000 in
theorem sum_105 (v : Value) (l : List Int) (h : Heap) (hv : LS h v l ints 1) (hl : l.length ≤ 1000) (hb : ∀ x ∈ l, 0 ≤ x ∧ x ≤ 1000000000000) : CW CC 105 [v] h fun r h' => r = .int .i64 (sumI l) ∧ h' = h := by
  obtain ⟨p, c, rfl, hx⟩ := hv.open
  refine CW_in Tryz.f105 (by kernel_rfl) (by kernel_rfl) rfl rfl ?_
  simp only [Tryz.f105]
  simp (maxDischargeDepth := 30) only [AMS, AMH, ↓reduceIte, Nat.reduceLT, Nat.reduceEqDiff, Nat.reduceAdd, Nat.reduceMul, reduceCtorEq, decide_true, decide_false, Nat.reduceLeDiff, Int.reduceNe, Int.reduceEq, ne_eq, not_false_eq_true, and_self, ix_22, ld_3, len_22, part_3, size_22, size_3, und_22, zero_22]
  refine W_loop l.length (fun m f h' => ∃ pre rest, l = pre ++ rest ∧ m = rest.length ∧ f 6 = .slice p l.length c ∧ f 7 = .int .i64 l.length ∧ f 8 = .int .i64 pre.length ∧ f 3 = .int .i64 (sumI pre) ∧ h' = h) ⟨[], l, by simp, by simp, by simp [upd_at, argsFn_at], by simp [upd_at], by simp [upd_at], by simp [upd_at, sumI], rfl⟩ ?_
  rintro m f h' ⟨pre, rest, e, rfl, h6, h7, h8, h3, rfl⟩ ih
  cases rest with
  | nil =>
    have hlt : decide ((pre.length : Int) < (l.length : Int)) = false := by rw [e]; simp
    have e' : l = pre := by simpa using e
    simp (maxDischargeDepth := 30) only [AMS, AMH, ↓reduceIte, Nat.reduceLT, Nat.reduceEqDiff, Nat.reduceAdd, Nat.reduceMul, reduceCtorEq, decide_true, decide_false, Nat.reduceLeDiff, Int.reduceNe, Int.reduceEq, ne_eq, not_false_eq_true, and_self, ix_22, ld_3, len_22, part_3, size_22, size_3, und_22, zero_22, h6, h7, h8, h3, hlt]
    exact ⟨by rw [e'], trivial⟩
  | cons x rest =>
    have hlt : decide ((pre.length : Int) < (l.length : Int)) = true := by rw [e]; simp; omega
    have hlt' : pre.length < l.length := by rw [e]; simp
    have hget : l[pre.length]? = some x := by rw [e]; exact mid_get _ _ _
    rcases hx with hx | ⟨b, o, sp, row, rfl, hr, hx⟩
    · rw [hx] at hlt'; simp at hlt'
    have hcell : row[o + pre.length]? = some (.int .i64 x) := by
      have := (hx _ _ hget).2 0 (by omega)
      simpa [ints] using this
    have hb1 := sumI_bound (B := 1000000000000) (l := pre) fun y hy => hb y (by rw [e]; simp [hy])
    have hbx := hb x (by rw [e]; simp)
    have hpl : pre.length ≤ 1000 := by omega
    simp (maxDischargeDepth := 30) only [AMS, AMH, ↓reduceIte, Nat.reduceLT, Nat.reduceEqDiff, Nat.reduceAdd, Nat.reduceMul, reduceCtorEq, decide_true, decide_false, Nat.reduceLeDiff, Int.reduceNe, Int.reduceEq, ne_eq, not_false_eq_true, and_self, ix_22, ld_3, len_22, part_3, size_22, size_3, und_22, zero_22, h6, h7, h8, h3, hlt, hlt', Nat.mul_one, hr, hcell, wrap64 (n := sumI pre + x) (by omega) (by omega), wrap64 (n := (pre.length : Int) + 1) (by omega) (by omega)]
    refine ih rest.length _ _ (by simp) ?_
    exact ⟨pre ++ [x], rest, by rw [e]; simp, rfl, by simp [upd_at, h6], by simp [upd_at, h7], by simp [upd_at], by simp [upd_at, sumI_app], rfl⟩
end Go.Am

/- The abstract machine, part 43: contracts: hours. -/
namespace Go.Am
open Go Go.Proofs

def okHour (p : Int × Board) : Bool := inP p.1 p.2.lo p.2.hi
def hoursOK (bs : List Board) (l : List Int) : Bool := decide (l.length = bs.length) && (l.zip bs).all okHour

theorem zip_left {l : List Int} {bs : List Board} (h : l.length = bs.length) : l = (l.zip bs).map (·.1) := by
  rw [List.map_fst_zip]; omega
theorem zip_right {l : List Int} {bs : List Board} (h : l.length = bs.length) : bs = (l.zip bs).map (·.2) := by
  rw [List.map_snd_zip]; omega

set_option maxRecDepth 10000 in
theorem hours_34 {h : Heap} (hk : HOK h) {a b c v : Value} {s : Sheet} {l : List Int} (hs : IsSheet h a b c s) (hv : LS h v l ints 1) (hl : l.length ≤ 1000) (hb : s.boards.length ≤ 1000) :
    CW CC 34 [.agg ⟨[a, b, c]⟩, v] h fun r h' => r = .bool (hoursOK s.boards l) ∧ Fr h h' := by
  obtain ⟨p1, c1, rfl, _⟩ := hs.offs.open
  obtain ⟨p2, c2, rfl, x2⟩ := hs.boards.open
  obtain ⟨p3, c3, rfl, _⟩ := hs.tars.open
  obtain ⟨p4, c4, rfl, x4⟩ := hv.open
  refine CW_in Tryz.f34 (by kernel_rfl) (by kernel_rfl) rfl rfl ?_
  simp only [Tryz.f34]
  by_cases hne : (l.length : Int) = s.boards.length
  · have hne' : l.length = s.boards.length := by omega
    simp (maxDischargeDepth := 30) only [AMS, AMH, ↓reduceIte, Nat.reduceLT, Nat.reduceEqDiff, Nat.reduceAdd, Nat.reduceMul, reduceCtorEq, decide_true, decide_false, Nat.reduceLeDiff, Int.reduceNe, Int.reduceEq, ne_eq, not_false_eq_true, and_self, fp_26_1, fp_30_0, fp_30_1, fp_72_2, ix_22, ix_23, ld_23, ld_3, len_22, len_23, part_3, part_72, size_22, size_23, size_3, size_72, und_22, und_23, zero_22, zero_23, hk, hne, bne_self_eq_false]
    have e1 := zip_left hne'
    have e2 := zip_right hne'
    generalize hz : l.zip s.boards = z at e1 e2
    have hlen : z.length = l.length := by rw [e1]; simp
    refine W_loop z.length (fun m f h' => ∃ pre rest, z = pre ++ rest ∧ m = rest.length ∧ f 1 = .slice p4 l.length c4 ∧ f 2 = .pointer (some ⟨h.next, 0, none⟩) ∧ f 5 = .int .i64 pre.length ∧ pre.all okHour = true ∧ h' = h.alloc (.row [.slice p1 s.offs.length c1, .slice p2 s.boards.length c2, .slice p3 s.tars.length c3] 0 true)) ⟨[], z, by simp, by simp, by simp [upd_at, argsFn_at, hne], by simp [upd_at], by simp [upd_at], rfl, rfl⟩ ?_
    rintro m f h' ⟨pre, rest, e, rfl, f1, f2, f5, hall, rfl⟩ ih
    cases rest with
    | nil =>
      have hlt : decide ((pre.length : Int) < (l.length : Int)) = false := by rw [← hlen, e]; simp
      simp (maxDischargeDepth := 30) only [AMS, AMH, ↓reduceIte, Nat.reduceLT, Nat.reduceEqDiff, Nat.reduceAdd, Nat.reduceMul, reduceCtorEq, decide_true, decide_false, Nat.reduceLeDiff, Int.reduceNe, Int.reduceEq, ne_eq, not_false_eq_true, and_self, fp_26_1, fp_30_0, fp_30_1, fp_72_2, ix_22, ix_23, ld_23, ld_3, len_22, len_23, part_3, part_72, size_22, size_23, size_3, size_72, und_22, und_23, zero_22, zero_23, hk, f1, f2, f5, hlt]
      refine ⟨?_, (Fr.refl hk).alloc _⟩
      simp only [hoursOK, hz, hne', e, List.append_nil, hall, decide_true, Bool.and_true]
    | cons x rest =>
      have hlt : decide ((pre.length : Int) < (l.length : Int)) = true := by rw [← hlen, e]; simp; omega
      have hlt' : pre.length < l.length := by rw [← hlen, e]; simp
      have hlt2 : pre.length < s.boards.length := by rw [← hne']; exact hlt'
      have g1 : l[pre.length]? = some x.1 := by rw [e1, e]; simp
      have g2 : s.boards[pre.length]? = some x.2 := by rw [e2, e]; simp
      rcases x4 with hx | ⟨b4, o4, sp4, row4, rfl, r4, x4⟩
      · rw [hx] at hlt'; simp at hlt'
      rcases x2 with hx | ⟨b2, o2, sp2, row2, rfl, r2, x2⟩
      · rw [hx] at hlt2; simp at hlt2
      have k1 : row4[o4 + pre.length]? = some (.int .i64 x.1) := by simpa [ints] using (x4 _ _ g1).2 0 (by omega)
      have k2 : row2[o2 + pre.length * 5 + 2]? = some (.int .i64 x.2.lo) := by simpa [Board.cells] using (x2 _ _ g2).2 2 (by omega)
      have k3 : row2[o2 + pre.length * 5 + 2 + 1]? = some (.int .i64 x.2.hi) := by simpa [Board.cells] using (x2 _ _ g2).2 3 (by omega)
      have n4 := row_lt hk r4
      have n2 := row_lt hk r2
      simp (maxDischargeDepth := 30) only [AMS, AMH, ↓reduceIte, Nat.reduceLT, Nat.reduceEqDiff, Nat.reduceAdd, Nat.reduceMul, reduceCtorEq, decide_true, decide_false, Nat.reduceLeDiff, Int.reduceNe, Int.reduceEq, ne_eq, not_false_eq_true, and_self, fp_26_1, fp_30_0, fp_30_1, fp_72_2, ix_22, ix_23, ld_23, ld_3, len_22, len_23, part_3, part_72, size_22, size_23, size_3, size_72, und_22, und_23, zero_22, zero_23, hk, f1, f2, f5, hlt, hlt', n4, n2]
      refine W_draw [(true, 0), (true, 1), (true, 2), (true, 3), (true, 4), (true, 5), (true, 6), (true, 7), (true, 8), (true, 9), (true, 10), (true, 11), (true, 12), (true, 13), (true, 14), (true, 15), (true, 16), (true, 17), (true, 18), (true, 19)] (by kernel_rfl) ?_
      cases hin : inP x.1 x.2.lo x.2.hi with
      | false =>
        simp (maxDischargeDepth := 30) only [AMS, AMH, ↓reduceIte, Nat.reduceLT, Nat.reduceEqDiff, Nat.reduceAdd, Nat.reduceMul, reduceCtorEq, decide_true, decide_false, Nat.reduceLeDiff, Int.reduceNe, Int.reduceEq, ne_eq, not_false_eq_true, and_self, fp_26_1, fp_30_0, fp_30_1, fp_72_2, ix_22, ix_23, ld_23, ld_3, len_22, len_23, part_3, part_72, size_22, size_23, size_3, size_72, und_22, und_23, zero_22, zero_23, hk, f1, f2, f5, hlt, hlt', hlt2, n4, n2, r4, r2, Nat.mul_one, k1, k2, k3, in_76, hin]
        refine ⟨?_, (Fr.refl hk).alloc _⟩
        have : okHour x = false := hin
        simp [hoursOK, hz, e, this]
      | true =>
        have w : IntKind.i64.wrap ((pre.length : Int) + 1) = pre.length + 1 := wrap64 (by omega) (by omega)
        simp (maxDischargeDepth := 30) only [AMS, AMH, ↓reduceIte, Nat.reduceLT, Nat.reduceEqDiff, Nat.reduceAdd, Nat.reduceMul, reduceCtorEq, decide_true, decide_false, Nat.reduceLeDiff, Int.reduceNe, Int.reduceEq, ne_eq, not_false_eq_true, and_self, fp_26_1, fp_30_0, fp_30_1, fp_72_2, ix_22, ix_23, ld_23, ld_3, len_22, len_23, part_3, part_72, size_22, size_23, size_3, size_72, und_22, und_23, zero_22, zero_23, hk, f1, f2, f5, hlt, hlt', hlt2, n4, n2, r4, r2, Nat.mul_one, k1, k2, k3, in_76, hin, w]
        refine ih rest.length _ _ (by simp) ?_
        exact ⟨pre ++ [x], rest, by rw [e]; simp, rfl, by simp [upd_at, f1], by simp [upd_at, f2], by simp [upd_at], by simp [hall, okHour, hin], rfl⟩
  · have hb : ((l.length : Int) != s.boards.length) = true := by simpa using hne
    simp (maxDischargeDepth := 30) only [AMS, AMH, ↓reduceIte, Nat.reduceLT, Nat.reduceEqDiff, Nat.reduceAdd, Nat.reduceMul, reduceCtorEq, decide_true, decide_false, Nat.reduceLeDiff, Int.reduceNe, Int.reduceEq, ne_eq, not_false_eq_true, and_self, fp_26_1, fp_30_0, fp_30_1, fp_72_2, ix_22, ix_23, ld_23, ld_3, len_22, len_23, part_3, part_72, size_22, size_23, size_3, size_72, und_22, und_23, zero_22, zero_23, hk, hb]
    refine ⟨?_, (Fr.refl hk).alloc _⟩
    have : ¬ l.length = s.boards.length := by omega
    simp [hoursOK, this]
end Go.Am

/- The abstract machine, part 44: contracts: hours, as the program has them. -/
namespace Go.Am
open Go Go.Proofs

theorem hoursOK_long {bs : List Board} {l : List Int} (h : l.length ≠ bs.length) : hoursOK bs l = false := by simp [hoursOK, h]
theorem hoursOK_bad {bs : List Board} {l : List Int} {i : Nat} {x : Int} {b : Board} (h1 : l[i]? = some x) (h2 : bs[i]? = some b) (hb : okHour (x, b) = false) : hoursOK bs l = false := by
  have : (x, b) ∈ l.zip bs := by
    refine List.mem_of_getElem? (i := i) ?_
    rw [List.getElem?_zip_eq_some]; exact ⟨h1, h2⟩
  unfold hoursOK
  rw [Bool.and_eq_false_iff]
  right
  rw [List.all_eq_false]
  exact ⟨_, this, by simp [hb]⟩
theorem hoursOK_all {bs : List Board} {l : List Int} (h : l.length = bs.length) (ha : ∀ (i : Nat) x b, l[i]? = some x → bs[i]? = some b → okHour (x, b) = true) : hoursOK bs l = true := by
  unfold hoursOK
  rw [Bool.and_eq_true]
  refine ⟨by simp [h], List.all_eq_true.2 fun p hp => ?_⟩
  obtain ⟨i, hi⟩ := List.mem_iff_getElem?.1 hp
  obtain ⟨x, b⟩ := p
  rw [List.getElem?_zip_eq_some] at hi
  exact ha i x b hi.1 hi.2

set_option maxRecDepth 10000 in
theorem areHours_74 {h : Heap} (hk : HOK h) {a b c v : Value} {s : Sheet} {l : List Int} (hs : IsSheet h a b c s) (hv : LS h v l ints 1) (hl : l.length ≤ 1000) (hb : s.boards.length ≤ 1000) :
    CW CC 74 [.agg ⟨[a, b, c]⟩, v] h fun r h' => r = .bool (hoursOK s.boards l) ∧ Fr h h' := by
  obtain ⟨p1, c1, rfl, _⟩ := hs.offs.open
  obtain ⟨p2, c2, rfl, x2⟩ := hs.boards.open
  obtain ⟨p3, c3, rfl, _⟩ := hs.tars.open
  obtain ⟨p4, c4, rfl, x4⟩ := hv.open
  refine CW_in Tryz.f74 (by kernel_rfl) (by kernel_rfl) rfl rfl ?_
  simp only [Tryz.f74]
  simp (maxDischargeDepth := 30) only [AMS, AMH, ↓reduceIte, Nat.reduceLT, Nat.reduceEqDiff, Nat.reduceAdd, Nat.reduceMul, reduceCtorEq, decide_true, decide_false, Nat.reduceLeDiff, Int.reduceNe, Int.reduceEq, ne_eq, not_false_eq_true, and_self, fp_26_1, fp_30_0, fp_30_1, fp_72_2, ix_22, ix_23, ld_23, ld_3, len_22, len_23, part_3, part_72, size_22, size_23, size_3, size_72, und_22, und_23, zero_22, zero_23, hk]
  refine W_loop l.length (fun m f h' => ∃ i, i ≤ l.length ∧ m = l.length - i ∧ f 1 = .slice p4 l.length c4 ∧ f 2 = .pointer (some ⟨h.next, 0, none⟩) ∧ f 7 = .slice p4 l.length c4 ∧ f 8 = .int .i64 l.length ∧ f 9 = .int .i64 i ∧ (∀ (j : Nat) x, j < i → l[j]? = some x → ∃ b, s.boards[j]? = some b ∧ okHour (x, b) = true) ∧ h' = h.alloc (.row [.slice p1 s.offs.length c1, .slice p2 s.boards.length c2, .slice p3 s.tars.length c3] 0 true))
    ⟨0, by omega, by omega, by simp [upd_at, argsFn_at], by simp [upd_at], by simp [upd_at, argsFn_at], by simp [upd_at], by simp [upd_at], fun j x hj => by omega, rfl⟩ ?_
  rintro m f h' ⟨i, hi, rfl, f1, f2, f7, f8, f9, hall, rfl⟩ ih
  by_cases hil : i < l.length
  · have hlt : decide ((i : Int) < (l.length : Int)) = true := by simp; omega
    obtain ⟨x, g1⟩ : ∃ x, l[i]? = some x := ⟨_, List.getElem?_eq_getElem hil⟩
    rcases x4 with hx | ⟨b4, o4, sp4, row4, rfl, r4, x4⟩
    · rw [hx] at hil; simp at hil
    have k1 : row4[o4 + i]? = some (.int .i64 x) := by simpa [ints] using (x4 _ _ g1).2 0 (by omega)
    have n4 := row_lt hk r4
    simp (maxDischargeDepth := 30) only [AMS, AMH, ↓reduceIte, Nat.reduceLT, Nat.reduceEqDiff, Nat.reduceAdd, Nat.reduceMul, reduceCtorEq, decide_true, decide_false, Nat.reduceLeDiff, Int.reduceNe, Int.reduceEq, ne_eq, not_false_eq_true, and_self, fp_26_1, fp_30_0, fp_30_1, fp_72_2, ix_22, ix_23, ld_23, ld_3, len_22, len_23, part_3, part_72, size_22, size_23, size_3, size_72, und_22, und_23, zero_22, zero_23, hk, f1, f2, f7, f8, f9, hlt, hil, n4, r4, Nat.mul_one, k1]
    refine W_draw [(true, 0), (true, 1), (true, 2), (true, 3), (true, 4), (true, 5), (true, 6), (true, 7), (true, 8), (true, 9), (true, 10), (true, 11), (true, 12), (true, 13), (true, 14), (true, 15), (true, 16), (true, 17), (true, 18), (true, 19), (true, 20), (true, 21), (true, 22), (true, 23)] (by kernel_rfl) ?_
    by_cases hib : i < s.boards.length
    · obtain ⟨bd, g2⟩ : ∃ b, s.boards[i]? = some b := ⟨_, List.getElem?_eq_getElem hib⟩
      have hge : decide ((i : Int) ≥ (s.boards.length : Int)) = false := by simp; omega
      rcases x2 with hx | ⟨b2, o2, sp2, row2, rfl, r2, x2⟩
      · rw [hx] at hib; simp at hib
      have k2 : row2[o2 + i * 5 + 2]? = some (.int .i64 bd.lo) := by simpa [Board.cells] using (x2 _ _ g2).2 2 (by omega)
      have k3 : row2[o2 + i * 5 + 2 + 1]? = some (.int .i64 bd.hi) := by simpa [Board.cells] using (x2 _ _ g2).2 3 (by omega)
      have n2 := row_lt hk r2
      cases hin : inP x bd.lo bd.hi with
      | false =>
        simp (maxDischargeDepth := 30) only [AMS, AMH, ↓reduceIte, Nat.reduceLT, Nat.reduceEqDiff, Nat.reduceAdd, Nat.reduceMul, reduceCtorEq, decide_true, decide_false, Nat.reduceLeDiff, Int.reduceNe, Int.reduceEq, ne_eq, not_false_eq_true, and_self, fp_26_1, fp_30_0, fp_30_1, fp_72_2, ix_22, ix_23, ld_23, ld_3, len_22, len_23, part_3, part_72, size_22, size_23, size_3, size_72, und_22, und_23, zero_22, zero_23, hk, f1, f2, f7, f8, f9, hge, hib, n4, n2, r4, r2, Nat.mul_one, k1, k2, k3, in_104, hin]
        exact ⟨by rw [hoursOK_bad g1 g2 hin], (Fr.refl hk).alloc _⟩
      | true =>
        have w : IntKind.i64.wrap ((i : Int) + 1) = ((i + 1 : Nat) : Int) := by rw [wrap64 (by omega) (by omega)]; omega
        simp (maxDischargeDepth := 30) only [AMS, AMH, ↓reduceIte, Nat.reduceLT, Nat.reduceEqDiff, Nat.reduceAdd, Nat.reduceMul, reduceCtorEq, decide_true, decide_false, Nat.reduceLeDiff, Int.reduceNe, Int.reduceEq, ne_eq, not_false_eq_true, and_self, fp_26_1, fp_30_0, fp_30_1, fp_72_2, ix_22, ix_23, ld_23, ld_3, len_22, len_23, part_3, part_72, size_22, size_23, size_3, size_72, und_22, und_23, zero_22, zero_23, hk, f1, f2, f7, f8, f9, hge, hib, n4, n2, r4, r2, Nat.mul_one, k1, k2, k3, in_104, hin, w]
        refine ih (l.length - (i + 1)) _ _ (by omega) ?_
        refine ⟨i + 1, by omega, rfl, by simp [upd_at, f1], by simp [upd_at, f2], by simp [upd_at, f7], by simp [upd_at, f8], by simp [upd_at], fun j y hj hy => ?_, rfl⟩
        by_cases hji : j < i
        · exact hall j y hji hy
        · have : j = i := by omega
          subst this
          rw [g1] at hy; simp at hy; subst hy
          exact ⟨bd, g2, hin⟩
    · have hge : decide ((i : Int) ≥ (s.boards.length : Int)) = true := by simp; omega
      simp (maxDischargeDepth := 30) only [AMS, AMH, ↓reduceIte, Nat.reduceLT, Nat.reduceEqDiff, Nat.reduceAdd, Nat.reduceMul, reduceCtorEq, decide_true, decide_false, Nat.reduceLeDiff, Int.reduceNe, Int.reduceEq, ne_eq, not_false_eq_true, and_self, fp_26_1, fp_30_0, fp_30_1, fp_72_2, ix_22, ix_23, ld_23, ld_3, len_22, len_23, part_3, part_72, size_22, size_23, size_3, size_72, und_22, und_23, zero_22, zero_23, hk, f1, f2, f7, f8, f9, hge, n4]
      exact ⟨by rw [hoursOK_long (by omega)], (Fr.refl hk).alloc _⟩
  · have : i = l.length := by omega
    subst this
    have hlt : decide ((l.length : Int) < (l.length : Int)) = false := by simp
    simp (maxDischargeDepth := 30) only [AMS, AMH, ↓reduceIte, Nat.reduceLT, Nat.reduceEqDiff, Nat.reduceAdd, Nat.reduceMul, reduceCtorEq, decide_true, decide_false, Nat.reduceLeDiff, Int.reduceNe, Int.reduceEq, ne_eq, not_false_eq_true, and_self, fp_26_1, fp_30_0, fp_30_1, fp_72_2, ix_22, ix_23, ld_23, ld_3, len_22, len_23, part_3, part_72, size_22, size_23, size_3, size_72, und_22, und_23, zero_22, zero_23, hk, f1, f2, f7, f8, f9, hlt]
    refine ⟨?_, (Fr.refl hk).alloc _⟩
    by_cases he : l.length = s.boards.length
    · rw [hoursOK_all he fun j x bd h1 h2 => ?_]
      · simp [he]
      · obtain ⟨b', g, ho⟩ := hall j x (List.getElem?_eq_some_iff.1 h1).1 h1
        rw [h2] at g; simp at g; rw [g]; exact ho
    · rw [hoursOK_long he]
      simp; omega
end Go.Am
