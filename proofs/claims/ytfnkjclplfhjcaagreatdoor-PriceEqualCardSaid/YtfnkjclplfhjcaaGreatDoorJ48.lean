/- Parts 48, 49, 50, 51 of the abstract machine over this program, joined: what each part says stands at its head. -/
import Derived.Test.YtfnkjclplfhjcaaGreatDoorJ45
import Derived.Test.YtfnkjclplfhjcaaGreatDoorJ41
set_option linter.unusedSimpArgs false
set_option linter.unusedVariables false
/- The abstract machine, part 48: contracts: what a statement asks for. -/
namespace Go.Am
open Go Go.Proofs

def Sheet.short (s : Sheet) : Bool := decide ((s.offs.length : Int) ≤ 5 ∧ (s.boards.length : Int) ≤ 6 ∧ (s.tars.length : Int) ≤ 5)

theorem right_68 {h : Heap} (hk : HOK h) {a b c : Value} {s : Sheet} (hs : IsSheet h a b c s) :
    CW CC 68 [.agg ⟨[a, b, c]⟩] h fun r h' => r = .bool (s.short && s.ok) ∧ Fr h h' := by
  obtain ⟨p1, c1, rfl, _⟩ := hs.offs.open
  obtain ⟨p2, c2, rfl, _⟩ := hs.boards.open
  obtain ⟨p3, c3, rfl, _⟩ := hs.tars.open
  refine CW_in Tryz.f68 (by kernel_rfl) (by kernel_rfl) rfl rfl ?_
  simp only [Tryz.f68]
  have f1 : Fr h (h.alloc (.row [.slice p1 s.offs.length c1, .slice p2 s.boards.length c2, .slice p3 s.tars.length c3] 0 true)) := (Fr.refl hk).alloc _
  have r1 : rowAt (h.alloc (.row [.slice p1 s.offs.length c1, .slice p2 s.boards.length c2, .slice p3 s.tars.length c3] 0 true)) h.next = some [.slice p1 s.offs.length c1, .slice p2 s.boards.length c2, .slice p3 s.tars.length c3] := rowAt_new _ _ _ _
  obtain ⟨_, h2, e2, rfl, fr2⟩ := short_28 p1 p2 p3 s.offs.length c1 s.boards.length c2 s.tars.length c3 _ f1.ok
  have e2 : callF CC (Lim CC) 28 [.agg ⟨[.slice p1 s.offs.length c1, .slice p2 s.boards.length c2, .slice p3 s.tars.length c3]⟩] (h.alloc (.row [.slice p1 s.offs.length c1, .slice p2 s.boards.length c2, .slice p3 s.tars.length c3] 0 true)) = some (.ret (.bool s.short) h2 none) := e2
  have f2 := f1.trans fr2
  have r2 := fr2.row' f1.ok r1
  cases i1 : s.short with
  | false =>
    rw [i1] at e2
    simp (maxDischargeDepth := 30) only [AMS, AMH, ↓reduceIte, Nat.reduceLT, Nat.reduceEqDiff, Nat.reduceAdd, Nat.reduceMul, reduceCtorEq, decide_true, decide_false, Nat.reduceLeDiff, Int.reduceNe, Int.reduceEq, ne_eq, not_false_eq_true, and_self, ld_26, hk, e2]
    exact ⟨rfl, f2⟩
  | true =>
    rw [i1] at e2
    obtain ⟨_, h3, e3, rfl, fr3⟩ := sheet_32 f2.ok (hs.fr hk f2)
    simp (maxDischargeDepth := 30) only [AMS, AMH, ↓reduceIte, Nat.reduceLT, Nat.reduceEqDiff, Nat.reduceAdd, Nat.reduceMul, reduceCtorEq, decide_true, decide_false, Nat.reduceLeDiff, Int.reduceNe, Int.reduceEq, ne_eq, not_false_eq_true, and_self, ld_26, hk, e2, r2, e3]
    exact ⟨rfl, f2.trans fr3⟩

def askedB (s : Sheet) (t : Int) (l : List Int) : Bool := (s.short && s.ok) && (decide ((l.length : Int) ≤ 7) && (inP t 0 (s.tars.length - 1) && hoursOK s.boards l))

theorem Sheet.ok_len {s : Sheet} (h : s.ok = true) : (1 ≤ s.offs.length ∧ s.offs.length ≤ 3) ∧ (1 ≤ s.boards.length ∧ s.boards.length ≤ 4) ∧ (1 ≤ s.tars.length ∧ s.tars.length ≤ 3) := by
  unfold Sheet.ok at h
  simp only [Bool.and_eq_true, inP, decide_eq_true_eq] at h
  omega

set_option maxRecDepth 10000 in
theorem asked_22 {h : Heap} (hk : HOK h) {a b c v : Value} {s : Sheet} {l : List Int} (hs : IsSheet h a b c s) (hv : LS h v l ints 1) (t : Int) :
    CW CC 22 [.agg ⟨[a, b, c]⟩, .int .i64 t, v] h fun r h' => r = .bool (askedB s t l) ∧ Fr h h' := by
  obtain ⟨p1, c1, rfl, _⟩ := hs.offs.open
  obtain ⟨p2, c2, rfl, _⟩ := hs.boards.open
  obtain ⟨p3, c3, rfl, _⟩ := hs.tars.open
  obtain ⟨p4, c4, rfl, _⟩ := hv.open
  refine CW_in Tryz.f22 (by kernel_rfl) (by kernel_rfl) rfl rfl ?_
  simp only [Tryz.f22]
  have f1 : Fr h (h.alloc (.row [.slice p1 s.offs.length c1, .slice p2 s.boards.length c2, .slice p3 s.tars.length c3] 0 true)) := (Fr.refl hk).alloc _
  have r1 : rowAt (h.alloc (.row [.slice p1 s.offs.length c1, .slice p2 s.boards.length c2, .slice p3 s.tars.length c3] 0 true)) h.next = some [.slice p1 s.offs.length c1, .slice p2 s.boards.length c2, .slice p3 s.tars.length c3] := rowAt_new _ _ _ _
  obtain ⟨_, h2, e2, rfl, fr2⟩ := right_68 f1.ok (hs.fr hk f1)
  have f2 := f1.trans fr2
  have r2 := fr2.row' f1.ok r1
  unfold askedB
  cases i1 : (s.short && s.ok) with
  | false =>
    rw [i1] at e2
    simp (maxDischargeDepth := 30) only [AMS, AMH, ↓reduceIte, Nat.reduceLT, Nat.reduceEqDiff, Nat.reduceAdd, Nat.reduceMul, reduceCtorEq, decide_true, decide_false, Nat.reduceLeDiff, Int.reduceNe, Int.reduceEq, ne_eq, not_false_eq_true, and_self, ld_26, hk, e2]
    exact ⟨rfl, f2⟩
  | true =>
  rw [i1] at e2
  have hlen := Sheet.ok_len ((Bool.and_eq_true _ _).mp i1).2
  cases i2 : decide ((l.length : Int) ≤ 7) with
  | false =>
    simp (maxDischargeDepth := 30) only [AMS, AMH, ↓reduceIte, Nat.reduceLT, Nat.reduceEqDiff, Nat.reduceAdd, Nat.reduceMul, reduceCtorEq, decide_true, decide_false, Nat.reduceLeDiff, Int.reduceNe, Int.reduceEq, ne_eq, not_false_eq_true, and_self, ld_26, hk, e2, slim_29, i2]
    exact ⟨rfl, f2⟩
  | true =>
  have i2' := of_decide_eq_true i2
  obtain ⟨_, h3, e3, rfl, fr3⟩ := tariff_33 p1 p2 p3 s.offs.length c1 s.boards.length c2 s.tars.length c3 t _ f2.ok (by omega)
  have f3 := f2.trans fr3
  have r3 := fr3.row' f2.ok r2
  cases i3 : inP t 0 (s.tars.length - 1) with
  | false =>
    rw [i3] at e3
    simp (maxDischargeDepth := 30) only [AMS, AMH, ↓reduceIte, Nat.reduceLT, Nat.reduceEqDiff, Nat.reduceAdd, Nat.reduceMul, reduceCtorEq, decide_true, decide_false, Nat.reduceLeDiff, Int.reduceNe, Int.reduceEq, ne_eq, not_false_eq_true, and_self, ld_26, hk, e2, slim_29, i2, r2, e3]
    exact ⟨rfl, f3⟩
  | true =>
    rw [i3] at e3
    obtain ⟨_, h4, e4, rfl, fr4⟩ := hours_34 f3.ok (hs.fr hk f3) (hv.fr hk f3) (by omega) (by omega)
    simp (maxDischargeDepth := 30) only [AMS, AMH, ↓reduceIte, Nat.reduceLT, Nat.reduceEqDiff, Nat.reduceAdd, Nat.reduceMul, reduceCtorEq, decide_true, decide_false, Nat.reduceLeDiff, Int.reduceNe, Int.reduceEq, ne_eq, not_false_eq_true, and_self, ld_26, hk, e2, slim_29, i2, r2, e3, r3, e4]
    exact ⟨rfl, f3.trans fr4⟩
end Go.Am

/- The abstract machine, part 49: contracts: rounding. -/
namespace Go.Am
open Go Go.Proofs

theorem tdiv_nn {a b : Int} (ha : 0 ≤ a) (hb : 1 ≤ b) : a.tdiv b = a / b := Int.tdiv_eq_ediv_of_nonneg ha
theorem tmod_nn {a b : Int} (ha : 0 ≤ a) : a.tmod b = a % b := Int.tmod_eq_emod_of_nonneg ha
theorem div_b {a b : Int} (ha : 0 ≤ a) (hb : 1 ≤ b) : 0 ≤ a / b ∧ a / b ≤ a := ⟨Int.ediv_nonneg ha (by omega), Int.ediv_le_self b ha⟩

def rDown (a b : Int) : Int := a / b
def rUp (a b : Int) : Int := (a + b - 1) / b
def rNear (a b : Int) : Int := (2 * a + b) / (2 * b)
def rEven (a b : Int) : Int := if 2 * a + b = 2 * b * rNear a b ∧ rNear a b % 2 = 1 then rNear a b - 1 else rNear a b

section
variable {a b : Int} (ha : 0 ≤ a) (ha' : a ≤ 1000000000) (hb : 1 ≤ b) (hb' : b ≤ 1000000) {h : Heap} (hk : HOK h)
include ha ha' hb hb' hk
theorem down_151 : CW CC 151 [.agg ⟨[.int .i64 a, .int .i64 b]⟩] h fun r h' => r = .int .i64 (rDown a b) ∧ Fr h h' := by
  refine CW_in Tryz.f151 (by kernel_rfl) (by kernel_rfl) rfl rfl ?_
  simp only [Tryz.f151]
  have b0 : b ≠ 0 := by omega
  have := div_b ha hb
  simp (maxDischargeDepth := 30) only [AMS, AMH, ↓reduceIte, Nat.reduceLT, Nat.reduceEqDiff, Nat.reduceAdd, Nat.reduceMul, reduceCtorEq, decide_true, decide_false, Nat.reduceLeDiff, Int.reduceNe, Int.reduceEq, ne_eq, not_false_eq_true, and_self, fp_156_0, fp_156_1, ld_3, hk, I_quo _ _ _ _ a b b0, tdiv_nn ha hb, wrap64 (n := a / b) (by omega) (by omega)]
  exact ⟨rfl, (Fr.refl hk).alloc _⟩
theorem up_152 : CW CC 152 [.agg ⟨[.int .i64 a, .int .i64 b]⟩] h fun r h' => r = .int .i64 (rUp a b) ∧ Fr h h' := by
  refine CW_in Tryz.f152 (by kernel_rfl) (by kernel_rfl) rfl rfl ?_
  simp only [Tryz.f152]
  have b0 : b ≠ 0 := by omega
  have := div_b (a := a + b - 1) (by omega) hb
  simp (maxDischargeDepth := 30) only [AMS, AMH, ↓reduceIte, Nat.reduceLT, Nat.reduceEqDiff, Nat.reduceAdd, Nat.reduceMul, reduceCtorEq, decide_true, decide_false, Nat.reduceLeDiff, Int.reduceNe, Int.reduceEq, ne_eq, not_false_eq_true, and_self, fp_156_0, fp_156_1, ld_3, hk, wrap64 (n := a + b) (by omega) (by omega), wrap64 (n := a + b - 1) (by omega) (by omega), I_quo _ _ _ _ (a + b - 1) b b0, tdiv_nn (a := a + b - 1) (by omega) hb, wrap64 (n := (a + b - 1) / b) (by omega) (by omega)]
  exact ⟨rfl, (Fr.refl hk).alloc _⟩
theorem near_153 : CW CC 153 [.agg ⟨[.int .i64 a, .int .i64 b]⟩] h fun r h' => r = .int .i64 (rNear a b) ∧ Fr h h' := by
  refine CW_in Tryz.f153 (by kernel_rfl) (by kernel_rfl) rfl rfl ?_
  simp only [Tryz.f153]
  have b0 : 2 * b ≠ 0 := by omega
  have := div_b (a := 2 * a + b) (b := 2 * b) (by omega) (by omega)
  simp (maxDischargeDepth := 30) only [AMS, AMH, ↓reduceIte, Nat.reduceLT, Nat.reduceEqDiff, Nat.reduceAdd, Nat.reduceMul, reduceCtorEq, decide_true, decide_false, Nat.reduceLeDiff, Int.reduceNe, Int.reduceEq, ne_eq, not_false_eq_true, and_self, fp_156_0, fp_156_1, ld_3, hk, wrap64 (n := 2 * a) (by omega) (by omega), wrap64 (n := 2 * b) (by omega) (by omega), wrap64 (n := 2 * a + b) (by omega) (by omega), I_quo _ _ _ _ (2 * a + b) (2 * b) b0, tdiv_nn (a := 2 * a + b) (b := 2 * b) (by omega) (by omega), wrap64 (n := (2 * a + b) / (2 * b)) (by omega) (by omega)]
  exact ⟨rfl, (Fr.refl hk).alloc _⟩
theorem near_b : 0 ≤ rNear a b ∧ rNear a b ≤ 2 * a + b ∧ 0 ≤ 2 * b * rNear a b ∧ 2 * b * rNear a b ≤ 2 * a + b := by
  have _ := hk
  have := div_b (a := 2 * a + b) (b := 2 * b) (by omega) (by omega)
  have h2 : 2 * b * rNear a b ≤ 2 * a + b := Int.mul_ediv_self_le (by omega)
  exact ⟨this.1, this.2, Int.mul_nonneg (by omega) this.1, h2⟩
theorem even_154 : CW CC 154 [.agg ⟨[.int .i64 a, .int .i64 b]⟩] h fun r h' => r = .int .i64 (rEven a b) ∧ Fr h h' := by
  refine CW_in Tryz.f154 (by kernel_rfl) (by kernel_rfl) rfl rfl ?_
  simp only [Tryz.f154]
  have f1 : Fr h (h.alloc (.row [.int .i64 a, .int .i64 b] 0 true)) := (Fr.refl hk).alloc _
  have r1 : rowAt (h.alloc (.row [.int .i64 a, .int .i64 b] 0 true)) h.next = some [.int .i64 a, .int .i64 b] := rowAt_new _ _ _ _
  obtain ⟨_, h2, e2, rfl, fr2⟩ := near_153 ha ha' hb hb' f1.ok
  have r2 := fr2.row' f1.ok r1
  obtain ⟨n1, n2, n3, n4⟩ := near_b ha ha' hb hb' hk
  have w5 := wrap64 (n := rNear a b - 1) (by omega) (by omega)
  have w4 := wrap64 (n := 2 * b * rNear a b) (by omega) (by omega)
  have t0 : (2 : Int) ≠ 0 := by decide
  cases c1 : (2 * a + b == 2 * b * rNear a b) with
  | false =>
    simp (maxDischargeDepth := 30) only [AMS, AMH, ↓reduceIte, Nat.reduceLT, Nat.reduceEqDiff, Nat.reduceAdd, Nat.reduceMul, reduceCtorEq, decide_true, decide_false, Nat.reduceLeDiff, Int.reduceNe, Int.reduceEq, ne_eq, not_false_eq_true, and_self, fp_156_0, fp_156_1, ld_156, ld_3, hk, e2, r2, wrap64 (n := 2 * a) (by omega) (by omega), wrap64 (n := 2 * b) (by omega) (by omega), wrap64 (n := 2 * a + b) (by omega) (by omega), w4, c1]
    refine ⟨?_, f1.trans fr2⟩
    have : ¬ 2 * a + b = 2 * b * rNear a b := by simpa using c1
    simp [rEven, this]
  | true =>
  have c1' : 2 * a + b = 2 * b * rNear a b := by simpa using c1
  cases c2 : (rNear a b % 2 == 1) with
  | false =>
    simp (maxDischargeDepth := 30) only [AMS, AMH, ↓reduceIte, Nat.reduceLT, Nat.reduceEqDiff, Nat.reduceAdd, Nat.reduceMul, reduceCtorEq, decide_true, decide_false, Nat.reduceLeDiff, Int.reduceNe, Int.reduceEq, ne_eq, not_false_eq_true, and_self, fp_156_0, fp_156_1, ld_156, ld_3, hk, e2, r2, wrap64 (n := 2 * a) (by omega) (by omega), wrap64 (n := 2 * b) (by omega) (by omega), wrap64 (n := 2 * a + b) (by omega) (by omega), w4, c1, I_rem _ _ _ _ _ 2 t0, tmod_nn n1, c2]
    refine ⟨?_, f1.trans fr2⟩
    have : ¬ rNear a b % 2 = 1 := by simpa using c2
    simp [rEven, this]
  | true =>
    simp (maxDischargeDepth := 30) only [AMS, AMH, ↓reduceIte, Nat.reduceLT, Nat.reduceEqDiff, Nat.reduceAdd, Nat.reduceMul, reduceCtorEq, decide_true, decide_false, Nat.reduceLeDiff, Int.reduceNe, Int.reduceEq, ne_eq, not_false_eq_true, and_self, fp_156_0, fp_156_1, ld_156, ld_3, hk, e2, r2, wrap64 (n := 2 * a) (by omega) (by omega), wrap64 (n := 2 * b) (by omega) (by omega), wrap64 (n := 2 * a + b) (by omega) (by omega), w4, c1, I_rem _ _ _ _ _ 2 t0, tmod_nn n1, c2, w5]
    refine ⟨?_, f1.trans fr2⟩
    have : rNear a b % 2 = 1 := by simpa using c2
    rw [rEven, if_pos ⟨c1', this⟩]
end

def rnd (rule a b : Int) : Int := if rule = 0 then rDown a b else if rule = 1 then rUp a b else if rule = 2 then rNear a b else rEven a b

set_option maxRecDepth 10000 in
theorem rounded_136 {a b rule : Int} (ha : 0 ≤ a) (ha' : a ≤ 1000000000) (hb : 1 ≤ b) (hb' : b ≤ 1000000) (h0 : 0 ≤ rule) (h3 : rule ≤ 3) {h : Heap} (hk : HOK h) :
    CW CC 136 [.agg ⟨[.int .i64 a, .int .i64 b]⟩, .int .i64 rule] h fun r h' => r = .int .i64 (rnd rule a b) ∧ Fr h h' := by
  refine CW_in Tryz.f136 (by kernel_rfl) (by kernel_rfl) rfl rfl ?_
  simp only [Tryz.f136]
  have f1 : ∀ x y z, Fr h (((h.alloc x).alloc y).set (h.next + 1) z) := fun x y z => (((Fr.refl hk).alloc x).alloc y).set (by omega) (by simp) z
  have cases4 : rule = 0 ∨ rule = 1 ∨ rule = 2 ∨ rule = 3 := by omega
  rcases cases4 with rfl | rfl | rfl | rfl
  · simp (maxDischargeDepth := 30) only [AMS, AMH, ↓reduceIte, Nat.reduceLT, Nat.reduceEqDiff, Nat.reduceAdd, Nat.reduceMul, reduceCtorEq, decide_true, decide_false, Nat.reduceLeDiff, Int.reduceNe, Int.reduceEq, ne_eq, not_false_eq_true, and_self, bld_184, ia_184_0, ia_184_1, ia_184_2, ia_184_3, ld_156, ld_183, part_183, size_183, size_184, und_184, xi_184_0, xi_184_1, xi_184_2, xi_184_3, zero_184, hk]
    refine W_call (down_151 ha ha' hb hb' (f1 _ _ _).ok) ?_
    rintro _ h2 ⟨rfl, fr2⟩
    simp (maxDischargeDepth := 30) only [AMS, AMH, ↓reduceIte, Nat.reduceLT, Nat.reduceEqDiff, Nat.reduceAdd, Nat.reduceMul, reduceCtorEq, decide_true, decide_false, Nat.reduceLeDiff, Int.reduceNe, Int.reduceEq, ne_eq, not_false_eq_true, and_self, bld_184, ia_184_0, ia_184_1, ia_184_2, ia_184_3, ld_156, ld_183, part_183, size_183, size_184, und_184, xi_184_0, xi_184_1, xi_184_2, xi_184_3, zero_184]
    exact ⟨rfl, (f1 _ _ _).trans fr2⟩
  · simp (maxDischargeDepth := 30) only [AMS, AMH, ↓reduceIte, Nat.reduceLT, Nat.reduceEqDiff, Nat.reduceAdd, Nat.reduceMul, reduceCtorEq, decide_true, decide_false, Nat.reduceLeDiff, Int.reduceNe, Int.reduceEq, ne_eq, not_false_eq_true, and_self, bld_184, ia_184_0, ia_184_1, ia_184_2, ia_184_3, ld_156, ld_183, part_183, size_183, size_184, und_184, xi_184_0, xi_184_1, xi_184_2, xi_184_3, zero_184, hk]
    refine W_call (up_152 ha ha' hb hb' (f1 _ _ _).ok) ?_
    rintro _ h2 ⟨rfl, fr2⟩
    simp (maxDischargeDepth := 30) only [AMS, AMH, ↓reduceIte, Nat.reduceLT, Nat.reduceEqDiff, Nat.reduceAdd, Nat.reduceMul, reduceCtorEq, decide_true, decide_false, Nat.reduceLeDiff, Int.reduceNe, Int.reduceEq, ne_eq, not_false_eq_true, and_self, bld_184, ia_184_0, ia_184_1, ia_184_2, ia_184_3, ld_156, ld_183, part_183, size_183, size_184, und_184, xi_184_0, xi_184_1, xi_184_2, xi_184_3, zero_184]
    exact ⟨rfl, (f1 _ _ _).trans fr2⟩
  · simp (maxDischargeDepth := 30) only [AMS, AMH, ↓reduceIte, Nat.reduceLT, Nat.reduceEqDiff, Nat.reduceAdd, Nat.reduceMul, reduceCtorEq, decide_true, decide_false, Nat.reduceLeDiff, Int.reduceNe, Int.reduceEq, ne_eq, not_false_eq_true, and_self, bld_184, ia_184_0, ia_184_1, ia_184_2, ia_184_3, ld_156, ld_183, part_183, size_183, size_184, und_184, xi_184_0, xi_184_1, xi_184_2, xi_184_3, zero_184, hk]
    refine W_call (near_153 ha ha' hb hb' (f1 _ _ _).ok) ?_
    rintro _ h2 ⟨rfl, fr2⟩
    simp (maxDischargeDepth := 30) only [AMS, AMH, ↓reduceIte, Nat.reduceLT, Nat.reduceEqDiff, Nat.reduceAdd, Nat.reduceMul, reduceCtorEq, decide_true, decide_false, Nat.reduceLeDiff, Int.reduceNe, Int.reduceEq, ne_eq, not_false_eq_true, and_self, bld_184, ia_184_0, ia_184_1, ia_184_2, ia_184_3, ld_156, ld_183, part_183, size_183, size_184, und_184, xi_184_0, xi_184_1, xi_184_2, xi_184_3, zero_184]
    exact ⟨rfl, (f1 _ _ _).trans fr2⟩
  · simp (maxDischargeDepth := 30) only [AMS, AMH, ↓reduceIte, Nat.reduceLT, Nat.reduceEqDiff, Nat.reduceAdd, Nat.reduceMul, reduceCtorEq, decide_true, decide_false, Nat.reduceLeDiff, Int.reduceNe, Int.reduceEq, ne_eq, not_false_eq_true, and_self, bld_184, ia_184_0, ia_184_1, ia_184_2, ia_184_3, ld_156, ld_183, part_183, size_183, size_184, und_184, xi_184_0, xi_184_1, xi_184_2, xi_184_3, zero_184, hk]
    refine W_call (even_154 ha ha' hb hb' (f1 _ _ _).ok) ?_
    rintro _ h2 ⟨rfl, fr2⟩
    simp (maxDischargeDepth := 30) only [AMS, AMH, ↓reduceIte, Nat.reduceLT, Nat.reduceEqDiff, Nat.reduceAdd, Nat.reduceMul, reduceCtorEq, decide_true, decide_false, Nat.reduceLeDiff, Int.reduceNe, Int.reduceEq, ne_eq, not_false_eq_true, and_self, bld_184, ia_184_0, ia_184_1, ia_184_2, ia_184_3, ld_156, ld_183, part_183, size_183, size_184, und_184, xi_184_0, xi_184_1, xi_184_2, xi_184_3, zero_184]
    exact ⟨rfl, (f1 _ _ _).trans fr2⟩

theorem place_137 {r : Int} (h1 : 1 ≤ r) (h2 : r ≤ 4) (h : Heap) : callF CC (Lim CC) 137 [.int .i64 r] h = some (.ret (.int .i64 (r - 1)) h none) := by
  refine CW.eq (CW_in Tryz.f137 (by kernel_rfl) (by kernel_rfl) rfl rfl ?_)
  simp only [Tryz.f137]
  simp (maxDischargeDepth := 30) only [AMS, AMH, ↓reduceIte, Nat.reduceLT, Nat.reduceEqDiff, Nat.reduceAdd, Nat.reduceMul, reduceCtorEq, decide_true, decide_false, Nat.reduceLeDiff, Int.reduceNe, Int.reduceEq, ne_eq, not_false_eq_true, and_self, L_nil, wrap64 (n := r - 1) (by omega) (by omega)]
end Go.Am

/- The abstract machine, part 50: contracts: kinds of tariffs, quantities. -/
namespace Go.Am
open Go Go.Proofs

theorem callM_iface (C : Ctx) (S : Self) (t : TypeId) (v : Value) (n : String) (args : List Value) (h : Heap) : callM C S (.iface t v) n args h = obind (findMethod C t n) fun f => callF C S f (v :: args) h := rfl
theorem nil_meth (C : Ctx) (n : String) (t : TypeId) (w : Value) (l : List Value) (ys : Array Value) : aNilCheck C (.func (.method n) ⟨.iface t w :: l⟩ ys) = obind (findMethod C t n) fun _ => asVal (.func (.method n) ⟨.iface t w :: l⟩ ys) := rfl
theorem fm_186 : findMethod CC 186 "mahlstick/price.quantity" = some 207 := by kernel_rfl
theorem fm_187 : findMethod CC 187 "mahlstick/price.quantity" = some 208 := by kernel_rfl
theorem fm_188 : findMethod CC 188 "mahlstick/price.quantity" = some 209 := by kernel_rfl
theorem fm_189 : findMethod CC 189 "mahlstick/price.quantity" = some 210 := by kernel_rfl

theorem append_one {C : Ctx} {t u : TypeId} {ts : List TypeId} (ht : AppT C t u 1) {h0 h1 : Heap} {out v : Value} {l : List Value} {n : Nat} (f : Fr h0 h1) (hp : 0 < h1.next) (q : SL h0.next h1 out l 1 n) (hv : oneC v = true) (hn : n + 1 ≤ 4294967296) :
    ∃ h', aAppend C (t :: u :: ts) out (.slice (some ⟨h1.next, 0, some 1⟩) 1 1) (h1.alloc (.row [v] 1 true)) = some (.slice (some ⟨h1.next + 1, 0, some 1⟩) (n + 1) (n + 1), h') ∧ SL h0.next h' (.slice (some ⟨h1.next + 1, 0, some 1⟩) (n + 1) (n + 1)) (l ++ [v]) 1 (n + 1) ∧ Fr h0 h' ∧ h'.next = h1.next + 2 ∧ ∀ i, i < h1.next → blkOf out ≠ some i → h'.get i = h1.get i := by
  have q' : SL h0.next (h1.alloc (.row [v] 1 true)) out l 1 n := q.fr f.ok ((Fr.refl f.ok).alloc _)
  obtain ⟨h', e, q2, f2, n2, g2⟩ := append_at (ts := ts) ht (f.alloc (.row [v] 1 true)) (by simp) q' (x := .slice (some ⟨h1.next, 0, some 1⟩) 1 1) (new := [v]) (m := 0) rfl (by
    show obind (rowAt _ h1.next) (fun cells => take? cells 0 (1 * 1)) = _
    rw [rowAt_new]; rfl) (by simp [allOne_cons, hv, allOne_nil]) rfl hn
  exact ⟨h', e, q2, f2, by rw [n2]; simp, fun i hi hb => by rw [g2 i (by simp; omega) hb, Heap.get_alloc_ne _ _ (by omega)]⟩

def qty (k : Int) (b : Board) (hr : Int) : Int := if k = 1 then b.L else if k = 2 then b.F else if k = 3 then hr else 1
def kindV (k : Int) : Value := if k = 1 then .iface 186 (.agg ⟨[]⟩) else if k = 2 then .iface 187 (.agg ⟨[]⟩) else if k = 3 then .iface 188 (.agg ⟨[]⟩) else .iface 189 (.agg ⟨[]⟩)

theorem quantity_207 (x : Board) (hr : Int) {h : Heap} (hk : HOK h) : CW CC 207 [.agg ⟨[]⟩, .agg ⟨x.cells⟩, .int .i64 hr] h fun r h' => r = .int .i64 x.L ∧ Fr h h' := by
  obtain ⟨L, F, lo, hi, ow⟩ := x
  refine CW_in Tryz.f207 (by kernel_rfl) (by kernel_rfl) rfl rfl ?_
  simp only [Tryz.f207, Board.cells]
  simp (maxDischargeDepth := 30) only [AMS, AMH, ↓reduceIte, Nat.reduceLT, Nat.reduceEqDiff, Nat.reduceAdd, Nat.reduceMul, reduceCtorEq, decide_true, decide_false, Nat.reduceLeDiff, Int.reduceNe, Int.reduceEq, ne_eq, not_false_eq_true, and_self, fp_72_0, ld_3, hk]
  exact ⟨trivial, ((Fr.refl hk).alloc _).alloc _⟩
theorem quantity_208 (x : Board) (hr : Int) {h : Heap} (hk : HOK h) : CW CC 208 [.agg ⟨[]⟩, .agg ⟨x.cells⟩, .int .i64 hr] h fun r h' => r = .int .i64 x.F ∧ Fr h h' := by
  obtain ⟨L, F, lo, hi, ow⟩ := x
  refine CW_in Tryz.f208 (by kernel_rfl) (by kernel_rfl) rfl rfl ?_
  simp only [Tryz.f208, Board.cells]
  simp (maxDischargeDepth := 30) only [AMS, AMH, ↓reduceIte, Nat.reduceLT, Nat.reduceEqDiff, Nat.reduceAdd, Nat.reduceMul, reduceCtorEq, decide_true, decide_false, Nat.reduceLeDiff, Int.reduceNe, Int.reduceEq, ne_eq, not_false_eq_true, and_self, fp_72_1, ld_3, hk]
  exact ⟨trivial, ((Fr.refl hk).alloc _).alloc _⟩
theorem quantity_209 (x : Board) (hr : Int) {h : Heap} (hk : HOK h) : CW CC 209 [.agg ⟨[]⟩, .agg ⟨x.cells⟩, .int .i64 hr] h fun r h' => r = .int .i64 hr ∧ Fr h h' := by
  obtain ⟨L, F, lo, hi, ow⟩ := x
  refine CW_in Tryz.f209 (by kernel_rfl) (by kernel_rfl) rfl rfl ?_
  simp only [Tryz.f209, Board.cells]
  simp (maxDischargeDepth := 30) only [AMS, AMH, ↓reduceIte, Nat.reduceLT, Nat.reduceEqDiff, Nat.reduceAdd, Nat.reduceMul, reduceCtorEq, decide_true, decide_false, Nat.reduceLeDiff, Int.reduceNe, Int.reduceEq, ne_eq, not_false_eq_true, and_self, L_nil, hk]
  first | exact ⟨trivial, (Fr.refl hk).alloc _⟩ | exact ⟨trivial, Fr.refl hk⟩ | exact ⟨trivial, ((Fr.refl hk).alloc _).alloc _⟩
theorem quantity_210 (x : Board) (hr : Int) {h : Heap} (hk : HOK h) : CW CC 210 [.agg ⟨[]⟩, .agg ⟨x.cells⟩, .int .i64 hr] h fun r h' => r = .int .i64 1 ∧ Fr h h' := by
  obtain ⟨L, F, lo, hi, ow⟩ := x
  refine CW_in Tryz.f210 (by kernel_rfl) (by kernel_rfl) rfl rfl ?_
  simp only [Tryz.f210, Board.cells]
  simp (maxDischargeDepth := 30) only [AMS, AMH, ↓reduceIte, Nat.reduceLT, Nat.reduceEqDiff, Nat.reduceAdd, Nat.reduceMul, reduceCtorEq, decide_true, decide_false, Nat.reduceLeDiff, Int.reduceNe, Int.reduceEq, ne_eq, not_false_eq_true, and_self, L_nil, hk]
  first | exact ⟨trivial, (Fr.refl hk).alloc _⟩ | exact ⟨trivial, Fr.refl hk⟩ | exact ⟨trivial, ((Fr.refl hk).alloc _).alloc _⟩

theorem quantity_at {k : Int} (h1 : 1 ≤ k) (h4 : k ≤ 4) (x : Board) (hr : Int) {h : Heap} (hk : HOK h) :
    ∃ h', callM CC (Lim CC) (kindV k) "mahlstick/price.quantity" [.agg ⟨x.cells⟩, .int .i64 hr] h = some (.ret (.int .i64 (qty k x hr)) h' none) ∧ Fr h h' := by
  have c4 : k = 1 ∨ k = 2 ∨ k = 3 ∨ k = 4 := by omega
  rcases c4 with rfl | rfl | rfl | rfl
  · obtain ⟨_, h', e, rfl, f⟩ := quantity_207 x hr hk
    exact ⟨h', by simp only [kindV, qty, ↓reduceIte]; rw [callM_iface, fm_186, obind_some, e], f⟩
  · obtain ⟨_, h', e, rfl, f⟩ := quantity_208 x hr hk
    exact ⟨h', by simp only [kindV, qty, ↓reduceIte, Int.reduceEq]; rw [callM_iface, fm_187, obind_some, e], f⟩
  · obtain ⟨_, h', e, rfl, f⟩ := quantity_209 x hr hk
    exact ⟨h', by simp only [kindV, qty, ↓reduceIte, Int.reduceEq]; rw [callM_iface, fm_188, obind_some, e], f⟩
  · obtain ⟨_, h', e, rfl, f⟩ := quantity_210 x hr hk
    exact ⟨h', by simp only [kindV, qty, ↓reduceIte, Int.reduceEq]; rw [callM_iface, fm_189, obind_some, e], f⟩
theorem nil_kind {k : Int} (h1 : 1 ≤ k) (h4 : k ≤ 4) (ys : Array Value) : aNilCheck CC (.func (.method "mahlstick/price.quantity") ⟨[kindV k]⟩ ys) = some (.val (.func (.method "mahlstick/price.quantity") ⟨[kindV k]⟩ ys)) := by
  have c4 : k = 1 ∨ k = 2 ∨ k = 3 ∨ k = 4 := by omega
  rcases c4 with rfl | rfl | rfl | rfl
  · simp only [kindV, ↓reduceIte]; rw [nil_meth, fm_186]; rfl
  · simp only [kindV, ↓reduceIte, Int.reduceEq]; rw [nil_meth, fm_187]; rfl
  · simp only [kindV, ↓reduceIte, Int.reduceEq]; rw [nil_meth, fm_188]; rfl
  · simp only [kindV, ↓reduceIte, Int.reduceEq]; rw [nil_meth, fm_189]; rfl

set_option maxRecDepth 10000 in
theorem kindOf_138 {t : Tar} (h1 : 1 ≤ t.kind) (h4 : t.kind ≤ 4) {h : Heap} (hk : HOK h) : CW CC 138 [.agg ⟨t.cells⟩] h fun r h' => r = kindV t.kind ∧ Fr h h' := by
  obtain ⟨k, c, u, r, e⟩ := t
  refine CW_in Tryz.f138 (by kernel_rfl) (by kernel_rfl) rfl rfl ?_
  simp only [Tryz.f138, Tar.cells]
  have c4 : k = 1 ∨ k = 2 ∨ k = 3 ∨ k = 4 := by simp only at h1 h4; omega
  rcases c4 with rfl | rfl | rfl | rfl
  · have w : IntKind.i64.wrap ((1 : Int) - 1) = 0 := by decide
    simp (maxDischargeDepth := 30) only [AMS, AMH, ↓reduceIte, Nat.reduceLT, Nat.reduceEqDiff, Nat.reduceAdd, Nat.reduceMul, reduceCtorEq, decide_true, decide_false, Nat.reduceLeDiff, Int.reduceNe, Int.reduceEq, ne_eq, not_false_eq_true, and_self, bld_186, bld_187, bld_188, bld_189, bld_190, fp_41_0, ia_190_0, ia_190_1, ia_190_2, ia_190_3, ld_38, mi_186, mi_187, mi_188, mi_189, part_160, size_160, size_186, size_187, size_188, size_189, size_190, und_190, xi_190_0, xi_190_1, xi_190_2, xi_190_3, zero_186, zero_187, zero_188, zero_189, zero_190, hk, w]
    exact ⟨rfl, (Fr.refl hk).alloc _⟩
  · have w : IntKind.i64.wrap ((2 : Int) - 1) = 1 := by decide
    simp (maxDischargeDepth := 30) only [AMS, AMH, ↓reduceIte, Nat.reduceLT, Nat.reduceEqDiff, Nat.reduceAdd, Nat.reduceMul, reduceCtorEq, decide_true, decide_false, Nat.reduceLeDiff, Int.reduceNe, Int.reduceEq, ne_eq, not_false_eq_true, and_self, bld_186, bld_187, bld_188, bld_189, bld_190, fp_41_0, ia_190_0, ia_190_1, ia_190_2, ia_190_3, ld_38, mi_186, mi_187, mi_188, mi_189, part_160, size_160, size_186, size_187, size_188, size_189, size_190, und_190, xi_190_0, xi_190_1, xi_190_2, xi_190_3, zero_186, zero_187, zero_188, zero_189, zero_190, hk, w]
    exact ⟨rfl, (Fr.refl hk).alloc _⟩
  · have w : IntKind.i64.wrap ((3 : Int) - 1) = 2 := by decide
    simp (maxDischargeDepth := 30) only [AMS, AMH, ↓reduceIte, Nat.reduceLT, Nat.reduceEqDiff, Nat.reduceAdd, Nat.reduceMul, reduceCtorEq, decide_true, decide_false, Nat.reduceLeDiff, Int.reduceNe, Int.reduceEq, ne_eq, not_false_eq_true, and_self, bld_186, bld_187, bld_188, bld_189, bld_190, fp_41_0, ia_190_0, ia_190_1, ia_190_2, ia_190_3, ld_38, mi_186, mi_187, mi_188, mi_189, part_160, size_160, size_186, size_187, size_188, size_189, size_190, und_190, xi_190_0, xi_190_1, xi_190_2, xi_190_3, zero_186, zero_187, zero_188, zero_189, zero_190, hk, w]
    exact ⟨rfl, (Fr.refl hk).alloc _⟩
  · have w : IntKind.i64.wrap ((4 : Int) - 1) = 3 := by decide
    simp (maxDischargeDepth := 30) only [AMS, AMH, ↓reduceIte, Nat.reduceLT, Nat.reduceEqDiff, Nat.reduceAdd, Nat.reduceMul, reduceCtorEq, decide_true, decide_false, Nat.reduceLeDiff, Int.reduceNe, Int.reduceEq, ne_eq, not_false_eq_true, and_self, bld_186, bld_187, bld_188, bld_189, bld_190, fp_41_0, ia_190_0, ia_190_1, ia_190_2, ia_190_3, ld_38, mi_186, mi_187, mi_188, mi_189, part_160, size_160, size_186, size_187, size_188, size_189, size_190, und_190, xi_190_0, xi_190_1, xi_190_2, xi_190_3, zero_186, zero_187, zero_188, zero_189, zero_190, hk, w]
    exact ⟨rfl, (Fr.refl hk).alloc _⟩
end Go.Am

/- The abstract machine, part 51: contracts: quantities of boards. -/
namespace Go.Am
open Go Go.Proofs

def qtys (t : Tar) (bs : List Board) (hs : List Int) : List Int := (bs.zip hs).map fun p => qty t.kind p.1 p.2
theorem qtys_len {t : Tar} {bs : List Board} {hs : List Int} (h : hs.length = bs.length) : (qtys t bs hs).length = bs.length := by simp [qtys, h]
theorem qtys_get {t : Tar} {bs : List Board} {hs : List Int} {i : Nat} {b : Board} {x : Int} (h1 : bs[i]? = some b) (h2 : hs[i]? = some x) : (qtys t bs hs)[i]? = some (qty t.kind b x) := by
  simp only [qtys, List.getElem?_map]
  rw [List.getElem?_zip_eq_some (z := (b, x)) |>.2 ⟨h1, h2⟩]; rfl
theorem take_snoc {α : Type} {l : List α} {i : Nat} {x : α} (h : l[i]? = some x) : l.take (i + 1) = l.take i ++ [x] := by
  rw [List.take_add_one, h]; rfl

/-- a bill in memory: a sheet, hours, the map of prices -/
structure IsBill (h : Heap) (v : Value) (s : Sheet) (hs : List Int) (m : Nat) : Prop where
  ex : ∃ a b c d, v = .agg ⟨[a, b, c, d, .map (some m)]⟩ ∧ IsSheet h a b c s ∧ LS h d hs ints 1
theorem IsBill.fr {h h' : Heap} {v : Value} {s : Sheet} {hs : List Int} {m : Nat} (q : IsBill h v s hs m) (hk : HOK h) (f : Fr h h') : IsBill h' v s hs m := by
  obtain ⟨a, b, c, d, e, q1, q2⟩ := q.ex
  exact ⟨a, b, c, d, e, q1.fr hk f, q2.fr hk f⟩

set_option maxRecDepth 10000 in
set_option maxHeartbeats 1000000 in
theorem quantities_107 {h : Heap} (hk : HOK h) (hp : 0 < h.next) {v : Value} {s : Sheet} {hs : List Int} {m : Nat} {t : Tar} (hv : IsBill h v s hs m) (h1 : 1 ≤ t.kind) (h4 : t.kind ≤ 4) (hl : hs.length = s.boards.length) (hn : s.boards.length ≤ 1000) :
    CW CC 107 [v, .agg ⟨t.cells⟩] h fun r h' => SL h.next h' r ((qtys t s.boards hs).flatMap ints) 1 s.boards.length ∧ Fr h h' := by
  obtain ⟨a, b, c, d, rfl, hsh, hh⟩ := hv.ex
  obtain ⟨p1, c1, rfl, _⟩ := hsh.offs.open
  obtain ⟨p2, c2, rfl, x2⟩ := hsh.boards.open
  obtain ⟨p3, c3, rfl, _⟩ := hsh.tars.open
  obtain ⟨p4, c4, rfl, x4⟩ := hh.open
  refine CW_in Tryz.f107 (by kernel_rfl) (by kernel_rfl) rfl rfl ?_
  simp only [Tryz.f107]
  have kt : take? t.cells 0 5 = some t.cells := rfl
  simp (maxDischargeDepth := 30) only [AMS, AMH, ↓reduceIte, Nat.reduceLT, Nat.reduceEqDiff, Nat.reduceAdd, Nat.reduceMul, reduceCtorEq, decide_true, decide_false, Nat.reduceLeDiff, Int.reduceNe, Int.reduceEq, ne_eq, not_false_eq_true, and_self, bs_22, fp_26_1, fp_94_0, fp_94_1, ix_22, ix_23, ld_22, ld_23, ld_3, ld_41, ld_72, len_23, part_3, part_72, size_22, size_23, size_3, size_72, und_22, und_23, zero_22, zero_23, zero_72, hk, kt]
  refine W_call (kindOf_138 h1 h4 (hk.alloc _ |>.alloc _)) ?_
  rintro _ h2 ⟨rfl, fr2⟩
  have f1 : ∀ x y, Fr h ((h.alloc x).alloc y) := fun x y => ((Fr.refl hk).alloc x).alloc y
  have r1 : rowAt ((h.alloc (.row [.slice p1 s.offs.length c1, .slice p2 s.boards.length c2, .slice p3 s.tars.length c3, .slice p4 hs.length c4, .map (some m)] 0 true)).alloc (.row t.cells 0 true)) h.next = some [.slice p1 s.offs.length c1, .slice p2 s.boards.length c2, .slice p3 s.tars.length c3, .slice p4 hs.length c4, .map (some m)] := by
    rw [rowAt_old _ (by simp), rowAt_new]
  have f2 := (f1 _ _).trans fr2
  have r2 := fr2.row' (f1 _ _).ok r1
  have m2 : h.next < h2.next := by have := fr2.next; simp at this; omega
  clear r1 f1
  simp (maxDischargeDepth := 30) only [AMS, AMH, ↓reduceIte, Nat.reduceLT, Nat.reduceEqDiff, Nat.reduceAdd, Nat.reduceMul, reduceCtorEq, decide_true, decide_false, Nat.reduceLeDiff, Int.reduceNe, Int.reduceEq, ne_eq, not_false_eq_true, and_self, bs_22, fp_26_1, fp_94_0, fp_94_1, ix_22, ix_23, ld_22, ld_23, ld_3, ld_41, ld_72, len_23, part_3, part_72, size_22, size_23, size_3, size_72, und_22, und_23, zero_22, zero_23, zero_72, hk, r2, m2]
  refine W_loop s.boards.length (fun m' f h' => ∃ i, i ≤ s.boards.length ∧ m' = s.boards.length - i ∧ f 2 = .pointer (some ⟨h.next, 0, none⟩) ∧ f 6 = kindV t.kind ∧ f 13 = .slice p2 s.boards.length c2 ∧ f 14 = .int .i64 s.boards.length ∧ f 15 = .int .i64 i ∧
      SL h.next h' (f 5) (((qtys t s.boards hs).take i).flatMap ints) 1 i ∧ blkOf (f 5) ≠ some h.next ∧ Fr h h' ∧ h.next < h'.next ∧ rowAt h' h.next = some [.slice p1 s.offs.length c1, .slice p2 s.boards.length c2, .slice p3 s.tars.length c3, .slice p4 hs.length c4, .map (some m)])
    ⟨0, by omega, by omega, by simp [upd_at], by simp [upd_at], by simp [upd_at], by simp [upd_at], by simp [upd_at], by simpa [upd_at] using SL.nil h.next h2 1, by simp [upd_at, blkOf], f2, m2, r2⟩ ?_
  clear f2 r2 m2 fr2 h2
  rintro m' f h' ⟨i, hi, rfl, g2, g6, g13, g14, g15, q5, nb, fr, m2, r2⟩ ih
  have k' := fr.ok
  by_cases hil : i < s.boards.length
  · obtain ⟨x, gx⟩ : ∃ x, s.boards[i]? = some x := ⟨_, List.getElem?_eq_getElem hil⟩
    have hil' : i < hs.length := by omega
    obtain ⟨y, gy⟩ : ∃ y, hs[i]? = some y := ⟨_, List.getElem?_eq_getElem hil'⟩
    rcases x2 with hx | ⟨b2, o2, sp2, row2, rfl, rr2, x2⟩
    · rw [hx] at hil; simp at hil
    rcases x4 with hx | ⟨b4, o4, sp4, row4, rfl, rr4, x4⟩
    · rw [hx] at hil'; simp at hil'
    have e1 : take? row2 (o2 + i * 5) 5 = some x.cells := (x2 _ _ gx).1
    have e2 : row4[o4 + i]? = some (.int .i64 y) := by simpa [ints] using (x4 _ _ gy).2 0 (by omega)
    have rr2' := fr.row' hk rr2
    have rr4' := fr.row' hk rr4
    have n4 : b4 < h'.next := Nat.lt_of_lt_of_le (row_lt hk rr4) fr.next
    have kx : take? x.cells 0 5 = some x.cells := rfl
    have lx : x.cells.length = 5 := rfl
    have ax : allOne x.cells = true := rfl
    simp (maxDischargeDepth := 30) only [AMS, AMH, ↓reduceIte, Nat.reduceLT, Nat.reduceEqDiff, Nat.reduceAdd, Nat.reduceMul, reduceCtorEq, decide_true, decide_false, Nat.reduceLeDiff, Int.reduceNe, Int.reduceEq, ne_eq, not_false_eq_true, and_self, bs_22, fp_26_1, fp_94_0, fp_94_1, ix_22, ix_23, ld_22, ld_23, ld_3, ld_41, ld_72, len_23, part_3, part_72, size_22, size_23, size_3, size_72, und_22, und_23, zero_22, zero_23, zero_72, k', g2, g6, g13, g14, g15, r2, m2, lt_t hil, hil, rr2', e1, kx, lx, ax]
    refine W_draw [(true, 0), (true, 1), (true, 2), (true, 3), (true, 4), (true, 5), (true, 6), (true, 7), (true, 8), (true, 9), (true, 10), (true, 11), (true, 12), (true, 13), (true, 14)] (by kernel_rfl) ?_
    have fb : Fr h ((h'.alloc (.row [.int .i64 0, .int .i64 0, .int .i64 0, .int .i64 0, .int .i64 0] 0 true)).set h'.next (.row x.cells 0 true)) := (fr.alloc _).set (by omega) (by simp) _
    obtain ⟨h3, e3, fr3⟩ := quantity_at h1 h4 x y fb.ok
    have f3 := fb.trans fr3
    have k3 := f3.ok
    have q3 : SL h.next h3 (f 5) (((qtys t s.boards hs).take i).flatMap ints) 1 i := by
      refine (q5.keep (h' := (h'.alloc (.row [.int .i64 0, .int .i64 0, .int .i64 0, .int .i64 0, .int .i64 0] 0 true)).set h'.next (.row x.cells 0 true)) fun b hb => ?_).fr fb.ok fr3
      have := (q5.blk_lt k' hb).2
      rw [Heap.get_set_ne _ _ (by omega), Heap.get_alloc_ne _ _ (by omega)]
    have m3 : h.next < h3.next := by have := fr3.next; simp at this; omega
    have r3 : rowAt h3 h.next = some [.slice p1 s.offs.length c1, .slice (some ⟨b2, o2, sp2⟩) s.boards.length c2, .slice p3 s.tars.length c3, .slice (some ⟨b4, o4, sp4⟩) hs.length c4, .map (some m)] := by
      refine fr3.row' fb.ok ?_
      rw [rowAt_set_lt _ m2, rowAt_old _ m2]; exact r2
    obtain ⟨h5, e5, q5', f5, n5, g5⟩ := append_one (ts := []) app_22 f3 (by omega) q3 (v := .int .i64 (qty t.kind x y)) rfl (by omega)
    simp (maxDischargeDepth := 30) only [AMS, AMH, ↓reduceIte, Nat.reduceLT, Nat.reduceEqDiff, Nat.reduceAdd, Nat.reduceMul, reduceCtorEq, decide_true, decide_false, Nat.reduceLeDiff, Int.reduceNe, Int.reduceEq, ne_eq, not_false_eq_true, and_self, bs_22, fp_26_1, fp_94_0, fp_94_1, ix_22, ix_23, ld_22, ld_23, ld_3, ld_41, ld_72, len_23, part_3, part_72, size_22, size_23, size_3, size_72, und_22, und_23, zero_22, zero_23, zero_72, k', k3, g2, g6, g13, g14, g15, r2, m2, n4, hil', rr4', Nat.mul_one, e2, kx, lx, nil_kind h1 h4, e3, bs_22 (cells_int _ _), e5, i_next hil hn]
    refine ih (s.boards.length - (i + 1)) _ _ (by omega) ?_
    refine ⟨i + 1, by omega, rfl, by simp [upd_at, g2], by simp [upd_at, g6], by simp [upd_at, g13], by simp [upd_at, g14], by simp [upd_at], ?_, by simp [upd_at, blkOf]; omega, f5, by omega, ?_⟩
    · rw [take_snoc (qtys_get gx gy), List.flatMap_append]
      simpa [upd_at, ints] using q5'
    · unfold rowAt
      rw [g5 _ m3 nb]
      exact r3
  · have : i = s.boards.length := by omega
    subst this
    simp (maxDischargeDepth := 30) only [AMS, AMH, ↓reduceIte, Nat.reduceLT, Nat.reduceEqDiff, Nat.reduceAdd, Nat.reduceMul, reduceCtorEq, decide_true, decide_false, Nat.reduceLeDiff, Int.reduceNe, Int.reduceEq, ne_eq, not_false_eq_true, and_self, bs_22, fp_26_1, fp_94_0, fp_94_1, ix_22, ix_23, ld_22, ld_23, ld_3, ld_41, ld_72, len_23, part_3, part_72, size_22, size_23, size_3, size_72, und_22, und_23, zero_22, zero_23, zero_72, k', g2, g6, g13, g14, g15, lt_f]
    refine ⟨?_, fr⟩
    rw [List.take_of_length_le (by rw [qtys_len hl]; exact Nat.le_refl _)] at q5
    exact q5
end Go.Am
