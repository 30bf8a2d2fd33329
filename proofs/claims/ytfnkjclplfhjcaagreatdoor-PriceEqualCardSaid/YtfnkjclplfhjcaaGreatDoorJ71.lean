/- Parts 71, 72, 73, 74 of the abstract machine over this program, joined: what each part says stands at its head. -/
import Derived.Test.YtfnkjclplfhjcaaGreatDoorJ56
set_option linter.unusedSimpArgs false
set_option linter.unusedVariables false
/- The abstract machine, part 71: contracts: Parts; what Total and Parts answer to what is not as defined. -/
namespace Go.Am
open Go Go.Proofs

/-- a sheet is as defined, and has a tariff and hours -/
def goodB (s : Sheet) (t : Int) (l : List Int) : Bool := (s.ok && inP t 0 (s.tars.length - 1)) && hoursOK s.boards l

theorem goodB_at {s : Sheet} {t : Int} {l : List Int} (h : goodB s t l = true) : s.ok = true ∧ hoursOK s.boards l = true ∧ ∃ (i : Nat) (T : Tar), t = i ∧ s.tars[i]? = some T := by
  unfold goodB at h
  simp only [Bool.and_eq_true] at h
  obtain ⟨⟨ok, hin⟩, hl⟩ := h
  have hin := of_decide_eq_true hin
  obtain ⟨i, rfl⟩ : ∃ i : Nat, t = i := ⟨t.toNat, by omega⟩
  exact ⟨ok, hl, i, _, rfl, List.getElem?_eq_getElem (by omega)⟩

set_option maxRecDepth 10000 in
set_option maxHeartbeats 1000000 in
theorem total_25_bad {h : Heap} (hk : HOK h) {a b c v : Value} {s : Sheet} {l : List Int} (t : Int) (hs : IsSheet h a b c s) (hv : LS h v l ints 1) (hn : s.tars.length ≤ 100) (hl : l.length ≤ 1000) (hb : s.boards.length ≤ 1000) (bad : goodB s t l = false) :
    CW CC 25 [.agg ⟨[a, b, c]⟩, .int .i64 t, v] h fun r h' => r = .tuple ⟨[.int .i64 0, .int .i64 2]⟩ ∧ Fr h h' := by
  obtain ⟨p1, c1, rfl, _⟩ := hs.offs.open
  obtain ⟨p2, c2, rfl, _⟩ := hs.boards.open
  obtain ⟨p3, c3, rfl, x3⟩ := hs.tars.open
  obtain ⟨p4, c4, rfl, _⟩ := hv.open
  refine CW_in Tryz.f25 (by kernel_rfl) (by kernel_rfl) rfl rfl ?_
  simp only [Tryz.f25]
  have f1 : Fr h (h.alloc (.row [.slice p1 s.offs.length c1, .slice p2 s.boards.length c2, .slice p3 s.tars.length c3] 0 true)) := (Fr.refl hk).alloc _
  have r1 : rowAt (h.alloc (.row [.slice p1 s.offs.length c1, .slice p2 s.boards.length c2, .slice p3 s.tars.length c3] 0 true)) h.next = some [.slice p1 s.offs.length c1, .slice p2 s.boards.length c2, .slice p3 s.tars.length c3] := rowAt_new _ _ _ _
  obtain ⟨_, h2, e2, rfl, fr2⟩ := isOne_70 f1.ok (hs.fr hk f1) t (by omega)
  have f2 := f1.trans fr2
  have r2 := fr2.row' f1.ok r1
  unfold goodB at bad
  cases hone : (s.ok && inP t 0 (s.tars.length - 1)) with
  | false =>
    rw [hone] at e2
    simp (maxDischargeDepth := 30) only [AMS, AMH, ↓reduceIte, Nat.reduceLT, Nat.reduceEqDiff, Nat.reduceAdd, Nat.reduceMul, reduceCtorEq, decide_true, decide_false, Nat.reduceLeDiff, Int.reduceNe, Int.reduceEq, ne_eq, not_false_eq_true, and_self, fp_26_2, ix_24, ld_24, ld_26, ld_41, part_41, size_24, size_41, und_24, zero_24, hk, e2, f2.ok, r2]
    exact ⟨trivial, f2⟩
  | true =>
    rw [hone] at e2 bad
    simp only [Bool.true_and] at bad
    obtain ⟨_, h3, e4, rfl, fr3⟩ := areHours_74 f2.ok (hs.fr hk f2) (hv.fr hk f2) (by omega) (by omega)
    rw [bad] at e4
    have f3 := f2.trans fr3
    simp (maxDischargeDepth := 30) only [AMS, AMH, ↓reduceIte, Nat.reduceLT, Nat.reduceEqDiff, Nat.reduceAdd, Nat.reduceMul, reduceCtorEq, decide_true, decide_false, Nat.reduceLeDiff, Int.reduceNe, Int.reduceEq, ne_eq, not_false_eq_true, and_self, fp_26_2, ix_24, ld_24, ld_26, ld_41, part_41, size_24, size_41, und_24, zero_24, hk, e2, f2.ok, r2, e4]
    exact ⟨trivial, f3⟩

set_option maxRecDepth 10000 in
set_option maxHeartbeats 1000000 in
theorem parts_30_bad {h : Heap} (hk : HOK h) {a b c v : Value} {s : Sheet} {l : List Int} (t : Int) (hs : IsSheet h a b c s) (hv : LS h v l ints 1) (hn : s.tars.length ≤ 100) (hl : l.length ≤ 1000) (hb : s.boards.length ≤ 1000) (bad : goodB s t l = false) :
    CW CC 30 [.agg ⟨[a, b, c]⟩, .int .i64 t, v] h fun r h' => r = .tuple ⟨[.slice none 0 0, .int .i64 2]⟩ ∧ Fr h h' := by
  obtain ⟨p1, c1, rfl, _⟩ := hs.offs.open
  obtain ⟨p2, c2, rfl, _⟩ := hs.boards.open
  obtain ⟨p3, c3, rfl, x3⟩ := hs.tars.open
  obtain ⟨p4, c4, rfl, _⟩ := hv.open
  refine CW_in Tryz.f30 (by kernel_rfl) (by kernel_rfl) rfl rfl ?_
  simp only [Tryz.f30]
  have f1 : Fr h (h.alloc (.row [.slice p1 s.offs.length c1, .slice p2 s.boards.length c2, .slice p3 s.tars.length c3] 0 true)) := (Fr.refl hk).alloc _
  have r1 : rowAt (h.alloc (.row [.slice p1 s.offs.length c1, .slice p2 s.boards.length c2, .slice p3 s.tars.length c3] 0 true)) h.next = some [.slice p1 s.offs.length c1, .slice p2 s.boards.length c2, .slice p3 s.tars.length c3] := rowAt_new _ _ _ _
  obtain ⟨_, h2, e2, rfl, fr2⟩ := isOne_70 f1.ok (hs.fr hk f1) t (by omega)
  have f2 := f1.trans fr2
  have r2 := fr2.row' f1.ok r1
  unfold goodB at bad
  cases hone : (s.ok && inP t 0 (s.tars.length - 1)) with
  | false =>
    rw [hone] at e2
    simp (maxDischargeDepth := 30) only [AMS, AMH, ↓reduceIte, Nat.reduceLT, Nat.reduceEqDiff, Nat.reduceAdd, Nat.reduceMul, reduceCtorEq, decide_true, decide_false, Nat.reduceLeDiff, Int.reduceNe, Int.reduceEq, ne_eq, not_false_eq_true, and_self, fp_26_2, ix_24, ld_24, ld_26, ld_41, part_41, size_24, size_41, und_24, zero_24, hk, e2, f2.ok, r2]
    exact ⟨trivial, f2⟩
  | true =>
    rw [hone] at e2 bad
    simp only [Bool.true_and] at bad
    obtain ⟨_, h3, e4, rfl, fr3⟩ := areHours_74 f2.ok (hs.fr hk f2) (hv.fr hk f2) (by omega) (by omega)
    rw [bad] at e4
    have f3 := f2.trans fr3
    simp (maxDischargeDepth := 30) only [AMS, AMH, ↓reduceIte, Nat.reduceLT, Nat.reduceEqDiff, Nat.reduceAdd, Nat.reduceMul, reduceCtorEq, decide_true, decide_false, Nat.reduceLeDiff, Int.reduceNe, Int.reduceEq, ne_eq, not_false_eq_true, and_self, fp_26_2, ix_24, ld_24, ld_26, ld_41, part_41, size_24, size_41, und_24, zero_24, hk, e2, f2.ok, r2, e4]
    exact ⟨trivial, f3⟩

set_option maxRecDepth 10000 in
set_option maxHeartbeats 1000000 in
theorem parts_30 {h : Heap} (hk : HOK h) (hp : 0 < h.next) {a b c v : Value} {s : Sheet} {l : List Int} {i : Nat} {t : Tar} (hs : IsSheet h a b c s) (hv : LS h v l ints 1) (ok : s.ok = true) (hl : hoursOK s.boards l = true) (ht : s.tars[i]? = some t) :
    CW CC 30 [.agg ⟨[a, b, c]⟩, .int .i64 i, v] h fun r h' => ∃ x, r = .tuple ⟨[x, .int .i64 0]⟩ ∧ LS h' x (parts t s.boards l) ints 1 ∧ Fr h h' := by
  have hlen := Sheet.ok_len ok
  have hil := (List.getElem?_eq_some_iff.1 ht).1
  have hll := (hoursOK_at hl).1
  have htok := Sheet.ok_tars ok t (List.mem_of_getElem? ht)
  have hq := qtys_b ok hl t
  obtain ⟨p1, c1, rfl, _⟩ := hs.offs.open
  obtain ⟨p2, c2, rfl, _⟩ := hs.boards.open
  obtain ⟨p3, c3, rfl, x3⟩ := hs.tars.open
  obtain ⟨p4, c4, rfl, _⟩ := hv.open
  obtain ⟨b3, o3, sp3, row3, rfl, rr3, e3⟩ := LS.at (n := 0) (c := 0) x3 ht
  refine CW_in Tryz.f30 (by kernel_rfl) (by kernel_rfl) rfl rfl ?_
  simp only [Tryz.f30]
  have f1 : Fr h (h.alloc (.row [.slice p1 s.offs.length c1, .slice p2 s.boards.length c2, .slice (some ⟨b3, o3, sp3⟩) s.tars.length c3] 0 true)) := (Fr.refl hk).alloc _
  have r1 : rowAt (h.alloc (.row [.slice p1 s.offs.length c1, .slice p2 s.boards.length c2, .slice (some ⟨b3, o3, sp3⟩) s.tars.length c3] 0 true)) h.next = some [.slice p1 s.offs.length c1, .slice p2 s.boards.length c2, .slice (some ⟨b3, o3, sp3⟩) s.tars.length c3] := rowAt_new _ _ _ _
  obtain ⟨_, h2, e2, rfl, fr2⟩ := isOne_70 f1.ok (hs.fr hk f1) (i : Int) (by omega)
  have f2 := f1.trans fr2
  have r2 := fr2.row' f1.ok r1
  have hin : (s.ok && inP i 0 (s.tars.length - 1)) = true := by
    rw [ok]; simp [inP]; omega
  rw [hin] at e2
  obtain ⟨_, h3, e4, rfl, fr3⟩ := areHours_74 f2.ok (hs.fr hk f2) (hv.fr hk f2) (by omega) (by omega)
  rw [hl] at e4
  have f3 := f2.trans fr3
  have r3 := fr3.row' f2.ok r2
  have kt : take? t.cells 0 5 = some t.cells := rfl
  have kc : t.cells.all selfC = true := rfl
  simp (maxDischargeDepth := 30) only [AMS, AMH, ↓reduceIte, Nat.reduceLT, Nat.reduceEqDiff, Nat.reduceAdd, Nat.reduceMul, reduceCtorEq, decide_true, decide_false, Nat.reduceLeDiff, Int.reduceNe, Int.reduceEq, ne_eq, not_false_eq_true, and_self, fp_26_2, ix_24, ld_24, ld_26, ld_41, part_41, size_24, size_41, und_24, zero_24, hk, e2, f2.ok, r2, e4]
  refine W_draw [(true, 0), (true, 1), (true, 3), (true, 4), (true, 5), (true, 6), (true, 7), (true, 2), (false, 4), (false, 7), (true, 8), (true, 9), (true, 10)] (by kernel_rfl) ?_
  have rr3' := f3.row' hk rr3
  simp (maxDischargeDepth := 30) only [AMS, AMH, ↓reduceIte, Nat.reduceLT, Nat.reduceEqDiff, Nat.reduceAdd, Nat.reduceMul, reduceCtorEq, decide_true, decide_false, Nat.reduceLeDiff, Int.reduceNe, Int.reduceEq, ne_eq, not_false_eq_true, and_self, fp_26_2, ix_24, ld_24, ld_26, ld_41, part_41, size_24, size_41, und_24, zero_24, f3.ok, r3, hil, rr3', e3]
  refine W_callP (bill_72 f3.ok (hs.fr hk f3) (hv.fr hk f3)) ?_
  rintro bv h4 ⟨m, fr4, hm4, hb4, hmap⟩
  have f4 := f3.trans fr4
  have r4 := fr4.row' f3.ok r3
  have rr4' := f4.row' hk rr3
  simp (maxDischargeDepth := 30) only [AMS, AMH, ↓reduceIte, Nat.reduceLT, Nat.reduceEqDiff, Nat.reduceAdd, Nat.reduceMul, reduceCtorEq, decide_true, decide_false, Nat.reduceLeDiff, Int.reduceNe, Int.reduceEq, ne_eq, not_false_eq_true, and_self, AMR, fp_26_2, ix_24, ld_24, ld_26, ld_41, part_41, size_24, size_41, und_24, zero_24, f4.ok, r4, hil, rr4', e3, kc]
  refine W_callP (parts_75 (t := t) f4.ok (by have := f4.next; omega) hb4 hmap htok hll (by omega) fun x hx => by have := hq x hx; omega) ?_
  rintro x h5 ⟨q, F5⟩
  have plen : (parts t s.boards l).length = s.boards.length := by unfold parts; rw [List.length_map, qtys_len hll]
  have q' : LS h5 x (parts t s.boards l) ints 1 := SL.ls ints_len (by rw [plen]; exact q)
  obtain ⟨px, cx, rfl⟩ := q.value
  simp (maxDischargeDepth := 30) only [AMS, AMH, ↓reduceIte, Nat.reduceLT, Nat.reduceEqDiff, Nat.reduceAdd, Nat.reduceMul, reduceCtorEq, decide_true, decide_false, Nat.reduceLeDiff, Int.reduceNe, Int.reduceEq, ne_eq, not_false_eq_true, and_self, AMR, fp_26_2, ix_24, ld_24, ld_26, ld_41, part_41, size_24, size_41, und_24, zero_24]
  exact ⟨_, rfl, q', F5.fr f4 (by have := f3.next; omega)⟩
end Go.Am

/- The abstract machine, part 72: contracts of the specification: Quantity, Rounded, Sum. -/
namespace Go.Am
open Go Go.Proofs

/- PLAIN: the document's rounding, and the program's -/
def refUp (rule a b : Int) : Bool :=
  if rule = 2 then decide (a - a / b * b > 0) else if rule = 3 then decide (2 * (a - a / b * b) ≥ b) else if rule = 4 then (decide (2 * (a - a / b * b) > b) || (2 * (a - a / b * b) == b && a / b % 2 == 1)) else false
def refRnd (rule a b : Int) : Int := if refUp rule a b then a / b + 1 else a / b

theorem div_at {a b q r : Int} (hb : 0 < b) (h : r + b * q = a) (h0 : 0 ≤ r) (h1 : r < b) : a / b = q := ((Int.ediv_emod_unique hb).2 ⟨h, h0, h1⟩).1

theorem refRnd_eq {rule a b : Int} (hb : 1 ≤ b) (h1 : 1 ≤ rule) (h4 : rule ≤ 4) : refRnd rule a b = rnd (rule - 1) a b := by
  have hr0 := Int.emod_nonneg a (show b ≠ 0 by omega)
  have hr1 := Int.emod_lt_of_pos a (show 0 < b by omega)
  have e := Int.emod_add_mul_ediv a b
  have er : a - a / b * b = a % b := by rw [Int.mul_comm (a / b) b]; omega
  unfold refRnd refUp rnd rDown rUp rEven rNear
  rw [er]
  generalize a / b = n at *
  generalize a % b = r at *
  have m1 : b * (n + 1) = b * n + b := by rw [Int.mul_add]; omega
  have m2 : 2 * b * n = 2 * (b * n) := by rw [Int.mul_assoc]
  have m3 : 2 * b * (n + 1) = 2 * (b * n) + 2 * b := by rw [Int.mul_add, m2]; omega
  have near : (2 * a + b) / (2 * b) = if 2 * r ≥ b then n + 1 else n := by
    split
    · exact div_at (r := 2 * r - b) (by omega) (by rw [m3]; omega) (by omega) (by omega)
    · exact div_at (r := 2 * r + b) (by omega) (by rw [m2]; omega) (by omega) (by omega)
  have up : (a + b - 1) / b = if r > 0 then n + 1 else n := by
    split
    · exact div_at (r := r - 1) (by omega) (by rw [m1]; omega) (by omega) (by omega)
    · exact div_at (r := b - 1) (by omega) (by omega) (by omega) (by omega)
  have hc : rule = 1 ∨ rule = 2 ∨ rule = 3 ∨ rule = 4 := by omega
  rcases hc with rfl | rfl | rfl | rfl
  · simp
  · rw [up]; simp
  · rw [near]; simp
  · rw [near]
    simp only [show (4 : Int) = 2 ↔ False by decide, show (4 : Int) = 3 ↔ False by decide, if_false, if_true, show (4 : Int) - 1 = 0 ↔ False by decide, show (4 : Int) - 1 = 1 ↔ False by decide, show (4 : Int) - 1 = 2 ↔ False by decide]
    by_cases c1 : 2 * r > b
    · have c2 : 2 * r ≥ b := by omega
      have c3 : ¬ (2 * a + b = 2 * b * (n + 1)) := by rw [m3]; omega
      simp [c1, c2, c3]
    · by_cases c2 : 2 * r = b
      · have c3 : 2 * r ≥ b := by omega
        have c4 : 2 * a + b = 2 * b * (n + 1) := by rw [m3]; omega
        have c5 : ¬ b < 2 * r := by omega
        by_cases c6 : n % 2 = 1
        · have c7 : ¬ (n + 1) % 2 = 1 := by omega
          simp [c2, c3, c4, c5, c6, c7]
        · have c7 : (n + 1) % 2 = 1 := by omega
          simp [c2, c3, c4, c5, c6, c7]
      · have c3 : ¬ 2 * r ≥ b := by omega
        have c4 : ¬ (2 * a + b = 2 * b * n) := by rw [m2]; omega
        have c5 : ¬ b < 2 * r := by omega
        simp [c1, c2, c3, c4, c5]

theorem quantity_79 {k : Int} (x : Board) (hr : Int) {h : Heap} (hk : HOK h) : CW CC 79 [.agg ⟨x.cells⟩, .int .i64 k, .int .i64 hr] h fun r h' => r = .int .i64 (qty k x hr) ∧ Fr h h' := by
  refine CW_in Tryz.f79 (by kernel_rfl) (by kernel_rfl) rfl rfl ?_
  simp only [Tryz.f79]
  have f1 : Fr h (h.alloc (.row x.cells 0 true)) := (Fr.refl hk).alloc _
  have r1 : rowAt (h.alloc (.row x.cells 0 true)) h.next = some x.cells := rowAt_new _ _ _ _
  unfold qty
  cases c1 : (k == 1) with
  | true =>
    have : k = 1 := by simpa using c1
    simp (maxDischargeDepth := 30) only [AMS, AMH, ↓reduceIte, Nat.reduceLT, Nat.reduceEqDiff, Nat.reduceAdd, Nat.reduceMul, reduceCtorEq, decide_true, decide_false, Nat.reduceLeDiff, Int.reduceNe, Int.reduceEq, ne_eq, not_false_eq_true, and_self, fp_72_0, fp_72_1, ld_3, hk, c1, r1, Board.cells]
    exact ⟨by simp [this], f1⟩
  | false =>
  have d1 : ¬ k = 1 := by simpa using c1
  cases c2 : (k == 2) with
  | true =>
    have : k = 2 := by simpa using c2
    simp (maxDischargeDepth := 30) only [AMS, AMH, ↓reduceIte, Nat.reduceLT, Nat.reduceEqDiff, Nat.reduceAdd, Nat.reduceMul, reduceCtorEq, decide_true, decide_false, Nat.reduceLeDiff, Int.reduceNe, Int.reduceEq, ne_eq, not_false_eq_true, and_self, fp_72_0, fp_72_1, ld_3, hk, c1, c2, r1, Board.cells]
    exact ⟨by simp [this], f1⟩
  | false =>
  have d2 : ¬ k = 2 := by simpa using c2
  cases c3 : (k == 3) with
  | true =>
    have : k = 3 := by simpa using c3
    simp (maxDischargeDepth := 30) only [AMS, AMH, ↓reduceIte, Nat.reduceLT, Nat.reduceEqDiff, Nat.reduceAdd, Nat.reduceMul, reduceCtorEq, decide_true, decide_false, Nat.reduceLeDiff, Int.reduceNe, Int.reduceEq, ne_eq, not_false_eq_true, and_self, fp_72_0, fp_72_1, ld_3, hk, c1, c2, c3]
    exact ⟨by simp [this], f1⟩
  | false =>
    have d3 : ¬ k = 3 := by simpa using c3
    simp (maxDischargeDepth := 30) only [AMS, AMH, ↓reduceIte, Nat.reduceLT, Nat.reduceEqDiff, Nat.reduceAdd, Nat.reduceMul, reduceCtorEq, decide_true, decide_false, Nat.reduceLeDiff, Int.reduceNe, Int.reduceEq, ne_eq, not_false_eq_true, and_self, fp_72_0, fp_72_1, ld_3, hk, c1, c2, c3]
    exact ⟨by simp [d1, d2, d3], f1⟩
end Go.Am

/- The abstract machine, part 73: contracts of the specification: Rounded, Sum. -/
namespace Go.Am
open Go Go.Proofs

theorem boolIs_undef (w : Bool) : boolIs w undef = false := rfl

set_option maxRecDepth 10000 in
set_option maxHeartbeats 2000000 in
theorem rounded_78 {t : Tar} {q : Int} (ht : t.ok = true) (hq : 0 ≤ q) (hq' : q ≤ 1000000) {h : Heap} (hk : HOK h) : CW CC 78 [.int .i64 q, .agg ⟨t.cells⟩] h fun r h' => r = .int .i64 (price1 t q) ∧ Fr h h' := by
  have tk := Tar.ok_at ht
  have e := refRnd_eq (rule := t.rule) (a := q * t.coins) (b := t.units) (by omega) (by omega) (by omega)
  unfold price1
  rw [← e]
  obtain ⟨k, co, u, ru, ea⟩ := t
  simp only at tk e ⊢
  clear e
  have m0 : 0 ≤ q * co := Int.mul_nonneg hq (by omega)
  have m1 : q * co ≤ 1000000 * 500 := Int.mul_le_mul hq' (by omega) (by omega) (by omega)
  have u0 : u ≠ 0 := by omega
  have d := div_b (a := q * co) (b := u) m0 (by omega)
  have eb : 0 ≤ q * co / u * u ∧ q * co / u * u ≤ q * co := ⟨Int.mul_nonneg d.1 (by omega), Int.ediv_mul_le _ u0⟩
  have t0 : (2 : Int) ≠ 0 := by decide
  have f1 : Fr h (h.alloc (.row [.int .i64 k, .int .i64 co, .int .i64 u, .int .i64 ru, .bool ea] 0 true)) := (Fr.refl hk).alloc _
  have r1 : rowAt (h.alloc (.row [.int .i64 k, .int .i64 co, .int .i64 u, .int .i64 ru, .bool ea] 0 true)) h.next = some [.int .i64 k, .int .i64 co, .int .i64 u, .int .i64 ru, .bool ea] := rowAt_new _ _ _ _
  have w1 := wrap64 (n := q * co) (by omega) (by omega)
  have w2 := wrap64 (n := q * co / u) (by omega) (by omega)
  have w3 := wrap64 (n := q * co / u * u) (by omega) (by omega)
  have w4 := wrap64 (n := q * co - q * co / u * u) (by omega) (by omega)
  have w5 := wrap64 (n := 2 * (q * co - q * co / u * u)) (by omega) (by omega)
  have w6 := wrap64 (n := q * co / u + 1) (by omega) (by omega)
  have c12 : ((1 : Int) == 2) = false := rfl
  have c13 : ((1 : Int) == 3) = false := rfl
  have c14 : ((1 : Int) == 4) = false := rfl
  have c22 : ((2 : Int) == 2) = true := rfl
  have c32 : ((3 : Int) == 2) = false := rfl
  have c33 : ((3 : Int) == 3) = true := rfl
  have c42 : ((4 : Int) == 2) = false := rfl
  have c43 : ((4 : Int) == 3) = false := rfl
  have c44 : ((4 : Int) == 4) = true := rfl
  refine CW_in Tryz.f78 (by kernel_rfl) (by kernel_rfl) rfl rfl ?_
  simp only [Tryz.f78, Tar.cells]
  have hc : ru = 1 ∨ ru = 2 ∨ ru = 3 ∨ ru = 4 := by omega
  rcases hc with rfl | rfl | rfl | rfl
  · simp (maxDischargeDepth := 30) only [AMS, AMH, ↓reduceIte, Nat.reduceLT, Nat.reduceEqDiff, Nat.reduceAdd, Nat.reduceMul, reduceCtorEq, decide_true, decide_false, Nat.reduceLeDiff, Int.reduceNe, Int.reduceEq, ne_eq, not_false_eq_true, and_self, fp_41_1, fp_41_2, fp_41_3, ld_3, ld_39, hk, r1, w1, I_quo _ _ _ _ (q * co) u u0, tdiv_nn m0 (show (1 : Int) ≤ u by omega), w2, w3, w4, w5, w6, c12, c13, c14, c22, c32, c33, c42, c43, c44, boolIs_undef]
    exact ⟨by simp [refRnd, refUp], f1⟩
  · cases cu : decide (q * co - q * co / u * u > 0) with
    | true =>
      simp (maxDischargeDepth := 30) only [AMS, AMH, ↓reduceIte, Nat.reduceLT, Nat.reduceEqDiff, Nat.reduceAdd, Nat.reduceMul, reduceCtorEq, decide_true, decide_false, Nat.reduceLeDiff, Int.reduceNe, Int.reduceEq, ne_eq, not_false_eq_true, and_self, fp_41_1, fp_41_2, fp_41_3, ld_3, ld_39, hk, r1, w1, I_quo _ _ _ _ (q * co) u u0, tdiv_nn m0 (show (1 : Int) ≤ u by omega), w2, w3, w4, w5, w6, c12, c13, c14, c22, c32, c33, c42, c43, c44, boolIs_undef, cu]
      exact ⟨by have := of_decide_eq_true cu; simp [refRnd, refUp]; omega, f1⟩
    | false =>
      simp (maxDischargeDepth := 30) only [AMS, AMH, ↓reduceIte, Nat.reduceLT, Nat.reduceEqDiff, Nat.reduceAdd, Nat.reduceMul, reduceCtorEq, decide_true, decide_false, Nat.reduceLeDiff, Int.reduceNe, Int.reduceEq, ne_eq, not_false_eq_true, and_self, fp_41_1, fp_41_2, fp_41_3, ld_3, ld_39, hk, r1, w1, I_quo _ _ _ _ (q * co) u u0, tdiv_nn m0 (show (1 : Int) ≤ u by omega), w2, w3, w4, w5, w6, c12, c13, c14, c22, c32, c33, c42, c43, c44, boolIs_undef, cu]
      exact ⟨by have := of_decide_eq_false cu; simp [refRnd, refUp]; omega, f1⟩
  · cases cu : decide (2 * (q * co - q * co / u * u) ≥ u) with
    | true =>
      simp (maxDischargeDepth := 30) only [AMS, AMH, ↓reduceIte, Nat.reduceLT, Nat.reduceEqDiff, Nat.reduceAdd, Nat.reduceMul, reduceCtorEq, decide_true, decide_false, Nat.reduceLeDiff, Int.reduceNe, Int.reduceEq, ne_eq, not_false_eq_true, and_self, fp_41_1, fp_41_2, fp_41_3, ld_3, ld_39, hk, r1, w1, I_quo _ _ _ _ (q * co) u u0, tdiv_nn m0 (show (1 : Int) ≤ u by omega), w2, w3, w4, w5, w6, c12, c13, c14, c22, c32, c33, c42, c43, c44, boolIs_undef, cu]
      exact ⟨by have := of_decide_eq_true cu; simp [refRnd, refUp]; omega, f1⟩
    | false =>
      simp (maxDischargeDepth := 30) only [AMS, AMH, ↓reduceIte, Nat.reduceLT, Nat.reduceEqDiff, Nat.reduceAdd, Nat.reduceMul, reduceCtorEq, decide_true, decide_false, Nat.reduceLeDiff, Int.reduceNe, Int.reduceEq, ne_eq, not_false_eq_true, and_self, fp_41_1, fp_41_2, fp_41_3, ld_3, ld_39, hk, r1, w1, I_quo _ _ _ _ (q * co) u u0, tdiv_nn m0 (show (1 : Int) ≤ u by omega), w2, w3, w4, w5, w6, c12, c13, c14, c22, c32, c33, c42, c43, c44, boolIs_undef, cu]
      exact ⟨by have := of_decide_eq_false cu; simp [refRnd, refUp]; omega, f1⟩
  · cases cu : decide (2 * (q * co - q * co / u * u) > u) with
    | true =>
      simp (maxDischargeDepth := 30) only [AMS, AMH, ↓reduceIte, Nat.reduceLT, Nat.reduceEqDiff, Nat.reduceAdd, Nat.reduceMul, reduceCtorEq, decide_true, decide_false, Nat.reduceLeDiff, Int.reduceNe, Int.reduceEq, ne_eq, not_false_eq_true, and_self, fp_41_1, fp_41_2, fp_41_3, ld_3, ld_39, hk, r1, w1, I_quo _ _ _ _ (q * co) u u0, tdiv_nn m0 (show (1 : Int) ≤ u by omega), w2, w3, w4, w5, w6, c12, c13, c14, c22, c32, c33, c42, c43, c44, boolIs_undef, cu]
      exact ⟨by simp [refRnd, refUp]; intro hh; have := of_decide_eq_true cu; omega, f1⟩
    | false =>
      have nu : ¬ u < 2 * (q * co - q * co / u * u) := of_decide_eq_false cu
      cases ce : (2 * (q * co - q * co / u * u) == u) with
      | false =>
        simp (maxDischargeDepth := 30) only [AMS, AMH, ↓reduceIte, Nat.reduceLT, Nat.reduceEqDiff, Nat.reduceAdd, Nat.reduceMul, reduceCtorEq, decide_true, decide_false, Nat.reduceLeDiff, Int.reduceNe, Int.reduceEq, ne_eq, not_false_eq_true, and_self, fp_41_1, fp_41_2, fp_41_3, ld_3, ld_39, hk, r1, w1, I_quo _ _ _ _ (q * co) u u0, tdiv_nn m0 (show (1 : Int) ≤ u by omega), w2, w3, w4, w5, w6, c12, c13, c14, c22, c32, c33, c42, c43, c44, boolIs_undef, cu, ce]
        exact ⟨by simp [refRnd, refUp, nu, ce], f1⟩
      | true =>
        cases cm : (q * co / u % 2 == 1) with
        | true =>
          simp (maxDischargeDepth := 30) only [AMS, AMH, ↓reduceIte, Nat.reduceLT, Nat.reduceEqDiff, Nat.reduceAdd, Nat.reduceMul, reduceCtorEq, decide_true, decide_false, Nat.reduceLeDiff, Int.reduceNe, Int.reduceEq, ne_eq, not_false_eq_true, and_self, fp_41_1, fp_41_2, fp_41_3, ld_3, ld_39, hk, r1, w1, I_quo _ _ _ _ (q * co) u u0, tdiv_nn m0 (show (1 : Int) ≤ u by omega), w2, w3, w4, w5, w6, c12, c13, c14, c22, c32, c33, c42, c43, c44, boolIs_undef, cu, ce, I_rem _ _ _ _ _ 2 t0, tmod_nn d.1, cm]
          exact ⟨by simp [refRnd, refUp, nu, ce, cm], f1⟩
        | false =>
          simp (maxDischargeDepth := 30) only [AMS, AMH, ↓reduceIte, Nat.reduceLT, Nat.reduceEqDiff, Nat.reduceAdd, Nat.reduceMul, reduceCtorEq, decide_true, decide_false, Nat.reduceLeDiff, Int.reduceNe, Int.reduceEq, ne_eq, not_false_eq_true, and_self, fp_41_1, fp_41_2, fp_41_3, ld_3, ld_39, hk, r1, w1, I_quo _ _ _ _ (q * co) u u0, tdiv_nn m0 (show (1 : Int) ≤ u by omega), w2, w3, w4, w5, w6, c12, c13, c14, c22, c32, c33, c42, c43, c44, boolIs_undef, cu, ce, I_rem _ _ _ _ _ 2 t0, tmod_nn d.1, cm]
          exact ⟨by simp [refRnd, refUp, nu, ce, cm], f1⟩
end Go.Am

/- The abstract machine, part 74: contracts of the specification: Sum, Parts. -/
namespace Go.Am
open Go Go.Proofs

set_option maxRecDepth 10000 in
theorem sum_57 (v : Value) (l : List Int) (h : Heap) (hv : LS h v l ints 1) (hl : l.length ≤ 1000) (hb : ∀ x ∈ l, 0 ≤ x ∧ x ≤ 1000000000000) : CW CC 57 [v] h fun r h' => r = .int .i64 (sumI l) ∧ h' = h := by
  obtain ⟨p, c, rfl, hx⟩ := hv.open
  refine CW_in Tryz.f57 (by kernel_rfl) (by kernel_rfl) rfl rfl ?_
  simp only [Tryz.f57]
  simp (maxDischargeDepth := 30) only [AMS, AMH, ↓reduceIte, Nat.reduceLT, Nat.reduceEqDiff, Nat.reduceAdd, Nat.reduceMul, reduceCtorEq, decide_true, decide_false, Nat.reduceLeDiff, Int.reduceNe, Int.reduceEq, ne_eq, not_false_eq_true, and_self, ix_22, ld_3, len_22, part_3, size_22, size_3, und_22, zero_22]
  refine W_loop l.length (fun m f h' => ∃ pre rest, l = pre ++ rest ∧ m = rest.length ∧ f 0 = .slice p l.length c ∧ f 4 = .int .i64 pre.length ∧ f 3 = .int .i64 (sumI pre) ∧ h' = h) ⟨[], l, by simp, by simp, by simp [upd_at, argsFn_at], by simp [upd_at], by simp [upd_at, sumI], rfl⟩ ?_
  rintro m f h' ⟨pre, rest, e, rfl, h0, h4, h3, rfl⟩ ih
  cases rest with
  | nil =>
    have hlt : decide ((pre.length : Int) < (l.length : Int)) = false := by rw [e]; simp
    have e' : l = pre := by simpa using e
    simp (maxDischargeDepth := 30) only [AMS, AMH, ↓reduceIte, Nat.reduceLT, Nat.reduceEqDiff, Nat.reduceAdd, Nat.reduceMul, reduceCtorEq, decide_true, decide_false, Nat.reduceLeDiff, Int.reduceNe, Int.reduceEq, ne_eq, not_false_eq_true, and_self, ix_22, ld_3, len_22, part_3, size_22, size_3, und_22, zero_22, h0, h4, h3, hlt]
    exact ⟨by rw [e'], trivial⟩
  | cons x rest =>
    have hlt : decide ((pre.length : Int) < (l.length : Int)) = true := by rw [e]; simp; omega
    have hlt' : pre.length < l.length := by rw [e]; simp
    have hget : l[pre.length]? = some x := by rw [e]; exact mid_get _ _ _
    rcases hx with hx | ⟨b, o, sp, row, rfl, hr, hx⟩
    · rw [hx] at hlt'; simp at hlt'
    have hcell : row[o + pre.length]? = some (.int .i64 x) := by
      have := (hx _ _ hget).2 0 (by omega)
      simpa [ints] using this
    have hb1 := sumI_bound (B := 1000000000000) (l := pre) fun y hy => hb y (by rw [e]; simp [hy])
    have hbx := hb x (by rw [e]; simp)
    have hpl : pre.length ≤ 1000 := by omega
    simp (maxDischargeDepth := 30) only [AMS, AMH, ↓reduceIte, Nat.reduceLT, Nat.reduceEqDiff, Nat.reduceAdd, Nat.reduceMul, reduceCtorEq, decide_true, decide_false, Nat.reduceLeDiff, Int.reduceNe, Int.reduceEq, ne_eq, not_false_eq_true, and_self, ix_22, ld_3, len_22, part_3, size_22, size_3, und_22, zero_22, h0, h4, h3, hlt, hlt', Nat.mul_one, hr, hcell, wrap64 (n := sumI pre + x) (by omega) (by omega), wrap64 (n := (pre.length : Int) + 1) (by omega) (by omega)]
    refine ih rest.length _ _ (by simp) ?_
    exact ⟨pre ++ [x], rest, by rw [e]; simp, rfl, by simp [upd_at, h0], by simp [upd_at], by simp [upd_at, sumI_app], rfl⟩

theorem parts_get {t : Tar} {bs : List Board} {hs : List Int} {i : Nat} {b : Board} {x : Int} (h1 : bs[i]? = some b) (h2 : hs[i]? = some x) : (parts t bs hs)[i]? = some (price1 t (qty t.kind b x)) := by
  unfold parts; rw [List.getElem?_map, qtys_get h1 h2]; rfl
theorem parts_len {t : Tar} {bs : List Board} {hs : List Int} (h : hs.length = bs.length) : (parts t bs hs).length = bs.length := by unfold parts; rw [List.length_map, qtys_len h]

set_option maxRecDepth 10000 in
set_option maxHeartbeats 1000000 in
theorem parts_36 {h : Heap} (hk : HOK h) (hp : 0 < h.next) {a b c v : Value} {s : Sheet} {l : List Int} {t : Tar} (hs : IsSheet h a b c s) (hv : LS h v l ints 1) (ht : t.ok = true) (hll : l.length = s.boards.length) (hn : s.boards.length ≤ 1000) (hq : ∀ x ∈ qtys t s.boards l, 0 ≤ x ∧ x ≤ 1000) :
    CW CC 36 [.agg ⟨[a, b, c]⟩, .agg ⟨t.cells⟩, v] h fun r h' => SL h.next h' r ((parts t s.boards l).flatMap ints) 1 s.boards.length ∧ Fr h h' := by
  obtain ⟨p1, c1, rfl, _⟩ := hs.offs.open
  obtain ⟨p2, c2, rfl, x2⟩ := hs.boards.open
  obtain ⟨p3, c3, rfl, _⟩ := hs.tars.open
  obtain ⟨p4, c4, rfl, x4⟩ := hv.open
  refine CW_in Tryz.f36 (by kernel_rfl) (by kernel_rfl) rfl rfl ?_
  simp only [Tryz.f36]
  have kt : take? t.cells 0 5 = some t.cells := rfl
  have kk : t.cells[0]? = some (.int .i64 t.kind) := rfl
  simp (maxDischargeDepth := 30) only [AMS, AMH, ↓reduceIte, Nat.reduceLT, Nat.reduceEqDiff, Nat.reduceAdd, Nat.reduceMul, reduceCtorEq, decide_true, decide_false, Nat.reduceLeDiff, Int.reduceNe, Int.reduceEq, ne_eq, not_false_eq_true, and_self, bs_22, fp_26_1, fp_41_0, ix_22, ix_23, ld_23, ld_3, ld_38, ld_41, ld_72, len_23, part_3, part_72, size_22, size_23, size_3, size_72, und_22, und_23, zero_22, zero_23, hk, kt]
  have f1 : Fr h ((h.alloc (.row [.slice p1 s.offs.length c1, .slice p2 s.boards.length c2, .slice p3 s.tars.length c3] 0 true)).alloc (.row t.cells 0 true)) := ((Fr.refl hk).alloc _).alloc _
  have r1 : rowAt ((h.alloc (.row [.slice p1 s.offs.length c1, .slice p2 s.boards.length c2, .slice p3 s.tars.length c3] 0 true)).alloc (.row t.cells 0 true)) h.next = some [.slice p1 s.offs.length c1, .slice p2 s.boards.length c2, .slice p3 s.tars.length c3] := by
    rw [rowAt_old _ (by simp), rowAt_new]
  have r1t : rowAt ((h.alloc (.row [.slice p1 s.offs.length c1, .slice p2 s.boards.length c2, .slice p3 s.tars.length c3] 0 true)).alloc (.row t.cells 0 true)) (h.next + 1) = some t.cells := rowAt_new _ _ _ _
  have m1 : h.next + 1 < ((h.alloc (.row [.slice p1 s.offs.length c1, .slice p2 s.boards.length c2, .slice p3 s.tars.length c3] 0 true)).alloc (.row t.cells 0 true)).next := by simp
  refine W_loop s.boards.length (fun m' f h' => ∃ i, i ≤ s.boards.length ∧ m' = s.boards.length - i ∧ f 2 = .slice p4 l.length c4 ∧ f 3 = .pointer (some ⟨h.next, 0, none⟩) ∧ f 4 = .pointer (some ⟨h.next + 1, 0, none⟩) ∧ f 8 = .int .i64 i ∧
      SL h.next h' (f 7) (((parts t s.boards l).take i).flatMap ints) 1 i ∧ blkOf (f 7) ≠ some h.next ∧ blkOf (f 7) ≠ some (h.next + 1) ∧ Fr h h' ∧ h.next + 1 < h'.next ∧ rowAt h' h.next = some [.slice p1 s.offs.length c1, .slice p2 s.boards.length c2, .slice p3 s.tars.length c3] ∧ rowAt h' (h.next + 1) = some t.cells)
    ⟨0, by omega, by omega, by simp [upd_at, argsFn_at], by simp [upd_at], by simp [upd_at], by simp [upd_at], by simpa [upd_at] using SL.nil h.next _ 1, by simp [upd_at, blkOf], by simp [upd_at, blkOf], f1, m1, r1, r1t⟩ ?_
  clear f1 r1 m1 r1t
  rintro m' f h' ⟨i, hi, rfl, g2, g3, g4, g8, q5, nb, nb', fr, m2, r2, r2t⟩ ih
  have k' := fr.ok
  by_cases hil : i < s.boards.length
  · obtain ⟨x, gx⟩ : ∃ x, s.boards[i]? = some x := ⟨_, List.getElem?_eq_getElem hil⟩
    have hil' : i < l.length := by omega
    obtain ⟨y, gy⟩ : ∃ y, l[i]? = some y := ⟨_, List.getElem?_eq_getElem hil'⟩
    rcases x2 with hx | ⟨b2, o2, sp2, row2, rfl, rr2, x2⟩
    · rw [hx] at hil; simp at hil
    rcases x4 with hx | ⟨b4, o4, sp4, row4, rfl, rr4, x4⟩
    · rw [hx] at hil'; simp at hil'
    have e1 : take? row2 (o2 + i * 5) 5 = some x.cells := (x2 _ _ gx).1
    have e2 : row4[o4 + i]? = some (.int .i64 y) := by simpa [ints] using (x4 _ _ gy).2 0 (by omega)
    have rr2' := fr.row' hk rr2
    have rr4' := fr.row' hk rr4
    have kx : take? x.cells 0 5 = some x.cells := rfl
    have hqx := hq _ (List.mem_of_getElem? (qtys_get (t := t) gx gy))
    obtain ⟨_, h3, e3, rfl, fr3⟩ := quantity_79 (k := t.kind) x y k'
    obtain ⟨_, h4, e4, rfl, fr4⟩ := rounded_78 ht (q := qty t.kind x y) (by omega) (by omega) fr3.ok
    have f34 := fr3.trans fr4
    have f4 := fr.trans f34
    have q4 : SL h.next h4 (f 7) (((parts t s.boards l).take i).flatMap ints) 1 i := q5.fr k' f34
    have r4 := f34.row' k' r2
    have r4t := f34.row' k' r2t
    have r3 := fr3.row' k' r2
    have r3t := fr3.row' k' r2t
    have rr23 := fr3.row' k' rr2'
    have rr43 := fr3.row' k' rr4'
    have rr24 := f34.row' k' rr2'
    have rr44 := f34.row' k' rr4'
    have n4 := f34.next
    obtain ⟨h5, e5, q5', f5, n5, g5⟩ := append_one (ts := []) app_22 f4 (by omega) q4 (v := .int .i64 (price1 t (qty t.kind x y))) rfl (by omega)
    have kc : t.cells.all selfC = true := rfl
    have kcx : x.cells.all selfC = true := rfl
    simp (maxDischargeDepth := 30) only [AMS, AMH, ↓reduceIte, Nat.reduceLT, Nat.reduceEqDiff, Nat.reduceAdd, Nat.reduceMul, reduceCtorEq, decide_true, decide_false, Nat.reduceLeDiff, Int.reduceNe, Int.reduceEq, ne_eq, not_false_eq_true, and_self, bs_22, fp_26_1, fp_41_0, ix_22, ix_23, ld_23, ld_3, ld_38, ld_41, ld_72, len_23, part_3, part_72, size_22, size_23, size_3, size_72, und_22, und_23, zero_22, zero_23, k', g2, g3, g4, g8, r2, m2, lt_t hil]
    refine W_draw [(true, 0), (true, 1), (true, 2), (true, 3), (true, 4), (true, 5), (true, 6), (true, 7), (true, 8), (true, 9), (true, 10), (true, 11), (true, 13), (true, 12), (false, 13), (true, 14), (true, 15), (true, 16), (true, 17)] (by kernel_rfl) ?_
    simp (maxDischargeDepth := 30) only [AMS, AMH, ↓reduceIte, Nat.reduceLT, Nat.reduceEqDiff, Nat.reduceAdd, Nat.reduceMul, reduceCtorEq, decide_true, decide_false, Nat.reduceLeDiff, Int.reduceNe, Int.reduceEq, ne_eq, not_false_eq_true, and_self, AMR, bs_22, fp_26_1, fp_41_0, ix_22, ix_23, ld_23, ld_3, ld_38, ld_41, ld_72, len_23, part_3, part_72, size_22, size_23, size_3, size_72, und_22, und_23, zero_22, zero_23, k', g2, g3, g4, g8, r2, r2t, m2, hil, hil', rr2', rr4', Nat.mul_one, e1, e2, kk, kt, kx, e3, e4, r3, r3t, rr23, rr43, r4, r4t, rr24, rr44, kc, kcx, f4.ok, fr3.ok, bs_22 (cells_int _ _), e5, i_next hil hn]
    refine ih (s.boards.length - (i + 1)) _ _ (by omega) ?_
    refine ⟨i + 1, by omega, rfl, by simp [upd_at, g2], by simp [upd_at, g3], by simp [upd_at, g4], by simp [upd_at], ?_, by simp [upd_at, blkOf]; omega, by simp [upd_at, blkOf]; omega, f5, by omega, ?_, ?_⟩
    · rw [take_snoc (parts_get gx gy), List.flatMap_append]
      simpa [upd_at, ints] using q5'
    · unfold rowAt
      rw [g5 _ (by omega) nb]
      exact r4
    · unfold rowAt
      rw [g5 _ (by omega) nb']
      exact r4t
  · have : i = s.boards.length := by omega
    subst this
    simp (maxDischargeDepth := 30) only [AMS, AMH, ↓reduceIte, Nat.reduceLT, Nat.reduceEqDiff, Nat.reduceAdd, Nat.reduceMul, reduceCtorEq, decide_true, decide_false, Nat.reduceLeDiff, Int.reduceNe, Int.reduceEq, ne_eq, not_false_eq_true, and_self, bs_22, fp_26_1, fp_41_0, ix_22, ix_23, ld_23, ld_3, ld_38, ld_41, ld_72, len_23, part_3, part_72, size_22, size_23, size_3, size_72, und_22, und_23, zero_22, zero_23, k', g2, g3, g4, g8, r2, lt_f]
    refine ⟨?_, fr⟩
    rw [List.take_of_length_le (by rw [parts_len hll]; exact Nat.le_refl _)] at q5
    exact q5
end Go.Am
