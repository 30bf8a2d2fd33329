/- Parts 151 of the abstract machine over this program, joined: what each part says stands at its head. -/
import Derived.Test.YtfnkjclplfhjcaaGreatDoorJ150
import Derived.Test.YtfnkjclplfhjcaaGreatDoorJ140
set_option linter.unusedSimpArgs false
set_option linter.unusedVariables false
/- The abstract machine, part 151: the statement PriceSpoilt. -/
namespace Go.Am
open Go Go.Proofs
theorem F21_Am151 : type_of% (And.intro @bld_26 <| And.intro @fld_26_0 <| And.intro @fld_26_1 <| And.intro @fld_26_2 <| And.intro @ix_88 <| And.intro @ld_26 <| And.intro @len_9 <| And.intro @part_5 <| And.intro @size_26 <| And.intro @size_5 <| And.intro @size_88 <| And.intro @size_9 <| And.intro @sp_26_0 <| And.intro @sp_26_1 <| And.intro @sp_26_2 <| And.intro @und_3 <| And.intro @und_5 <| And.intro @und_88 <| And.intro @und_9 <| And.intro @zero_26 <| And.intro @zero_5 <| And.intro @zero_88 @zero_9) := And.intro @bld_26 <| And.intro @fld_26_0 <| And.intro @fld_26_1 <| And.intro @fld_26_2 <| And.intro @ix_88 <| And.intro @ld_26 <| And.intro @len_9 <| And.intro @part_5 <| And.intro @size_26 <| And.intro @size_5 <| And.intro @size_88 <| And.intro @size_9 <| And.intro @sp_26_0 <| And.intro @sp_26_1 <| And.intro @sp_26_2 <| And.intro @und_3 <| And.intro @und_5 <| And.intro @und_88 <| And.intro @und_9 <| And.intro @zero_26 <| And.intro @zero_5 <| And.intro @zero_88 @zero_9

theorem bytes_back : ∀ l : List UInt8, bytesOf (byteCells l) = some l
  | [] => rfl
  | b :: l => by
    have ih := bytes_back l
    show obind (byteOf (.int .u8 b.toNat)) (fun b => obind (bytesOf (byteCells l)) fun t => some (b :: t)) = _
    rw [ih]
    show some (UInt8.ofNat (((b.toNat : Nat) : Int)).toNat :: l) = _
    rw [Int.toNat_natCast, UInt8.ofNat_toNat]
theorem cells_set (l : List UInt8) (p : Nat) (b : UInt8) : (byteCells l).set p (.int .u8 b.toNat) = byteCells (l.set p b) := by
  unfold byteCells
  rw [List.map_set]
theorem cells_len (l : List UInt8) : (byteCells l).length = l.length := by simp [byteCells]
theorem cv_9_88 (l : Bs) (h : Heap) : aConvert CC 9 88 (.string (bs l)) h = some (.new (.row (byteCells l) 1 true) (sliceTo 1 l.length l.length)) := by
  unfold aConvert
  rw [und_9, und_88]
  simp only [obind_some, convStr, und_5, isU8, guardB_true]
  rfl
theorem cv_88_9l {h : Heap} {b : Nat} {l : Bs} (hr : rowAt h b = some (byteCells l)) : aConvert CC 88 9 (.slice (some ⟨b, 0, some 1⟩) l.length l.length) h = some (.val (.string (bs l))) := by
  unfold aConvert
  rw [und_88, und_9]
  simp only [obind_some, convSl, und_5, isU8, guardB_true]
  have hc : sliceCells h 1 l.length (.slice (some ⟨b, 0, some 1⟩) l.length l.length) = some (byteCells l) := by
    cases l with
    | nil => rfl
    | cons x l =>
      show obind (rowAt h b) (fun cells => take? cells 0 ((l.length + 1) * 1)) = _
      rw [hr, obind_some, take?_some (by rw [cells_len]; simp)]
      rw [List.drop_zero, List.take_of_length_le (by rw [cells_len]; simp)]
  rw [hc, obind_some, bytes_back, obind_some]
  rfl
theorem printB_ok {s : Sheet} (h : s.ok = true) : printB s = (textB s, 0) := by unfold printB; rw [h]; rfl

set_option maxRecDepth 10000 in
set_option maxHeartbeats 4000000 in
theorem spoilt_21 {h : Heap} (hk : HOK h) (hp : 0 < h.next) {a b c : Value} {s : Sheet} (hs : IsSheet h a b c s) (at' digit : Int) : CW CC 21 [.agg ⟨[a, b, c]⟩, .int .i64 at', .int .i64 digit] h fun r h' => r = .bool true ∧ Fr h h' := by
  have z44 : ((4 : Int) == 4) = true := rfl
  have n00 : ((0 : Int) != 0) = false := rfl
  obtain ⟨p1, c1, rfl, _⟩ := hs.offs.open
  obtain ⟨p2, c2, rfl, _⟩ := hs.boards.open
  obtain ⟨p3, c3, rfl, _⟩ := hs.tars.open
  refine CW_in Tryz.f21 (by kernel_rfl) (by kernel_rfl) rfl rfl ?_
  simp only [Tryz.f21, bs_mk]
  have f1 : Fr h (h.alloc (.row [.slice p1 s.offs.length c1, .slice p2 s.boards.length c2, .slice p3 s.tars.length c3] 0 true)) := (Fr.refl hk).alloc _
  have r1 : rowAt (h.alloc (.row [.slice p1 s.offs.length c1, .slice p2 s.boards.length c2, .slice p3 s.tars.length c3] 0 true)) h.next = some [.slice p1 s.offs.length c1, .slice p2 s.boards.length c2, .slice p3 s.tars.length c3] := rowAt_new _ _ _ _
  have n1 : (h.alloc (.row [.slice p1 s.offs.length c1, .slice p2 s.boards.length c2, .slice p3 s.tars.length c3] 0 true)).next = h.next + 1 := by simp
  obtain ⟨_, h2, e2, rfl, fr2⟩ := right_68 f1.ok (hs.fr hk f1)
  have f2 := f1.trans fr2
  have k2 := f2.ok
  have r2 := fr2.row' f1.ok r1
  have n2 := fr2.next
  cases hr : (s.short && s.ok) with
  | false =>
    rw [hr] at e2
    simp (maxDischargeDepth := 30) only [AMS, AMH, ↓reduceIte, Nat.reduceLT, Nat.reduceEqDiff, Nat.reduceAdd, Nat.reduceMul, reduceCtorEq, decide_true, decide_false, Nat.reduceLeDiff, Int.reduceNe, Int.reduceEq, ne_eq, not_false_eq_true, and_self, F21_Am151, hk, e2, known_23s]
    exact ⟨trivial, f2⟩
  | true =>
  rw [hr] at e2
  have hok : s.ok = true := (Bool.and_eq_true _ _ ▸ hr).2
  cases d1 : decide (digit < 0) with
  | true =>
    simp (maxDischargeDepth := 30) only [AMS, AMH, ↓reduceIte, Nat.reduceLT, Nat.reduceEqDiff, Nat.reduceAdd, Nat.reduceMul, reduceCtorEq, decide_true, decide_false, Nat.reduceLeDiff, Int.reduceNe, Int.reduceEq, ne_eq, not_false_eq_true, and_self, F21_Am151, hk, e2, d1, known_23s]
    exact ⟨trivial, f2⟩
  | false =>
  cases d2 : decide (digit > 9) with
  | true =>
    simp (maxDischargeDepth := 30) only [AMS, AMH, ↓reduceIte, Nat.reduceLT, Nat.reduceEqDiff, Nat.reduceAdd, Nat.reduceMul, reduceCtorEq, decide_true, decide_false, Nat.reduceLeDiff, Int.reduceNe, Int.reduceEq, ne_eq, not_false_eq_true, and_self, F21_Am151, hk, e2, d1, d2, known_23s]
    exact ⟨trivial, f2⟩
  | false =>
  have hd1 := of_decide_eq_false d1
  have hd2 := of_decide_eq_false d2
  obtain ⟨dg, rfl⟩ : ∃ dg : Nat, digit = (dg : Int) := ⟨digit.toNat, by omega⟩
  have hdg : dg ≤ 9 := by omega
  simp (maxDischargeDepth := 30) only [AMS, AMH, ↓reduceIte, Nat.reduceLT, Nat.reduceEqDiff, Nat.reduceAdd, Nat.reduceMul, reduceCtorEq, decide_true, decide_false, Nat.reduceLeDiff, Int.reduceNe, Int.reduceEq, ne_eq, not_false_eq_true, and_self, F21_Am151, hk, e2, d1, d2, k2, r2]
  refine W_call (print_63 k2 (by omega) (hs.fr hk f2)) ?_
  rintro _ h3 ⟨rfl, fr3⟩
  rw [printB_ok hok]
  have f3 := f2.trans fr3
  have k3 := f3.ok
  have n3 := fr3.next
  have hl := text_len hok
  cases d3 : decide (at' < 0) with
  | true =>
    simp (maxDischargeDepth := 30) only [AMS, AMH, ↓reduceIte, Nat.reduceLT, Nat.reduceEqDiff, Nat.reduceAdd, Nat.reduceMul, reduceCtorEq, decide_true, decide_false, Nat.reduceLeDiff, Int.reduceNe, Int.reduceEq, ne_eq, not_false_eq_true, and_self, F21_Am151, k3, n00, d3, known_23s]
    exact ⟨trivial, f3⟩
  | false =>
  have hd3 := of_decide_eq_false d3
  obtain ⟨p, rfl⟩ : ∃ p : Nat, at' = (p : Int) := ⟨at'.toNat, by omega⟩
  by_cases hpl : p < (textB s).length
  rotate_left
  · have d4 : decide ((p : Int) ≥ (((bs (textB s)).data.toList.length : Nat) : Int)) = true := by show decide ((p : Int) ≥ ((textB s).length : Int)) = true; exact decide_eq_true (by omega)
    simp (maxDischargeDepth := 30) only [AMS, AMH, ↓reduceIte, Nat.reduceLT, Nat.reduceEqDiff, Nat.reduceAdd, Nat.reduceMul, reduceCtorEq, decide_true, decide_false, Nat.reduceLeDiff, Int.reduceNe, Int.reduceEq, ne_eq, not_false_eq_true, and_self, F21_Am151, k3, n00, d3, d4, known_23s]
    exact ⟨trivial, f3⟩
  have d4 : decide ((p : Int) ≥ (((bs (textB s)).data.toList.length : Nat) : Int)) = false := by show decide ((p : Int) ≥ ((textB s).length : Int)) = false; exact decide_eq_false (by omega)
  obtain ⟨y, gy⟩ : ∃ y, (textB s)[p]? = some y := ⟨_, List.getElem?_eq_getElem hpl⟩
  have hy8 := y.toNat_lt
  cases d5 : decide ((y.toNat : Int) < 48) with
  | true =>
    simp (maxDischargeDepth := 30) only [AMS, AMH, ↓reduceIte, Nat.reduceLT, Nat.reduceEqDiff, Nat.reduceAdd, Nat.reduceMul, reduceCtorEq, decide_true, decide_false, Nat.reduceLeDiff, Int.reduceNe, Int.reduceEq, ne_eq, not_false_eq_true, and_self, F21_Am151, k3, n00, d3, d4, i_9 gy, d5, known_23s]
    exact ⟨trivial, f3⟩
  | false =>
  cases d6 : decide ((y.toNat : Int) > 57) with
  | true =>
    simp (maxDischargeDepth := 30) only [AMS, AMH, ↓reduceIte, Nat.reduceLT, Nat.reduceEqDiff, Nat.reduceAdd, Nat.reduceMul, reduceCtorEq, decide_true, decide_false, Nat.reduceLeDiff, Int.reduceNe, Int.reduceEq, ne_eq, not_false_eq_true, and_self, F21_Am151, k3, n00, d3, d4, i_9 gy, d5, d6, known_23s]
    exact ⟨trivial, f3⟩
  | false =>
  have hd5 := of_decide_eq_false d5
  have hd6 := of_decide_eq_false d6
  have w1 := wrap8 (n := (y.toNat : Int) - 48) (by omega) (by omega)
  have w2 := wrap64 (n := (y.toNat : Int) - 48) (by omega) (by omega)
  cases d7 : ((y.toNat : Int) - 48 == (dg : Int)) with
  | true =>
    simp (maxDischargeDepth := 30) only [AMS, AMH, ↓reduceIte, Nat.reduceLT, Nat.reduceEqDiff, Nat.reduceAdd, Nat.reduceMul, reduceCtorEq, decide_true, decide_false, Nat.reduceLeDiff, Int.reduceNe, Int.reduceEq, ne_eq, not_false_eq_true, and_self, F21_Am151, k3, n00, d3, d4, i_9 gy, d5, d6, w1, cv_5_3, w2, d7, known_23s]
    exact ⟨trivial, f3⟩
  | false =>
  have hd7 : ¬ (y.toNat : Int) - 48 = (dg : Int) := by
    intro e; rw [e] at d7; simp at d7
  have w3 : IntKind.i64.wrap (48 + (dg : Int)) = ((48 + dg : Nat) : Int) := by rw [wrap64 (by omega) (by omega)]; omega
  have hb' : (UInt8.ofNat (48 + dg)).toNat = 48 + dg := by rw [UInt8.toNat_ofNat']; omega
  have w4 : ∀ H, aConvert CC 3 5 (.int .i64 ((48 + dg : Nat) : Int)) H = some (.val (.int .u8 ((UInt8.ofNat (48 + dg)).toNat : Nat))) := by
    intro H
    rw [cv_3_5 (by omega) (by omega), hb']
  have yd : isDig y = true := by
    unfold isDig
    rw [Bool.and_eq_true]
    exact ⟨Nat.ble_eq_true_of_le (by omega), Nat.ble_eq_true_of_le (by omega)⟩
  have bd : isDig (UInt8.ofNat (48 + dg)) = true := by
    unfold isDig
    rw [hb', Bool.and_eq_true]
    exact ⟨Nat.ble_eq_true_of_le (by omega), Nat.ble_eq_true_of_le (by omega)⟩
  have hne : y ≠ UInt8.ofNat (48 + dg) := fun e => by rw [e, hb'] at hd7; omega
  have hno := spoilt hok gy yd bd hne
  have hbl : p < (byteCells (textB s)).length := by rw [cells_len]; exact hpl
  have i5 : aIndexAddr CC 88 (.slice (some ⟨h3.next, 0, some 1⟩) (textB s).length (textB s).length) (.int .i64 p) = some (.pointer (some ⟨h3.next, 0 + p * 1, none⟩)) := ix_88 h3.next 0 (some 1) (textB s).length (textB s).length p hpl
  rw [Nat.zero_add, Nat.mul_one] at i5
  have fX : Fr h3 ((h3.alloc (.row (byteCells (textB s)) 1 true)).set h3.next (.row (byteCells ((textB s).set p (UInt8.ofNat (48 + dg)))) 1 true)) := ((Fr.refl k3).alloc _).set (Nat.le_refl _) (by simp) _
  have rX : rowAt ((h3.alloc (.row (byteCells (textB s)) 1 true)).set h3.next (.row (byteCells ((textB s).set p (UInt8.ofNat (48 + dg)))) 1 true)) h3.next = some (byteCells ((textB s).set p (UInt8.ofNat (48 + dg)))) := rowAt_set_self _ _ _ _ _
  have cX := cv_88_9l rX
  rw [List.length_set] at cX
  simp (maxDischargeDepth := 30) only [AMS, AMH, ↓reduceIte, Nat.reduceLT, Nat.reduceEqDiff, Nat.reduceAdd, Nat.reduceMul, reduceCtorEq, decide_true, decide_false, Nat.reduceLeDiff, Int.reduceNe, Int.reduceEq, ne_eq, not_false_eq_true, and_self, F21_Am151, k3, n00, d3, d4, i_9 gy, d5, d6, w1, cv_5_3, w2, d7, cv_9_88, w3, w4, i5, hbl, cells_set]
  generalize ((h3.alloc (.row (byteCells (textB s)) 1 true)).set h3.next (.row (byteCells ((textB s).set p (UInt8.ofNat (48 + dg)))) 1 true)) = h4 at fX rX cX ⊢
  have k4 := fX.ok
  have f4 := f3.trans fX
  have n4 := f4.next
  simp (maxDischargeDepth := 30) only [AMS, AMH, ↓reduceIte, Nat.reduceLT, Nat.reduceEqDiff, Nat.reduceAdd, Nat.reduceMul, reduceCtorEq, decide_true, decide_false, Nat.reduceLeDiff, Int.reduceNe, Int.reduceEq, ne_eq, not_false_eq_true, and_self, F21_Am151, k4, cX]
  refine W_call (read_64 (t := (textB s).set p (UInt8.ofNat (48 + dg))) k4 (by omega) (by rw [List.length_set]; omega)) ?_
  rintro _ h5 ⟨a, b, c, rfl, hy, fr5⟩
  have er : readB ((textB s).set p (UInt8.ofNat (48 + dg))) = (S0, 4) := by unfold readB; rw [if_neg (by rw [List.length_set]; omega), hno]
  rw [er] at hy ⊢
  simp only at hy
  have k5 := fr5.ok
  obtain ⟨p4, c4, rfl, _⟩ := hy.offs.open
  obtain ⟨p5, c5, rfl, _⟩ := hy.boards.open
  obtain ⟨p6, c6, rfl, _⟩ := hy.tars.open
  have fr6 : Fr h5 ((h5.alloc (.row [.slice none 0 0, .slice none 0 0, .slice none 0 0] 0 true)).set h5.next (.row [.slice p4 S0.offs.length c4, .slice p5 S0.boards.length c5, .slice p6 S0.tars.length c6] 0 true)) := ((Fr.refl k5).alloc _).set (Nat.le_refl _) (by simp) _
  have y6 : rowAt ((h5.alloc (.row [.slice none 0 0, .slice none 0 0, .slice none 0 0] 0 true)).set h5.next (.row [.slice p4 S0.offs.length c4, .slice p5 S0.boards.length c5, .slice p6 S0.tars.length c6] 0 true)) h5.next = some [.slice p4 S0.offs.length c4, .slice p5 S0.boards.length c5, .slice p6 S0.tars.length c6] := rowAt_set_self _ _ _ _ _
  simp (maxDischargeDepth := 30) only [AMS, AMH, ↓reduceIte, Nat.reduceLT, Nat.reduceEqDiff, Nat.reduceAdd, Nat.reduceMul, reduceCtorEq, decide_true, decide_false, Nat.reduceLeDiff, Int.reduceNe, Int.reduceEq, ne_eq, not_false_eq_true, and_self, F21_Am151, k5]
  generalize ((h5.alloc (.row [.slice none 0 0, .slice none 0 0, .slice none 0 0] 0 true)).set h5.next (.row [.slice p4 S0.offs.length c4, .slice p5 S0.boards.length c5, .slice p6 S0.tars.length c6] 0 true)) = h6 at fr6 y6 ⊢
  have k6 := fr6.ok
  obtain ⟨_, h7, e7, rfl, fr7⟩ := sames_66 k6 (hy.fr k5 fr6) (S0_is h6) (by decide) (by decide) (by decide) (by decide) (by decide) (by decide)
  have d8 : decide (sameS S0 S0) = true := by simp [sameS]
  rw [d8] at e7
  simp (maxDischargeDepth := 30) only [AMS, AMH, ↓reduceIte, Nat.reduceLT, Nat.reduceEqDiff, Nat.reduceAdd, Nat.reduceMul, reduceCtorEq, decide_true, decide_false, Nat.reduceLeDiff, Int.reduceNe, Int.reduceEq, ne_eq, not_false_eq_true, and_self, F21_Am151, k6, z44, y6, e7, fr7.ok, known_23s]
  exact ⟨trivial, ((f4.trans fr5).trans fr6).trans fr7⟩
end Go.Am
