/- Parts 150 of the abstract machine over this program, joined: what each part says stands at its head. -/
import Derived.Test.YtfnkjclplfhjcaaGreatDoorJ149
set_option linter.unusedSimpArgs false
set_option linter.unusedVariables false
/- The abstract machine, part 150: the statement PriceReads. -/
namespace Go.Am
open Go Go.Proofs
theorem F20_Am150 : type_of% (And.intro @bld_26 <| And.intro @fld_26_0 <| And.intro @fld_26_1 <| And.intro @fld_26_2 <| And.intro @ld_26 <| And.intro @len_9 <| And.intro @size_26 <| And.intro @sp_26_0 <| And.intro @sp_26_1 <| And.intro @sp_26_2 @zero_26) := And.intro @bld_26 <| And.intro @fld_26_0 <| And.intro @fld_26_1 <| And.intro @fld_26_2 <| And.intro @ld_26 <| And.intro @len_9 <| And.intro @size_26 <| And.intro @sp_26_0 <| And.intro @sp_26_1 <| And.intro @sp_26_2 @zero_26

set_option maxRecDepth 10000 in
set_option maxHeartbeats 2000000 in
theorem reads_20 {h : Heap} (hk : HOK h) (hp : 0 < h.next) (t : Bs) : CW CC 20 [.string (bs t)] h fun r h' => r = .bool true ∧ Fr h h' := by
  have z00 : ((0 : Int) == 0) = true := rfl
  have z22 : ((2 : Int) == 2) = true := rfl
  have z33 : ((3 : Int) == 3) = true := rfl
  have z44 : ((4 : Int) == 4) = true := rfl
  have n00 : ((0 : Int) != 0) = false := rfl
  have n20 : ((2 : Int) != 0) = true := rfl
  have n30 : ((3 : Int) != 0) = true := rfl
  have n40 : ((4 : Int) != 0) = true := rfl
  refine CW_in Tryz.f20 (by kernel_rfl) (by kernel_rfl) rfl rfl ?_
  simp only [Tryz.f20, bs_mk]
  by_cases hl : t.length ≤ 310
  rotate_left
  · have d1 : decide ((((bs t).data.toList.length : Nat) : Int) > 310) = true := by show decide ((t.length : Int) > 310) = true; exact decide_eq_true (by omega)
    simp (maxDischargeDepth := 30) only [AMS, AMH, ↓reduceIte, Nat.reduceLT, Nat.reduceEqDiff, Nat.reduceAdd, Nat.reduceMul, reduceCtorEq, decide_true, decide_false, Nat.reduceLeDiff, Int.reduceNe, Int.reduceEq, ne_eq, not_false_eq_true, and_self, F20_Am150, hk, d1, known_23s]
    exact ⟨trivial, Fr.refl hk⟩
  have d1 : decide ((((bs t).data.toList.length : Nat) : Int) > 310) = false := by show decide ((t.length : Int) > 310) = false; exact decide_eq_false (by omega)
  simp (maxDischargeDepth := 30) only [AMS, AMH, ↓reduceIte, Nat.reduceLT, Nat.reduceEqDiff, Nat.reduceAdd, Nat.reduceMul, reduceCtorEq, decide_true, decide_false, Nat.reduceLeDiff, Int.reduceNe, Int.reduceEq, ne_eq, not_false_eq_true, and_self, F20_Am150, hk, d1]
  refine W_call (read_64 hk hp (by omega)) ?_
  rintro _ h1 ⟨a, b, c, rfl, hy, f1⟩
  obtain ⟨S, hS⟩ : ∃ S, S = (readB t).1 := ⟨_, rfl⟩
  rw [← hS] at hy
  obtain ⟨p1, c1, rfl, _⟩ := hy.offs.open
  obtain ⟨p2, c2, rfl, _⟩ := hy.boards.open
  obtain ⟨p3, c3, rfl, _⟩ := hy.tars.open
  have f2 : Fr h ((h1.alloc (.row [.slice none 0 0, .slice none 0 0, .slice none 0 0] 0 true)).set h1.next (.row [.slice p1 S.offs.length c1, .slice p2 S.boards.length c2, .slice p3 S.tars.length c3] 0 true)) := (f1.alloc _).set (by have := f1.next; omega) (by simp) _
  have fr2 : Fr h1 ((h1.alloc (.row [.slice none 0 0, .slice none 0 0, .slice none 0 0] 0 true)).set h1.next (.row [.slice p1 S.offs.length c1, .slice p2 S.boards.length c2, .slice p3 S.tars.length c3] 0 true)) := ((Fr.refl f1.ok).alloc _).set (Nat.le_refl _) (by simp) _
  have y2 : rowAt ((h1.alloc (.row [.slice none 0 0, .slice none 0 0, .slice none 0 0] 0 true)).set h1.next (.row [.slice p1 S.offs.length c1, .slice p2 S.boards.length c2, .slice p3 S.tars.length c3] 0 true)) h1.next = some [.slice p1 S.offs.length c1, .slice p2 S.boards.length c2, .slice p3 S.tars.length c3] := rowAt_set_self _ _ _ _ _
  have n2 : ((h1.alloc (.row [.slice none 0 0, .slice none 0 0, .slice none 0 0] 0 true)).set h1.next (.row [.slice p1 S.offs.length c1, .slice p2 S.boards.length c2, .slice p3 S.tars.length c3] 0 true)).next = h1.next + 1 := by simp
  simp (maxDischargeDepth := 30) only [AMS, AMH, ↓reduceIte, Nat.reduceLT, Nat.reduceEqDiff, Nat.reduceAdd, Nat.reduceMul, reduceCtorEq, decide_true, decide_false, Nat.reduceLeDiff, Int.reduceNe, Int.reduceEq, ne_eq, not_false_eq_true, and_self, F20_Am150, f1.ok]
  generalize ((h1.alloc (.row [.slice none 0 0, .slice none 0 0, .slice none 0 0] 0 true)).set h1.next (.row [.slice p1 S.offs.length c1, .slice p2 S.boards.length c2, .slice p3 S.tars.length c3] 0 true)) = h2 at f2 fr2 y2 n2 ⊢
  have hy2 := hy.fr f1.ok fr2
  have n1 := f1.next
  refine W_call (read_67 (t := t) f2.ok (by omega) (by omega)) ?_
  rintro _ h3 ⟨⟨a, b, c, is, s, rfl, hx, hcase⟩, fr3⟩
  have f3 := f2.trans fr3
  have y3 := fr3.row' f2.ok y2
  have hy3 := hy2.fr f2.ok fr3
  obtain ⟨p4, c4, rfl, _⟩ := hx.offs.open
  obtain ⟨p5, c5, rfl, _⟩ := hx.boards.open
  obtain ⟨p6, c6, rfl, _⟩ := hx.tars.open
  have fr4 : Fr h3 ((h3.alloc (.row [.slice none 0 0, .slice none 0 0, .slice none 0 0] 0 true)).set h3.next (.row [.slice p4 s.offs.length c4, .slice p5 s.boards.length c5, .slice p6 s.tars.length c6] 0 true)) := ((Fr.refl f3.ok).alloc _).set (Nat.le_refl _) (by simp) _
  have x4 : rowAt ((h3.alloc (.row [.slice none 0 0, .slice none 0 0, .slice none 0 0] 0 true)).set h3.next (.row [.slice p4 s.offs.length c4, .slice p5 s.boards.length c5, .slice p6 s.tars.length c6] 0 true)) h3.next = some [.slice p4 s.offs.length c4, .slice p5 s.boards.length c5, .slice p6 s.tars.length c6] := rowAt_set_self _ _ _ _ _
  simp (maxDischargeDepth := 30) only [AMS, AMH, ↓reduceIte, Nat.reduceLT, Nat.reduceEqDiff, Nat.reduceAdd, Nat.reduceMul, reduceCtorEq, decide_true, decide_false, Nat.reduceLeDiff, Int.reduceNe, Int.reduceEq, ne_eq, not_false_eq_true, and_self, F20_Am150, f3.ok]
  generalize ((h3.alloc (.row [.slice none 0 0, .slice none 0 0, .slice none 0 0] 0 true)).set h3.next (.row [.slice p4 s.offs.length c4, .slice p5 s.boards.length c5, .slice p6 s.tars.length c6] 0 true)) = h4 at fr4 x4 ⊢
  have f4 := f3.trans fr4
  have y4 := fr4.row' f3.ok y3
  have hy4 := hy3.fr f3.ok fr4
  have hx4 := hx.fr f3.ok fr4
  have k4 := f4.ok
  have n4 := f4.next
  have bad : ∀ {H : Heap}, HOK H → IsSheet H (.slice p1 S.offs.length c1) (.slice p2 S.boards.length c2) (.slice p3 S.tars.length c3) S → S = S0 → ∃ h', callF CC (Lim CC) 66 [.agg ⟨[.slice p1 S.offs.length c1, .slice p2 S.boards.length c2, .slice p3 S.tars.length c3]⟩, .agg ⟨[.slice none 0 0, .slice none 0 0, .slice none 0 0]⟩] H = some (.ret (.bool true) h' none) ∧ Fr H h' := by
    intro H kH q e
    subst e
    obtain ⟨_, h', e, rfl, fr⟩ := sames_66 kH q (S0_is H) (by decide) (by decide) (by decide) (by decide) (by decide) (by decide)
    have d : decide (sameS S0 S0) = true := by simp [sameS]
    rw [d] at e
    exact ⟨h', e, fr⟩
  by_cases hlt : 210 < t.length
  · have er : readB t = (S0, 3) := by unfold readB; rw [if_pos hlt]
    have d2 : decide ((((bs t).data.toList.length : Nat) : Int) > 210) = true := by show decide ((t.length : Int) > 210) = true; exact decide_eq_true (by omega)
    have e2 : (readB t).2 = 3 := by rw [er]
    obtain ⟨h5, e5, fr5⟩ := bad k4 hy4 (by rw [hS, er])
    simp (maxDischargeDepth := 30) only [AMS, AMH, ↓reduceIte, Nat.reduceLT, Nat.reduceEqDiff, Nat.reduceAdd, Nat.reduceMul, reduceCtorEq, decide_true, decide_false, Nat.reduceLeDiff, Int.reduceNe, Int.reduceEq, ne_eq, not_false_eq_true, and_self, F20_Am150, k4, d2, e2, n30, z33, y4, e5, known_23s, fr5.ok]
    exact ⟨trivial, f4.trans fr5⟩
  have d2 : decide ((((bs t).data.toList.length : Nat) : Int) > 210) = false := by show decide ((t.length : Int) > 210) = false; exact decide_eq_false (by omega)
  rcases hcase with ⟨rfl, hp'⟩ | ⟨rfl, hp', hs0⟩
  rotate_left
  · have er : readB t = (S0, 4) := by unfold readB; rw [if_neg hlt, hp']
    have e2 : (readB t).2 = 4 := by rw [er]
    obtain ⟨h5, e5, fr5⟩ := bad k4 hy4 (by rw [hS, er])
    simp (maxDischargeDepth := 30) only [AMS, AMH, ↓reduceIte, Nat.reduceLT, Nat.reduceEqDiff, Nat.reduceAdd, Nat.reduceMul, reduceCtorEq, decide_true, decide_false, Nat.reduceLeDiff, Int.reduceNe, Int.reduceEq, ne_eq, not_false_eq_true, and_self, F20_Am150, k4, d2, e2, n40, z44, y4, e5, known_23s, fr5.ok]
    exact ⟨trivial, f4.trans fr5⟩
  obtain ⟨ho, ht⟩ := parse_ok hp'
  obtain ⟨_, h5, e5, rfl, fr5⟩ := sheet_32 k4 hx4
  have f5 := f4.trans fr5
  have k5 := f5.ok
  have y5 := fr5.row' k4 y4
  have x5 := fr5.row' k4 x4
  have hy5 := hy4.fr k4 fr5
  have hx5 := hx4.fr k4 fr5
  cases hok : s.ok with
  | false =>
    rw [hok] at e5
    have er : readB t = (S0, 2) := by unfold readB; rw [if_neg hlt, hp']; simp [hok]
    have e2 : (readB t).2 = 2 := by rw [er]
    obtain ⟨h6, e6, fr6⟩ := bad k5 hy5 (by rw [hS, er])
    simp (maxDischargeDepth := 30) only [AMS, AMH, ↓reduceIte, Nat.reduceLT, Nat.reduceEqDiff, Nat.reduceAdd, Nat.reduceMul, reduceCtorEq, decide_true, decide_false, Nat.reduceLeDiff, Int.reduceNe, Int.reduceEq, ne_eq, not_false_eq_true, and_self, F20_Am150, k4, d2, x4, e5, k5, e2, n20, z22, y5, e6, known_23s, fr6.ok]
    exact ⟨trivial, f5.trans fr6⟩
  | true =>
    rw [hok] at e5
    have er : readB t = (s, 0) := by unfold readB; rw [if_neg hlt, hp']; simp [hok]
    have e2 : (readB t).2 = 0 := by rw [er]
    have hSs : S = s := by rw [hS, er]
    subst hSs
    obtain ⟨⟨l1, l2, l3⟩, _⟩ := Sheet.okB_iff.1 hok
    simp (maxDischargeDepth := 30) only [AMS, AMH, ↓reduceIte, Nat.reduceLT, Nat.reduceEqDiff, Nat.reduceAdd, Nat.reduceMul, reduceCtorEq, decide_true, decide_false, Nat.reduceLeDiff, Int.reduceNe, Int.reduceEq, ne_eq, not_false_eq_true, and_self, F20_Am150, k4, d2, x4, e5, k5, e2, n00, y5]
    refine W_call (print_63 k5 (by have := fr5.next; omega) hy5) ?_
    rintro _ h6 ⟨rfl, fr6⟩
    have f6 := f5.trans fr6
    have k6 := f6.ok
    have y6 := fr6.row' k5 y5
    have x6 := fr6.row' k5 x5
    obtain ⟨_, h7, e7, rfl, fr7⟩ := sames_66 k6 (hy5.fr k5 fr6) (hx5.fr k5 fr6) (by omega) (by omega) (by omega) (by omega) (by omega) (by omega)
    have d4 : decide (sameS S S) = true := by simp [sameS]
    rw [d4] at e7
    have ep : printB S = (textB S, 0) := by unfold printB; rw [hok]; rfl
    have d5 : decide (textB S = t) = true := decide_eq_true ht
    rw [ep]
    simp (maxDischargeDepth := 30) only [AMS, AMH, ↓reduceIte, Nat.reduceLT, Nat.reduceEqDiff, Nat.reduceAdd, Nat.reduceMul, reduceCtorEq, decide_true, decide_false, Nat.reduceLeDiff, Int.reduceNe, Int.reduceEq, ne_eq, not_false_eq_true, and_self, F20_Am150, k6, y6, x6, z00, e7, s_eq, d5, known_23s, fr7.ok]
    exact ⟨trivial, f6.trans fr7⟩
end Go.Am
