/- The abstract machine over this program: mixtures. -/
import Derived.Test.YtlflfbnnjlkkcaaGreatJT72
set_option linter.unusedSimpArgs false
set_option linter.unusedVariables false
namespace Go.Am
open Go Go.Proofs
theorem F17_T74 : type_of% (And.intro @fp_43_4 <| And.intro @ix_22 <| And.intro @ld_3 <| And.intro @ld_41 <| And.intro @len_22 <| And.intro @len_41 <| And.intro @part_3 <| And.intro @size_22 <| And.intro @size_3 <| And.intro @und_22 @zero_22) := And.intro @fp_43_4 <| And.intro @ix_22 <| And.intro @ld_3 <| And.intro @ld_41 <| And.intro @len_22 <| And.intro @len_41 <| And.intro @part_3 <| And.intro @size_22 <| And.intro @size_3 <| And.intro @und_22 @zero_22
theorem F59_T74 : type_of% (And.intro @fp_43_4 <| And.intro @ld_41 <| And.intro @len_22 @len_41) := And.intro @fp_43_4 <| And.intro @ld_41 <| And.intro @len_22 @len_41

/-- a mixture of the tins of a sheet -/
structure MixGood (s : TintS) (l : List Int) : Prop where
  all : ∀ x ∈ l, inP x 0 8 = true
  len : l.length = s.tins.length
  sum : inP (sumI l) 1 8 = true
theorem MixGood.bound {s : TintS} {l : List Int} (G : MixGood s l) : ∀ x ∈ l, 0 ≤ x ∧ x ≤ 1000000000 := fun x hx => by
  have := of_decide_eq_true (G.all x hx)
  omega

set_option maxRecDepth 10000 in
set_option maxHeartbeats 1000000 in
theorem Mix_7 {v w : Value} {s : TintS} {l : List Int} {h : Heap} (hk : HOK h) (hv : LS h v s.tins Tin.cells 6) (hw : LS h w l ints 1) (hl : l.length ≤ 1000) :
    CW CC 17 [.agg ⟨s.cells v⟩, w] h fun r h' => (∃ b, r = .bool b ∧ (b = true → MixGood s l)) ∧ Fr h h' := by
  obtain ⟨q, c, rfl, _⟩ := hv.open
  have hw0 := hw
  obtain ⟨q', c', rfl, hx⟩ := hw.open
  unfold TintS.cells
  refine CW_in Tryz.f17 (by kernel_rfl) (by kernel_rfl) rfl rfl ?_
  simp only [Tryz.f17]
  obtain ⟨R, hR⟩ : ∃ R, R = [Value.int .i64 s.o1, .int .i64 s.o2, .int .i64 s.o3, .int .i64 s.f1.lo, .int .i64 s.f1.hi, .int .i64 s.f2.lo, .int .i64 s.f2.hi, .int .i64 s.f3.lo, .int .i64 s.f3.hi, .int .i64 s.years.lo, .int .i64 s.years.hi, .int .i64 s.off, .slice q s.tins.length c] := ⟨_, rfl⟩
  have f1 : Fr h (h.alloc (.row R 0 true)) := (Fr.refl hk).alloc _
  have r1 : rowAt (h.alloc (.row R 0 true)) h.next = some R := rowAt_new _ _ _ _
  rw [hR] at f1 r1
  simp (maxDischargeDepth := 30) only [AMS, AMH, ↓reduceIte, Nat.reduceLT, Nat.reduceEqDiff, Nat.reduceAdd, Nat.reduceMul, reduceCtorEq, decide_true, decide_false, Nat.reduceLeDiff, Int.reduceNe, Int.reduceEq, ne_eq, not_false_eq_true, and_self, F17_T74, hk]
  rw [← hR] at f1 r1
  rw [← hR]
  generalize (h.alloc (.row R 0 true)) = h1 at f1 r1 ⊢
  subst hR
  have k1 := f1.ok
  have no : ∀ {h'}, Fr h h' → (∃ b, (Value.bool false) = .bool b ∧ (b = true → MixGood s l)) ∧ Fr h h' := fun f => ⟨⟨false, rfl, fun e => by cases e⟩, f⟩
  refine W_loop l.length (fun m f h' => ∃ i, i ≤ l.length ∧ m = l.length - i ∧ f 1 = .slice q' l.length c' ∧ f 2 = .pointer (some ⟨h.next, 0, none⟩) ∧ f 5 = .int .i64 (i : Int) ∧ (∀ (j : Nat) x, j < i → l[j]? = some x → inP x 0 8 = true) ∧ h' = h1)
    ⟨0, by omega, by omega, by simp [upd_at, argsFn_at], by simp [upd_at, argsFn_at], by simp [upd_at], fun j x hj => by omega, rfl⟩ ?_
  rintro m f h' ⟨i, hi, rfl, g1, g2, g5, hall, rfl⟩ ih
  by_cases hil : i < l.length
  · obtain ⟨x, gx⟩ : ∃ x, l[i]? = some x := ⟨_, List.getElem?_eq_getElem hil⟩
    rcases hx with hx | ⟨b, o, sp, row, rfl, hr, hx⟩
    · rw [hx] at hil; simp at hil
    have hcell : row[o + i]? = some (.int .i64 x) := by simpa [ints] using (hx _ _ gx).2 0 (by omega)
    have hr1 := f1.row' hk hr
    cases hin : inP x 0 8 with
    | false =>
      simp (maxDischargeDepth := 30) only [AMS, AMH, ↓reduceIte, Nat.reduceLT, Nat.reduceEqDiff, Nat.reduceAdd, Nat.reduceMul, reduceCtorEq, decide_true, decide_false, Nat.reduceLeDiff, Int.reduceNe, Int.reduceEq, ne_eq, not_false_eq_true, and_self, F17_T74, k1, r1, g1, g2, g5, lt_t hil, hil, Nat.mul_one, hr1, hcell, in_7, hin]
      exact no f1
    | true =>
      simp (maxDischargeDepth := 30) only [AMS, AMH, ↓reduceIte, Nat.reduceLT, Nat.reduceEqDiff, Nat.reduceAdd, Nat.reduceMul, reduceCtorEq, decide_true, decide_false, Nat.reduceLeDiff, Int.reduceNe, Int.reduceEq, ne_eq, not_false_eq_true, and_self, F17_T74, k1, r1, g1, g2, g5, lt_t hil, hil, Nat.mul_one, hr1, hcell, in_7, hin, i_next hil hl]
      refine ih (l.length - (i + 1)) _ _ (by omega) ?_
      refine ⟨i + 1, by omega, rfl, by simp [upd_at, g1], by simp [upd_at, g2], by simp [upd_at], fun j y hj hy => ?_, rfl⟩
      rcases Nat.lt_or_ge j i with w | w
      · exact hall j y w hy
      · have : j = i := by omega
        subst this
        rw [gx] at hy; simp at hy; subst hy; exact hin
  · have : i = l.length := by omega
    subst this
    have hA : ∀ x ∈ l, inP x 0 8 = true := fun x hx => by
      obtain ⟨j, hj⟩ := List.mem_iff_getElem?.1 hx
      exact hall j x (List.getElem?_eq_some_iff.1 hj).1 hj
    have hB : ∀ x ∈ l, 0 ≤ x ∧ x ≤ 1000000000 := fun x hx => by
      have := of_decide_eq_true (hA x hx)
      omega
    by_cases hlen : l.length = s.tins.length
    · have e : (((l.length : Nat) : Int) == ((s.tins.length : Nat) : Int)) = true := by simp [hlen]
      simp (maxDischargeDepth := 30) only [AMS, AMH, ↓reduceIte, Nat.reduceLT, Nat.reduceEqDiff, Nat.reduceAdd, Nat.reduceMul, reduceCtorEq, decide_true, decide_false, Nat.reduceLeDiff, Int.reduceNe, Int.reduceEq, ne_eq, not_false_eq_true, and_self, F17_T74, k1, r1, g1, g2, g5, lt_f, e]
      refine W_call (parts_7 _ (hw0.fr hk f1) hl hB) ?_
      rintro _ _ ⟨rfl, rfl⟩
      simp (maxDischargeDepth := 30) only [AMS, AMH, ↓reduceIte, Nat.reduceLT, Nat.reduceEqDiff, Nat.reduceAdd, Nat.reduceMul, reduceCtorEq, decide_true, decide_false, Nat.reduceLeDiff, Int.reduceNe, Int.reduceEq, ne_eq, not_false_eq_true, and_self, F17_T74, k1, in_7]
      exact ⟨⟨_, rfl, fun hs => ⟨hA, hlen, hs⟩⟩, f1⟩
    · have e : (((l.length : Nat) : Int) == ((s.tins.length : Nat) : Int)) = false := by rw [beq_eq_false_iff_ne]; omega
      simp (maxDischargeDepth := 30) only [AMS, AMH, ↓reduceIte, Nat.reduceLT, Nat.reduceEqDiff, Nat.reduceAdd, Nat.reduceMul, reduceCtorEq, decide_true, decide_false, Nat.reduceLeDiff, Int.reduceNe, Int.reduceEq, ne_eq, not_false_eq_true, and_self, F17_T74, k1, r1, g1, g2, g5, lt_f, e]
      exact no f1

theorem mix1_t (n : Int) (h : Heap) : callF CC (Lim CC) 148 [.int .i64 n] h = some (.ret (.bool (!inP n 0 8)) h none) := by
  refine CW.eq (CW_in Tryz.f148 (by kernel_rfl) (by kernel_rfl) rfl rfl ?_)
  simp only [Tryz.f148]
  simp (maxDischargeDepth := 30) only [AMS, AMH, ↓reduceIte, Nat.reduceLT, Nat.reduceEqDiff, Nat.reduceAdd, Nat.reduceMul, reduceCtorEq, decide_true, decide_false, Nat.reduceLeDiff, Int.reduceNe, Int.reduceEq, ne_eq, not_false_eq_true, and_self, L_nil, in_t]
  try exact ⟨rfl, trivial⟩
set_option maxRecDepth 10000 in
set_option maxHeartbeats 1000000 in
theorem isMix_t {v w : Value} {s : TintS} {l : List Int} {h : Heap} (hk : HOK h) (hv : LS h v s.tins Tin.cells 6) (hw : LS h w l ints 1) (hl : l.length ≤ 1000) (G : MixGood s l) :
    CW CC 59 [.agg ⟨s.cells v⟩, w] h fun r h' => r = .bool true ∧ Fr h h' := by
  obtain ⟨q, c, rfl, _⟩ := hv.open
  obtain ⟨q', c', rfl, _⟩ := hw.open
  unfold TintS.cells
  refine CW_in Tryz.f59 (by kernel_rfl) (by kernel_rfl) rfl rfl ?_
  simp only [Tryz.f59]
  obtain ⟨R, hR⟩ : ∃ R, R = [Value.int .i64 s.o1, .int .i64 s.o2, .int .i64 s.o3, .int .i64 s.f1.lo, .int .i64 s.f1.hi, .int .i64 s.f2.lo, .int .i64 s.f2.hi, .int .i64 s.f3.lo, .int .i64 s.f3.hi, .int .i64 s.years.lo, .int .i64 s.years.hi, .int .i64 s.off, .slice q s.tins.length c] := ⟨_, rfl⟩
  have f1 : Fr h (h.alloc (.row R 0 true)) := (Fr.refl hk).alloc _
  have r1 : rowAt (h.alloc (.row R 0 true)) h.next = some R := rowAt_new _ _ _ _
  rw [hR] at f1 r1
  have e : (((l.length : Nat) : Int) == ((s.tins.length : Nat) : Int)) = true := by simp [G.len]
  simp (maxDischargeDepth := 30) only [AMS, AMH, ↓reduceIte, Nat.reduceLT, Nat.reduceEqDiff, Nat.reduceAdd, Nat.reduceMul, reduceCtorEq, decide_true, decide_false, Nat.reduceLeDiff, Int.reduceNe, Int.reduceEq, ne_eq, not_false_eq_true, and_self, F59_T74, hk, e]
  rw [← hR] at f1 r1
  rw [← hR]
  generalize (h.alloc (.row R 0 true)) = h1 at f1 r1 ⊢
  subst hR
  have k1 := f1.ok
  have ha : (l.any fun x => !inP x 0 8) = false := any_none (List.all_eq_true.2 G.all)
  refine W_call (contains_ints k1 (fun x => !inP x 0 8) (hw.fr hk f1) hl fun h6 f6 x _ => ⟨h6, ?_, Fr.refl f6.ok⟩) ?_
  · first | (rw [V_func]; exact mix1_t x h6) | (rw [V_clo]; exact mix1_t x h6)
  rintro _ h2 ⟨rfl, fr2⟩
  rw [ha]
  have k2 := fr2.ok
  simp (maxDischargeDepth := 30) only [AMS, AMH, ↓reduceIte, Nat.reduceLT, Nat.reduceEqDiff, Nat.reduceAdd, Nat.reduceMul, reduceCtorEq, decide_true, decide_false, Nat.reduceLeDiff, Int.reduceNe, Int.reduceEq, ne_eq, not_false_eq_true, and_self, F59_T74, k2]
  refine W_call (sum_t _ ((hw.fr hk f1).fr k1 fr2) hl G.bound) ?_
  rintro _ _ ⟨rfl, rfl⟩
  simp (maxDischargeDepth := 30) only [AMS, AMH, ↓reduceIte, Nat.reduceLT, Nat.reduceEqDiff, Nat.reduceAdd, Nat.reduceMul, reduceCtorEq, decide_true, decide_false, Nat.reduceLeDiff, Int.reduceNe, Int.reduceEq, ne_eq, not_false_eq_true, and_self, F59_T74, k2, in_t, G.sum]
  exact ⟨by first | rfl | trivial, f1.trans fr2⟩

/-- Check, of a sheet that is as defined -/
theorem check_t {v : Value} {s : TintS} {h : Heap} (hk : HOK h) (hv : LS h v s.tins Tin.cells 6) (G : s.Good) :
    CW CC 13 [.agg ⟨s.cells v⟩] h fun r h' => r = .int .i64 0 ∧ Fr h h' := by
  obtain ⟨q, c, rfl, _⟩ := hv.open
  refine CW_in Tryz.f13 (by kernel_rfl) (by kernel_rfl) rfl rfl ?_
  simp only [Tryz.f13]
  have f1 : Fr h (h.alloc (.row (s.cells (.slice q s.tins.length c)) 0 true)) := (Fr.refl hk).alloc _
  have r1 : rowAt (h.alloc (.row (s.cells (.slice q s.tins.length c)) 0 true)) h.next = some (s.cells (.slice q s.tins.length c)) := rowAt_new _ _ _ _
  have t1 : take? (s.cells (.slice q s.tins.length c)) 0 13 = some (s.cells (.slice q s.tins.length c)) := rfl
  have s1 : allOne (s.cells (.slice q s.tins.length c)) = true := rfl
  have n1 : (s.cells (.slice q s.tins.length c)).length = 13 := rfl
  simp (maxDischargeDepth := 30) only [AMS, AMH, ↓reduceIte, Nat.reduceLT, Nat.reduceEqDiff, Nat.reduceAdd, Nat.reduceMul, reduceCtorEq, decide_true, decide_false, Nat.reduceLeDiff, Int.reduceNe, Int.reduceEq, ne_eq, not_false_eq_true, and_self, ld_43, hk, t1, s1, n1]
  generalize (h.alloc (.row (s.cells (.slice q s.tins.length c)) 0 true)) = h1 at f1 r1 ⊢
  refine W_call (isSheet_t f1.ok (hv.fr hk f1) G) ?_
  rintro _ h2 ⟨rfl, fr2⟩
  simp (maxDischargeDepth := 30) only [AMS, AMH, ↓reduceIte, Nat.reduceLT, Nat.reduceEqDiff, Nat.reduceAdd, Nat.reduceMul, reduceCtorEq, decide_true, decide_false, Nat.reduceLeDiff, Int.reduceNe, Int.reduceEq, ne_eq, not_false_eq_true, and_self, ld_43, fr2.ok]
  exact ⟨by first | rfl | trivial, f1.trans fr2⟩
end Go.Am
