/- Parts P6, P7 of the abstract machine over this program, joined: what each part says stands at its head. -/
import Derived.Test.YtfnllpibhjikgaaGreatDoorJP3
set_option linter.unusedSimpArgs false
set_option linter.unusedVariables false
/- The abstract machine over this program: the line of an entry: of the program and of the specification. -/
namespace Go.Am
open Go Go.Proofs
theorem F8_P6 : type_of% (And.intro @fp_25_0 <| And.intro @fp_25_1 <| And.intro @fv_44_0 <| And.intro @fv_44_1 <| And.intro @ix_23 <| And.intro @ld_22 <| And.intro @ld_23 <| And.intro @ld_3 <| And.intro @len_23 <| And.intro @part_3 <| And.intro @size_23 <| And.intro @size_3 <| And.intro @und_23 @zero_23) := And.intro @fp_25_0 <| And.intro @fp_25_1 <| And.intro @fv_44_0 <| And.intro @fv_44_1 <| And.intro @ix_23 <| And.intro @ld_22 <| And.intro @ld_23 <| And.intro @ld_3 <| And.intro @len_23 <| And.intro @part_3 <| And.intro @size_23 <| And.intro @size_3 <| And.intro @und_23 @zero_23
theorem F10_P6 : type_of% (And.intro @fp_25_0 <| And.intro @fp_25_1 <| And.intro @ld_22 @ld_23) := And.intro @fp_25_0 <| And.intro @fp_25_1 <| And.intro @ld_22 @ld_23
theorem F19_P6 : type_of% (And.intro @fp_25_0 <| And.intro @fp_25_1 <| And.intro @ld_22 <| And.intro @ld_23 <| And.intro @len_23 <| And.intro @part_9 <| And.intro @size_120 <| And.intro @size_9 @und_120) := And.intro @fp_25_0 <| And.intro @fp_25_1 <| And.intro @ld_22 <| And.intro @ld_23 <| And.intro @len_23 <| And.intro @part_9 <| And.intro @size_120 <| And.intro @size_9 @und_120

/-- the word of a kind -/
def wordK (k : Int) : Bs := wordL.getD (k - 1).toNat []
def lineB (k : Int) (l : List Int) : Bs := glue 32 (wordK k :: l.map dec)
theorem kind_nat {k : Int} (h : isKind k = true) : ∃ (j : Nat) (w : Bs), k = (j : Int) + 1 ∧ j < 13 ∧ wordL[j]? = some w ∧ wordE[j]? = some w ∧ wordK k = w := by
  have h := of_decide_eq_true h
  obtain ⟨j, rfl⟩ : ∃ j : Nat, k = (j : Int) + 1 := ⟨(k - 1).toNat, by omega⟩
  have hj : j < 13 := by omega
  have hl : j < wordL.length := by rw [wordL_len]; omega
  have e1 : wordL[j]? = some wordL[j] := List.getElem?_eq_getElem hl
  refine ⟨j, wordL[j], rfl, hj, e1, ?_, ?_⟩
  · rw [wordE_is, List.getElem?_take_of_lt hj, e1]
  · unfold wordK
    rw [show ((j : Int) + 1 - 1).toNat = j by omega, List.getD_eq_getElem?_getD, e1]; rfl
theorem word_len (k : Int) : (wordK k).length ≤ 6 := by
  unfold wordK
  rw [List.getD_eq_getElem?_getD]
  cases e : wordL[(k - 1).toNat]? with
  | none => simp
  | some w => exact wordL_short w (List.mem_of_getElem? e)
theorem formed_ok {k : Int} {l : List Int} (h : formed k l = true) : isKind k = true ∧ (∀ n ∈ l, okN n) ∧ l.length ≤ 5 := by
  unfold formed at h
  rw [Bool.and_eq_true, Bool.and_eq_true] at h
  obtain ⟨h1, h2, h3⟩ := h
  refine ⟨h1, fun n hn => ?_, ?_⟩
  · have := of_decide_eq_true (List.all_eq_true.1 h3 n hn)
    exact this
  · have h2 := of_decide_eq_true h2
    have h1 := of_decide_eq_true h1
    have : (manyK k).2 ≤ 5 := by
      rcases kinds_of h1 with rfl | rfl | rfl | rfl | rfl | rfl | rfl | rfl | rfl | rfl | rfl | rfl | rfl <;> decide
    omega
theorem line_len {k : Int} {l : List Int} (h : formed k l = true) : (lineB k l).length ≤ 31 := by
  obtain ⟨h1, h2, h3⟩ := formed_ok h
  unfold lineB
  rw [glue_tail, List.length_append]
  have := word_len k
  have := tail_len h2
  omega

set_option maxRecDepth 10000 in
theorem row_p {k : Int} {a : Value} {l : List Int} {h : Heap} (hk : HOK h) (hp : 0 < h.next) (hl : LS h a l ints 1) (hf : isKind k = true) (hn : ∀ n ∈ l, okN n) (hn5 : l.length ≤ 100) :
    CW CC 19 [.agg ⟨[.int .i64 k, a]⟩] h fun r h' => r = .string (bs (lineB k l)) ∧ Fr h h' := by
  obtain ⟨j, w, rfl, hj, gw, _, ew⟩ := kind_nat hf
  have hw : w.length ≤ 6 := by rw [← ew]; exact word_len _
  obtain ⟨p, c, rfl, hx⟩ := hl.open
  refine CW_in Tryz.f19 (by kernel_rfl) (by kernel_rfl) rfl rfl ?_
  simp only [Tryz.f19, bs_mk]
  have f1 : Fr h (h.alloc (.row [.int .i64 ((j : Int) + 1), .slice p l.length c] 0 true)) := (Fr.refl hk).alloc _
  have r1 : rowAt (h.alloc (.row [.int .i64 ((j : Int) + 1), .slice p l.length c] 0 true)) h.next = some [.int .i64 ((j : Int) + 1), .slice p l.length c] := rowAt_new _ _ _ _
  have n1 : (h.alloc (.row [.int .i64 ((j : Int) + 1), .slice p l.length c] 0 true)).next = h.next + 1 := by simp
  simp (maxDischargeDepth := 30) only [AMS, AMH, ↓reduceIte, Nat.reduceLT, Nat.reduceEqDiff, Nat.reduceAdd, Nat.reduceMul, reduceCtorEq, decide_true, decide_false, Nat.reduceLeDiff, Int.reduceNe, Int.reduceEq, ne_eq, not_false_eq_true, and_self, F19_P6, hk, bs_mk]
  generalize (h.alloc (.row [.int .i64 ((j : Int) + 1), .slice p l.length c] 0 true)) = h1 at f1 r1 n1 ⊢
  refine W_draw [(true, 1), (true, 2), (true, 3), (true, 0), (false, 2), (true, 4), (true, 5)] (by kernel_rfl) ?_
  have sub : IntKind.i64.wrap ((j : Int) + 1 - 1) = (j : Int) := by rw [show (j : Int) + 1 - 1 = j by omega, wrap64 (by omega) (by omega)]
  have k1 := f1.ok
  simp (maxDischargeDepth := 30) only [AMS, AMH, ↓reduceIte, Nat.reduceLT, Nat.reduceEqDiff, Nat.reduceAdd, Nat.reduceMul, reduceCtorEq, decide_true, decide_false, Nat.reduceLeDiff, Int.reduceNe, Int.reduceEq, ne_eq, not_false_eq_true, and_self, AMR, F19_P6, k1, r1, sub]
  refine W_callP (words_p k1) ?_
  rintro _ h2 ⟨rfl, fr2⟩
  have f2 := f1.trans fr2
  have k2 := f2.ok
  have r2 := fr2.row' k1 r1
  simp (maxDischargeDepth := 30) only [AMS, AMH, ↓reduceIte, Nat.reduceLT, Nat.reduceEqDiff, Nat.reduceAdd, Nat.reduceMul, reduceCtorEq, decide_true, decide_false, Nat.reduceLeDiff, Int.reduceNe, Int.reduceEq, ne_eq, not_false_eq_true, and_self, AMR, F19_P6, k2, r2, sub, idx_W gw]
  by_cases h0 : l = []
  · subst h0
    have e : (((0 : Nat) : Int) == 0) = true := rfl
    have e' : (((([] : List Int).length : Nat) : Int) == 0) = true := rfl
    simp (maxDischargeDepth := 30) only [AMS, AMH, ↓reduceIte, Nat.reduceLT, Nat.reduceEqDiff, Nat.reduceAdd, Nat.reduceMul, reduceCtorEq, decide_true, decide_false, Nat.reduceLeDiff, Int.reduceNe, Int.reduceEq, ne_eq, not_false_eq_true, and_self, AMR, F19_P6, k2, r2, e, e', beq_self_eq_true]
    exact ⟨by unfold lineB; rw [ew]; rfl, f2⟩
  · have h1 : 1 ≤ l.length := by cases l with | nil => exact absurd rfl h0 | cons x r => simp
    have e0 : (((l.length : Nat) : Int) == 0) = false := by rw [beq_eq_false_iff_ne]; omega
    have l2 := hl.fr hk f2
    have hj2 : (glue 32 (l.map dec)).length ≤ 1000 := by
      cases l with
      | nil => exact absurd rfl h0
      | cons x r =>
        rw [List.map_cons, glue_tail]
        have a1 := (dec_num (hn x List.mem_cons_self)).2.2.1
        have a2 := tail_len (ns := r) fun y hy => hn y (List.mem_cons_of_mem _ hy)
        simp at hn5 ⊢; omega
    simp (maxDischargeDepth := 30) only [AMS, AMH, ↓reduceIte, Nat.reduceLT, Nat.reduceEqDiff, Nat.reduceAdd, Nat.reduceMul, reduceCtorEq, decide_true, decide_false, Nat.reduceLeDiff, Int.reduceNe, Int.reduceEq, ne_eq, not_false_eq_true, and_self, AMR, F19_P6, k2, r2, e0, bs_mk, s_add (a := w) (b := [32]) (by simp; omega)]
    refine W_call (joined_p k2 (by have := f2.next; omega) l2 hn hn5 h1) ?_
    rintro _ h3 ⟨rfl, fr3⟩
    simp (maxDischargeDepth := 30) only [AMS, AMH, ↓reduceIte, Nat.reduceLT, Nat.reduceEqDiff, Nat.reduceAdd, Nat.reduceMul, reduceCtorEq, decide_true, decide_false, Nat.reduceLeDiff, Int.reduceNe, Int.reduceEq, ne_eq, not_false_eq_true, and_self, F19_P6, fr3.ok, s_add (a := w ++ [32]) (b := glue 32 (l.map dec)) (by simp; omega)]
    refine ⟨?_, f2.trans fr3⟩
    unfold lineB
    rw [ew]
    cases l with
    | nil => exact absurd rfl h0
    | cons x r => rw [List.map_cons, glue_cons]; simp

def writeB (k : Int) (l : List Int) : Bs × Int := if formed k l = true then (lineB k l, 0) else ([], 2)
set_option maxRecDepth 10000 in
theorem write_p {k : Int} {a : Value} {l : List Int} {h : Heap} (hk : HOK h) (hp : 0 < h.next) (hl : LS h a l ints 1) (hn : l.length ≤ 1000) :
    CW CC 7 [.agg ⟨[.int .i64 k, a]⟩] h fun r h' => r = .tuple ⟨[.string (bs (writeB k l).1), .int .i64 (writeB k l).2]⟩ ∧ Fr h h' := by
  obtain ⟨p, c, rfl, hx⟩ := hl.open
  refine CW_in Tryz.f7 (by kernel_rfl) (by kernel_rfl) rfl rfl ?_
  simp only [Tryz.f7, bs_mk]
  have f1 : Fr h (h.alloc (.row [.int .i64 k, .slice p l.length c] 0 true)) := (Fr.refl hk).alloc _
  have r1 : rowAt (h.alloc (.row [.int .i64 k, .slice p l.length c] 0 true)) h.next = some [.int .i64 k, .slice p l.length c] := rowAt_new _ _ _ _
  simp (maxDischargeDepth := 30) only [AMS, AMH, ↓reduceIte, Nat.reduceLT, Nat.reduceEqDiff, Nat.reduceAdd, Nat.reduceMul, reduceCtorEq, decide_true, decide_false, Nat.reduceLeDiff, Int.reduceNe, Int.reduceEq, ne_eq, not_false_eq_true, and_self, ld_25, hk, bs_mk]
  generalize (h.alloc (.row [.int .i64 k, .slice p l.length c] 0 true)) = h1 at f1 r1 ⊢
  refine W_call (isFormed_p f1.ok (hl.fr hk f1) hn) ?_
  rintro _ h2 ⟨rfl, fr2⟩
  have f2 := f1.trans fr2
  have k2 := f2.ok
  have r2 := fr2.row' f1.ok r1
  unfold writeB
  cases hf : formed k l with
  | false =>
    simp (maxDischargeDepth := 30) only [AMS, AMH, ↓reduceIte, Nat.reduceLT, Nat.reduceEqDiff, Nat.reduceAdd, Nat.reduceMul, reduceCtorEq, decide_true, decide_false, Nat.reduceLeDiff, Int.reduceNe, Int.reduceEq, ne_eq, not_false_eq_true, and_self, ld_25, k2, r2]
    exact ⟨by simp, f2⟩
  | true =>
    obtain ⟨a1, a2, a3⟩ := formed_ok hf
    simp (maxDischargeDepth := 30) only [AMS, AMH, ↓reduceIte, Nat.reduceLT, Nat.reduceEqDiff, Nat.reduceAdd, Nat.reduceMul, reduceCtorEq, decide_true, decide_false, Nat.reduceLeDiff, Int.reduceNe, Int.reduceEq, ne_eq, not_false_eq_true, and_self, ld_25, k2, r2]
    refine W_call (row_p k2 (by have := f2.next; omega) (hl.fr hk f2) a1 a2 (by omega)) ?_
    rintro _ h3 ⟨rfl, fr3⟩
    simp (maxDischargeDepth := 30) only [AMS, AMH, ↓reduceIte, Nat.reduceLT, Nat.reduceEqDiff, Nat.reduceAdd, Nat.reduceMul, reduceCtorEq, decide_true, decide_false, Nat.reduceLeDiff, Int.reduceNe, Int.reduceEq, ne_eq, not_false_eq_true, and_self, ld_25, fr3.ok]
    exact ⟨by simp, f2.trans fr3⟩

/- THE SPECIFICATION -/
theorem formed_r {k : Int} {l : List Int} : formed k l = (l.all numK && inP l.length (manyK k).1 (manyK k).2) := by
  unfold formed
  cases hk : isKind k with
  | true => cases l.all numK <;> cases inP l.length (manyK k).1 (manyK k).2 <;> rfl
  | false =>
    rw [many_none (of_decide_eq_false hk)]
    have : inP l.length 0 (-1) = false := decide_eq_false (by omega)
    rw [this]; cases l.all numK <;> rfl
set_option maxRecDepth 10000 in
theorem Formed_p {k : Int} {a : Value} {l : List Int} {h : Heap} (hk : HOK h) (hl : LS h a l ints 1) (hn : l.length ≤ 1000) : CW CC 8 [.agg ⟨[.int .i64 k, a]⟩] h fun r h' => r = .bool (formed k l) ∧ Fr h h' := by
  obtain ⟨p, c, rfl, hx⟩ := hl.open
  refine CW_in Tryz.f8 (by kernel_rfl) (by kernel_rfl) rfl rfl ?_
  simp only [Tryz.f8]
  have f1 : Fr h (h.alloc (.row [.int .i64 k, .slice p l.length c] 0 true)) := (Fr.refl hk).alloc _
  have r1 : rowAt (h.alloc (.row [.int .i64 k, .slice p l.length c] 0 true)) h.next = some [.int .i64 k, .slice p l.length c] := rowAt_new _ _ _ _
  simp (maxDischargeDepth := 30) only [AMS, AMH, ↓reduceIte, Nat.reduceLT, Nat.reduceEqDiff, Nat.reduceAdd, Nat.reduceMul, reduceCtorEq, decide_true, decide_false, Nat.reduceLeDiff, Int.reduceNe, Int.reduceEq, ne_eq, not_false_eq_true, and_self, F8_P6, hk]
  generalize (h.alloc (.row [.int .i64 k, .slice p l.length c] 0 true)) = h1 at f1 r1 ⊢
  have k1 := f1.ok
  refine W_loop l.length (fun m f h' => ∃ i, i ≤ l.length ∧ m = l.length - i ∧ f 1 = .pointer (some ⟨h.next, 0, none⟩) ∧ f 3 = .int .i64 i ∧ (∀ (j : Nat) x, j < i → l[j]? = some x → numK x = true) ∧ h' = h1)
    ⟨0, by omega, by omega, by simp [upd_at, argsFn_at], by simp [upd_at], fun j x hj => by omega, rfl⟩ ?_
  rintro m f h' ⟨i, hi, rfl, g1, g3, hall, rfl⟩ ih
  by_cases hil : i < l.length
  · obtain ⟨x, gx⟩ : ∃ x, l[i]? = some x := ⟨_, List.getElem?_eq_getElem hil⟩
    rcases hx with hx | ⟨b, o, sp, row, rfl, hr, hx⟩
    · rw [hx] at hil; simp at hil
    have hcell : row[o + i]? = some (.int .i64 x) := by simpa [ints] using (hx _ _ gx).2 0 (by omega)
    have hr1 := f1.row' hk hr
    cases hnk : numK x with
    | false =>
      have hin : inP x 0 9999 = false := hnk
      simp (maxDischargeDepth := 30) only [AMS, AMH, ↓reduceIte, Nat.reduceLT, Nat.reduceEqDiff, Nat.reduceAdd, Nat.reduceMul, reduceCtorEq, decide_true, decide_false, Nat.reduceLeDiff, Int.reduceNe, Int.reduceEq, ne_eq, not_false_eq_true, and_self, F8_P6, k1, r1, g1, g3, lt_t hil, hil, Nat.mul_one, hr1, hcell, in_r, hin]
      refine ⟨?_, f1⟩
      rw [formed_r]
      have : l.all numK = false := List.all_eq_false.2 ⟨x, List.mem_of_getElem? gx, by rw [hnk]; simp⟩
      rw [this]; rfl
    | true =>
      have hin : inP x 0 9999 = true := hnk
      simp (maxDischargeDepth := 30) only [AMS, AMH, ↓reduceIte, Nat.reduceLT, Nat.reduceEqDiff, Nat.reduceAdd, Nat.reduceMul, reduceCtorEq, decide_true, decide_false, Nat.reduceLeDiff, Int.reduceNe, Int.reduceEq, ne_eq, not_false_eq_true, and_self, F8_P6, k1, r1, g1, g3, lt_t hil, hil, Nat.mul_one, hr1, hcell, in_r, hin, i_next hil hn]
      refine ih (l.length - (i + 1)) _ _ (by omega) ?_
      refine ⟨i + 1, by omega, rfl, by simp [upd_at, g1], by simp [upd_at], fun j y hj hy => ?_, rfl⟩
      rcases Nat.lt_or_ge j i with q | q
      · exact hall j y q hy
      · have : j = i := by omega
        subst this
        rw [gx] at hy; simp at hy; subst hy; exact hnk
  · have : i = l.length := by omega
    subst this
    have ha : l.all numK = true := by
      rw [List.all_eq_true]
      intro x hx
      obtain ⟨j, hj⟩ := List.mem_iff_getElem?.1 hx
      exact hall j x (List.getElem?_eq_some_iff.1 hj).1 hj
    simp (maxDischargeDepth := 30) only [AMS, AMH, ↓reduceIte, Nat.reduceLT, Nat.reduceEqDiff, Nat.reduceAdd, Nat.reduceMul, reduceCtorEq, decide_true, decide_false, Nat.reduceLeDiff, Int.reduceNe, Int.reduceEq, ne_eq, not_false_eq_true, and_self, F8_P6, k1, r1, g1, g3, lt_f]
    refine W_draw [(true, 0), (true, 1), (true, 2), (true, 3), (true, 4), (true, 7), (true, 8), (true, 5), (false, 1), (false, 2), (false, 8), (true, 6), (true, 9), (false, 1), (false, 2), (true, 10), (true, 11), (true, 12)] (by kernel_rfl) ?_
    simp (maxDischargeDepth := 30) only [AMS, AMH, ↓reduceIte, Nat.reduceLT, Nat.reduceEqDiff, Nat.reduceAdd, Nat.reduceMul, reduceCtorEq, decide_true, decide_false, Nat.reduceLeDiff, Int.reduceNe, Int.reduceEq, ne_eq, not_false_eq_true, and_self, AMR, F8_P6, k1, r1, g1, g3]
    refine W_callP (many_r k k1) ?_
    rintro _ h2 ⟨rfl, fr2⟩
    have k2 := fr2.ok
    have r2 := fr2.row' k1 r1
    simp (maxDischargeDepth := 30) only [AMS, AMH, ↓reduceIte, Nat.reduceLT, Nat.reduceEqDiff, Nat.reduceAdd, Nat.reduceMul, reduceCtorEq, decide_true, decide_false, Nat.reduceLeDiff, Int.reduceNe, Int.reduceEq, ne_eq, not_false_eq_true, and_self, AMR, F8_P6, k2, r2, g1, g3]
    refine W_callP (many_r k k2) ?_
    rintro _ h3 ⟨rfl, fr3⟩
    have k3 := fr3.ok
    have r3 := fr3.row' k2 r2
    simp (maxDischargeDepth := 30) only [AMS, AMH, ↓reduceIte, Nat.reduceLT, Nat.reduceEqDiff, Nat.reduceAdd, Nat.reduceMul, reduceCtorEq, decide_true, decide_false, Nat.reduceLeDiff, Int.reduceNe, Int.reduceEq, ne_eq, not_false_eq_true, and_self, AMR, F8_P6, k3, r3, g1, g3, in_r]
    exact ⟨by rw [formed_r, ha]; rfl, (f1.trans fr2).trans fr3⟩

theorem bsE : aBuildSlice CC 87 13 [(0, .string (bs [119, 97, 105, 116])), (1, .string (bs [99, 111, 97, 116])), (2, .string (bs [100, 114, 121])), (3, .string (bs [115, 112, 111, 116])), (4, .string (bs [109, 105, 120])), (5, .string (bs [102, 105, 108, 108])), (6, .string (bs [103, 105, 118, 101])), (7, .string (bs [100, 111, 110, 101])), (8, .string (bs [104, 111, 117, 114, 115])), (9, .string (bs [100, 101, 97, 108])), (10, .string (bs [112, 97, 121])), (11, .string (bs [102, 114, 111, 110, 116])), (12, .string (bs [117, 110, 100, 111]))] = some (.new (.row (wordE.map sV) 1 true) (sliceTo 1 13 13)) := by kernel_rfl
set_option maxRecDepth 10000 in
theorem name_p {k : Int} {h : Heap} (hk : HOK h) (hf : isKind k = true) : CW CC 26 [.int .i64 k] h fun r h' => r = .string (bs (wordK k)) ∧ Fr h h' := by
  obtain ⟨j, w, rfl, hj, _, gw, ew⟩ := kind_nat hf
  rw [ew]
  refine CW_in Tryz.f26 (by kernel_rfl) (by kernel_rfl) rfl rfl ?_
  simp only [Tryz.f26, bs_mk]
  have sub : IntKind.i64.wrap ((j : Int) + 1 - 1) = (j : Int) := by rw [show (j : Int) + 1 - 1 = j by omega, wrap64 (by omega) (by omega)]
  have gc : (wordE.map sV)[j]? = some (.string (bs w)) := by rw [List.getElem?_map, gw]; rfl
  simp (maxDischargeDepth := 30) only [AMS, AMH, ↓reduceIte, Nat.reduceLT, Nat.reduceEqDiff, Nat.reduceAdd, Nat.reduceMul, reduceCtorEq, decide_true, decide_false, Nat.reduceLeDiff, Int.reduceNe, Int.reduceEq, ne_eq, not_false_eq_true, and_self, bs_87, ix_87, ld_9, part_9, size_87, size_9, und_87, zero_87, hk, bs_mk, bsE, sub, hj, Nat.mul_one, Nat.zero_add, gc]
  exact ⟨by first | rfl | trivial, (Fr.refl hk).alloc _⟩
set_option maxRecDepth 10000 in
theorem Line_p {k : Int} {a : Value} {l : List Int} {h : Heap} (hk : HOK h) (hp : 0 < h.next) (hl : LS h a l ints 1) (hf : isKind k = true) (hn : ∀ n ∈ l, okN n) (hn5 : l.length ≤ 100) :
    CW CC 10 [.agg ⟨[.int .i64 k, a]⟩] h fun r h' => r = .string (bs (lineB k l)) ∧ Fr h h' := by
  obtain ⟨p, c, rfl, hx⟩ := hl.open
  refine CW_in Tryz.f10 (by kernel_rfl) (by kernel_rfl) rfl rfl ?_
  simp only [Tryz.f10, bs_mk]
  have f1 : Fr h (h.alloc (.row [.int .i64 k, .slice p l.length c] 0 true)) := (Fr.refl hk).alloc _
  have r1 : rowAt (h.alloc (.row [.int .i64 k, .slice p l.length c] 0 true)) h.next = some [.int .i64 k, .slice p l.length c] := rowAt_new _ _ _ _
  simp (maxDischargeDepth := 30) only [AMS, AMH, ↓reduceIte, Nat.reduceLT, Nat.reduceEqDiff, Nat.reduceAdd, Nat.reduceMul, reduceCtorEq, decide_true, decide_false, Nat.reduceLeDiff, Int.reduceNe, Int.reduceEq, ne_eq, not_false_eq_true, and_self, F10_P6, hk, bs_mk]
  generalize (h.alloc (.row [.int .i64 k, .slice p l.length c] 0 true)) = h1 at f1 r1 ⊢
  have k1 := f1.ok
  refine W_draw [(true, 0), (true, 1), (true, 3), (true, 4), (true, 2), (false, 4), (true, 5), (true, 6)] (by kernel_rfl) ?_
  simp (maxDischargeDepth := 30) only [AMS, AMH, ↓reduceIte, Nat.reduceLT, Nat.reduceEqDiff, Nat.reduceAdd, Nat.reduceMul, reduceCtorEq, decide_true, decide_false, Nat.reduceLeDiff, Int.reduceNe, Int.reduceEq, ne_eq, not_false_eq_true, and_self, AMR, F10_P6, k1, r1]
  refine W_callP (name_p k1 hf) ?_
  rintro _ h2 ⟨rfl, fr2⟩
  have f2 := f1.trans fr2
  have k2 := f2.ok
  have r2 := fr2.row' k1 r1
  simp (maxDischargeDepth := 30) only [AMS, AMH, ↓reduceIte, Nat.reduceLT, Nat.reduceEqDiff, Nat.reduceAdd, Nat.reduceMul, reduceCtorEq, decide_true, decide_false, Nat.reduceLeDiff, Int.reduceNe, Int.reduceEq, ne_eq, not_false_eq_true, and_self, AMR, F10_P6, k2, r2]
  refine W_callP (row_96 k2 (hl.fr hk f2) hn hn5 (by have := word_len k; omega)) ?_
  rintro _ h3 ⟨rfl, fr3⟩
  have k3 := fr3.ok
  have r3 := fr3.row' k2 r2
  simp (maxDischargeDepth := 30) only [AMS, AMH, ↓reduceIte, Nat.reduceLT, Nat.reduceEqDiff, Nat.reduceAdd, Nat.reduceMul, reduceCtorEq, decide_true, decide_false, Nat.reduceLeDiff, Int.reduceNe, Int.reduceEq, ne_eq, not_false_eq_true, and_self, AMR, F10_P6, k3, r3]
  exact ⟨by first | rfl | trivial, f2.trans fr3⟩
end Go.Am

/- The abstract machine over this program: reading a line: words that are numbers, the word of a line and its numbers. -/
namespace Go.Am
open Go Go.Proofs
theorem F55_P7 : type_of% (And.intro @bld_124 <| And.intro @bs_23 <| And.intro @fld_124_0 <| And.intro @ix_23 <| And.intro @ix_87 <| And.intro @ld_9 <| And.intro @len_87 <| And.intro @mi_124 <| And.intro @part_3 <| And.intro @part_9 <| And.intro @size_120 <| And.intro @size_124 <| And.intro @size_23 <| And.intro @size_3 <| And.intro @size_87 <| And.intro @size_9 <| And.intro @sp_124_0 <| And.intro @und_120 <| And.intro @und_23 <| And.intro @und_87 <| And.intro @zero_124 <| And.intro @zero_23 @zero_87) := And.intro @bld_124 <| And.intro @bs_23 <| And.intro @fld_124_0 <| And.intro @ix_23 <| And.intro @ix_87 <| And.intro @ld_9 <| And.intro @len_87 <| And.intro @mi_124 <| And.intro @part_3 <| And.intro @part_9 <| And.intro @size_120 <| And.intro @size_124 <| And.intro @size_23 <| And.intro @size_3 <| And.intro @size_87 <| And.intro @size_9 <| And.intro @sp_124_0 <| And.intro @und_120 <| And.intro @und_23 <| And.intro @und_87 <| And.intro @zero_124 <| And.intro @zero_23 @zero_87

/-- the text with which a line is given up -/
def refused (v : Value) : Prop := ∃ s : ByteArray, v = .iface 124 (.agg ⟨[.string s]⟩)
theorem must_p (b : Bool) (s : ByteArray) {h : Heap} (hk : HOK h) : CX CC 56 [.bool b, .string s] h (fun _ h' => b = true ∧ Fr h h') fun v h' => b = false ∧ refused v ∧ Fr h h' := by
  refine CX_in Tryz.f56 (by kernel_rfl) (by kernel_rfl) rfl rfl ?_
  simp only [Tryz.f56]
  cases b
  · simp (maxDischargeDepth := 30) only [AMS, AMH, ↓reduceIte, Nat.reduceLT, Nat.reduceEqDiff, Nat.reduceAdd, Nat.reduceMul, reduceCtorEq, decide_true, decide_false, Nat.reduceLeDiff, Int.reduceNe, Int.reduceEq, ne_eq, not_false_eq_true, and_self, bld_124, fld_124_0, mi_124, size_124, sp_124_0, zero_124, hk, O_panic, ROr_panic, PostX_panic]
    exact ⟨trivial, ⟨s, rfl⟩, Fr.refl hk⟩
  · simp (maxDischargeDepth := 30) only [AMS, AMH, ↓reduceIte, Nat.reduceLT, Nat.reduceEqDiff, Nat.reduceAdd, Nat.reduceMul, reduceCtorEq, decide_true, decide_false, Nat.reduceLeDiff, Int.reduceNe, Int.reduceEq, ne_eq, not_false_eq_true, and_self, bld_124, fld_124_0, mi_124, size_124, sp_124_0, zero_124, hk, PostX_end]
    exact ⟨trivial, Fr.refl hk⟩

set_option maxRecDepth 10000 in
set_option maxHeartbeats 2000000 in
theorem number_p {x : Bs} {h : Heap} (hk : HOK h) : CX CC 98 [.string (bs x)] h (fun r h' => numB x = true ∧ r = .int .i64 (valB x) ∧ Fr h h') fun e h' => numB x = false ∧ refused e ∧ Fr h h' := by
  refine CX_in Tryz.f98 (by kernel_rfl) (by kernel_rfl) rfl rfl ?_
  simp only [Tryz.f98, bs_mk]
  have fa : Fr h (h.alloc (.iter (bs x) 0)) := (Fr.refl hk).alloc _
  have ga : (h.alloc (.iter (bs x) 0)).get h.next = some (.iter (bs x) 0) := get_at _ rfl
  simp (maxDischargeDepth := 30) only [AMS, AMH, ↓reduceIte, Nat.reduceLT, Nat.reduceEqDiff, Nat.reduceAdd, Nat.reduceMul, reduceCtorEq, decide_true, decide_false, Nat.reduceLeDiff, Int.reduceNe, Int.reduceEq, ne_eq, not_false_eq_true, and_self, len_9, und_21, und_3, hk, bs_mk, rg_9]
  refine W_loop x.length (fun m' f' h' => ∃ k, k ≤ x.length ∧ m' = x.length - k ∧ f' 7 = .pointer (some ⟨h.next, 0, none⟩) ∧ f' 0 = .string (bs x) ∧ f' 3 = .int .i64 (valB (x.take k)) ∧
      (x.take k).all isDig = true ∧ (0 < k → x.length ≤ 4) ∧ h'.get h.next = some (.iter (bs x) k) ∧ Fr h h')
    ⟨0, by omega, by omega, by simp [upd_at], by simp [upd_at, argsFn_at], by simp [upd_at, valB], by simp, fun h => by omega, ga, fa⟩ ?_
  clear fa ga
  rintro m' f' h2 ⟨k, hkx, rfl, r7, r0, r3, hd, h3, gi, f2⟩ ih2
  have k2 := f2.ok
  have hsm := val_small hd h3
  have hpl := get_lt k2 gi
  by_cases hkl : k < x.length
  · obtain ⟨y, gy⟩ : ∃ y, x[k]? = some y := ⟨_, List.getElem?_eq_getElem hkl⟩
    have fs : ∀ z, Fr h (h2.set h.next z) := fun z => f2.set (Nat.le_refl _) hpl z
    cases hy : isDig y with
    | false =>
      obtain ⟨r, z, hr', en⟩ := next_not gi gy hy
      have kz := (fs z).ok
      have hbad := num_no_dig gy hy
      rcases hr' with hlt | hgt
      · have c1 : decide ((r : Int) ≥ 48) = false := by simp; omega
        simp (maxDischargeDepth := 30) only [AMS, AMH, ↓reduceIte, Nat.reduceLT, Nat.reduceEqDiff, Nat.reduceAdd, Nat.reduceMul, reduceCtorEq, decide_true, decide_false, Nat.reduceLeDiff, Int.reduceNe, Int.reduceEq, ne_eq, not_false_eq_true, and_self, len_9, und_21, und_3, k2, r7, r0, r3, en, kz, c1]
        refine W_callX (must_p _ _ kz) ?_ ?_
        · rintro _ h3 ⟨hb, _⟩; cases hb
        · rintro e h3 ⟨_, nt, f3⟩
          simp only [PostX_panic]
          exact ⟨hbad, nt, (fs z).trans f3⟩
      · have c1 : decide ((r : Int) ≥ 48) = true := by simp; omega
        have c2 : decide ((r : Int) ≤ 57) = false := by simp; omega
        simp (maxDischargeDepth := 30) only [AMS, AMH, ↓reduceIte, Nat.reduceLT, Nat.reduceEqDiff, Nat.reduceAdd, Nat.reduceMul, reduceCtorEq, decide_true, decide_false, Nat.reduceLeDiff, Int.reduceNe, Int.reduceEq, ne_eq, not_false_eq_true, and_self, len_9, und_21, und_3, k2, r7, r0, r3, en, kz, c1, c2]
        refine W_callX (must_p _ _ kz) ?_ ?_
        · rintro _ h3 ⟨hb, _⟩; cases hb
        · rintro e h3 ⟨_, nt, f3⟩
          simp only [PostX_panic]
          exact ⟨hbad, nt, (fs z).trans f3⟩
    | true =>
      have en := next_dig gi gy hy
      have kz := (fs (.iter (bs x) (k + 1))).ok
      have hyr := dig_le hy
      have c1 : decide ((y.toNat : Int) ≥ 48) = true := by simp; omega
      have c2 : decide ((y.toNat : Int) ≤ 57) = true := by simp; omega
      by_cases hx3 : x.length ≤ 4
      · have c3 : decide ((x.length : Int) ≤ 4) = true := by simp; omega
        simp (maxDischargeDepth := 30) only [AMS, AMH, ↓reduceIte, Nat.reduceLT, Nat.reduceEqDiff, Nat.reduceAdd, Nat.reduceMul, reduceCtorEq, decide_true, decide_false, Nat.reduceLeDiff, Int.reduceNe, Int.reduceEq, ne_eq, not_false_eq_true, and_self, len_9, und_21, und_3, k2, r7, r0, r3, en, kz, c1, c2, c3, bs_list]
        refine W_callX (must_p _ _ kz) ?_ ?_
        rotate_left
        · rintro e h3 ⟨hb, _⟩; cases hb
        rintro _ h3 ⟨_, f3⟩
        have f23 := (fs (.iter (bs x) (k + 1))).trans f3
        have g3 : h3.get h.next = some (.iter (bs x) (k + 1)) := f3.get' kz (get_set_self' _ _ _)
        simp (maxDischargeDepth := 30) only [AMS, AMH, ↓reduceIte, Nat.reduceLT, Nat.reduceEqDiff, Nat.reduceAdd, Nat.reduceMul, reduceCtorEq, decide_true, decide_false, Nat.reduceLeDiff, Int.reduceNe, Int.reduceEq, ne_eq, not_false_eq_true, and_self, len_9, und_21, und_3, f23.ok, r3, cv_21_3, wrap64 (n := 10 * (valB (x.take k) : Int)) (by omega) (by omega), wrap32 (n := (y.toNat : Int) - 48) (by omega) (by omega), wrap64 (n := (y.toNat : Int) - 48) (by omega) (by omega), wrap64 (n := 10 * (valB (x.take k) : Int) + ((y.toNat : Int) - 48)) (by omega) (by omega)]
        refine ih2 (x.length - (k + 1)) _ _ (by omega) ?_
        have ev := val_snoc gy
        refine ⟨k + 1, by omega, rfl, by simp [upd_at, r7], by simp [upd_at, r0], ?_, dig_snoc gy hy hd, fun _ => hx3, g3, f23⟩
        simp only [upd_at, ↓reduceIte, Nat.reduceEqDiff]
        congr 1
        rw [ev]; omega
      · have c3 : decide ((x.length : Int) ≤ 4) = false := by simp; omega
        simp (maxDischargeDepth := 30) only [AMS, AMH, ↓reduceIte, Nat.reduceLT, Nat.reduceEqDiff, Nat.reduceAdd, Nat.reduceMul, reduceCtorEq, decide_true, decide_false, Nat.reduceLeDiff, Int.reduceNe, Int.reduceEq, ne_eq, not_false_eq_true, and_self, len_9, und_21, und_3, k2, r7, r0, r3, en, kz, c1, c2, c3, bs_list]
        refine W_callX (must_p _ _ kz) ?_ ?_
        · rintro _ h3 ⟨hb, _⟩; cases hb
        · rintro e h3 ⟨_, nt, f3⟩
          simp only [PostX_panic]
          exact ⟨num_no_len hx3, nt, (fs _).trans f3⟩
  · have hke : k = x.length := by omega
    subst hke
    have en := next_end gi (Nat.le_refl _)
    rw [List.take_length] at hd hsm r3
    by_cases hnil : x = []
    · have c1 : decide (x = []) = true := by simp [hnil]
      simp (maxDischargeDepth := 30) only [AMS, AMH, ↓reduceIte, Nat.reduceLT, Nat.reduceEqDiff, Nat.reduceAdd, Nat.reduceMul, reduceCtorEq, decide_true, decide_false, Nat.reduceLeDiff, Int.reduceNe, Int.reduceEq, ne_eq, not_false_eq_true, and_self, len_9, und_21, und_3, k2, r7, r0, r3, en, s_eq, c1]
      refine W_callX (must_p _ _ k2) ?_ ?_
      · rintro _ h3 ⟨hb, _⟩; cases hb
      · rintro e h3 ⟨_, nt, f3⟩
        simp only [PostX_panic]
        exact ⟨by rw [hnil]; exact num_nil, nt, f2.trans f3⟩
    · have c1 : decide (x = []) = false := by simp [hnil]
      have hx3 : x.length ≤ 4 := h3 (by cases x with | nil => exact absurd rfl hnil | cons a l => simp)
      have ne := num_eq hd hx3 hnil
      simp (maxDischargeDepth := 30) only [AMS, AMH, ↓reduceIte, Nat.reduceLT, Nat.reduceEqDiff, Nat.reduceAdd, Nat.reduceMul, reduceCtorEq, decide_true, decide_false, Nat.reduceLeDiff, Int.reduceNe, Int.reduceEq, ne_eq, not_false_eq_true, and_self, len_9, und_21, und_3, k2, r7, r0, r3, en, s_eq, c1]
      refine W_call (itoa_126 (n := valB x) (by omega) (by omega) _) ?_
      rintro _ h3' ⟨rfl, rfl⟩
      simp (maxDischargeDepth := 30) only [AMS, AMH, ↓reduceIte, Nat.reduceLT, Nat.reduceEqDiff, Nat.reduceAdd, Nat.reduceMul, reduceCtorEq, decide_true, decide_false, Nat.reduceLeDiff, Int.reduceNe, Int.reduceEq, ne_eq, not_false_eq_true, and_self, len_9, und_21, und_3, k2, r0, s_eq]
      refine W_callX (must_p _ _ k2) ?_ ?_
      rotate_left
      · rintro e h3' ⟨hb, nt, f3⟩
        simp only [PostX_panic]
        exact ⟨by rw [ne]; exact hb, nt, f2.trans f3⟩
      rintro _ h3' ⟨hb, f3⟩
      have f23 := f2.trans f3
      simp (maxDischargeDepth := 30) only [AMS, AMH, ↓reduceIte, Nat.reduceLT, Nat.reduceEqDiff, Nat.reduceAdd, Nat.reduceMul, reduceCtorEq, decide_true, decide_false, Nat.reduceLeDiff, Int.reduceNe, Int.reduceEq, ne_eq, not_false_eq_true, and_self, len_9, und_21, und_3, f23.ok, r3, PostX_ret]
      exact ⟨by rw [ne]; exact hb, by first | rfl | trivial, f23⟩

/- THE WORD OF A LINE -/
/-- the place of a line's word, and its numbers -/
def partedB (t : Bs) : Option (Int × List Int) := match cutAt 32 t with
  | [] => none
  | w :: ws => if pos w wordL 0 = -1 then none else if ws.all numB = true then some (pos w wordL 0, vals ws) else none
theorem sl_87n (b n c lo : Nat) (h1 : lo ≤ n) (h3 : n ≤ c) : aSlice CC 87 (.slice (some ⟨b + 1, 0, some 1⟩) n c) (some (.int .i64 lo)) none none = some (.slice (some ⟨b + 1, 0 + lo * 1, some 1⟩) (n - lo) (c - lo)) := by
  rw [aSlice_sl und_87 size_9]; exact sliceSl_n b 0 n c lo h1 h3
theorem all_snoc {ws : List Bs} {i : Nat} {x : Bs} (h : ws[i]? = some x) (ha : (ws.take i).all numB = true) (hx : numB x = true) : (ws.take (i + 1)).all numB = true := by
  rw [take_snoc h, List.all_append, ha]; simp [hx]

set_option maxRecDepth 10000 in
set_option maxHeartbeats 4000000 in
theorem parted_p {t : Bs} {h : Heap} (hk : HOK h) (hp : 0 < h.next) (ht : t.length ≤ 900) :
    CX CC 55 [.string (bs t)] h (fun r h' => ∃ i l v, partedB t = some (i, l) ∧ r = .tuple ⟨[.int .i64 i, v]⟩ ∧ SL h.next h' v (l.flatMap ints) 1 l.length ∧ l.length ≤ 900 ∧ Fr h h') fun e h' => partedB t = none ∧ refused e ∧ Fr h h' := by
  refine CX_in Tryz.f55 (by kernel_rfl) (by kernel_rfl) rfl rfl ?_
  simp only [Tryz.f55, bs_mk]
  simp (maxDischargeDepth := 30) only [AMS, AMH, ↓reduceIte, Nat.reduceLT, Nat.reduceEqDiff, Nat.reduceAdd, Nat.reduceMul, reduceCtorEq, decide_true, decide_false, Nat.reduceLeDiff, Int.reduceNe, Int.reduceEq, ne_eq, not_false_eq_true, and_self, F55_P7, hk, bs_mk]
  refine W_call (split_128 (t := t) (c := 32) (by omega) hk hp) ?_
  rintro V h1 ⟨q, f1⟩
  have k1 := f1.ok
  have hcl := cut_len 32 t
  have hcp := cut_pos 32 t
  obtain ⟨w, ws, ecut⟩ : ∃ w ws, cutAt 32 t = w :: ws := by
    cases e : cutAt 32 t with
    | nil => rw [e] at hcp; simp at hcp
    | cons w ws => exact ⟨w, ws, rfl⟩
  rw [ecut] at q hcl
  rcases q with ⟨_, _, e⟩ | ⟨b, rfl, hb0, hNb, gb, _⟩
  · simp at e
  obtain ⟨b, rfl⟩ : ∃ b', b = b' + 1 := ⟨b - 1, by omega⟩
  have hlen : (w :: ws).length = ws.length + 1 := rfl
  rw [hlen] at hcl ⊢
  simp (maxDischargeDepth := 30) only [AMS, AMH, ↓reduceIte, Nat.reduceLT, Nat.reduceEqDiff, Nat.reduceAdd, Nat.reduceMul, reduceCtorEq, decide_true, decide_false, Nat.reduceLeDiff, Int.reduceNe, Int.reduceEq, ne_eq, not_false_eq_true, and_self, F55_P7, k1, bs_mk]
  refine W_call (words_p k1) ?_
  rintro _ h2 ⟨rfl, fr2⟩
  have f2 := f1.trans fr2
  have k2 := f2.ok
  have g2 := fr2.get' k1 gb
  have r2 : rowAt h2 (b + 1) = some ((w :: ws).flatMap strC) := by unfold rowAt; rw [g2]; rfl
  have c2 : ((w :: ws).flatMap strC)[0]? = some (.string (bs w)) := rfl
  have hE : partedB t = if pos w wordL 0 = -1 then none else if ws.all numB = true then some (pos w wordL 0, vals ws) else none := by unfold partedB; rw [ecut]
  have l2 : LS h2 (.slice (some ⟨b + 1, 1, some 1⟩) ws.length ws.length) ws strC 1 := by
    have := LS.sub (ws := w :: ws) (h := h2) (b := b + 1) 1 ws.length (c := ws.length) (sp := some 1) r2 (by simp; omega)
    simpa using this
  simp (maxDischargeDepth := 30) only [AMS, AMH, ↓reduceIte, Nat.reduceLT, Nat.reduceEqDiff, Nat.reduceAdd, Nat.reduceMul, reduceCtorEq, decide_true, decide_false, Nat.reduceLeDiff, Int.reduceNe, Int.reduceEq, ne_eq, not_false_eq_true, and_self, F55_P7, k2, bs_mk]
  refine W_loop 29 (fun m f h' => ∃ i, i ≤ 29 ∧ m = 29 - i ∧ f 0 = .string (bs t) ∧ f 4 = .slice (some ⟨b + 1, 0, some 1⟩) (ws.length + 1) (ws.length + 1) ∧ f 13 = .agg ⟨wordL.map sV⟩ ∧ f 14 = .int .i64 i ∧ (∀ (j : Nat) x, j < i → wordL[j]? = some x → x ≠ w) ∧ h' = h2)
    ⟨0, by omega, by omega, by simp [upd_at, argsFn_at], by simp [upd_at], by simp [upd_at], by simp [upd_at], fun j x hj => by omega, rfl⟩ ?_
  rintro m f hq ⟨i, hi, rfl, g0, g4, g13, g14, hno, rfl⟩ ih
  by_cases hi29 : i < 29
  rotate_left
  · have : i = 29 := by omega
    subst this
    have lf : decide (((29 : Nat) : Int) < 29) = false := rfl
    simp (maxDischargeDepth := 30) only [AMS, AMH, ↓reduceIte, Nat.reduceLT, Nat.reduceEqDiff, Nat.reduceAdd, Nat.reduceMul, reduceCtorEq, decide_true, decide_false, Nat.reduceLeDiff, Int.reduceNe, Int.reduceEq, ne_eq, not_false_eq_true, and_self, F55_P7, k2, g0, g4, g13, g14, lf, O_panic, ROr_panic, PostX_panic]
    refine ⟨?_, ⟨_, rfl⟩, f2⟩
    rw [hE, if_pos]
    refine pos_none fun x hx => ?_
    obtain ⟨j, hj⟩ := List.getElem?_of_mem hx
    exact hno j x (by have := (List.getElem?_eq_some_iff.1 hj).1; rw [wordL_len] at this; exact this) hj
  obtain ⟨x, gx⟩ : ∃ x, wordL[i]? = some x := ⟨_, List.getElem?_eq_getElem (by rw [wordL_len]; exact hi29)⟩
  have lt : decide ((i : Int) < 29) = true := decide_eq_true (by omega)
  have hpos : aIndexAddr CC 87 (.slice (some ⟨b + 1, 0, some 1⟩) (ws.length + 1) (ws.length + 1)) (.int .i64 0) = some (.pointer (some ⟨b + 1, 0, none⟩)) := ix_87 (b + 1) 0 (some 1) (ws.length + 1) (ws.length + 1) 0 (by omega)
  by_cases hxw : x = w
  rotate_left
  · have d1 : decide (x = w) = false := decide_eq_false hxw
    simp (maxDischargeDepth := 30) only [AMS, AMH, ↓reduceIte, Nat.reduceLT, Nat.reduceEqDiff, Nat.reduceAdd, Nat.reduceMul, reduceCtorEq, decide_true, decide_false, Nat.reduceLeDiff, Int.reduceNe, Int.reduceEq, ne_eq, not_false_eq_true, and_self, F55_P7, k2, g0, g4, g13, g14, lt, idx_W gx, hpos, r2, c2, Nat.mul_one, Nat.zero_add, s_eq, d1, i_ok hi29 (by omega)]
    refine ih (29 - (i + 1)) _ _ (by omega) ?_
    refine ⟨i + 1, by omega, rfl, by simp [upd_at, g0], by simp [upd_at, g4], by simp [upd_at, g13], by simp [upd_at], fun j y hj hy => ?_, rfl⟩
    rcases Nat.lt_or_ge j i with q | q
    · exact hno j y q hy
    · have : j = i := by omega
      subst this
      rw [gx] at hy; simp at hy; subst hy; exact hxw
  subst hxw
  have hposE : pos x wordL 0 = ((0 + i : Nat) : Int) := pos_hit gx hno
  rw [Nat.zero_add] at hposE
  have d1 : decide (x = x) = true := decide_eq_true rfl
  have s1 : aSlice CC 87 (.slice (some ⟨b + 1, 0, some 1⟩) (ws.length + 1) (ws.length + 1)) (some (.int .i64 1)) none none = some (.slice (some ⟨b + 1, 1, some 1⟩) ws.length ws.length) := sl_87n b (ws.length + 1) (ws.length + 1) 1 (by omega) (Nat.le_refl _)
  simp (maxDischargeDepth := 30) only [AMS, AMH, ↓reduceIte, Nat.reduceLT, Nat.reduceEqDiff, Nat.reduceAdd, Nat.reduceMul, reduceCtorEq, decide_true, decide_false, Nat.reduceLeDiff, Int.reduceNe, Int.reduceEq, ne_eq, not_false_eq_true, and_self, F55_P7, k2, g0, g4, g13, g14, lt, idx_W gx, hpos, r2, c2, Nat.mul_one, Nat.zero_add, s_eq, d1, s1, Option.map_some, Option.map_none]
  clear ih
  obtain ⟨_, _, eV, hx⟩ := l2.open
  refine W_loop ws.length (fun m' f' h' => ∃ k, k ≤ ws.length ∧ m' = ws.length - k ∧ f' 5 = .int .i64 i ∧ f' 24 = .slice (some ⟨b + 1, 1, some 1⟩) ws.length ws.length ∧ f' 25 = .int .i64 ws.length ∧ f' 26 = .int .i64 k ∧ (ws.take k).all numB = true ∧ SL hq.next h' (f' 7) ((vals (ws.take k)).flatMap ints) 1 k ∧ Fr hq h')
    ⟨0, by omega, by omega, by simp [upd_at], by simp [upd_at], by simp [upd_at], by simp [upd_at], by simp, by simpa [upd_at, vals] using SL.nil hq.next hq 1, Fr.refl k2⟩ ?_
  rintro m' f' h3 ⟨k, hkw, rfl, g5, g24, g25, g26, hall, q7, f23⟩ ih
  have f3 := f2.trans f23
  have k3 := f3.ok
  have r3 := f23.row' k2 r2
  by_cases hkl : k < ws.length
  rotate_left
  · have : k = ws.length := by omega
    subst this
    simp (maxDischargeDepth := 30) only [AMS, AMH, ↓reduceIte, Nat.reduceLT, Nat.reduceEqDiff, Nat.reduceAdd, Nat.reduceMul, reduceCtorEq, decide_true, decide_false, Nat.reduceLeDiff, Int.reduceNe, Int.reduceEq, ne_eq, not_false_eq_true, and_self, F55_P7, k3, g5, g24, g25, g26, lt_f, PostX_ret]
    rw [List.take_length] at hall q7
    refine ⟨_, vals ws, _, ?_, rfl, by simpa [vals] using q7.weak f2.next, by simp [vals]; omega, f3⟩
    rw [hE, hposE, if_neg (by omega), if_pos hall]
  obtain ⟨y, gy⟩ : ∃ y, ws[k]? = some y := ⟨_, List.getElem?_eq_getElem hkl⟩
  have cy : ((x :: ws).flatMap strC)[1 + k]? = some (.string (bs y)) := by
    rw [strC_map, List.getElem?_map, Nat.add_comm, List.getElem?_cons_succ, gy]; rfl
  simp (maxDischargeDepth := 30) only [AMS, AMH, ↓reduceIte, Nat.reduceLT, Nat.reduceEqDiff, Nat.reduceAdd, Nat.reduceMul, reduceCtorEq, decide_true, decide_false, Nat.reduceLeDiff, Int.reduceNe, Int.reduceEq, ne_eq, not_false_eq_true, and_self, F55_P7, k3, g5, g24, g25, g26, lt_t hkl, hkl, Nat.mul_one, r3, cy]
  refine W_callX (number_p k3) ?_ ?_
  rotate_left
  · rintro e h4 ⟨hb, nt, f4⟩
    simp only [PostX_panic]
    refine ⟨?_, nt, f3.trans f4⟩
    have : ws.all numB = false := List.all_eq_false.2 ⟨y, List.mem_of_getElem? gy, by rw [hb]; simp⟩
    rw [hE, hposE, if_neg (by omega), this]; simp
  rintro _ h4 ⟨hb, rfl, f34⟩
  have f4 := f3.trans f34
  have hN := f4.next
  have q4 := q7.fr k3 f34
  obtain ⟨h5, e5, q5, f5, n5, _⟩ := append_one (ts := []) app_23 (f23.trans f34) (by have := f4.next; omega) q4 (v := .int .i64 (valB y)) rfl (by omega)
  simp (maxDischargeDepth := 30) only [AMS, AMH, ↓reduceIte, Nat.reduceLT, Nat.reduceEqDiff, Nat.reduceAdd, Nat.reduceMul, reduceCtorEq, decide_true, decide_false, Nat.reduceLeDiff, Int.reduceNe, Int.reduceEq, ne_eq, not_false_eq_true, and_self, F55_P7, f4.ok, g5, g24, g25, g26, e5, f5.ok, i_ok hkl (by omega)]
  refine ih (ws.length - (k + 1)) _ _ (by omega) ?_
  exact ⟨k + 1, by omega, rfl, by simp [upd_at, g5], by simp [upd_at, g24], by simp [upd_at, g25], by simp [upd_at], all_snoc gy hall hb, by simpa [upd_at, vals_snoc gy] using q5, f5⟩
end Go.Am
