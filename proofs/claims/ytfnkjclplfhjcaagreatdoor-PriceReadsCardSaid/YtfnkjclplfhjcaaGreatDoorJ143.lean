/- Parts 143 of the abstract machine over this program, joined: what each part says stands at its head. -/
import Derived.Test.YtfnkjclplfhjcaaGreatDoorJ141
set_option linter.unusedSimpArgs false
set_option linter.unusedVariables false
/- The abstract machine, part 143: contracts of the specification: words that are numbers. -/
namespace Go.Am
open Go Go.Proofs
theorem F150_Am143 : type_of% (And.intro @len_9 <| And.intro @size_9 <| And.intro @und_3 <| And.intro @und_5 <| And.intro @und_9 @zero_9) := And.intro @len_9 <| And.intro @size_9 <| And.intro @und_3 <| And.intro @und_5 <| And.intro @und_9 @zero_9

theorem numZ_len {w : Bs} (h : ¬ (1 ≤ (signB w).2.length ∧ (signB w).2.length ≤ 3)) : numZ w = none := by
  unfold numZ
  rw [if_neg]
  rintro ⟨q, _⟩
  simp only [Bool.and_eq_true] at q
  exact h ⟨Nat.le_of_ble_eq_true q.2.1, Nat.le_of_ble_eq_true q.2.2⟩
theorem numZ_dig {w : Bs} {k : Nat} {b : UInt8} (hb : (signB w).2[k]? = some b) (h : isDig b = false) : numZ w = none := by
  unfold numZ
  have : (signB w).2.all isDig = false := List.all_eq_false.2 ⟨b, List.mem_of_getElem? hb, by rw [h]; simp⟩
  rw [this, if_neg]
  rintro ⟨q, _⟩
  simp at q
theorem numZ_is {w : Bs} (h1 : (signB w).2.all isDig = true) (h2 : 1 ≤ (signB w).2.length) (h3 : (signB w).2.length ≤ 3) : numZ w = if decide (decZ ((signB w).1 * valB (signB w).2) = w) = true then some ((signB w).1 * valB (signB w).2) else none := by
  unfold numZ
  rw [h1, Nat.ble_eq_true_of_le h2, Nat.ble_eq_true_of_le h3]
  simp
theorem not_dig {b : UInt8} (h : isDig b = false) : b.toNat < 48 ∨ 57 < b.toNat := by
  unfold isDig at h
  rw [Bool.and_eq_false_iff] at h
  rcases h with q | q
  · left; rcases Nat.lt_or_ge b.toNat 48 with r | r
    · exact r
    · rw [Nat.ble_eq_true_of_le r] at q; cases q
  · right; rcases Nat.lt_or_ge 57 b.toNat with r | r
    · exact r
    · rw [Nat.ble_eq_true_of_le r] at q; cases q

set_option maxRecDepth 10000 in
set_option maxHeartbeats 2000000 in
theorem number_150 {w : Bs} {h : Heap} (hk : HOK h) (hw : w.length ≤ 100000) : CW CC 150 [.string (bs w), .int .i64 3] h fun r h' => (∃ n b, r = .tuple ⟨[.int .i64 n, .bool b]⟩ ∧ numZ w = if b = true then some n else none) ∧ Fr h h' := by
  refine CW_in Tryz.f150 (by kernel_rfl) (by kernel_rfl) rfl rfl ?_
  simp only [Tryz.f150, bs_mk]
  by_cases hb : ∃ r, w = 45 :: r
  · obtain ⟨r, rfl⟩ := hb
    have hw' : r.length ≤ 100000 := by simp at hw; omega
    have c0 : decide (((bs (45 :: r)).data.toList.length : Nat) > (0 : Int)) = true := by show decide (((45 :: r).length : Int) > 0) = true; exact decide_eq_true (by simp only [List.length_cons]; omega)
    have c1 : aIndex CC 9 (.string (bs (45 :: r))) (.int .i64 0) = some (.int .u8 45) := i_9 (l := 45 :: r) (k := 0) (b := 45) rfl
    have c2 : ((45 : Int) == 45) = true := rfl
    have c3 : aSlice CC 9 (.string (bs (45 :: r))) (some (.int .i64 1)) none none = some (.string (bs r)) := sl_9n (l := 45 :: r) (lo := 1) (by simp)
    simp (maxDischargeDepth := 30) only [AMS, AMH, ↓reduceIte, Nat.reduceLT, Nat.reduceEqDiff, Nat.reduceAdd, Nat.reduceMul, reduceCtorEq, decide_true, decide_false, Nat.reduceLeDiff, Int.reduceNe, Int.reduceEq, ne_eq, not_false_eq_true, and_self, F150_Am143, hk, c0, c1, c2, Option.map_some, Option.map_none]
    refine W_draw [(true, 0), (true, 1), (true, 2), (true, 3)] (by kernel_rfl) ?_
    have es : signB (45 :: r) = ((-1), r) := by show (if (45 : UInt8) = 45 then ((-1 : Int), r) else (1, 45 :: r)) = _; rw [if_pos rfl]
    by_cases hlen : 1 ≤ (r).length ∧ (r).length ≤ 3
    rotate_left
    · have hz := numZ_len (w := (45 :: r)) (by rw [es]; exact hlen)
      by_cases h1 : (r).length < 1
      · have d1 : decide (((bs r).data.toList.length : Nat) < (1 : Int)) = true := by show decide (((r).length : Int) < 1) = true; exact decide_eq_true (by omega)
        simp (maxDischargeDepth := 30) only [AMS, AMH, ↓reduceIte, Nat.reduceLT, Nat.reduceEqDiff, Nat.reduceAdd, Nat.reduceMul, reduceCtorEq, decide_true, decide_false, Nat.reduceLeDiff, Int.reduceNe, Int.reduceEq, ne_eq, not_false_eq_true, and_self, AMR, F150_Am143, hk, c0, c1, c2, c3, Option.map_some, Option.map_none, d1]
        exact ⟨⟨0, false, by first | rfl | trivial, by rw [hz]; rfl⟩, Fr.refl hk⟩
      · have d1 : decide (((bs r).data.toList.length : Nat) < (1 : Int)) = false := by show decide (((r).length : Int) < 1) = false; exact decide_eq_false (by omega)
        have d2 : decide (((bs r).data.toList.length : Nat) > (3 : Int)) = true := by show decide (((r).length : Int) > 3) = true; exact decide_eq_true (by omega)
        simp (maxDischargeDepth := 30) only [AMS, AMH, ↓reduceIte, Nat.reduceLT, Nat.reduceEqDiff, Nat.reduceAdd, Nat.reduceMul, reduceCtorEq, decide_true, decide_false, Nat.reduceLeDiff, Int.reduceNe, Int.reduceEq, ne_eq, not_false_eq_true, and_self, AMR, F150_Am143, hk, c0, c1, c2, c3, Option.map_some, Option.map_none, d1, d2]
        exact ⟨⟨0, false, by first | rfl | trivial, by rw [hz]; rfl⟩, Fr.refl hk⟩
    have d1 : decide (((bs r).data.toList.length : Nat) < (1 : Int)) = false := by show decide (((r).length : Int) < 1) = false; exact decide_eq_false (by omega)
    have d2 : decide (((bs r).data.toList.length : Nat) > (3 : Int)) = false := by show decide (((r).length : Int) > 3) = false; exact decide_eq_false (by omega)
    simp (maxDischargeDepth := 30) only [AMS, AMH, ↓reduceIte, Nat.reduceLT, Nat.reduceEqDiff, Nat.reduceAdd, Nat.reduceMul, reduceCtorEq, decide_true, decide_false, Nat.reduceLeDiff, Int.reduceNe, Int.reduceEq, ne_eq, not_false_eq_true, and_self, AMR, F150_Am143, hk, c0, c1, c2, c3, Option.map_some, Option.map_none, d1, d2]
    refine W_loop (r).length (fun m f h' => ∃ i, i ≤ (r).length ∧ m = (r).length - i ∧ f 0 = .string (bs (45 :: r)) ∧ f 6 = .int .i64 (-1) ∧ f 7 = .string (bs r) ∧ f 9 = .int .i64 i ∧ f 8 = .int .i64 (valB ((r).take i)) ∧ ((r).take i).all isDig = true ∧ h' = h)
      ⟨0, by omega, by omega, by simp [upd_at, argsFn_at], by simp [upd_at], by simp [upd_at], by simp [upd_at], by simp [upd_at, valB], by simp, rfl⟩ ?_
    clear d1 d2
    rintro m f h1 ⟨i, hi, rfl, g0, g6, g7, g9, g8, hd, rfl⟩ ih
    have hsm := val_small hd (fun _ => hlen.2)
    by_cases hil : i < (r).length
    · obtain ⟨y, gy⟩ : ∃ y, (r)[i]? = some y := ⟨_, List.getElem?_eq_getElem hil⟩
      have dl : decide ((i : Int) < ((bs r).data.toList.length : Nat)) = true := lt_t hil
      have hy8 := y.toNat_lt
      cases hy : isDig y with
      | false =>
        have hz := numZ_dig (w := (45 :: r)) (k := i) (b := y) (by rw [es]; exact gy) hy
        rcases not_dig hy with q | q
        · have d1 : decide ((y.toNat : Int) < 48) = true := decide_eq_true (by omega)
          simp (maxDischargeDepth := 30) only [AMS, AMH, ↓reduceIte, Nat.reduceLT, Nat.reduceEqDiff, Nat.reduceAdd, Nat.reduceMul, reduceCtorEq, decide_true, decide_false, Nat.reduceLeDiff, Int.reduceNe, Int.reduceEq, ne_eq, not_false_eq_true, and_self, F150_Am143, hk, g0, g6, g7, g9, g8, dl, i_9 gy, d1]
          exact ⟨⟨0, false, by first | rfl | trivial, by rw [hz]; rfl⟩, Fr.refl hk⟩
        · have d1 : decide ((y.toNat : Int) < 48) = false := decide_eq_false (by omega)
          have d2 : decide ((y.toNat : Int) > 57) = true := decide_eq_true (by omega)
          simp (maxDischargeDepth := 30) only [AMS, AMH, ↓reduceIte, Nat.reduceLT, Nat.reduceEqDiff, Nat.reduceAdd, Nat.reduceMul, reduceCtorEq, decide_true, decide_false, Nat.reduceLeDiff, Int.reduceNe, Int.reduceEq, ne_eq, not_false_eq_true, and_self, F150_Am143, hk, g0, g6, g7, g9, g8, dl, i_9 gy, d1, d2]
          exact ⟨⟨0, false, by first | rfl | trivial, by rw [hz]; rfl⟩, Fr.refl hk⟩
      | true =>
        have hyr := dig_le hy
        have d1 : decide ((y.toNat : Int) < 48) = false := decide_eq_false (by omega)
        have d2 : decide ((y.toNat : Int) > 57) = false := decide_eq_false (by omega)
        have ev := val_snoc gy
        have ev' : 10 * (valB ((r).take i) : Int) + ((y.toNat : Int) - 48) = (valB ((r).take (i + 1)) : Int) := by rw [ev]; omega
        have hd' := dig_snoc gy hy hd
        simp (maxDischargeDepth := 30) only [AMS, AMH, ↓reduceIte, Nat.reduceLT, Nat.reduceEqDiff, Nat.reduceAdd, Nat.reduceMul, reduceCtorEq, decide_true, decide_false, Nat.reduceLeDiff, Int.reduceNe, Int.reduceEq, ne_eq, not_false_eq_true, and_self, F150_Am143, hk, g0, g6, g7, g9, g8, dl, i_9 gy, d1, d2, cv_5_3, wrap64 (n := 10 * (valB ((r).take i) : Int)) (by omega) (by omega), wrap8 (n := (y.toNat : Int) - 48) (by omega) (by omega), wrap64 (n := (y.toNat : Int) - 48) (by omega) (by omega), ev', wrap64 (n := (valB ((r).take (i + 1)) : Int)) (by omega) (by omega), i_ok hil (by omega)]
        refine ih ((r).length - (i + 1)) _ _ (by omega) ?_
        exact ⟨i + 1, by omega, rfl, by simp [upd_at, g0], by simp [upd_at, g6], by simp [upd_at, g7], by simp [upd_at], by simp [upd_at], hd', rfl⟩
    have : i = (r).length := by omega
    subst this
    rw [List.take_length] at hd hsm g8
    have dl : decide ((((r).length : Nat) : Int) < ((bs r).data.toList.length : Nat)) = false := lt_f _
    have hz := numZ_is (w := (45 :: r)) (by rw [es]; exact hd) (by rw [es]; exact hlen.1) (by rw [es]; exact hlen.2)
    rw [es] at hz
    simp only at hz
    have hw1 := wrap64 (n := (-1) * (valB (r) : Int)) (by omega) (by omega)
    simp (maxDischargeDepth := 30) only [AMS, AMH, ↓reduceIte, Nat.reduceLT, Nat.reduceEqDiff, Nat.reduceAdd, Nat.reduceMul, reduceCtorEq, decide_true, decide_false, Nat.reduceLeDiff, Int.reduceNe, Int.reduceEq, ne_eq, not_false_eq_true, and_self, F150_Am143, hk, g0, g6, g7, g9, g8, dl, hw1]
    refine W_call (decimal_133 8 ((-1) * (valB (r) : Int)) (by omega) (Nat.le_refl _) hk) ?_
    rintro _ h2 ⟨rfl, fr2⟩
    simp (maxDischargeDepth := 30) only [AMS, AMH, ↓reduceIte, Nat.reduceLT, Nat.reduceEqDiff, Nat.reduceAdd, Nat.reduceMul, reduceCtorEq, decide_true, decide_false, Nat.reduceLeDiff, Int.reduceNe, Int.reduceEq, ne_eq, not_false_eq_true, and_self, F150_Am143, fr2.ok, g0, s_eq]
    exact ⟨⟨_, _, rfl, hz⟩, fr2⟩
  have c0 : ∃ x : Bool, x = false ∧ ((decide (((bs w).data.toList.length : Nat) > (0 : Int)) = false) ∨ (decide (((bs w).data.toList.length : Nat) > (0 : Int)) = true ∧ ∃ b r, w = b :: r ∧ b ≠ 45)) := by
    refine ⟨false, rfl, ?_⟩
    cases w with
    | nil => exact .inl rfl
    | cons b r =>
      refine .inr ⟨?_, b, r, rfl, fun e => hb ⟨r, by rw [e]⟩⟩
      show decide (((b :: r).length : Int) > 0) = true
      exact decide_eq_true (by simp only [List.length_cons]; omega)
  obtain ⟨_, _, c0⟩ := c0
  have es0 : signB w = (1, w) := by
    cases w with
    | nil => rfl
    | cons b r =>
      show (if b = 45 then ((-1 : Int), r) else (1, b :: r)) = _
      rw [if_neg fun e => hb ⟨r, by rw [e]⟩]
  rcases c0 with c0 | ⟨c0, b, r, hwb, hb45⟩
  · have es : signB w = (1, w) := es0
    by_cases hlen : 1 ≤ (w).length ∧ (w).length ≤ 3
    rotate_left
    · have hz := numZ_len (w := w) (by rw [es]; exact hlen)
      by_cases h1 : (w).length < 1
      · have d1 : decide (((bs w).data.toList.length : Nat) < (1 : Int)) = true := by show decide (((w).length : Int) < 1) = true; exact decide_eq_true (by omega)
        simp (maxDischargeDepth := 30) only [AMS, AMH, ↓reduceIte, Nat.reduceLT, Nat.reduceEqDiff, Nat.reduceAdd, Nat.reduceMul, reduceCtorEq, decide_true, decide_false, Nat.reduceLeDiff, Int.reduceNe, Int.reduceEq, ne_eq, not_false_eq_true, and_self, F150_Am143, hk, c0, d1]
        exact ⟨⟨0, false, by first | rfl | trivial, by rw [hz]; rfl⟩, Fr.refl hk⟩
      · have d1 : decide (((bs w).data.toList.length : Nat) < (1 : Int)) = false := by show decide (((w).length : Int) < 1) = false; exact decide_eq_false (by omega)
        have d2 : decide (((bs w).data.toList.length : Nat) > (3 : Int)) = true := by show decide (((w).length : Int) > 3) = true; exact decide_eq_true (by omega)
        simp (maxDischargeDepth := 30) only [AMS, AMH, ↓reduceIte, Nat.reduceLT, Nat.reduceEqDiff, Nat.reduceAdd, Nat.reduceMul, reduceCtorEq, decide_true, decide_false, Nat.reduceLeDiff, Int.reduceNe, Int.reduceEq, ne_eq, not_false_eq_true, and_self, F150_Am143, hk, c0, d1, d2]
        exact ⟨⟨0, false, by first | rfl | trivial, by rw [hz]; rfl⟩, Fr.refl hk⟩
    have d1 : decide (((bs w).data.toList.length : Nat) < (1 : Int)) = false := by show decide (((w).length : Int) < 1) = false; exact decide_eq_false (by omega)
    have d2 : decide (((bs w).data.toList.length : Nat) > (3 : Int)) = false := by show decide (((w).length : Int) > 3) = false; exact decide_eq_false (by omega)
    simp (maxDischargeDepth := 30) only [AMS, AMH, ↓reduceIte, Nat.reduceLT, Nat.reduceEqDiff, Nat.reduceAdd, Nat.reduceMul, reduceCtorEq, decide_true, decide_false, Nat.reduceLeDiff, Int.reduceNe, Int.reduceEq, ne_eq, not_false_eq_true, and_self, F150_Am143, hk, c0, d1, d2]
    refine W_loop (w).length (fun m f h' => ∃ i, i ≤ (w).length ∧ m = (w).length - i ∧ f 0 = .string (bs w) ∧ f 6 = .int .i64 1 ∧ f 7 = .string (bs w) ∧ f 9 = .int .i64 i ∧ f 8 = .int .i64 (valB ((w).take i)) ∧ ((w).take i).all isDig = true ∧ h' = h)
      ⟨0, by omega, by omega, by simp [upd_at, argsFn_at], by simp [upd_at], by simp [upd_at], by simp [upd_at], by simp [upd_at, valB], by simp, rfl⟩ ?_
    clear d1 d2
    rintro m f h1 ⟨i, hi, rfl, g0, g6, g7, g9, g8, hd, rfl⟩ ih
    have hsm := val_small hd (fun _ => hlen.2)
    by_cases hil : i < (w).length
    · obtain ⟨y, gy⟩ : ∃ y, (w)[i]? = some y := ⟨_, List.getElem?_eq_getElem hil⟩
      have dl : decide ((i : Int) < ((bs w).data.toList.length : Nat)) = true := lt_t hil
      have hy8 := y.toNat_lt
      cases hy : isDig y with
      | false =>
        have hz := numZ_dig (w := w) (k := i) (b := y) (by rw [es]; exact gy) hy
        rcases not_dig hy with q | q
        · have d1 : decide ((y.toNat : Int) < 48) = true := decide_eq_true (by omega)
          simp (maxDischargeDepth := 30) only [AMS, AMH, ↓reduceIte, Nat.reduceLT, Nat.reduceEqDiff, Nat.reduceAdd, Nat.reduceMul, reduceCtorEq, decide_true, decide_false, Nat.reduceLeDiff, Int.reduceNe, Int.reduceEq, ne_eq, not_false_eq_true, and_self, F150_Am143, hk, g0, g6, g7, g9, g8, dl, i_9 gy, d1]
          exact ⟨⟨0, false, by first | rfl | trivial, by rw [hz]; rfl⟩, Fr.refl hk⟩
        · have d1 : decide ((y.toNat : Int) < 48) = false := decide_eq_false (by omega)
          have d2 : decide ((y.toNat : Int) > 57) = true := decide_eq_true (by omega)
          simp (maxDischargeDepth := 30) only [AMS, AMH, ↓reduceIte, Nat.reduceLT, Nat.reduceEqDiff, Nat.reduceAdd, Nat.reduceMul, reduceCtorEq, decide_true, decide_false, Nat.reduceLeDiff, Int.reduceNe, Int.reduceEq, ne_eq, not_false_eq_true, and_self, F150_Am143, hk, g0, g6, g7, g9, g8, dl, i_9 gy, d1, d2]
          exact ⟨⟨0, false, by first | rfl | trivial, by rw [hz]; rfl⟩, Fr.refl hk⟩
      | true =>
        have hyr := dig_le hy
        have d1 : decide ((y.toNat : Int) < 48) = false := decide_eq_false (by omega)
        have d2 : decide ((y.toNat : Int) > 57) = false := decide_eq_false (by omega)
        have ev := val_snoc gy
        have ev' : 10 * (valB ((w).take i) : Int) + ((y.toNat : Int) - 48) = (valB ((w).take (i + 1)) : Int) := by rw [ev]; omega
        have hd' := dig_snoc gy hy hd
        simp (maxDischargeDepth := 30) only [AMS, AMH, ↓reduceIte, Nat.reduceLT, Nat.reduceEqDiff, Nat.reduceAdd, Nat.reduceMul, reduceCtorEq, decide_true, decide_false, Nat.reduceLeDiff, Int.reduceNe, Int.reduceEq, ne_eq, not_false_eq_true, and_self, F150_Am143, hk, g0, g6, g7, g9, g8, dl, i_9 gy, d1, d2, cv_5_3, wrap64 (n := 10 * (valB ((w).take i) : Int)) (by omega) (by omega), wrap8 (n := (y.toNat : Int) - 48) (by omega) (by omega), wrap64 (n := (y.toNat : Int) - 48) (by omega) (by omega), ev', wrap64 (n := (valB ((w).take (i + 1)) : Int)) (by omega) (by omega), i_ok hil (by omega)]
        refine ih ((w).length - (i + 1)) _ _ (by omega) ?_
        exact ⟨i + 1, by omega, rfl, by simp [upd_at, g0], by simp [upd_at, g6], by simp [upd_at, g7], by simp [upd_at], by simp [upd_at], hd', rfl⟩
    have : i = (w).length := by omega
    subst this
    rw [List.take_length] at hd hsm g8
    have dl : decide ((((w).length : Nat) : Int) < ((bs w).data.toList.length : Nat)) = false := lt_f _
    have hz := numZ_is (w := w) (by rw [es]; exact hd) (by rw [es]; exact hlen.1) (by rw [es]; exact hlen.2)
    rw [es] at hz
    simp only at hz
    have hw1 := wrap64 (n := 1 * (valB (w) : Int)) (by omega) (by omega)
    simp (maxDischargeDepth := 30) only [AMS, AMH, ↓reduceIte, Nat.reduceLT, Nat.reduceEqDiff, Nat.reduceAdd, Nat.reduceMul, reduceCtorEq, decide_true, decide_false, Nat.reduceLeDiff, Int.reduceNe, Int.reduceEq, ne_eq, not_false_eq_true, and_self, F150_Am143, hk, g0, g6, g7, g9, g8, dl, hw1]
    refine W_call (decimal_133 8 (1 * (valB (w) : Int)) (by omega) (Nat.le_refl _) hk) ?_
    rintro _ h2 ⟨rfl, fr2⟩
    simp (maxDischargeDepth := 30) only [AMS, AMH, ↓reduceIte, Nat.reduceLT, Nat.reduceEqDiff, Nat.reduceAdd, Nat.reduceMul, reduceCtorEq, decide_true, decide_false, Nat.reduceLeDiff, Int.reduceNe, Int.reduceEq, ne_eq, not_false_eq_true, and_self, F150_Am143, fr2.ok, g0, s_eq]
    exact ⟨⟨_, _, rfl, hz⟩, fr2⟩
  · have c1 : aIndex CC 9 (.string (bs w)) (.int .i64 0) = some (.int .u8 b.toNat) := i_9 (l := w) (k := 0) (b := b) (by rw [hwb]; rfl)
    have c2 : ((b.toNat : Int) == 45) = false := by
      have : (45 : UInt8).toNat = 45 := rfl
      rw [Bool.eq_false_iff]
      intro e
      have e := beq_iff_eq.1 e
      exact hb45 (UInt8.toNat_inj.1 (by omega))
    clear hwb
    have es : signB w = (1, w) := es0
    by_cases hlen : 1 ≤ (w).length ∧ (w).length ≤ 3
    rotate_left
    · have hz := numZ_len (w := w) (by rw [es]; exact hlen)
      by_cases h1 : (w).length < 1
      · have d1 : decide (((bs w).data.toList.length : Nat) < (1 : Int)) = true := by show decide (((w).length : Int) < 1) = true; exact decide_eq_true (by omega)
        simp (maxDischargeDepth := 30) only [AMS, AMH, ↓reduceIte, Nat.reduceLT, Nat.reduceEqDiff, Nat.reduceAdd, Nat.reduceMul, reduceCtorEq, decide_true, decide_false, Nat.reduceLeDiff, Int.reduceNe, Int.reduceEq, ne_eq, not_false_eq_true, and_self, F150_Am143, hk, c0, c1, c2, d1]
        exact ⟨⟨0, false, by first | rfl | trivial, by rw [hz]; rfl⟩, Fr.refl hk⟩
      · have d1 : decide (((bs w).data.toList.length : Nat) < (1 : Int)) = false := by show decide (((w).length : Int) < 1) = false; exact decide_eq_false (by omega)
        have d2 : decide (((bs w).data.toList.length : Nat) > (3 : Int)) = true := by show decide (((w).length : Int) > 3) = true; exact decide_eq_true (by omega)
        simp (maxDischargeDepth := 30) only [AMS, AMH, ↓reduceIte, Nat.reduceLT, Nat.reduceEqDiff, Nat.reduceAdd, Nat.reduceMul, reduceCtorEq, decide_true, decide_false, Nat.reduceLeDiff, Int.reduceNe, Int.reduceEq, ne_eq, not_false_eq_true, and_self, F150_Am143, hk, c0, c1, c2, d1, d2]
        exact ⟨⟨0, false, by first | rfl | trivial, by rw [hz]; rfl⟩, Fr.refl hk⟩
    have d1 : decide (((bs w).data.toList.length : Nat) < (1 : Int)) = false := by show decide (((w).length : Int) < 1) = false; exact decide_eq_false (by omega)
    have d2 : decide (((bs w).data.toList.length : Nat) > (3 : Int)) = false := by show decide (((w).length : Int) > 3) = false; exact decide_eq_false (by omega)
    simp (maxDischargeDepth := 30) only [AMS, AMH, ↓reduceIte, Nat.reduceLT, Nat.reduceEqDiff, Nat.reduceAdd, Nat.reduceMul, reduceCtorEq, decide_true, decide_false, Nat.reduceLeDiff, Int.reduceNe, Int.reduceEq, ne_eq, not_false_eq_true, and_self, F150_Am143, hk, c0, c1, c2, d1, d2]
    refine W_loop (w).length (fun m f h' => ∃ i, i ≤ (w).length ∧ m = (w).length - i ∧ f 0 = .string (bs w) ∧ f 6 = .int .i64 1 ∧ f 7 = .string (bs w) ∧ f 9 = .int .i64 i ∧ f 8 = .int .i64 (valB ((w).take i)) ∧ ((w).take i).all isDig = true ∧ h' = h)
      ⟨0, by omega, by omega, by simp [upd_at, argsFn_at], by simp [upd_at], by simp [upd_at], by simp [upd_at], by simp [upd_at, valB], by simp, rfl⟩ ?_
    clear d1 d2
    rintro m f h1 ⟨i, hi, rfl, g0, g6, g7, g9, g8, hd, rfl⟩ ih
    have hsm := val_small hd (fun _ => hlen.2)
    by_cases hil : i < (w).length
    · obtain ⟨y, gy⟩ : ∃ y, (w)[i]? = some y := ⟨_, List.getElem?_eq_getElem hil⟩
      have dl : decide ((i : Int) < ((bs w).data.toList.length : Nat)) = true := lt_t hil
      have hy8 := y.toNat_lt
      cases hy : isDig y with
      | false =>
        have hz := numZ_dig (w := w) (k := i) (b := y) (by rw [es]; exact gy) hy
        rcases not_dig hy with q | q
        · have d1 : decide ((y.toNat : Int) < 48) = true := decide_eq_true (by omega)
          simp (maxDischargeDepth := 30) only [AMS, AMH, ↓reduceIte, Nat.reduceLT, Nat.reduceEqDiff, Nat.reduceAdd, Nat.reduceMul, reduceCtorEq, decide_true, decide_false, Nat.reduceLeDiff, Int.reduceNe, Int.reduceEq, ne_eq, not_false_eq_true, and_self, F150_Am143, hk, g0, g6, g7, g9, g8, dl, i_9 gy, d1]
          exact ⟨⟨0, false, by first | rfl | trivial, by rw [hz]; rfl⟩, Fr.refl hk⟩
        · have d1 : decide ((y.toNat : Int) < 48) = false := decide_eq_false (by omega)
          have d2 : decide ((y.toNat : Int) > 57) = true := decide_eq_true (by omega)
          simp (maxDischargeDepth := 30) only [AMS, AMH, ↓reduceIte, Nat.reduceLT, Nat.reduceEqDiff, Nat.reduceAdd, Nat.reduceMul, reduceCtorEq, decide_true, decide_false, Nat.reduceLeDiff, Int.reduceNe, Int.reduceEq, ne_eq, not_false_eq_true, and_self, F150_Am143, hk, g0, g6, g7, g9, g8, dl, i_9 gy, d1, d2]
          exact ⟨⟨0, false, by first | rfl | trivial, by rw [hz]; rfl⟩, Fr.refl hk⟩
      | true =>
        have hyr := dig_le hy
        have d1 : decide ((y.toNat : Int) < 48) = false := decide_eq_false (by omega)
        have d2 : decide ((y.toNat : Int) > 57) = false := decide_eq_false (by omega)
        have ev := val_snoc gy
        have ev' : 10 * (valB ((w).take i) : Int) + ((y.toNat : Int) - 48) = (valB ((w).take (i + 1)) : Int) := by rw [ev]; omega
        have hd' := dig_snoc gy hy hd
        simp (maxDischargeDepth := 30) only [AMS, AMH, ↓reduceIte, Nat.reduceLT, Nat.reduceEqDiff, Nat.reduceAdd, Nat.reduceMul, reduceCtorEq, decide_true, decide_false, Nat.reduceLeDiff, Int.reduceNe, Int.reduceEq, ne_eq, not_false_eq_true, and_self, F150_Am143, hk, g0, g6, g7, g9, g8, dl, i_9 gy, d1, d2, cv_5_3, wrap64 (n := 10 * (valB ((w).take i) : Int)) (by omega) (by omega), wrap8 (n := (y.toNat : Int) - 48) (by omega) (by omega), wrap64 (n := (y.toNat : Int) - 48) (by omega) (by omega), ev', wrap64 (n := (valB ((w).take (i + 1)) : Int)) (by omega) (by omega), i_ok hil (by omega)]
        refine ih ((w).length - (i + 1)) _ _ (by omega) ?_
        exact ⟨i + 1, by omega, rfl, by simp [upd_at, g0], by simp [upd_at, g6], by simp [upd_at, g7], by simp [upd_at], by simp [upd_at], hd', rfl⟩
    have : i = (w).length := by omega
    subst this
    rw [List.take_length] at hd hsm g8
    have dl : decide ((((w).length : Nat) : Int) < ((bs w).data.toList.length : Nat)) = false := lt_f _
    have hz := numZ_is (w := w) (by rw [es]; exact hd) (by rw [es]; exact hlen.1) (by rw [es]; exact hlen.2)
    rw [es] at hz
    simp only at hz
    have hw1 := wrap64 (n := 1 * (valB (w) : Int)) (by omega) (by omega)
    simp (maxDischargeDepth := 30) only [AMS, AMH, ↓reduceIte, Nat.reduceLT, Nat.reduceEqDiff, Nat.reduceAdd, Nat.reduceMul, reduceCtorEq, decide_true, decide_false, Nat.reduceLeDiff, Int.reduceNe, Int.reduceEq, ne_eq, not_false_eq_true, and_self, F150_Am143, hk, g0, g6, g7, g9, g8, dl, hw1]
    refine W_call (decimal_133 8 (1 * (valB (w) : Int)) (by omega) (Nat.le_refl _) hk) ?_
    rintro _ h2 ⟨rfl, fr2⟩
    simp (maxDischargeDepth := 30) only [AMS, AMH, ↓reduceIte, Nat.reduceLT, Nat.reduceEqDiff, Nat.reduceAdd, Nat.reduceMul, reduceCtorEq, decide_true, decide_false, Nat.reduceLeDiff, Int.reduceNe, Int.reduceEq, ne_eq, not_false_eq_true, and_self, F150_Am143, fr2.ok, g0, s_eq]
    exact ⟨⟨_, _, rfl, hz⟩, fr2⟩
end Go.Am
