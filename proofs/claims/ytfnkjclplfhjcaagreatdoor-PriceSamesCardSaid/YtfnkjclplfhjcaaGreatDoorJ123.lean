/- Parts 123 of the abstract machine over this program, joined: what each part says stands at its head. -/
import Derived.Test.YtfnkjclplfhjcaaGreatDoorJ122
set_option linter.unusedSimpArgs false
set_option linter.unusedVariables false
/- The abstract machine, part 123: contracts of the specification: Equal, Same. -/
namespace Go.Am
open Go Go.Proofs

theorem word_same (L : List (List Int)) (f : List Int → Bool) : wordOf L f = if (L.filter f).length = 0 then 1 else if (L.filter f).length = L.length then 3 else 2 := by
  unfold wordOf
  cases h1 : L.any f with
  | false =>
    have : L.filter f = [] := by
      rw [List.filter_eq_nil_iff]
      intro a ha hc
      have := List.any_eq_false.1 h1 a ha
      exact this hc
    rw [this]; simp
  | true =>
    have h2 : (L.filter f).length ≠ 0 := by
      obtain ⟨a, ha, hc⟩ := List.any_eq_true.1 h1
      have := List.mem_filter.2 ⟨ha, hc⟩
      intro e
      rw [List.eq_nil_of_length_eq_zero e] at this
      cases this
    rw [if_neg h2]
    cases h3 : L.any (fun q => !f q) with
    | false =>
      have : (L.filter f).length = L.length := by
        rw [List.length_filter_eq_length_iff]
        intro a ha
        have := List.any_eq_false.1 h3 a ha
        simpa using this
      rw [if_pos this]; rfl
    | true =>
      have : (L.filter f).length ≠ L.length := by
        intro e
        rw [List.length_filter_eq_length_iff] at e
        obtain ⟨a, ha, hc⟩ := List.any_eq_true.1 h3
        have := e a ha
        rw [this] at hc; cases hc
      rw [if_neg this]; rfl

theorem same_41 (m n : Nat) (h : Heap) : callF CC (Lim CC) 41 [.int .i64 m, .int .i64 n] h = some (.ret (.int .i64 (if m = 0 then 1 else if m = n then 3 else 2)) h none) := by
  refine CW.eq (CW_in Tryz.f41 (by kernel_rfl) (by kernel_rfl) rfl rfl ?_)
  simp only [Tryz.f41]
  by_cases h1 : m = 0
  · subst h1
    have e1 : (((0 : Nat) : Int) == 0) = true := rfl
    simp (maxDischargeDepth := 30) only [AMS, AMH, ↓reduceIte, Nat.reduceLT, Nat.reduceEqDiff, Nat.reduceAdd, Nat.reduceMul, reduceCtorEq, decide_true, decide_false, Nat.reduceLeDiff, Int.reduceNe, Int.reduceEq, ne_eq, not_false_eq_true, and_self, L_nil, e1]
  · have e1 : (((m : Nat) : Int) == 0) = false := by simp; omega
    by_cases h2 : m = n
    · have e2 : (((m : Nat) : Int) == (n : Int)) = true := by simp; omega
      simp (maxDischargeDepth := 30) only [AMS, AMH, ↓reduceIte, Nat.reduceLT, Nat.reduceEqDiff, Nat.reduceAdd, Nat.reduceMul, reduceCtorEq, decide_true, decide_false, Nat.reduceLeDiff, Int.reduceNe, Int.reduceEq, ne_eq, not_false_eq_true, and_self, L_nil, e1, e2, h1, if_pos h2]
    · have e2 : (((m : Nat) : Int) == (n : Int)) = false := by simp; omega
      simp (maxDischargeDepth := 30) only [AMS, AMH, ↓reduceIte, Nat.reduceLT, Nat.reduceEqDiff, Nat.reduceAdd, Nat.reduceMul, reduceCtorEq, decide_true, decide_false, Nat.reduceLeDiff, Int.reduceNe, Int.reduceEq, ne_eq, not_false_eq_true, and_self, L_nil, e1, e2, h1, if_neg h2]

set_option maxRecDepth 10000 in
set_option maxHeartbeats 4000000 in
theorem equal_40 {h : Heap} (hk : HOK h) (hp : 0 < h.next) {a b c : Value} {s : Sheet} {i j : Nat} {T U : Tar} (hs : IsSheet h a b c s) (ok : s.ok = true) (hT : s.tars[i]? = some T) (hU : s.tars[j]? = some U) :
    CW CC 40 [.agg ⟨[a, b, c]⟩, .int .i64 i, .int .i64 j] h fun r h' => (∃ us, LS h' r us unit 1 ∧ Rows h' us ((allN s.boards s.boards.length).filter (eqB s T U))) ∧ Fr h h' := by
  have hlen := Sheet.ok_len ok
  have hil := (List.getElem?_eq_some_iff.1 hT).1
  have hjl := (List.getElem?_eq_some_iff.1 hU).1
  have tok := Sheet.ok_tars ok T (List.mem_of_getElem? hT)
  have uok := Sheet.ok_tars ok U (List.mem_of_getElem? hU)
  have hbs : ∀ b ∈ s.boards, 0 ≤ b.lo ∧ b.lo ≤ b.hi ∧ b.hi ≤ 40 ∧ b.hi - b.lo ≤ 6 := fun b hb => by
    have := of_decide_eq_true (Sheet.ok_boards ok b hb); omega
  obtain ⟨p1, c1, rfl, _⟩ := hs.offs.open
  obtain ⟨p2, c2, rfl, _⟩ := hs.boards.open
  obtain ⟨p3, c3, rfl, x3⟩ := hs.tars.open
  rcases x3 with hx | ⟨b4, o4, sp4, row4, rfl, rr4, x3⟩
  · rw [hx] at hil; simp at hil
  have e1 : take? row4 (o4 + i * 5) 5 = some T.cells := (x3 _ _ hT).1
  have e2 : take? row4 (o4 + j * 5) 5 = some U.cells := (x3 _ _ hU).1
  have kcT : T.cells.all selfC = true := rfl
  have kcU : U.cells.all selfC = true := rfl
  refine CW_in Tryz.f40 (by kernel_rfl) (by kernel_rfl) rfl rfl ?_
  simp only [Tryz.f40]
  have f1 : Fr h (h.alloc (.row [.slice p1 s.offs.length c1, .slice p2 s.boards.length c2, .slice (some ⟨b4, o4, sp4⟩) s.tars.length c3] 0 true)) := (Fr.refl hk).alloc _
  have r1 : rowAt (h.alloc (.row [.slice p1 s.offs.length c1, .slice p2 s.boards.length c2, .slice (some ⟨b4, o4, sp4⟩) s.tars.length c3] 0 true)) h.next = some [.slice p1 s.offs.length c1, .slice p2 s.boards.length c2, .slice (some ⟨b4, o4, sp4⟩) s.tars.length c3] := rowAt_new _ _ _ _
  have n1 : (h.alloc (.row [.slice p1 s.offs.length c1, .slice p2 s.boards.length c2, .slice (some ⟨b4, o4, sp4⟩) s.tars.length c3] 0 true)).next = h.next + 1 := by simp
  simp (maxDischargeDepth := 30) only [AMS, AMH, ↓reduceIte, Nat.reduceLT, Nat.reduceEqDiff, Nat.reduceAdd, Nat.reduceMul, reduceCtorEq, decide_true, decide_false, Nat.reduceLeDiff, Int.reduceNe, Int.reduceEq, ne_eq, not_false_eq_true, and_self, bs_54, fp_26_2, ix_24, ix_54, ld_22, ld_24, ld_26, ld_41, len_54, part_22, part_41, size_22, size_24, size_41, size_54, und_24, und_54, zero_24, zero_54, hk]
  generalize (h.alloc (.row [.slice p1 s.offs.length c1, .slice p2 s.boards.length c2, .slice (some ⟨b4, o4, sp4⟩) s.tars.length c3] 0 true)) = h1 at f1 r1 n1 ⊢
  refine W_call (all_42 f1.ok (by omega) (hs.fr hk f1) ok) ?_
  rintro R h2 ⟨⟨us, L2, R2⟩, fr2⟩
  have f2 := f1.trans fr2
  have r2 := fr2.row' f1.ok r1
  have n2 := fr2.next
  have rr2 := f2.row' hk rr4
  have hcount : (allN s.boards s.boards.length).length ≤ 2401 := by
    have h1 := allN_len (bs := s.boards) (fun b hb => (hbs b hb).2.2.2) (Nat.le_refl _) (by omega)
    have h2 : 7 ^ s.boards.length ≤ 7 ^ 4 := Nat.pow_le_pow_right (by omega) (by omega)
    omega
  have hone := allN_get (bs := s.boards) (fun b hb => (hbs b hb).2.1) (Nat.le_refl _)
  have hall : ∀ q ∈ allN s.boards s.boards.length, q.length = s.boards.length ∧ (∀ x ∈ qtys T s.boards q, 0 ≤ x ∧ x ≤ 60) ∧ (∀ x ∈ qtys U s.boards q, 0 ≤ x ∧ x ≤ 60) := fun q hq => by
    have hq := allN_ok.2 hq
    exact ⟨(hoursOK_at hq).1, qtys_b ok hq T, qtys_b ok hq U⟩
  generalize hL : allN s.boards s.boards.length = L at *
  obtain ⟨pv, cv, rfl, x2⟩ := L2.open
  rw [R2.1]
  rcases x2 with hx | ⟨b3, o3, sp3, row3, rfl, rr3, x2⟩
  · have := R2.1; rw [hx] at this; simp at this; omega
  have cell : ∀ (k : Nat) q, L[k]? = some q → ∃ pu cu, row3[o3 + k]? = some (.slice pu q.length cu) ∧ LS h2 (.slice pu q.length cu) q ints 1 := fun k q hq => by
    obtain ⟨u, gu, lu⟩ := R2.2 k q hq
    obtain ⟨pu, cu, rfl⟩ := lu.len
    exact ⟨pu, cu, by simpa [unit] using (x2 _ _ gu).2 0 (by omega), lu⟩
  simp (maxDischargeDepth := 30) only [AMS, AMH, ↓reduceIte, Nat.reduceLT, Nat.reduceEqDiff, Nat.reduceAdd, Nat.reduceMul, reduceCtorEq, decide_true, decide_false, Nat.reduceLeDiff, Int.reduceNe, Int.reduceEq, ne_eq, not_false_eq_true, and_self, bs_54, fp_26_2, ix_24, ix_54, ld_22, ld_24, ld_26, ld_41, len_54, part_22, part_41, size_22, size_24, size_41, size_54, und_24, und_54, zero_24, zero_54, f2.ok]
  refine W_loop L.length (fun m' f h' => ∃ k ws, k ≤ L.length ∧ m' = L.length - k ∧ f 1 = .int .i64 i ∧ f 2 = .int .i64 j ∧ f 3 = .pointer (some ⟨h.next, 0, none⟩) ∧ f 7 = .slice (some ⟨b3, o3, sp3⟩) L.length cv ∧ f 9 = .int .i64 (k : Nat) ∧
      SL h2.next h' (f 8) ws 1 ((L.take k).filter (eqB s T U)).length ∧ Rows h2 ws ((L.take k).filter (eqB s T U)) ∧ Fr h2 h')
    ⟨0, [], by omega, by omega, by simp [upd_at, argsFn_at], by simp [upd_at, argsFn_at], by simp [upd_at], by simp [upd_at], by simp [upd_at], by simpa [upd_at] using SL.nil h2.next h2 1, ⟨by simp, fun k x hx => by simp at hx⟩, Fr.refl f2.ok⟩ ?_
  rintro m' f h' ⟨k, ws, hk', rfl, g1, g2, g3, g7, g9, q8, RW, fr⟩ ih
  have k' := fr.ok
  have fh := f2.trans fr
  have r' := fr.row' f2.ok r2
  have rr' := fr.row' f2.ok rr3
  have rt' := fr.row' f2.ok rr2
  have nn := fr.next
  by_cases hkl : k < L.length
  · obtain ⟨q, hq⟩ : ∃ x, L[k]? = some x := ⟨_, List.getElem?_eq_getElem hkl⟩
    obtain ⟨pu, cu, e3, l1⟩ := cell k q hq
    have a1 := hall q (List.mem_of_getElem? hq)
    simp (maxDischargeDepth := 30) only [AMS, AMH, ↓reduceIte, Nat.reduceLT, Nat.reduceEqDiff, Nat.reduceAdd, Nat.reduceMul, reduceCtorEq, decide_true, decide_false, Nat.reduceLeDiff, Int.reduceNe, Int.reduceEq, ne_eq, not_false_eq_true, and_self, bs_54, fp_26_2, ix_24, ix_54, ld_22, ld_24, ld_26, ld_41, len_54, part_22, part_41, size_22, size_24, size_41, size_54, und_24, und_54, zero_24, zero_54, k', g1, g2, g3, g7, g9, lt_t hkl]
    refine W_draw [(true, 0), (true, 1), (true, 2), (true, 3), (true, 4), (true, 5), (true, 6), (true, 7), (true, 8), (true, 9), (true, 11), (true, 12), (true, 13), (true, 14), (true, 15), (true, 16), (true, 17), (true, 18), (true, 19), (true, 20), (true, 10), (false, 11), (false, 13), (false, 16), (false, 20), (true, 21), (true, 22)] (by kernel_rfl) ?_
    simp (maxDischargeDepth := 30) only [AMS, AMH, ↓reduceIte, Nat.reduceLT, Nat.reduceEqDiff, Nat.reduceAdd, Nat.reduceMul, reduceCtorEq, decide_true, decide_false, Nat.reduceLeDiff, Int.reduceNe, Int.reduceEq, ne_eq, not_false_eq_true, and_self, AMR, bs_54, fp_26_2, ix_24, ix_54, ld_22, ld_24, ld_26, ld_41, len_54, part_22, part_41, size_22, size_24, size_41, size_54, und_24, und_54, zero_24, zero_54, k', g1, g2, g3, g7, g9, r', rr', rt', Nat.mul_one, e1, e2, e3, hil, hjl, hkl]
    refine W_callP (total_62 (t := T) k' (by omega) (hs.fr hk fh) (l1.fr f2.ok fr) tok a1.1 (by omega) fun x hx => by have := a1.2.1 x hx; omega) ?_
    rintro _ h5 ⟨rfl, fr5⟩
    have f5 := fr.trans fr5
    have r5 := fr5.row' k' r'
    have rr5 := fr5.row' k' rr'
    have rt5 := fr5.row' k' rt'
    simp (maxDischargeDepth := 30) only [AMS, AMH, ↓reduceIte, Nat.reduceLT, Nat.reduceEqDiff, Nat.reduceAdd, Nat.reduceMul, reduceCtorEq, decide_true, decide_false, Nat.reduceLeDiff, Int.reduceNe, Int.reduceEq, ne_eq, not_false_eq_true, and_self, AMR, bs_54, fp_26_2, ix_24, ix_54, ld_22, ld_24, ld_26, ld_41, len_54, part_22, part_41, size_22, size_24, size_41, size_54, und_24, und_54, zero_24, zero_54, f5.ok, g1, g2, g3, g7, g9, r5, rr5, rt5, Nat.mul_one, e1, e2, e3, hil, hjl, hkl, kcT, kcU]
    refine W_callP (total_62 (t := U) f5.ok (by have := fr5.next; omega) (hs.fr hk (f2.trans f5)) (l1.fr f2.ok f5) uok a1.1 (by omega) fun x hx => by have := a1.2.2 x hx; omega) ?_
    rintro _ h6 ⟨rfl, fr6⟩
    have f6 := f5.trans fr6
    have f56 := fr5.trans fr6
    have rr6 := fr6.row' f5.ok rr5
    have q6 := q8.fr k' f56
    have wk : IntKind.i64.wrap ((k : Int) + 1) = ((k + 1 : Nat) : Int) := by rw [wrap64 (by omega) (by omega)]; omega
    have eqe : (paid T s.boards q == paid U s.boards q) = eqB s T U q := by
      unfold eqB
      by_cases e : paid T s.boards q = paid U s.boards q
      · simp [e]
      · simp [e]
    have hts := take_snoc hq
    cases hqe : eqB s T U q with
    | true =>
      have tot : (L.take (k + 1)).filter (eqB s T U) = (L.take k).filter (eqB s T U) ++ [q] := by
        rw [hts, List.filter_append]; simp [hqe]
      have hle : ((L.take k).filter (eqB s T U)).length ≤ 2401 := by
        have h1 := List.length_filter_le (eqB s T U) (L.take k)
        rw [List.length_take] at h1
        omega
      obtain ⟨hB, eB, qB, fB, nB, gB⟩ := append_one (ts := []) app_54 f6 (by have := f6.next; omega) q6 (v := .slice pu q.length cu) rfl (by omega)
      simp (maxDischargeDepth := 30) only [AMS, AMH, ↓reduceIte, Nat.reduceLT, Nat.reduceEqDiff, Nat.reduceAdd, Nat.reduceMul, reduceCtorEq, decide_true, decide_false, Nat.reduceLeDiff, Int.reduceNe, Int.reduceEq, ne_eq, not_false_eq_true, and_self, AMR, bs_54, fp_26_2, ix_24, ix_54, ld_22, ld_24, ld_26, ld_41, len_54, part_22, part_41, size_22, size_24, size_41, size_54, und_24, und_54, zero_24, zero_54, f6.ok, g1, g2, g3, g7, g9, rr6, Nat.mul_one, e3, hkl, eqe, hqe, bs_54 (cells_slice _ _ _), eB, wk]
      refine ih (L.length - (k + 1)) _ _ (by omega) ?_
      refine ⟨k + 1, ws ++ [.slice pu q.length cu], by omega, rfl, by simp [upd_at, g1], by simp [upd_at, g2], by simp [upd_at, g3], by simp [upd_at, g7], by simp [upd_at], ?_, ?_, fB⟩
      · rw [tot, List.length_append]
        simpa [upd_at] using qB
      · rw [tot]
        refine ⟨by rw [List.length_append, List.length_append, RW.1]; rfl, fun kk x hx => ?_⟩
        by_cases e : kk < ((L.take k).filter (eqB s T U)).length
        · rw [List.getElem?_append_left e] at hx
          obtain ⟨u, hu, lu⟩ := RW.2 kk x hx
          exact ⟨u, by rw [List.getElem?_append_left (by rw [RW.1]; exact e)]; exact hu, lu⟩
        · have hkk : kk = ((L.take k).filter (eqB s T U)).length := by
            have := (List.getElem?_eq_some_iff.1 hx).1
            rw [List.length_append] at this
            simp only [List.length_singleton] at this
            omega
          subst hkk
          rw [List.getElem?_append_right (Nat.le_refl _), Nat.sub_self] at hx
          simp at hx
          subst hx
          exact ⟨_, by rw [List.getElem?_append_right (by rw [RW.1]; exact Nat.le_refl _), RW.1, Nat.sub_self]; rfl, l1⟩
    | false =>
      have tot : (L.take (k + 1)).filter (eqB s T U) = (L.take k).filter (eqB s T U) := by
        rw [hts, List.filter_append]; simp [hqe]
      simp (maxDischargeDepth := 30) only [AMS, AMH, ↓reduceIte, Nat.reduceLT, Nat.reduceEqDiff, Nat.reduceAdd, Nat.reduceMul, reduceCtorEq, decide_true, decide_false, Nat.reduceLeDiff, Int.reduceNe, Int.reduceEq, ne_eq, not_false_eq_true, and_self, AMR, bs_54, fp_26_2, ix_24, ix_54, ld_22, ld_24, ld_26, ld_41, len_54, part_22, part_41, size_22, size_24, size_41, size_54, und_24, und_54, zero_24, zero_54, f6.ok, g1, g2, g3, g7, g9, eqe, hqe, wk]
      refine ih (L.length - (k + 1)) _ _ (by omega) ?_
      exact ⟨k + 1, ws, by omega, rfl, by simp [upd_at, g1], by simp [upd_at, g2], by simp [upd_at, g3], by simp [upd_at, g7], by simp [upd_at], by rw [tot]; simpa [upd_at] using q6, by rw [tot]; exact RW, f6⟩
  · have hkE : k = L.length := by omega
    subst hkE
    rw [List.take_length] at q8 RW
    simp (maxDischargeDepth := 30) only [AMS, AMH, ↓reduceIte, Nat.reduceLT, Nat.reduceEqDiff, Nat.reduceAdd, Nat.reduceMul, reduceCtorEq, decide_true, decide_false, Nat.reduceLeDiff, Int.reduceNe, Int.reduceEq, ne_eq, not_false_eq_true, and_self, bs_54, fp_26_2, ix_24, ix_54, ld_22, ld_24, ld_26, ld_41, len_54, part_22, part_41, size_22, size_24, size_41, size_54, und_24, und_54, zero_24, zero_54, k', g1, g2, g3, g7, g9, lt_f]
    refine ⟨⟨ws, ?_, RW.fr f2.ok fr⟩, fh⟩
    have : SL h2.next h' (f 8) (ws.flatMap unit) 1 ws.length := by rw [flat_unit, RW.1]; exact q8
    exact SL.ls unit_len this
end Go.Am
