/- Parts 105 of the abstract machine over this program, joined: what each part says stands at its head. -/
import Derived.Test.YtfnkjclplfhjcaaGreatDoorJ103
set_option linter.unusedSimpArgs false
set_option linter.unusedVariables false
/- The abstract machine, part 105: the statement PriceOff. -/
namespace Go.Am
open Go Go.Proofs

theorem la_c {α : Type} (a : α) (l m : List α) : List.append (a :: l) m = a :: List.append l m := rfl
theorem la_n {α : Type} (m : List α) : List.append [] m = m := rfl
theorem owes_b {x o : Int} (hx : 0 ≤ x) (h0 : 0 ≤ o) (h1 : o ≤ 100) : 0 ≤ x * o / 100 ∧ x * o / 100 ≤ x := by
  have m0 : 0 ≤ x * o := Int.mul_nonneg hx h0
  have m1 : x * o ≤ x * 100 := Int.mul_le_mul_of_nonneg_left h1 hx
  exact ⟨Int.ediv_nonneg m0 (by omega), by omega⟩
theorem owes_mono {x o o' : Int} (hx : 0 ≤ x) (h : o ≤ o') : x * o / 100 ≤ x * o' / 100 := Int.ediv_le_ediv (by omega) (Int.mul_le_mul_of_nonneg_left h hx)

def Sheet.off (s : Sheet) (w : Nat) (o : Int) : Sheet := ⟨s.offs.set w o, s.boards, s.tars⟩
theorem Sheet.off_ok {s : Sheet} (ok : s.ok = true) {w : Nat} {o : Int} (h0 : 0 ≤ o) (h1 : o ≤ 100) : (s.off w o).ok = true := by
  obtain ⟨q1, q2, q3, q4⟩ := Sheet.ok_iff.1 ok
  refine Sheet.ok_iff.2 ⟨by simpa [Sheet.off] using q1, fun y hy => ?_, ?_, q4⟩
  · rcases mem_set hy with q | rfl
    · exact q2 y q
    · exact decide_eq_true ⟨h0, h1⟩
  · intro b hb
    have := q3 b hb
    simpa [Sheet.off] using this

set_option maxRecDepth 10000 in
set_option maxHeartbeats 4000000 in
theorem off_15 {h : Heap} (hk : HOK h) (hp : 0 < h.next) {a b c v : Value} {s : Sheet} {l : List Int} (hs : IsSheet h a b c s) (hv : LS h v l ints 1) (t ow mo : Int) :
    CW CC 15 [.agg ⟨[a, b, c]⟩, .int .i64 t, v, .int .i64 ow, .int .i64 mo] h fun r h' => r = .bool true ∧ Fr h h' := by
  have n00 : ((0 : Int) != 0) = false := rfl
  obtain ⟨p1, c1, rfl, x1⟩ := hs.offs.open
  obtain ⟨p2, c2, rfl, x2⟩ := hs.boards.open
  obtain ⟨p3, c3, rfl, x3⟩ := hs.tars.open
  obtain ⟨p4, c4, rfl, _⟩ := hv.open
  refine CW_in Tryz.f15 (by kernel_rfl) (by kernel_rfl) rfl rfl ?_
  simp only [Tryz.f15]
  have f1 : Fr h (h.alloc (.row [.slice p1 s.offs.length c1, .slice p2 s.boards.length c2, .slice p3 s.tars.length c3] 0 true)) := (Fr.refl hk).alloc _
  have r1 : rowAt (h.alloc (.row [.slice p1 s.offs.length c1, .slice p2 s.boards.length c2, .slice p3 s.tars.length c3] 0 true)) h.next = some [.slice p1 s.offs.length c1, .slice p2 s.boards.length c2, .slice p3 s.tars.length c3] := rowAt_new _ _ _ _
  obtain ⟨_, h2, e2, rfl, fr2⟩ := asked_22 f1.ok (hs.fr hk f1) (hv.fr hk f1) t
  have f2 := f1.trans fr2
  have r2 := fr2.row' f1.ok r1
  cases hask : askedB s t l with
  | false =>
    rw [hask] at e2
    simp (maxDischargeDepth := 30) only [AMS, AMH, ↓reduceIte, Nat.reduceLT, Nat.reduceEqDiff, Nat.reduceAdd, Nat.reduceMul, reduceCtorEq, decide_true, decide_false, Nat.reduceLeDiff, Int.reduceNe, Int.reduceEq, ne_eq, not_false_eq_true, and_self, fp_26_0, ix_22, ld_22, ld_26, ld_3, len_22, part_3, size_22, size_26, size_3, und_22, und_3, zero_22, zero_26, zero_3, hk, e2, known_23]
    exact ⟨trivial, f2⟩
  | true =>
  rw [hask] at e2
  unfold askedB at hask
  simp only [Bool.and_eq_true] at hask
  obtain ⟨⟨_, ok⟩, _, hin, hl⟩ := hask
  have hin := of_decide_eq_true hin
  obtain ⟨i, rfl⟩ : ∃ i : Nat, t = i := ⟨t.toNat, by omega⟩
  obtain ⟨T, hT⟩ : ∃ T, s.tars[i]? = some T := ⟨_, List.getElem?_eq_getElem (by omega)⟩
  have tok := Sheet.ok_tars ok T (List.mem_of_getElem? hT)
  have hlen := Sheet.ok_len ok
  have hll := (hoursOK_at hl).1
  have hq := qtys_b ok hl T
  cases d1 : decide (ow < 0) with
  | true =>
    simp (maxDischargeDepth := 30) only [AMS, AMH, ↓reduceIte, Nat.reduceLT, Nat.reduceEqDiff, Nat.reduceAdd, Nat.reduceMul, reduceCtorEq, decide_true, decide_false, Nat.reduceLeDiff, Int.reduceNe, Int.reduceEq, ne_eq, not_false_eq_true, and_self, fp_26_0, ix_22, ld_22, ld_26, ld_3, len_22, part_3, size_22, size_26, size_3, und_22, und_3, zero_22, zero_26, zero_3, hk, e2, d1, known_23]
    exact ⟨trivial, f2⟩
  | false =>
  cases d2 : decide (ow ≥ (s.offs.length : Int)) with
  | true =>
    simp (maxDischargeDepth := 30) only [AMS, AMH, ↓reduceIte, Nat.reduceLT, Nat.reduceEqDiff, Nat.reduceAdd, Nat.reduceMul, reduceCtorEq, decide_true, decide_false, Nat.reduceLeDiff, Int.reduceNe, Int.reduceEq, ne_eq, not_false_eq_true, and_self, fp_26_0, ix_22, ld_22, ld_26, ld_3, len_22, part_3, size_22, size_26, size_3, und_22, und_3, zero_22, zero_26, zero_3, hk, e2, f2.ok, r2, d1, d2, known_23]
    exact ⟨trivial, f2⟩
  | false =>
  cases d3 : decide (mo < 0) with
  | true =>
    simp (maxDischargeDepth := 30) only [AMS, AMH, ↓reduceIte, Nat.reduceLT, Nat.reduceEqDiff, Nat.reduceAdd, Nat.reduceMul, reduceCtorEq, decide_true, decide_false, Nat.reduceLeDiff, Int.reduceNe, Int.reduceEq, ne_eq, not_false_eq_true, and_self, fp_26_0, ix_22, ld_22, ld_26, ld_3, len_22, part_3, size_22, size_26, size_3, und_22, und_3, zero_22, zero_26, zero_3, hk, e2, f2.ok, r2, d1, d2, d3, known_23]
    exact ⟨trivial, f2⟩
  | false =>
  cases d4 : decide (mo > 100) with
  | true =>
    simp (maxDischargeDepth := 30) only [AMS, AMH, ↓reduceIte, Nat.reduceLT, Nat.reduceEqDiff, Nat.reduceAdd, Nat.reduceMul, reduceCtorEq, decide_true, decide_false, Nat.reduceLeDiff, Int.reduceNe, Int.reduceEq, ne_eq, not_false_eq_true, and_self, fp_26_0, ix_22, ld_22, ld_26, ld_3, len_22, part_3, size_22, size_26, size_3, und_22, und_3, zero_22, zero_26, zero_3, hk, e2, f2.ok, r2, d1, d2, d3, d4, known_23]
    exact ⟨trivial, f2⟩
  | false =>
  have d1' := of_decide_eq_false d1
  have d2' := of_decide_eq_false d2
  have d3' := of_decide_eq_false d3
  have d4' := of_decide_eq_false d4
  obtain ⟨w, rfl⟩ : ∃ w : Nat, ow = w := ⟨ow.toNat, by omega⟩
  have hwl : w < s.offs.length := by omega
  obtain ⟨o, ho⟩ : ∃ o, s.offs[w]? = some o := ⟨_, List.getElem?_eq_getElem hwl⟩
  have hob := of_decide_eq_true ((Sheet.ok_iff.1 ok).2.1 o (List.mem_of_getElem? ho))
  have hs' := hs
  obtain ⟨bo, oo, spo, rowo, rfl, rro, eo⟩ := hs'.offs.cell ho
  have nb : minI 100 (o + mo) ≤ 100 ∧ o ≤ minI 100 (o + mo) := by unfold minI; split <;> omega
  have ok' := Sheet.off_ok (w := w) ok (o := minI 100 (o + mo)) (by omega) nb.1
  simp (maxDischargeDepth := 30) only [AMS, AMH, ↓reduceIte, Nat.reduceLT, Nat.reduceEqDiff, Nat.reduceAdd, Nat.reduceMul, reduceCtorEq, decide_true, decide_false, Nat.reduceLeDiff, Int.reduceNe, Int.reduceEq, ne_eq, not_false_eq_true, and_self, fp_26_0, ix_22, ld_22, ld_26, ld_3, len_22, part_3, size_22, size_26, size_3, und_22, und_3, zero_22, zero_26, zero_3, hk, e2, f2.ok, r2, d1, d2, d3, d4]
  have f23 : Fr h2 ((h2.alloc (.row [.slice none 0 0, .slice none 0 0, .slice none 0 0] 0 true)).set h2.next (.row [.slice (some ⟨bo, oo, spo⟩) s.offs.length c1, .slice p2 s.boards.length c2, .slice p3 s.tars.length c3] 0 true)) := ((Fr.refl f2.ok).alloc _).set (Nat.le_refl _) (by simp) _
  have g3 : ((h2.alloc (.row [.slice none 0 0, .slice none 0 0, .slice none 0 0] 0 true)).set h2.next (.row [.slice (some ⟨bo, oo, spo⟩) s.offs.length c1, .slice p2 s.boards.length c2, .slice p3 s.tars.length c3] 0 true)).get h2.next = some (.row [.slice (some ⟨bo, oo, spo⟩) s.offs.length c1, .slice p2 s.boards.length c2, .slice p3 s.tars.length c3] 0 true) := Heap.get_set_self _ _ _
  have n3 : ((h2.alloc (.row [.slice none 0 0, .slice none 0 0, .slice none 0 0] 0 true)).set h2.next (.row [.slice (some ⟨bo, oo, spo⟩) s.offs.length c1, .slice p2 s.boards.length c2, .slice p3 s.tars.length c3] 0 true)).next = h2.next + 1 := by simp
  generalize ((h2.alloc (.row [.slice none 0 0, .slice none 0 0, .slice none 0 0] 0 true)).set h2.next (.row [.slice (some ⟨bo, oo, spo⟩) s.offs.length c1, .slice p2 s.boards.length c2, .slice p3 s.tars.length c3] 0 true)) = h3 at f23 g3 n3 ⊢
  have f3 := f2.trans f23
  have r3 := f23.row' f2.ok r2
  obtain ⟨h4, e4, g4, _, fr4, n4⟩ := copy_at (ts := []) app_22 (Fr.refl f3.ok) (by omega) ints_len (ints_one s.offs) (hs.fr hk f3).offs (by omega) (by omega)
  have f4 := f3.trans fr4
  have g34 := fr4.get' f3.ok g3
  have f25 : Fr h2 (h4.set h2.next (.row [.slice (some ⟨h3.next, 0, some 1⟩) s.offs.length s.offs.length, .slice p2 s.boards.length c2, .slice p3 s.tars.length c3] 0 true)) := (f23.trans fr4).set (Nat.le_refl _) (by omega) _
  have x5 : rowAt (h4.set h2.next (.row [.slice (some ⟨h3.next, 0, some 1⟩) s.offs.length s.offs.length, .slice p2 s.boards.length c2, .slice p3 s.tars.length c3] 0 true)) h2.next = some [.slice (some ⟨h3.next, 0, some 1⟩) s.offs.length s.offs.length, .slice p2 s.boards.length c2, .slice p3 s.tars.length c3] := rowAt_set_self _ _ _ _ _
  have y5 : (h4.set h2.next (.row [.slice (some ⟨h3.next, 0, some 1⟩) s.offs.length s.offs.length, .slice p2 s.boards.length c2, .slice p3 s.tars.length c3] 0 true)).get h3.next = some (.row (s.offs.flatMap ints) 1 true) := by rw [Heap.get_set_ne _ _ (by omega)]; exact g4
  have n5 : (h4.set h2.next (.row [.slice (some ⟨h3.next, 0, some 1⟩) s.offs.length s.offs.length, .slice p2 s.boards.length c2, .slice p3 s.tars.length c3] 0 true)).next = h4.next := by simp
  simp (maxDischargeDepth := 30) only [AMS, AMH, ↓reduceIte, Nat.reduceLT, Nat.reduceEqDiff, Nat.reduceAdd, Nat.reduceMul, reduceCtorEq, decide_true, decide_false, Nat.reduceLeDiff, Int.reduceNe, Int.reduceEq, ne_eq, not_false_eq_true, and_self, fp_26_0, ix_22, ld_22, ld_26, ld_3, len_22, part_3, size_22, size_26, size_3, und_22, und_3, zero_22, zero_26, zero_3, f3.ok, r3, e4, g34, List.set_cons_succ, List.set_cons_zero]
  generalize (h4.set h2.next (.row [.slice (some ⟨h3.next, 0, some 1⟩) s.offs.length s.offs.length, .slice p2 s.boards.length c2, .slice p3 s.tars.length c3] 0 true)) = h5 at f25 x5 y5 n5 ⊢
  have f5 := f2.trans f25
  have r5 := f25.row' f2.ok r2
  have rro5 := f5.row' hk rro
  have w1 : IntKind.i64.wrap (o + mo) = o + mo := wrap64 (by omega) (by omega)
  have put : write? (s.offs.flatMap ints) w [.int .i64 (if o + mo < 100 then o + mo else 100)] = some ((s.offs.set w (minI 100 (o + mo))).flatMap ints) := ints_put (y := minI 100 (o + mo)) ho
  refine W_draw [(true, 0), (true, 1), (true, 2), (true, 3), (true, 4), (true, 5), (true, 6), (true, 7), (true, 8), (true, 9), (true, 10), (true, 11), (true, 12)] (by kernel_rfl) ?_
  simp (maxDischargeDepth := 30) only [AMS, AMH, ↓reduceIte, Nat.reduceLT, Nat.reduceEqDiff, Nat.reduceAdd, Nat.reduceMul, reduceCtorEq, decide_true, decide_false, Nat.reduceLeDiff, Int.reduceNe, Int.reduceEq, ne_eq, not_false_eq_true, and_self, AMR, fp_26_0, ix_22, ld_22, ld_26, ld_3, len_22, part_3, size_22, size_26, size_3, und_22, und_3, zero_22, zero_26, zero_3, f5.ok, r5, x5, hwl, Nat.mul_one, rro5, eo, w1, min_two, y5, put]
  have f26 : Fr h2 (h5.set h3.next (.row ((s.offs.set w (minI 100 (o + mo))).flatMap ints) 1 true)) := f25.set (by omega) (by omega) _
  have x6 : rowAt (h5.set h3.next (.row ((s.offs.set w (minI 100 (o + mo))).flatMap ints) 1 true)) h2.next = some [.slice (some ⟨h3.next, 0, some 1⟩) s.offs.length s.offs.length, .slice p2 s.boards.length c2, .slice p3 s.tars.length c3] := by rw [rowAt_set_lt _ (by omega)]; exact x5
  have y6 : rowAt (h5.set h3.next (.row ((s.offs.set w (minI 100 (o + mo))).flatMap ints) 1 true)) h3.next = some ((s.offs.set w (minI 100 (o + mo))).flatMap ints) := rowAt_set_self _ _ _ _ _
  generalize (h5.set h3.next (.row ((s.offs.set w (minI 100 (o + mo))).flatMap ints) 1 true)) = h6 at f26 x6 y6 ⊢
  have f6 := f2.trans f26
  have r6 := f26.row' f2.ok r2
  have hsX : IsSheet h6 (.slice (some ⟨h3.next, 0, some 1⟩) s.offs.length s.offs.length) (.slice p2 s.boards.length c2) (.slice p3 s.tars.length c3) (s.off w (minI 100 (o + mo))) := by
    refine ⟨?_, (hs.fr hk f6).boards, (hs.fr hk f6).tars⟩
    have := LS.of_row (sp := some 1) (c := s.offs.length) ints_len y6
    rw [List.length_set] at this
    exact this
  have lX : (s.off w (minI 100 (o + mo))).offs.length = s.offs.length := by simp [Sheet.off]
  simp (maxDischargeDepth := 30) only [AMS, AMH, ↓reduceIte, Nat.reduceLT, Nat.reduceEqDiff, Nat.reduceAdd, Nat.reduceMul, reduceCtorEq, decide_true, decide_false, Nat.reduceLeDiff, Int.reduceNe, Int.reduceEq, ne_eq, not_false_eq_true, and_self, fp_26_0, ix_22, ld_22, ld_26, ld_3, len_22, part_3, size_22, size_26, size_3, und_22, und_3, zero_22, zero_26, zero_3, f6.ok, r6]
  refine W_call (owes_58 f6.ok (by have := f6.next; omega) (hs.fr hk f6) (hv.fr hk f6) ok hl hT) ?_
  rintro _ h7 ⟨A, rfl, qA, fr7⟩
  have f7 := f6.trans fr7
  have r7 := fr7.row' f6.ok r6
  have x7 := fr7.row' f6.ok x6
  simp (maxDischargeDepth := 30) only [AMS, AMH, ↓reduceIte, Nat.reduceLT, Nat.reduceEqDiff, Nat.reduceAdd, Nat.reduceMul, reduceCtorEq, decide_true, decide_false, Nat.reduceLeDiff, Int.reduceNe, Int.reduceEq, ne_eq, not_false_eq_true, and_self, fp_26_0, ix_22, ld_22, ld_26, ld_3, len_22, part_3, size_22, size_26, size_3, und_22, und_3, zero_22, zero_26, zero_3, f7.ok, r7, x7]
  refine W_call (owes_58 (s := s.off w (minI 100 (o + mo))) (t := T) f7.ok (by have := f7.next; omega) (hsX.fr f6.ok fr7) (hv.fr hk f7) ok' hl hT) ?_
  rintro _ h8 ⟨B, rfl, qB, fr8⟩
  have f8 := f7.trans fr8
  have r8 := fr8.row' f7.ok r7
  simp (maxDischargeDepth := 30) only [AMS, AMH, ↓reduceIte, Nat.reduceLT, Nat.reduceEqDiff, Nat.reduceAdd, Nat.reduceMul, reduceCtorEq, decide_true, decide_false, Nat.reduceLeDiff, Int.reduceNe, Int.reduceEq, ne_eq, not_false_eq_true, and_self, fp_26_0, ix_22, ld_22, ld_26, ld_3, len_22, part_3, size_22, size_26, size_3, und_22, und_3, zero_22, zero_26, zero_3, f8.ok, r8]
  refine W_call (share_52 f8.ok (by have := f8.next; omega) (hs.fr hk f8) (hv.fr hk f8) ok hl hT) ?_
  rintro _ h9 ⟨C, rfl, qC, fr9⟩
  have f9 := f8.trans fr9
  have r9 := fr9.row' f8.ok r8
  have wb := weights_b (t := T) ok hq hll
  have hP := paid_b tok hll ⟨by omega, by omega⟩ hq
  have sb := sharesL_b hP wb.1 wb.2 (by rw [weights_len]; omega)
  have slen := sharesL_len (P := paid T s.boards l) (W := weights s.offs.length T s.boards l)
  rw [weights_len] at slen
  have eX : weights (s.off w (minI 100 (o + mo))).offs.length T (s.off w (minI 100 (o + mo))).boards l = weights s.offs.length T s.boards l := by rw [lX]; rfl
  have eP : paid T (s.off w (minI 100 (o + mo))).boards l = paid T s.boards l := rfl
  rw [eX, eP] at qB
  have eO : (s.off w (minI 100 (o + mo))).offs = s.offs.set w (minI 100 (o + mo)) := rfl
  rw [eO] at qB
  generalize sharesL (paid T s.boards l) (weights s.offs.length T s.boards l) = X at *
  have lA := owesL_len slen
  have lB := owesL_len (X := X) (offs := s.offs.set w (minI 100 (o + mo))) (by rw [List.length_set]; exact slen)
  rw [slen] at lA lB
  have qA' := (qA.fr f7.ok fr8).fr f8.ok fr9
  have qB' := qB.fr f8.ok fr9
  obtain ⟨pA, cA, rfl⟩ := qA'.len
  obtain ⟨pB, cB, rfl⟩ := qB'.len
  obtain ⟨pC, cC, rfl⟩ := qC.len
  rw [lA] at qA'
  rw [lB] at qB'
  rw [slen] at qC
  have nn : ((s.offs.length : Int) != s.offs.length) = false := by simp
  simp (maxDischargeDepth := 30) only [AMS, AMH, ↓reduceIte, Nat.reduceLT, Nat.reduceEqDiff, Nat.reduceAdd, Nat.reduceMul, reduceCtorEq, decide_true, decide_false, Nat.reduceLeDiff, Int.reduceNe, Int.reduceEq, ne_eq, not_false_eq_true, and_self, fp_26_0, ix_22, ld_22, ld_26, ld_3, len_22, part_3, size_22, size_26, size_3, und_22, und_3, zero_22, zero_26, zero_3, f9.ok, r9, n00, lA, lB, slen, nn]
  refine W_loop s.offs.length (fun m' f h' => ∃ k, k ≤ s.offs.length ∧ m' = s.offs.length - k ∧ f 3 = .int .i64 w ∧ f 5 = .pointer (some ⟨h.next, 0, none⟩) ∧ f 12 = .slice pA s.offs.length cA ∧ f 14 = .slice pB s.offs.length cB ∧ f 16 = .slice pC s.offs.length cC ∧ f 18 = .int .i64 k ∧ h' = h9)
    ⟨0, by omega, by omega, by simp [upd_at, argsFn_at], by simp [upd_at], by simp [upd_at], by simp [upd_at], by simp [upd_at], by simp [upd_at], rfl⟩ ?_
  rintro m' f h' ⟨k, hk', rfl, g3', g5, g12, g14, g16, g18, rfl⟩ ih
  by_cases hkl : k < s.offs.length
  · obtain ⟨x, gx⟩ : ∃ x, X[k]? = some x := ⟨_, List.getElem?_eq_getElem (by omega)⟩
    obtain ⟨u, gu⟩ : ∃ x, s.offs[k]? = some x := ⟨_, List.getElem?_eq_getElem hkl⟩
    have hx := sb x (List.mem_of_getElem? gx)
    have hub := of_decide_eq_true ((Sheet.ok_iff.1 ok).2.1 u (List.mem_of_getElem? gu))
    have gA := owesL_get gx gu
    have ob := owes_b hx.1 hub.1 hub.2
    obtain ⟨y, gB⟩ : ∃ y, (owesL X (s.offs.set w (minI 100 (o + mo))))[k]? = some y := ⟨_, List.getElem?_eq_getElem (by omega)⟩
    obtain ⟨bA, oA, spA, rowA, rfl, rrA, eA⟩ := qA'.cell gA
    obtain ⟨bB, oB, spB, rowB, rfl, rrB, eB⟩ := qB'.cell gB
    obtain ⟨bC, oC, spC, rowC, rfl, rrC, eC⟩ := qC.cell gx
    obtain ⟨b1, o1, sp1, row1, hE, rr1, e1⟩ := hs'.offs.cell gu
    simp only [Option.some.injEq, Addr.mk.injEq] at hE
    obtain ⟨rfl, rfl, rfl⟩ := hE
    rw [rro] at rr1
    obtain rfl : rowo = row1 := by simpa using rr1
    have rro9 := f9.row' hk rro
    have c1' : decide (x - x * u / 100 < 0) = false := decide_eq_false (by omega)
    have c2' : decide (x - x * u / 100 > x) = false := decide_eq_false (by omega)
    simp (maxDischargeDepth := 30) only [AMS, AMH, ↓reduceIte, Nat.reduceLT, Nat.reduceEqDiff, Nat.reduceAdd, Nat.reduceMul, reduceCtorEq, decide_true, decide_false, Nat.reduceLeDiff, Int.reduceNe, Int.reduceEq, ne_eq, not_false_eq_true, and_self, fp_26_0, ix_22, ld_22, ld_26, ld_3, len_22, part_3, size_22, size_26, size_3, und_22, und_3, zero_22, zero_26, zero_3, f9.ok, g3', g5, g12, g14, g16, g18, lt_t hkl]
    refine W_draw [(true, 0), (true, 1), (true, 2), (true, 3), (true, 4), (true, 5), (true, 6), (true, 7), (true, 8), (true, 9), (true, 10), (true, 11), (true, 12), (true, 13), (true, 14), (true, 15), (true, 16), (true, 17), (true, 18), (true, 19), (true, 20), (true, 21), (true, 22), (true, 23), (true, 24), (true, 25), (true, 26), (true, 27), (true, 28), (true, 29), (true, 30), (true, 31), (true, 32), (true, 33), (true, 34), (true, 35), (true, 36), (true, 37), (true, 38), (true, 39), (true, 40), (true, 41), (true, 42), (true, 43), (true, 44), (true, 45), (true, 46), (true, 47), (true, 48), (true, 49), (true, 50), (true, 51), (true, 52), (true, 53), (true, 54), (true, 55), (true, 56), (true, 57), (true, 58), (true, 59), (true, 60), (true, 61), (true, 62), (true, 63), (true, 64), (true, 65)] (by kernel_rfl) ?_
    cases b0 : (u == 0) with
    | true =>
      have u0 : u = 0 := by simpa using b0
      have c3' : (x - x * u / 100 != x) = false := by rw [u0, Int.mul_zero]; simp
      have b100 : (u == 100) = false := by rw [u0]; rfl
      cases bw : ((k : Int) != (w : Int)) with
      | false =>
        simp (maxDischargeDepth := 30) only [AMS, AMH, ↓reduceIte, Nat.reduceLT, Nat.reduceEqDiff, Nat.reduceAdd, Nat.reduceMul, reduceCtorEq, decide_true, decide_false, Nat.reduceLeDiff, Int.reduceNe, Int.reduceEq, ne_eq, not_false_eq_true, and_self, AMR, fp_26_0, ix_22, ld_22, ld_26, ld_3, len_22, part_3, size_22, size_26, size_3, und_22, und_3, zero_22, zero_26, zero_3, la_c, la_n, f9.ok, g3', g5, g12, g14, g16, g18, hkl, Nat.mul_one, rrA, rrB, rrC, eA, eB, eC, c1', c2', r9, rro9, e1, b0, c3', b100, bw, boolIs_undef, i_next hkl (by omega : s.offs.length ≤ 1000)]
        refine ih (s.offs.length - (k + 1)) _ _ (by omega) ?_
        exact ⟨k + 1, by omega, rfl, by simp [upd_at, g3'], by simp [upd_at, g5], by simp [upd_at, g12], by simp [upd_at, g14], by simp [upd_at, g16], by simp [upd_at], rfl⟩
      | true =>
        have hkw : w ≠ k := by
          have : (k : Int) ≠ w := by simpa using bw
          omega
        have hy : y = x - x * u / 100 := by
          have g2 := owesL_get gx (show (s.offs.set w (minI 100 (o + mo)))[k]? = some u by rw [List.getElem?_set_ne hkw]; exact gu)
          rw [gB] at g2
          simpa using g2
        have c5' : (y != x - x * u / 100) = false := by rw [hy]; exact ne_self _
        simp (maxDischargeDepth := 30) only [AMS, AMH, ↓reduceIte, Nat.reduceLT, Nat.reduceEqDiff, Nat.reduceAdd, Nat.reduceMul, reduceCtorEq, decide_true, decide_false, Nat.reduceLeDiff, Int.reduceNe, Int.reduceEq, ne_eq, not_false_eq_true, and_self, AMR, fp_26_0, ix_22, ld_22, ld_26, ld_3, len_22, part_3, size_22, size_26, size_3, und_22, und_3, zero_22, zero_26, zero_3, la_c, la_n, f9.ok, g3', g5, g12, g14, g16, g18, hkl, Nat.mul_one, rrA, rrB, rrC, eA, eB, eC, c1', c2', r9, rro9, e1, b0, c3', b100, bw, c5', boolIs_undef, i_next hkl (by omega : s.offs.length ≤ 1000)]
        refine ih (s.offs.length - (k + 1)) _ _ (by omega) ?_
        exact ⟨k + 1, by omega, rfl, by simp [upd_at, g3'], by simp [upd_at, g5], by simp [upd_at, g12], by simp [upd_at, g14], by simp [upd_at, g16], by simp [upd_at], rfl⟩
    | false =>
      cases b100 : (u == 100) with
      | true =>
        have u1 : u = 100 := by simpa using b100
        have c4' : (x - x * u / 100 != 0) = false := by rw [u1, Int.mul_ediv_cancel _ (by decide)]; simp
        cases bw : ((k : Int) != (w : Int)) with
        | false =>
          simp (maxDischargeDepth := 30) only [AMS, AMH, ↓reduceIte, Nat.reduceLT, Nat.reduceEqDiff, Nat.reduceAdd, Nat.reduceMul, reduceCtorEq, decide_true, decide_false, Nat.reduceLeDiff, Int.reduceNe, Int.reduceEq, ne_eq, not_false_eq_true, and_self, AMR, fp_26_0, ix_22, ld_22, ld_26, ld_3, len_22, part_3, size_22, size_26, size_3, und_22, und_3, zero_22, zero_26, zero_3, la_c, la_n, f9.ok, g3', g5, g12, g14, g16, g18, hkl, Nat.mul_one, rrA, rrB, rrC, eA, eB, eC, c1', c2', r9, rro9, e1, b0, b100, c4', bw, boolIs_undef, i_next hkl (by omega : s.offs.length ≤ 1000)]
          refine ih (s.offs.length - (k + 1)) _ _ (by omega) ?_
          exact ⟨k + 1, by omega, rfl, by simp [upd_at, g3'], by simp [upd_at, g5], by simp [upd_at, g12], by simp [upd_at, g14], by simp [upd_at, g16], by simp [upd_at], rfl⟩
        | true =>
          have hkw : w ≠ k := by
            have : (k : Int) ≠ w := by simpa using bw
            omega
          have hy : y = x - x * u / 100 := by
            have g2 := owesL_get gx (show (s.offs.set w (minI 100 (o + mo)))[k]? = some u by rw [List.getElem?_set_ne hkw]; exact gu)
            rw [gB] at g2
            simpa using g2
          have c5' : (y != x - x * u / 100) = false := by rw [hy]; exact ne_self _
          simp (maxDischargeDepth := 30) only [AMS, AMH, ↓reduceIte, Nat.reduceLT, Nat.reduceEqDiff, Nat.reduceAdd, Nat.reduceMul, reduceCtorEq, decide_true, decide_false, Nat.reduceLeDiff, Int.reduceNe, Int.reduceEq, ne_eq, not_false_eq_true, and_self, AMR, fp_26_0, ix_22, ld_22, ld_26, ld_3, len_22, part_3, size_22, size_26, size_3, und_22, und_3, zero_22, zero_26, zero_3, la_c, la_n, f9.ok, g3', g5, g12, g14, g16, g18, hkl, Nat.mul_one, rrA, rrB, rrC, eA, eB, eC, c1', c2', r9, rro9, e1, b0, b100, c4', bw, c5', boolIs_undef, i_next hkl (by omega : s.offs.length ≤ 1000)]
          refine ih (s.offs.length - (k + 1)) _ _ (by omega) ?_
          exact ⟨k + 1, by omega, rfl, by simp [upd_at, g3'], by simp [upd_at, g5], by simp [upd_at, g12], by simp [upd_at, g14], by simp [upd_at, g16], by simp [upd_at], rfl⟩
      | false =>
        cases bw : ((k : Int) != (w : Int)) with
        | false =>
          simp (maxDischargeDepth := 30) only [AMS, AMH, ↓reduceIte, Nat.reduceLT, Nat.reduceEqDiff, Nat.reduceAdd, Nat.reduceMul, reduceCtorEq, decide_true, decide_false, Nat.reduceLeDiff, Int.reduceNe, Int.reduceEq, ne_eq, not_false_eq_true, and_self, AMR, fp_26_0, ix_22, ld_22, ld_26, ld_3, len_22, part_3, size_22, size_26, size_3, und_22, und_3, zero_22, zero_26, zero_3, la_c, la_n, f9.ok, g3', g5, g12, g14, g16, g18, hkl, Nat.mul_one, rrA, rrB, rrC, eA, eB, eC, c1', c2', r9, rro9, e1, b0, b100, bw, boolIs_undef, i_next hkl (by omega : s.offs.length ≤ 1000)]
          refine ih (s.offs.length - (k + 1)) _ _ (by omega) ?_
          exact ⟨k + 1, by omega, rfl, by simp [upd_at, g3'], by simp [upd_at, g5], by simp [upd_at, g12], by simp [upd_at, g14], by simp [upd_at, g16], by simp [upd_at], rfl⟩
        | true =>
          have hkw : w ≠ k := by
            have : (k : Int) ≠ w := by simpa using bw
            omega
          have hy : y = x - x * u / 100 := by
            have g2 := owesL_get gx (show (s.offs.set w (minI 100 (o + mo)))[k]? = some u by rw [List.getElem?_set_ne hkw]; exact gu)
            rw [gB] at g2
            simpa using g2
          have c5' : (y != x - x * u / 100) = false := by rw [hy]; exact ne_self _
          simp (maxDischargeDepth := 30) only [AMS, AMH, ↓reduceIte, Nat.reduceLT, Nat.reduceEqDiff, Nat.reduceAdd, Nat.reduceMul, reduceCtorEq, decide_true, decide_false, Nat.reduceLeDiff, Int.reduceNe, Int.reduceEq, ne_eq, not_false_eq_true, and_self, AMR, fp_26_0, ix_22, ld_22, ld_26, ld_3, len_22, part_3, size_22, size_26, size_3, und_22, und_3, zero_22, zero_26, zero_3, la_c, la_n, f9.ok, g3', g5, g12, g14, g16, g18, hkl, Nat.mul_one, rrA, rrB, rrC, eA, eB, eC, c1', c2', r9, rro9, e1, b0, b100, bw, c5', boolIs_undef, i_next hkl (by omega : s.offs.length ≤ 1000)]
          refine ih (s.offs.length - (k + 1)) _ _ (by omega) ?_
          exact ⟨k + 1, by omega, rfl, by simp [upd_at, g3'], by simp [upd_at, g5], by simp [upd_at, g12], by simp [upd_at, g14], by simp [upd_at, g16], by simp [upd_at], rfl⟩
  · have hkE : k = s.offs.length := by omega
    subst hkE
    obtain ⟨x, gx⟩ : ∃ x, X[w]? = some x := ⟨_, List.getElem?_eq_getElem (by omega)⟩
    have hx := sb x (List.mem_of_getElem? gx)
    have gA := owesL_get gx ho
    have gB := owesL_get gx (List.getElem?_set_self hwl : (s.offs.set w (minI 100 (o + mo)))[w]? = _)
    obtain ⟨bA, oA, spA, rowA, rfl, rrA, eA⟩ := qA'.cell gA
    obtain ⟨bB, oB, spB, rowB, rfl, rrB, eB⟩ := qB'.cell gB
    have mm := owes_mono (x := x) hx.1 nb.2
    have cc : decide (x - x * minI 100 (o + mo) / 100 ≤ x - x * o / 100) = true := decide_eq_true (by omega)
    simp (maxDischargeDepth := 30) only [AMS, AMH, ↓reduceIte, Nat.reduceLT, Nat.reduceEqDiff, Nat.reduceAdd, Nat.reduceMul, reduceCtorEq, decide_true, decide_false, Nat.reduceLeDiff, Int.reduceNe, Int.reduceEq, ne_eq, not_false_eq_true, and_self, fp_26_0, ix_22, ld_22, ld_26, ld_3, len_22, part_3, size_22, size_26, size_3, und_22, und_3, zero_22, zero_26, zero_3, f9.ok, g3', g5, g12, g14, g16, g18, lt_f]
    refine W_draw [(true, 0), (true, 1), (true, 2), (true, 3), (true, 4), (true, 5), (true, 6), (true, 7), (true, 8), (true, 9), (true, 10), (true, 11), (true, 12)] (by kernel_rfl) ?_
    simp (maxDischargeDepth := 30) only [AMS, AMH, ↓reduceIte, Nat.reduceLT, Nat.reduceEqDiff, Nat.reduceAdd, Nat.reduceMul, reduceCtorEq, decide_true, decide_false, Nat.reduceLeDiff, Int.reduceNe, Int.reduceEq, ne_eq, not_false_eq_true, and_self, AMR, fp_26_0, ix_22, ld_22, ld_26, ld_3, len_22, part_3, size_22, size_26, size_3, und_22, und_3, zero_22, zero_26, zero_3, f9.ok, g3', g12, g14, hwl, Nat.mul_one, rrA, eA, rrB, eB, cc, known_23]
    exact ⟨trivial, f9⟩
end Go.Am
