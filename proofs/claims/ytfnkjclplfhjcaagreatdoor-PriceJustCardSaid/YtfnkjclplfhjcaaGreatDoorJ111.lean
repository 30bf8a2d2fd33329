/- Parts 111 of the abstract machine over this program, joined: what each part says stands at its head. -/
import Derived.Test.YtfnkjclplfhjcaaGreatDoorJ110
set_option linter.unusedSimpArgs false
set_option linter.unusedVariables false
/- The abstract machine, part 111: the statement PriceJust. -/
namespace Go.Am
open Go Go.Proofs

/- PLAIN -/
theorem alone_none {t : Tar} (ht : t.ok = true) {k : Int} {bs : List Board} {hs : List Int} (h0 : (ownB k bs hs).length = 0) : alone t bs hs k = 0 := by
  have tk := Tar.ok_at ht
  have e1 : ownB k bs hs = [] := List.eq_nil_of_length_eq_zero h0
  have e2 : ownH k bs hs = [] := List.eq_nil_of_length_eq_zero (by rw [own_len]; exact h0)
  unfold alone paid
  rw [e1, e2]
  split
  · rfl
  · have e3 : sumI (qtys t [] []) = 0 := rfl
    rw [e3]
    unfold price1
    rw [Int.zero_mul, ← refRnd_eq (by omega) tk.2.2.1 tk.2.2.2.1]
    have u0 : ¬ t.units ≤ 0 := by omega
    have u1 : ¬ t.units < 0 := by omega
    have u2 : ¬ (0 : Int) = t.units := by omega
    simp [refRnd, refUp, u0, u1, u2]
theorem own_none {k : Int} : ∀ {bs : List Board} {hs : List Int}, hs.length = bs.length → (ownB k bs hs).length = 0 → ∀ b ∈ bs, (b.ow == k) = false
  | [], _, _, _ => fun b hb => by cases hb
  | _ :: _, [], h, _ => by simp at h
  | b :: bs, x :: hs, h, h0 => by
    rw [(own_cons k b x bs hs).1, List.length_append] at h0
    intro c hc
    rcases List.mem_cons.1 hc with rfl | hc
    · cases e : (c.ow == k) with
      | false => rfl
      | true => rw [e] at h0; simp at h0
    · exact own_none (by simpa using h) (by omega) c hc
theorem ownSum_none {k : Int} : ∀ {bs : List Board} {l : List Int}, (∀ b ∈ bs, (b.ow == k) = false) → ownSum k bs l = 0
  | [], l, _ => by simp [ownSum, sumI]
  | b :: bs, [], _ => by simp [ownSum, sumI]
  | b :: bs, x :: l, h => by
    rw [ownSum_cons, ownSum_none fun c hc => h c (List.mem_cons_of_mem _ hc), ownOf, h b List.mem_cons_self]; rfl
theorem weights_none {n : Nat} {t : Tar} {bs : List Board} {hs : List Int} {k : Nat} (hk : k < n) (h : ∀ b ∈ bs, (b.ow == (k : Int)) = false) : (weights n t bs hs)[k]? = some 0 := by
  unfold weights
  split
  · rw [ownParts_get hk, ownSum_none h]
  · rw [ownParts_get hk, ownSum_none h]
theorem own_ok {s : Sheet} {l : List Int} {k : Int} (ok : s.ok = true) (hl : hoursOK s.boards l = true) (h1 : 1 ≤ (ownB k s.boards l).length) : Sheet.ok ⟨s.offs, ownB k s.boards l, s.tars⟩ = true ∧ hoursOK (ownB k s.boards l) (ownH k s.boards l) = true := by
  obtain ⟨k1, k2, k3, k4⟩ := Sheet.ok_iff.1 ok
  have hle := own_le k s.boards l
  obtain ⟨g1, g2⟩ := hoursOK_at hl
  constructor
  · refine Sheet.ok_iff.2 ⟨⟨k1.1, ⟨h1, by show (ownB k s.boards l).length ≤ 4; omega⟩, k1.2.2⟩, k2, fun b hb => ?_, k4⟩
    have hb : b ∈ ownB k s.boards l := hb
    unfold ownB at hb
    rw [List.mem_map] at hb
    obtain ⟨p, hp, rfl⟩ := hb
    have := List.mem_filter.1 hp
    exact k3 _ (List.of_mem_zip this.1).1
  · refine hoursOK_all (own_len k s.boards l) fun i x b hx hb => ?_
    have hz : ((ownB k s.boards l).zip (ownH k s.boards l))[i]? = some (b, x) := List.getElem?_zip_eq_some.2 ⟨hb, hx⟩
    rw [own_zip] at hz
    have hm := (List.mem_filter.1 (List.mem_of_getElem? hz)).1
    obtain ⟨j, hj⟩ := List.mem_iff_getElem?.1 hm
    obtain ⟨q1, q2⟩ := List.getElem?_zip_eq_some.1 hj
    simp only [okHour, inP, decide_eq_true_eq]
    exact g2 j x b q2 q1

set_option maxRecDepth 10000 in
set_option maxHeartbeats 8000000 in
theorem just_13 {h : Heap} (hk : HOK h) (hp : 0 < h.next) {a b c v : Value} {s : Sheet} {l : List Int} (hs : IsSheet h a b c s) (hv : LS h v l ints 1) (t ow : Int) :
    CW CC 13 [.agg ⟨[a, b, c]⟩, .int .i64 t, v, .int .i64 ow] h fun r h' => r = .bool true ∧ Fr h h' := by
  have n00 : ((0 : Int) != 0) = false := rfl
  have hs' := hs
  have hv' := hv
  obtain ⟨p1, c1, rfl, _⟩ := hs.offs.open
  obtain ⟨p2, c2, rfl, x2⟩ := hs.boards.open
  obtain ⟨p3, c3, rfl, x3⟩ := hs.tars.open
  obtain ⟨p4, c4, rfl⟩ := hv.len
  refine CW_in Tryz.f13 (by kernel_rfl) (by kernel_rfl) rfl rfl ?_
  simp only [Tryz.f13]
  have f1 : Fr h (h.alloc (.row [.slice p1 s.offs.length c1, .slice p2 s.boards.length c2, .slice p3 s.tars.length c3] 0 true)) := (Fr.refl hk).alloc _
  have r1 : rowAt (h.alloc (.row [.slice p1 s.offs.length c1, .slice p2 s.boards.length c2, .slice p3 s.tars.length c3] 0 true)) h.next = some [.slice p1 s.offs.length c1, .slice p2 s.boards.length c2, .slice p3 s.tars.length c3] := rowAt_new _ _ _ _
  obtain ⟨_, h2, e2, rfl, fr2⟩ := asked_22 f1.ok (hs.fr hk f1) (hv.fr hk f1) t
  have f2 := f1.trans fr2
  have r2 := fr2.row' f1.ok r1
  cases hask : askedB s t l with
  | false =>
    rw [hask] at e2
    simp (maxDischargeDepth := 30) only [AMS, AMH, ↓reduceIte, Nat.reduceLT, Nat.reduceEqDiff, Nat.reduceAdd, Nat.reduceMul, reduceCtorEq, decide_true, decide_false, Nat.reduceLeDiff, Int.reduceNe, Int.reduceEq, ne_eq, not_false_eq_true, and_self, bs_22, fp_26_0, fp_26_1, fp_26_2, fp_72_3, ix_22, ix_23, ix_24, ld_22, ld_23, ld_24, ld_26, ld_3, ld_41, ld_72, len_22, len_23, part_3, part_41, part_72, size_22, size_23, size_24, size_26, size_3, size_41, size_72, und_22, und_23, und_24, zero_22, zero_23, zero_24, zero_26, hk, e2, known_23]
    exact ⟨trivial, f2⟩
  | true =>
  rw [hask] at e2
  unfold askedB at hask
  simp only [Bool.and_eq_true] at hask
  obtain ⟨⟨_, ok⟩, _, hin, hl⟩ := hask
  have hin := of_decide_eq_true hin
  obtain ⟨u, rfl⟩ : ∃ u : Nat, t = u := ⟨t.toNat, by omega⟩
  obtain ⟨T, hT⟩ : ∃ T, s.tars[u]? = some T := ⟨_, List.getElem?_eq_getElem (by omega)⟩
  have hul := (List.getElem?_eq_some_iff.1 hT).1
  have tok := Sheet.ok_tars ok T (List.mem_of_getElem? hT)
  have hlen := Sheet.ok_len ok
  have hll := (hoursOK_at hl).1
  have hq := qtys_b ok hl T
  cases d1 : decide (ow < 0) with
  | true =>
    simp (maxDischargeDepth := 30) only [AMS, AMH, ↓reduceIte, Nat.reduceLT, Nat.reduceEqDiff, Nat.reduceAdd, Nat.reduceMul, reduceCtorEq, decide_true, decide_false, Nat.reduceLeDiff, Int.reduceNe, Int.reduceEq, ne_eq, not_false_eq_true, and_self, bs_22, fp_26_0, fp_26_1, fp_26_2, fp_72_3, ix_22, ix_23, ix_24, ld_22, ld_23, ld_24, ld_26, ld_3, ld_41, ld_72, len_22, len_23, part_3, part_41, part_72, size_22, size_23, size_24, size_26, size_3, size_41, size_72, und_22, und_23, und_24, zero_22, zero_23, zero_24, zero_26, hk, e2, d1, known_23]
    exact ⟨trivial, f2⟩
  | false =>
  cases d2 : decide (ow ≥ (s.offs.length : Int)) with
  | true =>
    simp (maxDischargeDepth := 30) only [AMS, AMH, ↓reduceIte, Nat.reduceLT, Nat.reduceEqDiff, Nat.reduceAdd, Nat.reduceMul, reduceCtorEq, decide_true, decide_false, Nat.reduceLeDiff, Int.reduceNe, Int.reduceEq, ne_eq, not_false_eq_true, and_self, bs_22, fp_26_0, fp_26_1, fp_26_2, fp_72_3, ix_22, ix_23, ix_24, ld_22, ld_23, ld_24, ld_26, ld_3, ld_41, ld_72, len_22, len_23, part_3, part_41, part_72, size_22, size_23, size_24, size_26, size_3, size_41, size_72, und_22, und_23, und_24, zero_22, zero_23, zero_24, zero_26, hk, e2, f2.ok, r2, d1, d2, known_23]
    exact ⟨trivial, f2⟩
  | false =>
  have d1' := of_decide_eq_false d1
  have d2' := of_decide_eq_false d2
  obtain ⟨w, rfl⟩ : ∃ w : Nat, ow = w := ⟨ow.toNat, by omega⟩
  have hwl : w < s.offs.length := by omega
  obtain ⟨bt, ot, spt, rowt, rfl, rrt, et⟩ := LS.at (n := 0) (c := 0) x3 hT
  have wb := weights_b (t := T) ok hq hll
  have hP := paid_b tok hll ⟨by omega, by omega⟩ hq
  have slen := sharesL_len (P := paid T s.boards l) (W := weights s.offs.length T s.boards l)
  have lW := weights_len s.offs.length T s.boards l
  have hfair := shares_fair hP.1 (fun x hx => (wb.1 x hx).1) wb.2 (by omega)
  have hsum := shares_sum hP.1 (fun x hx => (wb.1 x hx).1) wb.2
  have sb0 := sharesL_b hP wb.1 wb.2 (by omega)
  have smem := sumI_mem (l := sharesL (paid T s.boards l) (weights s.offs.length T s.boards l)) fun x hx => (sb0 x hx).1
  rw [hsum] at smem
  have lnone : (ownB (w : Int) s.boards l).length = 0 → (sharesL (paid T s.boards l) (weights s.offs.length T s.boards l))[w]? = some 0 := fun h0 => by
    have w0 := weights_none (t := T) (hs := l) hwl (own_none hll h0)
    have b0 : (baseL (paid T s.boards l) (weights s.offs.length T s.boards l))[w]? = some 0 := by simp [baseL, w0]
    have r0 : (restL (paid T s.boards l) (weights s.offs.length T s.boards l))[w]? = some 0 := by simp [restL, w0]
    rcases hfair w 0 0 b0 r0 with h | ⟨_, h⟩
    · exact h
    · omega
  have llen := losesL_len (sharesL (paid T s.boards l) (weights s.offs.length T s.boards l)) T s.boards l
  simp (maxDischargeDepth := 30) only [AMS, AMH, ↓reduceIte, Nat.reduceLT, Nat.reduceEqDiff, Nat.reduceAdd, Nat.reduceMul, reduceCtorEq, decide_true, decide_false, Nat.reduceLeDiff, Int.reduceNe, Int.reduceEq, ne_eq, not_false_eq_true, and_self, bs_22, fp_26_0, fp_26_1, fp_26_2, fp_72_3, ix_22, ix_23, ix_24, ld_22, ld_23, ld_24, ld_26, ld_3, ld_41, ld_72, len_22, len_23, part_3, part_41, part_72, size_22, size_23, size_24, size_26, size_3, size_41, size_72, und_22, und_23, und_24, zero_22, zero_23, zero_24, zero_26, hk, e2, f2.ok, r2, d1, d2]
  refine W_call (share_52 f2.ok (by have := f2.next; omega) (hs'.fr hk f2) (hv'.fr hk f2) ok hl hT) ?_
  rintro _ h3 ⟨Lv, rfl, qL, fr3⟩
  have f3 := f2.trans fr3
  have r3 := fr3.row' f2.ok r2
  simp (maxDischargeDepth := 30) only [AMS, AMH, ↓reduceIte, Nat.reduceLT, Nat.reduceEqDiff, Nat.reduceAdd, Nat.reduceMul, reduceCtorEq, decide_true, decide_false, Nat.reduceLeDiff, Int.reduceNe, Int.reduceEq, ne_eq, not_false_eq_true, and_self, bs_22, fp_26_0, fp_26_1, fp_26_2, fp_72_3, ix_22, ix_23, ix_24, ld_22, ld_23, ld_24, ld_26, ld_3, ld_41, ld_72, len_22, len_23, part_3, part_41, part_72, size_22, size_23, size_24, size_26, size_3, size_41, size_72, und_22, und_23, und_24, zero_22, zero_23, zero_24, zero_26, f3.ok, r3]
  refine W_call (loses_53 f3.ok (by have := f3.next; omega) (hs'.fr hk f3) (hv'.fr hk f3) ok hl hT) ?_
  rintro _ h4 ⟨Mv, rfl, qM, fr4⟩
  have f4 := f3.trans fr4
  have r4 := fr4.row' f3.ok r3
  simp (maxDischargeDepth := 30) only [AMS, AMH, ↓reduceIte, Nat.reduceLT, Nat.reduceEqDiff, Nat.reduceAdd, Nat.reduceMul, reduceCtorEq, decide_true, decide_false, Nat.reduceLeDiff, Int.reduceNe, Int.reduceEq, ne_eq, not_false_eq_true, and_self, bs_22, fp_26_0, fp_26_1, fp_26_2, fp_72_3, ix_22, ix_23, ix_24, ld_22, ld_23, ld_24, ld_26, ld_3, ld_41, ld_72, len_22, len_23, part_3, part_41, part_72, size_22, size_23, size_24, size_26, size_3, size_41, size_72, und_22, und_23, und_24, zero_22, zero_23, zero_24, zero_26, f4.ok, r4]
  refine W_call (total_25 f4.ok (by have := f4.next; omega) (hs'.fr hk f4) (hv'.fr hk f4) ok hl hT) ?_
  rintro _ h5 ⟨rfl, fr5⟩
  have f5 := f4.trans fr5
  have r5 := fr5.row' f4.ok r4
  have rt5 := f5.row' hk rrt
  generalize hPe : paid T s.boards l = P at *
  generalize hWe : weights s.offs.length T s.boards l = W at *
  generalize hXe : sharesL P W = X at *
  rw [lW] at slen
  rw [slen] at llen
  obtain ⟨pL, cL, rfl⟩ := qL.len
  obtain ⟨pM, cM, rfl⟩ := qM.len
  rw [slen] at qL
  rw [llen] at qM
  have nn : ((s.offs.length : Int) != s.offs.length) = false := by simp
  have c1' : decide (P < 0) = false := decide_eq_false (by omega)
  have c2' : decide (P > 1000000) = false := decide_eq_false (by omega)
  have kcT : T.cells.all selfC = true := rfl
  simp (maxDischargeDepth := 30) only [AMS, AMH, ↓reduceIte, Nat.reduceLT, Nat.reduceEqDiff, Nat.reduceAdd, Nat.reduceMul, reduceCtorEq, decide_true, decide_false, Nat.reduceLeDiff, Int.reduceNe, Int.reduceEq, ne_eq, not_false_eq_true, and_self, bs_22, fp_26_0, fp_26_1, fp_26_2, fp_72_3, ix_22, ix_23, ix_24, ld_22, ld_23, ld_24, ld_26, ld_3, ld_41, ld_72, len_22, len_23, part_3, part_41, part_72, size_22, size_23, size_24, size_26, size_3, size_41, size_72, und_22, und_23, und_24, zero_22, zero_23, zero_24, zero_26, f5.ok, r5, n00, slen, llen, nn, c1', c2']
  refine W_draw [(true, 0), (true, 1), (true, 2), (true, 3), (true, 4), (true, 5), (true, 6), (true, 7), (true, 8)] (by kernel_rfl) ?_
  simp (maxDischargeDepth := 30) only [AMS, AMH, ↓reduceIte, Nat.reduceLT, Nat.reduceEqDiff, Nat.reduceAdd, Nat.reduceMul, reduceCtorEq, decide_true, decide_false, Nat.reduceLeDiff, Int.reduceNe, Int.reduceEq, ne_eq, not_false_eq_true, and_self, AMR, bs_22, fp_26_0, fp_26_1, fp_26_2, fp_72_3, ix_22, ix_23, ix_24, ld_22, ld_23, ld_24, ld_26, ld_3, ld_41, ld_72, len_22, len_23, part_3, part_41, part_72, size_22, size_23, size_24, size_26, size_3, size_41, size_72, und_22, und_23, und_24, zero_22, zero_23, zero_24, zero_26, f5.ok, r5, hul, rt5, et]
  refine W_callP (weights_56 (t := T) f5.ok (by have := f5.next; omega) (hs'.fr hk f5) (hv'.fr hk f5) ok tok hll hq) ?_
  rintro Wv h6 ⟨qW, fr6⟩
  rw [hWe] at qW
  have f6 := f5.trans fr6
  have r6 := fr6.row' f5.ok r5
  have rt6 := f6.row' hk rrt
  obtain ⟨pW, cW, rfl⟩ := qW.value
  have LW : LS h6 (.slice pW s.offs.length cW) W ints 1 := SL.ls ints_len (by rw [lW]; exact qW)
  have LL := ((qL.fr f3.ok fr4).fr f4.ok fr5).fr f5.ok fr6
  have LM := (qM.fr f4.ok fr5).fr f5.ok fr6
  simp (maxDischargeDepth := 30) only [AMS, AMH, ↓reduceIte, Nat.reduceLT, Nat.reduceEqDiff, Nat.reduceAdd, Nat.reduceMul, reduceCtorEq, decide_true, decide_false, Nat.reduceLeDiff, Int.reduceNe, Int.reduceEq, ne_eq, not_false_eq_true, and_self, AMR, bs_22, fp_26_0, fp_26_1, fp_26_2, fp_72_3, ix_22, ix_23, ix_24, ld_22, ld_23, ld_24, ld_26, ld_3, ld_41, ld_72, len_22, len_23, part_3, part_41, part_72, size_22, size_23, size_24, size_26, size_3, size_41, size_72, und_22, und_23, und_24, zero_22, zero_23, zero_24, zero_26, f6.ok, r6, hul, rt6, et, kcT]
  refine W_call (sum_57 _ W h6 LW (by omega) fun x hx => by have := wb.1 x hx; omega) ?_
  rintro _ hE ⟨rfl, eE⟩
  rw [eE]
  clear eE hE
  have sW := sumI_len (n := 3) wb.1 (by omega) (by omega)
  simp (maxDischargeDepth := 30) only [AMS, AMH, ↓reduceIte, Nat.reduceLT, Nat.reduceEqDiff, Nat.reduceAdd, Nat.reduceMul, reduceCtorEq, decide_true, decide_false, Nat.reduceLeDiff, Int.reduceNe, Int.reduceEq, ne_eq, not_false_eq_true, and_self, bs_22, fp_26_0, fp_26_1, fp_26_2, fp_72_3, ix_22, ix_23, ix_24, ld_22, ld_23, ld_24, ld_26, ld_3, ld_41, ld_72, len_22, len_23, part_3, part_41, part_72, size_22, size_23, size_24, size_26, size_3, size_41, size_72, und_22, und_23, und_24, zero_22, zero_23, zero_24, zero_26, f6.ok]
  refine W_loop s.offs.length (fun m' f h' => ∃ k, k ≤ s.offs.length ∧ m' = s.offs.length - k ∧ f 1 = .int .i64 u ∧ f 2 = .slice p4 l.length c4 ∧ f 3 = .int .i64 w ∧ f 4 = .pointer (some ⟨h.next, 0, none⟩) ∧ f 9 = .slice pL s.offs.length cL ∧ f 11 = .slice pM s.offs.length cM ∧ f 13 = .int .i64 P ∧ f 15 = .slice pW s.offs.length cW ∧ f 16 = .int .i64 (sumI W) ∧ f 17 = .int .i64 (sumI (X.take k)) ∧ f 18 = .int .i64 k ∧ h' = h6)
    ⟨0, by omega, by omega, by simp [upd_at, argsFn_at], by simp [upd_at, argsFn_at], by simp [upd_at, argsFn_at], by simp [upd_at], by simp [upd_at], by simp [upd_at], by simp [upd_at], by simp [upd_at], by simp [upd_at], by simp [upd_at, sumI], by simp [upd_at], rfl⟩ ?_
  rintro m' f hw ⟨k, hk', rfl, g1, g2, g3, g4, g9, g11, g13, g15, g16, g17, g18, rfl⟩ ih
  by_cases hkl : k < s.offs.length
  · obtain ⟨x, gx⟩ : ∃ x, X[k]? = some x := ⟨_, List.getElem?_eq_getElem (by omega)⟩
    obtain ⟨q, gq⟩ : ∃ x, W[k]? = some x := ⟨_, List.getElem?_eq_getElem (by omega)⟩
    obtain ⟨bL, oL, spL, rowL, rfl, rrL, eL⟩ := LL.cell gx
    obtain ⟨bW, oW, spW, rowW, rfl, rrW, eW⟩ := LW.cell gq
    have hx0 := (sb0 x (List.mem_of_getElem? gx)).1
    have hx1 := smem.2 x (List.mem_of_getElem? gx)
    have hq0 := wb.1 q (List.mem_of_getElem? gq)
    have sT := sumI_upto (fun y hy => (sb0 y hy).1) k
    rw [hsum] at sT
    have e1 : decide (x < 0) = false := decide_eq_false (by omega)
    have e2' : decide (x > P) = false := decide_eq_false (by omega)
    have w1 : IntKind.i64.wrap (sumI (X.take k) + x) = sumI (X.take (k + 1)) := by
      rw [take_snoc gx, sumI_app, wrap64 (by omega) (by omega)]
    have m0 : 0 ≤ x * sumI W := Int.mul_nonneg hx0 (by omega)
    have m1 : x * sumI W ≤ 1000000 * 3000 := Int.mul_le_mul (by omega) (by omega) (by omega) (by omega)
    have m2 : 0 ≤ P * q := Int.mul_nonneg hP.1 hq0.1
    have m3 : P * q ≤ 1000000 * 1000 := Int.mul_le_mul hP.2 hq0.2 hq0.1 (by omega)
    have w2 : IntKind.i64.wrap (x * sumI W) = x * sumI W := wrap64 (by omega) (by omega)
    have w3 : IntKind.i64.wrap (P * q) = P * q := wrap64 (by omega) (by omega)
    have w4 : IntKind.i64.wrap (x * sumI W - P * q) = x * sumI W - P * q := wrap64 (by omega) (by omega)
    have w5 : IntKind.i64.wrap (0 - sumI W) = -sumI W := by rw [wrap64 (by omega) (by omega)]; omega
    have em := Int.emod_add_mul_ediv (P * q) (sumI W)
    have rm0 := Int.emod_nonneg (P * q) (show sumI W ≠ 0 by omega)
    have rm1 := Int.emod_lt_of_pos (P * q) (show 0 < sumI W by omega)
    have gB : (baseL P W)[k]? = some (P * q / sumI W) := by simp [baseL, gq]
    have gR : (restL P W)[k]? = some (P * q % sumI W) := by simp [restL, gq]
    have near : -sumI W < x * sumI W - P * q ∧ x * sumI W - P * q < sumI W := by
      rcases hfair k _ _ gB gR with hh | ⟨hh, hr⟩
      · rw [gx] at hh
        have : x = P * q / sumI W := by simpa using hh
        rw [this, Int.mul_comm (P * q / sumI W)]
        omega
      · rw [gx] at hh
        have : x = P * q / sumI W + 1 := by simpa using hh
        rw [this, Int.add_mul, Int.mul_comm (P * q / sumI W)]
        omega
    have e3 : decide (x * sumI W - P * q ≤ -sumI W) = false := decide_eq_false (by omega)
    have e4 : decide (x * sumI W - P * q ≥ sumI W) = false := decide_eq_false (by omega)
    simp (maxDischargeDepth := 30) only [AMS, AMH, ↓reduceIte, Nat.reduceLT, Nat.reduceEqDiff, Nat.reduceAdd, Nat.reduceMul, reduceCtorEq, decide_true, decide_false, Nat.reduceLeDiff, Int.reduceNe, Int.reduceEq, ne_eq, not_false_eq_true, and_self, bs_22, fp_26_0, fp_26_1, fp_26_2, fp_72_3, ix_22, ix_23, ix_24, ld_22, ld_23, ld_24, ld_26, ld_3, ld_41, ld_72, len_22, len_23, part_3, part_41, part_72, size_22, size_23, size_24, size_26, size_3, size_41, size_72, und_22, und_23, und_24, zero_22, zero_23, zero_24, zero_26, f6.ok, g1, g2, g3, g4, g9, g11, g13, g15, g16, g17, g18, lt_t hkl, hkl, Nat.mul_one, rrL, eL, e1, e2', w1]
    refine W_draw [(true, 0), (true, 1), (true, 2), (true, 3), (true, 4), (true, 5), (true, 6), (true, 7), (true, 8), (true, 9), (true, 10), (true, 11), (true, 12), (true, 13)] (by kernel_rfl) ?_
    simp (maxDischargeDepth := 30) only [AMS, AMH, ↓reduceIte, Nat.reduceLT, Nat.reduceEqDiff, Nat.reduceAdd, Nat.reduceMul, reduceCtorEq, decide_true, decide_false, Nat.reduceLeDiff, Int.reduceNe, Int.reduceEq, ne_eq, not_false_eq_true, and_self, AMR, bs_22, fp_26_0, fp_26_1, fp_26_2, fp_72_3, ix_22, ix_23, ix_24, ld_22, ld_23, ld_24, ld_26, ld_3, ld_41, ld_72, len_22, len_23, part_3, part_41, part_72, size_22, size_23, size_24, size_26, size_3, size_41, size_72, und_22, und_23, und_24, zero_22, zero_23, zero_24, zero_26, f6.ok, g9, g13, g15, g16, g18, hkl, Nat.mul_one, rrL, rrW, eL, eW, w2, w3, w4, w5, e3, e4, i_next hkl (by omega : s.offs.length ≤ 1000)]
    refine ih (s.offs.length - (k + 1)) _ _ (by omega) ?_
    exact ⟨k + 1, by omega, rfl, by simp [upd_at, g1], by simp [upd_at, g2], by simp [upd_at, g3], by simp [upd_at, g4], by simp [upd_at, g9], by simp [upd_at, g11], by simp [upd_at, g13], by simp [upd_at, g15], by simp [upd_at, g16], by simp [upd_at], by simp [upd_at], rfl⟩
  · have hkE : k = s.offs.length := by omega
    subst hkE
    rw [List.take_of_length_le (by omega), hsum] at g17
    clear ih
    have fX : Fr hw (((hw.alloc (.row [.slice none 0 0, .slice none 0 0, .slice none 0 0] 0 true)).set hw.next (.row [.slice p1 s.offs.length c1, .slice p2 s.boards.length c2, .slice (some ⟨bt, ot, spt⟩) s.tars.length c3] 0 true)).set hw.next (.row [.slice p1 s.offs.length c1, .slice none 0 0, .slice (some ⟨bt, ot, spt⟩) s.tars.length c3] 0 true)) := (((Fr.refl f6.ok).alloc _).set (Nat.le_refl _) (by simp) _).set (Nat.le_refl _) (by simp) _
    have gX1 : (((hw.alloc (.row [.slice none 0 0, .slice none 0 0, .slice none 0 0] 0 true)).set hw.next (.row [.slice p1 s.offs.length c1, .slice p2 s.boards.length c2, .slice (some ⟨bt, ot, spt⟩) s.tars.length c3] 0 true)).set hw.next (.row [.slice p1 s.offs.length c1, .slice none 0 0, .slice (some ⟨bt, ot, spt⟩) s.tars.length c3] 0 true)).get hw.next = some (.row [.slice p1 s.offs.length c1, .slice none 0 0, .slice (some ⟨bt, ot, spt⟩) s.tars.length c3] 0 true) := Heap.get_set_self _ _ _
    have nX : (((hw.alloc (.row [.slice none 0 0, .slice none 0 0, .slice none 0 0] 0 true)).set hw.next (.row [.slice p1 s.offs.length c1, .slice p2 s.boards.length c2, .slice (some ⟨bt, ot, spt⟩) s.tars.length c3] 0 true)).set hw.next (.row [.slice p1 s.offs.length c1, .slice none 0 0, .slice (some ⟨bt, ot, spt⟩) s.tars.length c3] 0 true)).next = hw.next + 1 := by simp
    simp (maxDischargeDepth := 30) only [AMS, AMH, ↓reduceIte, Nat.reduceLT, Nat.reduceEqDiff, Nat.reduceAdd, Nat.reduceMul, reduceCtorEq, decide_true, decide_false, Nat.reduceLeDiff, Int.reduceNe, Int.reduceEq, ne_eq, not_false_eq_true, and_self, bs_22, fp_26_0, fp_26_1, fp_26_2, fp_72_3, ix_22, ix_23, ix_24, ld_22, ld_23, ld_24, ld_26, ld_3, ld_41, ld_72, len_22, len_23, part_3, part_41, part_72, size_22, size_23, size_24, size_26, size_3, size_41, size_72, und_22, und_23, und_24, zero_22, zero_23, zero_24, zero_26, f6.ok, g1, g2, g3, g4, g9, g11, g13, g17, g18, lt_f, r6, List.set_cons_succ, List.set_cons_zero]
    generalize (((hw.alloc (.row [.slice none 0 0, .slice none 0 0, .slice none 0 0] 0 true)).set hw.next (.row [.slice p1 s.offs.length c1, .slice p2 s.boards.length c2, .slice (some ⟨bt, ot, spt⟩) s.tars.length c3] 0 true)).set hw.next (.row [.slice p1 s.offs.length c1, .slice none 0 0, .slice (some ⟨bt, ot, spt⟩) s.tars.length c3] 0 true)) = hX at fX gX1 nX ⊢
    have f7 := f6.trans fX
    have r7 := fX.row' f6.ok r6
    have LLX := LL.fr f6.ok fX
    have LMX := LM.fr f6.ok fX
    have nhw : h.next ≤ hw.next := f6.next
    have nhr : h.next < hw.next := row_lt f6.ok r6
    refine W_loop s.boards.length (fun m' f h' => ∃ i BV, i ≤ s.boards.length ∧ m' = s.boards.length - i ∧ f 1 = .int .i64 u ∧ f 2 = .slice p4 l.length c4 ∧ f 3 = .int .i64 w ∧ f 4 = .pointer (some ⟨h.next, 0, none⟩) ∧ f 9 = .slice pL s.offs.length cL ∧ f 11 = .slice pM s.offs.length cM ∧ f 13 = .int .i64 P ∧ f 17 = .int .i64 P ∧ f 20 = .pointer (some ⟨hw.next, 0, none⟩) ∧ f 22 = .int .i64 i ∧
        h'.get hw.next = some (.row [.slice p1 s.offs.length c1, BV, .slice (some ⟨bt, ot, spt⟩) s.tars.length c3] 0 true) ∧
        SL hX.next h' BV ((ownB (w : Int) (s.boards.take i) (l.take i)).flatMap Board.cells) 5 (ownB (w : Int) (s.boards.take i) (l.take i)).length ∧ SL hX.next h' (f 21) ((ownH (w : Int) (s.boards.take i) (l.take i)).flatMap ints) 1 (ownB (w : Int) (s.boards.take i) (l.take i)).length ∧ (∀ x, blkOf BV = some x → blkOf (f 21) ≠ some x) ∧
        Fr hw h' ∧ hX.next ≤ h'.next)
      ⟨0, .slice none 0 0, by omega, by omega, by simp [upd_at, g1], by simp [upd_at, g2], by simp [upd_at, g3], by simp [upd_at, g4], by simp [upd_at, g9], by simp [upd_at, g11], by simp [upd_at, g13], by simp [upd_at, g17], by simp [upd_at], by simp [upd_at], gX1, SL.nil hX.next hX 5, by simpa [upd_at, ownH, ownB] using SL.nil hX.next hX 1, by simp [blkOf], fX, Nat.le_refl _⟩ ?_
    clear gX1 g1 g2 g3 g4 g9 g11 g13 g15 g16 g17 g18 LLX LMX r7 f7 fX
    rintro m' f h' ⟨i, BV, hi, rfl, g1, g2, g3, g4, g9, g11, g13, g17, g20, g22, gX, qB, qH, hne, fr, nn'⟩ ih
    have k' := fr.ok
    have fh := f6.trans fr
    have r' := fr.row' f6.ok r6
    have rX' : rowAt h' hw.next = some [.slice p1 s.offs.length c1, BV, .slice (some ⟨bt, ot, spt⟩) s.tars.length c3] := by unfold rowAt; rw [gX]; rfl
    by_cases hil : i < s.boards.length
    · obtain ⟨B, gB⟩ : ∃ x, s.boards[i]? = some x := ⟨_, List.getElem?_eq_getElem hil⟩
      have hil' : i < l.length := by omega
      obtain ⟨y, gy⟩ : ∃ x, l[i]? = some x := ⟨_, List.getElem?_eq_getElem hil'⟩
      rcases x2 with hx | ⟨b2, o2, sp2, row2, rfl, rr2, x2⟩
      · rw [hx] at hil; simp at hil
      obtain ⟨b4, o4, sp4, row4, rfl, rr4, e4⟩ := hv'.cell gy
      have eB : take? row2 (o2 + i * 5) 5 = some B.cells := (x2 _ _ gB).1
      have kb4 : row2[o2 + i * 5 + 4]? = some (.int .i64 B.ow) := (x2 _ _ gB).2 4 (by omega)
      have l2 := row_lt hk rr2
      have l4 := row_lt hk rr4
      have rr2' := fh.row' hk rr2
      have rr4' := fh.row' hk rr4
      have kcb : B.cells.all selfC = true := rfl
      have st := own_snoc (k := (w : Int)) gB gy
      cases hown : (B.ow == (w : Int)) with
      | false =>
        rw [hown] at st
        simp only [Bool.false_eq_true, if_false, List.append_nil] at st
        simp (maxDischargeDepth := 30) only [AMS, AMH, ↓reduceIte, Nat.reduceLT, Nat.reduceEqDiff, Nat.reduceAdd, Nat.reduceMul, reduceCtorEq, decide_true, decide_false, Nat.reduceLeDiff, Int.reduceNe, Int.reduceEq, ne_eq, not_false_eq_true, and_self, bs_22, fp_26_0, fp_26_1, fp_26_2, fp_72_3, ix_22, ix_23, ix_24, ld_22, ld_23, ld_24, ld_26, ld_3, ld_41, ld_72, len_22, len_23, part_3, part_41, part_72, size_22, size_23, size_24, size_26, size_3, size_41, size_72, und_22, und_23, und_24, zero_22, zero_23, zero_24, zero_26, k', g1, g2, g3, g4, g20, g22, r', lt_t hil, hil, rr2', kb4, hown, i_next hil (by omega : s.boards.length ≤ 1000)]
        refine ih (s.boards.length - (i + 1)) _ _ (by omega) ?_
        exact ⟨i + 1, BV, by omega, rfl, by simp [upd_at, g1], by simp [upd_at, g2], by simp [upd_at, g3], by simp [upd_at, g4], by simp [upd_at, g9], by simp [upd_at, g11], by simp [upd_at, g13], by simp [upd_at, g17], by simp [upd_at, g20], by simp [upd_at], gX, by rw [st.1]; exact qB, by rw [st.1, st.2]; simpa [upd_at] using qH, by simpa [upd_at] using hne, fr, nn'⟩
      | true =>
        rw [hown] at st
        simp only [if_true] at st
        generalize hnn : (ownB (w : Int) (s.boards.take i) (l.take i)).length = n at qB qH
        have n4 : n ≤ 1000 := by have := own_le (w : Int) (s.boards.take i) (l.take i); rw [List.length_take] at this; omega
        have fa : Fr h' (h'.alloc (.row B.cells 5 true)) := (Fr.refl k').alloc _
        have fbb : Fr h' ((h'.alloc (.row B.cells 5 true)).alloc (.row [.int .i64 y] 1 true)) := fa.alloc _
        have nC : ((h'.alloc (.row B.cells 5 true)).alloc (.row [.int .i64 y] 1 true)).next = h'.next + 2 := by simp
        have qB3 := qB.fr k' fbb
        have qH3 := qH.fr k' fbb
        have blB := fun b hb => qB.blk_lt k' (b := b) hb
        have blH := fun b hb => qH.blk_lt k' (b := b) hb
        have rlo : rowAt ((h'.alloc (.row B.cells 5 true)).alloc (.row [.int .i64 y] 1 true)) h'.next = some B.cells := by rw [rowAt_old _ (by simp), rowAt_new]
        have rhi : ((h'.alloc (.row B.cells 5 true)).alloc (.row [.int .i64 y] 1 true)).get (h'.next + 1) = some (.row [.int .i64 y] 1 true) := get_at _ (by simp)
        have ra3 := fa.row' k' r'
        have raX := fa.row' k' rX'
        have ra2 := fa.row' k' rr2'
        have ra4 := fa.row' k' rr4'
        have rc3 := fbb.row' k' r'
        have rcX := fbb.row' k' rX'
        have rc2 := fbb.row' k' rr2'
        have rc4 := fbb.row' k' rr4'
        have gcX := fbb.get' k' gX
        have kC := fbb.ok
        obtain ⟨h8, e8, q8, k8, n8, g8⟩ := append_N (ts := []) (N := hX.next) app_23 kC (by omega) (by omega) qB3 (x := .slice (some ⟨h'.next, 0, some 5⟩) 1 1) (new := B.cells) (m := 0) rfl (by
          show obind (rowAt _ h'.next) (fun cells => take? cells 0 (1 * 5)) = _
          rw [rlo]; rfl) rfl rfl (by omega)
        have keep8 : ∀ j, j < hX.next → h8.get j = ((h'.alloc (.row B.cells 5 true)).alloc (.row [.int .i64 y] 1 true)).get j := fun j hj => g8 j (by omega) (fun hc => by have := (blB _ hc).1; omega)
        have at8 : ∀ j L, j < hX.next → rowAt ((h'.alloc (.row B.cells 5 true)).alloc (.row [.int .i64 y] 1 true)) j = some L → rowAt h8 j = some L := fun j L hj hr => by unfold rowAt; rw [keep8 j hj]; exact hr
        have rX8 := at8 _ _ (by omega) rcX
        have r38 := at8 _ _ (by omega) rc3
        have r28 := at8 _ _ (by omega) rc2
        have r48 := at8 _ _ (by omega) rc4
        have gX8 : h8.get hw.next = some (.row [.slice p1 s.offs.length c1, BV, .slice (some ⟨bt, ot, spt⟩) s.tars.length c3] 0 true) := by rw [keep8 _ (by omega)]; exact gcX
        have gb8 : h8.get (h'.next + 1) = some (.row [.int .i64 y] 1 true) := by rw [g8 _ (by omega) (fun hc => by have := (blB _ hc).2; omega)]; exact rhi
        have rhi8 : rowAt h8 (h'.next + 1) = some [.int .i64 y] := by unfold rowAt; rw [gb8]; rfl
        have qH8 : SL hX.next h8 (f 21) ((ownH (w : Int) (s.boards.take i) (l.take i)).flatMap ints) 1 n := qH3.keep fun b hb => g8 b (by have := (blH b hb).2; omega) (fun hc => hne b hc hb)
        obtain ⟨h9, e9, q9, k9, n9, g9'⟩ := append_N (ts := []) (N := hX.next) app_22 k8 (by omega) (by omega) qH8 (x := .slice (some ⟨h'.next + 1, 0, some 1⟩) 1 1) (new := [.int .i64 y]) (m := 0) rfl (by
          show obind (rowAt _ (h'.next + 1)) (fun cells => take? cells 0 (1 * 1)) = _
          rw [rhi8]; rfl) rfl rfl (by omega)
        have keep9 : ∀ j, j < hX.next → h9.get j = h8.get j := fun j hj => g9' j (by omega) (fun hc => by have := (blH _ hc).1; omega)
        have at9 : ∀ j L, j < hX.next → rowAt h8 j = some L → rowAt h9 j = some L := fun j L hj hr => by unfold rowAt; rw [keep9 j hj]; exact hr
        have rX9 := at9 _ _ (by omega) rX8
        have r39 := at9 _ _ (by omega) r38
        have r29 := at9 _ _ (by omega) r28
        have r49 := at9 _ _ (by omega) r48
        have gX9 : h9.get hw.next = some (.row [.slice p1 s.offs.length c1, BV, .slice (some ⟨bt, ot, spt⟩) s.tars.length c3] 0 true) := by rw [keep9 _ (by omega)]; exact gX8
        have q8' : SL hX.next h9 (sliceTo 5 (n + (0 + 1)) (n + (0 + 1)) ((h'.alloc (.row B.cells 5 true)).alloc (.row [.int .i64 y] 1 true)).next) ((ownB (w : Int) (s.boards.take i) (l.take i)).flatMap Board.cells ++ B.cells) 5 (n + (0 + 1)) := q8.keep fun b hb => g9' b (by simp [sliceTo, blkOf] at hb; omega) (fun hc => by simp [sliceTo, blkOf] at hb; have := (blH _ hc).2; omega)
        have f9 : Fr hw h9 := ⟨k9, by have := fr.next; omega, fun j hj => by
          rw [keep9 j (by omega), keep8 j (by omega), fbb.get j (by have := fr.next; omega)]; exact fr.get j hj⟩
        have f10 : Fr hw (h9.set hw.next (.row [.slice p1 s.offs.length c1, (.slice (some ⟨h'.next + 1 + 1, 0, some 5⟩) (n + 1) (n + 1)), .slice (some ⟨bt, ot, spt⟩) s.tars.length c3] 0 true)) := f9.set (Nat.le_refl _) (by omega) _
        have nC' : ((h'.alloc (.row B.cells 5 true)).alloc (.row [.int .i64 y] 1 true)).next = h'.next + 1 + 1 := by simp
        rw [nC'] at q8' e8
        simp only [sliceTo, Nat.zero_add] at e8 e9 q9 q8'
        simp (maxDischargeDepth := 30) only [AMS, AMH, ↓reduceIte, Nat.reduceLT, Nat.reduceEqDiff, Nat.reduceAdd, Nat.reduceMul, reduceCtorEq, decide_true, decide_false, Nat.reduceLeDiff, Int.reduceNe, Int.reduceEq, ne_eq, not_false_eq_true, and_self, bs_22, fp_26_0, fp_26_1, fp_26_2, fp_72_3, ix_22, ix_23, ix_24, ld_22, ld_23, ld_24, ld_26, ld_3, ld_41, ld_72, len_22, len_23, part_3, part_41, part_72, size_22, size_23, size_24, size_26, size_3, size_41, size_72, und_22, und_23, und_24, zero_22, zero_23, zero_24, zero_26, k', g1, g2, g3, g4, g20, g22, r', lt_t hil, hil, rr2', kb4, hown]
        refine W_draw [(true, 0), (true, 1), (true, 2), (true, 3), (true, 4), (true, 5), (true, 6), (true, 7), (true, 9), (true, 10), (true, 11), (true, 12), (true, 13), (true, 14), (true, 8), (false, 13), (false, 14), (true, 16), (true, 15), (true, 17), (true, 18)] (by kernel_rfl) ?_
        simp (maxDischargeDepth := 30) only [AMS, AMH, ↓reduceIte, Nat.reduceLT, Nat.reduceEqDiff, Nat.reduceAdd, Nat.reduceMul, reduceCtorEq, decide_true, decide_false, Nat.reduceLeDiff, Int.reduceNe, Int.reduceEq, ne_eq, not_false_eq_true, and_self, AMR, bs_22, fp_26_0, fp_26_1, fp_26_2, fp_72_3, ix_22, ix_23, ix_24, ld_22, ld_23, ld_24, ld_26, ld_3, ld_41, ld_72, len_22, len_23, part_3, part_41, part_72, size_22, size_23, size_24, size_26, size_3, size_41, size_72, und_22, und_23, und_24, zero_22, zero_23, zero_24, zero_26, k', g1, g2, g3, g4, g20, g22, r', hil, hil', Nat.mul_one, rX', raX, rcX, rX8, rX9, ra3, rc3, r38, r39, rr2', ra2, rc2, r28, r29, rr4', ra4, rc4, r48, r49, eB, e4, kcb, bs_23, bs_22 (cells_int _ _), e8, k8, e9, k9, gX9, gb8, List.set_cons_succ, List.set_cons_zero, i_next hil (by omega : s.boards.length ≤ 1000)]
        refine ih (s.boards.length - (i + 1)) _ _ (by omega) ?_
        have ln1 : (ownB (w : Int) (s.boards.take (i + 1)) (l.take (i + 1))).length = n + 1 := by rw [st.1, List.length_append, hnn]; rfl
        refine ⟨i + 1, (.slice (some ⟨h'.next + 1 + 1, 0, some 5⟩) (n + 1) (n + 1)), by omega, rfl, by simp [upd_at, g1], by simp [upd_at, g2], by simp [upd_at, g3], by simp [upd_at, g4], by simp [upd_at, g9], by simp [upd_at, g11], by simp [upd_at, g13], by simp [upd_at, g17], by simp [upd_at, g20], by simp [upd_at], Heap.get_set_self _ _ _, ?_, ?_, ?_, f10, by rw [Heap.next_set]; omega⟩
        · rw [ln1, st.1, List.flatMap_append]
          have q : SL hX.next (h9.set hw.next (.row [.slice p1 s.offs.length c1, (.slice (some ⟨h'.next + 1 + 1, 0, some 5⟩) (n + 1) (n + 1)), .slice (some ⟨bt, ot, spt⟩) s.tars.length c3] 0 true)) _ _ 5 (n + 1) := q8'.keep fun b hb => Heap.get_set_ne _ _ (by simp [blkOf] at hb; omega)
          simpa using q
        · rw [ln1, st.2, List.flatMap_append]
          have q : SL hX.next (h9.set hw.next (.row [.slice p1 s.offs.length c1, (.slice (some ⟨h'.next + 1 + 1, 0, some 5⟩) (n + 1) (n + 1)), .slice (some ⟨bt, ot, spt⟩) s.tars.length c3] 0 true)) _ _ 1 (n + 1) := q9.keep fun b hb => Heap.get_set_ne _ _ (by simp [blkOf] at hb; omega)
          simpa [upd_at, ints] using q
        · intro x hx
          simp [upd_at, blkOf] at hx ⊢
          omega
    · have hiE : i = s.boards.length := by omega
      subst hiE
      rw [List.take_of_length_le (Nat.le_refl _), List.take_of_length_le (by omega)] at qB qH
      obtain ⟨pB, cB, rfl⟩ := qB.value
      obtain ⟨pH, cH, eH⟩ := qH.value
      rw [eH] at qH
      have LL' := LL.fr f6.ok fr
      have LM' := LM.fr f6.ok fr
      obtain ⟨z, gz⟩ : ∃ x, X[w]? = some x := ⟨_, List.getElem?_eq_getElem (by omega)⟩
      have gl := losesL_get (t := T) (bs := s.boards) (hs := l) gz
      have ab := alone_b (k := (w : Int)) tok (by omega) hq
      have zb := sb0 z (List.mem_of_getElem? gz)
      have ww : IntKind.i64.wrap (z - alone T s.boards l w) = z - alone T s.boards l w := wrap64 (by omega) (by omega)
      have w0 : IntKind.i64.wrap (z - 0) = z := by rw [wrap64 (by omega) (by omega)]; omega
      obtain ⟨bL, oL, spL, rowL, rfl, rrL, eL⟩ := LL'.cell gz
      obtain ⟨bM, oM, spM, rowM, rfl, rrM, eM⟩ := LM'.cell gl
      have PP : (P == P) = true := by simp
      by_cases h0 : (ownB (w : Int) s.boards l).length = 0
      · have z0 : z = 0 := by
          have := lnone h0
          rw [gz] at this; simpa using this
        have a0 := alone_none tok h0
        rw [a0] at eM
        have dd : decide (((0 : Nat) : Int) > 0) = false := rfl
        have zz : (z == 0) = true := by rw [z0]; rfl
        have ez : (z - 0 == z) = true := by simp
        rw [h0] at eH
        simp (maxDischargeDepth := 30) only [AMS, AMH, ↓reduceIte, Nat.reduceLT, Nat.reduceEqDiff, Nat.reduceAdd, Nat.reduceMul, reduceCtorEq, decide_true, decide_false, Nat.reduceLeDiff, Int.reduceNe, Int.reduceEq, ne_eq, not_false_eq_true, and_self, bs_22, fp_26_0, fp_26_1, fp_26_2, fp_72_3, ix_22, ix_23, ix_24, ld_22, ld_23, ld_24, ld_26, ld_3, ld_41, ld_72, len_22, len_23, part_3, part_41, part_72, size_22, size_23, size_24, size_26, size_3, size_41, size_72, und_22, und_23, und_24, zero_22, zero_23, zero_24, zero_26, k', g1, g2, g3, g4, g9, g11, g13, g17, g20, g22, r', lt_f, eH, dd]
        refine W_draw [(true, 0), (true, 1), (true, 2), (true, 3), (true, 4), (true, 5), (true, 6), (true, 7), (true, 8), (true, 9), (true, 10), (true, 11), (true, 12), (true, 13), (true, 14), (true, 15), (true, 16), (true, 17), (true, 18), (true, 19), (true, 20), (true, 21), (true, 22), (true, 23), (true, 24), (true, 25), (true, 26), (true, 27), (true, 28), (true, 29), (true, 30), (true, 31)] (by kernel_rfl) ?_
        simp (maxDischargeDepth := 30) only [AMS, AMH, ↓reduceIte, Nat.reduceLT, Nat.reduceEqDiff, Nat.reduceAdd, Nat.reduceMul, reduceCtorEq, decide_true, decide_false, Nat.reduceLeDiff, Int.reduceNe, Int.reduceEq, ne_eq, not_false_eq_true, and_self, AMR, bs_22, fp_26_0, fp_26_1, fp_26_2, fp_72_3, ix_22, ix_23, ix_24, ld_22, ld_23, ld_24, ld_26, ld_3, ld_41, ld_72, len_22, len_23, part_3, part_41, part_72, size_22, size_23, size_24, size_26, size_3, size_41, size_72, und_22, und_23, und_24, zero_22, zero_23, zero_24, zero_26, k', g3, g9, g11, g13, g17, eH, dd, PP, hwl, Nat.mul_one, rrL, eL, rrM, eM, zz, w0, ez, boolIs_undef, known_23]
        exact ⟨trivial, fh⟩
      · have h1 : 1 ≤ (ownB (w : Int) s.boards l).length := by omega
        obtain ⟨ok', hl'⟩ := own_ok ok hl h1
        have dd : decide ((((ownB (w : Int) s.boards l).length : Nat) : Int) > 0) = true := decide_eq_true (by omega)
        have LB : LS h' (.slice pB (ownB (w : Int) s.boards l).length cB) (ownB (w : Int) s.boards l) Board.cells 5 := SL.ls Board.len qB
        have LH : LS h' (.slice pH (ownB (w : Int) s.boards l).length cH) (ownH (w : Int) s.boards l) ints 1 := SL.ls ints_len (by rw [own_len]; exact qH)
        have hsX : IsSheet h' (.slice p1 s.offs.length c1) (.slice pB (ownB (w : Int) s.boards l).length cB) (.slice (some ⟨bt, ot, spt⟩) s.tars.length c3) ⟨s.offs, ownB (w : Int) s.boards l, s.tars⟩ := ⟨(hs'.fr hk fh).offs, LB, (hs'.fr hk fh).tars⟩
        have ez : (z - alone T s.boards l w == z - alone T s.boards l w) = true := by simp
        simp (maxDischargeDepth := 30) only [AMS, AMH, ↓reduceIte, Nat.reduceLT, Nat.reduceEqDiff, Nat.reduceAdd, Nat.reduceMul, reduceCtorEq, decide_true, decide_false, Nat.reduceLeDiff, Int.reduceNe, Int.reduceEq, ne_eq, not_false_eq_true, and_self, bs_22, fp_26_0, fp_26_1, fp_26_2, fp_72_3, ix_22, ix_23, ix_24, ld_22, ld_23, ld_24, ld_26, ld_3, ld_41, ld_72, len_22, len_23, part_3, part_41, part_72, size_22, size_23, size_24, size_26, size_3, size_41, size_72, und_22, und_23, und_24, zero_22, zero_23, zero_24, zero_26, k', g1, g2, g3, g4, g9, g11, g13, g17, g20, g22, r', lt_f, eH, dd, rX']
        refine W_call (total_25 (s := ⟨s.offs, ownB (w : Int) s.boards l, s.tars⟩) (t := T) k' (by omega) hsX LH ok' hl' hT) ?_
        rintro _ hF ⟨rfl, frF⟩
        have fF := fh.trans frF
        have eAl : paid T (ownB (w : Int) s.boards l) (ownH (w : Int) s.boards l) = alone T s.boards l w := rfl
        have rrLF := frF.row' k' rrL
        have rrMF := frF.row' k' rrM
        simp (maxDischargeDepth := 30) only [AMS, AMH, ↓reduceIte, Nat.reduceLT, Nat.reduceEqDiff, Nat.reduceAdd, Nat.reduceMul, reduceCtorEq, decide_true, decide_false, Nat.reduceLeDiff, Int.reduceNe, Int.reduceEq, ne_eq, not_false_eq_true, and_self, bs_22, fp_26_0, fp_26_1, fp_26_2, fp_72_3, ix_22, ix_23, ix_24, ld_22, ld_23, ld_24, ld_26, ld_3, ld_41, ld_72, len_22, len_23, part_3, part_41, part_72, size_22, size_23, size_24, size_26, size_3, size_41, size_72, und_22, und_23, und_24, zero_22, zero_23, zero_24, zero_26, fF.ok, g3, g9, g11, g13, g17, n00, eAl]
        refine W_draw [(true, 0), (true, 1), (true, 2), (true, 3), (true, 4), (true, 5), (true, 6), (true, 7), (true, 8), (true, 9), (true, 10), (true, 11), (true, 12), (true, 13), (true, 14), (true, 15), (true, 16), (true, 17), (true, 18), (true, 19), (true, 20), (true, 21), (true, 22), (true, 23), (true, 24), (true, 25), (true, 26), (true, 27), (true, 28), (true, 29), (true, 30), (true, 31)] (by kernel_rfl) ?_
        simp (maxDischargeDepth := 30) only [AMS, AMH, ↓reduceIte, Nat.reduceLT, Nat.reduceEqDiff, Nat.reduceAdd, Nat.reduceMul, reduceCtorEq, decide_true, decide_false, Nat.reduceLeDiff, Int.reduceNe, Int.reduceEq, ne_eq, not_false_eq_true, and_self, AMR, bs_22, fp_26_0, fp_26_1, fp_26_2, fp_72_3, ix_22, ix_23, ix_24, ld_22, ld_23, ld_24, ld_26, ld_3, ld_41, ld_72, len_22, len_23, part_3, part_41, part_72, size_22, size_23, size_24, size_26, size_3, size_41, size_72, und_22, und_23, und_24, zero_22, zero_23, zero_24, zero_26, fF.ok, g3, g9, g11, g13, g17, eH, dd, PP, hwl, Nat.mul_one, rrLF, eL, rrMF, eM, ww, ez, boolIs_undef, known_23]
        exact ⟨trivial, fF⟩
end Go.Am
