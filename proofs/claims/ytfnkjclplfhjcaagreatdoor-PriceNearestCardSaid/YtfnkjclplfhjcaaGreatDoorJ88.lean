/- Parts 88 of the abstract machine over this program, joined: what each part says stands at its head. -/
import Derived.Test.YtfnkjclplfhjcaaGreatDoorJ87
set_option linter.unusedSimpArgs false
set_option linter.unusedVariables false
/- The abstract machine, part 88: contracts: Change by the specification; the statement PriceChanges. -/
namespace Go.Am
open Go Go.Proofs

set_option maxRecDepth 10000 in
set_option maxHeartbeats 4000000 in
theorem change_49 {h : Heap} (hk : HOK h) (hp : 0 < h.next) {a b c v : Value} {s : Sheet} {l : List Int} {i j : Nat} {T U : Tar} (hs : IsSheet h a b c s) (hv : LS h v l ints 1) (ok : s.ok = true) (hl : hoursOK s.boards l = true) (hT : s.tars[i]? = some T) (hU : s.tars[j]? = some U) :
    CW CC 49 [.agg ⟨[a, b, c]⟩, .int .i64 i, .int .i64 j, v] h fun r h' => (∃ out met, (if met = true then Best (Meets T U s.boards l) T.coins out else out = 0 ∧ Nobody (Meets T U s.boards l)) ∧ r = .tuple ⟨[.int .i64 out, .bool met]⟩) ∧ Fr h h' := by
  have hlen := Sheet.ok_len ok
  have hil := (List.getElem?_eq_some_iff.1 hT).1
  have hjl := (List.getElem?_eq_some_iff.1 hU).1
  have hll := (hoursOK_at hl).1
  have tok := Sheet.ok_tars ok T (List.mem_of_getElem? hT)
  have uok := Sheet.ok_tars ok U (List.mem_of_getElem? hU)
  have tk := Tar.ok_at tok
  have hqT := qtys_b ok hl T
  have hqU := qtys_b ok hl U
  have hs' := hs
  have hv' := hv
  obtain ⟨p1, c1, rfl, _⟩ := hs.offs.open
  obtain ⟨p2, c2, rfl, _⟩ := hs.boards.open
  obtain ⟨p3, c3, rfl, x3⟩ := hs.tars.open
  obtain ⟨p4, c4, rfl, _⟩ := hv.open
  obtain ⟨bt, ot, spt, rowt, hp3, rrt, et⟩ := LS.at (n := 0) (c := 0) x3 hT
  obtain ⟨bu, ou, spu, rowu, hp3', rru, eu⟩ := LS.at (n := 0) (c := 0) x3 hU
  subst hp3
  simp only [Option.some.injEq, Addr.mk.injEq] at hp3'
  obtain ⟨rfl, rfl, rfl⟩ := hp3'
  rw [rrt] at rru
  obtain rfl : rowt = rowu := by simpa using rru
  have kt1 : rowt[ot + i * 5 + 1]? = some (.int .i64 T.coins) := by
    rcases x3 with hx | ⟨bb, oo, spp, roww, he, hr, hx⟩
    · rw [hx] at hil; simp at hil
    · simp at he
      obtain ⟨rfl, rfl, rfl⟩ := he
      rw [rrt] at hr; simp at hr; subst hr
      exact (hx _ _ hT).2 1 (by omega)
  refine CW_in Tryz.f49 (by kernel_rfl) (by kernel_rfl) rfl rfl ?_
  simp only [Tryz.f49]
  have f1 : Fr h (h.alloc (.row [.slice p1 s.offs.length c1, .slice p2 s.boards.length c2, .slice (some ⟨bt, ot, spt⟩) s.tars.length c3] 0 true)) := (Fr.refl hk).alloc _
  have r1 : rowAt (h.alloc (.row [.slice p1 s.offs.length c1, .slice p2 s.boards.length c2, .slice (some ⟨bt, ot, spt⟩) s.tars.length c3] 0 true)) h.next = some [.slice p1 s.offs.length c1, .slice p2 s.boards.length c2, .slice (some ⟨bt, ot, spt⟩) s.tars.length c3] := rowAt_new _ _ _ _
  have rrt1 := f1.row' hk rrt
  simp (maxDischargeDepth := 30) only [AMS, AMH, ↓reduceIte, Nat.reduceLT, Nat.reduceEqDiff, Nat.reduceAdd, Nat.reduceMul, reduceCtorEq, decide_true, decide_false, Nat.reduceLeDiff, Int.reduceNe, Int.reduceEq, ne_eq, not_false_eq_true, and_self, fp_26_2, fp_41_1, ix_24, ld_24, ld_26, ld_3, ld_41, part_41, size_24, size_3, size_41, und_24, und_3, zero_24, zero_3, zero_41, hk]
  generalize (h.alloc (.row [.slice p1 s.offs.length c1, .slice p2 s.boards.length c2, .slice (some ⟨bt, ot, spt⟩) s.tars.length c3] 0 true)) = h1 at f1 r1 rrt1 ⊢
  have kcu : U.cells.all selfC = true := rfl
  refine W_draw [(true, 0), (true, 1), (true, 2), (true, 3), (true, 4), (true, 5), (true, 6), (true, 8), (true, 9), (true, 10), (true, 11), (true, 12), (true, 13), (true, 7), (false, 9), (false, 13), (true, 14), (true, 15)] (by kernel_rfl) ?_
  simp (maxDischargeDepth := 30) only [AMS, AMH, ↓reduceIte, Nat.reduceLT, Nat.reduceEqDiff, Nat.reduceAdd, Nat.reduceMul, reduceCtorEq, decide_true, decide_false, Nat.reduceLeDiff, Int.reduceNe, Int.reduceEq, ne_eq, not_false_eq_true, and_self, fp_26_2, fp_41_1, ix_24, ld_24, ld_26, ld_3, ld_41, part_41, size_24, size_3, size_41, und_24, und_3, zero_24, zero_3, zero_41, f1.ok, r1, hil, hjl, rrt1, eu, kt1]
  refine W_callP (total_62 (t := U) f1.ok (by have := f1.next; omega) (hs.fr hk f1) (hv.fr hk f1) uok hll (by omega) fun x hx => by have := hqU x hx; omega) ?_
  rintro _ h2 ⟨rfl, fr2⟩
  have f2 := f1.trans fr2
  have r2 := fr2.row' f1.ok r1
  have rrt2 := f2.row' hk rrt
  simp (maxDischargeDepth := 30) only [AMS, AMH, ↓reduceIte, Nat.reduceLT, Nat.reduceEqDiff, Nat.reduceAdd, Nat.reduceMul, reduceCtorEq, decide_true, decide_false, Nat.reduceLeDiff, Int.reduceNe, Int.reduceEq, ne_eq, not_false_eq_true, and_self, AMR, fp_26_2, fp_41_1, ix_24, ld_24, ld_26, ld_3, ld_41, part_41, size_24, size_3, size_41, und_24, und_3, zero_24, zero_3, zero_41, f2.ok, r2, hil, hjl, rrt2, eu, kt1, kcu]
  refine W_loop 501 (fun m' f h' => ∃ (k : Nat) (out : Int) (met : Bool), k ≤ 501 ∧ m' = 501 - k ∧ f 3 = .slice p4 l.length c4 ∧ f 4 = .pointer (some ⟨h.next, 0, none⟩) ∧ f 1 = .int .i64 i ∧ f 10 = .int .i64 (paid U s.boards l) ∧ f 11 = .int .i64 T.coins ∧ f 14 = .int .i64 k ∧ f 12 = .int .i64 out ∧ f 13 = .bool met ∧
      BestBelow (Meets T U s.boards l) T.coins k out met ∧ Fr h h' ∧ rowAt h' h.next = some [.slice p1 s.offs.length c1, .slice p2 s.boards.length c2, .slice (some ⟨bt, ot, spt⟩) s.tars.length c3])
    ⟨0, 0, false, by omega, by omega, by simp [upd_at, argsFn_at], by simp [upd_at], by simp [upd_at, argsFn_at], by simp [upd_at], by simp [upd_at], by simp [upd_at], by simp [upd_at], by simp [upd_at], BestBelow.zero _ _, f2, r2⟩ ?_
  clear f2 r2 rrt2 fr2 f1 r1 rrt1
  rintro m' f h' ⟨k, out, met, hk501, rfl, g3, g4, g1, g10, g11, g14, g12, g13, bb, fr, r'⟩ ih
  by_cases hkl : k < 501
  · have lt : decide ((k : Int) ≤ 500) = true := by simp; omega
    have wk : IntKind.i64.wrap ((k : Int) + 1) = ((k + 1 : Nat) : Int) := by rw [wrap64 (by omega) (by omega)]; omega
    have ek : ((k + 1 : Nat) : Int) = (k : Int) + 1 := by omega
    have k' := fr.ok
    have rrt' := fr.row' hk rrt
    have tl : T.cells.length = 5 := rfl
    have ta : allOne T.cells = true := rfl
    have hset : T.cells.set 1 (.int .i64 (k : Int)) = (T.coin k).cells := rfl
    have hok := Tar.coin_ok tok (n := k) (by omega) (by omega)
    simp (maxDischargeDepth := 30) only [AMS, AMH, ↓reduceIte, Nat.reduceLT, Nat.reduceEqDiff, Nat.reduceAdd, Nat.reduceMul, reduceCtorEq, decide_true, decide_false, Nat.reduceLeDiff, Int.reduceNe, Int.reduceEq, ne_eq, not_false_eq_true, and_self, fp_26_2, fp_41_1, ix_24, ld_24, ld_26, ld_3, ld_41, part_41, size_24, size_3, size_41, und_24, und_3, zero_24, zero_3, zero_41, k', g1, g3, g4, g10, g11, g14, lt, r', hil, rrt', et, tl, ta, hset]
    have fbh : Fr h' (((h'.alloc (.row [.int .i64 0, .int .i64 0, .int .i64 0, .int .i64 0, .bool false] 0 true)).set h'.next (.row T.cells 0 true)).set h'.next (.row (T.coin k).cells 0 true)) :=
      (((Fr.refl k').alloc _).set (Nat.le_refl _) (by simp) _).set (Nat.le_refl _) (by simp) _
    have rbt : rowAt (((h'.alloc (.row [.int .i64 0, .int .i64 0, .int .i64 0, .int .i64 0, .bool false] 0 true)).set h'.next (.row T.cells 0 true)).set h'.next (.row (T.coin k).cells 0 true)) h'.next = some (T.coin k).cells := rowAt_set_self _ _ _ _ _
    generalize (((h'.alloc (.row [.int .i64 0, .int .i64 0, .int .i64 0, .int .i64 0, .bool false] 0 true)).set h'.next (.row T.cells 0 true)).set h'.next (.row (T.coin k).cells 0 true)) = H at fbh rbt ⊢
    have fb := fr.trans fbh
    have rb := fbh.row' k' r'
    have kt : take? (T.coin k).cells 0 5 = some (T.coin k).cells := rfl
    simp (maxDischargeDepth := 30) only [AMS, AMH, ↓reduceIte, Nat.reduceLT, Nat.reduceEqDiff, Nat.reduceAdd, Nat.reduceMul, reduceCtorEq, decide_true, decide_false, Nat.reduceLeDiff, Int.reduceNe, Int.reduceEq, ne_eq, not_false_eq_true, and_self, fp_26_2, fp_41_1, ix_24, ld_24, ld_26, ld_3, ld_41, part_41, size_24, size_3, size_41, und_24, und_3, zero_24, zero_3, zero_41, fb.ok, rb, rbt, kt, g3, g4]
    refine W_call (total_62 (t := T.coin k) fb.ok (by have := fb.next; omega) (hs'.fr hk fb) (hv'.fr hk fb) hok hll (by omega) fun x hx => by have := hqT x hx; omega) ?_
    rintro _ h5 ⟨rfl, fr5⟩
    have f5 := fb.trans fr5
    have r5 := fr5.row' fb.ok rb
    cases hE : (paid (T.coin k) s.boards l == paid U s.boards l) with
    | false =>
      have hne : ¬ Meets T U s.boards l k := fun q => by unfold Meets at q; rw [q] at hE; simp at hE
      simp (maxDischargeDepth := 30) only [AMS, AMH, ↓reduceIte, Nat.reduceLT, Nat.reduceEqDiff, Nat.reduceAdd, Nat.reduceMul, reduceCtorEq, decide_true, decide_false, Nat.reduceLeDiff, Int.reduceNe, Int.reduceEq, ne_eq, not_false_eq_true, and_self, fp_26_2, fp_41_1, ix_24, ld_24, ld_26, ld_3, ld_41, part_41, size_24, size_3, size_41, und_24, und_3, zero_24, zero_3, zero_41, f5.ok, g1, g3, g4, g10, g11, g12, g13, g14, hE, boolIs_undef, wk]
      refine ih (501 - (k + 1)) _ _ (by omega) ?_
      exact ⟨k + 1, out, met, by omega, rfl, by simp [upd_at, g3], by simp [upd_at, g4], by simp [upd_at, g1], by simp [upd_at, g10], by simp [upd_at, g11], by simp [upd_at], by simp [upd_at, g12], by simp [upd_at, g13], by rw [ek]; exact bb.no hne, f5, r5⟩
    | true =>
      have heq : Meets T U s.boards l k := by unfold Meets; simpa using hE
      cases met with
      | false =>
        simp (maxDischargeDepth := 30) only [AMS, AMH, ↓reduceIte, Nat.reduceLT, Nat.reduceEqDiff, Nat.reduceAdd, Nat.reduceMul, reduceCtorEq, decide_true, decide_false, Nat.reduceLeDiff, Int.reduceNe, Int.reduceEq, ne_eq, not_false_eq_true, and_self, fp_26_2, fp_41_1, ix_24, ld_24, ld_26, ld_3, ld_41, part_41, size_24, size_3, size_41, und_24, und_3, zero_24, zero_3, zero_41, f5.ok, g1, g3, g4, g10, g11, g12, g13, g14, hE, boolIs_undef, wk]
        refine ih (501 - (k + 1)) _ _ (by omega) ?_
        exact ⟨k + 1, k, true, by omega, rfl, by simp [upd_at, g3], by simp [upd_at, g4], by simp [upd_at, g1], by simp [upd_at, g10], by simp [upd_at, g11], by simp [upd_at], by simp [upd_at], by simp [upd_at], by rw [ek]; exact bb.yes (by omega) heq (.inl rfl), f5, r5⟩
      | true =>
        have hout : 0 ≤ out ∧ out < k := ⟨bb.1, bb.2.1⟩
        cases hlt : decide (apart k T.coins < apart out T.coins) with
        | true =>
          have hlt' := of_decide_eq_true hlt
          simp (maxDischargeDepth := 30) only [AMS, AMH, ↓reduceIte, Nat.reduceLT, Nat.reduceEqDiff, Nat.reduceAdd, Nat.reduceMul, reduceCtorEq, decide_true, decide_false, Nat.reduceLeDiff, Int.reduceNe, Int.reduceEq, ne_eq, not_false_eq_true, and_self, fp_26_2, fp_41_1, ix_24, ld_24, ld_26, ld_3, ld_41, part_41, size_24, size_3, size_41, und_24, und_3, zero_24, zero_3, zero_41, f5.ok, g1, g3, g4, g10, g11, g12, g13, g14, hE, boolIs_undef, wk, apart_51 (k : Int) T.coins (by omega) (by omega), apart_51 out T.coins (by omega) (by omega), hlt]
          refine ih (501 - (k + 1)) _ _ (by omega) ?_
          exact ⟨k + 1, k, true, by omega, rfl, by simp [upd_at, g3], by simp [upd_at, g4], by simp [upd_at, g1], by simp [upd_at, g10], by simp [upd_at, g11], by simp [upd_at], by simp [upd_at], by simp [upd_at], by rw [ek]; exact bb.yes (by omega) heq (.inr hlt'), f5, r5⟩
        | false =>
          have hlt' := of_decide_eq_false hlt
          simp (maxDischargeDepth := 30) only [AMS, AMH, ↓reduceIte, Nat.reduceLT, Nat.reduceEqDiff, Nat.reduceAdd, Nat.reduceMul, reduceCtorEq, decide_true, decide_false, Nat.reduceLeDiff, Int.reduceNe, Int.reduceEq, ne_eq, not_false_eq_true, and_self, fp_26_2, fp_41_1, ix_24, ld_24, ld_26, ld_3, ld_41, part_41, size_24, size_3, size_41, und_24, und_3, zero_24, zero_3, zero_41, f5.ok, g1, g3, g4, g10, g11, g12, g13, g14, hE, boolIs_undef, wk, apart_51 (k : Int) T.coins (by omega) (by omega), apart_51 out T.coins (by omega) (by omega), hlt]
          refine ih (501 - (k + 1)) _ _ (by omega) ?_
          exact ⟨k + 1, out, true, by omega, rfl, by simp [upd_at, g3], by simp [upd_at, g4], by simp [upd_at, g1], by simp [upd_at, g10], by simp [upd_at, g11], by simp [upd_at], by simp [upd_at, g12], by simp [upd_at, g13], by rw [ek]; exact bb.less hlt', f5, r5⟩
  · have hkE : k = 501 := by omega
    subst hkE
    have lt : decide (((501 : Nat) : Int) ≤ 500) = false := by decide
    simp (maxDischargeDepth := 30) only [AMS, AMH, ↓reduceIte, Nat.reduceLT, Nat.reduceEqDiff, Nat.reduceAdd, Nat.reduceMul, reduceCtorEq, decide_true, decide_false, Nat.reduceLeDiff, Int.reduceNe, Int.reduceEq, ne_eq, not_false_eq_true, and_self, fp_26_2, fp_41_1, ix_24, ld_24, ld_26, ld_3, ld_41, part_41, size_24, size_3, size_41, und_24, und_3, zero_24, zero_3, zero_41, g14, g12, g13, lt]
    exact ⟨⟨out, met, bb.all, rfl⟩, fr⟩

set_option maxRecDepth 10000 in
set_option maxHeartbeats 4000000 in
theorem changes_10 {h : Heap} (hk : HOK h) (hp : 0 < h.next) {a b c v : Value} {s : Sheet} {l : List Int} (hs : IsSheet h a b c s) (hv : LS h v l ints 1) (one other : Int) :
    CW CC 10 [.agg ⟨[a, b, c]⟩, .int .i64 one, .int .i64 other, v] h fun r h' => r = .bool true ∧ Fr h h' := by
  have z00 : ((0 : Int) == 0) = true := rfl
  have z22 : ((2 : Int) == 2) = true := rfl
  have z55 : ((5 : Int) == 5) = true := rfl
  have hs' := hs
  have hv' := hv
  obtain ⟨p1, c1, rfl, _⟩ := hs.offs.open
  obtain ⟨p2, c2, rfl, _⟩ := hs.boards.open
  obtain ⟨p3, c3, rfl, x3⟩ := hs.tars.open
  obtain ⟨p4, c4, rfl, _⟩ := hv.open
  refine CW_in Tryz.f10 (by kernel_rfl) (by kernel_rfl) rfl rfl ?_
  simp only [Tryz.f10]
  have f1 : Fr h (h.alloc (.row [.slice p1 s.offs.length c1, .slice p2 s.boards.length c2, .slice p3 s.tars.length c3] 0 true)) := (Fr.refl hk).alloc _
  have r1 : rowAt (h.alloc (.row [.slice p1 s.offs.length c1, .slice p2 s.boards.length c2, .slice p3 s.tars.length c3] 0 true)) h.next = some [.slice p1 s.offs.length c1, .slice p2 s.boards.length c2, .slice p3 s.tars.length c3] := rowAt_new _ _ _ _
  obtain ⟨_, h2, e2, rfl, fr2⟩ := short_28 p1 p2 p3 s.offs.length c1 s.boards.length c2 s.tars.length c3 _ f1.ok
  have f2 := f1.trans fr2
  have r2 := fr2.row' f1.ok r1
  cases i1 : decide ((s.offs.length : Int) ≤ 5 ∧ (s.boards.length : Int) ≤ 6 ∧ (s.tars.length : Int) ≤ 5) with
  | false =>
    rw [i1] at e2
    simp (maxDischargeDepth := 30) only [AMS, AMH, ↓reduceIte, Nat.reduceLT, Nat.reduceEqDiff, Nat.reduceAdd, Nat.reduceMul, reduceCtorEq, decide_true, decide_false, Nat.reduceLeDiff, Int.reduceNe, Int.reduceEq, ne_eq, not_false_eq_true, and_self, ld_26, hk, e2, known_23]
    exact ⟨trivial, f2⟩
  | true =>
  rw [i1] at e2
  have i1' := of_decide_eq_true i1
  cases i2 : decide ((l.length : Int) ≤ 7) with
  | false =>
    simp (maxDischargeDepth := 30) only [AMS, AMH, ↓reduceIte, Nat.reduceLT, Nat.reduceEqDiff, Nat.reduceAdd, Nat.reduceMul, reduceCtorEq, decide_true, decide_false, Nat.reduceLeDiff, Int.reduceNe, Int.reduceEq, ne_eq, not_false_eq_true, and_self, ld_26, hk, e2, slim_29, i2, known_23]
    exact ⟨trivial, f2⟩
  | true =>
  have i2' := of_decide_eq_true i2
  simp (maxDischargeDepth := 30) only [AMS, AMH, ↓reduceIte, Nat.reduceLT, Nat.reduceEqDiff, Nat.reduceAdd, Nat.reduceMul, reduceCtorEq, decide_true, decide_false, Nat.reduceLeDiff, Int.reduceNe, Int.reduceEq, ne_eq, not_false_eq_true, and_self, ld_26, hk, e2, slim_29, i2, f2.ok, r2]
  cases hg : (twoB s one other && hoursOK s.boards l) with
  | false =>
    refine W_call (change_48_bad f2.ok one other (hs.fr hk f2) (hv.fr hk f2) (by omega) (by omega) (by omega) hg) ?_
    rintro _ h3 ⟨rfl, fr3⟩
    have f3 := f2.trans fr3
    have r3 := fr3.row' f2.ok r2
    obtain ⟨_, h4, e4, rfl, fr4⟩ := sheet_32 f3.ok (hs.fr hk f3)
    have f4 := f3.trans fr4
    have r4 := fr4.row' f3.ok r3
    obtain ⟨_, h5, e5, rfl, fr5⟩ := tariff_33 p1 p2 p3 s.offs.length c1 s.boards.length c2 s.tars.length c3 one _ f4.ok (by omega)
    have f5 := f4.trans fr5
    have r5 := fr5.row' f4.ok r4
    obtain ⟨_, h6, e6, rfl, fr6⟩ := tariff_33 p1 p2 p3 s.offs.length c1 s.boards.length c2 s.tars.length c3 other _ f5.ok (by omega)
    have f6 := f5.trans fr6
    have r6 := fr6.row' f5.ok r5
    obtain ⟨_, h7, e7, rfl, fr7⟩ := hours_34 f6.ok (hs.fr hk f6) (hv.fr hk f6) (by omega) (by omega)
    have f7 := f6.trans fr7
    unfold twoB at hg
    cases j1 : s.ok with
    | false =>
      rw [j1] at e4
      simp (maxDischargeDepth := 30) only [AMS, AMH, ↓reduceIte, Nat.reduceLT, Nat.reduceEqDiff, Nat.reduceAdd, Nat.reduceMul, reduceCtorEq, decide_true, decide_false, Nat.reduceLeDiff, Int.reduceNe, Int.reduceEq, ne_eq, not_false_eq_true, and_self, ld_26, f3.ok, r3, e4, known_23, z00, z22]
      exact ⟨trivial, f4⟩
    | true =>
    rw [j1] at e4 hg
    cases j2 : inP one 0 (s.tars.length - 1) with
    | false =>
      rw [j2] at e5
      simp (maxDischargeDepth := 30) only [AMS, AMH, ↓reduceIte, Nat.reduceLT, Nat.reduceEqDiff, Nat.reduceAdd, Nat.reduceMul, reduceCtorEq, decide_true, decide_false, Nat.reduceLeDiff, Int.reduceNe, Int.reduceEq, ne_eq, not_false_eq_true, and_self, ld_26, f3.ok, r3, e4, r4, e5, known_23, z00, z22]
      exact ⟨trivial, f5⟩
    | true =>
    rw [j2] at e5 hg
    cases j3 : inP other 0 (s.tars.length - 1) with
    | false =>
      rw [j3] at e6
      simp (maxDischargeDepth := 30) only [AMS, AMH, ↓reduceIte, Nat.reduceLT, Nat.reduceEqDiff, Nat.reduceAdd, Nat.reduceMul, reduceCtorEq, decide_true, decide_false, Nat.reduceLeDiff, Int.reduceNe, Int.reduceEq, ne_eq, not_false_eq_true, and_self, ld_26, f3.ok, r3, e4, r4, e5, r5, e6, known_23, z00, z22]
      exact ⟨trivial, f6⟩
    | true =>
    rw [j3] at e6 hg
    cases j4 : (one == other) with
    | true =>
      simp (maxDischargeDepth := 30) only [AMS, AMH, ↓reduceIte, Nat.reduceLT, Nat.reduceEqDiff, Nat.reduceAdd, Nat.reduceMul, reduceCtorEq, decide_true, decide_false, Nat.reduceLeDiff, Int.reduceNe, Int.reduceEq, ne_eq, not_false_eq_true, and_self, ld_26, f3.ok, r3, e4, r4, e5, r5, e6, j4, known_23, z00, z22]
      exact ⟨trivial, f6⟩
    | false =>
    have j4' : (one != other) = true := by rw [bne, j4]; rfl
    rw [j4'] at hg
    cases j5 : hoursOK s.boards l with
    | false =>
      rw [j5] at e7
      simp (maxDischargeDepth := 30) only [AMS, AMH, ↓reduceIte, Nat.reduceLT, Nat.reduceEqDiff, Nat.reduceAdd, Nat.reduceMul, reduceCtorEq, decide_true, decide_false, Nat.reduceLeDiff, Int.reduceNe, Int.reduceEq, ne_eq, not_false_eq_true, and_self, ld_26, f3.ok, r3, e4, r4, e5, r5, e6, r6, j4, e7, known_23, z00, z22]
      exact ⟨trivial, f7⟩
    | true =>
      rw [j5] at hg
      cases hg
  | true =>
    rw [Bool.and_eq_true] at hg
    obtain ⟨two, hl⟩ := hg
    obtain ⟨ok, hne, ⟨i, T, rfl, hT⟩, j, U, rfl, hU⟩ := twoB_at two
    have hil := (List.getElem?_eq_some_iff.1 hT).1
    have hjl := (List.getElem?_eq_some_iff.1 hU).1
    have hin : inP (i : Int) 0 (s.tars.length - 1) = true := by simp [inP]; omega
    have hjn : inP (j : Int) 0 (s.tars.length - 1) = true := by simp [inP]; omega
    have j4 : ((i : Int) == j) = false := by simpa using hne
    refine W_call (change_48 f2.ok (by have := f2.next; omega) (hs.fr hk f2) (hv.fr hk f2) two hl hT hU) ?_
    rintro R h3 ⟨hR, fr3⟩
    have f3 := f2.trans fr3
    have r3 := fr3.row' f2.ok r2
    obtain ⟨_, h4, e4, rfl, fr4⟩ := sheet_32 f3.ok (hs.fr hk f3)
    have f4 := f3.trans fr4
    have r4 := fr4.row' f3.ok r3
    obtain ⟨_, h5, e5, rfl, fr5⟩ := tariff_33 p1 p2 p3 s.offs.length c1 s.boards.length c2 s.tars.length c3 (i : Int) _ f4.ok (by omega)
    have f5 := f4.trans fr5
    have r5 := fr5.row' f4.ok r4
    obtain ⟨_, h6, e6, rfl, fr6⟩ := tariff_33 p1 p2 p3 s.offs.length c1 s.boards.length c2 s.tars.length c3 (j : Int) _ f5.ok (by omega)
    have f6 := f5.trans fr6
    have r6 := fr6.row' f5.ok r5
    obtain ⟨_, h7, e7, rfl, fr7⟩ := hours_34 f6.ok (hs.fr hk f6) (hv.fr hk f6) (by omega) (by omega)
    have f7 := f6.trans fr7
    have r7 := fr7.row' f6.ok r6
    rw [ok] at e4
    rw [hin] at e5
    rw [hjn] at e6
    rw [hl] at e7
    obtain ⟨_, h8, e8, hQ, fr8⟩ := change_49 f7.ok (by have := f7.next; omega) (hs.fr hk f7) (hv.fr hk f7) ok hl hT hU
    have f8 := f7.trans fr8
    obtain ⟨out, met, hM, rfl⟩ := hQ
    cases met with
    | true =>
      have hM : Best (Meets T U s.boards l) T.coins out := hM
      rcases hR with ⟨n, hn, rfl⟩ | ⟨hn, rfl⟩
      · obtain rfl := hn.uniq hM
        have nn : (n == n) = true := by simp
        simp (maxDischargeDepth := 30) only [AMS, AMH, ↓reduceIte, Nat.reduceLT, Nat.reduceEqDiff, Nat.reduceAdd, Nat.reduceMul, reduceCtorEq, decide_true, decide_false, Nat.reduceLeDiff, Int.reduceNe, Int.reduceEq, ne_eq, not_false_eq_true, and_self, ld_26, f3.ok, r3, e4, r4, e5, r5, e6, r6, j4, e7, f7.ok, r7, e8, known_23, z00, nn]
        exact ⟨trivial, f8⟩
      · exact absurd hn hM.not
    | false =>
      have hM : out = 0 ∧ Nobody (Meets T U s.boards l) := hM
      rcases hR with ⟨n, hn, rfl⟩ | ⟨hn, rfl⟩
      · exact absurd hM.2 hn.not
      · simp (maxDischargeDepth := 30) only [AMS, AMH, ↓reduceIte, Nat.reduceLT, Nat.reduceEqDiff, Nat.reduceAdd, Nat.reduceMul, reduceCtorEq, decide_true, decide_false, Nat.reduceLeDiff, Int.reduceNe, Int.reduceEq, ne_eq, not_false_eq_true, and_self, ld_26, f3.ok, r3, e4, r4, e5, r5, e6, r6, j4, e7, f7.ok, r7, e8, known_23, z00, z55]
        exact ⟨trivial, f8⟩
end Go.Am
