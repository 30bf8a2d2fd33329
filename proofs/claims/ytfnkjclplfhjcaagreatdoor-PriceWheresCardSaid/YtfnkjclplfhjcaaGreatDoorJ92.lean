/- Parts 92 of the abstract machine over this program, joined: what each part says stands at its head. -/
import Derived.Test.YtfnkjclplfhjcaaGreatDoorJ90
set_option linter.unusedSimpArgs false
set_option linter.unusedVariables false
/- The abstract machine, part 92: contracts: Where. -/
namespace Go.Am
open Go Go.Proofs

set_option maxRecDepth 10000 in
set_option maxHeartbeats 1000000 in
theorem where_44_bad {h : Heap} (hk : HOK h) {a b c v : Value} {s : Sheet} {l : List Int} (one other : Int) (hs : IsSheet h a b c s) (hv : LS h v l ints 1) (hn : s.tars.length ≤ 100) (hl : l.length ≤ 1000) (hb : s.boards.length ≤ 1000) (bad : (twoB s one other && hoursOK s.boards l) = false) :
    CW CC 44 [.agg ⟨[a, b, c]⟩, .int .i64 one, .int .i64 other, v] h fun r h' => r = .tuple ⟨[.int .i64 0, .int .i64 2]⟩ ∧ Fr h h' := by
  obtain ⟨p1, c1, rfl, _⟩ := hs.offs.open
  obtain ⟨p2, c2, rfl, _⟩ := hs.boards.open
  obtain ⟨p3, c3, rfl, x3⟩ := hs.tars.open
  obtain ⟨p4, c4, rfl, _⟩ := hv.open
  refine CW_in Tryz.f44 (by kernel_rfl) (by kernel_rfl) rfl rfl ?_
  simp only [Tryz.f44]
  have f1 : Fr h ((((h.alloc (.row [.slice p1 s.offs.length c1, .slice p2 s.boards.length c2, .slice p3 s.tars.length c3] 0 true)).alloc (.row [.int .i64 one] 0 true)).alloc (.row [.int .i64 other] 0 true)).alloc (.row [.slice p4 l.length c4] 0 true)) := ((((Fr.refl hk).alloc _).alloc _).alloc _).alloc _
  have r0 : rowAt ((((h.alloc (.row [.slice p1 s.offs.length c1, .slice p2 s.boards.length c2, .slice p3 s.tars.length c3] 0 true)).alloc (.row [.int .i64 one] 0 true)).alloc (.row [.int .i64 other] 0 true)).alloc (.row [.slice p4 l.length c4] 0 true)) h.next = some [.slice p1 s.offs.length c1, .slice p2 s.boards.length c2, .slice p3 s.tars.length c3] := by rw [rowAt_old _ (by simp only [Heap.next_alloc]; omega), rowAt_old _ (by simp only [Heap.next_alloc]; omega), rowAt_old _ (by simp only [Heap.next_alloc]; omega), rowAt_new]
  have r1 : rowAt ((((h.alloc (.row [.slice p1 s.offs.length c1, .slice p2 s.boards.length c2, .slice p3 s.tars.length c3] 0 true)).alloc (.row [.int .i64 one] 0 true)).alloc (.row [.int .i64 other] 0 true)).alloc (.row [.slice p4 l.length c4] 0 true)) (h.next + 1) = some [.int .i64 one] := by rw [rowAt_old _ (by simp only [Heap.next_alloc]; omega), rowAt_old _ (by simp only [Heap.next_alloc]; omega)]; exact rowAt_at _ _ _ (by simp only [Heap.next_alloc])
  have r2 : rowAt ((((h.alloc (.row [.slice p1 s.offs.length c1, .slice p2 s.boards.length c2, .slice p3 s.tars.length c3] 0 true)).alloc (.row [.int .i64 one] 0 true)).alloc (.row [.int .i64 other] 0 true)).alloc (.row [.slice p4 l.length c4] 0 true)) (h.next + 1 + 1) = some [.int .i64 other] := by rw [rowAt_old _ (by simp only [Heap.next_alloc]; omega)]; exact rowAt_at _ _ _ (by simp only [Heap.next_alloc])
  have r3 : rowAt ((((h.alloc (.row [.slice p1 s.offs.length c1, .slice p2 s.boards.length c2, .slice p3 s.tars.length c3] 0 true)).alloc (.row [.int .i64 one] 0 true)).alloc (.row [.int .i64 other] 0 true)).alloc (.row [.slice p4 l.length c4] 0 true)) (h.next + 1 + 1 + 1) = some [.slice p4 l.length c4] := rowAt_at _ _ _ (by simp only [Heap.next_alloc])
  simp (maxDischargeDepth := 30) only [AMS, AMH, ↓reduceIte, Nat.reduceLT, Nat.reduceEqDiff, Nat.reduceAdd, Nat.reduceMul, reduceCtorEq, decide_true, decide_false, Nat.reduceLeDiff, Int.reduceNe, Int.reduceEq, ne_eq, not_false_eq_true, and_self, ld_22, ld_26, ld_3, hk]
  generalize ((((h.alloc (.row [.slice p1 s.offs.length c1, .slice p2 s.boards.length c2, .slice p3 s.tars.length c3] 0 true)).alloc (.row [.int .i64 one] 0 true)).alloc (.row [.int .i64 other] 0 true)).alloc (.row [.slice p4 l.length c4] 0 true)) = h1 at f1 r0 r1 r2 r3 ⊢
  obtain ⟨_, h2, e2, rfl, fr2⟩ := areTwo_80 f1.ok (hs.fr hk f1) one other hn
  have f2 := f1.trans fr2
  have s0 := fr2.row' f1.ok r0
  have s3 := fr2.row' f1.ok r3
  cases htwo : twoB s one other with
  | false =>
    rw [htwo] at e2
    simp (maxDischargeDepth := 30) only [AMS, AMH, ↓reduceIte, Nat.reduceLT, Nat.reduceEqDiff, Nat.reduceAdd, Nat.reduceMul, reduceCtorEq, decide_true, decide_false, Nat.reduceLeDiff, Int.reduceNe, Int.reduceEq, ne_eq, not_false_eq_true, and_self, ld_22, ld_26, ld_3, f1.ok, r0, r1, r2, e2]
    exact ⟨trivial, f2⟩
  | true =>
    rw [htwo] at e2 bad
    simp only [Bool.true_and] at bad
    obtain ⟨_, h3, e4, rfl, fr3⟩ := areHours_74 f2.ok (hs.fr hk f2) (hv.fr hk f2) (by omega) (by omega)
    rw [bad] at e4
    have f3 := f2.trans fr3
    simp (maxDischargeDepth := 30) only [AMS, AMH, ↓reduceIte, Nat.reduceLT, Nat.reduceEqDiff, Nat.reduceAdd, Nat.reduceMul, reduceCtorEq, decide_true, decide_false, Nat.reduceLeDiff, Int.reduceNe, Int.reduceEq, ne_eq, not_false_eq_true, and_self, ld_22, ld_26, ld_3, f1.ok, r0, r1, r2, e2, f2.ok, s0, s3, e4]
    exact ⟨trivial, f3⟩

set_option maxRecDepth 10000 in
set_option maxHeartbeats 2000000 in
theorem where_44 {h : Heap} (hk : HOK h) (hp : 0 < h.next) {a b c v : Value} {s : Sheet} {l : List Int} {i j : Nat} {T U : Tar} (hs : IsSheet h a b c s) (hv : LS h v l ints 1) (two : twoB s i j = true) (hl : hoursOK s.boards l = true) (hT : s.tars[i]? = some T) (hU : s.tars[j]? = some U) :
    CW CC 44 [.agg ⟨[a, b, c]⟩, .int .i64 i, .int .i64 j, v] h fun r h' => ((parts T s.boards l = parts U s.boards l ∧ r = .tuple ⟨[.int .i64 0, .int .i64 5]⟩) ∨ ∃ n, FirstOff (parts T s.boards l) (parts U s.boards l) n ∧ r = .tuple ⟨[.int .i64 n, .int .i64 0]⟩) ∧ Fr h h' := by
  have ok := (twoB_at two).1
  have hlen := Sheet.ok_len ok
  have hll := (hoursOK_at hl).1
  generalize hone : (i : Int) = one at two
  generalize hoth : (j : Int) = other at two
  obtain ⟨p1, c1, rfl, _⟩ := hs.offs.open
  obtain ⟨p2, c2, rfl, _⟩ := hs.boards.open
  obtain ⟨p3, c3, rfl, x3⟩ := hs.tars.open
  obtain ⟨p4, c4, rfl, _⟩ := hv.open
  refine CW_in Tryz.f44 (by kernel_rfl) (by kernel_rfl) rfl rfl ?_
  simp only [Tryz.f44]
  have f1 : Fr h ((((h.alloc (.row [.slice p1 s.offs.length c1, .slice p2 s.boards.length c2, .slice p3 s.tars.length c3] 0 true)).alloc (.row [.int .i64 one] 0 true)).alloc (.row [.int .i64 other] 0 true)).alloc (.row [.slice p4 l.length c4] 0 true)) := ((((Fr.refl hk).alloc _).alloc _).alloc _).alloc _
  have r0 : rowAt ((((h.alloc (.row [.slice p1 s.offs.length c1, .slice p2 s.boards.length c2, .slice p3 s.tars.length c3] 0 true)).alloc (.row [.int .i64 one] 0 true)).alloc (.row [.int .i64 other] 0 true)).alloc (.row [.slice p4 l.length c4] 0 true)) h.next = some [.slice p1 s.offs.length c1, .slice p2 s.boards.length c2, .slice p3 s.tars.length c3] := by rw [rowAt_old _ (by simp only [Heap.next_alloc]; omega), rowAt_old _ (by simp only [Heap.next_alloc]; omega), rowAt_old _ (by simp only [Heap.next_alloc]; omega), rowAt_new]
  have r1 : rowAt ((((h.alloc (.row [.slice p1 s.offs.length c1, .slice p2 s.boards.length c2, .slice p3 s.tars.length c3] 0 true)).alloc (.row [.int .i64 one] 0 true)).alloc (.row [.int .i64 other] 0 true)).alloc (.row [.slice p4 l.length c4] 0 true)) (h.next + 1) = some [.int .i64 one] := by rw [rowAt_old _ (by simp only [Heap.next_alloc]; omega), rowAt_old _ (by simp only [Heap.next_alloc]; omega)]; exact rowAt_at _ _ _ (by simp only [Heap.next_alloc])
  have r2 : rowAt ((((h.alloc (.row [.slice p1 s.offs.length c1, .slice p2 s.boards.length c2, .slice p3 s.tars.length c3] 0 true)).alloc (.row [.int .i64 one] 0 true)).alloc (.row [.int .i64 other] 0 true)).alloc (.row [.slice p4 l.length c4] 0 true)) (h.next + 1 + 1) = some [.int .i64 other] := by rw [rowAt_old _ (by simp only [Heap.next_alloc]; omega)]; exact rowAt_at _ _ _ (by simp only [Heap.next_alloc])
  have r3 : rowAt ((((h.alloc (.row [.slice p1 s.offs.length c1, .slice p2 s.boards.length c2, .slice p3 s.tars.length c3] 0 true)).alloc (.row [.int .i64 one] 0 true)).alloc (.row [.int .i64 other] 0 true)).alloc (.row [.slice p4 l.length c4] 0 true)) (h.next + 1 + 1 + 1) = some [.slice p4 l.length c4] := rowAt_at _ _ _ (by simp only [Heap.next_alloc])
  simp (maxDischargeDepth := 30) only [AMS, AMH, ↓reduceIte, Nat.reduceLT, Nat.reduceEqDiff, Nat.reduceAdd, Nat.reduceMul, reduceCtorEq, decide_true, decide_false, Nat.reduceLeDiff, Int.reduceNe, Int.reduceEq, ne_eq, not_false_eq_true, and_self, ld_22, ld_26, ld_3, hk]
  generalize ((((h.alloc (.row [.slice p1 s.offs.length c1, .slice p2 s.boards.length c2, .slice p3 s.tars.length c3] 0 true)).alloc (.row [.int .i64 one] 0 true)).alloc (.row [.int .i64 other] 0 true)).alloc (.row [.slice p4 l.length c4] 0 true)) = h1 at f1 r0 r1 r2 r3 ⊢
  obtain ⟨_, h2, e2, rfl, fr2⟩ := areTwo_80 f1.ok (hs.fr hk f1) one other (by omega)
  have f2 := f1.trans fr2
  have s0 := fr2.row' f1.ok r0
  have s3 := fr2.row' f1.ok r3
  rw [two] at e2
  obtain ⟨_, h3, e4, rfl, fr3⟩ := areHours_74 f2.ok (hs.fr hk f2) (hv.fr hk f2) (by omega) (by omega)
  rw [hl] at e4
  have f3 := f2.trans fr3
  have fr13 := fr2.trans fr3
  simp (maxDischargeDepth := 30) only [AMS, AMH, ↓reduceIte, Nat.reduceLT, Nat.reduceEqDiff, Nat.reduceAdd, Nat.reduceMul, reduceCtorEq, decide_true, decide_false, Nat.reduceLeDiff, Int.reduceNe, Int.reduceEq, ne_eq, not_false_eq_true, and_self, ld_22, ld_26, ld_3, f1.ok, r0, r1, r2, e2, f2.ok, s0, s3, e4, f3.ok]
  refine W_call (attempt_83 (P0 := parts T s.boards l = parts U s.boards l) (P1 := FirstOff (parts T s.boards l) (parts U s.boards l)) f3.ok fun h4 f34 => ?_) ?_
  · have f4 := f3.trans f34
    have f14 := fr13.trans f34
    have t1 := f14.row' f1.ok r1
    have t2 := f14.row' f1.ok r2
    rw [← hone] at t1
    rw [← hoth] at t2
    exact where1_84 f4.ok (by have := f4.next; omega) (hs.fr hk f4) (hv.fr hk f4) ok hl hT hU (f14.row' f1.ok r0) (f14.row' f1.ok r3) t1 t2
  · have z00 : ((0 : Int) == 0) = true := rfl
    have z70 : ((7 : Int) == 0) = false := rfl
    rintro _ h5 ⟨⟨hE, rfl⟩ | ⟨n, hN, rfl⟩, fr5⟩
    · have f5 := f3.trans fr5
      simp (maxDischargeDepth := 30) only [AMS, AMH, ↓reduceIte, Nat.reduceLT, Nat.reduceEqDiff, Nat.reduceAdd, Nat.reduceMul, reduceCtorEq, decide_true, decide_false, Nat.reduceLeDiff, Int.reduceNe, Int.reduceEq, ne_eq, not_false_eq_true, and_self, ld_22, ld_26, ld_3, f5.ok, z00]
      exact ⟨.inl ⟨hE, trivial⟩, f5⟩
    · have f5 := f3.trans fr5
      simp (maxDischargeDepth := 30) only [AMS, AMH, ↓reduceIte, Nat.reduceLT, Nat.reduceEqDiff, Nat.reduceAdd, Nat.reduceMul, reduceCtorEq, decide_true, decide_false, Nat.reduceLeDiff, Int.reduceNe, Int.reduceEq, ne_eq, not_false_eq_true, and_self, ld_22, ld_26, ld_3, f5.ok, z70]
      exact ⟨.inr ⟨n, hN, rfl⟩, f5⟩

set_option maxRecDepth 10000 in
set_option maxHeartbeats 2000000 in
theorem where_47 {h : Heap} (hk : HOK h) (hp : 0 < h.next) {a b c v : Value} {s : Sheet} {l : List Int} {i j : Nat} {T U : Tar} (hs : IsSheet h a b c s) (hv : LS h v l ints 1) (ok : s.ok = true) (hl : hoursOK s.boards l = true) (hT : s.tars[i]? = some T) (hU : s.tars[j]? = some U) :
    CW CC 47 [.agg ⟨[a, b, c]⟩, .int .i64 i, .int .i64 j, v] h fun r h' => ((parts T s.boards l = parts U s.boards l ∧ r = .tuple ⟨[.int .i64 0, .bool false]⟩) ∨ ∃ n, FirstOff (parts T s.boards l) (parts U s.boards l) n ∧ r = .tuple ⟨[.int .i64 n, .bool true]⟩) ∧ Fr h h' := by
  have hlen := Sheet.ok_len ok
  have hil := (List.getElem?_eq_some_iff.1 hT).1
  have hjl := (List.getElem?_eq_some_iff.1 hU).1
  have hll := (hoursOK_at hl).1
  have tok := Sheet.ok_tars ok T (List.mem_of_getElem? hT)
  have uok := Sheet.ok_tars ok U (List.mem_of_getElem? hU)
  have hqT := qtys_b ok hl T
  have hqU := qtys_b ok hl U
  obtain ⟨p1, c1, rfl, _⟩ := hs.offs.open
  obtain ⟨p2, c2, rfl, _⟩ := hs.boards.open
  obtain ⟨p3, c3, rfl, x3⟩ := hs.tars.open
  obtain ⟨p4, c4, rfl, _⟩ := hv.open
  obtain ⟨bt, ot, spt, rowt, hp3, rrt, et⟩ := LS.at (n := 0) (c := 0) x3 hT
  obtain ⟨bu, ou, spu, rowu, hp3', rru, eu⟩ := LS.at (n := 0) (c := 0) x3 hU
  subst hp3
  simp only [Option.some.injEq, Addr.mk.injEq] at hp3'
  obtain ⟨rfl, rfl, rfl⟩ := hp3'
  rw [rrt] at rru
  obtain rfl : rowt = rowu := by simpa using rru
  have kct : T.cells.all selfC = true := rfl
  have kcu : U.cells.all selfC = true := rfl
  refine CW_in Tryz.f47 (by kernel_rfl) (by kernel_rfl) rfl rfl ?_
  simp only [Tryz.f47]
  have f1 : Fr h (h.alloc (.row [.slice p1 s.offs.length c1, .slice p2 s.boards.length c2, .slice (some ⟨bt, ot, spt⟩) s.tars.length c3] 0 true)) := (Fr.refl hk).alloc _
  have r1 : rowAt (h.alloc (.row [.slice p1 s.offs.length c1, .slice p2 s.boards.length c2, .slice (some ⟨bt, ot, spt⟩) s.tars.length c3] 0 true)) h.next = some [.slice p1 s.offs.length c1, .slice p2 s.boards.length c2, .slice (some ⟨bt, ot, spt⟩) s.tars.length c3] := rowAt_new _ _ _ _
  have rt1 := f1.row' hk rrt
  simp (maxDischargeDepth := 30) only [AMS, AMH, ↓reduceIte, Nat.reduceLT, Nat.reduceEqDiff, Nat.reduceAdd, Nat.reduceMul, reduceCtorEq, decide_true, decide_false, Nat.reduceLeDiff, Int.reduceNe, Int.reduceEq, ne_eq, not_false_eq_true, and_self, fp_26_2, ix_22, ix_24, ld_24, ld_26, ld_3, ld_41, len_22, part_3, part_41, size_22, size_24, size_3, size_41, und_22, und_24, zero_22, zero_24, hk]
  generalize (h.alloc (.row [.slice p1 s.offs.length c1, .slice p2 s.boards.length c2, .slice (some ⟨bt, ot, spt⟩) s.tars.length c3] 0 true)) = h1 at f1 r1 rt1 ⊢
  refine W_draw [(true, 0), (true, 1), (true, 2), (true, 3), (true, 4), (true, 5), (true, 6), (true, 8), (true, 9), (true, 10), (true, 11), (true, 12), (true, 13), (true, 14), (true, 7), (false, 8), (false, 10), (false, 13), (true, 15), (true, 16), (true, 17)] (by kernel_rfl) ?_
  simp (maxDischargeDepth := 30) only [AMS, AMH, ↓reduceIte, Nat.reduceLT, Nat.reduceEqDiff, Nat.reduceAdd, Nat.reduceMul, reduceCtorEq, decide_true, decide_false, Nat.reduceLeDiff, Int.reduceNe, Int.reduceEq, ne_eq, not_false_eq_true, and_self, fp_26_2, ix_22, ix_24, ld_24, ld_26, ld_3, ld_41, len_22, part_3, part_41, size_22, size_24, size_3, size_41, und_22, und_24, zero_22, zero_24, f1.ok, r1, hil, rt1, et, hjl, eu]
  refine W_callP (parts_36 (t := T) f1.ok (by have := f1.next; omega) (hs.fr hk f1) (hv.fr hk f1) tok hll (by omega) fun x hx => by have := hqT x hx; omega) ?_
  rintro A h2 ⟨qA, fr2⟩
  have f2 := f1.trans fr2
  have r2 := fr2.row' f1.ok r1
  have rt2 := f2.row' hk rrt
  obtain ⟨pA, cA, rfl⟩ := qA.value
  simp (maxDischargeDepth := 30) only [AMS, AMH, ↓reduceIte, Nat.reduceLT, Nat.reduceEqDiff, Nat.reduceAdd, Nat.reduceMul, reduceCtorEq, decide_true, decide_false, Nat.reduceLeDiff, Int.reduceNe, Int.reduceEq, ne_eq, not_false_eq_true, and_self, AMR, fp_26_2, ix_22, ix_24, ld_24, ld_26, ld_3, ld_41, len_22, part_3, part_41, size_22, size_24, size_3, size_41, und_22, und_24, zero_22, zero_24, f2.ok, r2, hil, rt2, et, hjl, eu, kct, kcu]
  refine W_callP (parts_36 (t := U) f2.ok (by have := f2.next; omega) (hs.fr hk f2) (hv.fr hk f2) uok hll (by omega) fun x hx => by have := hqU x hx; omega) ?_
  rintro B h3 ⟨qB, fr3⟩
  have f3 := f2.trans fr3
  have r3 := fr3.row' f2.ok r2
  have rt3 := f3.row' hk rrt
  obtain ⟨pB, cB, rfl⟩ := qB.value
  have lA := parts_len (t := T) hll
  have lB := parts_len (t := U) hll
  have LA : LS h3 (.slice pA s.boards.length cA) (parts T s.boards l) ints 1 := SL.ls ints_len (by rw [lA]; exact qA.fr f2.ok fr3)
  have LB : LS h3 (.slice pB s.boards.length cB) (parts U s.boards l) ints 1 := SL.ls ints_len (by rw [lB]; exact qB)
  simp (maxDischargeDepth := 30) only [AMS, AMH, ↓reduceIte, Nat.reduceLT, Nat.reduceEqDiff, Nat.reduceAdd, Nat.reduceMul, reduceCtorEq, decide_true, decide_false, Nat.reduceLeDiff, Int.reduceNe, Int.reduceEq, ne_eq, not_false_eq_true, and_self, AMR, fp_26_2, ix_22, ix_24, ld_24, ld_26, ld_3, ld_41, len_22, part_3, part_41, size_22, size_24, size_3, size_41, und_22, und_24, zero_22, zero_24, f3.ok, r3, hil, rt3, et, hjl, eu, kct, kcu]
  refine W_loop s.boards.length (fun m' f h' => ∃ k, k ≤ s.boards.length ∧ m' = s.boards.length - k ∧ f 10 = .slice pA s.boards.length cA ∧ f 11 = .slice pB s.boards.length cB ∧ f 12 = .int .i64 k ∧ (parts T s.boards l).take k = (parts U s.boards l).take k ∧ h' = h3)
    ⟨0, by omega, by omega, by simp [upd_at], by simp [upd_at], by simp [upd_at], by simp, rfl⟩ ?_
  rintro m' f h' ⟨k, hk', rfl, g10, g11, g12, ht, rfl⟩ ih
  by_cases hkl : k < s.boards.length
  · obtain ⟨x, gx⟩ : ∃ x, (parts T s.boards l)[k]? = some x := ⟨_, List.getElem?_eq_getElem (by omega)⟩
    obtain ⟨y, gy⟩ : ∃ y, (parts U s.boards l)[k]? = some y := ⟨_, List.getElem?_eq_getElem (by omega)⟩
    obtain ⟨b5, o5, sp5, row5, rfl, rr5, e5⟩ := LA.cell gx
    obtain ⟨b6, o6, sp6, row6, rfl, rr6, e6⟩ := LB.cell gy
    simp (maxDischargeDepth := 30) only [AMS, AMH, ↓reduceIte, Nat.reduceLT, Nat.reduceEqDiff, Nat.reduceAdd, Nat.reduceMul, reduceCtorEq, decide_true, decide_false, Nat.reduceLeDiff, Int.reduceNe, Int.reduceEq, ne_eq, not_false_eq_true, and_self, fp_26_2, ix_22, ix_24, ld_24, ld_26, ld_3, ld_41, len_22, part_3, part_41, size_22, size_24, size_3, size_41, und_22, und_24, zero_22, zero_24, f3.ok, g10, g11, g12, lt_t hkl]
    refine W_draw [(true, 0), (true, 1), (true, 2), (true, 3), (true, 4), (true, 5), (true, 6), (true, 7), (true, 8)] (by kernel_rfl) ?_
    cases hxy : (x != y) with
    | true =>
      simp (maxDischargeDepth := 30) only [AMS, AMH, ↓reduceIte, Nat.reduceLT, Nat.reduceEqDiff, Nat.reduceAdd, Nat.reduceMul, reduceCtorEq, decide_true, decide_false, Nat.reduceLeDiff, Int.reduceNe, Int.reduceEq, ne_eq, not_false_eq_true, and_self, AMR, fp_26_2, ix_22, ix_24, ld_24, ld_26, ld_3, ld_41, len_22, part_3, part_41, size_22, size_24, size_3, size_41, und_22, und_24, zero_22, zero_24, f3.ok, g10, g11, g12, hkl, Nat.mul_one, rr5, rr6, e5, e6, hxy]
      refine ⟨.inr ⟨_, ⟨k, rfl, by omega, ?_, ht⟩, rfl⟩, f3⟩
      rw [gx, gy]
      simpa using hxy
    | false =>
      have hxy' : x = y := by simpa using hxy
      simp (maxDischargeDepth := 30) only [AMS, AMH, ↓reduceIte, Nat.reduceLT, Nat.reduceEqDiff, Nat.reduceAdd, Nat.reduceMul, reduceCtorEq, decide_true, decide_false, Nat.reduceLeDiff, Int.reduceNe, Int.reduceEq, ne_eq, not_false_eq_true, and_self, AMR, fp_26_2, ix_22, ix_24, ld_24, ld_26, ld_3, ld_41, len_22, part_3, part_41, size_22, size_24, size_3, size_41, und_22, und_24, zero_22, zero_24, f3.ok, g10, g11, g12, hkl, Nat.mul_one, rr5, rr6, e5, e6, hxy, i_next hkl (by omega : s.boards.length ≤ 1000)]
      refine ih (s.boards.length - (k + 1)) _ _ (by omega) ?_
      exact ⟨k + 1, by omega, rfl, by simp [upd_at, g10], by simp [upd_at, g11], by simp [upd_at], by rw [take_snoc gx, take_snoc gy, ht, hxy'], rfl⟩
  · have : k = s.boards.length := by omega
    subst this
    simp (maxDischargeDepth := 30) only [AMS, AMH, ↓reduceIte, Nat.reduceLT, Nat.reduceEqDiff, Nat.reduceAdd, Nat.reduceMul, reduceCtorEq, decide_true, decide_false, Nat.reduceLeDiff, Int.reduceNe, Int.reduceEq, ne_eq, not_false_eq_true, and_self, fp_26_2, ix_22, ix_24, ld_24, ld_26, ld_3, ld_41, len_22, part_3, part_41, size_22, size_24, size_3, size_41, und_22, und_24, zero_22, zero_24, f3.ok, g10, g12, lt_f]
    refine ⟨.inl ⟨?_, trivial⟩, f3⟩
    rwa [List.take_of_length_le (by omega), List.take_of_length_le (by omega)] at ht
end Go.Am
