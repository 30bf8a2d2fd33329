/- Parts 89 of the abstract machine over this program, joined: what each part says stands at its head. -/
import Derived.Test.YtfnkjclplfhjcaaGreatDoorJ88
import Derived.Test.YtfnkjclplfhjcaaGreatDoorJ81
set_option linter.unusedSimpArgs false
set_option linter.unusedVariables false
/- The abstract machine, part 89: contracts: Costing; the statement PriceNearest. -/
namespace Go.Am
open Go Go.Proofs

def Sheet.coin (s : Sheet) (i : Nat) (T : Tar) (n : Int) : Sheet := ⟨s.offs, s.boards, s.tars.set i (T.coin n)⟩
theorem Sheet.coin_ok {s : Sheet} (ok : s.ok = true) {i : Nat} {T : Tar} (tok : T.ok = true) {n : Int} (h0 : 0 ≤ n) (h1 : n ≤ 500) : (s.coin i T n).ok = true := by
  obtain ⟨q1, q2, q3, q4⟩ := Sheet.ok_iff.1 ok
  refine Sheet.ok_iff.2 ⟨by simpa [Sheet.coin] using q1, q2, q3, fun y hy => ?_⟩
  rcases mem_set hy with q | rfl
  · exact q4 y q
  · exact Tar.coin_ok tok h0 h1

set_option maxRecDepth 10000 in
set_option maxHeartbeats 2000000 in
theorem costing_50 {h : Heap} (hk : HOK h) (hp : 0 < h.next) {a b c : Value} {s : Sheet} {i : Nat} {T : Tar} (hs : IsSheet h a b c s) (hT : s.tars[i]? = some T) (hn : s.tars.length ≤ 1000) (n : Int) :
    CW CC 50 [.agg ⟨[a, b, c]⟩, .int .i64 i, .int .i64 n] h fun r h' => ∃ c', r = .agg ⟨[a, b, c']⟩ ∧ IsSheet h' a b c' (s.coin i T n) ∧ Fr h h' := by
  have hil := (List.getElem?_eq_some_iff.1 hT).1
  have hs' := hs
  obtain ⟨p1, c1, rfl, _⟩ := hs.offs.open
  obtain ⟨p2, c2, rfl, _⟩ := hs.boards.open
  obtain ⟨p3, c3, rfl, x3⟩ := hs.tars.open
  refine CW_in Tryz.f50 (by kernel_rfl) (by kernel_rfl) rfl rfl ?_
  simp only [Tryz.f50]
  have f2 : Fr h ((((h.alloc (.row [.slice p1 s.offs.length c1, .slice p2 s.boards.length c2, .slice p3 s.tars.length c3] 0 true)).alloc (.row [.slice none 0 0, .slice none 0 0, .slice none 0 0] 0 true)).alloc (.row [.slice none 0 0, .slice none 0 0, .slice none 0 0] 0 true)).set (h.next + 1 + 1) (.row [.slice p1 s.offs.length c1, .slice p2 s.boards.length c2, .slice p3 s.tars.length c3] 0 true)) := ((((Fr.refl hk).alloc _).alloc _).alloc _).set (by omega) (by simp) _
  have r2 : rowAt ((((h.alloc (.row [.slice p1 s.offs.length c1, .slice p2 s.boards.length c2, .slice p3 s.tars.length c3] 0 true)).alloc (.row [.slice none 0 0, .slice none 0 0, .slice none 0 0] 0 true)).alloc (.row [.slice none 0 0, .slice none 0 0, .slice none 0 0] 0 true)).set (h.next + 1 + 1) (.row [.slice p1 s.offs.length c1, .slice p2 s.boards.length c2, .slice p3 s.tars.length c3] 0 true)) h.next = some [.slice p1 s.offs.length c1, .slice p2 s.boards.length c2, .slice p3 s.tars.length c3] := by rw [rowAt_set_lt _ (by omega), rowAt_old _ (by simp only [Heap.next_alloc]; omega), rowAt_old _ (by simp only [Heap.next_alloc]; omega), rowAt_new]
  have g2 : ((((h.alloc (.row [.slice p1 s.offs.length c1, .slice p2 s.boards.length c2, .slice p3 s.tars.length c3] 0 true)).alloc (.row [.slice none 0 0, .slice none 0 0, .slice none 0 0] 0 true)).alloc (.row [.slice none 0 0, .slice none 0 0, .slice none 0 0] 0 true)).set (h.next + 1 + 1) (.row [.slice p1 s.offs.length c1, .slice p2 s.boards.length c2, .slice p3 s.tars.length c3] 0 true)).get (h.next + 1 + 1) = some (.row [.slice p1 s.offs.length c1, .slice p2 s.boards.length c2, .slice p3 s.tars.length c3] 0 true) := Heap.get_set_self _ _ _
  have z2 : ((((h.alloc (.row [.slice p1 s.offs.length c1, .slice p2 s.boards.length c2, .slice p3 s.tars.length c3] 0 true)).alloc (.row [.slice none 0 0, .slice none 0 0, .slice none 0 0] 0 true)).alloc (.row [.slice none 0 0, .slice none 0 0, .slice none 0 0] 0 true)).set (h.next + 1 + 1) (.row [.slice p1 s.offs.length c1, .slice p2 s.boards.length c2, .slice p3 s.tars.length c3] 0 true)).get (h.next + 1) = some (.row [.slice none 0 0, .slice none 0 0, .slice none 0 0] 0 true) := by rw [Heap.get_set_ne _ _ (by omega), get_old _ (by simp only [Heap.next_alloc]; omega)]; exact get_at _ (by simp)
  have n2 : ((((h.alloc (.row [.slice p1 s.offs.length c1, .slice p2 s.boards.length c2, .slice p3 s.tars.length c3] 0 true)).alloc (.row [.slice none 0 0, .slice none 0 0, .slice none 0 0] 0 true)).alloc (.row [.slice none 0 0, .slice none 0 0, .slice none 0 0] 0 true)).set (h.next + 1 + 1) (.row [.slice p1 s.offs.length c1, .slice p2 s.boards.length c2, .slice p3 s.tars.length c3] 0 true)).next = h.next + 3 := by simp
  simp (maxDischargeDepth := 30) only [AMS, AMH, ↓reduceIte, Nat.reduceLT, Nat.reduceEqDiff, Nat.reduceAdd, Nat.reduceMul, reduceCtorEq, decide_true, decide_false, Nat.reduceLeDiff, Int.reduceNe, Int.reduceEq, ne_eq, not_false_eq_true, and_self, fp_26_2, fp_41_1, ix_24, ld_24, ld_26, part_41, size_24, size_26, size_3, size_41, und_24, und_3, zero_24, zero_26, zero_3, hk]
  generalize ((((h.alloc (.row [.slice p1 s.offs.length c1, .slice p2 s.boards.length c2, .slice p3 s.tars.length c3] 0 true)).alloc (.row [.slice none 0 0, .slice none 0 0, .slice none 0 0] 0 true)).alloc (.row [.slice none 0 0, .slice none 0 0, .slice none 0 0] 0 true)).set (h.next + 1 + 1) (.row [.slice p1 s.offs.length c1, .slice p2 s.boards.length c2, .slice p3 s.tars.length c3] 0 true)) = h2 at f2 r2 g2 z2 n2 ⊢
  obtain ⟨h3, e3, g3, _, fr3, n3⟩ := copy_at (ts := []) app_24 (Fr.refl f2.ok) (by omega) Tar.len (tars_one s.tars) (hs.fr hk f2).tars (by omega) (by omega)
  have f3 := f2.trans fr3
  have g23 := fr3.get' f2.ok g2
  have z3 := fr3.get' f2.ok z2
  have f4 : Fr h (h3.set (h.next + 1 + 1) (.row [.slice p1 s.offs.length c1, .slice p2 s.boards.length c2, .slice (some ⟨h2.next, 0, some 5⟩) s.tars.length s.tars.length] 0 true)) := f3.set (by omega) (by omega) _
  have x4 : rowAt (h3.set (h.next + 1 + 1) (.row [.slice p1 s.offs.length c1, .slice p2 s.boards.length c2, .slice (some ⟨h2.next, 0, some 5⟩) s.tars.length s.tars.length] 0 true)) (h.next + 1 + 1) = some [.slice p1 s.offs.length c1, .slice p2 s.boards.length c2, .slice (some ⟨h2.next, 0, some 5⟩) s.tars.length s.tars.length] := rowAt_set_self _ _ _ _ _
  have y4 : (h3.set (h.next + 1 + 1) (.row [.slice p1 s.offs.length c1, .slice p2 s.boards.length c2, .slice (some ⟨h2.next, 0, some 5⟩) s.tars.length s.tars.length] 0 true)).get h2.next = some (.row (s.tars.flatMap Tar.cells) 5 true) := by rw [Heap.get_set_ne _ _ (by omega)]; exact g3
  have z4 : (h3.set (h.next + 1 + 1) (.row [.slice p1 s.offs.length c1, .slice p2 s.boards.length c2, .slice (some ⟨h2.next, 0, some 5⟩) s.tars.length s.tars.length] 0 true)).get (h.next + 1) = some (.row [.slice none 0 0, .slice none 0 0, .slice none 0 0] 0 true) := by rw [Heap.get_set_ne _ _ (by omega)]; exact z3
  have n4 : (h3.set (h.next + 1 + 1) (.row [.slice p1 s.offs.length c1, .slice p2 s.boards.length c2, .slice (some ⟨h2.next, 0, some 5⟩) s.tars.length s.tars.length] 0 true)).next = h3.next := by simp
  simp (maxDischargeDepth := 30) only [AMS, AMH, ↓reduceIte, Nat.reduceLT, Nat.reduceEqDiff, Nat.reduceAdd, Nat.reduceMul, reduceCtorEq, decide_true, decide_false, Nat.reduceLeDiff, Int.reduceNe, Int.reduceEq, ne_eq, not_false_eq_true, and_self, fp_26_2, fp_41_1, ix_24, ld_24, ld_26, part_41, size_24, size_26, size_3, size_41, und_24, und_3, zero_24, zero_26, zero_3, f2.ok, r2, e3, g23, List.set_cons_succ, List.set_cons_zero]
  generalize (h3.set (h.next + 1 + 1) (.row [.slice p1 s.offs.length c1, .slice p2 s.boards.length c2, .slice (some ⟨h2.next, 0, some 5⟩) s.tars.length s.tars.length] 0 true)) = h4 at f4 x4 y4 z4 n4 ⊢
  have hw : write? (s.tars.flatMap Tar.cells) (i * 5 + 1) [.int .i64 n] = some ((s.tars.set i (T.coin n)).flatMap Tar.cells) := by
    rw [write_one _ _ _ (by rw [flat_len Tar.len]; omega)]
    exact congrArg some (flat_set Tar.len s.tars i T (T.coin n) 1 (.int .i64 n) hT (by omega) rfl)
  simp (maxDischargeDepth := 30) only [AMS, AMH, ↓reduceIte, Nat.reduceLT, Nat.reduceEqDiff, Nat.reduceAdd, Nat.reduceMul, reduceCtorEq, decide_true, decide_false, Nat.reduceLeDiff, Int.reduceNe, Int.reduceEq, ne_eq, not_false_eq_true, and_self, fp_26_2, fp_41_1, ix_24, ld_24, ld_26, part_41, size_24, size_26, size_3, size_41, und_24, und_3, zero_24, zero_26, zero_3, f4.ok, x4, hil, y4, hw]
  have f5 : Fr h (h4.set h2.next (.row ((s.tars.set i (T.coin n)).flatMap Tar.cells) 5 true)) := f4.set (by omega) (by omega) _
  have x5 : rowAt (h4.set h2.next (.row ((s.tars.set i (T.coin n)).flatMap Tar.cells) 5 true)) (h.next + 1 + 1) = some [.slice p1 s.offs.length c1, .slice p2 s.boards.length c2, .slice (some ⟨h2.next, 0, some 5⟩) s.tars.length s.tars.length] := by rw [rowAt_set_lt _ (by omega)]; exact x4
  have y5 : rowAt (h4.set h2.next (.row ((s.tars.set i (T.coin n)).flatMap Tar.cells) 5 true)) h2.next = some ((s.tars.set i (T.coin n)).flatMap Tar.cells) := rowAt_set_self _ _ _ _ _
  have z5 : (h4.set h2.next (.row ((s.tars.set i (T.coin n)).flatMap Tar.cells) 5 true)).get (h.next + 1) = some (.row [.slice none 0 0, .slice none 0 0, .slice none 0 0] 0 true) := by rw [Heap.get_set_ne _ _ (by omega)]; exact z4
  have n5 : (h4.set h2.next (.row ((s.tars.set i (T.coin n)).flatMap Tar.cells) 5 true)).next = h4.next := by simp
  generalize (h4.set h2.next (.row ((s.tars.set i (T.coin n)).flatMap Tar.cells) 5 true)) = h5 at f5 x5 y5 z5 n5 ⊢
  have f6 : Fr h (h5.set (h.next + 1) (.row [.slice p1 s.offs.length c1, .slice p2 s.boards.length c2, .slice (some ⟨h2.next, 0, some 5⟩) s.tars.length s.tars.length] 0 true)) := f5.set (by omega) (by omega) _
  have y6 : rowAt (h5.set (h.next + 1) (.row [.slice p1 s.offs.length c1, .slice p2 s.boards.length c2, .slice (some ⟨h2.next, 0, some 5⟩) s.tars.length s.tars.length] 0 true)) h2.next = some ((s.tars.set i (T.coin n)).flatMap Tar.cells) := by rw [rowAt_set_gt _ (by omega)]; exact y5
  simp (maxDischargeDepth := 30) only [AMS, AMH, ↓reduceIte, Nat.reduceLT, Nat.reduceEqDiff, Nat.reduceAdd, Nat.reduceMul, reduceCtorEq, decide_true, decide_false, Nat.reduceLeDiff, Int.reduceNe, Int.reduceEq, ne_eq, not_false_eq_true, and_self, fp_26_2, fp_41_1, ix_24, ld_24, ld_26, part_41, size_24, size_26, size_3, size_41, und_24, und_3, zero_24, zero_26, zero_3, f5.ok, x5, z5]
  refine ⟨_, rfl, ⟨(hs'.fr hk f6).offs, (hs'.fr hk f6).boards, ?_⟩, f6⟩
  have := LS.of_row (sp := some 5) (c := s.tars.length) Tar.len y6
  rw [List.length_set] at this
  exact this

set_option maxRecDepth 10000 in
set_option maxHeartbeats 4000000 in
theorem nearest_11 {h : Heap} (hk : HOK h) (hp : 0 < h.next) {a b c v : Value} {s : Sheet} {l : List Int} (hs : IsSheet h a b c s) (hv : LS h v l ints 1) (one other co : Int) :
    CW CC 11 [.agg ⟨[a, b, c]⟩, .int .i64 one, .int .i64 other, v, .int .i64 co] h fun r h' => r = .bool true ∧ Fr h h' := by
  have n00 : ((0 : Int) != 0) = false := rfl
  have n50 : ((5 : Int) != 0) = true := rfl
  have n55 : ((5 : Int) != 5) = false := rfl
  obtain ⟨p1, c1, rfl, _⟩ := hs.offs.open
  obtain ⟨p2, c2, rfl, _⟩ := hs.boards.open
  obtain ⟨p3, c3, rfl, x3⟩ := hs.tars.open
  obtain ⟨p4, c4, rfl, _⟩ := hv.open
  refine CW_in Tryz.f11 (by kernel_rfl) (by kernel_rfl) rfl rfl ?_
  simp only [Tryz.f11]
  have f1 : Fr h (h.alloc (.row [.slice p1 s.offs.length c1, .slice p2 s.boards.length c2, .slice p3 s.tars.length c3] 0 true)) := (Fr.refl hk).alloc _
  have r1 : rowAt (h.alloc (.row [.slice p1 s.offs.length c1, .slice p2 s.boards.length c2, .slice p3 s.tars.length c3] 0 true)) h.next = some [.slice p1 s.offs.length c1, .slice p2 s.boards.length c2, .slice p3 s.tars.length c3] := rowAt_new _ _ _ _
  obtain ⟨_, h2, e2, rfl, fr2⟩ := asked_22 f1.ok (hs.fr hk f1) (hv.fr hk f1) one
  have f2 := f1.trans fr2
  have r2 := fr2.row' f1.ok r1
  cases hask : askedB s one l with
  | false =>
    rw [hask] at e2
    simp (maxDischargeDepth := 30) only [AMS, AMH, ↓reduceIte, Nat.reduceLT, Nat.reduceEqDiff, Nat.reduceAdd, Nat.reduceMul, reduceCtorEq, decide_true, decide_false, Nat.reduceLeDiff, Int.reduceNe, Int.reduceEq, ne_eq, not_false_eq_true, and_self, fp_26_2, fp_41_1, ix_24, ld_24, ld_26, ld_3, part_41, size_24, size_41, und_24, und_4, zero_24, hk, e2, known_23]
    exact ⟨trivial, f2⟩
  | true =>
  rw [hask] at e2
  unfold askedB at hask
  simp only [Bool.and_eq_true] at hask
  obtain ⟨⟨_, ok⟩, _, hin, hl⟩ := hask
  have hlen := Sheet.ok_len ok
  obtain ⟨_, h3, e3, rfl, fr3⟩ := tariff_33 p1 p2 p3 s.offs.length c1 s.boards.length c2 s.tars.length c3 other _ f2.ok (by omega)
  have f3 := f2.trans fr3
  have r3 := fr3.row' f2.ok r2
  cases hon : inP other 0 (s.tars.length - 1) with
  | false =>
    rw [hon] at e3
    simp (maxDischargeDepth := 30) only [AMS, AMH, ↓reduceIte, Nat.reduceLT, Nat.reduceEqDiff, Nat.reduceAdd, Nat.reduceMul, reduceCtorEq, decide_true, decide_false, Nat.reduceLeDiff, Int.reduceNe, Int.reduceEq, ne_eq, not_false_eq_true, and_self, fp_26_2, fp_41_1, ix_24, ld_24, ld_26, ld_3, part_41, size_24, size_41, und_24, und_4, zero_24, hk, e2, f2.ok, r2, e3, known_23]
    exact ⟨trivial, f3⟩
  | true =>
  rw [hon] at e3
  cases j4 : (one == other) with
  | true =>
    simp (maxDischargeDepth := 30) only [AMS, AMH, ↓reduceIte, Nat.reduceLT, Nat.reduceEqDiff, Nat.reduceAdd, Nat.reduceMul, reduceCtorEq, decide_true, decide_false, Nat.reduceLeDiff, Int.reduceNe, Int.reduceEq, ne_eq, not_false_eq_true, and_self, fp_26_2, fp_41_1, ix_24, ld_24, ld_26, ld_3, part_41, size_24, size_41, und_24, und_4, zero_24, hk, e2, f2.ok, r2, e3, j4, known_23]
    exact ⟨trivial, f3⟩
  | false =>
  cases d1 : decide (co < 0) with
  | true =>
    simp (maxDischargeDepth := 30) only [AMS, AMH, ↓reduceIte, Nat.reduceLT, Nat.reduceEqDiff, Nat.reduceAdd, Nat.reduceMul, reduceCtorEq, decide_true, decide_false, Nat.reduceLeDiff, Int.reduceNe, Int.reduceEq, ne_eq, not_false_eq_true, and_self, fp_26_2, fp_41_1, ix_24, ld_24, ld_26, ld_3, part_41, size_24, size_41, und_24, und_4, zero_24, hk, e2, f2.ok, r2, e3, j4, d1, known_23]
    exact ⟨trivial, f3⟩
  | false =>
  cases d2 : decide (co > 500) with
  | true =>
    simp (maxDischargeDepth := 30) only [AMS, AMH, ↓reduceIte, Nat.reduceLT, Nat.reduceEqDiff, Nat.reduceAdd, Nat.reduceMul, reduceCtorEq, decide_true, decide_false, Nat.reduceLeDiff, Int.reduceNe, Int.reduceEq, ne_eq, not_false_eq_true, and_self, fp_26_2, fp_41_1, ix_24, ld_24, ld_26, ld_3, part_41, size_24, size_41, und_24, und_4, zero_24, hk, e2, f2.ok, r2, e3, j4, d1, d2, known_23]
    exact ⟨trivial, f3⟩
  | false =>
  have d1' := of_decide_eq_false d1
  have d2' := of_decide_eq_false d2
  have two : twoB s one other = true := by
    unfold twoB
    rw [ok, hin, hon, bne, j4]; rfl
  have hl' := hl
  obtain ⟨_, hne, ⟨i, T, rfl, hT⟩, j, U, rfl, hU⟩ := twoB_at two
  have hil := (List.getElem?_eq_some_iff.1 hT).1
  have tok := Sheet.ok_tars ok T (List.mem_of_getElem? hT)
  have tk := Tar.ok_at tok
  obtain ⟨bt, ot, spt, rowt, rfl, rrt, et⟩ := LS.at (n := 0) (c := 0) x3 hT
  have kt1 : rowt[ot + i * 5 + 1]? = some (.int .i64 T.coins) := by
    rcases x3 with hx | ⟨bb, oo, spp, roww, he, hr, hx⟩
    · rw [hx] at hil; simp at hil
    · simp at he
      obtain ⟨rfl, rfl, rfl⟩ := he
      rw [rrt] at hr; simp at hr; subst hr
      exact (hx _ _ hT).2 1 (by omega)
  simp (maxDischargeDepth := 30) only [AMS, AMH, ↓reduceIte, Nat.reduceLT, Nat.reduceEqDiff, Nat.reduceAdd, Nat.reduceMul, reduceCtorEq, decide_true, decide_false, Nat.reduceLeDiff, Int.reduceNe, Int.reduceEq, ne_eq, not_false_eq_true, and_self, fp_26_2, fp_41_1, ix_24, ld_24, ld_26, ld_3, part_41, size_24, size_41, und_24, und_4, zero_24, hk, e2, f2.ok, r2, e3, j4, d1, d2, f3.ok, r3]
  refine W_call (change_48 f3.ok (by have := f3.next; omega) (hs.fr hk f3) (hv.fr hk f3) two hl hT hU) ?_
  rintro R h4 ⟨hR, fr4⟩
  have f4 := f3.trans fr4
  have r4 := fr4.row' f3.ok r3
  have okc := Sheet.coin_ok (i := i) ok tok (n := co) (by omega) (by omega)
  have hTc : (s.coin i T co).tars[i]? = some (T.coin co) := List.getElem?_set_self hil
  have own : T.coin T.coins = T := rfl
  have ao : apart T.coins T.coins = 0 := by unfold apart; split <;> omega
  rcases hR with ⟨n, hn, rfl⟩ | ⟨hn, rfl⟩
  · simp (maxDischargeDepth := 30) only [AMS, AMH, ↓reduceIte, Nat.reduceLT, Nat.reduceEqDiff, Nat.reduceAdd, Nat.reduceMul, reduceCtorEq, decide_true, decide_false, Nat.reduceLeDiff, Int.reduceNe, Int.reduceEq, ne_eq, not_false_eq_true, and_self, fp_26_2, fp_41_1, ix_24, ld_24, ld_26, ld_3, part_41, size_24, size_41, und_24, und_4, zero_24, f4.ok, r4]
    refine W_call (total_25 f4.ok (by have := f4.next; omega) (hs.fr hk f4) (hv.fr hk f4) ok hl hT) ?_
    rintro _ h5 ⟨rfl, fr5⟩
    have f5 := f4.trans fr5
    have r5 := fr5.row' f4.ok r4
    simp (maxDischargeDepth := 30) only [AMS, AMH, ↓reduceIte, Nat.reduceLT, Nat.reduceEqDiff, Nat.reduceAdd, Nat.reduceMul, reduceCtorEq, decide_true, decide_false, Nat.reduceLeDiff, Int.reduceNe, Int.reduceEq, ne_eq, not_false_eq_true, and_self, fp_26_2, fp_41_1, ix_24, ld_24, ld_26, ld_3, part_41, size_24, size_41, und_24, und_4, zero_24, f5.ok, r5]
    refine W_call (total_25 f5.ok (by have := f5.next; omega) (hs.fr hk f5) (hv.fr hk f5) ok hl hU) ?_
    rintro _ h6 ⟨rfl, fr6⟩
    have f6 := f5.trans fr6
    have r6 := fr6.row' f5.ok r5
    simp (maxDischargeDepth := 30) only [AMS, AMH, ↓reduceIte, Nat.reduceLT, Nat.reduceEqDiff, Nat.reduceAdd, Nat.reduceMul, reduceCtorEq, decide_true, decide_false, Nat.reduceLeDiff, Int.reduceNe, Int.reduceEq, ne_eq, not_false_eq_true, and_self, fp_26_2, fp_41_1, ix_24, ld_24, ld_26, ld_3, part_41, size_24, size_41, und_24, und_4, zero_24, f6.ok, r6]
    refine W_call (costing_50 f6.ok (by have := f6.next; omega) (hs.fr hk f6) hT (by omega) co) ?_
    rintro _ h7 ⟨cc, rfl, hs7, fr7⟩
    have f7 := f6.trans fr7
    have r7 := fr7.row' f6.ok r6
    simp (maxDischargeDepth := 30) only [AMS, AMH, ↓reduceIte, Nat.reduceLT, Nat.reduceEqDiff, Nat.reduceAdd, Nat.reduceMul, reduceCtorEq, decide_true, decide_false, Nat.reduceLeDiff, Int.reduceNe, Int.reduceEq, ne_eq, not_false_eq_true, and_self, fp_26_2, fp_41_1, ix_24, ld_24, ld_26, ld_3, part_41, size_24, size_41, und_24, und_4, zero_24, f7.ok, r7]
    refine W_call (total_25 f7.ok (by have := f7.next; omega) hs7 (hv.fr hk f7) okc hl hTc) ?_
    rintro _ h8 ⟨rfl, fr8⟩
    have f8 := f7.trans fr8
    have r8 := fr8.row' f7.ok r7
    have rrt8 := f8.row' hk rrt
    have eC : paid (T.coin co) (s.coin i T co).boards l = paid (T.coin co) s.boards l := rfl
    rw [eC]
    have hn' := hn
    obtain ⟨b0, b1, b2, b3⟩ := hn'
    have b2' : paid (T.coin n) s.boards l = paid U s.boards l := b2
    have c1' : decide (n < 0) = false := by simp; omega
    have c2' : decide (n > 500) = false := by simp; omega
    have okn := Sheet.coin_ok (i := i) ok tok (n := n) (by omega) (by omega)
    have hTn : (s.coin i T n).tars[i]? = some (T.coin n) := List.getElem?_set_self hil
    simp (maxDischargeDepth := 30) only [AMS, AMH, ↓reduceIte, Nat.reduceLT, Nat.reduceEqDiff, Nat.reduceAdd, Nat.reduceMul, reduceCtorEq, decide_true, decide_false, Nat.reduceLeDiff, Int.reduceNe, Int.reduceEq, ne_eq, not_false_eq_true, and_self, fp_26_2, fp_41_1, ix_24, ld_24, ld_26, ld_3, part_41, size_24, size_41, und_24, und_4, zero_24, f8.ok, r8, n00, c1', c2', hil, rrt8, kt1]
    refine W_call (costing_50 f8.ok (by have := f8.next; omega) (hs.fr hk f8) hT (by omega) n) ?_
    rintro _ h9 ⟨cd, rfl, hs9, fr9⟩
    have f9 := f8.trans fr9
    have r9 := fr9.row' f8.ok r8
    simp (maxDischargeDepth := 30) only [AMS, AMH, ↓reduceIte, Nat.reduceLT, Nat.reduceEqDiff, Nat.reduceAdd, Nat.reduceMul, reduceCtorEq, decide_true, decide_false, Nat.reduceLeDiff, Int.reduceNe, Int.reduceEq, ne_eq, not_false_eq_true, and_self, fp_26_2, fp_41_1, ix_24, ld_24, ld_26, ld_3, part_41, size_24, size_41, und_24, und_4, zero_24, f9.ok, r9]
    refine W_call (total_25 f9.ok (by have := f9.next; omega) hs9 (hv.fr hk f9) okn hl hTn) ?_
    rintro _ hA ⟨rfl, frA⟩
    have fA := f9.trans frA
    have eN : paid (T.coin n) (s.coin i T n).boards l = paid U s.boards l := b2
    rw [eN]
    have m1 : (paid T s.boards l == paid U s.boards l) = (n == T.coins) := by
      rw [Bool.eq_iff_iff]
      simp only [beq_iff_eq]
      constructor
      · intro q
        have := b3 T.coins (by omega) (by omega) (show paid (T.coin T.coins) s.boards l = _ by rw [own]; exact q)
        have ap : 0 ≤ apart n T.coins := by unfold apart; split <;> omega
        have an : apart n T.coins = 0 → n = T.coins := by unfold apart; split <;> omega
        rw [ao] at this
        rcases this with h | h
        · omega
        · exact an h.1
      · intro q
        subst q
        rw [← b2']; rfl
    have bxx : ((n == T.coins) != (n == T.coins)) = false := by simp
    have last : (paid (T.coin co) s.boards l != paid U s.boards l) = false → decide (apart co T.coins > apart n T.coins) = false → (apart co T.coins == apart n T.coins) = true ∧ decide (co ≥ n) = true := by
      intro q1 q2
      have q1 : paid (T.coin co) s.boards l = paid U s.boards l := by simpa using q1
      have q2 := of_decide_eq_false q2
      have := b3 co (by omega) (by omega) q1
      rcases this with h | h
      · omega
      · exact ⟨by simp [h.1], by simpa using h.2⟩
    have S_neq : ∀ c : Bool, aBin CC .neq 4 c (.bool (n == T.coins)) (.bool (n == T.coins)) = some (.bool false) := by
      intro c
      generalize (n == T.coins) = w
      cases c <;> cases w <;> kernel_rfl
    cases t1 : (paid (T.coin co) s.boards l != paid U s.boards l) with
    | true =>
      simp (maxDischargeDepth := 30) only [AMS, AMH, ↓reduceIte, Nat.reduceLT, Nat.reduceEqDiff, Nat.reduceAdd, Nat.reduceMul, reduceCtorEq, decide_true, decide_false, Nat.reduceLeDiff, Int.reduceNe, Int.reduceEq, ne_eq, not_false_eq_true, and_self, fp_26_2, fp_41_1, ix_24, ld_24, ld_26, ld_3, part_41, size_24, size_41, und_24, und_4, zero_24, fA.ok, n00, ne_self, m1, S_neq, boolIs_undef, apart_51 co T.coins (by omega) (by omega), apart_51 n T.coins (by omega) (by omega), t1, known_23]
      exact ⟨trivial, fA⟩
    | false =>
      cases t2 : decide (apart co T.coins > apart n T.coins) with
      | true =>
        simp (maxDischargeDepth := 30) only [AMS, AMH, ↓reduceIte, Nat.reduceLT, Nat.reduceEqDiff, Nat.reduceAdd, Nat.reduceMul, reduceCtorEq, decide_true, decide_false, Nat.reduceLeDiff, Int.reduceNe, Int.reduceEq, ne_eq, not_false_eq_true, and_self, fp_26_2, fp_41_1, ix_24, ld_24, ld_26, ld_3, part_41, size_24, size_41, und_24, und_4, zero_24, fA.ok, n00, ne_self, m1, S_neq, boolIs_undef, apart_51 co T.coins (by omega) (by omega), apart_51 n T.coins (by omega) (by omega), t1, t2, known_23]
        exact ⟨trivial, fA⟩
      | false =>
        obtain ⟨t3, t4⟩ := last t1 t2
        simp (maxDischargeDepth := 30) only [AMS, AMH, ↓reduceIte, Nat.reduceLT, Nat.reduceEqDiff, Nat.reduceAdd, Nat.reduceMul, reduceCtorEq, decide_true, decide_false, Nat.reduceLeDiff, Int.reduceNe, Int.reduceEq, ne_eq, not_false_eq_true, and_self, fp_26_2, fp_41_1, ix_24, ld_24, ld_26, ld_3, part_41, size_24, size_41, und_24, und_4, zero_24, fA.ok, n00, ne_self, m1, S_neq, boolIs_undef, apart_51 co T.coins (by omega) (by omega), apart_51 n T.coins (by omega) (by omega), t1, t2, t3, t4, known_23]
        exact ⟨trivial, fA⟩
  · simp (maxDischargeDepth := 30) only [AMS, AMH, ↓reduceIte, Nat.reduceLT, Nat.reduceEqDiff, Nat.reduceAdd, Nat.reduceMul, reduceCtorEq, decide_true, decide_false, Nat.reduceLeDiff, Int.reduceNe, Int.reduceEq, ne_eq, not_false_eq_true, and_self, fp_26_2, fp_41_1, ix_24, ld_24, ld_26, ld_3, part_41, size_24, size_41, und_24, und_4, zero_24, f4.ok, r4]
    refine W_call (total_25 f4.ok (by have := f4.next; omega) (hs.fr hk f4) (hv.fr hk f4) ok hl hT) ?_
    rintro _ h5 ⟨rfl, fr5⟩
    have f5 := f4.trans fr5
    have r5 := fr5.row' f4.ok r4
    simp (maxDischargeDepth := 30) only [AMS, AMH, ↓reduceIte, Nat.reduceLT, Nat.reduceEqDiff, Nat.reduceAdd, Nat.reduceMul, reduceCtorEq, decide_true, decide_false, Nat.reduceLeDiff, Int.reduceNe, Int.reduceEq, ne_eq, not_false_eq_true, and_self, fp_26_2, fp_41_1, ix_24, ld_24, ld_26, ld_3, part_41, size_24, size_41, und_24, und_4, zero_24, f5.ok, r5]
    refine W_call (total_25 f5.ok (by have := f5.next; omega) (hs.fr hk f5) (hv.fr hk f5) ok hl hU) ?_
    rintro _ h6 ⟨rfl, fr6⟩
    have f6 := f5.trans fr6
    have r6 := fr6.row' f5.ok r5
    simp (maxDischargeDepth := 30) only [AMS, AMH, ↓reduceIte, Nat.reduceLT, Nat.reduceEqDiff, Nat.reduceAdd, Nat.reduceMul, reduceCtorEq, decide_true, decide_false, Nat.reduceLeDiff, Int.reduceNe, Int.reduceEq, ne_eq, not_false_eq_true, and_self, fp_26_2, fp_41_1, ix_24, ld_24, ld_26, ld_3, part_41, size_24, size_41, und_24, und_4, zero_24, f6.ok, r6]
    refine W_call (costing_50 f6.ok (by have := f6.next; omega) (hs.fr hk f6) hT (by omega) co) ?_
    rintro _ h7 ⟨cc, rfl, hs7, fr7⟩
    have f7 := f6.trans fr7
    have r7 := fr7.row' f6.ok r6
    simp (maxDischargeDepth := 30) only [AMS, AMH, ↓reduceIte, Nat.reduceLT, Nat.reduceEqDiff, Nat.reduceAdd, Nat.reduceMul, reduceCtorEq, decide_true, decide_false, Nat.reduceLeDiff, Int.reduceNe, Int.reduceEq, ne_eq, not_false_eq_true, and_self, fp_26_2, fp_41_1, ix_24, ld_24, ld_26, ld_3, part_41, size_24, size_41, und_24, und_4, zero_24, f7.ok, r7]
    refine W_call (total_25 f7.ok (by have := f7.next; omega) hs7 (hv.fr hk f7) okc hl hTc) ?_
    rintro _ h8 ⟨rfl, fr8⟩
    have f8 := f7.trans fr8
    have r8 := fr8.row' f7.ok r7
    have rrt8 := f8.row' hk rrt
    have eC : paid (T.coin co) (s.coin i T co).boards l = paid (T.coin co) s.boards l := rfl
    rw [eC]
    have t1 : (paid T s.boards l != paid U s.boards l) = true := by
      have : paid T s.boards l ≠ paid U s.boards l := fun q => hn T.coins (by omega) (by omega) (show paid (T.coin T.coins) s.boards l = _ by rw [own]; exact q)
      simpa using this
    have t2 : (paid (T.coin co) s.boards l != paid U s.boards l) = true := by
      have : paid (T.coin co) s.boards l ≠ paid U s.boards l := fun q => hn co (by omega) (by omega) q
      simpa using this
    simp (maxDischargeDepth := 30) only [AMS, AMH, ↓reduceIte, Nat.reduceLT, Nat.reduceEqDiff, Nat.reduceAdd, Nat.reduceMul, reduceCtorEq, decide_true, decide_false, Nat.reduceLeDiff, Int.reduceNe, Int.reduceEq, ne_eq, not_false_eq_true, and_self, fp_26_2, fp_41_1, ix_24, ld_24, ld_26, ld_3, part_41, size_24, size_41, und_24, und_4, zero_24, f8.ok, n00, n50, n55, t1, t2, known_23]
    exact ⟨trivial, f8⟩
end Go.Am
