/- Parts 86 of the abstract machine over this program, joined: what each part says stands at its head. -/
import Derived.Test.YtfnkjclplfhjcaaGreatDoorJ85
set_option linter.unusedSimpArgs false
set_option linter.unusedVariables false
/- The abstract machine, part 86: the statement PriceMore, on the machine. -/
namespace Go.Am
open Go Go.Proofs

theorem flat_put {α : Type} {f : α → List Value} {s : Nat} (hf : ∀ x, (f x).length = s) : ∀ (xs : List α) (i : Nat) (x' : α), i < xs.length → (xs.flatMap f).take (i * s) ++ (f x' ++ (xs.flatMap f).drop (i * s + s)) = (xs.set i x').flatMap f
  | [], i, x', h => by simp at h
  | y :: ys, 0, x', h => by
    simp only [List.flatMap_cons, List.set_cons_zero, Nat.zero_mul, Nat.zero_add, List.take_zero, List.nil_append]
    rw [List.drop_append_of_le_length (by rw [hf]; exact Nat.le_refl _), List.drop_of_length_le (l := f y) (by rw [hf]; exact Nat.le_refl _), List.nil_append]
  | y :: ys, i + 1, x', h => by
    have ih := flat_put hf ys i x' (by simpa using h)
    have e1 : (i + 1) * s = (f y).length + i * s := by rw [hf, Nat.add_mul]; omega
    have e2 : (i + 1) * s + s = (f y).length + (i * s + s) := by rw [e1]; omega
    simp only [List.flatMap_cons, List.set_cons_succ]
    rw [e2, e1, ← ih]
    rw [List.take_length_add_append, List.drop_length_add_append, List.append_assoc]

theorem write_put {α : Type} {f : α → List Value} {s : Nat} (hf : ∀ x, (f x).length = s) (hs : 2 ≤ s) {xs : List α} {i : Nat} (x' : α) (hi : i < xs.length) : write? (xs.flatMap f) (i * s) (f x') = some ((xs.set i x').flatMap f) := by
  have hl : i * s + (f x').length ≤ (xs.flatMap f).length := by
    rw [flat_len hf, hf, ← Nat.succ_mul]; exact Nat.mul_le_mul_right s hi
  have : Nat.ble (i * s + (f x').length) (xs.flatMap f).length = true := Nat.ble_eq_true_of_le hl
  have e := flat_put hf xs i x' hi
  have h2 := hf x'
  rw [← e]
  unfold write?
  split
  · rename_i v he; rw [he] at h2; simp at h2; omega
  · rw [this]; rw [hf]

set_option maxRecDepth 10000 in
set_option maxHeartbeats 4000000 in
theorem more_16 {h : Heap} (hk : HOK h) (hp : 0 < h.next) {a b c v : Value} {s : Sheet} {l : List Int} (hs : IsSheet h a b c s) (hv : LS h v l ints 1) (t bd mo le : Int) :
    CW CC 16 [.agg ⟨[a, b, c]⟩, .int .i64 t, v, .int .i64 bd, .int .i64 mo, .int .i64 le] h fun r h' => r = .bool true ∧ Fr h h' := by
  obtain ⟨p1, c1, rfl, _⟩ := hs.offs.open
  obtain ⟨p2, c2, rfl, x2⟩ := hs.boards.open
  obtain ⟨p3, c3, rfl, x3⟩ := hs.tars.open
  obtain ⟨p4, c4, rfl, _⟩ := hv.open
  refine CW_in Tryz.f16 (by kernel_rfl) (by kernel_rfl) rfl rfl ?_
  simp only [Tryz.f16]
  have f1 : Fr h (h.alloc (.row [.slice p1 s.offs.length c1, .slice p2 s.boards.length c2, .slice p3 s.tars.length c3] 0 true)) := (Fr.refl hk).alloc _
  have r1 : rowAt (h.alloc (.row [.slice p1 s.offs.length c1, .slice p2 s.boards.length c2, .slice p3 s.tars.length c3] 0 true)) h.next = some [.slice p1 s.offs.length c1, .slice p2 s.boards.length c2, .slice p3 s.tars.length c3] := rowAt_new _ _ _ _
  obtain ⟨_, h2, e2, rfl, fr2⟩ := asked_22 f1.ok (hs.fr hk f1) (hv.fr hk f1) t
  have f2 := f1.trans fr2
  have r2 := fr2.row' f1.ok r1
  cases hask : askedB s t l with
  | false =>
    rw [hask] at e2
    simp (maxDischargeDepth := 30) only [AMS, AMH, ↓reduceIte, Nat.reduceLT, Nat.reduceEqDiff, Nat.reduceAdd, Nat.reduceMul, reduceCtorEq, decide_true, decide_false, Nat.reduceLeDiff, Int.reduceNe, Int.reduceEq, ne_eq, not_false_eq_true, and_self, bld_72, fld_72_0, fld_72_1, fld_72_2, fld_72_3, fp_26_1, fp_26_2, fp_30_0, fp_30_1, fp_41_1, fp_41_2, fp_72_0, fp_72_1, fp_72_2, fp_72_3, ix_22, ix_23, ix_24, ld_23, ld_24, ld_26, ld_3, ld_41, ld_72, len_23, part_3, part_41, part_72, size_22, size_23, size_24, size_26, size_3, size_30, size_41, size_72, sp_72_0, sp_72_1, sp_72_2, sp_72_3, und_22, und_23, und_24, und_3, zero_22, zero_23, zero_24, zero_26, zero_3, zero_30, zero_41, zero_72, hk, e2, known_23]
    exact ⟨trivial, f2⟩
  | true =>
  rw [hask] at e2
  unfold askedB at hask
  simp only [Bool.and_eq_true] at hask
  obtain ⟨⟨_, ok⟩, _, hin, hl⟩ := hask
  have hin := of_decide_eq_true hin
  obtain ⟨i, rfl⟩ : ∃ i : Nat, t = i := ⟨t.toNat, by omega⟩
  obtain ⟨T, hT⟩ : ∃ T, s.tars[i]? = some T := ⟨_, List.getElem?_eq_getElem (by omega)⟩
  have hil := (List.getElem?_eq_some_iff.1 hT).1
  have tok := Sheet.ok_tars ok T (List.mem_of_getElem? hT)
  have tk := Tar.ok_at tok
  have hlen := Sheet.ok_len ok
  have hll := (hoursOK_at hl).1
  cases d1 : decide (bd < 0) with
  | true =>
    simp (maxDischargeDepth := 30) only [AMS, AMH, ↓reduceIte, Nat.reduceLT, Nat.reduceEqDiff, Nat.reduceAdd, Nat.reduceMul, reduceCtorEq, decide_true, decide_false, Nat.reduceLeDiff, Int.reduceNe, Int.reduceEq, ne_eq, not_false_eq_true, and_self, bld_72, fld_72_0, fld_72_1, fld_72_2, fld_72_3, fp_26_1, fp_26_2, fp_30_0, fp_30_1, fp_41_1, fp_41_2, fp_72_0, fp_72_1, fp_72_2, fp_72_3, ix_22, ix_23, ix_24, ld_23, ld_24, ld_26, ld_3, ld_41, ld_72, len_23, part_3, part_41, part_72, size_22, size_23, size_24, size_26, size_3, size_30, size_41, size_72, sp_72_0, sp_72_1, sp_72_2, sp_72_3, und_22, und_23, und_24, und_3, zero_22, zero_23, zero_24, zero_26, zero_3, zero_30, zero_41, zero_72, hk, e2, d1, known_23]
    exact ⟨trivial, f2⟩
  | false =>
  cases d2 : decide (bd ≥ (s.boards.length : Int)) with
  | true =>
    simp (maxDischargeDepth := 30) only [AMS, AMH, ↓reduceIte, Nat.reduceLT, Nat.reduceEqDiff, Nat.reduceAdd, Nat.reduceMul, reduceCtorEq, decide_true, decide_false, Nat.reduceLeDiff, Int.reduceNe, Int.reduceEq, ne_eq, not_false_eq_true, and_self, bld_72, fld_72_0, fld_72_1, fld_72_2, fld_72_3, fp_26_1, fp_26_2, fp_30_0, fp_30_1, fp_41_1, fp_41_2, fp_72_0, fp_72_1, fp_72_2, fp_72_3, ix_22, ix_23, ix_24, ld_23, ld_24, ld_26, ld_3, ld_41, ld_72, len_23, part_3, part_41, part_72, size_22, size_23, size_24, size_26, size_3, size_30, size_41, size_72, sp_72_0, sp_72_1, sp_72_2, sp_72_3, und_22, und_23, und_24, und_3, zero_22, zero_23, zero_24, zero_26, zero_3, zero_30, zero_41, zero_72, hk, e2, f2.ok, r2, d1, d2, known_23]
    exact ⟨trivial, f2⟩
  | false =>
  cases d3 : decide (mo < 0) with
  | true =>
    simp (maxDischargeDepth := 30) only [AMS, AMH, ↓reduceIte, Nat.reduceLT, Nat.reduceEqDiff, Nat.reduceAdd, Nat.reduceMul, reduceCtorEq, decide_true, decide_false, Nat.reduceLeDiff, Int.reduceNe, Int.reduceEq, ne_eq, not_false_eq_true, and_self, bld_72, fld_72_0, fld_72_1, fld_72_2, fld_72_3, fp_26_1, fp_26_2, fp_30_0, fp_30_1, fp_41_1, fp_41_2, fp_72_0, fp_72_1, fp_72_2, fp_72_3, ix_22, ix_23, ix_24, ld_23, ld_24, ld_26, ld_3, ld_41, ld_72, len_23, part_3, part_41, part_72, size_22, size_23, size_24, size_26, size_3, size_30, size_41, size_72, sp_72_0, sp_72_1, sp_72_2, sp_72_3, und_22, und_23, und_24, und_3, zero_22, zero_23, zero_24, zero_26, zero_3, zero_30, zero_41, zero_72, hk, e2, f2.ok, r2, d1, d2, d3, known_23]
    exact ⟨trivial, f2⟩
  | false =>
  cases d4 : decide (mo > 500) with
  | true =>
    simp (maxDischargeDepth := 30) only [AMS, AMH, ↓reduceIte, Nat.reduceLT, Nat.reduceEqDiff, Nat.reduceAdd, Nat.reduceMul, reduceCtorEq, decide_true, decide_false, Nat.reduceLeDiff, Int.reduceNe, Int.reduceEq, ne_eq, not_false_eq_true, and_self, bld_72, fld_72_0, fld_72_1, fld_72_2, fld_72_3, fp_26_1, fp_26_2, fp_30_0, fp_30_1, fp_41_1, fp_41_2, fp_72_0, fp_72_1, fp_72_2, fp_72_3, ix_22, ix_23, ix_24, ld_23, ld_24, ld_26, ld_3, ld_41, ld_72, len_23, part_3, part_41, part_72, size_22, size_23, size_24, size_26, size_3, size_30, size_41, size_72, sp_72_0, sp_72_1, sp_72_2, sp_72_3, und_22, und_23, und_24, und_3, zero_22, zero_23, zero_24, zero_26, zero_3, zero_30, zero_41, zero_72, hk, e2, f2.ok, r2, d1, d2, d3, d4, known_23]
    exact ⟨trivial, f2⟩
  | false =>
  cases d5 : decide (le < 0) with
  | true =>
    simp (maxDischargeDepth := 30) only [AMS, AMH, ↓reduceIte, Nat.reduceLT, Nat.reduceEqDiff, Nat.reduceAdd, Nat.reduceMul, reduceCtorEq, decide_true, decide_false, Nat.reduceLeDiff, Int.reduceNe, Int.reduceEq, ne_eq, not_false_eq_true, and_self, bld_72, fld_72_0, fld_72_1, fld_72_2, fld_72_3, fp_26_1, fp_26_2, fp_30_0, fp_30_1, fp_41_1, fp_41_2, fp_72_0, fp_72_1, fp_72_2, fp_72_3, ix_22, ix_23, ix_24, ld_23, ld_24, ld_26, ld_3, ld_41, ld_72, len_23, part_3, part_41, part_72, size_22, size_23, size_24, size_26, size_3, size_30, size_41, size_72, sp_72_0, sp_72_1, sp_72_2, sp_72_3, und_22, und_23, und_24, und_3, zero_22, zero_23, zero_24, zero_26, zero_3, zero_30, zero_41, zero_72, hk, e2, f2.ok, r2, d1, d2, d3, d4, d5, known_23]
    exact ⟨trivial, f2⟩
  | false =>
  cases d6 : decide (le > 12) with
  | true =>
    simp (maxDischargeDepth := 30) only [AMS, AMH, ↓reduceIte, Nat.reduceLT, Nat.reduceEqDiff, Nat.reduceAdd, Nat.reduceMul, reduceCtorEq, decide_true, decide_false, Nat.reduceLeDiff, Int.reduceNe, Int.reduceEq, ne_eq, not_false_eq_true, and_self, bld_72, fld_72_0, fld_72_1, fld_72_2, fld_72_3, fp_26_1, fp_26_2, fp_30_0, fp_30_1, fp_41_1, fp_41_2, fp_72_0, fp_72_1, fp_72_2, fp_72_3, ix_22, ix_23, ix_24, ld_23, ld_24, ld_26, ld_3, ld_41, ld_72, len_23, part_3, part_41, part_72, size_22, size_23, size_24, size_26, size_3, size_30, size_41, size_72, sp_72_0, sp_72_1, sp_72_2, sp_72_3, und_22, und_23, und_24, und_3, zero_22, zero_23, zero_24, zero_26, zero_3, zero_30, zero_41, zero_72, hk, e2, f2.ok, r2, d1, d2, d3, d4, d5, d6, known_23]
    exact ⟨trivial, f2⟩
  | false =>
  have d1' := of_decide_eq_false d1
  have d2' := of_decide_eq_false d2
  have d3' := of_decide_eq_false d3
  have d4' := of_decide_eq_false d4
  have d5' := of_decide_eq_false d5
  have d6' := of_decide_eq_false d6
  obtain ⟨j, rfl⟩ : ∃ j : Nat, bd = j := ⟨bd.toNat, by omega⟩
  have hjl : j < s.boards.length := by omega
  obtain ⟨B, hB⟩ : ∃ B, s.boards[j]? = some B := ⟨_, List.getElem?_eq_getElem hjl⟩
  have hjl' : j < l.length := by omega
  obtain ⟨x, hx⟩ : ∃ x, l[j]? = some x := ⟨_, List.getElem?_eq_getElem hjl'⟩
  have bok := of_decide_eq_true (Sheet.ok_boards ok B (List.mem_of_getElem? hB))
  obtain ⟨lh1, lh2⟩ := (hoursOK_at hl).2 j x B hx hB
  obtain ⟨bt, ot, spt, rowt, rfl, rrt, et⟩ := LS.at (n := 0) (c := 0) x3 hT
  obtain ⟨bb, ob, spb, rowb, rfl, rrb, eb⟩ := LS.at (n := 0) (c := 0) x2 hB
  obtain ⟨ok', hl', q0, q1, q2⟩ := more_law (more := mo) (less := le) ok hl hT hB hx (by omega) (by omega)
  simp (maxDischargeDepth := 30) only [AMS, AMH, ↓reduceIte, Nat.reduceLT, Nat.reduceEqDiff, Nat.reduceAdd, Nat.reduceMul, reduceCtorEq, decide_true, decide_false, Nat.reduceLeDiff, Int.reduceNe, Int.reduceEq, ne_eq, not_false_eq_true, and_self, bld_72, fld_72_0, fld_72_1, fld_72_2, fld_72_3, fp_26_1, fp_26_2, fp_30_0, fp_30_1, fp_41_1, fp_41_2, fp_72_0, fp_72_1, fp_72_2, fp_72_3, ix_22, ix_23, ix_24, ld_23, ld_24, ld_26, ld_3, ld_41, ld_72, len_23, part_3, part_41, part_72, size_22, size_23, size_24, size_26, size_3, size_30, size_41, size_72, sp_72_0, sp_72_1, sp_72_2, sp_72_3, und_22, und_23, und_24, und_3, zero_22, zero_23, zero_24, zero_26, zero_3, zero_30, zero_41, zero_72, hk, e2, f2.ok, r2, d1, d2, d3, d4, d5, d6]
  have f23 : Fr h2 ((h2.alloc (.row [.slice none 0 0, .slice none 0 0, .slice none 0 0] 0 true)).set h2.next (.row [.slice p1 s.offs.length c1, .slice (some ⟨bb, ob, spb⟩) s.boards.length c2, .slice (some ⟨bt, ot, spt⟩) s.tars.length c3] 0 true)) := ((Fr.refl f2.ok).alloc _).set (Nat.le_refl _) (by simp) _
  have g3 : ((h2.alloc (.row [.slice none 0 0, .slice none 0 0, .slice none 0 0] 0 true)).set h2.next (.row [.slice p1 s.offs.length c1, .slice (some ⟨bb, ob, spb⟩) s.boards.length c2, .slice (some ⟨bt, ot, spt⟩) s.tars.length c3] 0 true)).get h2.next = some (.row [.slice p1 s.offs.length c1, .slice (some ⟨bb, ob, spb⟩) s.boards.length c2, .slice (some ⟨bt, ot, spt⟩) s.tars.length c3] 0 true) := Heap.get_set_self _ _ _
  have n3 : ((h2.alloc (.row [.slice none 0 0, .slice none 0 0, .slice none 0 0] 0 true)).set h2.next (.row [.slice p1 s.offs.length c1, .slice (some ⟨bb, ob, spb⟩) s.boards.length c2, .slice (some ⟨bt, ot, spt⟩) s.tars.length c3] 0 true)).next = h2.next + 1 := by simp
  generalize ((h2.alloc (.row [.slice none 0 0, .slice none 0 0, .slice none 0 0] 0 true)).set h2.next (.row [.slice p1 s.offs.length c1, .slice (some ⟨bb, ob, spb⟩) s.boards.length c2, .slice (some ⟨bt, ot, spt⟩) s.tars.length c3] 0 true)) = h3 at f23 g3 n3 ⊢
  have f3 := f2.trans f23
  have r3 := f23.row' f2.ok r2
  obtain ⟨h4, e4, g4, _, fr4, n4⟩ := copy_at (ts := []) app_23 (Fr.refl f3.ok) (by omega) Board.len (boards_one s.boards) (hs.fr hk f3).boards (by omega) (by omega)
  have f4 := f3.trans fr4
  have g34 := fr4.get' f3.ok g3
  have f24 := f23.trans fr4
  have f25 : Fr h2 (h4.set h2.next (.row [.slice p1 s.offs.length c1, .slice (some ⟨h3.next, 0, some 5⟩) s.boards.length s.boards.length, .slice (some ⟨bt, ot, spt⟩) s.tars.length c3] 0 true)) := f24.set (Nat.le_refl _) (by omega) _
  have g5 : (h4.set h2.next (.row [.slice p1 s.offs.length c1, .slice (some ⟨h3.next, 0, some 5⟩) s.boards.length s.boards.length, .slice (some ⟨bt, ot, spt⟩) s.tars.length c3] 0 true)).get h2.next = some (.row [.slice p1 s.offs.length c1, .slice (some ⟨h3.next, 0, some 5⟩) s.boards.length s.boards.length, .slice (some ⟨bt, ot, spt⟩) s.tars.length c3] 0 true) := Heap.get_set_self _ _ _
  have y5 : (h4.set h2.next (.row [.slice p1 s.offs.length c1, .slice (some ⟨h3.next, 0, some 5⟩) s.boards.length s.boards.length, .slice (some ⟨bt, ot, spt⟩) s.tars.length c3] 0 true)).get h3.next = some (.row (s.boards.flatMap Board.cells) 5 true) := by rw [Heap.get_set_ne _ _ (by omega)]; exact g4
  have n5 : (h4.set h2.next (.row [.slice p1 s.offs.length c1, .slice (some ⟨h3.next, 0, some 5⟩) s.boards.length s.boards.length, .slice (some ⟨bt, ot, spt⟩) s.tars.length c3] 0 true)).next = h4.next := by simp
  have tl : T.cells.length = 5 := rfl
  have ta : allOne T.cells = true := rfl
  have bl : B.cells.length = 5 := rfl
  have ba : allOne B.cells = true := rfl
  simp (maxDischargeDepth := 30) only [AMS, AMH, ↓reduceIte, Nat.reduceLT, Nat.reduceEqDiff, Nat.reduceAdd, Nat.reduceMul, reduceCtorEq, decide_true, decide_false, Nat.reduceLeDiff, Int.reduceNe, Int.reduceEq, ne_eq, not_false_eq_true, and_self, bld_72, fld_72_0, fld_72_1, fld_72_2, fld_72_3, fp_26_1, fp_26_2, fp_30_0, fp_30_1, fp_41_1, fp_41_2, fp_72_0, fp_72_1, fp_72_2, fp_72_3, ix_22, ix_23, ix_24, ld_23, ld_24, ld_26, ld_3, ld_41, ld_72, len_23, part_3, part_41, part_72, size_22, size_23, size_24, size_26, size_3, size_30, size_41, size_72, sp_72_0, sp_72_1, sp_72_2, sp_72_3, und_22, und_23, und_24, und_3, zero_22, zero_23, zero_24, zero_26, zero_3, zero_30, zero_41, zero_72, f3.ok, r3, e4, g34, List.set_cons_succ, List.set_cons_zero]
  generalize (h4.set h2.next (.row [.slice p1 s.offs.length c1, .slice (some ⟨h3.next, 0, some 5⟩) s.boards.length s.boards.length, .slice (some ⟨bt, ot, spt⟩) s.tars.length c3] 0 true)) = h5 at f25 g5 y5 n5 ⊢
  have f5 := f2.trans f25
  have r5 := f25.row' f2.ok r2
  have rrb5 := f5.row' hk rrb
  simp (maxDischargeDepth := 30) only [AMS, AMH, ↓reduceIte, Nat.reduceLT, Nat.reduceEqDiff, Nat.reduceAdd, Nat.reduceMul, reduceCtorEq, decide_true, decide_false, Nat.reduceLeDiff, Int.reduceNe, Int.reduceEq, ne_eq, not_false_eq_true, and_self, bld_72, fld_72_0, fld_72_1, fld_72_2, fld_72_3, fp_26_1, fp_26_2, fp_30_0, fp_30_1, fp_41_1, fp_41_2, fp_72_0, fp_72_1, fp_72_2, fp_72_3, ix_22, ix_23, ix_24, ld_23, ld_24, ld_26, ld_3, ld_41, ld_72, len_23, part_3, part_41, part_72, size_22, size_23, size_24, size_26, size_3, size_30, size_41, size_72, sp_72_0, sp_72_1, sp_72_2, sp_72_3, und_22, und_23, und_24, und_3, zero_22, zero_23, zero_24, zero_26, zero_3, zero_30, zero_41, zero_72, f5.ok, r5, hjl, rrb5, eb, bl, ba]
  have f56 : Fr h5 ((h5.alloc (.row [.int .i64 0, .int .i64 0, .int .i64 0, .int .i64 0, .int .i64 0] 0 true)).set h5.next (.row B.cells 0 true)) := ((Fr.refl f5.ok).alloc _).set (Nat.le_refl _) (by simp) _
  have b6 : rowAt ((h5.alloc (.row [.int .i64 0, .int .i64 0, .int .i64 0, .int .i64 0, .int .i64 0] 0 true)).set h5.next (.row B.cells 0 true)) h5.next = some B.cells := rowAt_set_self _ _ _ _ _
  generalize ((h5.alloc (.row [.int .i64 0, .int .i64 0, .int .i64 0, .int .i64 0, .int .i64 0] 0 true)).set h5.next (.row B.cells 0 true)) = h6 at f56 b6 ⊢
  have f6 := f5.trans f56
  have f26 := f25.trans f56
  have r6 := f26.row' f2.ok r2
  have g6 := f56.get' f5.ok g5
  have y6 := f56.get' f5.ok y5
  have x6 : rowAt h6 h2.next = some [.slice p1 s.offs.length c1, .slice (some ⟨h3.next, 0, some 5⟩) s.boards.length s.boards.length, .slice (some ⟨bt, ot, spt⟩) s.tars.length c3] := by unfold rowAt; rw [g6]; rfl
  have kb0 : B.cells[0]? = some (.int .i64 B.L) := rfl
  have kb1 : B.cells[1]? = some (.int .i64 B.F) := rfl
  have kb2 : B.cells[2]? = some (.int .i64 B.lo) := rfl
  have kb3 : B.cells[3]? = some (.int .i64 B.hi) := rfl
  have kb4 : B.cells[4]? = some (.int .i64 B.ow) := rfl
  have w1 : IntKind.i64.wrap (40 - B.hi) = 40 - B.hi := wrap64 (by omega) (by omega)
  have mb : (if 40 - B.hi < mo then 40 - B.hi else mo) = moreBy B mo := rfl
  have by0 : 0 ≤ moreBy B mo ∧ moreBy B mo ≤ 40 - B.hi := by unfold moreBy minI; split <;> omega
  have w2 : IntKind.i64.wrap (B.L + mo) = B.L + mo := wrap64 (by omega) (by omega)
  have w3 : IntKind.i64.wrap (B.F + mo) = B.F + mo := wrap64 (by omega) (by omega)
  have w4 : IntKind.i64.wrap (B.lo + moreBy B mo) = B.lo + moreBy B mo := wrap64 (by omega) (by omega)
  have w5 : IntKind.i64.wrap (B.hi + moreBy B mo) = B.hi + moreBy B mo := wrap64 (by omega) (by omega)
  simp (maxDischargeDepth := 30) only [AMS, AMH, ↓reduceIte, Nat.reduceLT, Nat.reduceEqDiff, Nat.reduceAdd, Nat.reduceMul, reduceCtorEq, decide_true, decide_false, Nat.reduceLeDiff, Int.reduceNe, Int.reduceEq, ne_eq, not_false_eq_true, and_self, bld_72, fld_72_0, fld_72_1, fld_72_2, fld_72_3, fp_26_1, fp_26_2, fp_30_0, fp_30_1, fp_41_1, fp_41_2, fp_72_0, fp_72_1, fp_72_2, fp_72_3, ix_22, ix_23, ix_24, ld_23, ld_24, ld_26, ld_3, ld_41, ld_72, len_23, part_3, part_41, part_72, size_22, size_23, size_24, size_26, size_3, size_30, size_41, size_72, sp_72_0, sp_72_1, sp_72_2, sp_72_3, und_22, und_23, und_24, und_3, zero_22, zero_23, zero_24, zero_26, zero_3, zero_30, zero_41, zero_72, f6.ok, b6, kb3, w1, min_two, mb]
  refine W_draw [(true, 0), (true, 1), (true, 2), (true, 3), (true, 4), (true, 5), (true, 6), (true, 7), (true, 8), (true, 9), (true, 10), (true, 11), (true, 12), (true, 13), (true, 14), (true, 15), (true, 16), (true, 17), (true, 18), (true, 19), (true, 20), (true, 21), (true, 22), (true, 24), (true, 25), (true, 23), (false, 1), (false, 4), (false, 7), (false, 9), (false, 12), (false, 25), (true, 26), (true, 27), (true, 28)] (by kernel_rfl) ?_
  simp (maxDischargeDepth := 30) only [AMS, AMH, ↓reduceIte, Nat.reduceLT, Nat.reduceEqDiff, Nat.reduceAdd, Nat.reduceMul, reduceCtorEq, decide_true, decide_false, Nat.reduceLeDiff, Int.reduceNe, Int.reduceEq, ne_eq, not_false_eq_true, and_self, AMR, bld_72, fld_72_0, fld_72_1, fld_72_2, fld_72_3, fp_26_1, fp_26_2, fp_30_0, fp_30_1, fp_41_1, fp_41_2, fp_72_0, fp_72_1, fp_72_2, fp_72_3, ix_22, ix_23, ix_24, ld_23, ld_24, ld_26, ld_3, ld_41, ld_72, len_23, part_3, part_41, part_72, size_22, size_23, size_24, size_26, size_3, size_30, size_41, size_72, sp_72_0, sp_72_1, sp_72_2, sp_72_3, und_22, und_23, und_24, und_3, zero_22, zero_23, zero_24, zero_26, zero_3, zero_30, zero_41, zero_72, f6.ok, r6, x6, b6, kb0, kb1, kb2, kb3, kb4, w2, w3, w4, w5, min_two]
  refine W_callP (span_27 (B.lo + moreBy B mo) (B.hi + moreBy B mo) f6.ok) ?_
  rintro _ h7 ⟨rfl, fr7⟩
  have f7 := f6.trans fr7
  have f27 := f26.trans fr7
  have r7 := fr7.row' f6.ok r6
  have x7 := fr7.row' f6.ok x6
  have b7 := fr7.row' f6.ok b6
  have g7 := fr7.get' f6.ok g6
  have y7 := fr7.get' f6.ok y6
  have n7 := fr7.next
  have n56 := f56.next
  have hw : write? (s.boards.flatMap Board.cells) (j * 5) [.int .i64 (if B.L + mo < 60 then B.L + mo else 60), .int .i64 (if B.F + mo < 40 then B.F + mo else 40), .int .i64 (B.lo + moreBy B mo), .int .i64 (B.hi + moreBy B mo), .int .i64 B.ow] = some ((s.boards.set j (moreBoard B mo)).flatMap Board.cells) := write_put Board.len (by omega) (moreBoard B mo) hjl
  simp (maxDischargeDepth := 30) only [AMS, AMH, ↓reduceIte, Nat.reduceLT, Nat.reduceEqDiff, Nat.reduceAdd, Nat.reduceMul, reduceCtorEq, decide_true, decide_false, Nat.reduceLeDiff, Int.reduceNe, Int.reduceEq, ne_eq, not_false_eq_true, and_self, AMR, bld_72, fld_72_0, fld_72_1, fld_72_2, fld_72_3, fp_26_1, fp_26_2, fp_30_0, fp_30_1, fp_41_1, fp_41_2, fp_72_0, fp_72_1, fp_72_2, fp_72_3, ix_22, ix_23, ix_24, ld_23, ld_24, ld_26, ld_3, ld_41, ld_72, len_23, part_3, part_41, part_72, size_22, size_23, size_24, size_26, size_3, size_30, size_41, size_72, sp_72_0, sp_72_1, sp_72_2, sp_72_3, und_22, und_23, und_24, und_3, zero_22, zero_23, zero_24, zero_26, zero_3, zero_30, zero_41, zero_72, f7.ok, r7, x7, b7, kb0, kb1, kb2, kb3, kb4, w2, w3, w4, w5, min_two, y7, hjl, hw]
  have f28 : Fr h2 (h7.set h3.next (.row ((s.boards.set j (moreBoard B mo)).flatMap Board.cells) 5 true)) := f27.set (by omega) (by omega) _
  have g8 : (h7.set h3.next (.row ((s.boards.set j (moreBoard B mo)).flatMap Board.cells) 5 true)).get h2.next = some (.row [.slice p1 s.offs.length c1, .slice (some ⟨h3.next, 0, some 5⟩) s.boards.length s.boards.length, .slice (some ⟨bt, ot, spt⟩) s.tars.length c3] 0 true) := by rw [Heap.get_set_ne _ _ (by omega)]; exact g7
  have y8 : rowAt (h7.set h3.next (.row ((s.boards.set j (moreBoard B mo)).flatMap Board.cells) 5 true)) h3.next = some ((s.boards.set j (moreBoard B mo)).flatMap Board.cells) := rowAt_set_self _ _ _ _ _
  have b8 : rowAt (h7.set h3.next (.row ((s.boards.set j (moreBoard B mo)).flatMap Board.cells) 5 true)) h5.next = some B.cells := by rw [rowAt_set_gt _ (by omega)]; exact b7
  have n8 : (h7.set h3.next (.row ((s.boards.set j (moreBoard B mo)).flatMap Board.cells) 5 true)).next = h7.next := by simp
  generalize (h7.set h3.next (.row ((s.boards.set j (moreBoard B mo)).flatMap Board.cells) 5 true)) = h8 at f28 g8 y8 b8 n8 ⊢
  have f8 := f2.trans f28
  have r8 := f28.row' f2.ok r2
  obtain ⟨h9, e9, g9, _, fr9, n9⟩ := copy_at (ts := []) app_24 (Fr.refl f8.ok) (by omega) Tar.len (tars_one s.tars) (hs.fr hk f8).tars (by omega) (by omega)
  have f9 := f8.trans fr9
  have g89 := fr9.get' f8.ok g8
  have y9 := fr9.row' f8.ok y8
  have f29 := f28.trans fr9
  have f2A : Fr h2 (h9.set h2.next (.row [.slice p1 s.offs.length c1, .slice (some ⟨h3.next, 0, some 5⟩) s.boards.length s.boards.length, .slice (some ⟨h8.next, 0, some 5⟩) s.tars.length s.tars.length] 0 true)) := f29.set (Nat.le_refl _) (by omega) _
  have xA : rowAt (h9.set h2.next (.row [.slice p1 s.offs.length c1, .slice (some ⟨h3.next, 0, some 5⟩) s.boards.length s.boards.length, .slice (some ⟨h8.next, 0, some 5⟩) s.tars.length s.tars.length] 0 true)) h2.next = some [.slice p1 s.offs.length c1, .slice (some ⟨h3.next, 0, some 5⟩) s.boards.length s.boards.length, .slice (some ⟨h8.next, 0, some 5⟩) s.tars.length s.tars.length] := rowAt_set_self _ _ _ _ _
  have zA : (h9.set h2.next (.row [.slice p1 s.offs.length c1, .slice (some ⟨h3.next, 0, some 5⟩) s.boards.length s.boards.length, .slice (some ⟨h8.next, 0, some 5⟩) s.tars.length s.tars.length] 0 true)).get h8.next = some (.row (s.tars.flatMap Tar.cells) 5 true) := by rw [Heap.get_set_ne _ _ (by omega)]; exact g9
  have yA : rowAt (h9.set h2.next (.row [.slice p1 s.offs.length c1, .slice (some ⟨h3.next, 0, some 5⟩) s.boards.length s.boards.length, .slice (some ⟨h8.next, 0, some 5⟩) s.tars.length s.tars.length] 0 true)) h3.next = some ((s.boards.set j (moreBoard B mo)).flatMap Board.cells) := by rw [rowAt_set_gt _ (by omega)]; exact y9
  have nA : (h9.set h2.next (.row [.slice p1 s.offs.length c1, .slice (some ⟨h3.next, 0, some 5⟩) s.boards.length s.boards.length, .slice (some ⟨h8.next, 0, some 5⟩) s.tars.length s.tars.length] 0 true)).next = h9.next := by simp
  simp (maxDischargeDepth := 30) only [AMS, AMH, ↓reduceIte, Nat.reduceLT, Nat.reduceEqDiff, Nat.reduceAdd, Nat.reduceMul, reduceCtorEq, decide_true, decide_false, Nat.reduceLeDiff, Int.reduceNe, Int.reduceEq, ne_eq, not_false_eq_true, and_self, bld_72, fld_72_0, fld_72_1, fld_72_2, fld_72_3, fp_26_1, fp_26_2, fp_30_0, fp_30_1, fp_41_1, fp_41_2, fp_72_0, fp_72_1, fp_72_2, fp_72_3, ix_22, ix_23, ix_24, ld_23, ld_24, ld_26, ld_3, ld_41, ld_72, len_23, part_3, part_41, part_72, size_22, size_23, size_24, size_26, size_3, size_30, size_41, size_72, sp_72_0, sp_72_1, sp_72_2, sp_72_3, und_22, und_23, und_24, und_3, zero_22, zero_23, zero_24, zero_26, zero_3, zero_30, zero_41, zero_72, f8.ok, r8, e9, g89, List.set_cons_succ, List.set_cons_zero]
  generalize (h9.set h2.next (.row [.slice p1 s.offs.length c1, .slice (some ⟨h3.next, 0, some 5⟩) s.boards.length s.boards.length, .slice (some ⟨h8.next, 0, some 5⟩) s.tars.length s.tars.length] 0 true)) = hA at f2A xA zA yA nA ⊢
  have fA := f2.trans f2A
  have rA := f2A.row' f2.ok r2
  have rrtA := fA.row' hk rrt
  simp (maxDischargeDepth := 30) only [AMS, AMH, ↓reduceIte, Nat.reduceLT, Nat.reduceEqDiff, Nat.reduceAdd, Nat.reduceMul, reduceCtorEq, decide_true, decide_false, Nat.reduceLeDiff, Int.reduceNe, Int.reduceEq, ne_eq, not_false_eq_true, and_self, bld_72, fld_72_0, fld_72_1, fld_72_2, fld_72_3, fp_26_1, fp_26_2, fp_30_0, fp_30_1, fp_41_1, fp_41_2, fp_72_0, fp_72_1, fp_72_2, fp_72_3, ix_22, ix_23, ix_24, ld_23, ld_24, ld_26, ld_3, ld_41, ld_72, len_23, part_3, part_41, part_72, size_22, size_23, size_24, size_26, size_3, size_30, size_41, size_72, sp_72_0, sp_72_1, sp_72_2, sp_72_3, und_22, und_23, und_24, und_3, zero_22, zero_23, zero_24, zero_26, zero_3, zero_30, zero_41, zero_72, fA.ok, rA, hil, rrtA, et, tl, ta]
  have fAB : Fr hA ((hA.alloc (.row [.int .i64 0, .int .i64 0, .int .i64 0, .int .i64 0, .bool false] 0 true)).set hA.next (.row T.cells 0 true)) := ((Fr.refl fA.ok).alloc _).set (Nat.le_refl _) (by simp) _
  have tB : rowAt ((hA.alloc (.row [.int .i64 0, .int .i64 0, .int .i64 0, .int .i64 0, .bool false] 0 true)).set hA.next (.row T.cells 0 true)) hA.next = some T.cells := rowAt_set_self _ _ _ _ _
  have nB : ((hA.alloc (.row [.int .i64 0, .int .i64 0, .int .i64 0, .int .i64 0, .bool false] 0 true)).set hA.next (.row T.cells 0 true)).next = hA.next + 1 := by simp
  generalize ((hA.alloc (.row [.int .i64 0, .int .i64 0, .int .i64 0, .int .i64 0, .bool false] 0 true)).set hA.next (.row T.cells 0 true)) = hB' at fAB tB nB ⊢
  have fB := fA.trans fAB
  have f2B := f2A.trans fAB
  have xB := fAB.row' fA.ok xA
  have zB := fAB.get' fA.ok zA
  have yB := fAB.row' fA.ok yA
  have kt1 : T.cells[1]? = some (.int .i64 T.coins) := rfl
  have kt2 : T.cells[2]? = some (.int .i64 T.units) := rfl
  have w6 : IntKind.i64.wrap (T.coins + mo) = T.coins + mo := wrap64 (by omega) (by omega)
  have w7 : IntKind.i64.wrap (T.units - le) = T.units - le := wrap64 (by omega) (by omega)
  have hflen : (s.tars.flatMap Tar.cells).length = s.tars.length * 5 := flat_len Tar.len _
  have hw1 : write? (s.tars.flatMap Tar.cells) (i * 5 + 1) [.int .i64 (if T.coins + mo < 500 then T.coins + mo else 500)] = some ((s.tars.set i ⟨T.kind, minI 500 (T.coins + mo), T.units, T.rule, T.each⟩).flatMap Tar.cells) := by
    rw [write_one _ _ _ (by omega)]
    exact congrArg some (flat_set Tar.len s.tars i T ⟨T.kind, minI 500 (T.coins + mo), T.units, T.rule, T.each⟩ 1 (.int .i64 (if T.coins + mo < 500 then T.coins + mo else 500)) hT (by omega) rfl)
  have hTC : (s.tars.set i ⟨T.kind, minI 500 (T.coins + mo), T.units, T.rule, T.each⟩)[i]? = some ⟨T.kind, minI 500 (T.coins + mo), T.units, T.rule, T.each⟩ := List.getElem?_set_self hil
  have hw2 : write? ((s.tars.set i ⟨T.kind, minI 500 (T.coins + mo), T.units, T.rule, T.each⟩).flatMap Tar.cells) (i * 5 + 2) [.int .i64 (if 1 < T.units - le then T.units - le else 1)] = some ((s.tars.set i (moreTar T mo le)).flatMap Tar.cells) := by
    rw [write_one _ _ _ (by rw [flat_len Tar.len, List.length_set]; omega)]
    exact congrArg some ((flat_set Tar.len _ i _ (moreTar T mo le) 2 (.int .i64 (if 1 < T.units - le then T.units - le else 1)) hTC (by omega) rfl).trans (by rw [List.set_set]))
  simp (maxDischargeDepth := 30) only [AMS, AMH, ↓reduceIte, Nat.reduceLT, Nat.reduceEqDiff, Nat.reduceAdd, Nat.reduceMul, reduceCtorEq, decide_true, decide_false, Nat.reduceLeDiff, Int.reduceNe, Int.reduceEq, ne_eq, not_false_eq_true, and_self, bld_72, fld_72_0, fld_72_1, fld_72_2, fld_72_3, fp_26_1, fp_26_2, fp_30_0, fp_30_1, fp_41_1, fp_41_2, fp_72_0, fp_72_1, fp_72_2, fp_72_3, ix_22, ix_23, ix_24, ld_23, ld_24, ld_26, ld_3, ld_41, ld_72, len_23, part_3, part_41, part_72, size_22, size_23, size_24, size_26, size_3, size_30, size_41, size_72, sp_72_0, sp_72_1, sp_72_2, sp_72_3, und_22, und_23, und_24, und_3, zero_22, zero_23, zero_24, zero_26, zero_3, zero_30, zero_41, zero_72, fB.ok, xB, tB, kt1, w6, min_two, hil, zB, hw1]
  have f2C : Fr h2 (hB'.set h8.next (.row ((s.tars.set i ⟨T.kind, minI 500 (T.coins + mo), T.units, T.rule, T.each⟩).flatMap Tar.cells) 5 true)) := f2B.set (by have := f2A.next; have := f28.next; omega) (by omega) _
  have xC : rowAt (hB'.set h8.next (.row ((s.tars.set i ⟨T.kind, minI 500 (T.coins + mo), T.units, T.rule, T.each⟩).flatMap Tar.cells) 5 true)) h2.next = some [.slice p1 s.offs.length c1, .slice (some ⟨h3.next, 0, some 5⟩) s.boards.length s.boards.length, .slice (some ⟨h8.next, 0, some 5⟩) s.tars.length s.tars.length] := by rw [rowAt_set_lt _ (by omega)]; exact xB
  have tC : rowAt (hB'.set h8.next (.row ((s.tars.set i ⟨T.kind, minI 500 (T.coins + mo), T.units, T.rule, T.each⟩).flatMap Tar.cells) 5 true)) hA.next = some T.cells := by rw [rowAt_set_gt _ (by omega)]; exact tB
  have yC : rowAt (hB'.set h8.next (.row ((s.tars.set i ⟨T.kind, minI 500 (T.coins + mo), T.units, T.rule, T.each⟩).flatMap Tar.cells) 5 true)) h3.next = some ((s.boards.set j (moreBoard B mo)).flatMap Board.cells) := by rw [rowAt_set_lt _ (by omega)]; exact yB
  have zC : (hB'.set h8.next (.row ((s.tars.set i ⟨T.kind, minI 500 (T.coins + mo), T.units, T.rule, T.each⟩).flatMap Tar.cells) 5 true)).get h8.next = some (.row ((s.tars.set i ⟨T.kind, minI 500 (T.coins + mo), T.units, T.rule, T.each⟩).flatMap Tar.cells) 5 true) := Heap.get_set_self _ _ _
  have nC : (hB'.set h8.next (.row ((s.tars.set i ⟨T.kind, minI 500 (T.coins + mo), T.units, T.rule, T.each⟩).flatMap Tar.cells) 5 true)).next = hB'.next := by simp
  generalize (hB'.set h8.next (.row ((s.tars.set i ⟨T.kind, minI 500 (T.coins + mo), T.units, T.rule, T.each⟩).flatMap Tar.cells) 5 true)) = hC at f2C xC tC yC zC nC ⊢
  have fC := f2.trans f2C
  have mx1 : foldV max2 [.int .i64 (T.units - le)] (.int .i64 1) = some (.int .i64 (if 1 < T.units - le then T.units - le else 1)) := rfl
  simp (maxDischargeDepth := 30) only [AMS, AMH, ↓reduceIte, Nat.reduceLT, Nat.reduceEqDiff, Nat.reduceAdd, Nat.reduceMul, reduceCtorEq, decide_true, decide_false, Nat.reduceLeDiff, Int.reduceNe, Int.reduceEq, ne_eq, not_false_eq_true, and_self, bld_72, fld_72_0, fld_72_1, fld_72_2, fld_72_3, fp_26_1, fp_26_2, fp_30_0, fp_30_1, fp_41_1, fp_41_2, fp_72_0, fp_72_1, fp_72_2, fp_72_3, ix_22, ix_23, ix_24, ld_23, ld_24, ld_26, ld_3, ld_41, ld_72, len_23, part_3, part_41, part_72, size_22, size_23, size_24, size_26, size_3, size_30, size_41, size_72, sp_72_0, sp_72_1, sp_72_2, sp_72_3, und_22, und_23, und_24, und_3, zero_22, zero_23, zero_24, zero_26, zero_3, zero_30, zero_41, zero_72, fC.ok, xC, tC, kt2, w7, mx1, hil, zC, hw2]
  have f2D : Fr h2 (hC.set h8.next (.row ((s.tars.set i (moreTar T mo le)).flatMap Tar.cells) 5 true)) := f2C.set (by have := f2A.next; have := f28.next; omega) (by omega) _
  have xD : rowAt (hC.set h8.next (.row ((s.tars.set i (moreTar T mo le)).flatMap Tar.cells) 5 true)) h2.next = some [.slice p1 s.offs.length c1, .slice (some ⟨h3.next, 0, some 5⟩) s.boards.length s.boards.length, .slice (some ⟨h8.next, 0, some 5⟩) s.tars.length s.tars.length] := by rw [rowAt_set_lt _ (by omega)]; exact xC
  have yD : rowAt (hC.set h8.next (.row ((s.tars.set i (moreTar T mo le)).flatMap Tar.cells) 5 true)) h3.next = some ((s.boards.set j (moreBoard B mo)).flatMap Board.cells) := by rw [rowAt_set_lt _ (by omega)]; exact yC
  have zD : rowAt (hC.set h8.next (.row ((s.tars.set i (moreTar T mo le)).flatMap Tar.cells) 5 true)) h8.next = some ((s.tars.set i (moreTar T mo le)).flatMap Tar.cells) := rowAt_set_self _ _ _ _ _
  have nD : (hC.set h8.next (.row ((s.tars.set i (moreTar T mo le)).flatMap Tar.cells) 5 true)).next = hC.next := by simp
  generalize (hC.set h8.next (.row ((s.tars.set i (moreTar T mo le)).flatMap Tar.cells) 5 true)) = hD at f2D xD yD zD nD ⊢
  have fD := f2.trans f2D
  obtain ⟨hE, eE, gE, _, frE, nE⟩ := copy_at (ts := []) app_22 (Fr.refl fD.ok) (by omega) ints_len (ints_one l) (hv.fr hk fD) (by omega) (by omega)
  have fE := fD.trans frE
  have f2E := f2D.trans frE
  have rE := f2E.row' f2.ok r2
  obtain ⟨b4, o4, sp4, row4, rfl, rr4, e4'⟩ := hv.cell hx
  have rr4E := fE.row' hk rr4
  have w8 : IntKind.i64.wrap (x + moreBy B mo) = x + moreBy B mo := wrap64 (by omega) (by omega)
  have hw3 : write? (l.flatMap ints) j [.int .i64 (x + moreBy B mo)] = some ((l.set j (x + moreBy B mo)).flatMap ints) := by
    rw [write_one _ _ _ (by rw [flat_len ints_len]; omega)]
    exact congrArg some (by simpa using flat_set ints_len l j x (x + moreBy B mo) 0 (.int .i64 (x + moreBy B mo)) hx (by omega) rfl)
  simp (maxDischargeDepth := 30) only [AMS, AMH, ↓reduceIte, Nat.reduceLT, Nat.reduceEqDiff, Nat.reduceAdd, Nat.reduceMul, reduceCtorEq, decide_true, decide_false, Nat.reduceLeDiff, Int.reduceNe, Int.reduceEq, ne_eq, not_false_eq_true, and_self, bld_72, fld_72_0, fld_72_1, fld_72_2, fld_72_3, fp_26_1, fp_26_2, fp_30_0, fp_30_1, fp_41_1, fp_41_2, fp_72_0, fp_72_1, fp_72_2, fp_72_3, ix_22, ix_23, ix_24, ld_23, ld_24, ld_26, ld_3, ld_41, ld_72, len_23, part_3, part_41, part_72, size_22, size_23, size_24, size_26, size_3, size_30, size_41, size_72, sp_72_0, sp_72_1, sp_72_2, sp_72_3, und_22, und_23, und_24, und_3, zero_22, zero_23, zero_24, zero_26, zero_3, zero_30, zero_41, zero_72, fD.ok, eE, fE.ok, hjl', Nat.mul_one, rr4E, e4', w8, gE, hw3]
  have f2F : Fr h2 (hE.set hD.next (.row ((l.set j (x + moreBy B mo)).flatMap ints) 1 true)) := f2E.set (by have := f2D.next; omega) (by omega) _
  have xF : rowAt (hE.set hD.next (.row ((l.set j (x + moreBy B mo)).flatMap ints) 1 true)) h2.next = some [.slice p1 s.offs.length c1, .slice (some ⟨h3.next, 0, some 5⟩) s.boards.length s.boards.length, .slice (some ⟨h8.next, 0, some 5⟩) s.tars.length s.tars.length] := by rw [rowAt_set_lt _ (by omega)]; exact frE.row' fD.ok xD
  have yF : rowAt (hE.set hD.next (.row ((l.set j (x + moreBy B mo)).flatMap ints) 1 true)) h3.next = some ((s.boards.set j (moreBoard B mo)).flatMap Board.cells) := by rw [rowAt_set_lt _ (by omega)]; exact frE.row' fD.ok yD
  have zF : rowAt (hE.set hD.next (.row ((l.set j (x + moreBy B mo)).flatMap ints) 1 true)) h8.next = some ((s.tars.set i (moreTar T mo le)).flatMap Tar.cells) := by rw [rowAt_set_lt _ (by omega)]; exact frE.row' fD.ok zD
  have lF : rowAt (hE.set hD.next (.row ((l.set j (x + moreBy B mo)).flatMap ints) 1 true)) hD.next = some ((l.set j (x + moreBy B mo)).flatMap ints) := rowAt_set_self _ _ _ _ _
  generalize (hE.set hD.next (.row ((l.set j (x + moreBy B mo)).flatMap ints) 1 true)) = hF at f2F xF yF zF lF ⊢
  have fF := f2.trans f2F
  have rF := f2F.row' f2.ok r2
  have hs' : IsSheet hF (.slice p1 s.offs.length c1) (.slice (some ⟨h3.next, 0, some 5⟩) s.boards.length s.boards.length) (.slice (some ⟨h8.next, 0, some 5⟩) s.tars.length s.tars.length) (moreSheet s i j (moreTar T mo le) (moreBoard B mo)) := by
    refine ⟨(hs.fr hk fF).offs, ?_, ?_⟩
    · have := LS.of_row (sp := some 5) (c := s.boards.length) Board.len yF
      rw [List.length_set] at this
      exact this
    · have := LS.of_row (sp := some 5) (c := s.tars.length) Tar.len zF
      rw [List.length_set] at this
      exact this
  have hv' : LS hF (.slice (some ⟨hD.next, 0, some 1⟩) l.length l.length) (l.set j (x + moreBy B mo)) ints 1 := by
    have := LS.of_row (sp := some 1) (c := l.length) ints_len lF
    rw [List.length_set] at this
    exact this
  have hT' : (moreSheet s i j (moreTar T mo le) (moreBoard B mo)).tars[i]? = some (moreTar T mo le) := List.getElem?_set_self hil
  simp (maxDischargeDepth := 30) only [AMS, AMH, ↓reduceIte, Nat.reduceLT, Nat.reduceEqDiff, Nat.reduceAdd, Nat.reduceMul, reduceCtorEq, decide_true, decide_false, Nat.reduceLeDiff, Int.reduceNe, Int.reduceEq, ne_eq, not_false_eq_true, and_self, bld_72, fld_72_0, fld_72_1, fld_72_2, fld_72_3, fp_26_1, fp_26_2, fp_30_0, fp_30_1, fp_41_1, fp_41_2, fp_72_0, fp_72_1, fp_72_2, fp_72_3, ix_22, ix_23, ix_24, ld_23, ld_24, ld_26, ld_3, ld_41, ld_72, len_23, part_3, part_41, part_72, size_22, size_23, size_24, size_26, size_3, size_30, size_41, size_72, sp_72_0, sp_72_1, sp_72_2, sp_72_3, und_22, und_23, und_24, und_3, zero_22, zero_23, zero_24, zero_26, zero_3, zero_30, zero_41, zero_72, fF.ok, rF]
  refine W_call (total_25 fF.ok (by have := fF.next; omega) (hs.fr hk fF) (hv.fr hk fF) ok hl hT) ?_
  rintro _ hG ⟨rfl, frG⟩
  have fG := fF.trans frG
  have rG := frG.row' fF.ok rF
  have xG := frG.row' fF.ok xF
  simp (maxDischargeDepth := 30) only [AMS, AMH, ↓reduceIte, Nat.reduceLT, Nat.reduceEqDiff, Nat.reduceAdd, Nat.reduceMul, reduceCtorEq, decide_true, decide_false, Nat.reduceLeDiff, Int.reduceNe, Int.reduceEq, ne_eq, not_false_eq_true, and_self, bld_72, fld_72_0, fld_72_1, fld_72_2, fld_72_3, fp_26_1, fp_26_2, fp_30_0, fp_30_1, fp_41_1, fp_41_2, fp_72_0, fp_72_1, fp_72_2, fp_72_3, ix_22, ix_23, ix_24, ld_23, ld_24, ld_26, ld_3, ld_41, ld_72, len_23, part_3, part_41, part_72, size_22, size_23, size_24, size_26, size_3, size_30, size_41, size_72, sp_72_0, sp_72_1, sp_72_2, sp_72_3, und_22, und_23, und_24, und_3, zero_22, zero_23, zero_24, zero_26, zero_3, zero_30, zero_41, zero_72, fG.ok, rG, xG]
  refine W_call (total_25 fG.ok (by have := fG.next; omega) (hs'.fr fF.ok frG) (hv'.fr fF.ok frG) ok' hl' hT') ?_
  rintro _ hH ⟨rfl, frH⟩
  have fH := fG.trans frH
  have rH := frH.row' fG.ok rG
  have xH := frH.row' fG.ok xG
  simp (maxDischargeDepth := 30) only [AMS, AMH, ↓reduceIte, Nat.reduceLT, Nat.reduceEqDiff, Nat.reduceAdd, Nat.reduceMul, reduceCtorEq, decide_true, decide_false, Nat.reduceLeDiff, Int.reduceNe, Int.reduceEq, ne_eq, not_false_eq_true, and_self, bld_72, fld_72_0, fld_72_1, fld_72_2, fld_72_3, fp_26_1, fp_26_2, fp_30_0, fp_30_1, fp_41_1, fp_41_2, fp_72_0, fp_72_1, fp_72_2, fp_72_3, ix_22, ix_23, ix_24, ld_23, ld_24, ld_26, ld_3, ld_41, ld_72, len_23, part_3, part_41, part_72, size_22, size_23, size_24, size_26, size_3, size_30, size_41, size_72, sp_72_0, sp_72_1, sp_72_2, sp_72_3, und_22, und_23, und_24, und_3, zero_22, zero_23, zero_24, zero_26, zero_3, zero_30, zero_41, zero_72, fH.ok, rH, xH]
  refine W_call (paid_24 fH.ok (by have := fH.next; omega) (hs.fr hk fH) ok hT (ends_ok ok false) (ends_ok ok true)) ?_
  rintro _ hI ⟨rfl, frI⟩
  have fI := fH.trans frI
  have rI := frI.row' fH.ok rH
  have xI := frI.row' fH.ok xH
  simp (maxDischargeDepth := 30) only [AMS, AMH, ↓reduceIte, Nat.reduceLT, Nat.reduceEqDiff, Nat.reduceAdd, Nat.reduceMul, reduceCtorEq, decide_true, decide_false, Nat.reduceLeDiff, Int.reduceNe, Int.reduceEq, ne_eq, not_false_eq_true, and_self, bld_72, fld_72_0, fld_72_1, fld_72_2, fld_72_3, fp_26_1, fp_26_2, fp_30_0, fp_30_1, fp_41_1, fp_41_2, fp_72_0, fp_72_1, fp_72_2, fp_72_3, ix_22, ix_23, ix_24, ld_23, ld_24, ld_26, ld_3, ld_41, ld_72, len_23, part_3, part_41, part_72, size_22, size_23, size_24, size_26, size_3, size_30, size_41, size_72, sp_72_0, sp_72_1, sp_72_2, sp_72_3, und_22, und_23, und_24, und_3, zero_22, zero_23, zero_24, zero_26, zero_3, zero_30, zero_41, zero_72, fI.ok, rI, xI]
  generalize hU : paid T s.boards (endsL false s.boards) = U at *
  generalize hV : paid T s.boards (endsL true s.boards) = V at *
  have fIJ : Fr hI ((hI.alloc (.row [.int .i64 0, .int .i64 0] 0 true)).set hI.next (.row [.int .i64 U, .int .i64 V] 0 true)) := ((Fr.refl fI.ok).alloc _).set (Nat.le_refl _) (by simp) _
  have gJ : rowAt ((hI.alloc (.row [.int .i64 0, .int .i64 0] 0 true)).set hI.next (.row [.int .i64 U, .int .i64 V] 0 true)) hI.next = some [.int .i64 U, .int .i64 V] := rowAt_set_self _ _ _ _ _
  generalize ((hI.alloc (.row [.int .i64 0, .int .i64 0] 0 true)).set hI.next (.row [.int .i64 U, .int .i64 V] 0 true)) = hJ at fIJ gJ ⊢
  have fJ := fI.trans fIJ
  have xJ := fIJ.row' fI.ok xI
  have fFJ := ((frG.trans frH).trans frI).trans fIJ
  simp (maxDischargeDepth := 30) only [AMS, AMH, ↓reduceIte, Nat.reduceLT, Nat.reduceEqDiff, Nat.reduceAdd, Nat.reduceMul, reduceCtorEq, decide_true, decide_false, Nat.reduceLeDiff, Int.reduceNe, Int.reduceEq, ne_eq, not_false_eq_true, and_self, bld_72, fld_72_0, fld_72_1, fld_72_2, fld_72_3, fp_26_1, fp_26_2, fp_30_0, fp_30_1, fp_41_1, fp_41_2, fp_72_0, fp_72_1, fp_72_2, fp_72_3, ix_22, ix_23, ix_24, ld_23, ld_24, ld_26, ld_3, ld_41, ld_72, len_23, part_3, part_41, part_72, size_22, size_23, size_24, size_26, size_3, size_30, size_41, size_72, sp_72_0, sp_72_1, sp_72_2, sp_72_3, und_22, und_23, und_24, und_3, zero_22, zero_23, zero_24, zero_26, zero_3, zero_30, zero_41, zero_72, fJ.ok, xJ]
  refine W_call (paid_24 fJ.ok (by have := fJ.next; omega) (hs'.fr fF.ok fFJ) ok' hT' (ends_ok ok' false) (ends_ok ok' true)) ?_
  rintro _ hK ⟨rfl, frK⟩
  have fK := fJ.trans frK
  have gK := frK.row' fJ.ok gJ
  have e0 := q2 false
  have e1 := q2 true
  rw [hU] at e0
  rw [hV] at e1
  have u0 : decide (paid T s.boards l ≥ 0) = true := by simpa using q0
  have u1 : decide (paid T s.boards l ≤ paid (moreTar T mo le) (s.boards.set j (moreBoard B mo)) (l.set j (x + moreBy B mo))) = true := by simpa using q1
  have u2 : decide (U ≤ paid (moreTar T mo le) (s.boards.set j (moreBoard B mo)) (endsL false (s.boards.set j (moreBoard B mo)))) = true := by simpa using e0
  have u3 : decide (V ≤ paid (moreTar T mo le) (s.boards.set j (moreBoard B mo)) (endsL true (s.boards.set j (moreBoard B mo)))) = true := by simpa using e1
  have z00 : ((0 : Int) == 0) = true := rfl
  have nk := row_lt fK.ok gK
  simp (maxDischargeDepth := 30) only [AMS, AMH, ↓reduceIte, Nat.reduceLT, Nat.reduceEqDiff, Nat.reduceAdd, Nat.reduceMul, reduceCtorEq, decide_true, decide_false, Nat.reduceLeDiff, Int.reduceNe, Int.reduceEq, ne_eq, not_false_eq_true, and_self, bld_72, fld_72_0, fld_72_1, fld_72_2, fld_72_3, fp_26_1, fp_26_2, fp_30_0, fp_30_1, fp_41_1, fp_41_2, fp_72_0, fp_72_1, fp_72_2, fp_72_3, ix_22, ix_23, ix_24, ld_23, ld_24, ld_26, ld_3, ld_41, ld_72, len_23, part_3, part_41, part_72, size_22, size_23, size_24, size_26, size_3, size_30, size_41, size_72, sp_72_0, sp_72_1, sp_72_2, sp_72_3, und_22, und_23, und_24, und_3, zero_22, zero_23, zero_24, zero_26, zero_3, zero_30, zero_41, zero_72, fK.ok, gK, moreSheet, z00, u0, u1, u2, u3, nk, known_23]
  exact ⟨trivial, (fK.alloc _).set (by have := fK.next; omega) (by simp) _⟩
end Go.Am
