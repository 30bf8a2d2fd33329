/- Parts 85 of the abstract machine over this program, joined: what each part says stands at its head. -/
import Derived.Test.YtfnkjclplfhjcaaGreatDoorJ81
set_option linter.unusedSimpArgs false
set_option linter.unusedVariables false
/- The abstract machine, part 85: the statement PriceRules, on the machine. -/
namespace Go.Am
open Go Go.Proofs

theorem rulesL_four (t : Tar) (bs : List Board) (hs : List Int) : rulesL t bs hs 4 = [paid (t.by 1) bs hs, paid (t.by 2) bs hs, paid (t.by 3) bs hs, paid (t.by 4) bs hs] := rfl
theorem LS.four {h : Heap} {v : Value} {a b c d : Int} (q : LS h v [a, b, c, d] ints 1) : ∃ bl o sp cp row, v = .slice (some ⟨bl, o, sp⟩) 4 cp ∧ rowAt h bl = some row ∧ row[o]? = some (.int .i64 a) ∧ row[o + 1]? = some (.int .i64 b) ∧ row[o + 2]? = some (.int .i64 c) ∧ row[o + 3]? = some (.int .i64 d) := by
  rcases q with ⟨e, _⟩ | ⟨bl, o, sp, cp, row, rfl, h1, h2⟩
  · simp at e
  · have g := fun (i : Nat) (x : Int) (hx : [a, b, c, d][i]? = some x) => (h2 i x hx).2 0 (by omega)
    exact ⟨bl, o, sp, cp, row, rfl, h1, g 0 a rfl, g 1 b rfl, g 2 c rfl, g 3 d rfl⟩
theorem LS.cell {h : Heap} {p : Option Addr} {n c : Nat} {xs : List Int} (q : LS h (.slice p n c) xs ints 1) {i : Nat} {x : Int} (hx : xs[i]? = some x) : ∃ b o sp row, p = some ⟨b, o, sp⟩ ∧ rowAt h b = some row ∧ row[o + i]? = some (.int .i64 x) := by
  rcases q with ⟨rfl, _⟩ | ⟨b, o, sp, cp, row, e, h1, h2⟩
  · simp at hx
  · simp at e
    obtain ⟨rfl, _, _⟩ := e
    refine ⟨b, o, sp, row, rfl, h1, ?_⟩
    have := (h2 i x hx).2 0 (by omega)
    simpa [ints] using this
section
variable (b o : Nat) (sp : Option Nat) (n c : Nat)
theorem ix_0 (h : 0 < n) : aIndexAddr CC 22 (.slice (some ⟨b, o, sp⟩) n c) (.int .i64 0) = some (.pointer (some ⟨b, o, none⟩)) := ix_22 b o sp n c 0 h
theorem ix_1 (h : 1 < n) : aIndexAddr CC 22 (.slice (some ⟨b, o, sp⟩) n c) (.int .i64 1) = some (.pointer (some ⟨b, o + 1, none⟩)) := ix_22 b o sp n c 1 h
theorem ix_2 (h : 2 < n) : aIndexAddr CC 22 (.slice (some ⟨b, o, sp⟩) n c) (.int .i64 2) = some (.pointer (some ⟨b, o + 2, none⟩)) := ix_22 b o sp n c 2 h
theorem ix_3 (h : 3 < n) : aIndexAddr CC 22 (.slice (some ⟨b, o, sp⟩) n c) (.int .i64 3) = some (.pointer (some ⟨b, o + 3, none⟩)) := ix_22 b o sp n c 3 h
end

theorem sumI_take : ∀ {l : List Int}, (∀ x ∈ l, 0 ≤ x) → ∀ j, 0 ≤ sumI (l.take j) ∧ sumI (l.take j) ≤ sumI l
  | [], _, j => by simp [sumI]
  | y :: l, h, 0 => by have := (sumI_mem h).1; simp [sumI] at this ⊢; exact this
  | y :: l, h, j + 1 => by
    have h1 := h y List.mem_cons_self
    have := sumI_take (l := l) (fun x hx => h x (List.mem_cons_of_mem _ hx)) j
    rw [List.take_succ_cons, sumI_cons, sumI_cons]
    omega

set_option maxRecDepth 10000 in
set_option maxHeartbeats 4000000 in
theorem rules_5 {h : Heap} (hk : HOK h) (hp : 0 < h.next) {a b c v : Value} {s : Sheet} {l : List Int} (hs : IsSheet h a b c s) (hv : LS h v l ints 1) (t : Int) :
    CW CC 5 [.agg ⟨[a, b, c]⟩, .int .i64 t, v] h fun r h' => r = .bool true ∧ Fr h h' := by
  obtain ⟨p1, c1, rfl, _⟩ := hs.offs.open
  obtain ⟨p2, c2, rfl, _⟩ := hs.boards.open
  obtain ⟨p3, c3, rfl, x3⟩ := hs.tars.open
  obtain ⟨p4, c4, rfl, _⟩ := hv.open
  refine CW_in Tryz.f5 (by kernel_rfl) (by kernel_rfl) rfl rfl ?_
  simp only [Tryz.f5]
  have f1 : Fr h (h.alloc (.row [.slice p1 s.offs.length c1, .slice p2 s.boards.length c2, .slice p3 s.tars.length c3] 0 true)) := (Fr.refl hk).alloc _
  have r1 : rowAt (h.alloc (.row [.slice p1 s.offs.length c1, .slice p2 s.boards.length c2, .slice p3 s.tars.length c3] 0 true)) h.next = some [.slice p1 s.offs.length c1, .slice p2 s.boards.length c2, .slice p3 s.tars.length c3] := rowAt_new _ _ _ _
  obtain ⟨_, h2, e2, rfl, fr2⟩ := asked_22 f1.ok (hs.fr hk f1) (hv.fr hk f1) t
  have f2 := f1.trans fr2
  have r2 := fr2.row' f1.ok r1
  cases hask : askedB s t l with
  | false =>
    rw [hask] at e2
    simp (maxDischargeDepth := 30) only [AMS, AMH, ↓reduceIte, Nat.reduceLT, Nat.reduceEqDiff, Nat.reduceAdd, Nat.reduceMul, reduceCtorEq, decide_true, decide_false, Nat.reduceLeDiff, Int.reduceNe, Int.reduceEq, ne_eq, not_false_eq_true, and_self, fp_26_1, fp_26_2, fp_41_1, fp_41_2, fp_41_3, fp_41_4, ix_22, ix_24, ld_23, ld_24, ld_26, ld_3, ld_39, ld_4, ld_41, len_22, len_23, part_3, part_41, size_22, size_24, size_26, size_3, size_4, size_41, und_22, und_24, und_4, zero_22, zero_24, zero_26, zero_4, zero_41, hk, e2, known_23]
    exact ⟨trivial, f2⟩
  | true =>
  rw [hask] at e2
  unfold askedB at hask
  simp only [Bool.and_eq_true] at hask
  obtain ⟨⟨_, ok⟩, _, hin, hl⟩ := hask
  have hin := of_decide_eq_true hin
  obtain ⟨i, rfl⟩ : ∃ i : Nat, t = i := ⟨t.toNat, by omega⟩
  obtain ⟨T, hT⟩ : ∃ T, s.tars[i]? = some T := ⟨_, List.getElem?_eq_getElem (by omega)⟩
  have hil := (List.getElem?_eq_some_iff.1 hT).1
  have tok := Sheet.ok_tars ok T (List.mem_of_getElem? hT)
  have tk := Tar.ok_at tok
  have hlen := Sheet.ok_len ok
  have hll := (hoursOK_at hl).1
  have hq := qtys_b ok hl T
  obtain ⟨bb, o3, sp3, row3, rfl, rr3, e3⟩ := LS.at (n := 0) (c := 0) x3 hT
  have k4 : row3[o3 + i * 5 + 4]? = some (.bool T.each) := by
    rcases x3 with hx | ⟨bb, oo, spp, roww, he, hr, hx⟩
    · rw [hx] at hil; simp at hil
    · simp at he
      obtain ⟨rfl, rfl, rfl⟩ := he
      rw [rr3] at hr; simp at hr; subst hr
      exact (hx _ _ hT).2 4 (by omega)
  simp (maxDischargeDepth := 30) only [AMS, AMH, ↓reduceIte, Nat.reduceLT, Nat.reduceEqDiff, Nat.reduceAdd, Nat.reduceMul, reduceCtorEq, decide_true, decide_false, Nat.reduceLeDiff, Int.reduceNe, Int.reduceEq, ne_eq, not_false_eq_true, and_self, fp_26_1, fp_26_2, fp_41_1, fp_41_2, fp_41_3, fp_41_4, ix_22, ix_24, ld_23, ld_24, ld_26, ld_3, ld_39, ld_4, ld_41, len_22, len_23, part_3, part_41, size_22, size_24, size_26, size_3, size_4, size_41, und_22, und_24, und_4, zero_22, zero_24, zero_26, zero_4, zero_41, hk, e2, f2.ok, r2]
  refine W_call (rules_31 f2.ok (by have := f2.next; omega) (hs.fr hk f2) (hv.fr hk f2) ok hl hT) ?_
  rintro _ h3 ⟨x, rfl, q3, fr3⟩
  have f3 := f2.trans fr3
  have r3 := fr3.row' f2.ok r2
  rw [rulesL_four] at q3
  obtain ⟨bx, ox, spx, cx, rowx, rfl, rx, x0, x1, x2, x3'⟩ := LS.four q3
  simp (maxDischargeDepth := 30) only [AMS, AMH, ↓reduceIte, Nat.reduceLT, Nat.reduceEqDiff, Nat.reduceAdd, Nat.reduceMul, reduceCtorEq, decide_true, decide_false, Nat.reduceLeDiff, Int.reduceNe, Int.reduceEq, ne_eq, not_false_eq_true, and_self, fp_26_1, fp_26_2, fp_41_1, fp_41_2, fp_41_3, fp_41_4, ix_22, ix_24, ld_23, ld_24, ld_26, ld_3, ld_39, ld_4, ld_41, len_22, len_23, part_3, part_41, size_22, size_24, size_26, size_3, size_4, size_41, und_22, und_24, und_4, zero_22, zero_24, zero_26, zero_4, zero_41, f3.ok, r3]
  refine W_call (total_25 f3.ok (by have := f3.next; omega) (hs.fr hk f3) (hv.fr hk f3) ok hl hT) ?_
  rintro _ h4 ⟨rfl, fr4⟩
  have f4 := f3.trans fr4
  have r4 := fr4.row' f3.ok r3
  simp (maxDischargeDepth := 30) only [AMS, AMH, ↓reduceIte, Nat.reduceLT, Nat.reduceEqDiff, Nat.reduceAdd, Nat.reduceMul, reduceCtorEq, decide_true, decide_false, Nat.reduceLeDiff, Int.reduceNe, Int.reduceEq, ne_eq, not_false_eq_true, and_self, fp_26_1, fp_26_2, fp_41_1, fp_41_2, fp_41_3, fp_41_4, ix_22, ix_24, ld_23, ld_24, ld_26, ld_3, ld_39, ld_4, ld_41, len_22, len_23, part_3, part_41, size_22, size_24, size_26, size_3, size_4, size_41, und_22, und_24, und_4, zero_22, zero_24, zero_26, zero_4, zero_41, f4.ok, r4]
  refine W_call (parts_30 f4.ok (by have := f4.next; omega) (hs.fr hk f4) (hv.fr hk f4) ok hl hT) ?_
  rintro _ h5 ⟨y, rfl, q5, fr5⟩
  have f5 := f4.trans fr5
  have r5 := fr5.row' f4.ok r4
  have plen := parts_len (t := T) hll
  obtain ⟨py, cy, rfl⟩ := q5.len
  have m5 := row_lt f5.ok r5
  simp (maxDischargeDepth := 30) only [AMS, AMH, ↓reduceIte, Nat.reduceLT, Nat.reduceEqDiff, Nat.reduceAdd, Nat.reduceMul, reduceCtorEq, decide_true, decide_false, Nat.reduceLeDiff, Int.reduceNe, Int.reduceEq, ne_eq, not_false_eq_true, and_self, fp_26_1, fp_26_2, fp_41_1, fp_41_2, fp_41_3, fp_41_4, ix_22, ix_24, ld_23, ld_24, ld_26, ld_3, ld_39, ld_4, ld_41, len_22, len_23, part_3, part_41, size_22, size_24, size_26, size_3, size_4, size_41, und_22, und_24, und_4, zero_22, zero_24, zero_26, zero_4, zero_41, f5.ok, r5]
  have f56 : Fr h5 ((h5.alloc (.row [.slice none 0 0, .slice none 0 0, .slice none 0 0] 0 true)).set h5.next (.row [.slice p1 s.offs.length c1, .slice p2 s.boards.length c2, .slice (some ⟨bb, o3, sp3⟩) s.tars.length c3] 0 true)) := ((Fr.refl f5.ok).alloc _).set (Nat.le_refl _) (by simp) _
  have g6 : ((h5.alloc (.row [.slice none 0 0, .slice none 0 0, .slice none 0 0] 0 true)).set h5.next (.row [.slice p1 s.offs.length c1, .slice p2 s.boards.length c2, .slice (some ⟨bb, o3, sp3⟩) s.tars.length c3] 0 true)).get h5.next = some (.row [.slice p1 s.offs.length c1, .slice p2 s.boards.length c2, .slice (some ⟨bb, o3, sp3⟩) s.tars.length c3] 0 true) := Heap.get_set_self _ _ _
  have n6 : ((h5.alloc (.row [.slice none 0 0, .slice none 0 0, .slice none 0 0] 0 true)).set h5.next (.row [.slice p1 s.offs.length c1, .slice p2 s.boards.length c2, .slice (some ⟨bb, o3, sp3⟩) s.tars.length c3] 0 true)).next = h5.next + 1 := by simp
  generalize ((h5.alloc (.row [.slice none 0 0, .slice none 0 0, .slice none 0 0] 0 true)).set h5.next (.row [.slice p1 s.offs.length c1, .slice p2 s.boards.length c2, .slice (some ⟨bb, o3, sp3⟩) s.tars.length c3] 0 true)) = h6 at f56 g6 n6 ⊢
  have f6 := f5.trans f56
  have r6 := f56.row' f5.ok r5
  obtain ⟨h7, e7, g7, _, fr7, n7⟩ := copy_at (ts := []) app_24 (Fr.refl f6.ok) (by omega) Tar.len (tars_one s.tars) (hs.fr hk f6).tars (by omega) (by omega)
  have f7 := f6.trans fr7
  have g67 := fr7.get' f6.ok g6
  have f57 := f56.trans fr7
  have f58 : Fr h5 (h7.set h5.next (.row [.slice p1 s.offs.length c1, .slice p2 s.boards.length c2, .slice (some ⟨h6.next, 0, some 5⟩) s.tars.length s.tars.length] 0 true)) := f57.set (Nat.le_refl _) (by omega) _
  have g8 : rowAt (h7.set h5.next (.row [.slice p1 s.offs.length c1, .slice p2 s.boards.length c2, .slice (some ⟨h6.next, 0, some 5⟩) s.tars.length s.tars.length] 0 true)) h5.next = some [.slice p1 s.offs.length c1, .slice p2 s.boards.length c2, .slice (some ⟨h6.next, 0, some 5⟩) s.tars.length s.tars.length] := rowAt_set_self _ _ _ _ _
  have y8 : (h7.set h5.next (.row [.slice p1 s.offs.length c1, .slice p2 s.boards.length c2, .slice (some ⟨h6.next, 0, some 5⟩) s.tars.length s.tars.length] 0 true)).get h6.next = some (.row (s.tars.flatMap Tar.cells) 5 true) := by rw [Heap.get_set_ne _ _ (by omega)]; exact g7
  have n8 : (h7.set h5.next (.row [.slice p1 s.offs.length c1, .slice p2 s.boards.length c2, .slice (some ⟨h6.next, 0, some 5⟩) s.tars.length s.tars.length] 0 true)).next = h7.next := by simp
  simp (maxDischargeDepth := 30) only [AMS, AMH, ↓reduceIte, Nat.reduceLT, Nat.reduceEqDiff, Nat.reduceAdd, Nat.reduceMul, reduceCtorEq, decide_true, decide_false, Nat.reduceLeDiff, Int.reduceNe, Int.reduceEq, ne_eq, not_false_eq_true, and_self, fp_26_1, fp_26_2, fp_41_1, fp_41_2, fp_41_3, fp_41_4, ix_22, ix_24, ld_23, ld_24, ld_26, ld_3, ld_39, ld_4, ld_41, len_22, len_23, part_3, part_41, size_22, size_24, size_26, size_3, size_4, size_41, und_22, und_24, und_4, zero_22, zero_24, zero_26, zero_4, zero_41, f6.ok, r6, e7, g67, List.set_cons_succ, List.set_cons_zero]
  generalize (h7.set h5.next (.row [.slice p1 s.offs.length c1, .slice p2 s.boards.length c2, .slice (some ⟨h6.next, 0, some 5⟩) s.tars.length s.tars.length] 0 true)) = h8 at f58 g8 y8 n8 ⊢
  have f8 := f5.trans f58
  have r8 := f58.row' f5.ok r5
  have rr8 := f8.row' hk rr3
  have k8 : allOne (s.tars.flatMap Tar.cells) = true := tars_one _
  refine W_draw [(true, 0), (true, 1), (true, 2), (true, 3), (true, 4), (true, 5), (true, 6), (true, 7), (true, 8), (true, 9), (true, 10), (true, 11), (true, 12)] (by kernel_rfl) ?_
  have hflen : (s.tars.flatMap Tar.cells).length = s.tars.length * 5 := flat_len Tar.len _
  have hw : write? (s.tars.flatMap Tar.cells) (i * 5 + 4) [.bool (!T.each)] = some ((s.tars.set i T.flip).flatMap Tar.cells) := by
    rw [write_one _ _ _ (by omega), flat_set Tar.len s.tars i T T.flip 4 (.bool (!T.each)) hT (by omega) rfl]
  simp (maxDischargeDepth := 30) only [AMS, AMH, ↓reduceIte, Nat.reduceLT, Nat.reduceEqDiff, Nat.reduceAdd, Nat.reduceMul, reduceCtorEq, decide_true, decide_false, Nat.reduceLeDiff, Int.reduceNe, Int.reduceEq, ne_eq, not_false_eq_true, and_self, AMR, fp_26_1, fp_26_2, fp_41_1, fp_41_2, fp_41_3, fp_41_4, ix_22, ix_24, ld_23, ld_24, ld_26, ld_3, ld_39, ld_4, ld_41, len_22, len_23, part_3, part_41, size_22, size_24, size_26, size_3, size_4, size_41, und_22, und_24, und_4, zero_22, zero_24, zero_26, zero_4, zero_41, f8.ok, r8, g8, hil, rr8, k4, y8, hw]
  have f59 : Fr h5 (h8.set h6.next (.row ((s.tars.set i T.flip).flatMap Tar.cells) 5 true)) := f58.set (by omega) (by omega) _
  have g9 : rowAt (h8.set h6.next (.row ((s.tars.set i T.flip).flatMap Tar.cells) 5 true)) h5.next = some [.slice p1 s.offs.length c1, .slice p2 s.boards.length c2, .slice (some ⟨h6.next, 0, some 5⟩) s.tars.length s.tars.length] := by
    rw [rowAt_set_lt _ (by omega)]; exact g8
  have y9 : rowAt (h8.set h6.next (.row ((s.tars.set i T.flip).flatMap Tar.cells) 5 true)) h6.next = some ((s.tars.set i T.flip).flatMap Tar.cells) := rowAt_set_self _ _ _ _ _
  generalize (h8.set h6.next (.row ((s.tars.set i T.flip).flatMap Tar.cells) 5 true)) = h9 at f59 g9 y9 ⊢
  have f9 := f5.trans f59
  have r9 := f59.row' f5.ok r5
  have hs9 : IsSheet h9 (.slice p1 s.offs.length c1) (.slice p2 s.boards.length c2) (.slice (some ⟨h6.next, 0, some 5⟩) s.tars.length s.tars.length) ⟨s.offs, s.boards, s.tars.set i T.flip⟩ := by
    have := hs.fr hk f9
    refine ⟨this.offs, this.boards, ?_⟩
    have := LS.of_row (sp := some 5) (c := s.tars.length) Tar.len y9
    rw [List.length_set] at this
    exact this
  have ok9 : Sheet.ok ⟨s.offs, s.boards, s.tars.set i T.flip⟩ = true := by
    obtain ⟨q1, q2, q3, q4⟩ := Sheet.ok_iff.1 ok
    refine Sheet.ok_iff.2 ⟨by simpa using q1, q2, q3, fun y hy => ?_⟩
    rcases mem_set hy with q | rfl
    · exact q4 y q
    · exact Tar.flip_ok tok
  have hT9 : (s.tars.set i T.flip)[i]? = some T.flip := List.getElem?_set_self hil
  simp (maxDischargeDepth := 30) only [AMS, AMH, ↓reduceIte, Nat.reduceLT, Nat.reduceEqDiff, Nat.reduceAdd, Nat.reduceMul, reduceCtorEq, decide_true, decide_false, Nat.reduceLeDiff, Int.reduceNe, Int.reduceEq, ne_eq, not_false_eq_true, and_self, fp_26_1, fp_26_2, fp_41_1, fp_41_2, fp_41_3, fp_41_4, ix_22, ix_24, ld_23, ld_24, ld_26, ld_3, ld_39, ld_4, ld_41, len_22, len_23, part_3, part_41, size_22, size_24, size_26, size_3, size_4, size_41, und_22, und_24, und_4, zero_22, zero_24, zero_26, zero_4, zero_41, f9.ok, g9]
  refine W_call (rules_31 (s := ⟨s.offs, s.boards, s.tars.set i T.flip⟩) f9.ok (by have := f9.next; omega) hs9 (hv.fr hk f9) ok9 hl hT9) ?_
  rintro _ h10 ⟨z, rfl, q10, fr10⟩
  have f10 := f9.trans fr10
  have r10 := fr10.row' f9.ok r9
  have q10 : LS h10 z (rulesL T.flip s.boards l 4) ints 1 := q10
  rw [rulesL_four] at q10
  obtain ⟨bz, oz, spz, cz, rowz, rfl, rz, z0, z1, z2, z3⟩ := LS.four q10
  have f510 := f59.trans fr10
  have rx10 := (fr4.trans fr5).trans f510 |>.row' f3.ok rx
  have q510 := q5.fr f5.ok f510
  have rr10 := f10.row' hk rr3
  have ne00 : ((0 : Int) != 0) = false := rfl
  have ne44 : (((4 : Nat) : Int) != 4) = false := rfl
  have nep : (((parts T s.boards l).length : Int) != s.boards.length) = false := by rw [plen]; simp
  have kt : take? T.cells 0 5 = some T.cells := rfl
  have tl : T.cells.length = 5 := rfl
  have ta : allOne T.cells = true := rfl
  simp (maxDischargeDepth := 30) only [AMS, AMH, ↓reduceIte, Nat.reduceLT, Nat.reduceEqDiff, Nat.reduceAdd, Nat.reduceMul, reduceCtorEq, decide_true, decide_false, Nat.reduceLeDiff, Int.reduceNe, Int.reduceEq, ne_eq, not_false_eq_true, and_self, fp_26_1, fp_26_2, fp_41_1, fp_41_2, fp_41_3, fp_41_4, ix_22, ix_24, ld_23, ld_24, ld_26, ld_3, ld_39, ld_4, ld_41, len_22, len_23, part_3, part_41, size_22, size_24, size_26, size_3, size_4, size_41, und_22, und_24, und_4, zero_22, zero_24, zero_26, zero_4, zero_41, f10.ok, r10, ne00, ne44, nep, hil, rr10, e3, tl, ta]
  have f1011 : Fr h10 ((h10.alloc (.row [.int .i64 0, .int .i64 0, .int .i64 0, .int .i64 0, .bool false] 0 true)).set h10.next (.row T.cells 0 true)) := ((Fr.refl f10.ok).alloc _).set (Nat.le_refl _) (by simp) _
  have t11 : rowAt ((h10.alloc (.row [.int .i64 0, .int .i64 0, .int .i64 0, .int .i64 0, .bool false] 0 true)).set h10.next (.row T.cells 0 true)) h10.next = some T.cells := rowAt_set_self _ _ _ _ _
  generalize ((h10.alloc (.row [.int .i64 0, .int .i64 0, .int .i64 0, .int .i64 0, .bool false] 0 true)).set h10.next (.row T.cells 0 true)) = h11 at f1011 t11 ⊢
  have f11 := f10.trans f1011
  have r11 := f1011.row' f10.ok r10
  have rx11 := f1011.row' f10.ok rx10
  have rz11 := f1011.row' f10.ok rz
  have q11 := q510.fr f10.ok f1011
  have kk1 : T.cells[1]? = some (.int .i64 T.coins) := rfl
  have kk2 : T.cells[2]? = some (.int .i64 T.units) := rfl
  have kk3 : T.cells[3]? = some (.int .i64 T.rule) := rfl
  have kk4 : T.cells[4]? = some (.bool T.each) := rfl
  obtain ⟨k, hk4, hr⟩ : ∃ k : Nat, k < 4 ∧ T.rule = (k : Int) + 1 := ⟨(T.rule - 1).toNat, by omega, by omega⟩
  have xk : rowx[ox + k]? = some (.int .i64 (paid T s.boards l)) := by
    have hb : T = T.by ((k : Int) + 1) := by rw [← hr]; rfl
    rw [hb]
    match k, hk4 with
    | 0, _ => exact x0
    | 1, _ => exact x1
    | 2, _ => exact x2
    | 3, _ => exact x3'
  have wk : IntKind.i64.wrap (T.rule - 1) = (k : Int) := by rw [wrap64 (by omega) (by omega)]; omega
  obtain ⟨a1, a2, a3, a4, a5, a6, a7⟩ := rules_chain tok hll (by omega) hq
  obtain ⟨b1, b2⟩ := rules_flip tok hq
  have hN : T.each = true → paid T s.boards l = sumI (parts T s.boards l) := fun he => by unfold paid; rw [he]; rfl
  have hparts : ∀ x ∈ parts T s.boards l, 0 ≤ x := fun x hx => (parts_b tok (fun y hy => by have := hq y hy; omega) x hx).1
  have hsum := sumI_mem hparts
  have hN' : paid T s.boards l ≤ 1000000 := by
    have hc : k = 0 ∨ k = 1 ∨ k = 2 ∨ k = 3 := by omega
    have hb : T = T.by ((k : Int) + 1) := by rw [← hr]; rfl
    rw [hb]
    rcases hc with rfl | rfl | rfl | rfl
    · show paid (T.by 1) _ _ ≤ _; omega
    · show paid (T.by 2) _ _ ≤ _; omega
    · show paid (T.by 3) _ _ ≤ _; omega
    · show paid (T.by 4) _ _ ≤ _; omega
  generalize paid (T.by 1) s.boards l = P1 at *
  generalize paid (T.by 2) s.boards l = P2 at *
  generalize paid (T.by 3) s.boards l = P3 at *
  generalize paid (T.by 4) s.boards l = P4 at *
  generalize paid (T.flip.by 1) s.boards l = Q1 at *
  generalize paid (T.flip.by 2) s.boards l = Q2 at *
  generalize paid T s.boards l = N at *
  have d1 : decide (P1 < 0) = false := by simp; omega
  have d2 : decide (P1 > P4) = false := by simp; omega
  have d3 : decide (P4 > P3) = false := by simp; omega
  have d4 : decide (P3 > P2) = false := by simp; omega
  have d5 : decide (P2 > 1000000) = false := by simp; omega
  have w1 : IntKind.i64.wrap (P2 - P1) = P2 - P1 := wrap64 (by omega) (by omega)
  have u0 : T.units ≠ 0 := by omega
  have mb : 0 ≤ T.coins % T.units := Int.emod_nonneg _ u0
  have mb' : T.coins % T.units < T.units := Int.emod_lt_of_pos _ (by omega)
  have w2 : T.coins.tmod T.units = T.coins % T.units := tmod_nn (by omega)
  cases he : T.each with
  | false =>
    rw [he] at kk4 a6
    obtain ⟨b3, b4⟩ := b2 he
    have d6 : decide (P2 - P1 > 1) = false := by simp at a6 ⊢; omega
    have d7 : decide (Q1 > P1) = false := by simp; omega
    have d8 : decide (Q2 < P2) = false := by simp; omega
    cases hd : (T.coins % T.units == 0) with
    | false =>
      simp (maxDischargeDepth := 30) only [AMS, AMH, ↓reduceIte, Nat.reduceLT, Nat.reduceEqDiff, Nat.reduceAdd, Nat.reduceMul, reduceCtorEq, decide_true, decide_false, Nat.reduceLeDiff, Int.reduceNe, Int.reduceEq, ne_eq, not_false_eq_true, and_self, fp_26_1, fp_26_2, fp_41_1, fp_41_2, fp_41_3, fp_41_4, ix_22, ix_24, ld_23, ld_24, ld_26, ld_3, ld_39, ld_4, ld_41, len_22, len_23, part_3, part_41, size_22, size_24, size_26, size_3, size_4, size_41, und_22, und_24, und_4, zero_22, zero_24, zero_26, zero_4, zero_41, f11.ok, t11, r11, kk4]
      refine W_draw [(true, 0), (true, 1), (true, 2), (true, 3), (true, 4), (true, 5), (true, 6), (true, 7), (true, 8), (true, 9), (true, 10), (true, 11), (true, 12), (true, 13), (true, 14), (true, 15)] (by kernel_rfl) ?_
      simp (maxDischargeDepth := 30) only [AMS, AMH, ↓reduceIte, Nat.reduceLT, Nat.reduceEqDiff, Nat.reduceAdd, Nat.reduceMul, reduceCtorEq, decide_true, decide_false, Nat.reduceLeDiff, Int.reduceNe, Int.reduceEq, ne_eq, not_false_eq_true, and_self, AMR, fp_26_1, fp_26_2, fp_41_1, fp_41_2, fp_41_3, fp_41_4, ix_22, ix_24, ld_23, ld_24, ld_26, ld_3, ld_39, ld_4, ld_41, len_22, len_23, part_3, part_41, size_22, size_24, size_26, size_3, size_4, size_41, und_22, und_24, und_4, zero_22, zero_24, zero_26, zero_4, zero_41, f11.ok, t11, r11, rx11, ix_0, ix_1, ix_2, ix_3, x0, x1, x2, x3', kk1, kk2, kk3, kk4, wk, hk4, Nat.mul_one, xk, ne_self, d1, d2, d3, d4, d5, d6, w1, I_rem _ _ _ _ T.coins T.units u0, w2, hd]
      refine W_draw [(true, 0), (true, 1), (true, 2), (true, 3), (true, 4), (true, 5), (true, 6), (true, 7), (true, 8), (true, 9), (true, 10), (true, 11), (true, 12), (true, 13), (true, 14), (true, 15)] (by kernel_rfl) ?_
      simp (maxDischargeDepth := 30) only [AMS, AMH, ↓reduceIte, Nat.reduceLT, Nat.reduceEqDiff, Nat.reduceAdd, Nat.reduceMul, reduceCtorEq, decide_true, decide_false, Nat.reduceLeDiff, Int.reduceNe, Int.reduceEq, ne_eq, not_false_eq_true, and_self, AMR, fp_26_1, fp_26_2, fp_41_1, fp_41_2, fp_41_3, fp_41_4, ix_22, ix_24, ld_23, ld_24, ld_26, ld_3, ld_39, ld_4, ld_41, len_22, len_23, part_3, part_41, size_22, size_24, size_26, size_3, size_4, size_41, und_22, und_24, und_4, zero_22, zero_24, zero_26, zero_4, zero_41, f11.ok, t11, r11, rx11, rz11, ix_0, ix_1, x0, x1, z0, z1, kk4, d7, d8, known_23]
      exact ⟨trivial, f11⟩
    | true =>
      have hP : (P1 != P2) = false := by have := a7 (by simpa using hd); simp [this]
      simp (maxDischargeDepth := 30) only [AMS, AMH, ↓reduceIte, Nat.reduceLT, Nat.reduceEqDiff, Nat.reduceAdd, Nat.reduceMul, reduceCtorEq, decide_true, decide_false, Nat.reduceLeDiff, Int.reduceNe, Int.reduceEq, ne_eq, not_false_eq_true, and_self, fp_26_1, fp_26_2, fp_41_1, fp_41_2, fp_41_3, fp_41_4, ix_22, ix_24, ld_23, ld_24, ld_26, ld_3, ld_39, ld_4, ld_41, len_22, len_23, part_3, part_41, size_22, size_24, size_26, size_3, size_4, size_41, und_22, und_24, und_4, zero_22, zero_24, zero_26, zero_4, zero_41, f11.ok, t11, r11, kk4]
      refine W_draw [(true, 0), (true, 1), (true, 2), (true, 3), (true, 4), (true, 5), (true, 6), (true, 7), (true, 8), (true, 9), (true, 10), (true, 11), (true, 12), (true, 13), (true, 14), (true, 15)] (by kernel_rfl) ?_
      simp (maxDischargeDepth := 30) only [AMS, AMH, ↓reduceIte, Nat.reduceLT, Nat.reduceEqDiff, Nat.reduceAdd, Nat.reduceMul, reduceCtorEq, decide_true, decide_false, Nat.reduceLeDiff, Int.reduceNe, Int.reduceEq, ne_eq, not_false_eq_true, and_self, AMR, fp_26_1, fp_26_2, fp_41_1, fp_41_2, fp_41_3, fp_41_4, ix_22, ix_24, ld_23, ld_24, ld_26, ld_3, ld_39, ld_4, ld_41, len_22, len_23, part_3, part_41, size_22, size_24, size_26, size_3, size_4, size_41, und_22, und_24, und_4, zero_22, zero_24, zero_26, zero_4, zero_41, f11.ok, t11, r11, rx11, ix_0, ix_1, ix_2, ix_3, x0, x1, x2, x3', kk1, kk2, kk3, kk4, wk, hk4, Nat.mul_one, xk, ne_self, d1, d2, d3, d4, d5, d6, w1, I_rem _ _ _ _ T.coins T.units u0, w2, hd, hP]
      refine W_draw [(true, 0), (true, 1), (true, 2), (true, 3), (true, 4), (true, 5), (true, 6), (true, 7), (true, 8), (true, 9), (true, 10), (true, 11), (true, 12), (true, 13), (true, 14), (true, 15)] (by kernel_rfl) ?_
      simp (maxDischargeDepth := 30) only [AMS, AMH, ↓reduceIte, Nat.reduceLT, Nat.reduceEqDiff, Nat.reduceAdd, Nat.reduceMul, reduceCtorEq, decide_true, decide_false, Nat.reduceLeDiff, Int.reduceNe, Int.reduceEq, ne_eq, not_false_eq_true, and_self, AMR, fp_26_1, fp_26_2, fp_41_1, fp_41_2, fp_41_3, fp_41_4, ix_22, ix_24, ld_23, ld_24, ld_26, ld_3, ld_39, ld_4, ld_41, len_22, len_23, part_3, part_41, size_22, size_24, size_26, size_3, size_4, size_41, und_22, und_24, und_4, zero_22, zero_24, zero_26, zero_4, zero_41, f11.ok, t11, r11, rx11, rz11, ix_0, ix_1, x0, x1, z0, z1, kk4, d7, d8, known_23]
      exact ⟨trivial, f11⟩
  | true =>
    rw [he] at kk4 a6
    obtain ⟨b3, b4⟩ := b1 he
    have d6 : decide (P2 - P1 > (s.boards.length : Int)) = false := by simp at a6 ⊢; omega
    have d7 : decide (P1 > Q1) = false := by simp; omega
    have d8 : decide (P2 < Q2) = false := by simp; omega
    cases hd : (T.coins % T.units == 0) with
    | false =>
      simp (maxDischargeDepth := 30) only [AMS, AMH, ↓reduceIte, Nat.reduceLT, Nat.reduceEqDiff, Nat.reduceAdd, Nat.reduceMul, reduceCtorEq, decide_true, decide_false, Nat.reduceLeDiff, Int.reduceNe, Int.reduceEq, ne_eq, not_false_eq_true, and_self, fp_26_1, fp_26_2, fp_41_1, fp_41_2, fp_41_3, fp_41_4, ix_22, ix_24, ld_23, ld_24, ld_26, ld_3, ld_39, ld_4, ld_41, len_22, len_23, part_3, part_41, size_22, size_24, size_26, size_3, size_4, size_41, und_22, und_24, und_4, zero_22, zero_24, zero_26, zero_4, zero_41, f11.ok, t11, r11, kk4]
      refine W_draw [(true, 0), (true, 1), (true, 2), (true, 3), (true, 4), (true, 5), (true, 6), (true, 7), (true, 8), (true, 9), (true, 10), (true, 11), (true, 12), (true, 13), (true, 14), (true, 15)] (by kernel_rfl) ?_
      simp (maxDischargeDepth := 30) only [AMS, AMH, ↓reduceIte, Nat.reduceLT, Nat.reduceEqDiff, Nat.reduceAdd, Nat.reduceMul, reduceCtorEq, decide_true, decide_false, Nat.reduceLeDiff, Int.reduceNe, Int.reduceEq, ne_eq, not_false_eq_true, and_self, AMR, fp_26_1, fp_26_2, fp_41_1, fp_41_2, fp_41_3, fp_41_4, ix_22, ix_24, ld_23, ld_24, ld_26, ld_3, ld_39, ld_4, ld_41, len_22, len_23, part_3, part_41, size_22, size_24, size_26, size_3, size_4, size_41, und_22, und_24, und_4, zero_22, zero_24, zero_26, zero_4, zero_41, f11.ok, t11, r11, rx11, ix_0, ix_1, ix_2, ix_3, x0, x1, x2, x3', kk1, kk2, kk3, kk4, wk, hk4, Nat.mul_one, xk, ne_self, d1, d2, d3, d4, d5, d6, w1, I_rem _ _ _ _ T.coins T.units u0, w2, hd]
      refine W_draw [(true, 0), (true, 1), (true, 2), (true, 3), (true, 4), (true, 5), (true, 6), (true, 7), (true, 8), (true, 9), (true, 10), (true, 11), (true, 12), (true, 13), (true, 14), (true, 15)] (by kernel_rfl) ?_
      simp (maxDischargeDepth := 30) only [AMS, AMH, ↓reduceIte, Nat.reduceLT, Nat.reduceEqDiff, Nat.reduceAdd, Nat.reduceMul, reduceCtorEq, decide_true, decide_false, Nat.reduceLeDiff, Int.reduceNe, Int.reduceEq, ne_eq, not_false_eq_true, and_self, AMR, fp_26_1, fp_26_2, fp_41_1, fp_41_2, fp_41_3, fp_41_4, ix_22, ix_24, ld_23, ld_24, ld_26, ld_3, ld_39, ld_4, ld_41, len_22, len_23, part_3, part_41, size_22, size_24, size_26, size_3, size_4, size_41, und_22, und_24, und_4, zero_22, zero_24, zero_26, zero_4, zero_41, f11.ok, t11, r11, rx11, rz11, ix_0, ix_1, x0, x1, z0, z1, kk4, d7, d8, known_23]
      refine W_loop (parts T s.boards l).length (fun m' f h' => ∃ j, j ≤ (parts T s.boards l).length ∧ m' = (parts T s.boards l).length - j ∧ f 11 = .slice py (parts T s.boards l).length cy ∧ f 9 = .int .i64 N ∧ f 25 = .int .i64 j ∧ f 24 = .int .i64 (sumI ((parts T s.boards l).take j)) ∧ h' = h11)
        ⟨0, by omega, by omega, by simp [upd_at], by simp [upd_at], by simp [upd_at], by simp [upd_at, sumI], rfl⟩ ?_
      rintro m' f h' ⟨j, hj, rfl, g11, g9', g25, g24, rfl⟩ ih
      by_cases hjl : j < (parts T s.boards l).length
      · obtain ⟨x, gx⟩ : ∃ x, (parts T s.boards l)[j]? = some x := ⟨_, List.getElem?_eq_getElem hjl⟩
        obtain ⟨b5, o5, sp5, row5, rfl, rr5, e5⟩ := q11.cell gx
        have hx0 := hparts x (List.mem_of_getElem? gx)
        have hx1 := hsum.2 x (List.mem_of_getElem? gx)
        have hN1 := hN he
        have c1' : decide (x < 0) = false := by simp; omega
        have c2' : decide (x > N) = false := by simp; omega
        have st := sumI_take (hparts) j
        have hj7 : (parts T s.boards l).length ≤ 1000 := by omega
        have w3 : IntKind.i64.wrap (sumI ((parts T s.boards l).take j) + x) = sumI ((parts T s.boards l).take (j + 1)) := by
          rw [take_snoc gx, sumI_app, wrap64 (by omega) (by omega)]
        simp (maxDischargeDepth := 30) only [AMS, AMH, ↓reduceIte, Nat.reduceLT, Nat.reduceEqDiff, Nat.reduceAdd, Nat.reduceMul, reduceCtorEq, decide_true, decide_false, Nat.reduceLeDiff, Int.reduceNe, Int.reduceEq, ne_eq, not_false_eq_true, and_self, fp_26_1, fp_26_2, fp_41_1, fp_41_2, fp_41_3, fp_41_4, ix_22, ix_24, ld_23, ld_24, ld_26, ld_3, ld_39, ld_4, ld_41, len_22, len_23, part_3, part_41, size_22, size_24, size_26, size_3, size_4, size_41, und_22, und_24, und_4, zero_22, zero_24, zero_26, zero_4, zero_41, f11.ok, g11, g9', g25, g24, lt_t hjl, hjl, Nat.mul_one, rr5, e5, c1', c2', w3, i_next hjl hj7]
        refine ih ((parts T s.boards l).length - (j + 1)) _ _ (by omega) ?_
        exact ⟨j + 1, by omega, rfl, by simp [upd_at, g11], by simp [upd_at, g9'], by simp [upd_at], by simp [upd_at], rfl⟩
      · have : j = (parts T s.boards l).length := by omega
        subst this
        have ee : (sumI ((parts T s.boards l).take (parts T s.boards l).length) == N) = true := by rw [List.take_length, hN he]; simp
        simp (maxDischargeDepth := 30) only [AMS, AMH, ↓reduceIte, Nat.reduceLT, Nat.reduceEqDiff, Nat.reduceAdd, Nat.reduceMul, reduceCtorEq, decide_true, decide_false, Nat.reduceLeDiff, Int.reduceNe, Int.reduceEq, ne_eq, not_false_eq_true, and_self, fp_26_1, fp_26_2, fp_41_1, fp_41_2, fp_41_3, fp_41_4, ix_22, ix_24, ld_23, ld_24, ld_26, ld_3, ld_39, ld_4, ld_41, len_22, len_23, part_3, part_41, size_22, size_24, size_26, size_3, size_4, size_41, und_22, und_24, und_4, zero_22, zero_24, zero_26, zero_4, zero_41, f11.ok, g11, g9', g25, g24, lt_f, ee, known_23]
        exact ⟨trivial, f11⟩
    | true =>
      have hP : (P1 != P2) = false := by have := a7 (by simpa using hd); simp [this]
      simp (maxDischargeDepth := 30) only [AMS, AMH, ↓reduceIte, Nat.reduceLT, Nat.reduceEqDiff, Nat.reduceAdd, Nat.reduceMul, reduceCtorEq, decide_true, decide_false, Nat.reduceLeDiff, Int.reduceNe, Int.reduceEq, ne_eq, not_false_eq_true, and_self, fp_26_1, fp_26_2, fp_41_1, fp_41_2, fp_41_3, fp_41_4, ix_22, ix_24, ld_23, ld_24, ld_26, ld_3, ld_39, ld_4, ld_41, len_22, len_23, part_3, part_41, size_22, size_24, size_26, size_3, size_4, size_41, und_22, und_24, und_4, zero_22, zero_24, zero_26, zero_4, zero_41, f11.ok, t11, r11, kk4]
      refine W_draw [(true, 0), (true, 1), (true, 2), (true, 3), (true, 4), (true, 5), (true, 6), (true, 7), (true, 8), (true, 9), (true, 10), (true, 11), (true, 12), (true, 13), (true, 14), (true, 15)] (by kernel_rfl) ?_
      simp (maxDischargeDepth := 30) only [AMS, AMH, ↓reduceIte, Nat.reduceLT, Nat.reduceEqDiff, Nat.reduceAdd, Nat.reduceMul, reduceCtorEq, decide_true, decide_false, Nat.reduceLeDiff, Int.reduceNe, Int.reduceEq, ne_eq, not_false_eq_true, and_self, AMR, fp_26_1, fp_26_2, fp_41_1, fp_41_2, fp_41_3, fp_41_4, ix_22, ix_24, ld_23, ld_24, ld_26, ld_3, ld_39, ld_4, ld_41, len_22, len_23, part_3, part_41, size_22, size_24, size_26, size_3, size_4, size_41, und_22, und_24, und_4, zero_22, zero_24, zero_26, zero_4, zero_41, f11.ok, t11, r11, rx11, ix_0, ix_1, ix_2, ix_3, x0, x1, x2, x3', kk1, kk2, kk3, kk4, wk, hk4, Nat.mul_one, xk, ne_self, d1, d2, d3, d4, d5, d6, w1, I_rem _ _ _ _ T.coins T.units u0, w2, hd, hP]
      refine W_draw [(true, 0), (true, 1), (true, 2), (true, 3), (true, 4), (true, 5), (true, 6), (true, 7), (true, 8), (true, 9), (true, 10), (true, 11), (true, 12), (true, 13), (true, 14), (true, 15)] (by kernel_rfl) ?_
      simp (maxDischargeDepth := 30) only [AMS, AMH, ↓reduceIte, Nat.reduceLT, Nat.reduceEqDiff, Nat.reduceAdd, Nat.reduceMul, reduceCtorEq, decide_true, decide_false, Nat.reduceLeDiff, Int.reduceNe, Int.reduceEq, ne_eq, not_false_eq_true, and_self, AMR, fp_26_1, fp_26_2, fp_41_1, fp_41_2, fp_41_3, fp_41_4, ix_22, ix_24, ld_23, ld_24, ld_26, ld_3, ld_39, ld_4, ld_41, len_22, len_23, part_3, part_41, size_22, size_24, size_26, size_3, size_4, size_41, und_22, und_24, und_4, zero_22, zero_24, zero_26, zero_4, zero_41, f11.ok, t11, r11, rx11, rz11, ix_0, ix_1, x0, x1, z0, z1, kk4, d7, d8, known_23]
      refine W_loop (parts T s.boards l).length (fun m' f h' => ∃ j, j ≤ (parts T s.boards l).length ∧ m' = (parts T s.boards l).length - j ∧ f 11 = .slice py (parts T s.boards l).length cy ∧ f 9 = .int .i64 N ∧ f 25 = .int .i64 j ∧ f 24 = .int .i64 (sumI ((parts T s.boards l).take j)) ∧ h' = h11)
        ⟨0, by omega, by omega, by simp [upd_at], by simp [upd_at], by simp [upd_at], by simp [upd_at, sumI], rfl⟩ ?_
      rintro m' f h' ⟨j, hj, rfl, g11, g9', g25, g24, rfl⟩ ih
      by_cases hjl : j < (parts T s.boards l).length
      · obtain ⟨x, gx⟩ : ∃ x, (parts T s.boards l)[j]? = some x := ⟨_, List.getElem?_eq_getElem hjl⟩
        obtain ⟨b5, o5, sp5, row5, rfl, rr5, e5⟩ := q11.cell gx
        have hx0 := hparts x (List.mem_of_getElem? gx)
        have hx1 := hsum.2 x (List.mem_of_getElem? gx)
        have hN1 := hN he
        have c1' : decide (x < 0) = false := by simp; omega
        have c2' : decide (x > N) = false := by simp; omega
        have st := sumI_take (hparts) j
        have hj7 : (parts T s.boards l).length ≤ 1000 := by omega
        have w3 : IntKind.i64.wrap (sumI ((parts T s.boards l).take j) + x) = sumI ((parts T s.boards l).take (j + 1)) := by
          rw [take_snoc gx, sumI_app, wrap64 (by omega) (by omega)]
        simp (maxDischargeDepth := 30) only [AMS, AMH, ↓reduceIte, Nat.reduceLT, Nat.reduceEqDiff, Nat.reduceAdd, Nat.reduceMul, reduceCtorEq, decide_true, decide_false, Nat.reduceLeDiff, Int.reduceNe, Int.reduceEq, ne_eq, not_false_eq_true, and_self, fp_26_1, fp_26_2, fp_41_1, fp_41_2, fp_41_3, fp_41_4, ix_22, ix_24, ld_23, ld_24, ld_26, ld_3, ld_39, ld_4, ld_41, len_22, len_23, part_3, part_41, size_22, size_24, size_26, size_3, size_4, size_41, und_22, und_24, und_4, zero_22, zero_24, zero_26, zero_4, zero_41, f11.ok, g11, g9', g25, g24, lt_t hjl, hjl, Nat.mul_one, rr5, e5, c1', c2', w3, i_next hjl hj7]
        refine ih ((parts T s.boards l).length - (j + 1)) _ _ (by omega) ?_
        exact ⟨j + 1, by omega, rfl, by simp [upd_at, g11], by simp [upd_at, g9'], by simp [upd_at], by simp [upd_at], rfl⟩
      · have : j = (parts T s.boards l).length := by omega
        subst this
        have ee : (sumI ((parts T s.boards l).take (parts T s.boards l).length) == N) = true := by rw [List.take_length, hN he]; simp
        simp (maxDischargeDepth := 30) only [AMS, AMH, ↓reduceIte, Nat.reduceLT, Nat.reduceEqDiff, Nat.reduceAdd, Nat.reduceMul, reduceCtorEq, decide_true, decide_false, Nat.reduceLeDiff, Int.reduceNe, Int.reduceEq, ne_eq, not_false_eq_true, and_self, fp_26_1, fp_26_2, fp_41_1, fp_41_2, fp_41_3, fp_41_4, ix_22, ix_24, ld_23, ld_24, ld_26, ld_3, ld_39, ld_4, ld_41, len_22, len_23, part_3, part_41, size_22, size_24, size_26, size_3, size_4, size_41, und_22, und_24, und_4, zero_22, zero_24, zero_26, zero_4, zero_41, f11.ok, g11, g9', g25, g24, lt_f, ee, known_23]
        exact ⟨trivial, f11⟩
end Go.Am
