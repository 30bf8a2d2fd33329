/- Parts 109 of the abstract machine over this program, joined: what each part says stands at its head. -/
import Derived.Test.YtfnkjclplfhjcaaGreatDoorJ103
set_option linter.unusedSimpArgs false
set_option linter.unusedVariables false
/- The abstract machine, part 109: the statement PriceMoved. -/
namespace Go.Am
open Go Go.Proofs

/- PLAIN: two that change their places -/
theorem sum_set : ∀ (l : List Int) (i : Nat) (a x : Int), l[i]? = some a → sumI (l.set i x) = sumI l - a + x
  | [], i, a, x, h => by simp at h
  | y :: l, 0, a, x, h => by
    simp at h; subst h
    rw [List.set_cons_zero, sumI_cons, sumI_cons]; omega
  | y :: l, i + 1, a, x, h => by
    rw [List.set_cons_succ, sumI_cons, sumI_cons, sum_set l i a x (by simpa using h)]; omega
theorem swap_get {α : Type} {l : List α} {i j : Nat} {a b : α} (hi : l[i]? = some a) (hj : l[j]? = some b) : (l.set i b)[j]? = some b := by
  by_cases e : i = j
  · subst e
    exact List.getElem?_set_self (List.getElem?_eq_some_iff.1 hi).1
  · rw [List.getElem?_set_ne e]; exact hj
theorem sum_swap {l : List Int} {i j : Nat} {a b : Int} (hi : l[i]? = some a) (hj : l[j]? = some b) : sumI ((l.set i b).set j a) = sumI l := by
  rw [sum_set _ j b a (swap_get hi hj), sum_set _ i a b hi]; omega
theorem zip_set {α β : Type} : ∀ (l : List α) (m : List β) (i : Nat) (x : α) (y : β), (l.set i x).zip (m.set i y) = (l.zip m).set i (x, y)
  | [], m, i, x, y => by simp
  | a :: l, [], i, x, y => by simp
  | a :: l, b :: m, 0, x, y => by simp
  | a :: l, b :: m, i + 1, x, y => by simp [zip_set l m i x y]

section
variable {t : Tar} {bs : List Board} {hs : List Int} {i j : Nat} {A B : Board} {x y : Int}
theorem qtys_swap : qtys t ((bs.set i B).set j A) ((hs.set i y).set j x) = ((qtys t bs hs).set i (qty t.kind B y)).set j (qty t.kind A x) := by
  unfold qtys
  rw [zip_set, zip_set, List.map_set, List.map_set]
theorem parts_swap : parts t ((bs.set i B).set j A) ((hs.set i y).set j x) = ((parts t bs hs).set i (price1 t (qty t.kind B y))).set j (price1 t (qty t.kind A x)) := by
  unfold parts
  rw [qtys_swap, List.map_set, List.map_set]
theorem ownSum_swap {k : Int} {l : List Int} {p q : Int} (hA : bs[i]? = some A) (hB : bs[j]? = some B) (hp : l[i]? = some p) (hq : l[j]? = some q) : ownSum k ((bs.set i B).set j A) ((l.set i q).set j p) = ownSum k bs l := by
  unfold ownSum
  rw [zip_set, zip_set, List.map_set, List.map_set]
  have z1 : (bs.zip l)[i]? = some (A, p) := List.getElem?_zip_eq_some.2 ⟨hA, hp⟩
  have z2 : (bs.zip l)[j]? = some (B, q) := List.getElem?_zip_eq_some.2 ⟨hB, hq⟩
  exact sum_swap (by rw [List.getElem?_map, z1]; rfl) (by rw [List.getElem?_map, z2]; rfl)
theorem ownParts_swap {n : Nat} {l : List Int} {p q : Int} (hA : bs[i]? = some A) (hB : bs[j]? = some B) (hp : l[i]? = some p) (hq : l[j]? = some q) : ownParts n ((bs.set i B).set j A) ((l.set i q).set j p) = ownParts n bs l := by
  unfold ownParts
  exact List.map_congr_left fun k _ => ownSum_swap hA hB hp hq
theorem rep_swap (n : Nat) : ((List.replicate n (1 : Int)).set i 1).set j 1 = List.replicate n 1 := by
  apply List.ext_getElem?
  intro k
  have one : ∀ (l : List Int) (i k : Nat), l = List.replicate l.length 1 → (l.set i 1)[k]? = l[k]? := fun l i k hl => by
    by_cases e : i = k
    · subst e
      by_cases h : i < l.length
      · rw [List.getElem?_set_self h, hl, List.getElem?_replicate, if_pos h]
      · rw [List.getElem?_eq_none (by simp; omega), List.getElem?_eq_none (by omega)]
    · rw [List.getElem?_set_ne e]
  have e1 : (List.replicate n (1 : Int)).set i 1 = List.replicate n 1 := List.ext_getElem? fun k => one _ i k (by simp)
  rw [e1]
  exact one _ j k (by simp)
end

theorem moved_law {s : Sheet} {l : List Int} {t : Tar} {i j : Nat} {A B : Board} {x y : Int} (ok : s.ok = true) (hl : hoursOK s.boards l = true) (hA : s.boards[i]? = some A) (hB : s.boards[j]? = some B) (hx : l[i]? = some x) (hy : l[j]? = some y) :
    Sheet.ok ⟨s.offs, (s.boards.set i B).set j A, s.tars⟩ = true ∧ hoursOK ((s.boards.set i B).set j A) ((l.set i y).set j x) = true ∧ paid t ((s.boards.set i B).set j A) ((l.set i y).set j x) = paid t s.boards l ∧
      weights s.offs.length t ((s.boards.set i B).set j A) ((l.set i y).set j x) = weights s.offs.length t s.boards l := by
  have hll := (hoursOK_at hl).1
  have q1 := qtys_get (t := t) hA hx
  have q2 := qtys_get (t := t) hB hy
  have p1 : (parts t s.boards l)[i]? = some (price1 t (qty t.kind A x)) := parts_get hA hx
  have p2 : (parts t s.boards l)[j]? = some (price1 t (qty t.kind B y)) := parts_get hB hy
  refine ⟨?_, ?_, ?_, ?_⟩
  · obtain ⟨k1, k2, k3, k4⟩ := Sheet.ok_iff.1 ok
    refine Sheet.ok_iff.2 ⟨by simpa using k1, k2, fun b hb => ?_, k4⟩
    rcases mem_set hb with hb | rfl
    · rcases mem_set hb with hb | rfl
      · exact k3 b hb
      · exact k3 _ (List.mem_of_getElem? hB)
    · exact k3 _ (List.mem_of_getElem? hA)
  · obtain ⟨h1, h2⟩ := hoursOK_at hl
    refine hoursOK_all (by simp [h1]) fun k z c hz hc => ?_
    simp only [okHour, inP, decide_eq_true_eq]
    rcases get_set hz with ⟨rfl, rfl⟩ | ⟨n1, hz⟩
    · rcases get_set hc with ⟨_, rfl⟩ | ⟨n2, _⟩
      · exact h2 _ _ _ hx hA
      · exact absurd rfl n2
    · rcases get_set hc with ⟨rfl, _⟩ | ⟨_, hc⟩
      · exact absurd rfl n1
      · rcases get_set hz with ⟨rfl, rfl⟩ | ⟨n3, hz⟩
        · rcases get_set hc with ⟨_, rfl⟩ | ⟨n2, _⟩
          · exact h2 _ _ _ hy hB
          · exact absurd rfl n2
        · rcases get_set hc with ⟨rfl, _⟩ | ⟨_, hc⟩
          · exact absurd rfl n3
          · exact h2 k z c hz hc
  · unfold paid
    rw [parts_swap, qtys_swap, sum_swap p1 p2, sum_swap q1 q2]
  · unfold weights
    have e1 : ownParts s.offs.length ((s.boards.set i B).set j A) (qtys t ((s.boards.set i B).set j A) ((l.set i y).set j x)) = ownParts s.offs.length s.boards (qtys t s.boards l) := by
      rw [qtys_swap]; exact ownParts_swap hA hB q1 q2
    have e2 : ownParts s.offs.length ((s.boards.set i B).set j A) (List.replicate ((s.boards.set i B).set j A).length 1) = ownParts s.offs.length s.boards (List.replicate s.boards.length 1) := by
      rw [List.length_set, List.length_set, ← rep_swap (i := i) (j := j) s.boards.length]
      have hi := (List.getElem?_eq_some_iff.1 hA).1
      have hj := (List.getElem?_eq_some_iff.1 hB).1
      have r1 : (List.replicate s.boards.length (1 : Int))[i]? = some 1 := by rw [List.getElem?_replicate, if_pos hi]
      have r2 : (List.replicate s.boards.length (1 : Int))[j]? = some 1 := by rw [List.getElem?_replicate, if_pos hj]
      exact (ownParts_swap hA hB r1 r2).trans (by rw [rep_swap])
    rw [e1, e2]

set_option maxRecDepth 10000 in
set_option maxHeartbeats 8000000 in
theorem moved_17 {h : Heap} (hk : HOK h) (hp : 0 < h.next) {a b c v : Value} {s : Sheet} {l : List Int} (hs : IsSheet h a b c s) (hv : LS h v l ints 1) (t one other : Int) :
    CW CC 17 [.agg ⟨[a, b, c]⟩, .int .i64 t, v, .int .i64 one, .int .i64 other] h fun r h' => r = .bool true ∧ Fr h h' := by
  have n00 : ((0 : Int) != 0) = false := rfl
  have hs' := hs
  have hv' := hv
  obtain ⟨p1, c1, rfl, _⟩ := hs.offs.open
  obtain ⟨p2, c2, rfl, x2⟩ := hs.boards.open
  obtain ⟨p3, c3, rfl, x3⟩ := hs.tars.open
  obtain ⟨p4, c4, rfl⟩ := hv.len
  refine CW_in Tryz.f17 (by kernel_rfl) (by kernel_rfl) rfl rfl ?_
  simp only [Tryz.f17]
  have f1 : Fr h (h.alloc (.row [.slice p1 s.offs.length c1, .slice p2 s.boards.length c2, .slice p3 s.tars.length c3] 0 true)) := (Fr.refl hk).alloc _
  have r1 : rowAt (h.alloc (.row [.slice p1 s.offs.length c1, .slice p2 s.boards.length c2, .slice p3 s.tars.length c3] 0 true)) h.next = some [.slice p1 s.offs.length c1, .slice p2 s.boards.length c2, .slice p3 s.tars.length c3] := rowAt_new _ _ _ _
  obtain ⟨_, h2, e2, rfl, fr2⟩ := asked_22 f1.ok (hs.fr hk f1) (hv.fr hk f1) t
  have f2 := f1.trans fr2
  have r2 := fr2.row' f1.ok r1
  cases hask : askedB s t l with
  | false =>
    rw [hask] at e2
    simp (maxDischargeDepth := 30) only [AMS, AMH, ↓reduceIte, Nat.reduceLT, Nat.reduceEqDiff, Nat.reduceAdd, Nat.reduceMul, reduceCtorEq, decide_true, decide_false, Nat.reduceLeDiff, Int.reduceNe, Int.reduceEq, ne_eq, not_false_eq_true, and_self, fp_26_1, ix_22, ix_23, ld_23, ld_26, ld_3, ld_72, len_22, len_23, part_3, part_72, size_22, size_23, size_26, size_3, size_72, und_22, und_23, und_3, zero_22, zero_23, zero_26, zero_3, zero_72, hk, e2, known_23]
    exact ⟨trivial, f2⟩
  | true =>
  rw [hask] at e2
  unfold askedB at hask
  simp only [Bool.and_eq_true] at hask
  obtain ⟨⟨_, ok⟩, _, hin, hl⟩ := hask
  have hin := of_decide_eq_true hin
  obtain ⟨u, rfl⟩ : ∃ u : Nat, t = u := ⟨t.toNat, by omega⟩
  obtain ⟨T, hT⟩ : ∃ T, s.tars[u]? = some T := ⟨_, List.getElem?_eq_getElem (by omega)⟩
  have hlen := Sheet.ok_len ok
  have hll := (hoursOK_at hl).1
  cases d1 : decide (one < 0) with
  | true =>
    simp (maxDischargeDepth := 30) only [AMS, AMH, ↓reduceIte, Nat.reduceLT, Nat.reduceEqDiff, Nat.reduceAdd, Nat.reduceMul, reduceCtorEq, decide_true, decide_false, Nat.reduceLeDiff, Int.reduceNe, Int.reduceEq, ne_eq, not_false_eq_true, and_self, fp_26_1, ix_22, ix_23, ld_23, ld_26, ld_3, ld_72, len_22, len_23, part_3, part_72, size_22, size_23, size_26, size_3, size_72, und_22, und_23, und_3, zero_22, zero_23, zero_26, zero_3, zero_72, hk, e2, f2.ok, r2, d1, known_23]
    exact ⟨trivial, f2⟩
  | false =>
  cases d2 : decide (one ≥ (s.boards.length : Int)) with
  | true =>
    simp (maxDischargeDepth := 30) only [AMS, AMH, ↓reduceIte, Nat.reduceLT, Nat.reduceEqDiff, Nat.reduceAdd, Nat.reduceMul, reduceCtorEq, decide_true, decide_false, Nat.reduceLeDiff, Int.reduceNe, Int.reduceEq, ne_eq, not_false_eq_true, and_self, fp_26_1, ix_22, ix_23, ld_23, ld_26, ld_3, ld_72, len_22, len_23, part_3, part_72, size_22, size_23, size_26, size_3, size_72, und_22, und_23, und_3, zero_22, zero_23, zero_26, zero_3, zero_72, hk, e2, f2.ok, r2, d1, d2, known_23]
    exact ⟨trivial, f2⟩
  | false =>
  cases d3 : decide (other < 0) with
  | true =>
    simp (maxDischargeDepth := 30) only [AMS, AMH, ↓reduceIte, Nat.reduceLT, Nat.reduceEqDiff, Nat.reduceAdd, Nat.reduceMul, reduceCtorEq, decide_true, decide_false, Nat.reduceLeDiff, Int.reduceNe, Int.reduceEq, ne_eq, not_false_eq_true, and_self, fp_26_1, ix_22, ix_23, ld_23, ld_26, ld_3, ld_72, len_22, len_23, part_3, part_72, size_22, size_23, size_26, size_3, size_72, und_22, und_23, und_3, zero_22, zero_23, zero_26, zero_3, zero_72, hk, e2, f2.ok, r2, d1, d2, d3, known_23]
    exact ⟨trivial, f2⟩
  | false =>
  cases d4 : decide (other ≥ (s.boards.length : Int)) with
  | true =>
    simp (maxDischargeDepth := 30) only [AMS, AMH, ↓reduceIte, Nat.reduceLT, Nat.reduceEqDiff, Nat.reduceAdd, Nat.reduceMul, reduceCtorEq, decide_true, decide_false, Nat.reduceLeDiff, Int.reduceNe, Int.reduceEq, ne_eq, not_false_eq_true, and_self, fp_26_1, ix_22, ix_23, ld_23, ld_26, ld_3, ld_72, len_22, len_23, part_3, part_72, size_22, size_23, size_26, size_3, size_72, und_22, und_23, und_3, zero_22, zero_23, zero_26, zero_3, zero_72, hk, e2, f2.ok, r2, d1, d2, d3, d4, known_23]
    exact ⟨trivial, f2⟩
  | false =>
  have d1' := of_decide_eq_false d1
  have d2' := of_decide_eq_false d2
  have d3' := of_decide_eq_false d3
  have d4' := of_decide_eq_false d4
  obtain ⟨i, rfl⟩ : ∃ i : Nat, one = i := ⟨one.toNat, by omega⟩
  obtain ⟨j, rfl⟩ : ∃ j : Nat, other = j := ⟨other.toNat, by omega⟩
  have hi : i < s.boards.length := by omega
  have hj : j < s.boards.length := by omega
  have hil : i < l.length := by omega
  have hjl : j < l.length := by omega
  obtain ⟨A, hA⟩ : ∃ A, s.boards[i]? = some A := ⟨_, List.getElem?_eq_getElem hi⟩
  obtain ⟨B, hB⟩ : ∃ B, s.boards[j]? = some B := ⟨_, List.getElem?_eq_getElem hj⟩
  obtain ⟨x, hx⟩ : ∃ x, l[i]? = some x := ⟨_, List.getElem?_eq_getElem hil⟩
  obtain ⟨y, hy⟩ : ∃ y, l[j]? = some y := ⟨_, List.getElem?_eq_getElem hjl⟩
  obtain ⟨ok', hl', eP, eW⟩ := moved_law (t := T) ok hl hA hB hx hy
  obtain ⟨bb, ob, spb, rowb, rfl, rrb, eA⟩ := LS.at (n := 0) (c := 0) x2 hA
  have eB : take? rowb (ob + j * 5) 5 = some B.cells := by
    obtain ⟨b', o', sp', row', he, hr, hh⟩ := LS.at (n := 0) (c := 0) x2 hB
    simp only [Option.some.injEq, Addr.mk.injEq] at he
    obtain ⟨rfl, rfl, rfl⟩ := he
    rw [rrb] at hr
    obtain rfl : rowb = row' := by simpa using hr
    exact hh
  obtain ⟨b4, o4, sp4, row4, rfl, rr4, ex⟩ := hv.cell hx
  have ey : row4[o4 + j]? = some (.int .i64 y) := by
    obtain ⟨b', o', sp', row', he, hr, hh⟩ := hv.cell hy
    simp only [Option.some.injEq, Addr.mk.injEq] at he
    obtain ⟨rfl, rfl, rfl⟩ := he
    rw [rr4] at hr
    obtain rfl : row4 = row' := by simpa using hr
    exact hh
  simp (maxDischargeDepth := 30) only [AMS, AMH, ↓reduceIte, Nat.reduceLT, Nat.reduceEqDiff, Nat.reduceAdd, Nat.reduceMul, reduceCtorEq, decide_true, decide_false, Nat.reduceLeDiff, Int.reduceNe, Int.reduceEq, ne_eq, not_false_eq_true, and_self, fp_26_1, ix_22, ix_23, ld_23, ld_26, ld_3, ld_72, len_22, len_23, part_3, part_72, size_22, size_23, size_26, size_3, size_72, und_22, und_23, und_3, zero_22, zero_23, zero_26, zero_3, zero_72, hk, e2, f2.ok, r2, d1, d2, d3, d4]
  have f23 : Fr h2 ((h2.alloc (.row [.slice none 0 0, .slice none 0 0, .slice none 0 0] 0 true)).set h2.next (.row [.slice p1 s.offs.length c1, .slice (some ⟨bb, ob, spb⟩) s.boards.length c2, .slice p3 s.tars.length c3] 0 true)) := ((Fr.refl f2.ok).alloc _).set (Nat.le_refl _) (by simp) _
  have g3 : ((h2.alloc (.row [.slice none 0 0, .slice none 0 0, .slice none 0 0] 0 true)).set h2.next (.row [.slice p1 s.offs.length c1, .slice (some ⟨bb, ob, spb⟩) s.boards.length c2, .slice p3 s.tars.length c3] 0 true)).get h2.next = some (.row [.slice p1 s.offs.length c1, .slice (some ⟨bb, ob, spb⟩) s.boards.length c2, .slice p3 s.tars.length c3] 0 true) := Heap.get_set_self _ _ _
  have n3 : ((h2.alloc (.row [.slice none 0 0, .slice none 0 0, .slice none 0 0] 0 true)).set h2.next (.row [.slice p1 s.offs.length c1, .slice (some ⟨bb, ob, spb⟩) s.boards.length c2, .slice p3 s.tars.length c3] 0 true)).next = h2.next + 1 := by simp
  generalize ((h2.alloc (.row [.slice none 0 0, .slice none 0 0, .slice none 0 0] 0 true)).set h2.next (.row [.slice p1 s.offs.length c1, .slice (some ⟨bb, ob, spb⟩) s.boards.length c2, .slice p3 s.tars.length c3] 0 true)) = h3 at f23 g3 n3 ⊢
  have f3 := f2.trans f23
  have r3 := f23.row' f2.ok r2
  obtain ⟨h4, e4, g4, _, fr4, n4⟩ := copy_at (ts := []) app_23 (Fr.refl f3.ok) (by omega) Board.len (boards_one s.boards) (hs.fr hk f3).boards (by omega) (by omega)
  have g34 := fr4.get' f3.ok g3
  have f25 : Fr h2 (h4.set h2.next (.row [.slice p1 s.offs.length c1, .slice (some ⟨h3.next, 0, some 5⟩) s.boards.length s.boards.length, .slice p3 s.tars.length c3] 0 true)) := (f23.trans fr4).set (Nat.le_refl _) (by omega) _
  have x5 : rowAt (h4.set h2.next (.row [.slice p1 s.offs.length c1, .slice (some ⟨h3.next, 0, some 5⟩) s.boards.length s.boards.length, .slice p3 s.tars.length c3] 0 true)) h2.next = some [.slice p1 s.offs.length c1, .slice (some ⟨h3.next, 0, some 5⟩) s.boards.length s.boards.length, .slice p3 s.tars.length c3] := rowAt_set_self _ _ _ _ _
  have y5 : (h4.set h2.next (.row [.slice p1 s.offs.length c1, .slice (some ⟨h3.next, 0, some 5⟩) s.boards.length s.boards.length, .slice p3 s.tars.length c3] 0 true)).get h3.next = some (.row (s.boards.flatMap Board.cells) 5 true) := by rw [Heap.get_set_ne _ _ (by omega)]; exact g4
  have n5 : (h4.set h2.next (.row [.slice p1 s.offs.length c1, .slice (some ⟨h3.next, 0, some 5⟩) s.boards.length s.boards.length, .slice p3 s.tars.length c3] 0 true)).next = h4.next := by simp
  simp (maxDischargeDepth := 30) only [AMS, AMH, ↓reduceIte, Nat.reduceLT, Nat.reduceEqDiff, Nat.reduceAdd, Nat.reduceMul, reduceCtorEq, decide_true, decide_false, Nat.reduceLeDiff, Int.reduceNe, Int.reduceEq, ne_eq, not_false_eq_true, and_self, fp_26_1, ix_22, ix_23, ld_23, ld_26, ld_3, ld_72, len_22, len_23, part_3, part_72, size_22, size_23, size_26, size_3, size_72, und_22, und_23, und_3, zero_22, zero_23, zero_26, zero_3, zero_72, f3.ok, r3, e4, g34, List.set_cons_succ, List.set_cons_zero]
  generalize (h4.set h2.next (.row [.slice p1 s.offs.length c1, .slice (some ⟨h3.next, 0, some 5⟩) s.boards.length s.boards.length, .slice p3 s.tars.length c3] 0 true)) = h5 at f25 x5 y5 n5 ⊢
  have f5 := f2.trans f25
  have r5 := f25.row' f2.ok r2
  have rrb5 := f5.row' hk rrb
  have lA : A.cells.length = 5 := rfl
  have aA : allOne A.cells = true := rfl
  have lB : B.cells.length = 5 := rfl
  have aB : allOne B.cells = true := rfl
  have put1 : write? (s.boards.flatMap Board.cells) (i * 5) B.cells = some ((s.boards.set i B).flatMap Board.cells) := write_put Board.len (by omega) B hi
  have put2 : write? ((s.boards.set i B).flatMap Board.cells) (j * 5) A.cells = some (((s.boards.set i B).set j A).flatMap Board.cells) := write_put Board.len (by omega) A (by rw [List.length_set]; exact hj)
  refine W_draw [(true, 0), (true, 1), (true, 2), (true, 3), (true, 4), (true, 5), (true, 6), (true, 7), (true, 8), (true, 9)] (by kernel_rfl) ?_
  simp (maxDischargeDepth := 30) only [AMS, AMH, ↓reduceIte, Nat.reduceLT, Nat.reduceEqDiff, Nat.reduceAdd, Nat.reduceMul, reduceCtorEq, decide_true, decide_false, Nat.reduceLeDiff, Int.reduceNe, Int.reduceEq, ne_eq, not_false_eq_true, and_self, AMR, fp_26_1, ix_22, ix_23, ld_23, ld_26, ld_3, ld_72, len_22, len_23, part_3, part_72, size_22, size_23, size_26, size_3, size_72, und_22, und_23, und_3, zero_22, zero_23, zero_26, zero_3, zero_72, f5.ok, r5, x5, hi, hj, rrb5, eB, lB, aB, y5, put1]
  have f26 : Fr h2 (h5.set h3.next (.row ((s.boards.set i B).flatMap Board.cells) 5 true)) := f25.set (by omega) (by omega) _
  have x6 : rowAt (h5.set h3.next (.row ((s.boards.set i B).flatMap Board.cells) 5 true)) h2.next = some [.slice p1 s.offs.length c1, .slice (some ⟨h3.next, 0, some 5⟩) s.boards.length s.boards.length, .slice p3 s.tars.length c3] := by rw [rowAt_set_lt _ (by omega)]; exact x5
  have y6 : (h5.set h3.next (.row ((s.boards.set i B).flatMap Board.cells) 5 true)).get h3.next = some (.row ((s.boards.set i B).flatMap Board.cells) 5 true) := Heap.get_set_self _ _ _
  have n6 : (h5.set h3.next (.row ((s.boards.set i B).flatMap Board.cells) 5 true)).next = h5.next := by simp
  generalize (h5.set h3.next (.row ((s.boards.set i B).flatMap Board.cells) 5 true)) = h6 at f26 x6 y6 n6 ⊢
  have f6 := f2.trans f26
  have r6 := f26.row' f2.ok r2
  have rrb6 := f6.row' hk rrb
  refine W_draw [(true, 0), (true, 1), (true, 2), (true, 3), (true, 4), (true, 5), (true, 6), (true, 7), (true, 8), (true, 9)] (by kernel_rfl) ?_
  simp (maxDischargeDepth := 30) only [AMS, AMH, ↓reduceIte, Nat.reduceLT, Nat.reduceEqDiff, Nat.reduceAdd, Nat.reduceMul, reduceCtorEq, decide_true, decide_false, Nat.reduceLeDiff, Int.reduceNe, Int.reduceEq, ne_eq, not_false_eq_true, and_self, AMR, fp_26_1, ix_22, ix_23, ld_23, ld_26, ld_3, ld_72, len_22, len_23, part_3, part_72, size_22, size_23, size_26, size_3, size_72, und_22, und_23, und_3, zero_22, zero_23, zero_26, zero_3, zero_72, f6.ok, r6, x6, hi, hj, rrb6, eA, lA, aA, y6, put2]
  have f27 : Fr h2 (h6.set h3.next (.row (((s.boards.set i B).set j A).flatMap Board.cells) 5 true)) := f26.set (by omega) (by omega) _
  have x7 : rowAt (h6.set h3.next (.row (((s.boards.set i B).set j A).flatMap Board.cells) 5 true)) h2.next = some [.slice p1 s.offs.length c1, .slice (some ⟨h3.next, 0, some 5⟩) s.boards.length s.boards.length, .slice p3 s.tars.length c3] := by rw [rowAt_set_lt _ (by omega)]; exact x6
  have y7 : rowAt (h6.set h3.next (.row (((s.boards.set i B).set j A).flatMap Board.cells) 5 true)) h3.next = some (((s.boards.set i B).set j A).flatMap Board.cells) := rowAt_set_self _ _ _ _ _
  have n7 : (h6.set h3.next (.row (((s.boards.set i B).set j A).flatMap Board.cells) 5 true)).next = h6.next := by simp
  generalize (h6.set h3.next (.row (((s.boards.set i B).set j A).flatMap Board.cells) 5 true)) = h7 at f27 x7 y7 n7 ⊢
  have f7 := f2.trans f27
  obtain ⟨h8, e8, g8, _, fr8, n8⟩ := copy_at (ts := []) app_22 (Fr.refl f7.ok) (by omega) ints_len (ints_one l) (hv'.fr hk f7) (by omega) (by omega)
  have f28 := f27.trans fr8
  have f8 := f2.trans f28
  have x8 := fr8.row' f7.ok x7
  have y8 := fr8.row' f7.ok y7
  have rr48 := f8.row' hk rr4
  have putA := ints_put (y := y) hx
  have putB := ints_put (y := x) (swap_get hx hy)
  have f29 : Fr h2 (h8.set h7.next (.row ((l.set i y).flatMap ints) 1 true)) := f28.set (by omega) (by omega) _
  have g9 : (h8.set h7.next (.row ((l.set i y).flatMap ints) 1 true)).get h7.next = some (.row ((l.set i y).flatMap ints) 1 true) := Heap.get_set_self _ _ _
  have rr49 : rowAt (h8.set h7.next (.row ((l.set i y).flatMap ints) 1 true)) b4 = some row4 := by have := row_lt hk rr4; rw [rowAt_set_lt _ (by have := f7.next; omega)]; exact rr48
  have x9 : rowAt (h8.set h7.next (.row ((l.set i y).flatMap ints) 1 true)) h2.next = some [.slice p1 s.offs.length c1, .slice (some ⟨h3.next, 0, some 5⟩) s.boards.length s.boards.length, .slice p3 s.tars.length c3] := by rw [rowAt_set_lt _ (by omega)]; exact x8
  have y9 : rowAt (h8.set h7.next (.row ((l.set i y).flatMap ints) 1 true)) h3.next = some (((s.boards.set i B).set j A).flatMap Board.cells) := by rw [rowAt_set_lt _ (by omega)]; exact y8
  have n9 : (h8.set h7.next (.row ((l.set i y).flatMap ints) 1 true)).next = h8.next := by simp
  simp (maxDischargeDepth := 30) only [AMS, AMH, ↓reduceIte, Nat.reduceLT, Nat.reduceEqDiff, Nat.reduceAdd, Nat.reduceMul, reduceCtorEq, decide_true, decide_false, Nat.reduceLeDiff, Int.reduceNe, Int.reduceEq, ne_eq, not_false_eq_true, and_self, fp_26_1, ix_22, ix_23, ld_23, ld_26, ld_3, ld_72, len_22, len_23, part_3, part_72, size_22, size_23, size_26, size_3, size_72, und_22, und_23, und_3, zero_22, zero_23, zero_26, zero_3, zero_72, f7.ok, e8, f8.ok, hil, hjl, Nat.mul_one, rr48, ey, g8, putA]
  generalize (h8.set h7.next (.row ((l.set i y).flatMap ints) 1 true)) = h9 at f29 g9 rr49 x9 y9 n9 ⊢
  simp (maxDischargeDepth := 30) only [AMS, AMH, ↓reduceIte, Nat.reduceLT, Nat.reduceEqDiff, Nat.reduceAdd, Nat.reduceMul, reduceCtorEq, decide_true, decide_false, Nat.reduceLeDiff, Int.reduceNe, Int.reduceEq, ne_eq, not_false_eq_true, and_self, fp_26_1, ix_22, ix_23, ld_23, ld_26, ld_3, ld_72, len_22, len_23, part_3, part_72, size_22, size_23, size_26, size_3, size_72, und_22, und_23, und_3, zero_22, zero_23, zero_26, zero_3, zero_72, (f2.trans f29).ok, hil, hjl, Nat.mul_one, rr49, ex, g9, putB]
  have f2A : Fr h2 (h9.set h7.next (.row (((l.set i y).set j x).flatMap ints) 1 true)) := f29.set (by omega) (by omega) _
  have xA : rowAt (h9.set h7.next (.row (((l.set i y).set j x).flatMap ints) 1 true)) h2.next = some [.slice p1 s.offs.length c1, .slice (some ⟨h3.next, 0, some 5⟩) s.boards.length s.boards.length, .slice p3 s.tars.length c3] := by rw [rowAt_set_lt _ (by omega)]; exact x9
  have yA : rowAt (h9.set h7.next (.row (((l.set i y).set j x).flatMap ints) 1 true)) h3.next = some (((s.boards.set i B).set j A).flatMap Board.cells) := by rw [rowAt_set_lt _ (by omega)]; exact y9
  have zA : rowAt (h9.set h7.next (.row (((l.set i y).set j x).flatMap ints) 1 true)) h7.next = some (((l.set i y).set j x).flatMap ints) := rowAt_set_self _ _ _ _ _
  generalize (h9.set h7.next (.row (((l.set i y).set j x).flatMap ints) 1 true)) = hA' at f2A xA yA zA ⊢
  have fA := f2.trans f2A
  have rA := f2A.row' f2.ok r2
  have hsX : IsSheet hA' (.slice p1 s.offs.length c1) (.slice (some ⟨h3.next, 0, some 5⟩) s.boards.length s.boards.length) (.slice p3 s.tars.length c3) ⟨s.offs, (s.boards.set i B).set j A, s.tars⟩ := by
    refine ⟨(hs'.fr hk fA).offs, ?_, (hs'.fr hk fA).tars⟩
    have := LS.of_row (sp := some 5) (c := s.boards.length) Board.len yA
    rw [List.length_set, List.length_set] at this
    exact this
  have hvX : LS hA' (.slice (some ⟨h7.next, 0, some 1⟩) l.length l.length) ((l.set i y).set j x) ints 1 := by
    have := LS.of_row (sp := some 1) (c := l.length) ints_len zA
    rw [List.length_set, List.length_set] at this
    exact this
  have nz : 0 < hA'.next := by have := fA.next; omega
  have F0 : Fr hA' hA' := Fr.refl fA.ok
  simp (maxDischargeDepth := 30) only [AMS, AMH, ↓reduceIte, Nat.reduceLT, Nat.reduceEqDiff, Nat.reduceAdd, Nat.reduceMul, reduceCtorEq, decide_true, decide_false, Nat.reduceLeDiff, Int.reduceNe, Int.reduceEq, ne_eq, not_false_eq_true, and_self, fp_26_1, ix_22, ix_23, ld_23, ld_26, ld_3, ld_72, len_22, len_23, part_3, part_72, size_22, size_23, size_26, size_3, size_72, und_22, und_23, und_3, zero_22, zero_23, zero_26, zero_3, zero_72, (fA.trans F0).ok, rA, xA]
  refine W_call (total_25 (fA.trans F0).ok (by have := F0.next; omega) (hs'.fr hk (fA.trans F0)) (hv'.fr hk (fA.trans F0)) ok hl hT) ?_
  rintro _ k0 ⟨rfl, G0⟩
  have F1 := F0.trans G0
  have R1 := G0.row' F0.ok rA
  have X1 := G0.row' F0.ok xA
  simp (maxDischargeDepth := 30) only [AMS, AMH, ↓reduceIte, Nat.reduceLT, Nat.reduceEqDiff, Nat.reduceAdd, Nat.reduceMul, reduceCtorEq, decide_true, decide_false, Nat.reduceLeDiff, Int.reduceNe, Int.reduceEq, ne_eq, not_false_eq_true, and_self, fp_26_1, ix_22, ix_23, ld_23, ld_26, ld_3, ld_72, len_22, len_23, part_3, part_72, size_22, size_23, size_26, size_3, size_72, und_22, und_23, und_3, zero_22, zero_23, zero_26, zero_3, zero_72, (fA.trans F1).ok, R1, X1]
  refine W_call (total_25 (s := ⟨s.offs, (s.boards.set i B).set j A, s.tars⟩) (t := T) (fA.trans F1).ok (by have := F1.next; omega) (hsX.fr fA.ok F1) (hvX.fr fA.ok F1) ok' hl' hT) ?_
  rintro _ k1 ⟨rfl, G1⟩
  have F2 := F1.trans G1
  have R2 := G1.row' F1.ok R1
  have X2 := G1.row' F1.ok X1
  simp (maxDischargeDepth := 30) only [AMS, AMH, ↓reduceIte, Nat.reduceLT, Nat.reduceEqDiff, Nat.reduceAdd, Nat.reduceMul, reduceCtorEq, decide_true, decide_false, Nat.reduceLeDiff, Int.reduceNe, Int.reduceEq, ne_eq, not_false_eq_true, and_self, fp_26_1, ix_22, ix_23, ld_23, ld_26, ld_3, ld_72, len_22, len_23, part_3, part_72, size_22, size_23, size_26, size_3, size_72, und_22, und_23, und_3, zero_22, zero_23, zero_26, zero_3, zero_72, (fA.trans F2).ok, R2, X2]
  refine W_call (share_52 (fA.trans F2).ok (by have := F2.next; omega) (hs'.fr hk (fA.trans F2)) (hv'.fr hk (fA.trans F2)) ok hl hT) ?_
  rintro _ k2 ⟨w1, rfl, q1, G2⟩
  have F3 := F2.trans G2
  have R3 := G2.row' F2.ok R2
  have X3 := G2.row' F2.ok X2
  simp (maxDischargeDepth := 30) only [AMS, AMH, ↓reduceIte, Nat.reduceLT, Nat.reduceEqDiff, Nat.reduceAdd, Nat.reduceMul, reduceCtorEq, decide_true, decide_false, Nat.reduceLeDiff, Int.reduceNe, Int.reduceEq, ne_eq, not_false_eq_true, and_self, fp_26_1, ix_22, ix_23, ld_23, ld_26, ld_3, ld_72, len_22, len_23, part_3, part_72, size_22, size_23, size_26, size_3, size_72, und_22, und_23, und_3, zero_22, zero_23, zero_26, zero_3, zero_72, (fA.trans F3).ok, R3, X3]
  refine W_call (share_52 (s := ⟨s.offs, (s.boards.set i B).set j A, s.tars⟩) (t := T) (fA.trans F3).ok (by have := F3.next; omega) (hsX.fr fA.ok F3) (hvX.fr fA.ok F3) ok' hl' hT) ?_
  rintro _ k3 ⟨w2, rfl, q2, G3⟩
  have F4 := F3.trans G3
  have R4 := G3.row' F3.ok R3
  have X4 := G3.row' F3.ok X3
  simp (maxDischargeDepth := 30) only [AMS, AMH, ↓reduceIte, Nat.reduceLT, Nat.reduceEqDiff, Nat.reduceAdd, Nat.reduceMul, reduceCtorEq, decide_true, decide_false, Nat.reduceLeDiff, Int.reduceNe, Int.reduceEq, ne_eq, not_false_eq_true, and_self, fp_26_1, ix_22, ix_23, ld_23, ld_26, ld_3, ld_72, len_22, len_23, part_3, part_72, size_22, size_23, size_26, size_3, size_72, und_22, und_23, und_3, zero_22, zero_23, zero_26, zero_3, zero_72, (fA.trans F4).ok, R4, X4]
  refine W_call (parts_30 (fA.trans F4).ok (by have := F4.next; omega) (hs'.fr hk (fA.trans F4)) (hv'.fr hk (fA.trans F4)) ok hl hT) ?_
  rintro _ k4 ⟨w3, rfl, q3, G4⟩
  have F5 := F4.trans G4
  have R5 := G4.row' F4.ok R4
  have X5 := G4.row' F4.ok X4
  simp (maxDischargeDepth := 30) only [AMS, AMH, ↓reduceIte, Nat.reduceLT, Nat.reduceEqDiff, Nat.reduceAdd, Nat.reduceMul, reduceCtorEq, decide_true, decide_false, Nat.reduceLeDiff, Int.reduceNe, Int.reduceEq, ne_eq, not_false_eq_true, and_self, fp_26_1, ix_22, ix_23, ld_23, ld_26, ld_3, ld_72, len_22, len_23, part_3, part_72, size_22, size_23, size_26, size_3, size_72, und_22, und_23, und_3, zero_22, zero_23, zero_26, zero_3, zero_72, (fA.trans F5).ok, R5, X5]
  refine W_call (parts_30 (s := ⟨s.offs, (s.boards.set i B).set j A, s.tars⟩) (t := T) (fA.trans F5).ok (by have := F5.next; omega) (hsX.fr fA.ok F5) (hvX.fr fA.ok F5) ok' hl' hT) ?_
  rintro _ k5 ⟨w4, rfl, q4, G5⟩
  have F6 := F5.trans G5
  have R6 := G5.row' F5.ok R5
  have X6 := G5.row' F5.ok X5
  simp (maxDischargeDepth := 30) only [AMS, AMH, ↓reduceIte, Nat.reduceLT, Nat.reduceEqDiff, Nat.reduceAdd, Nat.reduceMul, reduceCtorEq, decide_true, decide_false, Nat.reduceLeDiff, Int.reduceNe, Int.reduceEq, ne_eq, not_false_eq_true, and_self, fp_26_1, ix_22, ix_23, ld_23, ld_26, ld_3, ld_72, len_22, len_23, part_3, part_72, size_22, size_23, size_26, size_3, size_72, und_22, und_23, und_3, zero_22, zero_23, zero_26, zero_3, zero_72, (fA.trans F6).ok, R6, X6]
  refine W_call (owes_58 (fA.trans F6).ok (by have := F6.next; omega) (hs'.fr hk (fA.trans F6)) (hv'.fr hk (fA.trans F6)) ok hl hT) ?_
  rintro _ k6 ⟨w5, rfl, q5, G6⟩
  have F7 := F6.trans G6
  have R7 := G6.row' F6.ok R6
  have X7 := G6.row' F6.ok X6
  simp (maxDischargeDepth := 30) only [AMS, AMH, ↓reduceIte, Nat.reduceLT, Nat.reduceEqDiff, Nat.reduceAdd, Nat.reduceMul, reduceCtorEq, decide_true, decide_false, Nat.reduceLeDiff, Int.reduceNe, Int.reduceEq, ne_eq, not_false_eq_true, and_self, fp_26_1, ix_22, ix_23, ld_23, ld_26, ld_3, ld_72, len_22, len_23, part_3, part_72, size_22, size_23, size_26, size_3, size_72, und_22, und_23, und_3, zero_22, zero_23, zero_26, zero_3, zero_72, (fA.trans F7).ok, R7, X7]
  refine W_call (owes_58 (s := ⟨s.offs, (s.boards.set i B).set j A, s.tars⟩) (t := T) (fA.trans F7).ok (by have := F7.next; omega) (hsX.fr fA.ok F7) (hvX.fr fA.ok F7) ok' hl' hT) ?_
  rintro _ k7 ⟨w6, rfl, q6, G7⟩
  have F8 := F7.trans G7
  have R8 := G7.row' F7.ok R7
  have X8 := G7.row' F7.ok X7
  have fE := fA.trans F8
  have slen := sharesL_len (P := paid T s.boards l) (W := weights s.offs.length T s.boards l)
  rw [weights_len] at slen
  have ol := owesL_len slen
  have q2 : LS k3 w2 (sharesL (paid T ((s.boards.set i B).set j A) ((l.set i y).set j x)) (weights s.offs.length T ((s.boards.set i B).set j A) ((l.set i y).set j x))) ints 1 := q2
  have q6 : LS k7 w6 (owesL (sharesL (paid T ((s.boards.set i B).set j A) ((l.set i y).set j x)) (weights s.offs.length T ((s.boards.set i B).set j A) ((l.set i y).set j x))) s.offs) ints 1 := q6
  have q4 : LS k5 w4 (parts T ((s.boards.set i B).set j A) ((l.set i y).set j x)) ints 1 := q4
  rw [eP, eW] at q2 q6
  have pA : (parts T s.boards l)[i]? = some (price1 T (qty T.kind A x)) := parts_get hA hx
  have pB : (parts T s.boards l)[j]? = some (price1 T (qty T.kind B y)) := parts_get hB hy
  have hA2 : ((s.boards.set i B).set j A)[j]? = some A := List.getElem?_set_self (by rw [List.length_set]; exact hj)
  have hx2 : ((l.set i y).set j x)[j]? = some x := List.getElem?_set_self (by rw [List.length_set]; exact hjl)
  have pA2 : (parts T ((s.boards.set i B).set j A) ((l.set i y).set j x))[j]? = some (price1 T (qty T.kind A x)) := parts_get hA2 hx2
  have pB2 : (parts T ((s.boards.set i B).set j A) ((l.set i y).set j x))[i]? = some (price1 T (qty T.kind B y)) := by
    by_cases e : j = i
    · subst e
      have e1 : B = A := by rw [hA] at hB; simpa using hB.symm
      have e2 : y = x := by rw [hx] at hy; simpa using hy.symm
      rw [pA2, e1, e2]
    · refine parts_get ?_ ?_
      · rw [List.getElem?_set_ne e]; exact List.getElem?_set_self hi
      · rw [List.getElem?_set_ne e]; exact List.getElem?_set_self hil
  have l1 := parts_len (t := T) hll
  have l2 := parts_len (t := T) (bs := (s.boards.set i B).set j A) (hs := (l.set i y).set j x) (by simp [hll])
  have l2 : (parts T ((s.boards.set i B).set j A) ((l.set i y).set j x)).length = s.boards.length := by rw [l2]; simp
  have g4 := (G4.trans G5).trans G6 |>.trans G7
  have g5 := (G5.trans G6).trans G7
  have Q1 := (((((q1.fr F3.ok G3).fr F4.ok G4).fr F5.ok G5).fr F6.ok G6).fr F7.ok G7)
  have Q2 := ((((q2.fr F4.ok G4).fr F5.ok G5).fr F6.ok G6).fr F7.ok G7)
  have Q3 := (((q3.fr F5.ok G5).fr F6.ok G6).fr F7.ok G7)
  have Q4 := ((q4.fr F6.ok G6).fr F7.ok G7)
  have Q5 := q5.fr F7.ok G7
  generalize sharesL (paid T s.boards l) (weights s.offs.length T s.boards l) = X at *
  obtain ⟨_, _, es1, rfl, rfl⟩ := same_35 _ _ _ _ k7 fE.ok Q1 Q2 (by omega) (by omega)
  obtain ⟨_, _, es2, rfl, rfl⟩ := same_35 _ _ _ _ _ fE.ok Q5 q6 (by omega) (by omega)
  simp only [decide_true] at es1 es2
  obtain ⟨pa, ca, rfl⟩ := Q3.len
  obtain ⟨pb, cb, rfl⟩ := Q4.len
  obtain ⟨ba, oa, spa, rowa, rfl, rra, ea1⟩ := Q3.cell pA
  have ea2 : rowa[oa + j]? = some (.int .i64 (price1 T (qty T.kind B y))) := by
    obtain ⟨b', o', sp', row', he, hr, hh⟩ := Q3.cell pB
    simp only [Option.some.injEq, Addr.mk.injEq] at he
    obtain ⟨rfl, rfl, rfl⟩ := he
    rw [rra] at hr
    obtain rfl : rowa = row' := by simpa using hr
    exact hh
  obtain ⟨bc, oc, spc, rowc, rfl, rrc, ec1⟩ := Q4.cell pA2
  have ec2 : rowc[oc + i]? = some (.int .i64 (price1 T (qty T.kind B y))) := by
    obtain ⟨b', o', sp', row', he, hr, hh⟩ := Q4.cell pB2
    simp only [Option.some.injEq, Addr.mk.injEq] at he
    obtain ⟨rfl, rfl, rfl⟩ := he
    rw [rrc] at hr
    obtain rfl : rowc = row' := by simpa using hr
    exact hh
  have nn : ((s.boards.length : Int) != s.boards.length) = false := by simp
  have t1 : (paid T s.boards l == paid T ((s.boards.set i B).set j A) ((l.set i y).set j x)) = true := by rw [eP]; simp
  have t2 : (price1 T (qty T.kind A x) == price1 T (qty T.kind A x)) = true := by simp
  have t3 : (price1 T (qty T.kind B y) == price1 T (qty T.kind B y)) = true := by simp
  simp (maxDischargeDepth := 30) only [AMS, AMH, ↓reduceIte, Nat.reduceLT, Nat.reduceEqDiff, Nat.reduceAdd, Nat.reduceMul, reduceCtorEq, decide_true, decide_false, Nat.reduceLeDiff, Int.reduceNe, Int.reduceEq, ne_eq, not_false_eq_true, and_self, fp_26_1, ix_22, ix_23, ld_23, ld_26, ld_3, ld_72, len_22, len_23, part_3, part_72, size_22, size_23, size_26, size_3, size_72, und_22, und_23, und_3, zero_22, zero_23, zero_26, zero_3, zero_72, fE.ok, R8, n00, l1, l2, nn]
  refine W_draw [(true, 0), (true, 1), (true, 2), (true, 3), (true, 4), (true, 5), (true, 6), (true, 7), (true, 8), (true, 9), (true, 10), (true, 11), (true, 12), (true, 13), (true, 14), (true, 15), (true, 16), (true, 17), (true, 18), (true, 19), (true, 20), (true, 21), (true, 22), (true, 23), (true, 24), (true, 25), (true, 26), (true, 27), (true, 28), (true, 29), (true, 30), (true, 31), (true, 32), (true, 33), (true, 34), (true, 35), (true, 36), (true, 37), (true, 38)] (by kernel_rfl) ?_
  simp (maxDischargeDepth := 30) only [AMS, AMH, ↓reduceIte, Nat.reduceLT, Nat.reduceEqDiff, Nat.reduceAdd, Nat.reduceMul, reduceCtorEq, decide_true, decide_false, Nat.reduceLeDiff, Int.reduceNe, Int.reduceEq, ne_eq, not_false_eq_true, and_self, AMR, fp_26_1, ix_22, ix_23, ld_23, ld_26, ld_3, ld_72, len_22, len_23, part_3, part_72, size_22, size_23, size_26, size_3, size_72, und_22, und_23, und_3, zero_22, zero_23, zero_26, zero_3, zero_72, fE.ok, t1, es1, es2, hi, hj, Nat.mul_one, rra, ea1, ea2, rrc, ec1, ec2, t2, t3, known_23]
  exact ⟨trivial, fE⟩
end Go.Am
