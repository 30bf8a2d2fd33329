/- Parts 101 of the abstract machine over this program, joined: what each part says stands at its head. -/
import Derived.Test.YtfnkjclplfhjcaaGreatDoorJ100
set_option linter.unusedSimpArgs false
set_option linter.unusedVariables false
/- The abstract machine, part 101: contracts: Share and Owes, by the program. -/
namespace Go.Am
open Go Go.Proofs

theorem mid_get' {A B : List Int} (hl : A.length = B.length) (i : Nat) : (B.take i ++ A.drop i)[i]? = A[i]? := by
  by_cases h : i ≤ B.length
  · rw [List.getElem?_append_right (by rw [List.length_take]; omega), List.getElem?_drop, List.length_take, Nat.min_eq_left h]
    simp
  · rw [List.getElem?_eq_none (by simp; omega), List.getElem?_eq_none (by omega)]
theorem mid_set {A B : List Int} (hl : A.length = B.length) {i : Nat} {y : Int} (hy : B[i]? = some y) : (B.take i ++ A.drop i).set i y = B.take (i + 1) ++ A.drop (i + 1) := by
  have hi := (List.getElem?_eq_some_iff.1 hy).1
  rw [List.set_append_right _ _ (by rw [List.length_take]; omega), List.length_take, Nat.min_eq_left (by omega), Nat.sub_self, take_snoc hy, List.append_assoc]
  congr 1
  rw [List.drop_eq_getElem_cons (by omega : i < A.length)]
  rfl

theorem weights_len (n : Nat) (t : Tar) (bs : List Board) (hs : List Int) : (weights n t bs hs).length = n := by
  unfold weights; split <;> exact ownParts_len _ _ _
theorem takeRef_len : ∀ (c : Nat) (out r : List Int), (takeRef c out r).length = out.length
  | 0, _, _ => rfl
  | c + 1, out, r => by unfold takeRef; rw [takeRef_len c, bump_len]
theorem sharesL_len {P : Int} {W : List Int} : (sharesL P W).length = W.length := by
  unfold sharesL; rw [takeRef_len]; simp [baseL]
theorem takeRef_b {B : Int} : ∀ (c : Nat) (out r : List Int), 0 ≤ B → (∀ x ∈ out, 0 ≤ x ∧ x ≤ B) → ∀ x ∈ takeRef c out r, 0 ≤ x ∧ x ≤ B + c
  | 0, _, _, _, h => fun x hx => by have := h x hx; omega
  | c + 1, out, r, hB, h => fun x hx => by
    unfold takeRef at hx
    have := takeRef_b (B := B + 1) c (bump out (argmax r r.length)) (r.set (argmax r r.length) (-1)) (by omega) (fun y hy => by
      unfold bump at hy
      rcases mem_set hy with q | rfl
      · have := h y q; omega
      · rw [List.getD_eq_getElem?_getD]
        cases e : out[argmax r r.length]? with
        | none => simp; omega
        | some z => have := h z (List.mem_of_getElem? e); simp; omega) x hx
    omega
theorem weights_b {s : Sheet} {t : Tar} {l : List Int} (ok : s.ok = true) (hq : ∀ x ∈ qtys t s.boards l, 0 ≤ x ∧ x ≤ 60) (hll : l.length = s.boards.length) : (∀ x ∈ weights s.offs.length t s.boards l, 0 ≤ x ∧ x ≤ 1000) ∧ 1 ≤ sumI (weights s.offs.length t s.boards l) := by
  have hlen := Sheet.ok_len ok
  have ql := qtys_len (t := t) hll
  have how : ∀ b ∈ s.boards, 0 ≤ b.ow ∧ b.ow < (s.offs.length : Int) := fun b hb => by
    have := of_decide_eq_true (Sheet.ok_boards ok b hb); omega
  have gen : ∀ m : List Int, m.length = s.boards.length → (∀ x ∈ m, 0 ≤ x ∧ x ≤ 60) → ∀ x ∈ ownParts s.offs.length s.boards m, 0 ≤ x ∧ x ≤ 1000 := fun m hm hb x hx => by
    unfold ownParts at hx
    rw [List.mem_map] at hx
    obtain ⟨k, _, rfl⟩ := hx
    have := ownSum_b (k := (k : Int)) (B := 60) (by omega) (bs := s.boards) hb
    omega
  unfold weights
  split
  · exact ⟨gen _ (by rw [List.length_replicate]) fun x hx => by have := List.eq_of_mem_replicate hx; omega, by rw [ownParts_sum (by rw [List.length_replicate]) how, sumI_ones]; omega⟩
  · rename_i hne
    have g := gen _ ql hq
    have := sumI_bound g
    exact ⟨g, by omega⟩
theorem sharesL_b {P : Int} {W : List Int} (hP : 0 ≤ P ∧ P ≤ 1000000) (hW : ∀ x ∈ W, 0 ≤ x ∧ x ≤ 1000) (hA : 1 ≤ sumI W) (hl : W.length ≤ 3) : ∀ x ∈ sharesL P W, 0 ≤ x ∧ x ≤ 1000000010 := by
  have lb := left_b hP.1 (fun w hw => (hW w hw).1) hA
  intro x hx
  have := takeRef_b (B := 1000000000) _ _ _ (by omega) (fun y hy => by
    unfold baseL at hy
    rw [List.mem_map] at hy
    obtain ⟨w, hw', rfl⟩ := hy
    have hw := hW w hw'
    have pw0 : 0 ≤ P * w := Int.mul_nonneg hP.1 hw.1
    have pw1 : P * w ≤ 1000000 * 1000 := Int.mul_le_mul hP.2 hw.2 hw.1 (by omega)
    have dd := div_b (a := P * w) (b := sumI W) pw0 hA
    omega) x hx
  have : (leftN P W : Int) < 4 := by unfold leftN; omega
  omega

/-- what owners owe: their shares, less discounts -/
def owesL (X offs : List Int) : List Int := (X.zip offs).map fun p => p.1 - p.1 * p.2 / 100
theorem owesL_len {X offs : List Int} (h : X.length = offs.length) : (owesL X offs).length = X.length := by simp [owesL, h]
theorem owesL_get {X offs : List Int} {i : Nat} {x o : Int} (h1 : X[i]? = some x) (h2 : offs[i]? = some o) : (owesL X offs)[i]? = some (x - x * o / 100) := by
  have : (X.zip offs)[i]? = some (x, o) := List.getElem?_zip_eq_some.2 ⟨h1, h2⟩
  unfold owesL; rw [List.getElem?_map, this]; rfl

set_option maxRecDepth 10000 in
set_option maxHeartbeats 1000000 in
theorem share_52_bad {h : Heap} (hk : HOK h) {a b c v : Value} {s : Sheet} {l : List Int} (t : Int) (hs : IsSheet h a b c s) (hv : LS h v l ints 1) (hn : s.tars.length ≤ 100) (hl : l.length ≤ 1000) (hb : s.boards.length ≤ 1000) (bad : goodB s t l = false) :
    CW CC 52 [.agg ⟨[a, b, c]⟩, .int .i64 t, v] h fun r h' => r = .tuple ⟨[.slice none 0 0, .int .i64 2]⟩ ∧ Fr h h' := by
  obtain ⟨p1, c1, rfl, x1⟩ := hs.offs.open
  obtain ⟨p2, c2, rfl, _⟩ := hs.boards.open
  obtain ⟨p3, c3, rfl, x3⟩ := hs.tars.open
  obtain ⟨p4, c4, rfl, _⟩ := hv.open
  refine CW_in Tryz.f52 (by kernel_rfl) (by kernel_rfl) rfl rfl ?_
  simp only [Tryz.f52]
  have f1 : Fr h (h.alloc (.row [.slice p1 s.offs.length c1, .slice p2 s.boards.length c2, .slice p3 s.tars.length c3] 0 true)) := (Fr.refl hk).alloc _
  have r1 : rowAt (h.alloc (.row [.slice p1 s.offs.length c1, .slice p2 s.boards.length c2, .slice p3 s.tars.length c3] 0 true)) h.next = some [.slice p1 s.offs.length c1, .slice p2 s.boards.length c2, .slice p3 s.tars.length c3] := rowAt_new _ _ _ _
  obtain ⟨_, h2, e2, rfl, fr2⟩ := isOne_70 f1.ok (hs.fr hk f1) t (by omega)
  have f2 := f1.trans fr2
  have r2 := fr2.row' f1.ok r1
  unfold goodB at bad
  cases hone : (s.ok && inP t 0 (s.tars.length - 1)) with
  | false =>
    rw [hone] at e2
    simp (maxDischargeDepth := 30) only [AMS, AMH, ↓reduceIte, Nat.reduceLT, Nat.reduceEqDiff, Nat.reduceAdd, Nat.reduceMul, reduceCtorEq, decide_true, decide_false, Nat.reduceLeDiff, Int.reduceNe, Int.reduceEq, ne_eq, not_false_eq_true, and_self, fp_26_2, ix_24, ld_24, ld_26, ld_41, part_41, size_24, size_41, und_24, zero_24, hk, e2, f2.ok, r2]
    exact ⟨trivial, f2⟩
  | true =>
    rw [hone] at e2 bad
    simp only [Bool.true_and] at bad
    obtain ⟨_, h3, e4, rfl, fr3⟩ := areHours_74 f2.ok (hs.fr hk f2) (hv.fr hk f2) (by omega) (by omega)
    rw [bad] at e4
    have f3 := f2.trans fr3
    simp (maxDischargeDepth := 30) only [AMS, AMH, ↓reduceIte, Nat.reduceLT, Nat.reduceEqDiff, Nat.reduceAdd, Nat.reduceMul, reduceCtorEq, decide_true, decide_false, Nat.reduceLeDiff, Int.reduceNe, Int.reduceEq, ne_eq, not_false_eq_true, and_self, fp_26_2, ix_24, ld_24, ld_26, ld_41, part_41, size_24, size_41, und_24, zero_24, hk, e2, f2.ok, r2, e4]
    exact ⟨trivial, f3⟩

set_option maxRecDepth 10000 in
set_option maxHeartbeats 1000000 in
theorem owes_58_bad {h : Heap} (hk : HOK h) {a b c v : Value} {s : Sheet} {l : List Int} (t : Int) (hs : IsSheet h a b c s) (hv : LS h v l ints 1) (hn : s.tars.length ≤ 100) (hl : l.length ≤ 1000) (hb : s.boards.length ≤ 1000) (bad : goodB s t l = false) :
    CW CC 58 [.agg ⟨[a, b, c]⟩, .int .i64 t, v] h fun r h' => r = .tuple ⟨[.slice none 0 0, .int .i64 2]⟩ ∧ Fr h h' := by
  obtain ⟨p1, c1, rfl, x1⟩ := hs.offs.open
  obtain ⟨p2, c2, rfl, _⟩ := hs.boards.open
  obtain ⟨p3, c3, rfl, x3⟩ := hs.tars.open
  obtain ⟨p4, c4, rfl, _⟩ := hv.open
  refine CW_in Tryz.f58 (by kernel_rfl) (by kernel_rfl) rfl rfl ?_
  simp only [Tryz.f58]
  have f1 : Fr h (h.alloc (.row [.slice p1 s.offs.length c1, .slice p2 s.boards.length c2, .slice p3 s.tars.length c3] 0 true)) := (Fr.refl hk).alloc _
  have r1 : rowAt (h.alloc (.row [.slice p1 s.offs.length c1, .slice p2 s.boards.length c2, .slice p3 s.tars.length c3] 0 true)) h.next = some [.slice p1 s.offs.length c1, .slice p2 s.boards.length c2, .slice p3 s.tars.length c3] := rowAt_new _ _ _ _
  obtain ⟨_, h2, e2, rfl, fr2⟩ := isOne_70 f1.ok (hs.fr hk f1) t (by omega)
  have f2 := f1.trans fr2
  have r2 := fr2.row' f1.ok r1
  unfold goodB at bad
  cases hone : (s.ok && inP t 0 (s.tars.length - 1)) with
  | false =>
    rw [hone] at e2
    simp (maxDischargeDepth := 30) only [AMS, AMH, ↓reduceIte, Nat.reduceLT, Nat.reduceEqDiff, Nat.reduceAdd, Nat.reduceMul, reduceCtorEq, decide_true, decide_false, Nat.reduceLeDiff, Int.reduceNe, Int.reduceEq, ne_eq, not_false_eq_true, and_self, fp_26_0, fp_26_2, ix_22, ix_24, ld_22, ld_24, ld_26, ld_3, ld_41, len_22, part_3, part_41, size_22, size_24, size_3, size_41, und_22, und_24, und_3, zero_22, zero_24, zero_3, hk, e2, f2.ok, r2]
    exact ⟨trivial, f2⟩
  | true =>
    rw [hone] at e2 bad
    simp only [Bool.true_and] at bad
    obtain ⟨_, h3, e4, rfl, fr3⟩ := areHours_74 f2.ok (hs.fr hk f2) (hv.fr hk f2) (by omega) (by omega)
    rw [bad] at e4
    have f3 := f2.trans fr3
    simp (maxDischargeDepth := 30) only [AMS, AMH, ↓reduceIte, Nat.reduceLT, Nat.reduceEqDiff, Nat.reduceAdd, Nat.reduceMul, reduceCtorEq, decide_true, decide_false, Nat.reduceLeDiff, Int.reduceNe, Int.reduceEq, ne_eq, not_false_eq_true, and_self, fp_26_0, fp_26_2, ix_22, ix_24, ld_22, ld_24, ld_26, ld_3, ld_41, len_22, part_3, part_41, size_22, size_24, size_3, size_41, und_22, und_24, und_3, zero_22, zero_24, zero_3, hk, e2, f2.ok, r2, e4]
    exact ⟨trivial, f3⟩

set_option maxRecDepth 10000 in
set_option maxHeartbeats 2000000 in
theorem share_52 {h : Heap} (hk : HOK h) (hp : 0 < h.next) {a b c v : Value} {s : Sheet} {l : List Int} {i : Nat} {t : Tar} (hs : IsSheet h a b c s) (hv : LS h v l ints 1) (ok : s.ok = true) (hl : hoursOK s.boards l = true) (ht : s.tars[i]? = some t) :
    CW CC 52 [.agg ⟨[a, b, c]⟩, .int .i64 i, v] h fun r h' => ∃ x, r = .tuple ⟨[x, .int .i64 0]⟩ ∧ LS h' x (sharesL (paid t s.boards l) (weights s.offs.length t s.boards l)) ints 1 ∧ Fr h h' := by
  have hlen := Sheet.ok_len ok
  have hil := (List.getElem?_eq_some_iff.1 ht).1
  have hll := (hoursOK_at hl).1
  have htok := Sheet.ok_tars ok t (List.mem_of_getElem? ht)
  have hq := qtys_b ok hl t
  have hs' := hs
  obtain ⟨p1, c1, rfl, x1⟩ := hs.offs.open
  obtain ⟨p2, c2, rfl, _⟩ := hs.boards.open
  obtain ⟨p3, c3, rfl, x3⟩ := hs.tars.open
  obtain ⟨p4, c4, rfl, _⟩ := hv.open
  obtain ⟨bt, ot, spt, rowt, rfl, rrt, et⟩ := LS.at (n := 0) (c := 0) x3 ht
  refine CW_in Tryz.f52 (by kernel_rfl) (by kernel_rfl) rfl rfl ?_
  simp only [Tryz.f52]
  have f1 : Fr h (h.alloc (.row [.slice p1 s.offs.length c1, .slice p2 s.boards.length c2, .slice (some ⟨bt, ot, spt⟩) s.tars.length c3] 0 true)) := (Fr.refl hk).alloc _
  have r1 : rowAt (h.alloc (.row [.slice p1 s.offs.length c1, .slice p2 s.boards.length c2, .slice (some ⟨bt, ot, spt⟩) s.tars.length c3] 0 true)) h.next = some [.slice p1 s.offs.length c1, .slice p2 s.boards.length c2, .slice (some ⟨bt, ot, spt⟩) s.tars.length c3] := rowAt_new _ _ _ _
  obtain ⟨_, h2, e2, rfl, fr2⟩ := isOne_70 f1.ok (hs.fr hk f1) (i : Int) (by omega)
  have f2 := f1.trans fr2
  have r2 := fr2.row' f1.ok r1
  have hin : (s.ok && inP i 0 (s.tars.length - 1)) = true := by
    rw [ok]; simp [inP]; omega
  rw [hin] at e2
  obtain ⟨_, h3, e4, rfl, fr3⟩ := areHours_74 f2.ok (hs.fr hk f2) (hv.fr hk f2) (by omega) (by omega)
  rw [hl] at e4
  have f3 := f2.trans fr3
  have r3 := fr3.row' f2.ok r2
  have kc : t.cells.all selfC = true := rfl
  simp (maxDischargeDepth := 30) only [AMS, AMH, ↓reduceIte, Nat.reduceLT, Nat.reduceEqDiff, Nat.reduceAdd, Nat.reduceMul, reduceCtorEq, decide_true, decide_false, Nat.reduceLeDiff, Int.reduceNe, Int.reduceEq, ne_eq, not_false_eq_true, and_self, fp_26_2, ix_24, ld_24, ld_26, ld_41, part_41, size_24, size_41, und_24, zero_24, hk, e2, f2.ok, r2, e4]
  refine W_draw [(true, 0), (true, 1), (true, 3), (true, 4), (true, 5), (true, 6), (true, 7), (true, 2), (false, 4), (false, 7), (true, 8), (true, 9), (true, 10)] (by kernel_rfl) ?_
  have rr3' := f3.row' hk rrt
  simp (maxDischargeDepth := 30) only [AMS, AMH, ↓reduceIte, Nat.reduceLT, Nat.reduceEqDiff, Nat.reduceAdd, Nat.reduceMul, reduceCtorEq, decide_true, decide_false, Nat.reduceLeDiff, Int.reduceNe, Int.reduceEq, ne_eq, not_false_eq_true, and_self, fp_26_2, ix_24, ld_24, ld_26, ld_41, part_41, size_24, size_41, und_24, zero_24, f3.ok, r3, hil, rr3', et]
  refine W_callP (bill_72 f3.ok (hs.fr hk f3) (hv.fr hk f3)) ?_
  rintro bv h4 ⟨m, fr4, hm4, hb4, hmap⟩
  have f4 := f3.trans fr4
  have r4 := fr4.row' f3.ok r3
  have rr4' := f4.row' hk rrt
  simp (maxDischargeDepth := 30) only [AMS, AMH, ↓reduceIte, Nat.reduceLT, Nat.reduceEqDiff, Nat.reduceAdd, Nat.reduceMul, reduceCtorEq, decide_true, decide_false, Nat.reduceLeDiff, Int.reduceNe, Int.reduceEq, ne_eq, not_false_eq_true, and_self, AMR, fp_26_2, ix_24, ld_24, ld_26, ld_41, part_41, size_24, size_41, und_24, zero_24, f4.ok, r4, hil, rr4', et, kc]
  refine W_callP (shares_89 (t := t) f4.ok (by have := f4.next; omega) hb4 hmap ok htok hll hq) ?_
  rintro x h5 ⟨q, F5⟩
  have f35 : Fr h3 h5 := F5.fr fr4 hm4
  have f5 := f3.trans f35
  have r5 := f35.row' f3.ok r3
  have rr5' := f5.row' hk rrt
  have slen := sharesL_len (P := paid t s.boards l) (W := weights s.offs.length t s.boards l)
  rw [weights_len] at slen
  obtain ⟨px, cx, rfl⟩ := q.value
  simp (maxDischargeDepth := 30) only [AMS, AMH, ↓reduceIte, Nat.reduceLT, Nat.reduceEqDiff, Nat.reduceAdd, Nat.reduceMul, reduceCtorEq, decide_true, decide_false, Nat.reduceLeDiff, Int.reduceNe, Int.reduceEq, ne_eq, not_false_eq_true, and_self, AMR, fp_26_2, ix_24, ld_24, ld_26, ld_41, part_41, size_24, size_41, und_24, zero_24, f5.ok, r5, hil, rr5', et, kc]
  exact ⟨_, rfl, SL.ls ints_len (by rw [slen]; exact q), f5⟩

set_option maxRecDepth 10000 in
set_option maxHeartbeats 2000000 in
theorem owes_58 {h : Heap} (hk : HOK h) (hp : 0 < h.next) {a b c v : Value} {s : Sheet} {l : List Int} {i : Nat} {t : Tar} (hs : IsSheet h a b c s) (hv : LS h v l ints 1) (ok : s.ok = true) (hl : hoursOK s.boards l = true) (ht : s.tars[i]? = some t) :
    CW CC 58 [.agg ⟨[a, b, c]⟩, .int .i64 i, v] h fun r h' => ∃ x, r = .tuple ⟨[x, .int .i64 0]⟩ ∧ LS h' x (owesL (sharesL (paid t s.boards l) (weights s.offs.length t s.boards l)) s.offs) ints 1 ∧ Fr h h' := by
  have hlen := Sheet.ok_len ok
  have hil := (List.getElem?_eq_some_iff.1 ht).1
  have hll := (hoursOK_at hl).1
  have htok := Sheet.ok_tars ok t (List.mem_of_getElem? ht)
  have hq := qtys_b ok hl t
  have hs' := hs
  obtain ⟨p1, c1, rfl, x1⟩ := hs.offs.open
  obtain ⟨p2, c2, rfl, _⟩ := hs.boards.open
  obtain ⟨p3, c3, rfl, x3⟩ := hs.tars.open
  obtain ⟨p4, c4, rfl, _⟩ := hv.open
  obtain ⟨bt, ot, spt, rowt, rfl, rrt, et⟩ := LS.at (n := 0) (c := 0) x3 ht
  refine CW_in Tryz.f58 (by kernel_rfl) (by kernel_rfl) rfl rfl ?_
  simp only [Tryz.f58]
  have f1 : Fr h (h.alloc (.row [.slice p1 s.offs.length c1, .slice p2 s.boards.length c2, .slice (some ⟨bt, ot, spt⟩) s.tars.length c3] 0 true)) := (Fr.refl hk).alloc _
  have r1 : rowAt (h.alloc (.row [.slice p1 s.offs.length c1, .slice p2 s.boards.length c2, .slice (some ⟨bt, ot, spt⟩) s.tars.length c3] 0 true)) h.next = some [.slice p1 s.offs.length c1, .slice p2 s.boards.length c2, .slice (some ⟨bt, ot, spt⟩) s.tars.length c3] := rowAt_new _ _ _ _
  obtain ⟨_, h2, e2, rfl, fr2⟩ := isOne_70 f1.ok (hs.fr hk f1) (i : Int) (by omega)
  have f2 := f1.trans fr2
  have r2 := fr2.row' f1.ok r1
  have hin : (s.ok && inP i 0 (s.tars.length - 1)) = true := by
    rw [ok]; simp [inP]; omega
  rw [hin] at e2
  obtain ⟨_, h3, e4, rfl, fr3⟩ := areHours_74 f2.ok (hs.fr hk f2) (hv.fr hk f2) (by omega) (by omega)
  rw [hl] at e4
  have f3 := f2.trans fr3
  have r3 := fr3.row' f2.ok r2
  have kc : t.cells.all selfC = true := rfl
  simp (maxDischargeDepth := 30) only [AMS, AMH, ↓reduceIte, Nat.reduceLT, Nat.reduceEqDiff, Nat.reduceAdd, Nat.reduceMul, reduceCtorEq, decide_true, decide_false, Nat.reduceLeDiff, Int.reduceNe, Int.reduceEq, ne_eq, not_false_eq_true, and_self, fp_26_0, fp_26_2, ix_22, ix_24, ld_22, ld_24, ld_26, ld_3, ld_41, len_22, part_3, part_41, size_22, size_24, size_3, size_41, und_22, und_24, und_3, zero_22, zero_24, zero_3, hk, e2, f2.ok, r2, e4]
  refine W_draw [(true, 0), (true, 1), (true, 3), (true, 4), (true, 5), (true, 6), (true, 7), (true, 2), (false, 4), (false, 7), (true, 8), (true, 9)] (by kernel_rfl) ?_
  have rr3' := f3.row' hk rrt
  simp (maxDischargeDepth := 30) only [AMS, AMH, ↓reduceIte, Nat.reduceLT, Nat.reduceEqDiff, Nat.reduceAdd, Nat.reduceMul, reduceCtorEq, decide_true, decide_false, Nat.reduceLeDiff, Int.reduceNe, Int.reduceEq, ne_eq, not_false_eq_true, and_self, fp_26_0, fp_26_2, ix_22, ix_24, ld_22, ld_24, ld_26, ld_3, ld_41, len_22, part_3, part_41, size_22, size_24, size_3, size_41, und_22, und_24, und_3, zero_22, zero_24, zero_3, f3.ok, r3, hil, rr3', et]
  refine W_callP (bill_72 f3.ok (hs.fr hk f3) (hv.fr hk f3)) ?_
  rintro bv h4 ⟨m, fr4, hm4, hb4, hmap⟩
  have f4 := f3.trans fr4
  have r4 := fr4.row' f3.ok r3
  have rr4' := f4.row' hk rrt
  simp (maxDischargeDepth := 30) only [AMS, AMH, ↓reduceIte, Nat.reduceLT, Nat.reduceEqDiff, Nat.reduceAdd, Nat.reduceMul, reduceCtorEq, decide_true, decide_false, Nat.reduceLeDiff, Int.reduceNe, Int.reduceEq, ne_eq, not_false_eq_true, and_self, AMR, fp_26_0, fp_26_2, ix_22, ix_24, ld_22, ld_24, ld_26, ld_3, ld_41, len_22, part_3, part_41, size_22, size_24, size_3, size_41, und_22, und_24, und_3, zero_22, zero_24, zero_3, f4.ok, r4, hil, rr4', et, kc]
  refine W_callP (shares_89 (t := t) f4.ok (by have := f4.next; omega) hb4 hmap ok htok hll hq) ?_
  rintro x h5 ⟨q, F5⟩
  have f35 : Fr h3 h5 := F5.fr fr4 hm4
  have f5 := f3.trans f35
  have r5 := f35.row' f3.ok r3
  have rr5' := f5.row' hk rrt
  have slen := sharesL_len (P := paid t s.boards l) (W := weights s.offs.length t s.boards l)
  rw [weights_len] at slen
  have wb := weights_b (t := t) ok hq hll
  have hP := paid_b htok hll ⟨by omega, by omega⟩ hq
  have sb := sharesL_b hP wb.1 wb.2 (by rw [weights_len]; omega)
  generalize sharesL (paid t s.boards l) (weights s.offs.length t s.boards l) = X at q slen sb
  have ol := owesL_len slen
  rcases q with ⟨_, _, e0⟩ | ⟨bo, rfl, ob0, obN, og, _⟩
  · omega
  simp (maxDischargeDepth := 30) only [AMS, AMH, ↓reduceIte, Nat.reduceLT, Nat.reduceEqDiff, Nat.reduceAdd, Nat.reduceMul, reduceCtorEq, decide_true, decide_false, Nat.reduceLeDiff, Int.reduceNe, Int.reduceEq, ne_eq, not_false_eq_true, and_self, AMR, fp_26_0, fp_26_2, ix_22, ix_24, ld_22, ld_24, ld_26, ld_3, ld_41, len_22, part_3, part_41, size_22, size_24, size_3, size_41, und_22, und_24, und_3, zero_22, zero_24, zero_3, f5.ok, r5, hil, rr5', et, kc]
  have nbo : h.next ≤ bo := by have := f4.next; omega
  refine W_loop s.offs.length (fun m' f h' => ∃ k, k ≤ s.offs.length ∧ m' = s.offs.length - k ∧ f 8 = .slice (some ⟨bo, 0, some 1⟩) s.offs.length s.offs.length ∧ f 31 = .slice p1 s.offs.length c1 ∧ f 32 = .int .i64 s.offs.length ∧ f 33 = .int .i64 k ∧
      h'.get bo = some (.row (((owesL X s.offs).take k ++ X.drop k).flatMap ints) 1 true) ∧ Fr h h')
    ⟨0, by omega, by omega, by simp [upd_at], by simp [upd_at], by simp [upd_at], by simp [upd_at], by simpa using og, f5⟩ ?_
  clear f5 r5 rr5' og
  rintro m' f h' ⟨k, hk', rfl, g8, g31, g32, g33, go, fr⟩ ih
  have k' := fr.ok
  by_cases hkl : k < s.offs.length
  · obtain ⟨x, gx⟩ : ∃ x, X[k]? = some x := ⟨_, List.getElem?_eq_getElem (by omega)⟩
    obtain ⟨o, gof⟩ : ∃ x, s.offs[k]? = some x := ⟨_, List.getElem?_eq_getElem hkl⟩
    obtain ⟨b1, o1, sp1, row1, rfl, rr1, e1⟩ := hs'.offs.cell gof
    have rr1' := fr.row' hk rr1
    have hx := sb x (List.mem_of_getElem? gx)
    have hob := of_decide_eq_true ((Sheet.ok_iff.1 ok).2.1 o (List.mem_of_getElem? gof))
    have gm : ((owesL X s.offs).take k ++ X.drop k)[k]? = some x := by rw [mid_get' (by omega)]; exact gx
    have gow := owesL_get gx gof
    have m0 : 0 ≤ x * o := Int.mul_nonneg hx.1 hob.1
    have m1 : x * o ≤ 1000000010 * 100 := Int.mul_le_mul hx.2 hob.2 hob.1 (by omega)
    have dd := div_b (a := x * o) (b := 100) m0 (by omega)
    have w1 : IntKind.i64.wrap (x * o) = x * o := wrap64 (by omega) (by omega)
    have w2 : IntKind.i64.wrap (x * o / 100) = x * o / 100 := wrap64 (by omega) (by omega)
    have w3 : IntKind.i64.wrap (x - x * o / 100) = x - x * o / 100 := wrap64 (by omega) (by omega)
    have h100 : (100 : Int) ≠ 0 := by decide
    have put := ints_put (y := x - x * o / 100) gm
    rw [mid_set (by omega) gow] at put
    have ro : rowAt h' bo = some (((owesL X s.offs).take k ++ X.drop k).flatMap ints) := by unfold rowAt; rw [go]; rfl
    have ya := ints_at gm
    simp (maxDischargeDepth := 30) only [AMS, AMH, ↓reduceIte, Nat.reduceLT, Nat.reduceEqDiff, Nat.reduceAdd, Nat.reduceMul, reduceCtorEq, decide_true, decide_false, Nat.reduceLeDiff, Int.reduceNe, Int.reduceEq, ne_eq, not_false_eq_true, and_self, fp_26_0, fp_26_2, ix_22, ix_24, ld_22, ld_24, ld_26, ld_3, ld_41, len_22, part_3, part_41, size_22, size_24, size_3, size_41, und_22, und_24, und_3, zero_22, zero_24, zero_3, k', g8, g31, g32, g33, lt_t hkl, hkl, Nat.mul_one, rr1', e1]
    refine W_draw [(true, 0), (true, 1), (true, 2), (true, 3), (true, 4), (true, 5), (true, 6), (true, 7), (true, 8), (true, 9), (true, 10), (true, 11), (true, 12), (true, 13)] (by kernel_rfl) ?_
    simp (maxDischargeDepth := 30) only [AMS, AMH, ↓reduceIte, Nat.reduceLT, Nat.reduceEqDiff, Nat.reduceAdd, Nat.reduceMul, reduceCtorEq, decide_true, decide_false, Nat.reduceLeDiff, Int.reduceNe, Int.reduceEq, ne_eq, not_false_eq_true, and_self, AMR, fp_26_0, fp_26_2, ix_22, ix_24, ld_22, ld_24, ld_26, ld_3, ld_41, len_22, part_3, part_41, size_22, size_24, size_3, size_41, und_22, und_24, und_3, zero_22, zero_24, zero_3, k', g8, g31, g32, g33, hkl, Nat.mul_one, ro, ya, w1, I_quo _ _ _ _ (x * o) 100 h100, tdiv_nn m0 (show (1 : Int) ≤ 100 by decide), w2, w3, go, put, i_next hkl (by omega : s.offs.length ≤ 1000)]
    refine ih (s.offs.length - (k + 1)) _ _ (by omega) ?_
    exact ⟨k + 1, by omega, rfl, by simp [upd_at, g8], by simp [upd_at, g31], by simp [upd_at, g32], by simp [upd_at], Heap.get_set_self _ _ _, fr.set nbo (get_lt k' go) _⟩
  · have : k = s.offs.length := by omega
    subst this
    rw [List.take_of_length_le (by omega), List.drop_of_length_le (by omega), List.append_nil] at go
    simp (maxDischargeDepth := 30) only [AMS, AMH, ↓reduceIte, Nat.reduceLT, Nat.reduceEqDiff, Nat.reduceAdd, Nat.reduceMul, reduceCtorEq, decide_true, decide_false, Nat.reduceLeDiff, Int.reduceNe, Int.reduceEq, ne_eq, not_false_eq_true, and_self, fp_26_0, fp_26_2, ix_22, ix_24, ld_22, ld_24, ld_26, ld_3, ld_41, len_22, part_3, part_41, size_22, size_24, size_3, size_41, und_22, und_24, und_3, zero_22, zero_24, zero_3, k', g8, g32, g33, lt_f]
    have ro : rowAt h' bo = some ((owesL X s.offs).flatMap ints) := by unfold rowAt; rw [go]; rfl
    have := LS.of_row (sp := some 1) (c := s.offs.length) ints_len ro
    rw [ol, slen] at this
    exact ⟨_, rfl, this, fr⟩
end Go.Am
