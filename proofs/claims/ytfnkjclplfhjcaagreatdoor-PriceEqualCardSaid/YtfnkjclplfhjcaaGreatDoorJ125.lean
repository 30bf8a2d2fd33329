/- Parts 125 of the abstract machine over this program, joined: what each part says stands at its head. -/
import Derived.Test.YtfnkjclplfhjcaaGreatDoorJ122
set_option linter.unusedSimpArgs false
set_option linter.unusedVariables false
/- The abstract machine, part 125: lists of hours in their order; contracts: Before; the statement PriceEqual. -/
namespace Go.Am
open Go Go.Proofs

/- PLAIN -/
def befB : List Int → List Int → Bool
  | [], [] => false
  | [], _ :: _ => true
  | _ :: _, [] => false
  | x :: xs, y :: ys => if x = y then befB xs ys else decide (x < y)
theorem bef_app : ∀ {p q : List Int} (x y : List Int), p.length = q.length → befB p q = true → befB (p ++ x) (q ++ y) = true
  | [], [], _, _, _, h => by simp [befB] at h
  | [], _ :: _, _, _, h, _ => by simp at h
  | _ :: _, [], _, _, h, _ => by simp at h
  | a :: p, b :: q, x, y, hl, h => by
    simp only [List.cons_append, befB] at h ⊢
    by_cases e : a = b
    · rw [if_pos e] at h ⊢; exact bef_app x y (by simpa using hl) h
    · rw [if_neg e] at h ⊢; exact h
theorem bef_last (p : List Int) {m n : Int} (h : m < n) : befB (p ++ [m]) (p ++ [n]) = true := by
  induction p with
  | nil => simp only [List.nil_append, befB]; rw [if_neg (by omega)]; exact decide_eq_true h
  | cons a p ih => simp only [List.cons_append, befB, if_pos]; exact ih
theorem bef_irr (p : List Int) : befB p p = false := by
  induction p with
  | nil => rfl
  | cons a p ih => simp only [befB, if_pos]; exact ih
theorem bef_asymm : ∀ {p q : List Int}, befB p q = true → befB q p = false
  | [], [], h => by simp [befB] at h
  | [], _ :: _, _ => rfl
  | _ :: _, [], h => by simp [befB] at h
  | a :: p, b :: q, h => by
    simp only [befB] at h ⊢
    by_cases e : a = b
    · rw [if_pos e] at h; rw [if_pos e.symm]; exact bef_asymm h
    · rw [if_neg e] at h; rw [if_neg (fun c => e c.symm)]
      have := of_decide_eq_true h
      exact decide_eq_false (by omega)
theorem hrs_sorted (b : Board) : (hrs b).Pairwise (· < ·) := by
  unfold hrs
  rw [List.pairwise_map]
  exact List.pairwise_lt_range.imp fun {x y} h => by omega
theorem allN_sorted {bs : List Board} : ∀ {i : Nat}, i ≤ bs.length → (allN bs i).Pairwise fun p q => befB p q = true
  | 0, _ => by show ([[]] : List (List Int)).Pairwise _; exact List.pairwise_singleton _ _
  | i + 1, hi => by
    obtain ⟨b, hb⟩ : ∃ b, bs[i]? = some b := ⟨_, List.getElem?_eq_getElem (by omega)⟩
    rw [allN_succ hb]
    unfold ext
    rw [List.pairwise_flatMap]
    have ih := allN_sorted (bs := bs) (i := i) (by omega)
    constructor
    · intro p _
      rw [List.pairwise_map]
      exact (hrs_sorted b).imp fun {x y} h => bef_last p h
    · have hlen : ∀ p ∈ allN bs i, p.length = i := fun p hp => ((allN_mem (by omega) p).1 hp).1
      refine ih.imp_of_mem fun {p q} hp hq h => ?_
      intro x hx y hy
      obtain ⟨m, _, rfl⟩ := List.mem_map.1 hx
      obtain ⟨n, _, rfl⟩ := List.mem_map.1 hy
      exact bef_app _ _ (by rw [hlen p hp, hlen q hq]) h
/-- none that fulfils it comes before the first one that does -/
theorem first_least {bs : List Board} {f : List Int → Bool} {l0 l2 : List (List Int)} {q p : List Int} (e : allN bs bs.length = l0 ++ q :: l2) (hno : l0.any f = false) (hp : p ∈ allN bs bs.length) (hf : f p = true) : befB p q = false := by
  have hs := allN_sorted (bs := bs) (Nat.le_refl _)
  rw [e] at hs hp
  rcases List.mem_append.1 hp with h | h
  · exact absurd hf (List.any_eq_false.1 hno p h)
  · rcases List.mem_cons.1 h with rfl | h
    · exact bef_irr p
    · have := (List.pairwise_append.1 hs).2.1
      exact bef_asymm (List.rel_of_pairwise_cons this h)
theorem eqB_symm (s : Sheet) (T U : Tar) : eqB s U T = eqB s T U := by
  funext q
  unfold eqB
  by_cases e : paid T s.boards q = paid U s.boards q
  · rw [decide_eq_true e, decide_eq_true e.symm]
  · rw [decide_eq_false e, decide_eq_false fun c => e c.symm]

/- THE WALKS -/
theorem bef_drop {l m : List Int} {k : Nat} {x y : Int} (hx : l[k]? = some x) (hy : m[k]? = some y) : befB (l.drop k) (m.drop k) = if x = y then befB (l.drop (k + 1)) (m.drop (k + 1)) else decide (x < y) := by
  obtain ⟨h1, e1⟩ := List.getElem?_eq_some_iff.1 hx
  obtain ⟨h2, e2⟩ := List.getElem?_eq_some_iff.1 hy
  rw [List.drop_eq_getElem_cons h1, List.drop_eq_getElem_cons h2, e1, e2]
  rfl
theorem bef_end {l m : List Int} {k : Nat} (h : l.length ≤ k ∨ m.length ≤ k) (h1 : k ≤ l.length) (h2 : k ≤ m.length) : befB (l.drop k) (m.drop k) = decide ((l.length : Int) < m.length) := by
  by_cases a : l.length ≤ k
  · rw [List.drop_of_length_le a]
    by_cases b : m.length ≤ k
    · rw [List.drop_of_length_le b]; exact (decide_eq_false (by omega)).symm
    · rw [List.drop_eq_getElem_cons (by omega)]; exact (decide_eq_true (by omega)).symm
  · have b : m.length ≤ k := by omega
    rw [List.drop_of_length_le b, List.drop_eq_getElem_cons (by omega)]; exact (decide_eq_false (by omega)).symm

set_option maxRecDepth 10000 in
set_option maxHeartbeats 1000000 in
theorem before_43 (v w : Value) (l m : List Int) (h : Heap) (hk : HOK h) (hv : LS h v l ints 1) (hw : LS h w m ints 1) (hl : l.length ≤ 1000) (hm : m.length ≤ 1000) : CW CC 43 [v, w] h fun r h' => r = .bool (befB l m) ∧ h' = h := by
  obtain ⟨p1, c1, rfl, x1⟩ := hv.open
  obtain ⟨p2, c2, rfl, x2⟩ := hw.open
  refine CW_in Tryz.f43 (by kernel_rfl) (by kernel_rfl) rfl rfl ?_
  simp only [Tryz.f43]
  simp (maxDischargeDepth := 30) only [AMS, AMH, ↓reduceIte, Nat.reduceLT, Nat.reduceEqDiff, Nat.reduceAdd, Nat.reduceMul, reduceCtorEq, decide_true, decide_false, Nat.reduceLeDiff, Int.reduceNe, Int.reduceEq, ne_eq, not_false_eq_true, and_self, ix_22, ld_3, len_22, part_3, size_22, size_3, und_22, zero_22, hk]
  refine W_loop l.length (fun m' f h' => ∃ k, k ≤ l.length ∧ k ≤ m.length ∧ m' = l.length - k ∧ f 0 = .slice p1 l.length c1 ∧ f 1 = .slice p2 m.length c2 ∧ f 5 = .int .i64 (k : Nat) ∧ befB l m = befB (l.drop k) (m.drop k) ∧ h' = h)
    ⟨0, by omega, by omega, by omega, by simp [upd_at, argsFn_at], by simp [upd_at, argsFn_at], by simp [upd_at], rfl, rfl⟩ ?_
  rintro m' f h' ⟨k, hkl, hkm, rfl, g0, g1, g5, hb, rfl⟩ ih
  by_cases hlt : k < l.length
  · by_cases hmt : k < m.length
    · obtain ⟨x, gx⟩ : ∃ x, l[k]? = some x := ⟨_, List.getElem?_eq_getElem hlt⟩
      obtain ⟨y, gy⟩ : ∃ y, m[k]? = some y := ⟨_, List.getElem?_eq_getElem hmt⟩
      rcases x1 with hx | ⟨b1, o1, sp1, row1, rfl, rr1, x1⟩
      · rw [hx] at hlt; simp at hlt
      rcases x2 with hx | ⟨b2, o2, sp2, row2, rfl, rr2, x2⟩
      · rw [hx] at hmt; simp at hmt
      have e1 : row1[o1 + k]? = some (.int .i64 x) := by simpa [ints] using (x1 _ _ gx).2 0 (by omega)
      have e2 : row2[o2 + k]? = some (.int .i64 y) := by simpa [ints] using (x2 _ _ gy).2 0 (by omega)
      have hd := bef_drop gx gy
      simp (maxDischargeDepth := 30) only [AMS, AMH, ↓reduceIte, Nat.reduceLT, Nat.reduceEqDiff, Nat.reduceAdd, Nat.reduceMul, reduceCtorEq, decide_true, decide_false, Nat.reduceLeDiff, Int.reduceNe, Int.reduceEq, ne_eq, not_false_eq_true, and_self, ix_22, ld_3, len_22, part_3, size_22, size_3, und_22, zero_22, hk, g0, g1, g5, lt_t hlt, lt_t hmt]
      refine W_draw [(true, 0), (true, 1), (true, 2), (true, 3), (true, 4), (true, 5), (true, 6), (true, 7), (true, 8)] (by kernel_rfl) ?_
      simp (maxDischargeDepth := 30) only [AMS, AMH, ↓reduceIte, Nat.reduceLT, Nat.reduceEqDiff, Nat.reduceAdd, Nat.reduceMul, reduceCtorEq, decide_true, decide_false, Nat.reduceLeDiff, Int.reduceNe, Int.reduceEq, ne_eq, not_false_eq_true, and_self, AMR, ix_22, ld_3, len_22, part_3, size_22, size_3, und_22, zero_22, hk, g0, g1, g5, hlt, hmt, rr1, rr2, Nat.mul_one, e1, e2]
      by_cases e : x = y
      · have en : (x != y) = false := by simp [e]
        simp (maxDischargeDepth := 30) only [AMS, AMH, ↓reduceIte, Nat.reduceLT, Nat.reduceEqDiff, Nat.reduceAdd, Nat.reduceMul, reduceCtorEq, decide_true, decide_false, Nat.reduceLeDiff, Int.reduceNe, Int.reduceEq, ne_eq, not_false_eq_true, and_self, AMR, ix_22, ld_3, len_22, part_3, size_22, size_3, und_22, zero_22, hk, g0, g1, g5, en, i_next hlt hl]
        refine ih (l.length - (k + 1)) _ _ (by omega) ?_
        exact ⟨k + 1, by omega, by omega, rfl, by simp [upd_at, g0], by simp [upd_at, g1], by simp [upd_at], by rw [hb, hd, if_pos e], rfl⟩
      · have en : (x != y) = true := by simpa using e
        rw [if_neg e] at hd
        simp (maxDischargeDepth := 30) only [AMS, AMH, ↓reduceIte, Nat.reduceLT, Nat.reduceEqDiff, Nat.reduceAdd, Nat.reduceMul, reduceCtorEq, decide_true, decide_false, Nat.reduceLeDiff, Int.reduceNe, Int.reduceEq, ne_eq, not_false_eq_true, and_self, AMR, ix_22, ld_3, len_22, part_3, size_22, size_3, und_22, zero_22, hk, g0, g1, g5, en]
        refine W_draw [(true, 0), (true, 1), (true, 2), (true, 3), (true, 4), (true, 5), (true, 6), (true, 7), (true, 8), (true, 9)] (by kernel_rfl) ?_
        simp (maxDischargeDepth := 30) only [AMS, AMH, ↓reduceIte, Nat.reduceLT, Nat.reduceEqDiff, Nat.reduceAdd, Nat.reduceMul, reduceCtorEq, decide_true, decide_false, Nat.reduceLeDiff, Int.reduceNe, Int.reduceEq, ne_eq, not_false_eq_true, and_self, AMR, ix_22, ld_3, len_22, part_3, size_22, size_3, und_22, zero_22, hk, g0, g1, g5, hlt, hmt, rr1, rr2, Nat.mul_one, e1, e2]
        exact ⟨by rw [hb, hd], trivial⟩
    · simp (maxDischargeDepth := 30) only [AMS, AMH, ↓reduceIte, Nat.reduceLT, Nat.reduceEqDiff, Nat.reduceAdd, Nat.reduceMul, reduceCtorEq, decide_true, decide_false, Nat.reduceLeDiff, Int.reduceNe, Int.reduceEq, ne_eq, not_false_eq_true, and_self, ix_22, ld_3, len_22, part_3, size_22, size_3, und_22, zero_22, hk, g0, g1, g5, lt_t hlt, (show decide ((k : Int) < (m.length : Int)) = false from decide_eq_false (by omega))]
      exact ⟨by rw [hb, bef_end (.inr (by omega)) hkl hkm], trivial⟩
  · simp (maxDischargeDepth := 30) only [AMS, AMH, ↓reduceIte, Nat.reduceLT, Nat.reduceEqDiff, Nat.reduceAdd, Nat.reduceMul, reduceCtorEq, decide_true, decide_false, Nat.reduceLeDiff, Int.reduceNe, Int.reduceEq, ne_eq, not_false_eq_true, and_self, ix_22, ld_3, len_22, part_3, size_22, size_3, und_22, zero_22, hk, g0, g1, g5, (show decide ((k : Int) < (l.length : Int)) = false from decide_eq_false (by omega))]
    exact ⟨by rw [hb, bef_end (.inl (by omega)) hkl hkm], trivial⟩
end Go.Am
