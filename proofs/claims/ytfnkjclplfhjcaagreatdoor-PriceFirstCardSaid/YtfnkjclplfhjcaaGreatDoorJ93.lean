/- Parts 93 of the abstract machine over this program, joined: what each part says stands at its head. -/
import Derived.Test.YtfnkjclplfhjcaaGreatDoorJ92
set_option linter.unusedSimpArgs false
set_option linter.unusedVariables false
/- The abstract machine, part 93: contracts: the cheapest tariff. -/
namespace Go.Am
open Go Go.Proofs

/-- the first least of a list -/
def IsMin (ps : List Int) (j : Nat) (p : Int) : Prop := ps[j]? = some p ∧ ∀ (i : Nat) x, ps[i]? = some x → p ≤ x ∧ (i < j → p < x)
theorem IsMin.uniq {ps : List Int} {j k : Nat} {p q : Int} (h : IsMin ps j p) (h' : IsMin ps k q) : j = k ∧ p = q := by
  have a := h.2 k q h'.1
  have b := h'.2 j p h.1
  have : j = k := by
    by_cases c1 : j < k
    · have := b.2 c1; omega
    · by_cases c2 : k < j
      · have := a.2 c2; omega
      · omega
  exact ⟨this, by omega⟩
theorem get_take {ps : List Int} {k i : Nat} {x : Int} (h : (ps.take k)[i]? = some x) : i < k ∧ ps[i]? = some x := by
  rw [List.getElem?_take] at h
  split at h
  · exact ⟨by assumption, h⟩
  · simp at h
theorem IsMin.one {ps : List Int} {p : Int} (h : ps[0]? = some p) : IsMin (ps.take 1) 0 p := by
  refine ⟨by rw [List.getElem?_take]; simp [h], fun i x hx => ?_⟩
  obtain ⟨hi, hx⟩ := get_take hx
  have : i = 0 := by omega
  subst this
  rw [h] at hx; simp at hx; subst hx
  exact ⟨Int.le_refl _, fun q => absurd q (by omega)⟩
theorem IsMin.keep {ps : List Int} {k j : Nat} {p x : Int} (h : IsMin (ps.take k) j p) (hx : ps[k]? = some x) (hl : ¬ x < p) : IsMin (ps.take (k + 1)) j p := by
  obtain ⟨hj, hp⟩ := get_take h.1
  refine ⟨by rw [List.getElem?_take, if_pos (by omega)]; exact hp, fun i y hy => ?_⟩
  obtain ⟨hi, hy'⟩ := get_take hy
  by_cases e : i = k
  · subst e
    rw [hx] at hy'; simp at hy'; subst hy'
    exact ⟨by omega, fun q => absurd q (by omega)⟩
  · exact h.2 i y (by rw [List.getElem?_take, if_pos (by omega)]; exact hy')
theorem IsMin.less {ps : List Int} {k j : Nat} {p x : Int} (h : IsMin (ps.take k) j p) (hx : ps[k]? = some x) (hl : x < p) : IsMin (ps.take (k + 1)) k x := by
  refine ⟨by rw [List.getElem?_take, if_pos (by omega)]; exact hx, fun i y hy => ?_⟩
  obtain ⟨hi, hy'⟩ := get_take hy
  by_cases e : i = k
  · subst e
    rw [hx] at hy'; simp at hy'; subst hy'
    exact ⟨Int.le_refl _, fun q => absurd q (by omega)⟩
  · have := (h.2 i y (by rw [List.getElem?_take, if_pos (by omega)]; exact hy')).1
    exact ⟨by omega, fun _ => by omega⟩

def offC (o : Int × Nat) : List Value := [.int .i64 o.2, .int .i64 o.1]
theorem offC_len (o : Int × Nat) : (offC o).length = 2 := rfl

theorem append_row {C : Ctx} {t u : TypeId} {ts : List TypeId} {w : Nat} (ht : AppT C t u w) {h0 h1 : Heap} {out : Value} {cs l : List Value} {n : Nat} (f : Fr h0 h1) (hp : 0 < h1.next) (q : SL h0.next h1 out l w n) (hc : cs.length = w) (hv : allOne cs = true) (hn : n + 1 ≤ 4294967296) :
    ∃ h', aAppend C (t :: u :: ts) out (.slice (some ⟨h1.next, 0, some w⟩) 1 1) (h1.alloc (.row cs w true)) = some (.slice (some ⟨h1.next + 1, 0, some w⟩) (n + 1) (n + 1), h') ∧ SL h0.next h' (.slice (some ⟨h1.next + 1, 0, some w⟩) (n + 1) (n + 1)) (l ++ cs) w (n + 1) ∧ Fr h0 h' ∧ h'.next = h1.next + 2 ∧ ∀ i, i < h1.next → blkOf out ≠ some i → h'.get i = h1.get i := by
  have q' : SL h0.next (h1.alloc (.row cs w true)) out l w n := q.fr f.ok ((Fr.refl f.ok).alloc _)
  obtain ⟨h', e, q2, f2, n2, g2⟩ := append_at (ts := ts) ht (f.alloc (.row cs w true)) (by simp) q' (x := .slice (some ⟨h1.next, 0, some w⟩) 1 1) (new := cs) (m := 0) rfl (by
    show obind (rowAt _ h1.next) (fun cells => take? cells 0 ((0 + 1) * w)) = _
    rw [rowAt_new]
    show take? cs 0 ((0 + 1) * w) = _
    rw [take?_some (by omega), List.drop_zero, List.take_of_length_le (by omega)]) hv (by omega) hn
  exact ⟨h', e, q2, f2, by rw [n2]; simp, fun i hi hb => by rw [g2 i (by simp; omega) hb, Heap.get_alloc_ne _ _ (by omega)]⟩
theorem bs_108 (x y : Int) : aBuildSlice CC 108 1 [(0, .agg ⟨[.int .i64 x, .int .i64 y]⟩)] = some (.new (.row [.int .i64 x, .int .i64 y] 2 true) (sliceTo 2 1 1)) := by kernel_rfl

theorem less_87 (a b p q : Int) {h : Heap} (hk : HOK h) : CW CC 87 [.agg ⟨[.int .i64 a, .int .i64 p]⟩, .agg ⟨[.int .i64 b, .int .i64 q]⟩] h fun r h' => r = .bool (decide (p < q)) ∧ Fr h h' := by
  refine CW_in Tryz.f87 (by kernel_rfl) (by kernel_rfl) rfl rfl ?_
  simp only [Tryz.f87]
  simp (maxDischargeDepth := 30) only [AMS, AMH, ↓reduceIte, Nat.reduceLT, Nat.reduceEqDiff, Nat.reduceAdd, Nat.reduceMul, reduceCtorEq, decide_true, decide_false, Nat.reduceLeDiff, Int.reduceNe, Int.reduceEq, ne_eq, not_false_eq_true, and_self, fp_110_1, ld_3, hk]
  exact ⟨trivial, ((Fr.refl hk).alloc _).alloc _⟩

set_option maxRecDepth 10000 in
set_option maxHeartbeats 1000000 in
theorem best_86 {h : Heap} (hk : HOK h) {v : Value} {ps : List Int} (hv : LS h v ps.zipIdx offC 2) (h1 : 1 ≤ ps.length) (hn : ps.length ≤ 1000) :
    CW CC 86 [v, .func (.func 87) #[] #[]] h fun r h' => (∃ (j : Nat) (p : Int), r = .agg ⟨[.int .i64 j, .int .i64 p]⟩ ∧ IsMin ps j p) ∧ Fr h h' := by
  obtain ⟨p0, c0, rfl, x0⟩ := hv.open
  have zl : ps.zipIdx.length = ps.length := by simp
  have gz : ∀ (i : Nat) (x : Int), ps[i]? = some x → ps.zipIdx[i]? = some (x, i) := fun i x hx => by rw [List.getElem?_zipIdx, hx]; simp
  obtain ⟨y0, gy0⟩ : ∃ y, ps[0]? = some y := ⟨_, List.getElem?_eq_getElem (by omega)⟩
  obtain ⟨b, o, sp, row, rfl, rr, e0⟩ := LS.at (n := 0) (c := 0) x0 (gz 0 y0 gy0)
  have e0 : take? row o 2 = some [.int .i64 0, .int .i64 y0] := by simpa [offC] using e0
  have ix0 : ∀ n c, 0 < n → aIndexAddr CC 108 (.slice (some ⟨b, o, sp⟩) n c) (.int .i64 0) = some (.pointer (some ⟨b, o, none⟩)) := fun n c hh => ix_108 b o sp n c 0 hh
  have xs : ∀ (i : Nat) (x : Int), ps[i]? = some x → take? row (o + i * 2) 2 = some [.int .i64 i, .int .i64 x] := by
    rcases x0 with hx | ⟨bb, oo, spp, roww, he, hr, hx⟩
    · rw [hx] at zl; simp at zl; omega
    · simp at he
      obtain ⟨rfl, rfl, rfl⟩ := he
      rw [rr] at hr; simp at hr; subst hr
      exact fun i x hi => (hx i (x, i) (gz i x hi)).1
  rw [zl]
  refine CW_in Tryz.f86 (by kernel_rfl) (by kernel_rfl) rfl rfl ?_
  simp only [Tryz.f86]
  have f1 : Fr h (h.alloc (.row [.int .i64 0, .int .i64 0] 0 true)) := (Fr.refl hk).alloc _
  have rr1 := f1.row' hk rr
  simp (maxDischargeDepth := 30) only [AMS, AMH, ↓reduceIte, Nat.reduceLT, Nat.reduceEqDiff, Nat.reduceAdd, Nat.reduceMul, reduceCtorEq, decide_true, decide_false, Nat.reduceLeDiff, Int.reduceNe, Int.reduceEq, ne_eq, not_false_eq_true, and_self, ix_108, ld_110, len_108, part_110, size_108, size_110, und_108, zero_108, zero_110, hk, ix0, (show 0 < ps.length by omega), rr1, e0]
  have HH : Fr h (((h.alloc (.row [.int .i64 0, .int .i64 0] 0 true)).alloc (.row [.int .i64 0, .int .i64 0] 0 true)).set (h.next + 1) (.row [.int .i64 0, .int .i64 y0] 0 true)) := (((Fr.refl hk).alloc _).alloc _).set (by omega) (by simp) _
  have a2 : (((h.alloc (.row [.int .i64 0, .int .i64 0] 0 true)).alloc (.row [.int .i64 0, .int .i64 0] 0 true)).set (h.next + 1) (.row [.int .i64 0, .int .i64 y0] 0 true)).get (h.next + 1) = some (.row [.int .i64 0, .int .i64 y0] 0 true) := Heap.get_set_self _ _ _
  have z2 : (((h.alloc (.row [.int .i64 0, .int .i64 0] 0 true)).alloc (.row [.int .i64 0, .int .i64 0] 0 true)).set (h.next + 1) (.row [.int .i64 0, .int .i64 y0] 0 true)).get h.next = some (.row [.int .i64 0, .int .i64 0] 0 true) := by rw [Heap.get_set_ne _ _ (by omega), get_old _ (by simp)]; exact get_at _ rfl
  generalize (((h.alloc (.row [.int .i64 0, .int .i64 0] 0 true)).alloc (.row [.int .i64 0, .int .i64 0] 0 true)).set (h.next + 1) (.row [.int .i64 0, .int .i64 y0] 0 true)) = h2 at HH a2 z2 ⊢
  refine W_loop ps.length (fun m' f h' => ∃ (k j : Nat) (p : Int), k ≤ ps.length ∧ m' = ps.length - k ∧ f 1 = .func (.func 87) #[] #[] ∧ f 4 = .pointer (some ⟨h.next, 0, none⟩) ∧ f 5 = .pointer (some ⟨h.next + 1, 0, none⟩) ∧ f 11 = .slice (some ⟨b, o, sp⟩) ps.length c0 ∧ f 12 = .int .i64 ps.length ∧ f 13 = .int .i64 k ∧
      IsMin (ps.take (max k 1)) j p ∧ Fr h h' ∧ h'.get (h.next + 1) = some (.row [.int .i64 j, .int .i64 p] 0 true) ∧ h'.get h.next = some (.row [.int .i64 0, .int .i64 0] 0 true))
    ⟨0, 0, y0, by omega, by omega, by simp [upd_at, argsFn_at], by simp [upd_at], by simp [upd_at], by simp [upd_at], by simp [upd_at], by simp [upd_at], IsMin.one gy0, HH, a2, z2⟩ ?_
  rintro m' f h' ⟨k, j, p, hkl, rfl, g1, g4, g5, g11, g12, g13, hm, fr, a', z'⟩ ih
  have k' := fr.ok
  by_cases hlt : k < ps.length
  · obtain ⟨x, gx⟩ : ∃ x, ps[k]? = some x := ⟨_, List.getElem?_eq_getElem hlt⟩
    have ex := xs k x gx
    have rr' := fr.row' hk rr
    have na := get_lt k' a'
    have ra : rowAt h' (h.next + 1) = some [.int .i64 j, .int .i64 p] := by unfold rowAt; rw [a']; rfl
    simp (maxDischargeDepth := 30) only [AMS, AMH, ↓reduceIte, Nat.reduceLT, Nat.reduceEqDiff, Nat.reduceAdd, Nat.reduceMul, reduceCtorEq, decide_true, decide_false, Nat.reduceLeDiff, Int.reduceNe, Int.reduceEq, ne_eq, not_false_eq_true, and_self, ix_108, ld_110, len_108, part_110, size_108, size_110, und_108, zero_108, zero_110, k', g1, g4, g5, g11, g12, g13, lt_t hlt, hlt, rr', ex]
    have fb : Fr h' ((h'.alloc (.row [.int .i64 0, .int .i64 0] 0 true)).set h'.next (.row [.int .i64 k, .int .i64 x] 0 true)) := ((Fr.refl k').alloc _).set (Nat.le_refl _) (by simp) _
    have rb : rowAt ((h'.alloc (.row [.int .i64 0, .int .i64 0] 0 true)).set h'.next (.row [.int .i64 k, .int .i64 x] 0 true)) h'.next = some [.int .i64 k, .int .i64 x] := rowAt_set_self _ _ _ _ _
    generalize ((h'.alloc (.row [.int .i64 0, .int .i64 0] 0 true)).set h'.next (.row [.int .i64 k, .int .i64 x] 0 true)) = H at fb rb ⊢
    have f2 := fr.trans fb
    have ab := fb.get' k' a'
    have rab := fb.row' k' ra
    have zb := fb.get' k' z'
    simp (maxDischargeDepth := 30) only [AMS, AMH, ↓reduceIte, Nat.reduceLT, Nat.reduceEqDiff, Nat.reduceAdd, Nat.reduceMul, reduceCtorEq, decide_true, decide_false, Nat.reduceLeDiff, Int.reduceNe, Int.reduceEq, ne_eq, not_false_eq_true, and_self, ix_108, ld_110, len_108, part_110, size_108, size_110, und_108, zero_108, zero_110, f2.ok, rb, rab, V_func]
    refine W_call (less_87 k j x p f2.ok) ?_
    rintro _ H3 ⟨rfl, fr3⟩
    have f3 := f2.trans fr3
    have a3 := fr3.get' f2.ok ab
    have z3 := fr3.get' f2.ok zb
    have r3 := fr3.row' f2.ok rb
    cases hd : decide (x < p) with
    | true =>
      have hd' := of_decide_eq_true hd
      simp (maxDischargeDepth := 30) only [AMS, AMH, ↓reduceIte, Nat.reduceLT, Nat.reduceEqDiff, Nat.reduceAdd, Nat.reduceMul, reduceCtorEq, decide_true, decide_false, Nat.reduceLeDiff, Int.reduceNe, Int.reduceEq, ne_eq, not_false_eq_true, and_self, ix_108, ld_110, len_108, part_110, size_108, size_110, und_108, zero_108, zero_110, f3.ok, g1, g4, g5, g11, g12, g13, r3, a3, i_next hlt hn]
      refine ih (ps.length - (k + 1)) _ _ (by omega) ?_
      refine ⟨k + 1, k, x, by omega, rfl, by simp [upd_at, g1], by simp [upd_at, g4], by simp [upd_at, g5], by simp [upd_at, g11], by simp [upd_at, g12], by simp [upd_at], ?_, f3.set (by omega) (get_lt f3.ok a3) _, Heap.get_set_self _ _ _, by rw [Heap.get_set_ne _ _ (by omega)]; exact z3⟩
      have e1 : max (k + 1) 1 = k + 1 := by omega
      rw [e1]
      by_cases hk0 : k = 0
      · subst hk0
        obtain rfl : j = 0 := by have := get_take hm.1; omega
        have := (get_take hm.1).2
        rw [gx] at this; simp at this; omega
      · have e2 : max k 1 = k := by omega
        rw [e2] at hm
        exact hm.less gx hd'
    | false =>
      have hd' := of_decide_eq_false hd
      simp (maxDischargeDepth := 30) only [AMS, AMH, ↓reduceIte, Nat.reduceLT, Nat.reduceEqDiff, Nat.reduceAdd, Nat.reduceMul, reduceCtorEq, decide_true, decide_false, Nat.reduceLeDiff, Int.reduceNe, Int.reduceEq, ne_eq, not_false_eq_true, and_self, ix_108, ld_110, len_108, part_110, size_108, size_110, und_108, zero_108, zero_110, f3.ok, g1, g4, g5, g11, g12, g13, r3, a3, i_next hlt hn]
      refine ih (ps.length - (k + 1)) _ _ (by omega) ?_
      refine ⟨k + 1, j, p, by omega, rfl, by simp [upd_at, g1], by simp [upd_at, g4], by simp [upd_at, g5], by simp [upd_at, g11], by simp [upd_at, g12], by simp [upd_at], ?_, f3, a3, z3⟩
      have e1 : max (k + 1) 1 = k + 1 := by omega
      rw [e1]
      by_cases hk0 : k = 0
      · subst hk0; exact hm
      · have e2 : max k 1 = k := by omega
        rw [e2] at hm
        exact hm.keep gx hd'
  · have hkE : k = ps.length := by omega
    subst hkE
    have e2 : max ps.length 1 = ps.length := by omega
    rw [e2, List.take_length] at hm
    have ra : rowAt h' (h.next + 1) = some [.int .i64 j, .int .i64 p] := by unfold rowAt; rw [a']; rfl
    simp (maxDischargeDepth := 30) only [AMS, AMH, ↓reduceIte, Nat.reduceLT, Nat.reduceEqDiff, Nat.reduceAdd, Nat.reduceMul, reduceCtorEq, decide_true, decide_false, Nat.reduceLeDiff, Int.reduceNe, Int.reduceEq, ne_eq, not_false_eq_true, and_self, ix_108, ld_110, len_108, part_110, size_108, size_110, und_108, zero_108, zero_110, k', g4, g5, g12, g13, lt_f, ra, z']
    exact ⟨⟨j, p, rfl, hm⟩, fr.set (Nat.le_refl _) (get_lt k' z') _⟩

/-- what is paid by each tariff -/
def paids (s : Sheet) (l : List Int) : List Int := s.tars.map fun t => paid t s.boards l

set_option maxRecDepth 10000 in
set_option maxHeartbeats 1000000 in
theorem cheapest_45_bad {h : Heap} (hk : HOK h) {a b c v : Value} {s : Sheet} {l : List Int} (hs : IsSheet h a b c s) (hv : LS h v l ints 1) (hl : l.length ≤ 1000) (hb : s.boards.length ≤ 1000) (bad : (s.ok && hoursOK s.boards l) = false) :
    CW CC 45 [.agg ⟨[a, b, c]⟩, v] h fun r h' => r = .tuple ⟨[.int .i64 0, .int .i64 0, .int .i64 2]⟩ ∧ Fr h h' := by
  obtain ⟨p1, c1, rfl, _⟩ := hs.offs.open
  obtain ⟨p2, c2, rfl, _⟩ := hs.boards.open
  obtain ⟨p3, c3, rfl, x3⟩ := hs.tars.open
  obtain ⟨p4, c4, rfl, _⟩ := hv.open
  refine CW_in Tryz.f45 (by kernel_rfl) (by kernel_rfl) rfl rfl ?_
  simp only [Tryz.f45]
  have f1 : Fr h (h.alloc (.row [.slice p1 s.offs.length c1, .slice p2 s.boards.length c2, .slice p3 s.tars.length c3] 0 true)) := (Fr.refl hk).alloc _
  have r1 : rowAt (h.alloc (.row [.slice p1 s.offs.length c1, .slice p2 s.boards.length c2, .slice p3 s.tars.length c3] 0 true)) h.next = some [.slice p1 s.offs.length c1, .slice p2 s.boards.length c2, .slice p3 s.tars.length c3] := rowAt_new _ _ _ _
  obtain ⟨_, h2, e2, rfl, fr2⟩ := isSheet_85 f1.ok (hs.fr hk f1)
  have f2 := f1.trans fr2
  have r2 := fr2.row' f1.ok r1
  cases hok : s.ok with
  | false =>
    rw [hok] at e2
    simp (maxDischargeDepth := 30) only [AMS, AMH, ↓reduceIte, Nat.reduceLT, Nat.reduceEqDiff, Nat.reduceAdd, Nat.reduceMul, reduceCtorEq, decide_true, decide_false, Nat.reduceLeDiff, Int.reduceNe, Int.reduceEq, ne_eq, not_false_eq_true, and_self, bld_110, fld_110_0, fld_110_1, fp_110_0, fp_110_1, fp_26_2, ix_108, ix_24, ld_24, ld_26, ld_3, ld_41, len_24, part_110, part_41, size_108, size_110, size_24, size_41, sp_110_0, sp_110_1, und_108, und_24, zero_108, zero_110, zero_24, zero_41, hk, e2]
    exact ⟨trivial, f2⟩
  | true =>
    rw [hok] at e2 bad
    simp only [Bool.true_and] at bad
    obtain ⟨_, h3, e4, rfl, fr3⟩ := areHours_74 f2.ok (hs.fr hk f2) (hv.fr hk f2) (by omega) (by omega)
    rw [bad] at e4
    have f3 := f2.trans fr3
    simp (maxDischargeDepth := 30) only [AMS, AMH, ↓reduceIte, Nat.reduceLT, Nat.reduceEqDiff, Nat.reduceAdd, Nat.reduceMul, reduceCtorEq, decide_true, decide_false, Nat.reduceLeDiff, Int.reduceNe, Int.reduceEq, ne_eq, not_false_eq_true, and_self, bld_110, fld_110_0, fld_110_1, fp_110_0, fp_110_1, fp_26_2, ix_108, ix_24, ld_24, ld_26, ld_3, ld_41, len_24, part_110, part_41, size_108, size_110, size_24, size_41, sp_110_0, sp_110_1, und_108, und_24, zero_108, zero_110, zero_24, zero_41, hk, e2, f2.ok, r2, e4]
    exact ⟨trivial, f3⟩

set_option maxRecDepth 10000 in
set_option maxHeartbeats 4000000 in
theorem cheapest_45 {h : Heap} (hk : HOK h) (hp : 0 < h.next) {a b c v : Value} {s : Sheet} {l : List Int} (hs : IsSheet h a b c s) (hv : LS h v l ints 1) (ok : s.ok = true) (hl : hoursOK s.boards l = true) :
    CW CC 45 [.agg ⟨[a, b, c]⟩, v] h fun r h' => (∃ (j : Nat) (p : Int), r = .tuple ⟨[.int .i64 j, .int .i64 p, .int .i64 0]⟩ ∧ IsMin (paids s l) j p) ∧ Fr h h' := by
  have hlen := Sheet.ok_len ok
  have hll := (hoursOK_at hl).1
  have hs' := hs
  have hv' := hv
  obtain ⟨p1, c1, rfl, _⟩ := hs.offs.open
  obtain ⟨p2, c2, rfl, _⟩ := hs.boards.open
  obtain ⟨p3, c3, rfl, x3⟩ := hs.tars.open
  obtain ⟨p4, c4, rfl, _⟩ := hv.open
  refine CW_in Tryz.f45 (by kernel_rfl) (by kernel_rfl) rfl rfl ?_
  simp only [Tryz.f45]
  have f1 : Fr h (h.alloc (.row [.slice p1 s.offs.length c1, .slice p2 s.boards.length c2, .slice p3 s.tars.length c3] 0 true)) := (Fr.refl hk).alloc _
  have r1 : rowAt (h.alloc (.row [.slice p1 s.offs.length c1, .slice p2 s.boards.length c2, .slice p3 s.tars.length c3] 0 true)) h.next = some [.slice p1 s.offs.length c1, .slice p2 s.boards.length c2, .slice p3 s.tars.length c3] := rowAt_new _ _ _ _
  obtain ⟨_, h2, e2, rfl, fr2⟩ := isSheet_85 f1.ok (hs.fr hk f1)
  have f2 := f1.trans fr2
  have r2 := fr2.row' f1.ok r1
  rw [ok] at e2
  obtain ⟨_, h3, e4, rfl, fr3⟩ := areHours_74 f2.ok (hs.fr hk f2) (hv.fr hk f2) (by omega) (by omega)
  rw [hl] at e4
  have f3 := f2.trans fr3
  have r3 := fr3.row' f2.ok r2
  have pl : (paids s l).length = s.tars.length := by simp [paids]
  have zl : (paids s l).zipIdx.length = s.tars.length := by simp [pl]
  obtain ⟨T0, hT0⟩ : ∃ T, s.tars[0]? = some T := ⟨_, List.getElem?_eq_getElem (by omega)⟩
  obtain ⟨bt, ot, spt, rowt, rfl, rrt, _⟩ := LS.at (n := 0) (c := 0) x3 hT0
  have ets : ∀ (i : Nat) (T : Tar), s.tars[i]? = some T → take? rowt (ot + i * 5) 5 = some T.cells := by
    rcases x3 with hx | ⟨bb, oo, spp, roww, he, hr, hx⟩
    · rw [hx] at hT0; simp at hT0
    · simp at he
      obtain ⟨rfl, rfl, rfl⟩ := he
      rw [rrt] at hr; simp at hr; subst hr
      exact fun i T hi => (hx i T hi).1
  simp (maxDischargeDepth := 30) only [AMS, AMH, ↓reduceIte, Nat.reduceLT, Nat.reduceEqDiff, Nat.reduceAdd, Nat.reduceMul, reduceCtorEq, decide_true, decide_false, Nat.reduceLeDiff, Int.reduceNe, Int.reduceEq, ne_eq, not_false_eq_true, and_self, bld_110, fld_110_0, fld_110_1, fp_110_0, fp_110_1, fp_26_2, ix_108, ix_24, ld_24, ld_26, ld_3, ld_41, len_24, part_110, part_41, size_108, size_110, size_24, size_41, sp_110_0, sp_110_1, und_108, und_24, zero_108, zero_110, zero_24, zero_41, hk, e2, f2.ok, r2, e4, f3.ok, r3]
  refine W_loop s.tars.length (fun m' f h' => ∃ n, n ≤ s.tars.length ∧ m' = s.tars.length - n ∧ f 1 = .slice p4 l.length c4 ∧ f 2 = .pointer (some ⟨h.next, 0, none⟩) ∧ f 21 = .slice (some ⟨bt, ot, spt⟩) s.tars.length c3 ∧ f 22 = .int .i64 s.tars.length ∧ f 23 = .int .i64 n ∧
      SL h.next h' (f 7) (((paids s l).zipIdx.take n).flatMap offC) 2 n ∧ blkOf (f 7) ≠ some h.next ∧ Fr h h' ∧ h.next < h'.next ∧ rowAt h' h.next = some [.slice p1 s.offs.length c1, .slice p2 s.boards.length c2, .slice (some ⟨bt, ot, spt⟩) s.tars.length c3])
    ⟨0, by omega, by omega, by simp [upd_at, argsFn_at], by simp [upd_at], by simp [upd_at], by simp [upd_at], by simp [upd_at], by simpa [upd_at] using SL.nil h.next _ 2, by simp [upd_at, blkOf], f3, row_lt f3.ok r3, r3⟩ ?_
  clear f3 r3 fr3 e4 f2 r2 fr2 e2 f1 r1
  rintro m' f h' ⟨n, hn, rfl, g1, g2, g21, g22, g23, q, nb, fr, m2, r'⟩ ih
  have k' := fr.ok
  by_cases hnl : n < s.tars.length
  · obtain ⟨T, hT⟩ : ∃ T, s.tars[n]? = some T := ⟨_, List.getElem?_eq_getElem hnl⟩
    have tok := Sheet.ok_tars ok T (List.mem_of_getElem? hT)
    have hq := qtys_b ok hl T
    have et := ets n T hT
    have rrt' := fr.row' hk rrt
    have tl : T.cells.length = 5 := rfl
    have ta : allOne T.cells = true := rfl
    simp (maxDischargeDepth := 30) only [AMS, AMH, ↓reduceIte, Nat.reduceLT, Nat.reduceEqDiff, Nat.reduceAdd, Nat.reduceMul, reduceCtorEq, decide_true, decide_false, Nat.reduceLeDiff, Int.reduceNe, Int.reduceEq, ne_eq, not_false_eq_true, and_self, bld_110, fld_110_0, fld_110_1, fp_110_0, fp_110_1, fp_26_2, ix_108, ix_24, ld_24, ld_26, ld_3, ld_41, len_24, part_110, part_41, size_108, size_110, size_24, size_41, sp_110_0, sp_110_1, und_108, und_24, zero_108, zero_110, zero_24, zero_41, k', g1, g2, g21, g22, g23, lt_t hnl, hnl, rrt', et, tl, ta]
    have fbh : Fr h' ((h'.alloc (.row [.int .i64 0, .int .i64 0, .int .i64 0, .int .i64 0, .bool false] 0 true)).set h'.next (.row T.cells 0 true)) := ((Fr.refl k').alloc _).set (Nat.le_refl _) (by simp) _
    have rbt : rowAt ((h'.alloc (.row [.int .i64 0, .int .i64 0, .int .i64 0, .int .i64 0, .bool false] 0 true)).set h'.next (.row T.cells 0 true)) h'.next = some T.cells := rowAt_set_self _ _ _ _ _
    generalize ((h'.alloc (.row [.int .i64 0, .int .i64 0, .int .i64 0, .int .i64 0, .bool false] 0 true)).set h'.next (.row T.cells 0 true)) = H at fbh rbt ⊢
    have fb := fr.trans fbh
    have rb := fbh.row' k' r'
    have q6 := q.fr k' fbh
    have kt : take? T.cells 0 5 = some T.cells := rfl
    have kc : T.cells.all selfC = true := rfl
    refine W_draw [(true, 0), (true, 1), (true, 2), (true, 3), (true, 5), (true, 4), (false, 5), (true, 6), (true, 7), (true, 8), (true, 9), (true, 10)] (by kernel_rfl) ?_
    simp (maxDischargeDepth := 30) only [AMS, AMH, ↓reduceIte, Nat.reduceLT, Nat.reduceEqDiff, Nat.reduceAdd, Nat.reduceMul, reduceCtorEq, decide_true, decide_false, Nat.reduceLeDiff, Int.reduceNe, Int.reduceEq, ne_eq, not_false_eq_true, and_self, bld_110, fld_110_0, fld_110_1, fp_110_0, fp_110_1, fp_26_2, ix_108, ix_24, ld_24, ld_26, ld_3, ld_41, len_24, part_110, part_41, size_108, size_110, size_24, size_41, sp_110_0, sp_110_1, und_108, und_24, zero_108, zero_110, zero_24, zero_41, fb.ok, g1, g2, rb, rbt, kt]
    refine W_callP (bill_72 fb.ok (hs'.fr hk fb) (hv'.fr hk fb)) ?_
    rintro bv h4 ⟨m, fr4, hm4, hb4, hmap⟩
    have f4 := fb.trans fr4
    have r4 := fr4.row' fb.ok rb
    have r4t := fr4.row' fb.ok rbt
    simp (maxDischargeDepth := 30) only [AMS, AMH, ↓reduceIte, Nat.reduceLT, Nat.reduceEqDiff, Nat.reduceAdd, Nat.reduceMul, reduceCtorEq, decide_true, decide_false, Nat.reduceLeDiff, Int.reduceNe, Int.reduceEq, ne_eq, not_false_eq_true, and_self, AMR, bld_110, fld_110_0, fld_110_1, fp_110_0, fp_110_1, fp_26_2, ix_108, ix_24, ld_24, ld_26, ld_3, ld_41, len_24, part_110, part_41, size_108, size_110, size_24, size_41, sp_110_0, sp_110_1, und_108, und_24, zero_108, zero_110, zero_24, zero_41, f4.ok, g1, g2, r4, r4t, kt, kc]
    refine W_callP (paid_73 (t := T) f4.ok (by have := f4.next; omega) hb4 hmap tok hll (by omega) fun x hx => by have := hq x hx; omega) ?_
    rintro _ h5 ⟨rfl, F5⟩
    have f45 : Fr H h5 := F5.fr fr4 hm4
    have f5 := fb.trans f45
    have q8 := q6.fr fb.ok f45
    have r5 := f45.row' fb.ok rb
    have r5t := f45.row' fb.ok rbt
    have n5 := f45.next
    have n6 := fbh.next
    obtain ⟨h6, e6, q6', f6, n6', g6⟩ := append_row (ts := []) app_108 f5 (by omega) q8 (cs := [.int .i64 n, .int .i64 (paid T s.boards l)]) rfl rfl (by omega)
    simp (maxDischargeDepth := 30) only [AMS, AMH, ↓reduceIte, Nat.reduceLT, Nat.reduceEqDiff, Nat.reduceAdd, Nat.reduceMul, reduceCtorEq, decide_true, decide_false, Nat.reduceLeDiff, Int.reduceNe, Int.reduceEq, ne_eq, not_false_eq_true, and_self, AMR, bld_110, fld_110_0, fld_110_1, fp_110_0, fp_110_1, fp_26_2, ix_108, ix_24, ld_24, ld_26, ld_3, ld_41, len_24, part_110, part_41, size_108, size_110, size_24, size_41, sp_110_0, sp_110_1, und_108, und_24, zero_108, zero_110, zero_24, zero_41, f5.ok, g1, g2, g21, g22, g23, r5, r5t, kt, kc, bs_108, e6, i_next hnl (by omega : s.tars.length ≤ 1000)]
    refine ih (s.tars.length - (n + 1)) _ _ (by omega) ?_
    have gz : (paids s l).zipIdx[n]? = some (paid T s.boards l, n) := by rw [List.getElem?_zipIdx]; simp [paids, hT]
    refine ⟨n + 1, by omega, rfl, by simp [upd_at, g1], by simp [upd_at, g2], by simp [upd_at, g21], by simp [upd_at, g22], by simp [upd_at], ?_, by simp [upd_at, blkOf]; omega, f6, by omega, ?_⟩
    · rw [take_snoc gz, List.flatMap_append]
      simpa [upd_at, offC] using q6'
    · unfold rowAt
      rw [g6 _ (by omega) nb]
      exact r5
  · have : n = s.tars.length := by omega
    subst this
    obtain ⟨px, cx, ex⟩ := q.value
    rw [ex, List.take_of_length_le (by omega)] at q
    have LQ : LS h' (.slice px s.tars.length cx) (paids s l).zipIdx offC 2 := SL.ls offC_len (by rw [zl]; exact q)
    simp (maxDischargeDepth := 30) only [AMS, AMH, ↓reduceIte, Nat.reduceLT, Nat.reduceEqDiff, Nat.reduceAdd, Nat.reduceMul, reduceCtorEq, decide_true, decide_false, Nat.reduceLeDiff, Int.reduceNe, Int.reduceEq, ne_eq, not_false_eq_true, and_self, bld_110, fld_110_0, fld_110_1, fp_110_0, fp_110_1, fp_26_2, ix_108, ix_24, ld_24, ld_26, ld_3, ld_41, len_24, part_110, part_41, size_108, size_110, size_24, size_41, sp_110_0, sp_110_1, und_108, und_24, zero_108, zero_110, zero_24, zero_41, k', g22, g23, lt_f, ex]
    refine W_call (best_86 k' LQ (by omega) (by omega)) ?_
    rintro _ h7 ⟨⟨j, p, rfl, hmin⟩, fr7⟩
    have f7 := fr.trans fr7
    simp (maxDischargeDepth := 30) only [AMS, AMH, ↓reduceIte, Nat.reduceLT, Nat.reduceEqDiff, Nat.reduceAdd, Nat.reduceMul, reduceCtorEq, decide_true, decide_false, Nat.reduceLeDiff, Int.reduceNe, Int.reduceEq, ne_eq, not_false_eq_true, and_self, bld_110, fld_110_0, fld_110_1, fp_110_0, fp_110_1, fp_26_2, ix_108, ix_24, ld_24, ld_26, ld_3, ld_41, len_24, part_110, part_41, size_108, size_110, size_24, size_41, sp_110_0, sp_110_1, und_108, und_24, zero_108, zero_110, zero_24, zero_41, f7.ok]
    have f8 : Fr h ((h7.alloc (.row [.int .i64 0, .int .i64 0] 0 true)).set h7.next (.row [.int .i64 j, .int .i64 p] 0 true)) := (f7.alloc _).set (by have := f7.next; omega) (by simp) _
    have r8 : rowAt ((h7.alloc (.row [.int .i64 0, .int .i64 0] 0 true)).set h7.next (.row [.int .i64 j, .int .i64 p] 0 true)) h7.next = some [.int .i64 j, .int .i64 p] := rowAt_set_self _ _ _ _ _
    generalize ((h7.alloc (.row [.int .i64 0, .int .i64 0] 0 true)).set h7.next (.row [.int .i64 j, .int .i64 p] 0 true)) = h8 at f8 r8 ⊢
    refine W_draw [(true, 0), (true, 1), (true, 2), (true, 3), (true, 4), (true, 5), (true, 6)] (by kernel_rfl) ?_
    simp (maxDischargeDepth := 30) only [AMS, AMH, ↓reduceIte, Nat.reduceLT, Nat.reduceEqDiff, Nat.reduceAdd, Nat.reduceMul, reduceCtorEq, decide_true, decide_false, Nat.reduceLeDiff, Int.reduceNe, Int.reduceEq, ne_eq, not_false_eq_true, and_self, AMR, bld_110, fld_110_0, fld_110_1, fp_110_0, fp_110_1, fp_26_2, ix_108, ix_24, ld_24, ld_26, ld_3, ld_41, len_24, part_110, part_41, size_108, size_110, size_24, size_41, sp_110_0, sp_110_1, und_108, und_24, zero_108, zero_110, zero_24, zero_41, f8.ok, r8]
    exact ⟨⟨j, p, rfl, hmin⟩, f8⟩

set_option maxRecDepth 10000 in
set_option maxHeartbeats 4000000 in
theorem cheapest_46 {h : Heap} (hk : HOK h) (hp : 0 < h.next) {a b c v : Value} {s : Sheet} {l : List Int} (hs : IsSheet h a b c s) (hv : LS h v l ints 1) (ok : s.ok = true) (hl : hoursOK s.boards l = true) :
    CW CC 46 [.agg ⟨[a, b, c]⟩, v] h fun r h' => (∃ (j : Nat) (p : Int), r = .tuple ⟨[.int .i64 j, .int .i64 p]⟩ ∧ IsMin (paids s l) j p) ∧ Fr h h' := by
  have hlen := Sheet.ok_len ok
  have hll := (hoursOK_at hl).1
  have hs' := hs
  have hv' := hv
  obtain ⟨p1, c1, rfl, _⟩ := hs.offs.open
  obtain ⟨p2, c2, rfl, _⟩ := hs.boards.open
  obtain ⟨p3, c3, rfl, x3⟩ := hs.tars.open
  obtain ⟨p4, c4, rfl, _⟩ := hv.open
  have pl : (paids s l).length = s.tars.length := by simp [paids]
  obtain ⟨T0, hT0⟩ : ∃ T, s.tars[0]? = some T := ⟨_, List.getElem?_eq_getElem (by omega)⟩
  obtain ⟨bt, ot, spt, rowt, rfl, rrt, et0⟩ := LS.at (n := 0) (c := 0) x3 hT0
  have ets : ∀ (i : Nat) (T : Tar), s.tars[i]? = some T → take? rowt (ot + i * 5) 5 = some T.cells := by
    rcases x3 with hx | ⟨bb, oo, spp, roww, he, hr, hx⟩
    · rw [hx] at hT0; simp at hT0
    · simp at he
      obtain ⟨rfl, rfl, rfl⟩ := he
      rw [rrt] at hr; simp at hr; subst hr
      exact fun i T hi => (hx i T hi).1
  have et0 : take? rowt ot 5 = some T0.cells := by simpa using et0
  have ix0 : ∀ n c, 0 < n → aIndexAddr CC 24 (.slice (some ⟨bt, ot, spt⟩) n c) (.int .i64 0) = some (.pointer (some ⟨bt, ot, none⟩)) := fun n c hh => ix_24 bt ot spt n c 0 hh
  have tok0 := Sheet.ok_tars ok T0 (List.mem_of_getElem? hT0)
  have hq0 := qtys_b ok hl T0
  have kc0 : T0.cells.all selfC = true := rfl
  have t1 : 0 < s.tars.length := by omega
  refine CW_in Tryz.f46 (by kernel_rfl) (by kernel_rfl) rfl rfl ?_
  simp only [Tryz.f46]
  have f1 : Fr h (h.alloc (.row [.slice p1 s.offs.length c1, .slice p2 s.boards.length c2, .slice (some ⟨bt, ot, spt⟩) s.tars.length c3] 0 true)) := (Fr.refl hk).alloc _
  have r1 : rowAt (h.alloc (.row [.slice p1 s.offs.length c1, .slice p2 s.boards.length c2, .slice (some ⟨bt, ot, spt⟩) s.tars.length c3] 0 true)) h.next = some [.slice p1 s.offs.length c1, .slice p2 s.boards.length c2, .slice (some ⟨bt, ot, spt⟩) s.tars.length c3] := rowAt_new _ _ _ _
  have rt1 := f1.row' hk rrt
  simp (maxDischargeDepth := 30) only [AMS, AMH, ↓reduceIte, Nat.reduceLT, Nat.reduceEqDiff, Nat.reduceAdd, Nat.reduceMul, reduceCtorEq, decide_true, decide_false, Nat.reduceLeDiff, Int.reduceNe, Int.reduceEq, ne_eq, not_false_eq_true, and_self, fp_26_2, ix_24, ld_24, ld_26, ld_41, len_24, part_41, size_24, size_41, und_24, zero_24, hk]
  generalize (h.alloc (.row [.slice p1 s.offs.length c1, .slice p2 s.boards.length c2, .slice (some ⟨bt, ot, spt⟩) s.tars.length c3] 0 true)) = h1 at f1 r1 rt1 ⊢
  refine W_draw [(true, 0), (true, 1), (true, 2), (true, 3), (true, 4), (true, 5), (true, 6), (true, 7), (true, 8)] (by kernel_rfl) ?_
  simp (maxDischargeDepth := 30) only [AMS, AMH, ↓reduceIte, Nat.reduceLT, Nat.reduceEqDiff, Nat.reduceAdd, Nat.reduceMul, reduceCtorEq, decide_true, decide_false, Nat.reduceLeDiff, Int.reduceNe, Int.reduceEq, ne_eq, not_false_eq_true, and_self, fp_26_2, ix_24, ld_24, ld_26, ld_41, len_24, part_41, size_24, size_41, und_24, zero_24, f1.ok, r1, ix0, t1, rt1, et0]
  refine W_callP (total_62 (t := T0) f1.ok (by have := f1.next; omega) (hs.fr hk f1) (hv.fr hk f1) tok0 hll (by omega) fun x hx => by have := hq0 x hx; omega) ?_
  rintro _ h2 ⟨rfl, fr2⟩
  have f2 := f1.trans fr2
  have r2 := fr2.row' f1.ok r1
  have rt2 := f2.row' hk rrt
  have gp0 : (paids s l)[0]? = some (paid T0 s.boards l) := by simp [paids, hT0]
  simp (maxDischargeDepth := 30) only [AMS, AMH, ↓reduceIte, Nat.reduceLT, Nat.reduceEqDiff, Nat.reduceAdd, Nat.reduceMul, reduceCtorEq, decide_true, decide_false, Nat.reduceLeDiff, Int.reduceNe, Int.reduceEq, ne_eq, not_false_eq_true, and_self, AMR, fp_26_2, ix_24, ld_24, ld_26, ld_41, len_24, part_41, size_24, size_41, und_24, zero_24, f2.ok, r2, ix0, t1, rt2, et0, kc0]
  refine W_loop (s.tars.length - 1) (fun m' f h' => ∃ (n j : Nat) (p : Int), 1 ≤ n ∧ n ≤ s.tars.length ∧ m' = s.tars.length - n ∧ f 1 = .slice p4 l.length c4 ∧ f 2 = .pointer (some ⟨h.next, 0, none⟩) ∧ f 6 = .int .i64 j ∧ f 7 = .int .i64 p ∧ f 8 = .int .i64 n ∧ IsMin ((paids s l).take n) j p ∧ Fr h h' ∧ rowAt h' h.next = some [.slice p1 s.offs.length c1, .slice p2 s.boards.length c2, .slice (some ⟨bt, ot, spt⟩) s.tars.length c3])
    ⟨1, 0, paid T0 s.boards l, by omega, by omega, rfl, by simp [upd_at, argsFn_at], by simp [upd_at], by simp [upd_at], by simp [upd_at], by simp [upd_at], IsMin.one gp0, f2, r2⟩ ?_
  clear f2 r2 rt2 fr2 f1 r1 rt1
  rintro m' f h' ⟨n, j, p, hn1, hn, hmm, g1, g2, g6, g7, g8, hm, fr, r'⟩ ih
  have k' := fr.ok
  by_cases hnl : n < s.tars.length
  · obtain ⟨T, hT⟩ : ∃ T, s.tars[n]? = some T := ⟨_, List.getElem?_eq_getElem hnl⟩
    have tok := Sheet.ok_tars ok T (List.mem_of_getElem? hT)
    have hq := qtys_b ok hl T
    have et := ets n T hT
    have rrt' := fr.row' hk rrt
    have kc : T.cells.all selfC = true := rfl
    have gp : (paids s l)[n]? = some (paid T s.boards l) := by simp [paids, hT]
    simp (maxDischargeDepth := 30) only [AMS, AMH, ↓reduceIte, Nat.reduceLT, Nat.reduceEqDiff, Nat.reduceAdd, Nat.reduceMul, reduceCtorEq, decide_true, decide_false, Nat.reduceLeDiff, Int.reduceNe, Int.reduceEq, ne_eq, not_false_eq_true, and_self, fp_26_2, ix_24, ld_24, ld_26, ld_41, len_24, part_41, size_24, size_41, und_24, zero_24, k', g1, g2, g8, r', lt_t hnl]
    refine W_draw [(true, 0), (true, 1), (true, 2), (true, 3), (true, 4), (true, 5), (true, 6), (true, 7), (true, 8)] (by kernel_rfl) ?_
    simp (maxDischargeDepth := 30) only [AMS, AMH, ↓reduceIte, Nat.reduceLT, Nat.reduceEqDiff, Nat.reduceAdd, Nat.reduceMul, reduceCtorEq, decide_true, decide_false, Nat.reduceLeDiff, Int.reduceNe, Int.reduceEq, ne_eq, not_false_eq_true, and_self, fp_26_2, ix_24, ld_24, ld_26, ld_41, len_24, part_41, size_24, size_41, und_24, zero_24, k', g1, g2, g8, r', hnl, rrt', et]
    refine W_callP (total_62 (t := T) k' (by have := fr.next; omega) (hs'.fr hk fr) (hv'.fr hk fr) tok hll (by omega) fun x hx => by have := hq x hx; omega) ?_
    rintro _ h3 ⟨rfl, fr3⟩
    have f3 := fr.trans fr3
    have r3 := fr3.row' k' r'
    have rt3 := f3.row' hk rrt
    cases hd : decide (paid T s.boards l < p) with
    | true =>
      simp (maxDischargeDepth := 30) only [AMS, AMH, ↓reduceIte, Nat.reduceLT, Nat.reduceEqDiff, Nat.reduceAdd, Nat.reduceMul, reduceCtorEq, decide_true, decide_false, Nat.reduceLeDiff, Int.reduceNe, Int.reduceEq, ne_eq, not_false_eq_true, and_self, AMR, fp_26_2, ix_24, ld_24, ld_26, ld_41, len_24, part_41, size_24, size_41, und_24, zero_24, f3.ok, g1, g2, g6, g7, g8, r3, hnl, rt3, et, kc, hd, i_next hnl (by omega : s.tars.length ≤ 1000)]
      refine ih (s.tars.length - (n + 1)) _ _ (by omega) ?_
      exact ⟨n + 1, n, _, by omega, by omega, rfl, by simp [upd_at, g1], by simp [upd_at, g2], by simp [upd_at], by simp [upd_at], by simp [upd_at], hm.less gp (of_decide_eq_true hd), f3, r3⟩
    | false =>
      simp (maxDischargeDepth := 30) only [AMS, AMH, ↓reduceIte, Nat.reduceLT, Nat.reduceEqDiff, Nat.reduceAdd, Nat.reduceMul, reduceCtorEq, decide_true, decide_false, Nat.reduceLeDiff, Int.reduceNe, Int.reduceEq, ne_eq, not_false_eq_true, and_self, AMR, fp_26_2, ix_24, ld_24, ld_26, ld_41, len_24, part_41, size_24, size_41, und_24, zero_24, f3.ok, g1, g2, g6, g7, g8, r3, hnl, rt3, et, kc, hd, i_next hnl (by omega : s.tars.length ≤ 1000)]
      refine ih (s.tars.length - (n + 1)) _ _ (by omega) ?_
      exact ⟨n + 1, j, p, by omega, by omega, rfl, by simp [upd_at, g1], by simp [upd_at, g2], by simp [upd_at, g6], by simp [upd_at, g7], by simp [upd_at], hm.keep gp (of_decide_eq_false hd), f3, r3⟩
  · have : n = s.tars.length := by omega
    subst this
    rw [List.take_of_length_le (by omega)] at hm
    simp (maxDischargeDepth := 30) only [AMS, AMH, ↓reduceIte, Nat.reduceLT, Nat.reduceEqDiff, Nat.reduceAdd, Nat.reduceMul, reduceCtorEq, decide_true, decide_false, Nat.reduceLeDiff, Int.reduceNe, Int.reduceEq, ne_eq, not_false_eq_true, and_self, fp_26_2, ix_24, ld_24, ld_26, ld_41, len_24, part_41, size_24, size_41, und_24, zero_24, k', g2, g6, g7, g8, r', lt_f]
    exact ⟨⟨j, p, rfl, hm⟩, fr⟩
end Go.Am
