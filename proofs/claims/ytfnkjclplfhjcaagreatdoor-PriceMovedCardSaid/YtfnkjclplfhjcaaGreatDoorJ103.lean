/- Parts 103 of the abstract machine over this program, joined: what each part says stands at its head. -/
import Derived.Test.YtfnkjclplfhjcaaGreatDoorJ102
set_option linter.unusedSimpArgs false
set_option linter.unusedVariables false
/- The abstract machine, part 103: contracts of the specification: Share, Owes. -/
namespace Go.Am
open Go Go.Proofs

theorem sumI_upto : ∀ {l : List Int}, (∀ x ∈ l, 0 ≤ x) → ∀ j, 0 ≤ sumI (l.take j) ∧ sumI (l.take j) ≤ sumI l
  | [], _, j => by simp [sumI]
  | y :: l, h, 0 => by have := (sumI_mem h).1; simp [sumI] at this ⊢; exact this
  | y :: l, h, j + 1 => by
    have h1 := h y List.mem_cons_self
    have := sumI_upto (l := l) (fun x hx => h x (List.mem_cons_of_mem _ hx)) j
    rw [List.take_succ_cons, sumI_cons, sumI_cons]
    omega

theorem argmax_succ (r : List Int) (k : Nat) : argmax r (k + 1) = if r.getD k 0 > r.getD (argmax r k) 0 then k else argmax r k := by
  unfold argmax; rw [List.range_succ, List.foldl_append, List.foldl_cons, List.foldl_nil]
theorem argmax_lt (r : List Int) : ∀ k : Nat, 1 ≤ k → argmax r k < k
  | 0, h => absurd h (by omega)
  | k + 1, _ => by
    rw [argmax_succ]
    split
    · omega
    · cases k with
      | zero => exact Nat.zero_lt_one
      | succ k => have := argmax_lt r (k + 1) (by omega); omega
theorem getD_at {r : List Int} {i : Nat} {x : Int} (h : r[i]? = some x) : r.getD i 0 = x := by rw [List.getD_eq_getElem?_getD, h]; rfl
theorem argmax_pos (r : List Int) (k : Nat) (h : 1 ≤ r.length) : argmax r k < r.length ∨ r.length < k := by
  by_cases e : r.length < k
  · exact .inr e
  · refine .inl ?_
    cases k with
    | zero => show 0 < _; omega
    | succ k => have := argmax_lt r (k + 1) (by omega); omega

set_option maxRecDepth 10000 in
set_option maxHeartbeats 8000000 in
theorem share_54 {h : Heap} (hk : HOK h) (hp : 0 < h.next) {a b c v : Value} {s : Sheet} {l : List Int} {t : Tar} (hs : IsSheet h a b c s) (hv : LS h v l ints 1) (ok : s.ok = true) (ht : t.ok = true) (hll : l.length = s.boards.length) (hq : ∀ x ∈ qtys t s.boards l, 0 ≤ x ∧ x ≤ 60) :
    CW CC 54 [.agg ⟨[a, b, c]⟩, .agg ⟨t.cells⟩, v] h fun r h' => SL h.next h' r ((sharesL (paid t s.boards l) (weights s.offs.length t s.boards l)).flatMap ints) 1 s.offs.length ∧ Fr h h' := by
  have hlen := Sheet.ok_len ok
  have wb := weights_b (t := t) ok hq hll
  have hP := paid_b ht hll ⟨by omega, by omega⟩ hq
  have hs' := hs
  have hv' := hv
  obtain ⟨p1, c1, rfl, x1⟩ := hs.offs.open
  obtain ⟨p2, c2, rfl, x2⟩ := hs.boards.open
  obtain ⟨p3, c3, rfl, x3⟩ := hs.tars.open
  obtain ⟨p4, c4, rfl, _⟩ := hv.open
  have kt : take? t.cells 0 5 = some t.cells := rfl
  have kc : t.cells.all selfC = true := rfl
  refine CW_in Tryz.f54 (by kernel_rfl) (by kernel_rfl) rfl rfl ?_
  simp only [Tryz.f54]
  have f1 : Fr h ((h.alloc (.row [.slice p1 s.offs.length c1, .slice p2 s.boards.length c2, .slice p3 s.tars.length c3] 0 true)).alloc (.row t.cells 0 true)) := ((Fr.refl hk).alloc _).alloc _
  have r1 : rowAt ((h.alloc (.row [.slice p1 s.offs.length c1, .slice p2 s.boards.length c2, .slice p3 s.tars.length c3] 0 true)).alloc (.row t.cells 0 true)) h.next = some [.slice p1 s.offs.length c1, .slice p2 s.boards.length c2, .slice p3 s.tars.length c3] := by rw [rowAt_old _ (by simp), rowAt_new]
  have t1 : rowAt ((h.alloc (.row [.slice p1 s.offs.length c1, .slice p2 s.boards.length c2, .slice p3 s.tars.length c3] 0 true)).alloc (.row t.cells 0 true)) (h.next + 1) = some t.cells := rowAt_at _ _ _ (by simp)
  have n1 : ((h.alloc (.row [.slice p1 s.offs.length c1, .slice p2 s.boards.length c2, .slice p3 s.tars.length c3] 0 true)).alloc (.row t.cells 0 true)).next = h.next + 2 := by simp
  simp (maxDischargeDepth := 30) only [AMS, AMH, ↓reduceIte, Nat.reduceLT, Nat.reduceEqDiff, Nat.reduceAdd, Nat.reduceMul, reduceCtorEq, decide_true, decide_false, Nat.reduceLeDiff, Int.reduceNe, Int.reduceEq, ne_eq, not_false_eq_true, and_self, bs_22, ix_22, ld_26, ld_3, ld_41, len_22, part_3, size_22, size_3, und_22, und_3, zero_22, zero_3, hk, kt]
  generalize ((h.alloc (.row [.slice p1 s.offs.length c1, .slice p2 s.boards.length c2, .slice p3 s.tars.length c3] 0 true)).alloc (.row t.cells 0 true)) = h1 at f1 r1 t1 n1 ⊢
  refine W_call (weights_56 (t := t) f1.ok (by omega) (hs'.fr hk f1) (hv'.fr hk f1) ok ht hll hq) ?_
  rintro w h2 ⟨qw, fr2⟩
  have f2 := f1.trans fr2
  have r2 := fr2.row' f1.ok r1
  have t2 := fr2.row' f1.ok t1
  have lW := weights_len s.offs.length t s.boards l
  obtain ⟨pq, cq, rfl⟩ := qw.value
  have LW2 : LS h2 (.slice pq s.offs.length cq) (weights s.offs.length t s.boards l) ints 1 := SL.ls ints_len (by rw [lW]; exact qw)
  generalize hPe : paid t s.boards l = P at hP
  simp (maxDischargeDepth := 30) only [AMS, AMH, ↓reduceIte, Nat.reduceLT, Nat.reduceEqDiff, Nat.reduceAdd, Nat.reduceMul, reduceCtorEq, decide_true, decide_false, Nat.reduceLeDiff, Int.reduceNe, Int.reduceEq, ne_eq, not_false_eq_true, and_self, bs_22, ix_22, ld_26, ld_3, ld_41, len_22, part_3, size_22, size_3, und_22, und_3, zero_22, zero_3, f2.ok]
  refine W_draw [(true, 0), (true, 2), (true, 3), (true, 4), (true, 1), (false, 2), (false, 3), (true, 5), (true, 6), (true, 7)] (by kernel_rfl) ?_
  simp (maxDischargeDepth := 30) only [AMS, AMH, ↓reduceIte, Nat.reduceLT, Nat.reduceEqDiff, Nat.reduceAdd, Nat.reduceMul, reduceCtorEq, decide_true, decide_false, Nat.reduceLeDiff, Int.reduceNe, Int.reduceEq, ne_eq, not_false_eq_true, and_self, bs_22, ix_22, ld_26, ld_3, ld_41, len_22, part_3, size_22, size_3, und_22, und_3, zero_22, zero_3, f2.ok, r2, t2, kt]
  refine W_callP (sum_57 _ (weights s.offs.length t s.boards l) h2 LW2 (by omega) fun x hx => by have := wb.1 x hx; omega) ?_
  rintro _ hE ⟨rfl, eE⟩
  rw [eE]
  clear eE hE
  simp (maxDischargeDepth := 30) only [AMS, AMH, ↓reduceIte, Nat.reduceLT, Nat.reduceEqDiff, Nat.reduceAdd, Nat.reduceMul, reduceCtorEq, decide_true, decide_false, Nat.reduceLeDiff, Int.reduceNe, Int.reduceEq, ne_eq, not_false_eq_true, and_self, AMR, bs_22, ix_22, ld_26, ld_3, ld_41, len_22, part_3, size_22, size_3, und_22, und_3, zero_22, zero_3, f2.ok, r2, t2, kt, kc]
  refine W_callP (total_62 (t := t) f2.ok (by have := f2.next; omega) (hs'.fr hk f2) (hv'.fr hk f2) ht hll (by omega) fun x hx => by have := hq x hx; omega) ?_
  rintro _ h3 ⟨rfl, fr3⟩
  rw [hPe]
  have f3 := f2.trans fr3
  have r3 := fr3.row' f2.ok r2
  have t3 := fr3.row' f2.ok t2
  have LW := LW2.fr f2.ok fr3
  have kX := f3.ok
  have nX : h.next ≤ h3.next := f3.next
  simp (maxDischargeDepth := 30) only [AMS, AMH, ↓reduceIte, Nat.reduceLT, Nat.reduceEqDiff, Nat.reduceAdd, Nat.reduceMul, reduceCtorEq, decide_true, decide_false, Nat.reduceLeDiff, Int.reduceNe, Int.reduceEq, ne_eq, not_false_eq_true, and_self, AMR, bs_22, ix_22, ld_26, ld_3, ld_41, len_22, part_3, size_22, size_3, und_22, und_3, zero_22, zero_3, kX, r3, t3, kt, kc]
  generalize weights s.offs.length t s.boards l = WW at wb lW LW
  obtain ⟨hWb, hA⟩ := wb
  refine W_loop s.offs.length (fun m' f h' => ∃ i, i ≤ s.offs.length ∧ m' = s.offs.length - i ∧ f 7 = .slice pq s.offs.length cq ∧ f 8 = .int .i64 (sumI WW) ∧ f 9 = .int .i64 (P - sumI ((baseL P WW).take i)) ∧ f 10 = .int .i64 P ∧ f 13 = .int .i64 i ∧
      SL h3.next h' (f 11) (((baseL P WW).take i).flatMap ints) 1 i ∧ SL h3.next h' (f 12) (((restL P WW).take i).flatMap ints) 1 i ∧ (∀ x, blkOf (f 11) = some x → blkOf (f 12) ≠ some x) ∧ Fr h3 h')
    ⟨0, by omega, by omega, by simp [upd_at], by simp [upd_at], by simp [upd_at, sumI], by simp [upd_at], by simp [upd_at], by simpa [upd_at] using SL.nil h3.next h3 1, by simpa [upd_at] using SL.nil h3.next h3 1, by simp [upd_at, blkOf], Fr.refl kX⟩ ?_
  have bbd : ∀ x ∈ baseL P WW, 0 ≤ x ∧ x ≤ 1000000000 := fun x hx => by
    unfold baseL at hx
    rw [List.mem_map] at hx
    obtain ⟨w, hw', rfl⟩ := hx
    have hw := hWb w hw'
    have pw0 : 0 ≤ P * w := Int.mul_nonneg hP.1 hw.1
    have pw1 : P * w ≤ 1000000 * 1000 := Int.mul_le_mul hP.2 hw.2 hw.1 (by omega)
    have dd := div_b (a := P * w) (b := sumI WW) pw0 hA
    omega
  have bl : (baseL P WW).length = s.offs.length := by simp [baseL, lW]
  have rl : (restL P WW).length = s.offs.length := by simp [restL, lW]
  rintro m' f h' ⟨i, hi, rfl, g7, g8, g9, g10, g13, q8, q9, hne, fr⟩ ih
  have k' := fr.ok
  by_cases hil : i < s.offs.length
  · obtain ⟨w, gw⟩ : ∃ x, WW[i]? = some x := ⟨_, List.getElem?_eq_getElem (by omega)⟩
    obtain ⟨b4, o4, sp4, row4, rfl, rr4, e4⟩ := LW.cell gw
    have rr4' := fr.row' kX rr4
    have hw := hWb w (List.mem_of_getElem? gw)
    have pw0 : 0 ≤ P * w := Int.mul_nonneg hP.1 hw.1
    have pw1 : P * w ≤ 1000000 * 1000 := Int.mul_le_mul hP.2 hw.2 hw.1 (by omega)
    have w1 : IntKind.i64.wrap (P * w) = P * w := wrap64 (by omega) (by omega)
    have dd := div_b (a := P * w) (b := sumI WW) pw0 hA
    have a0 : sumI WW ≠ 0 := by omega
    have w2 : IntKind.i64.wrap (P * w / sumI WW) = P * w / sumI WW := wrap64 (by omega) (by omega)
    have gb : (baseL P WW)[i]? = some (P * w / sumI WW) := by simp [baseL, gw]
    have gr : (restL P WW)[i]? = some (P * w % sumI WW) := by simp [restL, gw]
    have em := Int.emod_add_mul_ediv (P * w) (sumI WW)
    have rm0 := Int.emod_nonneg (P * w) a0
    have eb : P * w / sumI WW * sumI WW = sumI WW * (P * w / sumI WW) := Int.mul_comm _ _
    have p0 : 0 ≤ P * w / sumI WW * sumI WW := Int.mul_nonneg dd.1 (by omega)
    have w3 : IntKind.i64.wrap (P * w / sumI WW * sumI WW) = P * w / sumI WW * sumI WW := wrap64 (by omega) (by omega)
    have w4 : IntKind.i64.wrap (P * w - P * w / sumI WW * sumI WW) = P * w % sumI WW := by rw [wrap64 (by omega) (by omega)]; omega
    have sb := sumI_upto (fun x hx => (bbd x hx).1) i
    have sbT := sumI_len (n := 3) bbd (by omega) (by omega)
    have w5 : IntKind.i64.wrap (P - sumI ((baseL P WW).take i) - P * w / sumI WW) = P - sumI ((baseL P WW).take (i + 1)) := by
      rw [take_snoc gb, sumI_app, wrap64 (by omega) (by omega)]; omega
    have fa : Fr h' (h'.alloc (.row [.int .i64 (P * w / sumI WW)] 1 true)) := (Fr.refl k').alloc _
    have fb : Fr h' ((h'.alloc (.row [.int .i64 (P * w / sumI WW)] 1 true)).alloc (.row [.int .i64 (P * w % sumI WW)] 1 true)) := fa.alloc _
    have fC : Fr h3 ((h'.alloc (.row [.int .i64 (P * w / sumI WW)] 1 true)).alloc (.row [.int .i64 (P * w % sumI WW)] 1 true)) := fr.trans fb
    have q8c := q8.fr k' fb
    have q9c := q9.fr k' fb
    have bl8 := fun b hb => (q8.blk_lt k' (b := b) hb).2
    have bl9 := fun b hb => (q9.blk_lt k' (b := b) hb).2
    have rlo : rowAt ((h'.alloc (.row [.int .i64 (P * w / sumI WW)] 1 true)).alloc (.row [.int .i64 (P * w % sumI WW)] 1 true)) h'.next = some [.int .i64 (P * w / sumI WW)] := by rw [rowAt_old _ (by simp), rowAt_new]
    have rhi : ((h'.alloc (.row [.int .i64 (P * w / sumI WW)] 1 true)).alloc (.row [.int .i64 (P * w % sumI WW)] 1 true)).get (h'.next + 1) = some (.row [.int .i64 (P * w % sumI WW)] 1 true) := get_at _ (by simp)
    have rra := fa.row' k' rr4'
    have rrb := fb.row' k' rr4'
    obtain ⟨h6, e6, q6, f6, n6, g6⟩ := append_at (ts := []) app_22 fC (by simp) q8c (x := .slice (some ⟨h'.next, 0, some 1⟩) 1 1) (new := [.int .i64 (P * w / sumI WW)]) (m := 0) rfl (by
      show obind (rowAt _ h'.next) (fun cells => take? cells 0 (1 * 1)) = _
      rw [rlo]; rfl) rfl rfl (by omega)
    have n6' : h6.next = h'.next + 3 := by rw [n6]; simp
    have q9' : SL h3.next h6 (f 12) (((restL P WW).take i).flatMap ints) 1 i := q9c.keep fun b hb => g6 b (by simp; have := bl9 b hb; omega) (fun hc => hne b hc hb)
    have rhi6 : h6.get (h'.next + 1) = some (.row [.int .i64 (P * w % sumI WW)] 1 true) := by
      rw [g6 _ (by simp) (fun hc => by have := bl8 _ hc; omega)]; exact rhi
    have rhi6' : rowAt h6 (h'.next + 1) = some [.int .i64 (P * w % sumI WW)] := by unfold rowAt; rw [rhi6]; rfl
    obtain ⟨h7, e7, q7, f7, n7, g7'⟩ := append_at (ts := []) app_22 f6 (by omega) q9' (x := .slice (some ⟨h'.next + 1, 0, some 1⟩) 1 1) (new := [.int .i64 (P * w % sumI WW)]) (m := 0) rfl (by
      show obind (rowAt _ (h'.next + 1)) (fun cells => take? cells 0 (1 * 1)) = _
      rw [rhi6']; rfl) rfl rfl (by omega)
    have q6' : SL h3.next h7 (.slice (some ⟨h'.next + 1 + 1, 0, some 1⟩) (i + 1) (i + 1)) (((baseL P WW).take (i + 1)).flatMap ints) 1 (i + 1) := by
      rw [take_snoc gb, List.flatMap_append]
      have q : SL h3.next h7 _ _ 1 (i + 1) := q6.keep fun b hb => g7' b (by simp [sliceTo, blkOf] at hb; omega) (fun hc => by simp [sliceTo, blkOf] at hb; have := bl9 _ hc; omega)
      simpa [ints, sliceTo] using q
    have q7' : SL h3.next h7 (.slice (some ⟨h6.next, 0, some 1⟩) (i + 1) (i + 1)) (((restL P WW).take (i + 1)).flatMap ints) 1 (i + 1) := by
      rw [take_snoc gr, List.flatMap_append]
      simpa [ints, sliceTo] using q7
    have rr6 := f6.row' kX rr4
    have rr7 := f7.row' kX rr4
    simp only [sliceTo, Heap.next_alloc, Nat.zero_add] at e6 e7
    simp (maxDischargeDepth := 30) only [AMS, AMH, ↓reduceIte, Nat.reduceLT, Nat.reduceEqDiff, Nat.reduceAdd, Nat.reduceMul, reduceCtorEq, decide_true, decide_false, Nat.reduceLeDiff, Int.reduceNe, Int.reduceEq, ne_eq, not_false_eq_true, and_self, bs_22, ix_22, ld_26, ld_3, ld_41, len_22, part_3, size_22, size_3, und_22, und_3, zero_22, zero_3, k', g7, g8, g9, g10, g13, lt_t hil, hil, Nat.mul_one, rr4', e4, w1, I_quo _ _ _ _ (P * w) (sumI WW) a0, tdiv_nn pw0 hA, w2]
    refine W_draw [(true, 0), (true, 1), (true, 2), (true, 4), (true, 5), (true, 6), (true, 7), (true, 8), (true, 9), (true, 10), (true, 11), (true, 12), (true, 13), (true, 14), (true, 15), (true, 3), (false, 9), (false, 15), (true, 16), (true, 17), (true, 18)] (by kernel_rfl) ?_
    simp (maxDischargeDepth := 30) only [AMS, AMH, ↓reduceIte, Nat.reduceLT, Nat.reduceEqDiff, Nat.reduceAdd, Nat.reduceMul, reduceCtorEq, decide_true, decide_false, Nat.reduceLeDiff, Int.reduceNe, Int.reduceEq, ne_eq, not_false_eq_true, and_self, AMR, bs_22, ix_22, ld_26, ld_3, ld_41, len_22, part_3, size_22, size_3, und_22, und_3, zero_22, zero_3, k', g7, g8, g9, g10, g13, hil, Nat.mul_one, rr4', rra, rrb, rr6, rr7, e4, w1, w3, w4, bs_22 (cells_int _ _), e6, f6.ok, e7, rhi6, w5, i_next hil (by omega : s.offs.length ≤ 1000)]
    refine ih (s.offs.length - (i + 1)) _ _ (by omega) ?_
    refine ⟨i + 1, by omega, rfl, by simp [upd_at, g7], by simp [upd_at, g8], by simp [upd_at], by simp [upd_at, g10], by simp [upd_at], by simpa [upd_at] using q6', by simpa [upd_at] using q7', ?_, f7⟩
    intro x hx
    simp [upd_at, blkOf] at hx ⊢
    omega
  · have : i = s.offs.length := by omega
    subst this
    rw [List.take_of_length_le (by omega)] at q8 q9
    rw [List.take_of_length_le (by omega)] at g9
    have lb := left_b hP.1 (fun w hw => (hWb w hw).1) hA
    have ln : (leftN P WW : Int) = P - sumI (baseL P WW) := by unfold leftN; omega
    rw [← ln] at g9
    have hln : leftN P WW < 4 := by omega
    rcases q8 with ⟨_, _, e0⟩ | ⟨bo, eo, ob0, obN, og, _⟩
    · omega
    rcases q9 with ⟨_, _, e0⟩ | ⟨br, er, rb0, rbN, rg, _⟩
    · omega
    have hbr : bo ≠ br := fun e => hne bo (by rw [eo]; rfl) (by rw [er, e]; rfl)
    simp (maxDischargeDepth := 30) only [AMS, AMH, ↓reduceIte, Nat.reduceLT, Nat.reduceEqDiff, Nat.reduceAdd, Nat.reduceMul, reduceCtorEq, decide_true, decide_false, Nat.reduceLeDiff, Int.reduceNe, Int.reduceEq, ne_eq, not_false_eq_true, and_self, bs_22, ix_22, ld_26, ld_3, ld_41, len_22, part_3, size_22, size_3, und_22, und_3, zero_22, zero_3, k', g7, g13, lt_f]
    refine W_loop (leftN P WW) (fun c f h' => ∃ O R, takeRef c O R = sharesL P WW ∧ c ≤ 3 ∧ O.length = s.offs.length ∧ R.length = s.offs.length ∧ (∀ x ∈ O, 0 ≤ x ∧ x ≤ 1000000000 + (3 - (c : Int))) ∧
        f 11 = .slice (some ⟨bo, 0, some 1⟩) s.offs.length s.offs.length ∧ f 12 = .slice (some ⟨br, 0, some 1⟩) s.offs.length s.offs.length ∧ f 9 = .int .i64 (c : Nat) ∧
        h'.get bo = some (.row (O.flatMap ints) 1 true) ∧ h'.get br = some (.row (R.flatMap ints) 1 true) ∧ Fr h3 h')
      ⟨baseL P WW, restL P WW, rfl, by omega, bl, rl, fun x hx => by have := bbd x hx; omega, by simp [upd_at, eo], by simp [upd_at, er], by simp [upd_at, g9], og, rg, fr⟩ ?_
    clear ih og rg fr k' eo er g7 g8 g9 g10 g13 hne
    rintro c f h' ⟨O, R, hT, hc3, lO, lR, hO, g11, g12, g9, go, gr, fr⟩ ih
    have k' := fr.ok
    cases c with
    | zero =>
      have z : decide (((0 : Nat) : Int) > 0) = false := rfl
      have hT : O = sharesL P WW := hT
      simp (maxDischargeDepth := 30) only [AMS, AMH, ↓reduceIte, Nat.reduceLT, Nat.reduceEqDiff, Nat.reduceAdd, Nat.reduceMul, reduceCtorEq, decide_true, decide_false, Nat.reduceLeDiff, Int.reduceNe, Int.reduceEq, ne_eq, not_false_eq_true, and_self, bs_22, ix_22, ld_26, ld_3, ld_41, len_22, part_3, size_22, size_3, und_22, und_3, zero_22, zero_3, k', g9, g11, z]
      rw [← hT]
      exact ⟨.inr ⟨bo, rfl, ob0, by omega, go, by rw [flat_len ints_len, lO]⟩, f3.trans fr⟩
    | succ c =>
      have z : decide (((c + 1 : Nat) : Int) > 0) = true := decide_eq_true (by omega)
      simp (maxDischargeDepth := 30) only [AMS, AMH, ↓reduceIte, Nat.reduceLT, Nat.reduceEqDiff, Nat.reduceAdd, Nat.reduceMul, reduceCtorEq, decide_true, decide_false, Nat.reduceLeDiff, Int.reduceNe, Int.reduceEq, ne_eq, not_false_eq_true, and_self, bs_22, ix_22, ld_26, ld_3, ld_41, len_22, part_3, size_22, size_3, und_22, und_3, zero_22, zero_3, k', g9, g11, g12, z]
      refine W_loop s.offs.length (fun m' f' h'' => ∃ k, k ≤ s.offs.length ∧ m' = s.offs.length - k ∧ f' 11 = .slice (some ⟨bo, 0, some 1⟩) s.offs.length s.offs.length ∧ f' 12 = .slice (some ⟨br, 0, some 1⟩) s.offs.length s.offs.length ∧ f' 9 = .int .i64 ((c + 1 : Nat) : Int) ∧ f' 16 = .int .i64 (k : Nat) ∧ f' 15 = .int .i64 (argmax R k : Nat) ∧ h'' = h')
        ⟨0, by omega, by omega, by simp [upd_at, g11], by simp [upd_at, g12], by simp [upd_at, g9], by simp [upd_at], by simp [upd_at, argmax], rfl⟩ ?_
      rintro m' f' h'' ⟨k, hk', rfl, u11, u12, u9, u16, u15, rfl⟩ ih2
      have rr : rowAt h'' br = some (R.flatMap ints) := by unfold rowAt; rw [gr]; rfl
      by_cases hkl : k < s.offs.length
      · obtain ⟨x, gx⟩ : ∃ x, R[k]? = some x := ⟨_, List.getElem?_eq_getElem (by omega)⟩
        have am : argmax R k < s.offs.length := by
          rcases argmax_pos R k (by omega) with h | h <;> omega
        obtain ⟨y, gy⟩ : ∃ y, R[argmax R k]? = some y := ⟨_, List.getElem?_eq_getElem (by omega)⟩
        have st := argmax_succ R k
        rw [getD_at gx, getD_at gy] at st
        have xa := ints_at gx
        have ya := ints_at gy
        simp (maxDischargeDepth := 30) only [AMS, AMH, ↓reduceIte, Nat.reduceLT, Nat.reduceEqDiff, Nat.reduceAdd, Nat.reduceMul, reduceCtorEq, decide_true, decide_false, Nat.reduceLeDiff, Int.reduceNe, Int.reduceEq, ne_eq, not_false_eq_true, and_self, bs_22, ix_22, ld_26, ld_3, ld_41, len_22, part_3, size_22, size_3, und_22, und_3, zero_22, zero_3, k', u11, u12, u9, u16, u15, lt_t hkl]
        refine W_draw [(true, 0), (true, 1), (true, 2), (true, 3), (true, 4), (true, 5), (true, 6), (true, 7), (true, 8)] (by kernel_rfl) ?_
        cases hd : decide (x > y) with
        | true =>
          rw [if_pos (of_decide_eq_true hd)] at st
          simp (maxDischargeDepth := 30) only [AMS, AMH, ↓reduceIte, Nat.reduceLT, Nat.reduceEqDiff, Nat.reduceAdd, Nat.reduceMul, reduceCtorEq, decide_true, decide_false, Nat.reduceLeDiff, Int.reduceNe, Int.reduceEq, ne_eq, not_false_eq_true, and_self, AMR, bs_22, ix_22, ld_26, ld_3, ld_41, len_22, part_3, size_22, size_3, und_22, und_3, zero_22, zero_3, k', u11, u12, u9, u16, u15, hkl, am, Nat.mul_one, rr, xa, ya, hd, i_next hkl (by omega : s.offs.length ≤ 1000)]
          refine ih2 (s.offs.length - (k + 1)) _ _ (by omega) ?_
          exact ⟨k + 1, by omega, rfl, by simp [upd_at, u11], by simp [upd_at, u12], by simp [upd_at, u9], by simp [upd_at], by rw [st]; simp [upd_at], rfl⟩
        | false =>
          rw [if_neg (of_decide_eq_false hd)] at st
          simp (maxDischargeDepth := 30) only [AMS, AMH, ↓reduceIte, Nat.reduceLT, Nat.reduceEqDiff, Nat.reduceAdd, Nat.reduceMul, reduceCtorEq, decide_true, decide_false, Nat.reduceLeDiff, Int.reduceNe, Int.reduceEq, ne_eq, not_false_eq_true, and_self, AMR, bs_22, ix_22, ld_26, ld_3, ld_41, len_22, part_3, size_22, size_3, und_22, und_3, zero_22, zero_3, k', u11, u12, u9, u16, u15, hkl, am, Nat.mul_one, rr, xa, ya, hd, i_next hkl (by omega : s.offs.length ≤ 1000)]
          refine ih2 (s.offs.length - (k + 1)) _ _ (by omega) ?_
          exact ⟨k + 1, by omega, rfl, by simp [upd_at, u11], by simp [upd_at, u12], by simp [upd_at, u9], by simp [upd_at], by rw [st]; simp [upd_at, u15], rfl⟩
      · have : k = s.offs.length := by omega
        subst this
        have am : argmax R s.offs.length < s.offs.length := argmax_lt R _ (by omega)
        have hT' : takeRef c (bump O (argmax R s.offs.length)) (R.set (argmax R s.offs.length) (-1)) = sharesL P WW := by
          rw [← hT]
          conv => rhs; unfold takeRef
          rw [lR]
        generalize argmax R s.offs.length = A at am hT' u15
        obtain ⟨y, gy⟩ : ∃ y, O[A]? = some y := ⟨_, List.getElem?_eq_getElem (by omega)⟩
        obtain ⟨z', gz⟩ : ∃ z, R[A]? = some z := ⟨_, List.getElem?_eq_getElem (by omega)⟩
        have hy := hO y (List.mem_of_getElem? gy)
        have hb : bump O A = O.set A (y + 1) := by unfold bump; rw [getD_at gy]
        rw [hb] at hT'
        have ro : rowAt h'' bo = some (O.flatMap ints) := by unfold rowAt; rw [go]; rfl
        have ya := ints_at gy
        have w1 : IntKind.i64.wrap (y + 1) = y + 1 := wrap64 (by omega) (by omega)
        have p1 := ints_put (y := y + 1) gy
        have p2 := ints_put (y := -1) gz
        have wc : IntKind.i64.wrap (((c + 1 : Nat) : Int) - 1) = (c : Int) := by rw [wrap64 (by omega) (by omega)]; omega
        have gr1 : (h''.set bo (.row ((O.set A (y + 1)).flatMap ints) 1 true)).get br = some (.row (R.flatMap ints) 1 true) := by rw [Heap.get_set_ne _ _ (fun e => hbr e.symm)]; exact gr
        have lo := get_lt k' go
        have lr := get_lt k' gr
        simp (maxDischargeDepth := 30) only [AMS, AMH, ↓reduceIte, Nat.reduceLT, Nat.reduceEqDiff, Nat.reduceAdd, Nat.reduceMul, reduceCtorEq, decide_true, decide_false, Nat.reduceLeDiff, Int.reduceNe, Int.reduceEq, ne_eq, not_false_eq_true, and_self, bs_22, ix_22, ld_26, ld_3, ld_41, len_22, part_3, size_22, size_3, und_22, und_3, zero_22, zero_3, k', u11, u12, u9, u16, u15, lt_f, am, Nat.mul_one, ro, ya, w1, go, p1, gr1, p2, wc]
        refine ih c _ _ (by omega) ?_
        refine ⟨O.set A (y + 1), R.set A (-1), hT', by omega, by rw [List.length_set]; exact lO, by rw [List.length_set]; exact lR, fun x hx => ?_, by simp [upd_at, u11], by simp [upd_at, u12], by simp [upd_at], ?_, Heap.get_set_self _ _ _, (fr.set (by omega) lo _).set (by omega) (by rw [Heap.next_set]; exact lr) _⟩
        · rcases mem_set hx with q | rfl
          · have := hO x q; omega
          · omega
        · rw [Heap.get_set_ne _ _ hbr]; exact Heap.get_set_self _ _ _

set_option maxRecDepth 10000 in
set_option maxHeartbeats 4000000 in
theorem owes_59 {h : Heap} (hk : HOK h) (hp : 0 < h.next) {a b c v : Value} {s : Sheet} {l : List Int} {t : Tar} (hs : IsSheet h a b c s) (hv : LS h v l ints 1) (ok : s.ok = true) (ht : t.ok = true) (hll : l.length = s.boards.length) (hq : ∀ x ∈ qtys t s.boards l, 0 ≤ x ∧ x ≤ 60) :
    CW CC 59 [.agg ⟨[a, b, c]⟩, .agg ⟨t.cells⟩, v] h fun r h' => LS h' r (owesL (sharesL (paid t s.boards l) (weights s.offs.length t s.boards l)) s.offs) ints 1 ∧ Fr h h' := by
  have hlen := Sheet.ok_len ok
  have wb := weights_b (t := t) ok hq hll
  have hP := paid_b ht hll ⟨by omega, by omega⟩ hq
  have sb := sharesL_b hP wb.1 wb.2 (by rw [weights_len]; omega)
  have slen := sharesL_len (P := paid t s.boards l) (W := weights s.offs.length t s.boards l)
  rw [weights_len] at slen
  have hs' := hs
  have hv' := hv
  obtain ⟨p1, c1, rfl, x1⟩ := hs.offs.open
  obtain ⟨p2, c2, rfl, x2⟩ := hs.boards.open
  obtain ⟨p3, c3, rfl, x3⟩ := hs.tars.open
  obtain ⟨p4, c4, rfl, _⟩ := hv.open
  have kt : take? t.cells 0 5 = some t.cells := rfl
  have kc : t.cells.all selfC = true := rfl
  refine CW_in Tryz.f59 (by kernel_rfl) (by kernel_rfl) rfl rfl ?_
  simp only [Tryz.f59]
  have f1 : Fr h ((h.alloc (.row [.slice p1 s.offs.length c1, .slice p2 s.boards.length c2, .slice p3 s.tars.length c3] 0 true)).alloc (.row t.cells 0 true)) := ((Fr.refl hk).alloc _).alloc _
  have r1 : rowAt ((h.alloc (.row [.slice p1 s.offs.length c1, .slice p2 s.boards.length c2, .slice p3 s.tars.length c3] 0 true)).alloc (.row t.cells 0 true)) h.next = some [.slice p1 s.offs.length c1, .slice p2 s.boards.length c2, .slice p3 s.tars.length c3] := by rw [rowAt_old _ (by simp), rowAt_new]
  have t1 : rowAt ((h.alloc (.row [.slice p1 s.offs.length c1, .slice p2 s.boards.length c2, .slice p3 s.tars.length c3] 0 true)).alloc (.row t.cells 0 true)) (h.next + 1) = some t.cells := rowAt_at _ _ _ (by simp)
  have n1 : ((h.alloc (.row [.slice p1 s.offs.length c1, .slice p2 s.boards.length c2, .slice p3 s.tars.length c3] 0 true)).alloc (.row t.cells 0 true)).next = h.next + 2 := by simp
  simp (maxDischargeDepth := 30) only [AMS, AMH, ↓reduceIte, Nat.reduceLT, Nat.reduceEqDiff, Nat.reduceAdd, Nat.reduceMul, reduceCtorEq, decide_true, decide_false, Nat.reduceLeDiff, Int.reduceNe, Int.reduceEq, ne_eq, not_false_eq_true, and_self, fp_26_0, ix_22, ld_22, ld_26, ld_3, ld_41, len_22, part_3, size_22, size_3, und_22, und_3, zero_22, zero_3, hk, kt]
  generalize ((h.alloc (.row [.slice p1 s.offs.length c1, .slice p2 s.boards.length c2, .slice p3 s.tars.length c3] 0 true)).alloc (.row t.cells 0 true)) = h1 at f1 r1 t1 n1 ⊢
  refine W_call (share_54 (t := t) f1.ok (by omega) (hs'.fr hk f1) (hv'.fr hk f1) ok ht hll hq) ?_
  rintro x h2 ⟨q, fr2⟩
  have f2 := f1.trans fr2
  have r2 := fr2.row' f1.ok r1
  generalize sharesL (paid t s.boards l) (weights s.offs.length t s.boards l) = X at q slen sb
  have ol := owesL_len slen
  rcases q with ⟨_, _, e0⟩ | ⟨bo, rfl, ob0, obN, og, _⟩
  · omega
  simp (maxDischargeDepth := 30) only [AMS, AMH, ↓reduceIte, Nat.reduceLT, Nat.reduceEqDiff, Nat.reduceAdd, Nat.reduceMul, reduceCtorEq, decide_true, decide_false, Nat.reduceLeDiff, Int.reduceNe, Int.reduceEq, ne_eq, not_false_eq_true, and_self, fp_26_0, ix_22, ld_22, ld_26, ld_3, ld_41, len_22, part_3, size_22, size_3, und_22, und_3, zero_22, zero_3, f2.ok]
  refine W_loop s.offs.length (fun m' f h' => ∃ k, k ≤ s.offs.length ∧ m' = s.offs.length - k ∧ f 3 = .pointer (some ⟨h.next, 0, none⟩) ∧ f 7 = .slice (some ⟨bo, 0, some 1⟩) s.offs.length s.offs.length ∧ f 8 = .int .i64 k ∧
      h'.get bo = some (.row (((owesL X s.offs).take k ++ X.drop k).flatMap ints) 1 true) ∧ Fr h h' ∧ rowAt h' h.next = some [.slice p1 s.offs.length c1, .slice p2 s.boards.length c2, .slice p3 s.tars.length c3])
    ⟨0, by omega, by omega, by simp [upd_at], by simp [upd_at], by simp [upd_at], by simpa using og, f2, r2⟩ ?_
  clear f2 r2 og fr2 f1 r1 t1
  rintro m' f h' ⟨k, hk', rfl, g3, g7, g8, go, fr, r'⟩ ih
  have k' := fr.ok
  by_cases hkl : k < s.offs.length
  · obtain ⟨x, gx⟩ : ∃ x, X[k]? = some x := ⟨_, List.getElem?_eq_getElem (by omega)⟩
    obtain ⟨o, gof⟩ : ∃ x, s.offs[k]? = some x := ⟨_, List.getElem?_eq_getElem hkl⟩
    obtain ⟨b1, o1, sp1, row1, rfl, rr1, e1⟩ := hs'.offs.cell gof
    have rr1' := fr.row' hk rr1
    have hx := sb x (List.mem_of_getElem? gx)
    have hob := of_decide_eq_true ((Sheet.ok_iff.1 ok).2.1 o (List.mem_of_getElem? gof))
    have gm : ((owesL X s.offs).take k ++ X.drop k)[k]? = some x := by rw [mid_get' (by omega)]; exact gx
    have gow := owesL_get gx gof
    have m0 : 0 ≤ x * o := Int.mul_nonneg hx.1 hob.1
    have m1 : x * o ≤ 1000000010 * 100 := Int.mul_le_mul hx.2 hob.2 hob.1 (by omega)
    have dd := div_b (a := x * o) (b := 100) m0 (by omega)
    have w1 : IntKind.i64.wrap (x * o) = x * o := wrap64 (by omega) (by omega)
    have w2 : IntKind.i64.wrap (x * o / 100) = x * o / 100 := wrap64 (by omega) (by omega)
    have w3 : IntKind.i64.wrap (x - x * o / 100) = x - x * o / 100 := wrap64 (by omega) (by omega)
    have h100 : (100 : Int) ≠ 0 := by decide
    have put := ints_put (y := x - x * o / 100) gm
    rw [mid_set (by omega) gow] at put
    have ro : rowAt h' bo = some (((owesL X s.offs).take k ++ X.drop k).flatMap ints) := by unfold rowAt; rw [go]; rfl
    have ya := ints_at gm
    have lo := get_lt k' go
    simp (maxDischargeDepth := 30) only [AMS, AMH, ↓reduceIte, Nat.reduceLT, Nat.reduceEqDiff, Nat.reduceAdd, Nat.reduceMul, reduceCtorEq, decide_true, decide_false, Nat.reduceLeDiff, Int.reduceNe, Int.reduceEq, ne_eq, not_false_eq_true, and_self, fp_26_0, ix_22, ld_22, ld_26, ld_3, ld_41, len_22, part_3, size_22, size_3, und_22, und_3, zero_22, zero_3, k', g3, g7, g8, lt_t hkl]
    refine W_draw [(true, 0), (true, 1), (true, 2), (true, 3), (true, 4), (true, 5), (true, 6), (true, 7), (true, 8), (true, 9), (true, 10), (true, 11), (true, 12), (true, 13), (true, 14), (true, 15), (true, 16), (true, 17), (true, 18), (true, 19)] (by kernel_rfl) ?_
    simp (maxDischargeDepth := 30) only [AMS, AMH, ↓reduceIte, Nat.reduceLT, Nat.reduceEqDiff, Nat.reduceAdd, Nat.reduceMul, reduceCtorEq, decide_true, decide_false, Nat.reduceLeDiff, Int.reduceNe, Int.reduceEq, ne_eq, not_false_eq_true, and_self, AMR, fp_26_0, ix_22, ld_22, ld_26, ld_3, ld_41, len_22, part_3, size_22, size_3, und_22, und_3, zero_22, zero_3, k', g3, g7, g8, r', hkl, Nat.mul_one, ro, ya, rr1', e1, w1, I_quo _ _ _ _ (x * o) 100 h100, tdiv_nn m0 (show (1 : Int) ≤ 100 by decide), w2, w3, go, put, i_next hkl (by omega : s.offs.length ≤ 1000)]
    refine ih (s.offs.length - (k + 1)) _ _ (by omega) ?_
    have nbo : h.next < bo := by omega
    exact ⟨k + 1, by omega, rfl, by simp [upd_at, g3], by simp [upd_at, g7], by simp [upd_at], Heap.get_set_self _ _ _, fr.set (by omega) lo _, by rw [rowAt_set_lt _ nbo]; exact r'⟩
  · have : k = s.offs.length := by omega
    subst this
    rw [List.take_of_length_le (by omega), List.drop_of_length_le (by omega), List.append_nil] at go
    simp (maxDischargeDepth := 30) only [AMS, AMH, ↓reduceIte, Nat.reduceLT, Nat.reduceEqDiff, Nat.reduceAdd, Nat.reduceMul, reduceCtorEq, decide_true, decide_false, Nat.reduceLeDiff, Int.reduceNe, Int.reduceEq, ne_eq, not_false_eq_true, and_self, fp_26_0, ix_22, ld_22, ld_26, ld_3, ld_41, len_22, part_3, size_22, size_3, und_22, und_3, zero_22, zero_3, k', g7, g8, lt_f]
    have ro : rowAt h' bo = some ((owesL X s.offs).flatMap ints) := by unfold rowAt; rw [go]; rfl
    have := LS.of_row (sp := some 1) (c := s.offs.length) ints_len ro
    rw [ol, slen] at this
    exact ⟨this, fr⟩
end Go.Am
