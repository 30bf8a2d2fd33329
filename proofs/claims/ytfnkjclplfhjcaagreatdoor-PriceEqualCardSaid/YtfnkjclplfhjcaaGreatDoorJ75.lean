/- Parts 75, 76, 77, 78 of the abstract machine over this program, joined: what each part says stands at its head. -/
import Derived.Test.YtfnkjclplfhjcaaGreatDoorJ71
set_option linter.unusedSimpArgs false
set_option linter.unusedVariables false
/- The abstract machine, part 75: contracts of the specification: Quantities, Total. -/
namespace Go.Am
open Go Go.Proofs

/-- what of a board counts for an owner; of all boards, if the owner's number is below 0 -/
def qOwn (t : Tar) (ow : Int) (b : Board) (x : Int) : Int := if decide (ow < 0) || (b.ow == ow) then qty t.kind b x else 0
def qtysO (t : Tar) (ow : Int) (bs : List Board) (hs : List Int) : List Int := (bs.zip hs).map fun p => qOwn t ow p.1 p.2
theorem qtysO_get {t : Tar} {ow : Int} {bs : List Board} {hs : List Int} {i : Nat} {b : Board} {x : Int} (h1 : bs[i]? = some b) (h2 : hs[i]? = some x) : (qtysO t ow bs hs)[i]? = some (qOwn t ow b x) := by
  have : (bs.zip hs)[i]? = some (b, x) := List.getElem?_zip_eq_some.2 ⟨h1, h2⟩
  unfold qtysO; rw [List.getElem?_map, this]; rfl
theorem qtysO_len {t : Tar} {ow : Int} {bs : List Board} {hs : List Int} (h : hs.length = bs.length) : (qtysO t ow bs hs).length = bs.length := by simp [qtysO, h]
theorem qtysO_all (t : Tar) (bs : List Board) (hs : List Int) : qtysO t (-1) bs hs = qtys t bs hs := by
  unfold qtysO qtys
  apply List.map_congr_left
  intro p _
  simp [qOwn]
theorem qtysO_b {t : Tar} {ow B : Int} {bs : List Board} {hs : List Int} (hB : 0 ≤ B) (hq : ∀ x ∈ qtys t bs hs, 0 ≤ x ∧ x ≤ B) : ∀ x ∈ qtysO t ow bs hs, 0 ≤ x ∧ x ≤ B := by
  intro x hx
  unfold qtysO at hx
  rw [List.mem_map] at hx
  obtain ⟨p, hp, rfl⟩ := hx
  have := hq (qty t.kind p.1 p.2) (by unfold qtys; exact List.mem_map.2 ⟨p, hp, rfl⟩)
  unfold qOwn
  split
  · exact this
  · omega

set_option maxRecDepth 10000 in
set_option maxHeartbeats 1000000 in
theorem quantities_92 {h : Heap} (hk : HOK h) (ow : Int) {a b c v : Value} {s : Sheet} {l : List Int} {t : Tar} (hs : IsSheet h a b c s) (hv : LS h v l ints 1) (hll : l.length = s.boards.length) (hn : s.boards.length ≤ 1000) (hq : ∀ x ∈ qtys t s.boards l, 0 ≤ x ∧ x ≤ 1000) :
    CW CC 92 [.agg ⟨[a, b, c]⟩, .agg ⟨t.cells⟩, v, .int .i64 ow] h fun r h' => r = .int .i64 (sumI (qtysO t ow s.boards l)) ∧ Fr h h' := by
  have hqo := qtysO_b (ow := ow) (by omega) hq
  obtain ⟨p1, c1, rfl, _⟩ := hs.offs.open
  obtain ⟨p2, c2, rfl, x2⟩ := hs.boards.open
  obtain ⟨p3, c3, rfl, _⟩ := hs.tars.open
  obtain ⟨p4, c4, rfl, x4⟩ := hv.open
  refine CW_in Tryz.f92 (by kernel_rfl) (by kernel_rfl) rfl rfl ?_
  simp only [Tryz.f92]
  have kk : t.cells[0]? = some (.int .i64 t.kind) := rfl
  simp (maxDischargeDepth := 30) only [AMS, AMH, ↓reduceIte, Nat.reduceLT, Nat.reduceEqDiff, Nat.reduceAdd, Nat.reduceMul, reduceCtorEq, decide_true, decide_false, Nat.reduceLeDiff, Int.reduceNe, Int.reduceEq, ne_eq, not_false_eq_true, and_self, fp_26_1, fp_41_0, fp_72_3, ix_22, ix_23, ld_23, ld_3, ld_38, ld_72, len_23, part_3, part_72, size_22, size_23, size_3, size_72, und_22, und_23, zero_22, zero_23, hk]
  have f1 : Fr h ((h.alloc (.row [.slice p1 s.offs.length c1, .slice p2 s.boards.length c2, .slice p3 s.tars.length c3] 0 true)).alloc (.row t.cells 0 true)) := ((Fr.refl hk).alloc _).alloc _
  have r1 : rowAt ((h.alloc (.row [.slice p1 s.offs.length c1, .slice p2 s.boards.length c2, .slice p3 s.tars.length c3] 0 true)).alloc (.row t.cells 0 true)) h.next = some [.slice p1 s.offs.length c1, .slice p2 s.boards.length c2, .slice p3 s.tars.length c3] := by
    rw [rowAt_old _ (by simp), rowAt_new]
  have r1t : rowAt ((h.alloc (.row [.slice p1 s.offs.length c1, .slice p2 s.boards.length c2, .slice p3 s.tars.length c3] 0 true)).alloc (.row t.cells 0 true)) (h.next + 1) = some t.cells := rowAt_new _ _ _ _
  have m1 : h.next + 1 < ((h.alloc (.row [.slice p1 s.offs.length c1, .slice p2 s.boards.length c2, .slice p3 s.tars.length c3] 0 true)).alloc (.row t.cells 0 true)).next := by simp
  refine W_loop s.boards.length (fun m' f h' => ∃ i, i ≤ s.boards.length ∧ m' = s.boards.length - i ∧ f 2 = .slice p4 l.length c4 ∧ f 3 = .int .i64 ow ∧ f 4 = .pointer (some ⟨h.next, 0, none⟩) ∧ f 5 = .pointer (some ⟨h.next + 1, 0, none⟩) ∧ f 10 = .int .i64 i ∧
      f 9 = .int .i64 (sumI ((qtysO t ow s.boards l).take i)) ∧ Fr h h' ∧ h.next + 1 < h'.next ∧ rowAt h' h.next = some [.slice p1 s.offs.length c1, .slice p2 s.boards.length c2, .slice p3 s.tars.length c3] ∧ rowAt h' (h.next + 1) = some t.cells)
    ⟨0, by omega, by omega, by simp [upd_at, argsFn_at], by simp [upd_at, argsFn_at], by simp [upd_at], by simp [upd_at], by simp [upd_at], by simp [upd_at, sumI], f1, m1, r1, r1t⟩ ?_
  clear f1 r1 m1 r1t
  rintro m' f h' ⟨i, hi, rfl, g2, g3, g4, g5, g10, g9, fr, m2, r2, r2t⟩ ih
  have k' := fr.ok
  by_cases hil : i < s.boards.length
  · obtain ⟨x, gx⟩ : ∃ x, s.boards[i]? = some x := ⟨_, List.getElem?_eq_getElem hil⟩
    have hil' : i < l.length := by omega
    obtain ⟨y, gy⟩ : ∃ y, l[i]? = some y := ⟨_, List.getElem?_eq_getElem hil'⟩
    rcases x2 with hx | ⟨b2, o2, sp2, row2, rfl, rr2, x2⟩
    · rw [hx] at hil; simp at hil
    rcases x4 with hx | ⟨b4, o4, sp4, row4, rfl, rr4, x4⟩
    · rw [hx] at hil'; simp at hil'
    have e1 : take? row2 (o2 + i * 5) 5 = some x.cells := (x2 _ _ gx).1
    have eo : row2[o2 + i * 5 + 4]? = some (.int .i64 x.ow) := by simpa [Board.cells] using (x2 _ _ gx).2 4 (by omega)
    have e2 : row4[o4 + i]? = some (.int .i64 y) := by simpa [ints] using (x4 _ _ gy).2 0 (by omega)
    have rr2' := fr.row' hk rr2
    have rr4' := fr.row' hk rr4
    have kx : take? x.cells 0 5 = some x.cells := rfl
    have hb1 := sumI_bound (B := 1000) (l := (qtysO t ow s.boards l).take i) fun y hy => hqo y (List.mem_of_mem_take hy)
    have hb2 : ((qtysO t ow s.boards l).take i).length ≤ i := by simp; omega
    have hgo := qtysO_get (t := t) (ow := ow) gx gy
    have hbx := hqo _ (List.mem_of_getElem? hgo)
    have snoc : sumI ((qtysO t ow s.boards l).take (i + 1)) = sumI ((qtysO t ow s.boards l).take i) + qOwn t ow x y := by rw [take_snoc hgo, sumI_app]
    obtain ⟨_, h3, e3, rfl, fr3⟩ := quantity_79 (k := t.kind) x y k'
    have f3 := fr.trans fr3
    have r3 := fr3.row' k' r2
    have r3t := fr3.row' k' r2t
    have rr23 := fr3.row' k' rr2'
    have rr43 := fr3.row' k' rr4'
    have n3 := fr3.next
    have kc : t.cells.all selfC = true := rfl
    have kcx : x.cells.all selfC = true := rfl
    -- does this board count
    cases hcn : (decide (ow < 0) || (x.ow == ow)) with
    | true =>
      have hqe : qOwn t ow x y = qty t.kind x y := by unfold qOwn; rw [if_pos hcn]
      rw [hqe] at snoc hbx
      have w := wrap64 (n := sumI ((qtysO t ow s.boards l).take i) + qty t.kind x y) (by omega) (by omega)
      cases hlow : decide (ow < 0) with
      | true =>
        simp (maxDischargeDepth := 30) only [AMS, AMH, ↓reduceIte, Nat.reduceLT, Nat.reduceEqDiff, Nat.reduceAdd, Nat.reduceMul, reduceCtorEq, decide_true, decide_false, Nat.reduceLeDiff, Int.reduceNe, Int.reduceEq, ne_eq, not_false_eq_true, and_self, fp_26_1, fp_41_0, fp_72_3, ix_22, ix_23, ld_23, ld_3, ld_38, ld_72, len_23, part_3, part_72, size_22, size_23, size_3, size_72, und_22, und_23, zero_22, zero_23, k', g2, g3, g4, g5, g10, g9, r2, m2, lt_t hil, hil, hlow]
        refine W_draw [(true, 0), (true, 1), (true, 2), (true, 3), (true, 4), (true, 5), (true, 6), (true, 7), (true, 8), (true, 9), (true, 10), (true, 11), (true, 12), (true, 13), (true, 14)] (by kernel_rfl) ?_
        simp (maxDischargeDepth := 30) only [AMS, AMH, ↓reduceIte, Nat.reduceLT, Nat.reduceEqDiff, Nat.reduceAdd, Nat.reduceMul, reduceCtorEq, decide_true, decide_false, Nat.reduceLeDiff, Int.reduceNe, Int.reduceEq, ne_eq, not_false_eq_true, and_self, AMR, fp_26_1, fp_41_0, fp_72_3, ix_22, ix_23, ld_23, ld_3, ld_38, ld_72, len_23, part_3, part_72, size_22, size_23, size_3, size_72, und_22, und_23, zero_22, zero_23, k', g2, g3, g4, g5, g10, g9, r2, r2t, m2, hil, hil', rr2', rr4', Nat.mul_one, e1, e2, kk, kx, e3, r3, r3t, rr23, rr43, kc, kcx, fr3.ok, w, i_next hil hn]
        refine ih (s.boards.length - (i + 1)) _ _ (by omega) ?_
        exact ⟨i + 1, by omega, rfl, by simp [upd_at, g2], by simp [upd_at, g3], by simp [upd_at, g4], by simp [upd_at, g5], by simp [upd_at], by simp [upd_at, snoc], f3, by omega, r3, r3t⟩
      | false =>
        rw [hlow, Bool.false_or] at hcn
        simp (maxDischargeDepth := 30) only [AMS, AMH, ↓reduceIte, Nat.reduceLT, Nat.reduceEqDiff, Nat.reduceAdd, Nat.reduceMul, reduceCtorEq, decide_true, decide_false, Nat.reduceLeDiff, Int.reduceNe, Int.reduceEq, ne_eq, not_false_eq_true, and_self, fp_26_1, fp_41_0, fp_72_3, ix_22, ix_23, ld_23, ld_3, ld_38, ld_72, len_23, part_3, part_72, size_22, size_23, size_3, size_72, und_22, und_23, zero_22, zero_23, k', g2, g3, g4, g5, g10, g9, r2, m2, lt_t hil, hil, hlow, rr2', eo, hcn]
        refine W_draw [(true, 0), (true, 1), (true, 2), (true, 3), (true, 4), (true, 5), (true, 6), (true, 7), (true, 8), (true, 9), (true, 10), (true, 11), (true, 12), (true, 13), (true, 14)] (by kernel_rfl) ?_
        simp (maxDischargeDepth := 30) only [AMS, AMH, ↓reduceIte, Nat.reduceLT, Nat.reduceEqDiff, Nat.reduceAdd, Nat.reduceMul, reduceCtorEq, decide_true, decide_false, Nat.reduceLeDiff, Int.reduceNe, Int.reduceEq, ne_eq, not_false_eq_true, and_self, AMR, fp_26_1, fp_41_0, fp_72_3, ix_22, ix_23, ld_23, ld_3, ld_38, ld_72, len_23, part_3, part_72, size_22, size_23, size_3, size_72, und_22, und_23, zero_22, zero_23, k', g2, g3, g4, g5, g10, g9, r2, r2t, m2, hil, hil', rr2', rr4', Nat.mul_one, e1, e2, kk, kx, e3, r3, r3t, rr23, rr43, kc, kcx, fr3.ok, w, i_next hil hn]
        refine ih (s.boards.length - (i + 1)) _ _ (by omega) ?_
        exact ⟨i + 1, by omega, rfl, by simp [upd_at, g2], by simp [upd_at, g3], by simp [upd_at, g4], by simp [upd_at, g5], by simp [upd_at], by simp [upd_at, snoc], f3, by omega, r3, r3t⟩
    | false =>
      have hqe : qOwn t ow x y = 0 := by unfold qOwn; rw [if_neg (by rw [hcn]; simp)]
      rw [hqe] at snoc
      rw [Bool.or_eq_false_iff] at hcn
      simp (maxDischargeDepth := 30) only [AMS, AMH, ↓reduceIte, Nat.reduceLT, Nat.reduceEqDiff, Nat.reduceAdd, Nat.reduceMul, reduceCtorEq, decide_true, decide_false, Nat.reduceLeDiff, Int.reduceNe, Int.reduceEq, ne_eq, not_false_eq_true, and_self, fp_26_1, fp_41_0, fp_72_3, ix_22, ix_23, ld_23, ld_3, ld_38, ld_72, len_23, part_3, part_72, size_22, size_23, size_3, size_72, und_22, und_23, zero_22, zero_23, k', g2, g3, g4, g5, g10, g9, r2, m2, lt_t hil, hil, hcn.1, hcn.2, rr2', eo, i_next hil hn]
      refine ih (s.boards.length - (i + 1)) _ _ (by omega) ?_
      exact ⟨i + 1, by omega, rfl, by simp [upd_at, g2], by simp [upd_at, g3], by simp [upd_at, g4], by simp [upd_at, g5], by simp [upd_at], by simp [upd_at, snoc, g9], fr, m2, r2, r2t⟩
  · have : i = s.boards.length := by omega
    subst this
    simp (maxDischargeDepth := 30) only [AMS, AMH, ↓reduceIte, Nat.reduceLT, Nat.reduceEqDiff, Nat.reduceAdd, Nat.reduceMul, reduceCtorEq, decide_true, decide_false, Nat.reduceLeDiff, Int.reduceNe, Int.reduceEq, ne_eq, not_false_eq_true, and_self, fp_26_1, fp_41_0, fp_72_3, ix_22, ix_23, ld_23, ld_3, ld_38, ld_72, len_23, part_3, part_72, size_22, size_23, size_3, size_72, und_22, und_23, zero_22, zero_23, k', g2, g3, g4, g5, g10, g9, r2, lt_f]
    rw [List.take_of_length_le (by rw [qtysO_len hll]; exact Nat.le_refl _)]
    exact ⟨rfl, fr⟩
end Go.Am

/- The abstract machine, part 76: contracts of the specification: Total, Same, Rules. -/
namespace Go.Am
open Go Go.Proofs

theorem parts_b {t : Tar} (ht : t.ok = true) {bs : List Board} {hs : List Int} (hq : ∀ x ∈ qtys t bs hs, 0 ≤ x ∧ x ≤ 1000) : ∀ x ∈ parts t bs hs, 0 ≤ x ∧ x ≤ 1000000012 := by
  intro x hx
  unfold parts at hx
  rw [List.mem_map] at hx
  obtain ⟨q, hq', rfl⟩ := hx
  have := hq q hq'
  exact price1_b ht this.1 (by omega)

set_option maxRecDepth 10000 in
set_option maxHeartbeats 1000000 in
theorem total_62 {h : Heap} (hk : HOK h) (hp : 0 < h.next) {a b c v : Value} {s : Sheet} {l : List Int} {t : Tar} (hs : IsSheet h a b c s) (hv : LS h v l ints 1) (ht : t.ok = true) (hll : l.length = s.boards.length) (hn : s.boards.length ≤ 1000) (hq : ∀ x ∈ qtys t s.boards l, 0 ≤ x ∧ x ≤ 1000) :
    CW CC 62 [.agg ⟨[a, b, c]⟩, .agg ⟨t.cells⟩, v] h fun r h' => r = .int .i64 (paid t s.boards l) ∧ Fr h h' := by
  have hv' := hv
  obtain ⟨p1, c1, rfl, _⟩ := hs.offs.open
  obtain ⟨p2, c2, rfl, _⟩ := hs.boards.open
  obtain ⟨p3, c3, rfl, _⟩ := hs.tars.open
  obtain ⟨p4, c4, rfl, _⟩ := hv.open
  refine CW_in Tryz.f62 (by kernel_rfl) (by kernel_rfl) rfl rfl ?_
  simp only [Tryz.f62]
  have kt : take? t.cells 0 5 = some t.cells := rfl
  have ke : t.cells[4]? = some (.bool t.each) := rfl
  have f1 : Fr h ((h.alloc (.row [.slice p1 s.offs.length c1, .slice p2 s.boards.length c2, .slice p3 s.tars.length c3] 0 true)).alloc (.row t.cells 0 true)) := ((Fr.refl hk).alloc _).alloc _
  have r1 : rowAt ((h.alloc (.row [.slice p1 s.offs.length c1, .slice p2 s.boards.length c2, .slice p3 s.tars.length c3] 0 true)).alloc (.row t.cells 0 true)) h.next = some [.slice p1 s.offs.length c1, .slice p2 s.boards.length c2, .slice p3 s.tars.length c3] := by
    rw [rowAt_old _ (by simp), rowAt_new]
  have r1t : rowAt ((h.alloc (.row [.slice p1 s.offs.length c1, .slice p2 s.boards.length c2, .slice p3 s.tars.length c3] 0 true)).alloc (.row t.cells 0 true)) (h.next + 1) = some t.cells := rowAt_new _ _ _ _
  have m1 : h.next + 1 < ((h.alloc (.row [.slice p1 s.offs.length c1, .slice p2 s.boards.length c2, .slice p3 s.tars.length c3] 0 true)).alloc (.row t.cells 0 true)).next := by simp
  generalize hg : ((h.alloc (.row [.slice p1 s.offs.length c1, .slice p2 s.boards.length c2, .slice p3 s.tars.length c3] 0 true)).alloc (.row t.cells 0 true)) = h1 at f1 r1 r1t m1
  have kc : t.cells.all selfC = true := rfl
  have hsum := sumI_bound hq
  unfold paid
  cases he : t.each with
  | true =>
    rw [he] at ke
    simp (maxDischargeDepth := 30) only [AMS, AMH, ↓reduceIte, Nat.reduceLT, Nat.reduceEqDiff, Nat.reduceAdd, Nat.reduceMul, reduceCtorEq, decide_true, decide_false, Nat.reduceLeDiff, Int.reduceNe, Int.reduceEq, ne_eq, not_false_eq_true, and_self, fp_41_4, ld_26, ld_4, ld_41, hk, hg, r1t, ke, r1, kt]
    refine W_call (parts_36 (t := t) f1.ok (by omega) (hs.fr hk f1) (hv.fr hk f1) ht hll hn hq) ?_
    rintro r h2 ⟨q, fr2⟩
    have q' : LS h2 r (parts t s.boards l) ints 1 := SL.ls ints_len (by rw [parts_len hll]; exact q)
    have pb := parts_b ht hq
    simp (maxDischargeDepth := 30) only [AMS, AMH, ↓reduceIte, Nat.reduceLT, Nat.reduceEqDiff, Nat.reduceAdd, Nat.reduceMul, reduceCtorEq, decide_true, decide_false, Nat.reduceLeDiff, Int.reduceNe, Int.reduceEq, ne_eq, not_false_eq_true, and_self, fp_41_4, ld_26, ld_4, ld_41]
    refine W_call (sum_57 r (parts t s.boards l) h2 q' (by rw [parts_len hll]; omega) fun x hx => by have := pb x hx; omega) ?_
    rintro _ h3 ⟨rfl, rfl⟩
    simp (maxDischargeDepth := 30) only [AMS, AMH, ↓reduceIte, Nat.reduceLT, Nat.reduceEqDiff, Nat.reduceAdd, Nat.reduceMul, reduceCtorEq, decide_true, decide_false, Nat.reduceLeDiff, Int.reduceNe, Int.reduceEq, ne_eq, not_false_eq_true, and_self, fp_41_4, ld_26, ld_4, ld_41]
    exact ⟨by simp, f1.trans fr2⟩
  | false =>
    rw [he] at ke
    have hlen := qtys_len (t := t) hll
    simp (maxDischargeDepth := 30) only [AMS, AMH, ↓reduceIte, Nat.reduceLT, Nat.reduceEqDiff, Nat.reduceAdd, Nat.reduceMul, reduceCtorEq, decide_true, decide_false, Nat.reduceLeDiff, Int.reduceNe, Int.reduceEq, ne_eq, not_false_eq_true, and_self, fp_41_4, ld_26, ld_4, ld_41, hk, hg, r1t, ke]
    refine W_draw [(true, 0), (true, 1), (true, 2), (true, 4), (true, 3), (false, 4), (true, 5), (true, 6)] (by kernel_rfl) ?_
    obtain ⟨_, h2, e2, rfl, fr2⟩ := quantities_92 (t := t) f1.ok (-1) (hs.fr hk f1) (hv.fr hk f1) hll hn hq
    rw [qtysO_all] at e2
    have r2 := fr2.row' f1.ok r1
    have r2t := fr2.row' f1.ok r1t
    obtain ⟨_, h3, e3, rfl, fr3⟩ := rounded_78 ht (q := sumI (qtys t s.boards l)) (by omega) (by rw [hlen] at hsum; omega) fr2.ok
    have r3 := fr3.row' fr2.ok r2
    have r3t := fr3.row' fr2.ok r2t
    simp (maxDischargeDepth := 30) only [AMS, AMH, ↓reduceIte, Nat.reduceLT, Nat.reduceEqDiff, Nat.reduceAdd, Nat.reduceMul, reduceCtorEq, decide_true, decide_false, Nat.reduceLeDiff, Int.reduceNe, Int.reduceEq, ne_eq, not_false_eq_true, and_self, AMR, fp_41_4, ld_26, ld_4, ld_41, f1.ok, fr2.ok, fr3.ok, r1, r1t, r2, r2t, r3, r3t, kt, kc, e2, e3]
    exact ⟨by simp, (f1.trans fr2).trans fr3⟩

def sameB (l m : List Int) : Bool := decide (l = m)

set_option maxRecDepth 10000 in
theorem same_35 (v w : Value) (l m : List Int) (h : Heap) (hk : HOK h) (hv : LS h v l ints 1) (hw : LS h w m ints 1) (hl : l.length ≤ 1000) (hm : m.length ≤ 1000) : CW CC 35 [v, w] h fun r h' => r = .bool (decide (l = m)) ∧ h' = h := by
  obtain ⟨p, c, rfl, hx⟩ := hv.open
  obtain ⟨p', c', rfl, hy⟩ := hw.open
  refine CW_in Tryz.f35 (by kernel_rfl) (by kernel_rfl) rfl rfl ?_
  simp only [Tryz.f35]
  by_cases hne : (l.length : Int) = m.length
  · have hne' : l.length = m.length := by omega
    simp (maxDischargeDepth := 30) only [AMS, AMH, ↓reduceIte, Nat.reduceLT, Nat.reduceEqDiff, Nat.reduceAdd, Nat.reduceMul, reduceCtorEq, decide_true, decide_false, Nat.reduceLeDiff, Int.reduceNe, Int.reduceEq, ne_eq, not_false_eq_true, and_self, ix_22, ld_3, len_22, part_3, size_22, size_3, und_22, zero_22, hne, bne_self_eq_false]
    refine W_loop l.length (fun n f h' => ∃ i, i ≤ l.length ∧ n = l.length - i ∧ f 0 = .slice p l.length c ∧ f 1 = .slice p' m.length c' ∧ f 5 = .int .i64 i ∧ l.take i = m.take i ∧ h' = h) ⟨0, by omega, by omega, by simp [upd_at, argsFn_at, hne], by simp [upd_at, argsFn_at], by simp [upd_at], by simp, rfl⟩ ?_
    rintro n f h' ⟨i, hi, rfl, g0, g1, g5, ht, rfl⟩ ih
    by_cases hil : i < l.length
    · have him : i < m.length := by omega
      obtain ⟨x, gx⟩ : ∃ x, l[i]? = some x := ⟨_, List.getElem?_eq_getElem hil⟩
      obtain ⟨y, gy⟩ : ∃ y, m[i]? = some y := ⟨_, List.getElem?_eq_getElem him⟩
      rcases hx with hx | ⟨b2, o2, sp2, row2, rfl, rr2, x2⟩
      · rw [hx] at hil; simp at hil
      rcases hy with hy | ⟨b4, o4, sp4, row4, rfl, rr4, x4⟩
      · rw [hy] at him; simp at him
      have e1 : row2[o2 + i]? = some (.int .i64 x) := by simpa [ints] using (x2 _ _ gx).2 0 (by omega)
      have e2 : row4[o4 + i]? = some (.int .i64 y) := by simpa [ints] using (x4 _ _ gy).2 0 (by omega)
      have n2 := row_lt hk rr2
      have n4 := row_lt hk rr4
      simp (maxDischargeDepth := 30) only [AMS, AMH, ↓reduceIte, Nat.reduceLT, Nat.reduceEqDiff, Nat.reduceAdd, Nat.reduceMul, reduceCtorEq, decide_true, decide_false, Nat.reduceLeDiff, Int.reduceNe, Int.reduceEq, ne_eq, not_false_eq_true, and_self, ix_22, ld_3, len_22, part_3, size_22, size_3, und_22, zero_22, g0, g1, g5, lt_t hil, hil, him]
      refine W_draw [(true, 0), (true, 1), (true, 2), (true, 3), (true, 4), (true, 5), (true, 6), (true, 7), (true, 8)] (by kernel_rfl) ?_
      cases hxy : (x != y) with
      | true =>
        simp (maxDischargeDepth := 30) only [AMS, AMH, ↓reduceIte, Nat.reduceLT, Nat.reduceEqDiff, Nat.reduceAdd, Nat.reduceMul, reduceCtorEq, decide_true, decide_false, Nat.reduceLeDiff, Int.reduceNe, Int.reduceEq, ne_eq, not_false_eq_true, and_self, AMR, ix_22, ld_3, len_22, part_3, size_22, size_3, und_22, zero_22, hk, g0, g1, g5, hil, him, n2, n4, rr2, rr4, Nat.mul_one, e1, e2, hxy]
        refine ⟨?_, trivial⟩
        have : l ≠ m := fun e => by
          rw [e, gy] at gx
          simp at gx hxy
          exact hxy gx.symm
        simp [this]
      | false =>
        simp (maxDischargeDepth := 30) only [AMS, AMH, ↓reduceIte, Nat.reduceLT, Nat.reduceEqDiff, Nat.reduceAdd, Nat.reduceMul, reduceCtorEq, decide_true, decide_false, Nat.reduceLeDiff, Int.reduceNe, Int.reduceEq, ne_eq, not_false_eq_true, and_self, AMR, ix_22, ld_3, len_22, part_3, size_22, size_3, und_22, zero_22, hk, g0, g1, g5, hil, him, n2, n4, rr2, rr4, Nat.mul_one, e1, e2, hxy, i_next hil hl]
        refine ih (l.length - (i + 1)) _ _ (by omega) ?_
        have hxy' : x = y := by simpa using hxy
        exact ⟨i + 1, by omega, rfl, by simp [upd_at, g0], by simp [upd_at, g1], by simp [upd_at], by rw [take_snoc gx, take_snoc gy, ht, hxy'], rfl⟩
    · have : i = l.length := by omega
      subst this
      simp (maxDischargeDepth := 30) only [AMS, AMH, ↓reduceIte, Nat.reduceLT, Nat.reduceEqDiff, Nat.reduceAdd, Nat.reduceMul, reduceCtorEq, decide_true, decide_false, Nat.reduceLeDiff, Int.reduceNe, Int.reduceEq, ne_eq, not_false_eq_true, and_self, ix_22, ld_3, len_22, part_3, size_22, size_3, und_22, zero_22, g0, g1, g5, lt_f]
      rw [List.take_of_length_le (Nat.le_refl _), List.take_of_length_le (by omega)] at ht
      exact ⟨by simp [ht], trivial⟩
  · have hb : ((l.length : Int) != m.length) = true := by simpa using hne
    simp (maxDischargeDepth := 30) only [AMS, AMH, ↓reduceIte, Nat.reduceLT, Nat.reduceEqDiff, Nat.reduceAdd, Nat.reduceMul, reduceCtorEq, decide_true, decide_false, Nat.reduceLeDiff, Int.reduceNe, Int.reduceEq, ne_eq, not_false_eq_true, and_self, ix_22, ld_3, len_22, part_3, size_22, size_3, und_22, zero_22, hb]
    refine ⟨?_, trivial⟩
    have : l ≠ m := fun e => hne (by rw [e])
    simp [this]
end Go.Am

/- The abstract machine, part 77: contracts: Rules, by the specification and by the program. -/
namespace Go.Am
open Go Go.Proofs

def Tar.by (t : Tar) (r : Int) : Tar := { t with rule := r }
theorem Tar.by_ok {t : Tar} (ht : t.ok = true) {r : Int} (h1 : 1 ≤ r) (h4 : r ≤ 4) : (t.by r).ok = true := by
  have := Tar.ok_at ht
  unfold Tar.ok Tar.by
  simp only [decide_eq_true_eq]
  omega
theorem qtys_by (t : Tar) (r : Int) (bs : List Board) (hs : List Int) : qtys (t.by r) bs hs = qtys t bs hs := rfl
/-- what would be paid by the first rules -/
def rulesL (t : Tar) (bs : List Board) (hs : List Int) (n : Nat) : List Int := (List.range n).map fun (i : Nat) => paid (t.by ((i : Int) + 1)) bs hs
theorem rulesL_succ (t : Tar) (bs : List Board) (hs : List Int) (n : Nat) : rulesL t bs hs (n + 1) = rulesL t bs hs n ++ [paid (t.by ((n : Int) + 1)) bs hs] := by
  unfold rulesL; rw [List.range_succ, List.map_append]; rfl

set_option maxRecDepth 10000 in
set_option maxHeartbeats 1000000 in
theorem rules_37 {h : Heap} (hk : HOK h) (hp : 0 < h.next) {a b c v : Value} {s : Sheet} {l : List Int} {t : Tar} (hs : IsSheet h a b c s) (hv : LS h v l ints 1) (ht : t.ok = true) (hll : l.length = s.boards.length) (hn : s.boards.length ≤ 1000) (hq : ∀ x ∈ qtys t s.boards l, 0 ≤ x ∧ x ≤ 1000) :
    CW CC 37 [.agg ⟨[a, b, c]⟩, .agg ⟨t.cells⟩, v] h fun r h' => SL h.next h' r ((rulesL t s.boards l 4).flatMap ints) 1 4 ∧ Fr h h' := by
  have hs' := hs
  have hv' := hv
  obtain ⟨p1, c1, rfl, _⟩ := hs.offs.open
  obtain ⟨p2, c2, rfl, _⟩ := hs.boards.open
  obtain ⟨p3, c3, rfl, _⟩ := hs.tars.open
  obtain ⟨p4, c4, rfl, _⟩ := hv.open
  refine CW_in Tryz.f37 (by kernel_rfl) (by kernel_rfl) rfl rfl ?_
  simp only [Tryz.f37]
  simp (maxDischargeDepth := 30) only [AMS, AMH, ↓reduceIte, Nat.reduceLT, Nat.reduceEqDiff, Nat.reduceAdd, Nat.reduceMul, reduceCtorEq, decide_true, decide_false, Nat.reduceLeDiff, Int.reduceNe, Int.reduceEq, ne_eq, not_false_eq_true, and_self, bs_22, fp_41_3, ix_22, ld_26, ld_41, part_3, size_22, size_3, size_39, und_22, und_39, zero_22, zero_39, hk]
  have f1 : Fr h ((h.alloc (.row [.slice p1 s.offs.length c1, .slice p2 s.boards.length c2, .slice p3 s.tars.length c3] 0 true)).alloc (.row t.cells 0 true)) := ((Fr.refl hk).alloc _).alloc _
  have r1 : rowAt ((h.alloc (.row [.slice p1 s.offs.length c1, .slice p2 s.boards.length c2, .slice p3 s.tars.length c3] 0 true)).alloc (.row t.cells 0 true)) h.next = some [.slice p1 s.offs.length c1, .slice p2 s.boards.length c2, .slice p3 s.tars.length c3] := by
    rw [rowAt_old _ (by simp), rowAt_new]
  have r1t : ((h.alloc (.row [.slice p1 s.offs.length c1, .slice p2 s.boards.length c2, .slice p3 s.tars.length c3] 0 true)).alloc (.row t.cells 0 true)).get (h.next + 1) = some (.row (t.by t.rule).cells 0 true) := get_at _ (by simp)
  have m1 : h.next + 1 < ((h.alloc (.row [.slice p1 s.offs.length c1, .slice p2 s.boards.length c2, .slice p3 s.tars.length c3] 0 true)).alloc (.row t.cells 0 true)).next := by simp
  refine W_loop 4 (fun m' f h' => ∃ i, i ≤ 4 ∧ m' = 4 - i ∧ f 2 = .slice p4 l.length c4 ∧ f 3 = .pointer (some ⟨h.next, 0, none⟩) ∧ f 4 = .pointer (some ⟨h.next + 1, 0, none⟩) ∧ f 8 = .int .i64 ((i : Int) + 1) ∧
      SL h.next h' (f 7) ((rulesL t s.boards l i).flatMap ints) 1 i ∧ blkOf (f 7) ≠ some h.next ∧ blkOf (f 7) ≠ some (h.next + 1) ∧ Fr h h' ∧ h.next + 1 < h'.next ∧ rowAt h' h.next = some [.slice p1 s.offs.length c1, .slice p2 s.boards.length c2, .slice p3 s.tars.length c3] ∧ ∃ r, h'.get (h.next + 1) = some (.row (t.by r).cells 0 true))
    ⟨0, by omega, by omega, by simp [upd_at, argsFn_at], by simp [upd_at], by simp [upd_at], by simp [upd_at], by simpa [upd_at, rulesL] using SL.nil h.next _ 1, by simp [upd_at, blkOf], by simp [upd_at, blkOf], f1, m1, r1, _, r1t⟩ ?_
  clear f1 r1 m1 r1t
  rintro m' f h' ⟨i, hi, rfl, g2, g3, g4, g8, q5, nb, nb', fr, m2, r2, r, r2t⟩ ih
  have k' := fr.ok
  by_cases hil : i < 4
  · have lt : decide ((i : Int) + 1 ≤ 4) = true := by simp; omega
    have w : IntKind.i64.wrap ((i : Int) + 1 + 1) = ((i + 1 : Nat) : Int) + 1 := by rw [wrap64 (by omega) (by omega)]; omega
    simp only [Tar.cells, Tar.by] at r2t
    have rt2 : rowAt h' (h.next + 1) = some [.int .i64 t.kind, .int .i64 t.coins, .int .i64 t.units, .int .i64 r, .bool t.each] := by unfold rowAt; rw [r2t]; rfl
    have okr := Tar.by_ok ht (r := (i : Int) + 1) (by omega) (by omega)
    have fb : Fr h (h'.set (h.next + 1) (.row (t.by ((i : Int) + 1)).cells 0 true)) := fr.set (by omega) m2 _
    have rb : rowAt (h'.set (h.next + 1) (.row (t.by ((i : Int) + 1)).cells 0 true)) h.next = some [.slice p1 s.offs.length c1, .slice p2 s.boards.length c2, .slice p3 s.tars.length c3] := by rw [rowAt_set_lt _ (by omega)]; exact r2
    have rbt : rowAt (h'.set (h.next + 1) (.row (t.by ((i : Int) + 1)).cells 0 true)) (h.next + 1) = some (t.by ((i : Int) + 1)).cells := rowAt_set_self _ _ _ _ _
    have nb2 : (h'.set (h.next + 1) (.row (t.by ((i : Int) + 1)).cells 0 true)).next = h'.next := rfl
    have q6 : SL h.next (h'.set (h.next + 1) (.row (t.by ((i : Int) + 1)).cells 0 true)) (f 7) ((rulesL t s.boards l i).flatMap ints) 1 i := q5.keep fun b hb => Heap.get_set_ne _ _ (by rintro rfl; exact nb' hb)
    have gb : (h'.set (h.next + 1) (.row (t.by ((i : Int) + 1)).cells 0 true)).get (h.next + 1) = some (.row (t.by ((i : Int) + 1)).cells 0 true) := Heap.get_set_self _ _ _
    have kt : take? (t.by ((i : Int) + 1)).cells 0 5 = some (t.by ((i : Int) + 1)).cells := rfl
    simp (maxDischargeDepth := 30) only [AMS, AMH, ↓reduceIte, Nat.reduceLT, Nat.reduceEqDiff, Nat.reduceAdd, Nat.reduceMul, reduceCtorEq, decide_true, decide_false, Nat.reduceLeDiff, Int.reduceNe, Int.reduceEq, ne_eq, not_false_eq_true, and_self, bs_22, fp_41_3, ix_22, ld_26, ld_41, part_3, size_22, size_3, size_39, und_22, und_39, zero_22, zero_39, k', g2, g3, g4, g8, r2, lt, m2, r2t, List.set_cons_succ, List.set_cons_zero]
    simp only [Tar.cells, Tar.by] at fb rb rbt q6 gb kt nb2
    generalize hH : h'.set (h.next + 1) (.row [.int .i64 t.kind, .int .i64 t.coins, .int .i64 t.units, .int .i64 ((i : Int) + 1), .bool t.each] 0 true) = H at fb rb rbt q6 gb nb2
    obtain ⟨_, h3, e3, rfl, fr3⟩ := total_62 (t := t.by ((i : Int) + 1)) fb.ok (by rw [nb2]; omega) (hs'.fr hk fb) (hv'.fr hk fb) okr hll hn hq
    simp only [Tar.cells, Tar.by] at e3
    have f3 := fb.trans fr3
    have q7 := q6.fr fb.ok fr3
    have n3 := fr3.next
    obtain ⟨h5, e5, q5', f5, n5, g5⟩ := append_one (ts := []) app_22 f3 (by omega) q7 (v := .int .i64 (paid ⟨t.kind, t.coins, t.units, (i : Int) + 1, t.each⟩ s.boards l)) rfl (by omega)
    simp (maxDischargeDepth := 30) only [AMS, AMH, ↓reduceIte, Nat.reduceLT, Nat.reduceEqDiff, Nat.reduceAdd, Nat.reduceMul, reduceCtorEq, decide_true, decide_false, Nat.reduceLeDiff, Int.reduceNe, Int.reduceEq, ne_eq, not_false_eq_true, and_self, bs_22, fp_41_3, ix_22, ld_26, ld_41, part_3, size_22, size_3, size_39, und_22, und_39, zero_22, zero_39, hH, fb.ok, f3.ok, rb, rbt, kt, g2, g3, g4, g8, e3, bs_22 (cells_int _ _), e5, w]
    refine ih (4 - (i + 1)) _ _ (by omega) ?_
    refine ⟨i + 1, by omega, rfl, by simp [upd_at, g2], by simp [upd_at, g3], by simp [upd_at, g4], by simp [upd_at], ?_, by simp [upd_at, blkOf]; omega, by simp [upd_at, blkOf]; omega, f5, by omega, ?_, (i : Int) + 1, ?_⟩
    · rw [rulesL_succ, List.flatMap_append]
      simpa [upd_at, ints, Tar.by] using q5'
    · unfold rowAt
      rw [g5 _ (by omega) nb]
      exact fr3.row' fb.ok rb
    · rw [g5 _ (by omega) nb']
      exact fr3.get' fb.ok gb
  · have : i = 4 := by omega
    subst this
    have lt : decide (((4 : Nat) : Int) + 1 ≤ 4) = false := by decide
    simp (maxDischargeDepth := 30) only [AMS, AMH, ↓reduceIte, Nat.reduceLT, Nat.reduceEqDiff, Nat.reduceAdd, Nat.reduceMul, reduceCtorEq, decide_true, decide_false, Nat.reduceLeDiff, Int.reduceNe, Int.reduceEq, ne_eq, not_false_eq_true, and_self, bs_22, fp_41_3, ix_22, ld_26, ld_41, part_3, size_22, size_3, size_39, und_22, und_39, zero_22, zero_39, k', g2, g3, g4, g8, r2, lt]
    exact ⟨q5, fr⟩
end Go.Am

/- The abstract machine, part 78: contract: Rules of the program. -/
namespace Go.Am
open Go Go.Proofs

set_option maxRecDepth 10000 in
set_option maxHeartbeats 1000000 in
theorem rules_31_bad {h : Heap} (hk : HOK h) {a b c v : Value} {s : Sheet} {l : List Int} (t : Int) (hs : IsSheet h a b c s) (hv : LS h v l ints 1) (hn : s.tars.length ≤ 100) (hl : l.length ≤ 1000) (hb : s.boards.length ≤ 1000) (bad : goodB s t l = false) :
    CW CC 31 [.agg ⟨[a, b, c]⟩, .int .i64 t, v] h fun r h' => r = .tuple ⟨[.slice none 0 0, .int .i64 2]⟩ ∧ Fr h h' := by
  obtain ⟨p1, c1, rfl, _⟩ := hs.offs.open
  obtain ⟨p2, c2, rfl, _⟩ := hs.boards.open
  obtain ⟨p3, c3, rfl, x3⟩ := hs.tars.open
  obtain ⟨p4, c4, rfl, _⟩ := hv.open
  refine CW_in Tryz.f31 (by kernel_rfl) (by kernel_rfl) rfl rfl ?_
  simp only [Tryz.f31]
  have f1 : Fr h (h.alloc (.row [.slice p1 s.offs.length c1, .slice p2 s.boards.length c2, .slice p3 s.tars.length c3] 0 true)) := (Fr.refl hk).alloc _
  have r1 : rowAt (h.alloc (.row [.slice p1 s.offs.length c1, .slice p2 s.boards.length c2, .slice p3 s.tars.length c3] 0 true)) h.next = some [.slice p1 s.offs.length c1, .slice p2 s.boards.length c2, .slice p3 s.tars.length c3] := rowAt_new _ _ _ _
  obtain ⟨_, h2, e2, rfl, fr2⟩ := isOne_70 f1.ok (hs.fr hk f1) t (by omega)
  have f2 := f1.trans fr2
  have r2 := fr2.row' f1.ok r1
  unfold goodB at bad
  cases hone : (s.ok && inP t 0 (s.tars.length - 1)) with
  | false =>
    rw [hone] at e2
    simp (maxDischargeDepth := 30) only [AMS, AMH, ↓reduceIte, Nat.reduceLT, Nat.reduceEqDiff, Nat.reduceAdd, Nat.reduceMul, reduceCtorEq, decide_true, decide_false, Nat.reduceLeDiff, Int.reduceNe, Int.reduceEq, ne_eq, not_false_eq_true, and_self, bs_22, fp_26_2, fp_41_3, ix_22, ix_24, ld_24, ld_26, ld_41, part_3, part_41, size_22, size_24, size_3, size_39, size_41, und_22, und_24, und_39, zero_22, zero_24, zero_39, zero_41, hk, e2, f2.ok, r2]
    exact ⟨trivial, f2⟩
  | true =>
    rw [hone] at e2 bad
    simp only [Bool.true_and] at bad
    obtain ⟨_, h3, e4, rfl, fr3⟩ := areHours_74 f2.ok (hs.fr hk f2) (hv.fr hk f2) (by omega) (by omega)
    rw [bad] at e4
    have f3 := f2.trans fr3
    simp (maxDischargeDepth := 30) only [AMS, AMH, ↓reduceIte, Nat.reduceLT, Nat.reduceEqDiff, Nat.reduceAdd, Nat.reduceMul, reduceCtorEq, decide_true, decide_false, Nat.reduceLeDiff, Int.reduceNe, Int.reduceEq, ne_eq, not_false_eq_true, and_self, bs_22, fp_26_2, fp_41_3, ix_22, ix_24, ld_24, ld_26, ld_41, part_3, part_41, size_22, size_24, size_3, size_39, size_41, und_22, und_24, und_39, zero_22, zero_24, zero_39, zero_41, hk, e2, f2.ok, r2, e4]
    exact ⟨trivial, f3⟩

set_option maxRecDepth 10000 in
set_option maxHeartbeats 2000000 in
theorem rules_31 {h : Heap} (hk : HOK h) (hp : 0 < h.next) {a b c v : Value} {s : Sheet} {l : List Int} {i : Nat} {t : Tar} (hs : IsSheet h a b c s) (hv : LS h v l ints 1) (ok : s.ok = true) (hl : hoursOK s.boards l = true) (ht : s.tars[i]? = some t) :
    CW CC 31 [.agg ⟨[a, b, c]⟩, .int .i64 i, v] h fun r h' => ∃ x, r = .tuple ⟨[x, .int .i64 0]⟩ ∧ LS h' x (rulesL t s.boards l 4) ints 1 ∧ Fr h h' := by
  have hlen := Sheet.ok_len ok
  have hil := (List.getElem?_eq_some_iff.1 ht).1
  have hll := (hoursOK_at hl).1
  have htok := Sheet.ok_tars ok t (List.mem_of_getElem? ht)
  have hq := qtys_b ok hl t
  have hs' := hs
  have hv' := hv
  obtain ⟨p1, c1, rfl, _⟩ := hs.offs.open
  obtain ⟨p2, c2, rfl, _⟩ := hs.boards.open
  obtain ⟨p3, c3, rfl, x3⟩ := hs.tars.open
  obtain ⟨p4, c4, rfl, _⟩ := hv.open
  obtain ⟨b3, o3, sp3, row3, rfl, rr3, e3⟩ := LS.at (n := 0) (c := 0) x3 ht
  refine CW_in Tryz.f31 (by kernel_rfl) (by kernel_rfl) rfl rfl ?_
  simp only [Tryz.f31]
  have f1 : Fr h (h.alloc (.row [.slice p1 s.offs.length c1, .slice p2 s.boards.length c2, .slice (some ⟨b3, o3, sp3⟩) s.tars.length c3] 0 true)) := (Fr.refl hk).alloc _
  have r1 : rowAt (h.alloc (.row [.slice p1 s.offs.length c1, .slice p2 s.boards.length c2, .slice (some ⟨b3, o3, sp3⟩) s.tars.length c3] 0 true)) h.next = some [.slice p1 s.offs.length c1, .slice p2 s.boards.length c2, .slice (some ⟨b3, o3, sp3⟩) s.tars.length c3] := rowAt_new _ _ _ _
  obtain ⟨_, h2, e2, rfl, fr2⟩ := isOne_70 f1.ok (hs.fr hk f1) (i : Int) (by omega)
  have f2 := f1.trans fr2
  have r2 := fr2.row' f1.ok r1
  have hin : (s.ok && inP i 0 (s.tars.length - 1)) = true := by
    rw [ok]; simp [inP]; omega
  rw [hin] at e2
  obtain ⟨_, h3, e4, rfl, fr3⟩ := areHours_74 f2.ok (hs.fr hk f2) (hv.fr hk f2) (by omega) (by omega)
  rw [hl] at e4
  have f3 := f2.trans fr3
  have r3 := fr3.row' f2.ok r2
  have m3 : h.next < h3.next := row_lt f3.ok r3
  simp (maxDischargeDepth := 30) only [AMS, AMH, ↓reduceIte, Nat.reduceLT, Nat.reduceEqDiff, Nat.reduceAdd, Nat.reduceMul, reduceCtorEq, decide_true, decide_false, Nat.reduceLeDiff, Int.reduceNe, Int.reduceEq, ne_eq, not_false_eq_true, and_self, bs_22, fp_26_2, fp_41_3, ix_22, ix_24, ld_24, ld_26, ld_41, part_3, part_41, size_22, size_24, size_3, size_39, size_41, und_22, und_24, und_39, zero_22, zero_24, zero_39, zero_41, hk, e2, f2.ok, r2, e4]
  refine W_loop 4 (fun m' f h' => ∃ n, n ≤ 4 ∧ m' = 4 - n ∧ f 1 = .int .i64 i ∧ f 2 = .slice p4 l.length c4 ∧ f 3 = .pointer (some ⟨h.next, 0, none⟩) ∧ f 21 = .int .i64 n ∧
      SL h.next h' (f 8) ((rulesL t s.boards l n).flatMap ints) 1 n ∧ blkOf (f 8) ≠ some h.next ∧ Fr h h' ∧ h.next < h'.next ∧ rowAt h' h.next = some [.slice p1 s.offs.length c1, .slice p2 s.boards.length c2, .slice (some ⟨b3, o3, sp3⟩) s.tars.length c3])
    ⟨0, by omega, by omega, by simp [upd_at, argsFn_at], by simp [upd_at, argsFn_at], by simp [upd_at], by simp [upd_at], by simpa [upd_at, rulesL] using SL.nil h.next _ 1, by simp [upd_at, blkOf], f3, m3, r3⟩ ?_
  clear f3 r3 m3 fr3 e4 fr2 f2 r2 e2 f1 r1
  rintro m' f h' ⟨n, hn, rfl, g1, g2, g3', g21, q5, nb, fr, m2, r2⟩ ih
  have k' := fr.ok
  by_cases hnl : n < 4
  · have lt : decide ((n : Int) < 4) = true := by simp; omega
    have w : IntKind.i64.wrap ((n : Int) + 1) = ((n + 1 : Nat) : Int) := by rw [wrap64 (by omega) (by omega)]; omega
    have w' : IntKind.i64.wrap (1 + (n : Int)) = (n : Int) + 1 := by rw [wrap64 (by omega) (by omega)]; omega
    have okr := Tar.by_ok htok (r := (n : Int) + 1) (by omega) (by omega)
    have rr3' := fr.row' hk rr3
    have tl : t.cells.length = 5 := rfl
    have ta : allOne t.cells = true := rfl
    simp (maxDischargeDepth := 30) only [AMS, AMH, ↓reduceIte, Nat.reduceLT, Nat.reduceEqDiff, Nat.reduceAdd, Nat.reduceMul, reduceCtorEq, decide_true, decide_false, Nat.reduceLeDiff, Int.reduceNe, Int.reduceEq, ne_eq, not_false_eq_true, and_self, bs_22, fp_26_2, fp_41_3, ix_22, ix_24, ld_24, ld_26, ld_41, part_3, part_41, size_22, size_24, size_3, size_39, size_41, und_22, und_24, und_39, zero_22, zero_24, zero_39, zero_41, k', g1, g2, g3', g21, r2, lt, m2, hil, rr3', e3, tl, ta, w']
    have hset : t.cells.set 3 (.int .i64 ((n : Int) + 1)) = (t.by ((n : Int) + 1)).cells := rfl
    rw [hset]
    have fbh : Fr h' (((h'.alloc (.row [.int .i64 0, .int .i64 0, .int .i64 0, .int .i64 0, .bool false] 0 true)).set h'.next (.row t.cells 0 true)).set h'.next (.row (t.by ((n : Int) + 1)).cells 0 true)) :=
      (((Fr.refl k').alloc _).set (Nat.le_refl _) (by simp) _).set (Nat.le_refl _) (by simp) _
    have rbt : rowAt (((h'.alloc (.row [.int .i64 0, .int .i64 0, .int .i64 0, .int .i64 0, .bool false] 0 true)).set h'.next (.row t.cells 0 true)).set h'.next (.row (t.by ((n : Int) + 1)).cells 0 true)) h'.next = some (t.by ((n : Int) + 1)).cells := rowAt_set_self _ _ _ _ _
    generalize (((h'.alloc (.row [.int .i64 0, .int .i64 0, .int .i64 0, .int .i64 0, .bool false] 0 true)).set h'.next (.row t.cells 0 true)).set h'.next (.row (t.by ((n : Int) + 1)).cells 0 true)) = H at fbh rbt ⊢
    have fb := fr.trans fbh
    have rb := fbh.row' k' r2
    have q6 := q5.fr k' fbh
    have kt : take? (t.by ((n : Int) + 1)).cells 0 5 = some (t.by ((n : Int) + 1)).cells := rfl
    have kc : (t.by ((n : Int) + 1)).cells.all selfC = true := rfl
    refine W_draw [(true, 0), (true, 1), (true, 2), (true, 4), (true, 3), (false, 4), (true, 5), (true, 6), (true, 7), (true, 8)] (by kernel_rfl) ?_
    simp (maxDischargeDepth := 30) only [AMS, AMH, ↓reduceIte, Nat.reduceLT, Nat.reduceEqDiff, Nat.reduceAdd, Nat.reduceMul, reduceCtorEq, decide_true, decide_false, Nat.reduceLeDiff, Int.reduceNe, Int.reduceEq, ne_eq, not_false_eq_true, and_self, bs_22, fp_26_2, fp_41_3, ix_22, ix_24, ld_24, ld_26, ld_41, part_3, part_41, size_22, size_24, size_3, size_39, size_41, und_22, und_24, und_39, zero_22, zero_24, zero_39, zero_41, fb.ok, g1, g2, g3', g21, rb, rbt, kt]
    refine W_callP (bill_72 fb.ok (hs'.fr hk fb) (hv'.fr hk fb)) ?_
    rintro bv h4 ⟨m, fr4, hm4, hb4, hmap⟩
    have f4 := fb.trans fr4
    have r4 := fr4.row' fb.ok rb
    have r4t := fr4.row' fb.ok rbt
    have q7 := q6.fr fb.ok fr4
    simp (maxDischargeDepth := 30) only [AMS, AMH, ↓reduceIte, Nat.reduceLT, Nat.reduceEqDiff, Nat.reduceAdd, Nat.reduceMul, reduceCtorEq, decide_true, decide_false, Nat.reduceLeDiff, Int.reduceNe, Int.reduceEq, ne_eq, not_false_eq_true, and_self, AMR, bs_22, fp_26_2, fp_41_3, ix_22, ix_24, ld_24, ld_26, ld_41, part_3, part_41, size_22, size_24, size_3, size_39, size_41, und_22, und_24, und_39, zero_22, zero_24, zero_39, zero_41, f4.ok, g1, g2, g3', g21, r4, r4t, kt, kc]
    refine W_callP (paid_73 (t := t.by ((n : Int) + 1)) f4.ok (by have := f4.next; omega) hb4 hmap okr hll (by omega) fun x hx => by have := hq x hx; omega) ?_
    rintro _ h5 ⟨rfl, F5⟩
    have f45 : Fr H h5 := F5.fr fr4 hm4
    have f5 := fb.trans f45
    have q8 := q6.fr fb.ok f45
    have r5 := f45.row' fb.ok rb
    have r5t := f45.row' fb.ok rbt
    have n5 := f45.next
    have n6 := fbh.next
    obtain ⟨h6, e6, q6', f6, n6', g6⟩ := append_one (ts := []) app_22 f5 (by omega) q8 (v := .int .i64 (paid (t.by ((n : Int) + 1)) s.boards l)) rfl (by omega)
    simp (maxDischargeDepth := 30) only [AMS, AMH, ↓reduceIte, Nat.reduceLT, Nat.reduceEqDiff, Nat.reduceAdd, Nat.reduceMul, reduceCtorEq, decide_true, decide_false, Nat.reduceLeDiff, Int.reduceNe, Int.reduceEq, ne_eq, not_false_eq_true, and_self, AMR, bs_22, fp_26_2, fp_41_3, ix_22, ix_24, ld_24, ld_26, ld_41, part_3, part_41, size_22, size_24, size_3, size_39, size_41, und_22, und_24, und_39, zero_22, zero_24, zero_39, zero_41, f5.ok, g1, g2, g3', g21, r5, r5t, kt, kc, bs_22 (cells_int _ _), e6, w]
    refine ih (4 - (n + 1)) _ _ (by omega) ?_
    refine ⟨n + 1, by omega, rfl, by simp [upd_at, g1], by simp [upd_at, g2], by simp [upd_at, g3'], by simp [upd_at], ?_, by simp [upd_at, blkOf]; omega, f6, by omega, ?_⟩
    · rw [rulesL_succ, List.flatMap_append]
      simpa [upd_at, ints] using q6'
    · unfold rowAt
      rw [g6 _ (by omega) nb]
      exact r5
  · have : n = 4 := by omega
    subst this
    have lt : decide (((4 : Nat) : Int) < 4) = false := by decide
    obtain ⟨px, cx, ex⟩ := q5.value
    simp (maxDischargeDepth := 30) only [AMS, AMH, ↓reduceIte, Nat.reduceLT, Nat.reduceEqDiff, Nat.reduceAdd, Nat.reduceMul, reduceCtorEq, decide_true, decide_false, Nat.reduceLeDiff, Int.reduceNe, Int.reduceEq, ne_eq, not_false_eq_true, and_self, bs_22, fp_26_2, fp_41_3, ix_22, ix_24, ld_24, ld_26, ld_41, part_3, part_41, size_22, size_24, size_3, size_39, size_41, und_22, und_24, und_39, zero_22, zero_24, zero_39, zero_41, k', g1, g2, g3', g21, r2, lt, ex]
    rw [ex] at q5
    exact ⟨_, rfl, SL.ls ints_len (by simpa [rulesL] using q5), fr⟩
end Go.Am
