/- Parts 102 of the abstract machine over this program, joined: what each part says stands at its head. -/
import Derived.Test.YtfnkjclplfhjcaaGreatDoorJ101
set_option linter.unusedSimpArgs false
set_option linter.unusedVariables false
/- The abstract machine, part 102: contracts of the specification: Weights, Share, Owes. -/
namespace Go.Am
open Go Go.Proofs

set_option maxRecDepth 10000 in
set_option maxHeartbeats 4000000 in
theorem weights_56 {h : Heap} (hk : HOK h) (hp : 0 < h.next) {a b c v : Value} {s : Sheet} {l : List Int} {t : Tar} (hs : IsSheet h a b c s) (hv : LS h v l ints 1) (ok : s.ok = true) (ht : t.ok = true) (hll : l.length = s.boards.length) (hq : ∀ x ∈ qtys t s.boards l, 0 ≤ x ∧ x ≤ 60) :
    CW CC 56 [.agg ⟨[a, b, c]⟩, .agg ⟨t.cells⟩, v] h fun r h' => SL h.next h' r ((weights s.offs.length t s.boards l).flatMap ints) 1 s.offs.length ∧ Fr h h' := by
  have hlen := Sheet.ok_len ok
  have ql := qtys_len (t := t) hll
  have hs' := hs
  have hv' := hv
  obtain ⟨p1, c1, rfl, x1⟩ := hs.offs.open
  obtain ⟨p2, c2, rfl, x2⟩ := hs.boards.open
  obtain ⟨p3, c3, rfl, x3⟩ := hs.tars.open
  obtain ⟨p4, c4, rfl, _⟩ := hv.open
  have kt : take? t.cells 0 5 = some t.cells := rfl
  have kc : t.cells.all selfC = true := rfl
  refine CW_in Tryz.f56 (by kernel_rfl) (by kernel_rfl) rfl rfl ?_
  simp only [Tryz.f56]
  have f1 : Fr h ((h.alloc (.row [.slice p1 s.offs.length c1, .slice p2 s.boards.length c2, .slice p3 s.tars.length c3] 0 true)).alloc (.row t.cells 0 true)) := ((Fr.refl hk).alloc _).alloc _
  have r1 : rowAt ((h.alloc (.row [.slice p1 s.offs.length c1, .slice p2 s.boards.length c2, .slice p3 s.tars.length c3] 0 true)).alloc (.row t.cells 0 true)) h.next = some [.slice p1 s.offs.length c1, .slice p2 s.boards.length c2, .slice p3 s.tars.length c3] := by rw [rowAt_old _ (by simp), rowAt_new]
  have t1 : rowAt ((h.alloc (.row [.slice p1 s.offs.length c1, .slice p2 s.boards.length c2, .slice p3 s.tars.length c3] 0 true)).alloc (.row t.cells 0 true)) (h.next + 1) = some t.cells := rowAt_at _ _ _ (by simp)
  have n1 : ((h.alloc (.row [.slice p1 s.offs.length c1, .slice p2 s.boards.length c2, .slice p3 s.tars.length c3] 0 true)).alloc (.row t.cells 0 true)).next = h.next + 2 := by simp
  simp (maxDischargeDepth := 30) only [AMS, AMH, ↓reduceIte, Nat.reduceLT, Nat.reduceEqDiff, Nat.reduceAdd, Nat.reduceMul, reduceCtorEq, decide_true, decide_false, Nat.reduceLeDiff, Int.reduceNe, Int.reduceEq, ne_eq, not_false_eq_true, and_self, bs_22, fp_26_0, fp_26_1, fp_72_3, ix_22, ix_23, ld_22, ld_23, ld_26, ld_3, ld_41, len_22, len_23, part_3, part_72, size_22, size_23, size_3, size_72, und_22, und_23, zero_22, zero_23, hk, kt]
  generalize ((h.alloc (.row [.slice p1 s.offs.length c1, .slice p2 s.boards.length c2, .slice p3 s.tars.length c3] 0 true)).alloc (.row t.cells 0 true)) = h1 at f1 r1 t1 n1 ⊢
  refine W_loop s.offs.length (fun m' f h' => ∃ k, k ≤ s.offs.length ∧ m' = s.offs.length - k ∧ f 2 = .slice p4 l.length c4 ∧ f 3 = .pointer (some ⟨h.next, 0, none⟩) ∧ f 4 = .pointer (some ⟨h.next + 1, 0, none⟩) ∧ f 9 = .int .i64 k ∧
      SL h1.next h' (f 7) (((ownParts s.offs.length s.boards (qtys t s.boards l)).take k).flatMap ints) 1 k ∧ SL h1.next h' (f 8) (((ownParts s.offs.length s.boards (List.replicate s.boards.length 1)).take k).flatMap ints) 1 k ∧ (∀ x, blkOf (f 7) = some x → blkOf (f 8) ≠ some x) ∧ Fr h1 h')
    ⟨0, by omega, by omega, by simp [upd_at, argsFn_at], by simp [upd_at], by simp [upd_at], by simp [upd_at], by simpa [upd_at] using SL.nil h1.next h1 1, by simpa [upd_at] using SL.nil h1.next h1 1, by simp [upd_at, blkOf], Fr.refl f1.ok⟩ ?_
  rintro m' f h' ⟨k, hk', rfl, g2, g3, g4, g9, q7, q8, hne, fr⟩ ih
  have k' := fr.ok
  have fh := f1.trans fr
  have r' := fr.row' f1.ok r1
  have t' := fr.row' f1.ok t1
  by_cases hkl : k < s.offs.length
  · simp (maxDischargeDepth := 30) only [AMS, AMH, ↓reduceIte, Nat.reduceLT, Nat.reduceEqDiff, Nat.reduceAdd, Nat.reduceMul, reduceCtorEq, decide_true, decide_false, Nat.reduceLeDiff, Int.reduceNe, Int.reduceEq, ne_eq, not_false_eq_true, and_self, bs_22, fp_26_0, fp_26_1, fp_72_3, ix_22, ix_23, ld_22, ld_23, ld_26, ld_3, ld_41, len_22, len_23, part_3, part_72, size_22, size_23, size_3, size_72, und_22, und_23, zero_22, zero_23, k', g2, g3, g4, g9, r', t', kt, lt_t hkl]
    refine W_call (quantities_92 (t := t) k' (k : Int) (hs'.fr hk fh) (hv'.fr hk fh) hll (by omega) fun x hx => by have := hq x hx; omega) ?_
    rintro _ h3 ⟨rfl, fr3⟩
    rw [qtysO_own (by omega) hll]
    have f3 := fr.trans fr3
    have gW := ownParts_get (bs := s.boards) (l := qtys t s.boards l) hkl
    have gC := ownParts_get (bs := s.boards) (l := List.replicate s.boards.length 1) hkl
    obtain ⟨h6, e6, q6, f6, n6, g6⟩ := append_one (ts := []) app_22 f3 (by have := f3.next; omega) (q7.fr k' fr3) (v := .int .i64 (ownSum (k : Int) s.boards (qtys t s.boards l))) rfl (by omega)
    have q8' : SL h1.next h6 (f 8) (((ownParts s.offs.length s.boards (List.replicate s.boards.length 1)).take k).flatMap ints) 1 k := (q8.fr k' fr3).keep fun b hb => g6 b ((q8.fr k' fr3).blk_lt f3.ok hb).2 fun e => hne b e hb
    have n3 := fr3.next
    simp (maxDischargeDepth := 30) only [AMS, AMH, ↓reduceIte, Nat.reduceLT, Nat.reduceEqDiff, Nat.reduceAdd, Nat.reduceMul, reduceCtorEq, decide_true, decide_false, Nat.reduceLeDiff, Int.reduceNe, Int.reduceEq, ne_eq, not_false_eq_true, and_self, bs_22, fp_26_0, fp_26_1, fp_72_3, ix_22, ix_23, ld_22, ld_23, ld_26, ld_3, ld_41, len_22, len_23, part_3, part_72, size_22, size_23, size_3, size_72, und_22, und_23, zero_22, zero_23, f3.ok, g2, g3, g4, g9, bs_22 (cells_int _ _), e6]
    refine W_loop s.boards.length (fun m' f' h'' => ∃ i, i ≤ s.boards.length ∧ m' = s.boards.length - i ∧ f' 2 = .slice p4 l.length c4 ∧ f' 3 = .pointer (some ⟨h.next, 0, none⟩) ∧ f' 4 = .pointer (some ⟨h.next + 1, 0, none⟩) ∧ f' 9 = .int .i64 k ∧
        f' 7 = .slice (some ⟨h3.next + 1, 0, some 1⟩) (k + 1) (k + 1) ∧ f' 8 = f 8 ∧ f' 11 = .int .i64 i ∧ f' 10 = .int .i64 (ownSum (k : Int) (s.boards.take i) ((List.replicate s.boards.length 1).take i)) ∧ h'' = h6)
      ⟨0, by omega, by omega, by simp [upd_at, g2], by simp [upd_at, g3], by simp [upd_at, g4], by simp [upd_at, g9], by simp [upd_at], by simp [upd_at], by simp [upd_at], by simp [upd_at, ownSum, sumI], rfl⟩ ?_
    rintro m' f' h'' ⟨i, hi, rfl, u2, u3, u4, u9, u7, u8, u11, u10, rfl⟩ ih2
    have fh6 := f1.trans f6
    have r6 := f6.row' f1.ok r1
    by_cases hil : i < s.boards.length
    · obtain ⟨B, gB⟩ : ∃ x, s.boards[i]? = some x := ⟨_, List.getElem?_eq_getElem hil⟩
      rcases x2 with hx | ⟨b2, o2, sp2, row2, rfl, rr2, x2⟩
      · rw [hx] at hil; simp at hil
      have kb : row2[o2 + i * 5 + 4]? = some (.int .i64 B.ow) := (x2 _ _ gB).2 4 (by omega)
      have rr2' := fh6.row' hk rr2
      have gr : (List.replicate s.boards.length (1 : Int))[i]? = some 1 := by rw [List.getElem?_replicate, if_pos hil]
      have st := ownSum_snoc (k := (k : Int)) gB gr
      have cb := ownSum_b (k := (k : Int)) (B := 1) (by omega) (bs := s.boards.take i) (l := (List.replicate s.boards.length 1).take i) (fun x hx => by have := List.eq_of_mem_replicate (List.mem_of_mem_take hx); omega)
      have lt4 : ((((List.replicate s.boards.length (1 : Int)).take i).length : Nat) : Int) ≤ 4 := by rw [List.length_take]; omega
      generalize ownSum (k : Int) (s.boards.take i) ((List.replicate s.boards.length 1).take i) = C0 at st cb u10
      have wc : IntKind.i64.wrap (C0 + 1) = C0 + 1 := wrap64 (by omega) (by omega)
      cases hown : (B.ow == (k : Int)) with
      | true =>
        have e1 : ownOf (k : Int) (B, 1) = 1 := by simp [ownOf, hown]
        rw [e1] at st
        simp (maxDischargeDepth := 30) only [AMS, AMH, ↓reduceIte, Nat.reduceLT, Nat.reduceEqDiff, Nat.reduceAdd, Nat.reduceMul, reduceCtorEq, decide_true, decide_false, Nat.reduceLeDiff, Int.reduceNe, Int.reduceEq, ne_eq, not_false_eq_true, and_self, bs_22, fp_26_0, fp_26_1, fp_72_3, ix_22, ix_23, ld_22, ld_23, ld_26, ld_3, ld_41, len_22, len_23, part_3, part_72, size_22, size_23, size_3, size_72, und_22, und_23, zero_22, zero_23, f6.ok, u2, u3, u4, u9, u7, u8, u11, u10, r6, lt_t hil, hil, rr2', kb, hown, wc, i_next hil (by omega : s.boards.length ≤ 1000)]
        refine ih2 (s.boards.length - (i + 1)) _ _ (by omega) ?_
        exact ⟨i + 1, by omega, rfl, by simp [upd_at, u2], by simp [upd_at, u3], by simp [upd_at, u4], by simp [upd_at, u9], by simp [upd_at, u7], by simp [upd_at, u8], by simp [upd_at], by rw [st]; simp [upd_at], rfl⟩
      | false =>
        have e1 : ownOf (k : Int) (B, 1) = 0 := by simp [ownOf, hown]
        rw [e1, Int.add_zero] at st
        simp (maxDischargeDepth := 30) only [AMS, AMH, ↓reduceIte, Nat.reduceLT, Nat.reduceEqDiff, Nat.reduceAdd, Nat.reduceMul, reduceCtorEq, decide_true, decide_false, Nat.reduceLeDiff, Int.reduceNe, Int.reduceEq, ne_eq, not_false_eq_true, and_self, bs_22, fp_26_0, fp_26_1, fp_72_3, ix_22, ix_23, ld_22, ld_23, ld_26, ld_3, ld_41, len_22, len_23, part_3, part_72, size_22, size_23, size_3, size_72, und_22, und_23, zero_22, zero_23, f6.ok, u2, u3, u4, u9, u7, u8, u11, u10, r6, lt_t hil, hil, rr2', kb, hown, i_next hil (by omega : s.boards.length ≤ 1000)]
        refine ih2 (s.boards.length - (i + 1)) _ _ (by omega) ?_
        exact ⟨i + 1, by omega, rfl, by simp [upd_at, u2], by simp [upd_at, u3], by simp [upd_at, u4], by simp [upd_at, u9], by simp [upd_at, u7], by simp [upd_at, u8], by simp [upd_at], by rw [st]; simp [upd_at, u10], rfl⟩
    · have : i = s.boards.length := by omega
      subst this
      rw [List.take_of_length_le (Nat.le_refl _), List.take_of_length_le (by rw [List.length_replicate]; exact Nat.le_refl _)] at u10
      obtain ⟨h7, e7, q7', f7, n7, g7⟩ := append_one (ts := []) app_22 f6 (by omega) q8' (v := .int .i64 (ownSum (k : Int) s.boards (List.replicate s.boards.length 1))) rfl (by omega)
      have q6' : SL h1.next h7 (.slice (some ⟨h3.next + 1, 0, some 1⟩) (k + 1) (k + 1)) (((ownParts s.offs.length s.boards (qtys t s.boards l)).take k).flatMap ints ++ [.int .i64 (ownSum (k : Int) s.boards (qtys t s.boards l))]) 1 (k + 1) := q6.keep fun b hb => g7 b (q6.blk_lt f6.ok hb).2 fun e => by
        have hb' : b = h3.next + 1 := by simp [blkOf] at hb; exact hb.symm
        have := ((q8.fr k' fr3).blk_lt f3.ok e).2
        omega
      simp (maxDischargeDepth := 30) only [AMS, AMH, ↓reduceIte, Nat.reduceLT, Nat.reduceEqDiff, Nat.reduceAdd, Nat.reduceMul, reduceCtorEq, decide_true, decide_false, Nat.reduceLeDiff, Int.reduceNe, Int.reduceEq, ne_eq, not_false_eq_true, and_self, bs_22, fp_26_0, fp_26_1, fp_72_3, ix_22, ix_23, ld_22, ld_23, ld_26, ld_3, ld_41, len_22, len_23, part_3, part_72, size_22, size_23, size_3, size_72, und_22, und_23, zero_22, zero_23, f6.ok, u2, u3, u4, u9, u7, u8, u11, u10, r6, lt_f, bs_22 (cells_int _ _), e7, i_next hkl (by omega : s.offs.length ≤ 1000)]
      refine ih (s.offs.length - (k + 1)) _ _ (by omega) ?_
      refine ⟨k + 1, by omega, rfl, by simp [upd_at, u2], by simp [upd_at, u3], by simp [upd_at, u4], by simp [upd_at], ?_, ?_, ?_, f7⟩
      · rw [take_snoc gW, List.flatMap_append]
        simpa [upd_at, u7, ints] using q6'
      · rw [take_snoc gC, List.flatMap_append]
        simpa [upd_at, ints] using q7'
      · intro x hx
        simp [upd_at, u7, blkOf] at hx ⊢
        omega
  · have : k = s.offs.length := by omega
    subst this
    have lW := ownParts_len s.offs.length s.boards (qtys t s.boards l)
    have lC := ownParts_len s.offs.length s.boards (List.replicate s.boards.length 1)
    rw [List.take_of_length_le (by omega)] at q7 q8
    obtain ⟨pw, cw, ew⟩ := q7.value
    obtain ⟨pc, cc, ec⟩ := q8.value
    rw [ew] at q7
    rw [ec] at q8
    have LW : LS h' (.slice pw s.offs.length cw) (ownParts s.offs.length s.boards (qtys t s.boards l)) ints 1 := SL.ls ints_len (by rw [lW]; exact q7)
    have Wb : ∀ x ∈ ownParts s.offs.length s.boards (qtys t s.boards l), 0 ≤ x ∧ x ≤ 1000 := fun x hx => by
      unfold ownParts at hx
      rw [List.mem_map] at hx
      obtain ⟨k, _, rfl⟩ := hx
      have := ownSum_b (k := (k : Int)) (B := 60) (by omega) (bs := s.boards) hq
      omega
    simp (maxDischargeDepth := 30) only [AMS, AMH, ↓reduceIte, Nat.reduceLT, Nat.reduceEqDiff, Nat.reduceAdd, Nat.reduceMul, reduceCtorEq, decide_true, decide_false, Nat.reduceLeDiff, Int.reduceNe, Int.reduceEq, ne_eq, not_false_eq_true, and_self, bs_22, fp_26_0, fp_26_1, fp_72_3, ix_22, ix_23, ld_22, ld_23, ld_26, ld_3, ld_41, len_22, len_23, part_3, part_72, size_22, size_23, size_3, size_72, und_22, und_23, zero_22, zero_23, k', g3, g9, r', lt_f, ew, ec]
    refine W_call (sum_57 _ (ownParts s.offs.length s.boards (qtys t s.boards l)) h' LW (by omega) fun x hx => by have := Wb x hx; omega) ?_
    rintro _ hE ⟨rfl, eE⟩
    rw [eE]
    unfold weights
    cases hz : (sumI (ownParts s.offs.length s.boards (qtys t s.boards l)) == 0) with
    | true =>
      simp (maxDischargeDepth := 30) only [AMS, AMH, ↓reduceIte, Nat.reduceLT, Nat.reduceEqDiff, Nat.reduceAdd, Nat.reduceMul, reduceCtorEq, decide_true, decide_false, Nat.reduceLeDiff, Int.reduceNe, Int.reduceEq, ne_eq, not_false_eq_true, and_self, bs_22, fp_26_0, fp_26_1, fp_72_3, ix_22, ix_23, ld_22, ld_23, ld_26, ld_3, ld_41, len_22, len_23, part_3, part_72, size_22, size_23, size_3, size_72, und_22, und_23, zero_22, zero_23, k', ew, ec, hz]
      rw [if_pos (by simpa using hz)]
      exact ⟨q8.weak (by omega), fh⟩
    | false =>
      simp (maxDischargeDepth := 30) only [AMS, AMH, ↓reduceIte, Nat.reduceLT, Nat.reduceEqDiff, Nat.reduceAdd, Nat.reduceMul, reduceCtorEq, decide_true, decide_false, Nat.reduceLeDiff, Int.reduceNe, Int.reduceEq, ne_eq, not_false_eq_true, and_self, bs_22, fp_26_0, fp_26_1, fp_72_3, ix_22, ix_23, ld_22, ld_23, ld_26, ld_3, ld_41, len_22, len_23, part_3, part_72, size_22, size_23, size_3, size_72, und_22, und_23, zero_22, zero_23, k', ew, ec, hz]
      rw [if_neg (by simpa using hz)]
      exact ⟨q7.weak (by omega), fh⟩
end Go.Am
