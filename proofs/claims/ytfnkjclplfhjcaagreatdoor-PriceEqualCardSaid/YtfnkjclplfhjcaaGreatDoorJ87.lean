/- Parts 87 of the abstract machine over this program, joined: what each part says stands at its head. -/
import Derived.Test.YtfnkjclplfhjcaaGreatDoorJ81
import Derived.Test.YtfnkjclplfhjcaaGreatDoorJ84
set_option linter.unusedSimpArgs false
set_option linter.unusedVariables false
/- The abstract machine, part 87: contracts: two tariffs; Change. -/
namespace Go.Am
open Go Go.Proofs

def twoB (s : Sheet) (one other : Int) : Bool := (s.ok && inP one 0 (s.tars.length - 1)) && ((s.ok && inP other 0 (s.tars.length - 1)) && one != other)

set_option maxRecDepth 10000 in
theorem areTwo_80 {h : Heap} (hk : HOK h) {a b c : Value} {s : Sheet} (hs : IsSheet h a b c s) (one other : Int) (hn : s.tars.length ≤ 100) :
    CW CC 80 [.agg ⟨[a, b, c]⟩, .int .i64 one, .int .i64 other] h fun r h' => r = .bool (twoB s one other) ∧ Fr h h' := by
  obtain ⟨p1, c1, rfl, _⟩ := hs.offs.open
  obtain ⟨p2, c2, rfl, _⟩ := hs.boards.open
  obtain ⟨p3, c3, rfl, _⟩ := hs.tars.open
  refine CW_in Tryz.f80 (by kernel_rfl) (by kernel_rfl) rfl rfl ?_
  simp only [Tryz.f80]
  have f1 : Fr h (h.alloc (.row [.slice p1 s.offs.length c1, .slice p2 s.boards.length c2, .slice p3 s.tars.length c3] 0 true)) := (Fr.refl hk).alloc _
  have r1 : rowAt (h.alloc (.row [.slice p1 s.offs.length c1, .slice p2 s.boards.length c2, .slice p3 s.tars.length c3] 0 true)) h.next = some [.slice p1 s.offs.length c1, .slice p2 s.boards.length c2, .slice p3 s.tars.length c3] := rowAt_new _ _ _ _
  obtain ⟨_, h2, e2, rfl, fr2⟩ := isOne_70 f1.ok (hs.fr hk f1) one hn
  have f2 := f1.trans fr2
  have r2 := fr2.row' f1.ok r1
  obtain ⟨_, h3, e3, rfl, fr3⟩ := isOne_70 f2.ok (hs.fr hk f2) other hn
  have f3 := f2.trans fr3
  unfold twoB
  cases c1 : (s.ok && inP one 0 (s.tars.length - 1)) with
  | false =>
    rw [c1] at e2
    simp (maxDischargeDepth := 30) only [AMS, AMH, ↓reduceIte, Nat.reduceLT, Nat.reduceEqDiff, Nat.reduceAdd, Nat.reduceMul, reduceCtorEq, decide_true, decide_false, Nat.reduceLeDiff, Int.reduceNe, Int.reduceEq, ne_eq, not_false_eq_true, and_self, ld_26, hk, e2]
    exact ⟨by simp, f2⟩
  | true =>
  rw [c1] at e2
  cases c2 : (s.ok && inP other 0 (s.tars.length - 1)) with
  | false =>
    rw [c2] at e3
    simp (maxDischargeDepth := 30) only [AMS, AMH, ↓reduceIte, Nat.reduceLT, Nat.reduceEqDiff, Nat.reduceAdd, Nat.reduceMul, reduceCtorEq, decide_true, decide_false, Nat.reduceLeDiff, Int.reduceNe, Int.reduceEq, ne_eq, not_false_eq_true, and_self, ld_26, hk, e2, f2.ok, r2, e3]
    exact ⟨by simp, f3⟩
  | true =>
    rw [c2] at e3
    simp (maxDischargeDepth := 30) only [AMS, AMH, ↓reduceIte, Nat.reduceLT, Nat.reduceEqDiff, Nat.reduceAdd, Nat.reduceMul, reduceCtorEq, decide_true, decide_false, Nat.reduceLeDiff, Int.reduceNe, Int.reduceEq, ne_eq, not_false_eq_true, and_self, ld_26, hk, e2, f2.ok, r2, e3]
    exact ⟨by simp, f3⟩

theorem apart_51 (x y : Int) (hx : -1000000000 ≤ x ∧ x ≤ 1000000000) (hy : -1000000000 ≤ y ∧ y ≤ 1000000000) (h : Heap) : callF CC (Lim CC) 51 [.int .i64 x, .int .i64 y] h = some (.ret (.int .i64 (apart x y)) h none) := by
  refine CW.eq (CW_in Tryz.f51 (by kernel_rfl) (by kernel_rfl) rfl rfl ?_)
  simp only [Tryz.f51]
  have mx : foldV max2 [.int .i64 (y - x)] (.int .i64 (x - y)) = some (.int .i64 (if x - y < y - x then y - x else x - y)) := rfl
  simp (maxDischargeDepth := 30) only [AMS, AMH, ↓reduceIte, Nat.reduceLT, Nat.reduceEqDiff, Nat.reduceAdd, Nat.reduceMul, reduceCtorEq, decide_true, decide_false, Nat.reduceLeDiff, Int.reduceNe, Int.reduceEq, ne_eq, not_false_eq_true, and_self, L_nil, wrap64 (n := x - y) (by omega) (by omega), wrap64 (n := y - x) (by omega) (by omega), mx]
  refine ⟨?_, trivial⟩
  congr 1
  unfold apart
  split <;> split <;> omega

def Tar.coin (t : Tar) (n : Int) : Tar := { t with coins := n }
theorem Tar.coin_ok {t : Tar} (ht : t.ok = true) {n : Int} (h0 : 0 ≤ n) (h1 : n ≤ 500) : (t.coin n).ok = true := by
  have := Tar.ok_at ht
  refine decide_eq_true ?_
  simp only [Tar.coin]
  omega
theorem Tar.coin_not {t : Tar} {n : Int} (h : ¬ (0 ≤ n ∧ n ≤ 500)) : (t.coin n).ok = false := by
  refine decide_eq_false ?_
  simp only [Tar.coin]
  omega
/-- as much is paid by a tariff, if it has so many coins, as by another one -/
def Meets (t u : Tar) (bs : List Board) (l : List Int) (n : Int) : Prop := paid (t.coin n) bs l = paid u bs l

set_option maxRecDepth 10000 in
set_option maxHeartbeats 1000000 in
theorem change_48_bad {h : Heap} (hk : HOK h) {a b c v : Value} {s : Sheet} {l : List Int} (one other : Int) (hs : IsSheet h a b c s) (hv : LS h v l ints 1) (hn : s.tars.length ≤ 100) (hl : l.length ≤ 1000) (hb : s.boards.length ≤ 1000) (bad : (twoB s one other && hoursOK s.boards l) = false) :
    CW CC 48 [.agg ⟨[a, b, c]⟩, .int .i64 one, .int .i64 other, v] h fun r h' => r = .tuple ⟨[.int .i64 0, .int .i64 2]⟩ ∧ Fr h h' := by
  obtain ⟨p1, c1, rfl, _⟩ := hs.offs.open
  obtain ⟨p2, c2, rfl, _⟩ := hs.boards.open
  obtain ⟨p3, c3, rfl, _⟩ := hs.tars.open
  obtain ⟨p4, c4, rfl, _⟩ := hv.open
  refine CW_in Tryz.f48 (by kernel_rfl) (by kernel_rfl) rfl rfl ?_
  simp only [Tryz.f48]
  have f1 : Fr h (h.alloc (.row [.slice p1 s.offs.length c1, .slice p2 s.boards.length c2, .slice p3 s.tars.length c3] 0 true)) := (Fr.refl hk).alloc _
  have r1 : rowAt (h.alloc (.row [.slice p1 s.offs.length c1, .slice p2 s.boards.length c2, .slice p3 s.tars.length c3] 0 true)) h.next = some [.slice p1 s.offs.length c1, .slice p2 s.boards.length c2, .slice p3 s.tars.length c3] := rowAt_new _ _ _ _
  obtain ⟨_, h2, e2, rfl, fr2⟩ := areTwo_80 f1.ok (hs.fr hk f1) one other hn
  have f2 := f1.trans fr2
  have r2 := fr2.row' f1.ok r1
  cases htwo : twoB s one other with
  | false =>
    rw [htwo] at e2
    simp (maxDischargeDepth := 30) only [AMS, AMH, ↓reduceIte, Nat.reduceLT, Nat.reduceEqDiff, Nat.reduceAdd, Nat.reduceMul, reduceCtorEq, decide_true, decide_false, Nat.reduceLeDiff, Int.reduceNe, Int.reduceEq, ne_eq, not_false_eq_true, and_self, bld_113, fp_26_2, fp_41_1, ia_113_0, ia_113_1, ix_24, ld_24, ld_26, ld_3, ld_41, part_3, part_41, size_113, size_24, size_3, size_41, und_113, und_24, und_3, xi_113_0, xi_113_1, zero_113, zero_24, zero_3, zero_41, hk, e2]
    exact ⟨trivial, f2⟩
  | true =>
    rw [htwo] at e2 bad
    simp only [Bool.true_and] at bad
    obtain ⟨_, h3, e4, rfl, fr3⟩ := areHours_74 f2.ok (hs.fr hk f2) (hv.fr hk f2) (by omega) (by omega)
    rw [bad] at e4
    have f3 := f2.trans fr3
    simp (maxDischargeDepth := 30) only [AMS, AMH, ↓reduceIte, Nat.reduceLT, Nat.reduceEqDiff, Nat.reduceAdd, Nat.reduceMul, reduceCtorEq, decide_true, decide_false, Nat.reduceLeDiff, Int.reduceNe, Int.reduceEq, ne_eq, not_false_eq_true, and_self, bld_113, fp_26_2, fp_41_1, ia_113_0, ia_113_1, ix_24, ld_24, ld_26, ld_3, ld_41, part_3, part_41, size_113, size_24, size_3, size_41, und_113, und_24, und_3, xi_113_0, xi_113_1, zero_113, zero_24, zero_3, zero_41, hk, e2, f2.ok, r2, e4]
    exact ⟨trivial, f3⟩

theorem twoB_at {s : Sheet} {one other : Int} (h : twoB s one other = true) : s.ok = true ∧ one ≠ other ∧ (∃ (i : Nat) (T : Tar), one = i ∧ s.tars[i]? = some T) ∧ ∃ (j : Nat) (U : Tar), other = j ∧ s.tars[j]? = some U := by
  unfold twoB at h
  simp only [Bool.and_eq_true, bne_iff_ne] at h
  obtain ⟨⟨ok, h1⟩, ⟨_, h2⟩, h3⟩ := h
  have h1 := of_decide_eq_true h1
  have h2 := of_decide_eq_true h2
  obtain ⟨i, rfl⟩ : ∃ i : Nat, one = i := ⟨one.toNat, by omega⟩
  obtain ⟨j, rfl⟩ : ∃ j : Nat, other = j := ⟨other.toNat, by omega⟩
  exact ⟨ok, h3, ⟨i, _, rfl, List.getElem?_eq_getElem (by omega)⟩, ⟨j, _, rfl, List.getElem?_eq_getElem (by omega)⟩⟩

set_option maxRecDepth 10000 in
set_option maxHeartbeats 4000000 in
theorem change_48 {h : Heap} (hk : HOK h) (hp : 0 < h.next) {a b c v : Value} {s : Sheet} {l : List Int} {i j : Nat} {T U : Tar} (hs : IsSheet h a b c s) (hv : LS h v l ints 1) (two : twoB s i j = true) (hl : hoursOK s.boards l = true) (hT : s.tars[i]? = some T) (hU : s.tars[j]? = some U) :
    CW CC 48 [.agg ⟨[a, b, c]⟩, .int .i64 i, .int .i64 j, v] h fun r h' => ((∃ n, Best (Meets T U s.boards l) T.coins n ∧ r = .tuple ⟨[.int .i64 n, .int .i64 0]⟩) ∨ (Nobody (Meets T U s.boards l) ∧ r = .tuple ⟨[.int .i64 0, .int .i64 5]⟩)) ∧ Fr h h' := by
  have ok := (twoB_at two).1
  have hlen := Sheet.ok_len ok
  have hil := (List.getElem?_eq_some_iff.1 hT).1
  have hjl := (List.getElem?_eq_some_iff.1 hU).1
  have hll := (hoursOK_at hl).1
  have tok := Sheet.ok_tars ok T (List.mem_of_getElem? hT)
  have uok := Sheet.ok_tars ok U (List.mem_of_getElem? hU)
  have tk := Tar.ok_at tok
  have hqT := qtys_b ok hl T
  have hqU := qtys_b ok hl U
  have hs' := hs
  have hv' := hv
  obtain ⟨p1, c1, rfl, _⟩ := hs.offs.open
  obtain ⟨p2, c2, rfl, _⟩ := hs.boards.open
  obtain ⟨p3, c3, rfl, x3⟩ := hs.tars.open
  obtain ⟨p4, c4, rfl, _⟩ := hv.open
  obtain ⟨bt, ot, spt, rowt, hp3, rrt, et⟩ := LS.at (n := 0) (c := 0) x3 hT
  obtain ⟨bu, ou, spu, rowu, hp3', rru, eu⟩ := LS.at (n := 0) (c := 0) x3 hU
  subst hp3
  simp only [Option.some.injEq, Addr.mk.injEq] at hp3'
  obtain ⟨rfl, rfl, rfl⟩ := hp3'
  rw [rrt] at rru
  obtain rfl : rowt = rowu := by simpa using rru
  have kt1 : rowt[ot + i * 5 + 1]? = some (.int .i64 T.coins) := by
    rcases x3 with hx | ⟨bb, oo, spp, roww, he, hr, hx⟩
    · rw [hx] at hil; simp at hil
    · simp at he
      obtain ⟨rfl, rfl, rfl⟩ := he
      rw [rrt] at hr; simp at hr; subst hr
      exact (hx _ _ hT).2 1 (by omega)
  refine CW_in Tryz.f48 (by kernel_rfl) (by kernel_rfl) rfl rfl ?_
  simp only [Tryz.f48]
  have f1 : Fr h (h.alloc (.row [.slice p1 s.offs.length c1, .slice p2 s.boards.length c2, .slice (some ⟨bt, ot, spt⟩) s.tars.length c3] 0 true)) := (Fr.refl hk).alloc _
  have r1 : rowAt (h.alloc (.row [.slice p1 s.offs.length c1, .slice p2 s.boards.length c2, .slice (some ⟨bt, ot, spt⟩) s.tars.length c3] 0 true)) h.next = some [.slice p1 s.offs.length c1, .slice p2 s.boards.length c2, .slice (some ⟨bt, ot, spt⟩) s.tars.length c3] := rowAt_new _ _ _ _
  obtain ⟨_, h2, e2, rfl, fr2⟩ := areTwo_80 f1.ok (hs.fr hk f1) (i : Int) (j : Int) (by omega)
  have f2 := f1.trans fr2
  have r2 := fr2.row' f1.ok r1
  rw [two] at e2
  obtain ⟨_, h3, e4, rfl, fr3⟩ := areHours_74 f2.ok (hs.fr hk f2) (hv.fr hk f2) (by omega) (by omega)
  rw [hl] at e4
  have f3 := f2.trans fr3
  have r3 := fr3.row' f2.ok r2
  have rrt3 := f3.row' hk rrt
  have kcu : U.cells.all selfC = true := rfl
  simp (maxDischargeDepth := 30) only [AMS, AMH, ↓reduceIte, Nat.reduceLT, Nat.reduceEqDiff, Nat.reduceAdd, Nat.reduceMul, reduceCtorEq, decide_true, decide_false, Nat.reduceLeDiff, Int.reduceNe, Int.reduceEq, ne_eq, not_false_eq_true, and_self, bld_113, fp_26_2, fp_41_1, ia_113_0, ia_113_1, ix_24, ld_24, ld_26, ld_3, ld_41, part_3, part_41, size_113, size_24, size_3, size_41, und_113, und_24, und_3, xi_113_0, xi_113_1, zero_113, zero_24, zero_3, zero_41, hk, e2, f2.ok, r2, e4, f3.ok, r3, hil, rrt3, kt1]
  refine W_draw [(true, 0), (true, 1), (true, 3), (true, 4), (true, 5), (true, 6), (true, 7), (true, 2), (false, 4), (false, 7), (true, 8), (true, 9)] (by kernel_rfl) ?_
  simp (maxDischargeDepth := 30) only [AMS, AMH, ↓reduceIte, Nat.reduceLT, Nat.reduceEqDiff, Nat.reduceAdd, Nat.reduceMul, reduceCtorEq, decide_true, decide_false, Nat.reduceLeDiff, Int.reduceNe, Int.reduceEq, ne_eq, not_false_eq_true, and_self, bld_113, fp_26_2, fp_41_1, ia_113_0, ia_113_1, ix_24, ld_24, ld_26, ld_3, ld_41, part_3, part_41, size_113, size_24, size_3, size_41, und_113, und_24, und_3, xi_113_0, xi_113_1, zero_113, zero_24, zero_3, zero_41, f3.ok, r3, hjl, rrt3, eu]
  refine W_callP (bill_72 f3.ok (hs.fr hk f3) (hv.fr hk f3)) ?_
  rintro bv h4 ⟨m, fr4, hm4, hb4, hmap⟩
  have f4 := f3.trans fr4
  have r4 := fr4.row' f3.ok r3
  have rrt4 := f4.row' hk rrt
  simp (maxDischargeDepth := 30) only [AMS, AMH, ↓reduceIte, Nat.reduceLT, Nat.reduceEqDiff, Nat.reduceAdd, Nat.reduceMul, reduceCtorEq, decide_true, decide_false, Nat.reduceLeDiff, Int.reduceNe, Int.reduceEq, ne_eq, not_false_eq_true, and_self, AMR, bld_113, fp_26_2, fp_41_1, ia_113_0, ia_113_1, ix_24, ld_24, ld_26, ld_3, ld_41, part_3, part_41, size_113, size_24, size_3, size_41, und_113, und_24, und_3, xi_113_0, xi_113_1, zero_113, zero_24, zero_3, zero_41, f4.ok, r4, hjl, rrt4, eu, kcu]
  refine W_callP (paid_73 (t := U) f4.ok (by have := f4.next; omega) hb4 hmap uok hll (by omega) fun x hx => by have := hqU x hx; omega) ?_
  rintro _ h5 ⟨rfl, F5⟩
  have f45 : Fr h3 h5 := F5.fr fr4 hm4
  have f5 := f3.trans f45
  have r5 := f45.row' f3.ok r3
  have rrt5 := f5.row' hk rrt
  have m5 := row_lt f5.ok r5
  simp (maxDischargeDepth := 30) only [AMS, AMH, ↓reduceIte, Nat.reduceLT, Nat.reduceEqDiff, Nat.reduceAdd, Nat.reduceMul, reduceCtorEq, decide_true, decide_false, Nat.reduceLeDiff, Int.reduceNe, Int.reduceEq, ne_eq, not_false_eq_true, and_self, AMR, bld_113, fp_26_2, fp_41_1, ia_113_0, ia_113_1, ix_24, ld_24, ld_26, ld_3, ld_41, part_3, part_41, size_113, size_24, size_3, size_41, und_113, und_24, und_3, xi_113_0, xi_113_1, zero_113, zero_24, zero_3, zero_41, f5.ok, r5, hjl, rrt5, eu, kcu]
  refine W_loop 501 (fun m' f h' => ∃ k : Nat, k ≤ 501 ∧ m' = 501 - k ∧ f 1 = .int .i64 i ∧ f 3 = .slice p4 l.length c4 ∧ f 4 = .pointer (some ⟨h.next, 0, none⟩) ∧ f 10 = .int .i64 T.coins ∧ f 11 = .int .i64 (paid U s.boards l) ∧ f 42 = .int .i64 k ∧
      Farther (Meets T U s.boards l) T.coins k ∧ Fr h h' ∧ rowAt h' h.next = some [.slice p1 s.offs.length c1, .slice p2 s.boards.length c2, .slice (some ⟨bt, ot, spt⟩) s.tars.length c3])
    ⟨0, by omega, by omega, by simp [upd_at, argsFn_at], by simp [upd_at, argsFn_at], by simp [upd_at], by simp [upd_at], by simp [upd_at], by simp [upd_at], Farther.zero _ _, f5, r5⟩ ?_
  clear f5 r5 m5 rrt5 f45 F5 r4 f4 rrt4 hmap hb4 fr4 f3 r3 fr3 e4 fr2 f2 r2 e2 f1 r1 rrt3
  rintro m' f h' ⟨k, hk501, rfl, g1, g3, g4, g10, g11, g42, far, fr, r'⟩ ih
  by_cases hkl : k < 501
  · have lt : decide ((k : Int) < 501) = true := by simp; omega
    have w1 : IntKind.i64.wrap (T.coins - (k : Int)) = T.coins - k := wrap64 (by omega) (by omega)
    have w2 : IntKind.i64.wrap (T.coins + (k : Int)) = T.coins + k := wrap64 (by omega) (by omega)
    simp (maxDischargeDepth := 30) only [AMS, AMH, ↓reduceIte, Nat.reduceLT, Nat.reduceEqDiff, Nat.reduceAdd, Nat.reduceMul, reduceCtorEq, decide_true, decide_false, Nat.reduceLeDiff, Int.reduceNe, Int.reduceEq, ne_eq, not_false_eq_true, and_self, bld_113, fp_26_2, fp_41_1, ia_113_0, ia_113_1, ix_24, ld_24, ld_26, ld_3, ld_41, part_3, part_41, size_113, size_24, size_3, size_41, und_113, und_24, und_3, xi_113_0, xi_113_1, zero_113, zero_24, zero_3, zero_41, g1, g3, g4, g10, g11, g42, lt, w1, w2]
    refine W_loop 2 (fun m' f h' => ∃ n : Nat, n ≤ 2 ∧ m' = 2 - n ∧ f 1 = .int .i64 i ∧ f 3 = .slice p4 l.length c4 ∧ f 4 = .pointer (some ⟨h.next, 0, none⟩) ∧ f 10 = .int .i64 T.coins ∧ f 11 = .int .i64 (paid U s.boards l) ∧ f 42 = .int .i64 k ∧
        f 51 = .agg ⟨[.int .i64 (T.coins - k), .int .i64 (T.coins + k)]⟩ ∧ f 52 = .int .i64 n ∧ (1 ≤ n → 0 ≤ T.coins - (k : Int) → T.coins - (k : Int) ≤ 500 → ¬ Meets T U s.boards l (T.coins - k)) ∧ (2 ≤ n → 0 ≤ T.coins + (k : Int) → T.coins + (k : Int) ≤ 500 → ¬ Meets T U s.boards l (T.coins + k)) ∧ Fr h h' ∧ rowAt h' h.next = some [.slice p1 s.offs.length c1, .slice p2 s.boards.length c2, .slice (some ⟨bt, ot, spt⟩) s.tars.length c3])
      ⟨0, by omega, by omega, by simp [upd_at, g1], by simp [upd_at, g3], by simp [upd_at, g4], by simp [upd_at, g10], by simp [upd_at, g11], by simp [upd_at, g42], by simp [upd_at], by simp [upd_at], fun q => absurd q (by omega), fun q => absurd q (by omega), fr, r'⟩ ?_
    clear fr r' g1 g3 g4 g10 g11 g42
    rintro m' f h' ⟨n, hn2, rfl, g1, g3, g4, g10, g11, g42, g51, g52, lo, hi, fr, r'⟩ ih2
    have k' := fr.ok
    have rrt' := fr.row' hk rrt
    have tl : T.cells.length = 5 := rfl
    have ta : allOne T.cells = true := rfl
    have l0 : decide (((0 : Nat) : Int) < 2) = true := rfl
    have l1 : decide (((1 : Nat) : Int) < 2) = true := rfl
    have l2 : decide (((2 : Nat) : Int) < 2) = false := rfl
    have v0 : IntKind.i64.wrap (((0 : Nat) : Int) + 1) = ((1 : Nat) : Int) := rfl
    have v1 : IntKind.i64.wrap (((1 : Nat) : Int) + 1) = ((2 : Nat) : Int) := rfl
    have hn : n = 0 ∨ n = 1 ∨ n = 2 := by omega
    rcases hn with rfl | rfl | rfl
    · have ix : aIndex CC 113 (.agg ⟨[.int .i64 (T.coins - k), .int .i64 (T.coins + k)]⟩) (.int .i64 ((0 : Nat) : Int)) = some (.int .i64 (T.coins - (k : Int))) := xi_113_0 _
      have hset : T.cells.set 1 (.int .i64 (T.coins - (k : Int))) = (T.coin (T.coins - (k : Int))).cells := rfl
      simp (maxDischargeDepth := 30) only [AMS, AMH, ↓reduceIte, Nat.reduceLT, Nat.reduceEqDiff, Nat.reduceAdd, Nat.reduceMul, reduceCtorEq, decide_true, decide_false, Nat.reduceLeDiff, Int.reduceNe, Int.reduceEq, ne_eq, not_false_eq_true, and_self, bld_113, fp_26_2, fp_41_1, ia_113_0, ia_113_1, ix_24, ld_24, ld_26, ld_3, ld_41, part_3, part_41, size_113, size_24, size_3, size_41, und_113, und_24, und_3, xi_113_0, xi_113_1, zero_113, zero_24, zero_3, zero_41, k', g1, g3, g4, g10, g11, g42, g51, g52, l0, ix, r', hil, rrt', et, tl, ta, hset]
      have fbh : Fr h' (((h'.alloc (.row [.int .i64 0, .int .i64 0, .int .i64 0, .int .i64 0, .bool false] 0 true)).set h'.next (.row T.cells 0 true)).set h'.next (.row (T.coin (T.coins - (k : Int))).cells 0 true)) :=
        (((Fr.refl k').alloc _).set (Nat.le_refl _) (by simp) _).set (Nat.le_refl _) (by simp) _
      have rbt : rowAt (((h'.alloc (.row [.int .i64 0, .int .i64 0, .int .i64 0, .int .i64 0, .bool false] 0 true)).set h'.next (.row T.cells 0 true)).set h'.next (.row (T.coin (T.coins - (k : Int))).cells 0 true)) h'.next = some (T.coin (T.coins - (k : Int))).cells := rowAt_set_self _ _ _ _ _
      generalize (((h'.alloc (.row [.int .i64 0, .int .i64 0, .int .i64 0, .int .i64 0, .bool false] 0 true)).set h'.next (.row T.cells 0 true)).set h'.next (.row (T.coin (T.coins - (k : Int))).cells 0 true)) = H at fbh rbt ⊢
      have fb := fr.trans fbh
      have rb := fbh.row' k' r'
      have kt : take? (T.coin (T.coins - (k : Int))).cells 0 5 = some (T.coin (T.coins - (k : Int))).cells := rfl
      have kc : (T.coin (T.coins - (k : Int))).cells.all selfC = true := rfl
      refine W_draw [(true, 0), (true, 1), (true, 2), (true, 3), (true, 4), (true, 6), (true, 8), (true, 5), (false, 6), (true, 7), (true, 9), (true, 10)] (by kernel_rfl) ?_
      simp (maxDischargeDepth := 30) only [AMS, AMH, ↓reduceIte, Nat.reduceLT, Nat.reduceEqDiff, Nat.reduceAdd, Nat.reduceMul, reduceCtorEq, decide_true, decide_false, Nat.reduceLeDiff, Int.reduceNe, Int.reduceEq, ne_eq, not_false_eq_true, and_self, bld_113, fp_26_2, fp_41_1, ia_113_0, ia_113_1, ix_24, ld_24, ld_26, ld_3, ld_41, part_3, part_41, size_113, size_24, size_3, size_41, und_113, und_24, und_3, xi_113_0, xi_113_1, zero_113, zero_24, zero_3, zero_41, fb.ok, rbt, kt]
      refine W_callP (isTariff_88 (T.coin (T.coins - (k : Int))) H fb.ok) ?_
      rintro _ h3 ⟨rfl, fr3⟩
      have f3 := fb.trans fr3
      have r3 := fr3.row' fb.ok rb
      have rt3 := fr3.row' fb.ok rbt
      cases hok : (T.coin (T.coins - (k : Int))).ok with
      | false =>
        simp (maxDischargeDepth := 30) only [AMS, AMH, ↓reduceIte, Nat.reduceLT, Nat.reduceEqDiff, Nat.reduceAdd, Nat.reduceMul, reduceCtorEq, decide_true, decide_false, Nat.reduceLeDiff, Int.reduceNe, Int.reduceEq, ne_eq, not_false_eq_true, and_self, AMR, bld_113, fp_26_2, fp_41_1, ia_113_0, ia_113_1, ix_24, ld_24, ld_26, ld_3, ld_41, part_3, part_41, size_113, size_24, size_3, size_41, und_113, und_24, und_3, xi_113_0, xi_113_1, zero_113, zero_24, zero_3, zero_41, f3.ok, r3, rt3, kt, kc, boolIs_undef, g52, v0]
        refine ih2 (2 - (0 + 1)) _ _ (by omega) ?_
        exact ⟨0 + 1, by omega, rfl, by simp [upd_at, g1], by simp [upd_at, g3], by simp [upd_at, g4], by simp [upd_at, g10], by simp [upd_at, g11], by simp [upd_at, g42], by simp [upd_at, g51], by simp [upd_at], (fun _ q1 q2 => by rw [Tar.coin_ok tok q1 q2] at hok; cases hok), fun q => absurd q (by omega), f3, r3⟩
      | true =>
        simp (maxDischargeDepth := 30) only [AMS, AMH, ↓reduceIte, Nat.reduceLT, Nat.reduceEqDiff, Nat.reduceAdd, Nat.reduceMul, reduceCtorEq, decide_true, decide_false, Nat.reduceLeDiff, Int.reduceNe, Int.reduceEq, ne_eq, not_false_eq_true, and_self, AMR, bld_113, fp_26_2, fp_41_1, ia_113_0, ia_113_1, ix_24, ld_24, ld_26, ld_3, ld_41, part_3, part_41, size_113, size_24, size_3, size_41, und_113, und_24, und_3, xi_113_0, xi_113_1, zero_113, zero_24, zero_3, zero_41, f3.ok, r3, rt3, kt, kc, g3, g4]
        refine W_callP (bill_72 f3.ok (hs'.fr hk f3) (hv'.fr hk f3)) ?_
        rintro bv h4 ⟨m, fr4, hm4, hb4, hmap⟩
        have f4 := f3.trans fr4
        have r4 := fr4.row' f3.ok r3
        have rt4 := fr4.row' f3.ok rt3
        simp (maxDischargeDepth := 30) only [AMS, AMH, ↓reduceIte, Nat.reduceLT, Nat.reduceEqDiff, Nat.reduceAdd, Nat.reduceMul, reduceCtorEq, decide_true, decide_false, Nat.reduceLeDiff, Int.reduceNe, Int.reduceEq, ne_eq, not_false_eq_true, and_self, AMR, bld_113, fp_26_2, fp_41_1, ia_113_0, ia_113_1, ix_24, ld_24, ld_26, ld_3, ld_41, part_3, part_41, size_113, size_24, size_3, size_41, und_113, und_24, und_3, xi_113_0, xi_113_1, zero_113, zero_24, zero_3, zero_41, f4.ok, r4, rt4, kt, kc, g3, g4]
        refine W_callP (paid_73 (t := T.coin (T.coins - (k : Int))) f4.ok (by have := f4.next; omega) hb4 hmap hok hll (by omega) fun x hx => by have := hqT x hx; omega) ?_
        rintro _ h5 ⟨rfl, F5⟩
        have f35 : Fr h3 h5 := F5.fr fr4 hm4
        have f5 := f3.trans f35
        have r5 := f35.row' f3.ok r3
        have rt5 := f35.row' f3.ok rt3
        have ck := Tar.ok_at hok
        simp only [Tar.coin] at ck
        cases hE : (paid (T.coin (T.coins - (k : Int))) s.boards l == paid U s.boards l) with
        | false =>
          have hne : ¬ Meets T U s.boards l (T.coins - (k : Int)) := fun q => by unfold Meets at q; rw [q] at hE; simp at hE
          simp (maxDischargeDepth := 30) only [AMS, AMH, ↓reduceIte, Nat.reduceLT, Nat.reduceEqDiff, Nat.reduceAdd, Nat.reduceMul, reduceCtorEq, decide_true, decide_false, Nat.reduceLeDiff, Int.reduceNe, Int.reduceEq, ne_eq, not_false_eq_true, and_self, AMR, bld_113, fp_26_2, fp_41_1, ia_113_0, ia_113_1, ix_24, ld_24, ld_26, ld_3, ld_41, part_3, part_41, size_113, size_24, size_3, size_41, und_113, und_24, und_3, xi_113_0, xi_113_1, zero_113, zero_24, zero_3, zero_41, f5.ok, r5, rt5, kt, kc, g3, g4, g11, hE, g52, v0]
          refine ih2 (2 - (0 + 1)) _ _ (by omega) ?_
          exact ⟨0 + 1, by omega, rfl, by simp [upd_at, g1], by simp [upd_at, g3], by simp [upd_at, g4], by simp [upd_at, g10], by simp [upd_at, g11], by simp [upd_at, g42], by simp [upd_at, g51], by simp [upd_at], fun _ _ _ => hne, fun q => absurd q (by omega), f5, r5⟩
        | true =>
          have heq : Meets T U s.boards l (T.coins - (k : Int)) := by unfold Meets; simpa using hE
          simp (maxDischargeDepth := 30) only [AMS, AMH, ↓reduceIte, Nat.reduceLT, Nat.reduceEqDiff, Nat.reduceAdd, Nat.reduceMul, reduceCtorEq, decide_true, decide_false, Nat.reduceLeDiff, Int.reduceNe, Int.reduceEq, ne_eq, not_false_eq_true, and_self, AMR, bld_113, fp_26_2, fp_41_1, ia_113_0, ia_113_1, ix_24, ld_24, ld_26, ld_3, ld_41, part_3, part_41, size_113, size_24, size_3, size_41, und_113, und_24, und_3, xi_113_0, xi_113_1, zero_113, zero_24, zero_3, zero_41, f5.ok, r5, rt5, kt, kc, g3, g4, g11, hE]
          exact ⟨.inl ⟨_, far.low (by omega) (by omega) (by omega) heq, rfl⟩, f5⟩
    · have ix : aIndex CC 113 (.agg ⟨[.int .i64 (T.coins - k), .int .i64 (T.coins + k)]⟩) (.int .i64 ((1 : Nat) : Int)) = some (.int .i64 (T.coins + (k : Int))) := xi_113_1 _
      have hset : T.cells.set 1 (.int .i64 (T.coins + (k : Int))) = (T.coin (T.coins + (k : Int))).cells := rfl
      simp (maxDischargeDepth := 30) only [AMS, AMH, ↓reduceIte, Nat.reduceLT, Nat.reduceEqDiff, Nat.reduceAdd, Nat.reduceMul, reduceCtorEq, decide_true, decide_false, Nat.reduceLeDiff, Int.reduceNe, Int.reduceEq, ne_eq, not_false_eq_true, and_self, bld_113, fp_26_2, fp_41_1, ia_113_0, ia_113_1, ix_24, ld_24, ld_26, ld_3, ld_41, part_3, part_41, size_113, size_24, size_3, size_41, und_113, und_24, und_3, xi_113_0, xi_113_1, zero_113, zero_24, zero_3, zero_41, k', g1, g3, g4, g10, g11, g42, g51, g52, l1, ix, r', hil, rrt', et, tl, ta, hset]
      have fbh : Fr h' (((h'.alloc (.row [.int .i64 0, .int .i64 0, .int .i64 0, .int .i64 0, .bool false] 0 true)).set h'.next (.row T.cells 0 true)).set h'.next (.row (T.coin (T.coins + (k : Int))).cells 0 true)) :=
        (((Fr.refl k').alloc _).set (Nat.le_refl _) (by simp) _).set (Nat.le_refl _) (by simp) _
      have rbt : rowAt (((h'.alloc (.row [.int .i64 0, .int .i64 0, .int .i64 0, .int .i64 0, .bool false] 0 true)).set h'.next (.row T.cells 0 true)).set h'.next (.row (T.coin (T.coins + (k : Int))).cells 0 true)) h'.next = some (T.coin (T.coins + (k : Int))).cells := rowAt_set_self _ _ _ _ _
      generalize (((h'.alloc (.row [.int .i64 0, .int .i64 0, .int .i64 0, .int .i64 0, .bool false] 0 true)).set h'.next (.row T.cells 0 true)).set h'.next (.row (T.coin (T.coins + (k : Int))).cells 0 true)) = H at fbh rbt ⊢
      have fb := fr.trans fbh
      have rb := fbh.row' k' r'
      have kt : take? (T.coin (T.coins + (k : Int))).cells 0 5 = some (T.coin (T.coins + (k : Int))).cells := rfl
      have kc : (T.coin (T.coins + (k : Int))).cells.all selfC = true := rfl
      refine W_draw [(true, 0), (true, 1), (true, 2), (true, 3), (true, 4), (true, 6), (true, 8), (true, 5), (false, 6), (true, 7), (true, 9), (true, 10)] (by kernel_rfl) ?_
      simp (maxDischargeDepth := 30) only [AMS, AMH, ↓reduceIte, Nat.reduceLT, Nat.reduceEqDiff, Nat.reduceAdd, Nat.reduceMul, reduceCtorEq, decide_true, decide_false, Nat.reduceLeDiff, Int.reduceNe, Int.reduceEq, ne_eq, not_false_eq_true, and_self, bld_113, fp_26_2, fp_41_1, ia_113_0, ia_113_1, ix_24, ld_24, ld_26, ld_3, ld_41, part_3, part_41, size_113, size_24, size_3, size_41, und_113, und_24, und_3, xi_113_0, xi_113_1, zero_113, zero_24, zero_3, zero_41, fb.ok, rbt, kt]
      refine W_callP (isTariff_88 (T.coin (T.coins + (k : Int))) H fb.ok) ?_
      rintro _ h3 ⟨rfl, fr3⟩
      have f3 := fb.trans fr3
      have r3 := fr3.row' fb.ok rb
      have rt3 := fr3.row' fb.ok rbt
      cases hok : (T.coin (T.coins + (k : Int))).ok with
      | false =>
        simp (maxDischargeDepth := 30) only [AMS, AMH, ↓reduceIte, Nat.reduceLT, Nat.reduceEqDiff, Nat.reduceAdd, Nat.reduceMul, reduceCtorEq, decide_true, decide_false, Nat.reduceLeDiff, Int.reduceNe, Int.reduceEq, ne_eq, not_false_eq_true, and_self, AMR, bld_113, fp_26_2, fp_41_1, ia_113_0, ia_113_1, ix_24, ld_24, ld_26, ld_3, ld_41, part_3, part_41, size_113, size_24, size_3, size_41, und_113, und_24, und_3, xi_113_0, xi_113_1, zero_113, zero_24, zero_3, zero_41, f3.ok, r3, rt3, kt, kc, boolIs_undef, g52, v1]
        refine ih2 (2 - (1 + 1)) _ _ (by omega) ?_
        exact ⟨1 + 1, by omega, rfl, by simp [upd_at, g1], by simp [upd_at, g3], by simp [upd_at, g4], by simp [upd_at, g10], by simp [upd_at, g11], by simp [upd_at, g42], by simp [upd_at, g51], by simp [upd_at], fun _ => lo (by omega), (fun _ q1 q2 => by rw [Tar.coin_ok tok q1 q2] at hok; cases hok), f3, r3⟩
      | true =>
        simp (maxDischargeDepth := 30) only [AMS, AMH, ↓reduceIte, Nat.reduceLT, Nat.reduceEqDiff, Nat.reduceAdd, Nat.reduceMul, reduceCtorEq, decide_true, decide_false, Nat.reduceLeDiff, Int.reduceNe, Int.reduceEq, ne_eq, not_false_eq_true, and_self, AMR, bld_113, fp_26_2, fp_41_1, ia_113_0, ia_113_1, ix_24, ld_24, ld_26, ld_3, ld_41, part_3, part_41, size_113, size_24, size_3, size_41, und_113, und_24, und_3, xi_113_0, xi_113_1, zero_113, zero_24, zero_3, zero_41, f3.ok, r3, rt3, kt, kc, g3, g4]
        refine W_callP (bill_72 f3.ok (hs'.fr hk f3) (hv'.fr hk f3)) ?_
        rintro bv h4 ⟨m, fr4, hm4, hb4, hmap⟩
        have f4 := f3.trans fr4
        have r4 := fr4.row' f3.ok r3
        have rt4 := fr4.row' f3.ok rt3
        simp (maxDischargeDepth := 30) only [AMS, AMH, ↓reduceIte, Nat.reduceLT, Nat.reduceEqDiff, Nat.reduceAdd, Nat.reduceMul, reduceCtorEq, decide_true, decide_false, Nat.reduceLeDiff, Int.reduceNe, Int.reduceEq, ne_eq, not_false_eq_true, and_self, AMR, bld_113, fp_26_2, fp_41_1, ia_113_0, ia_113_1, ix_24, ld_24, ld_26, ld_3, ld_41, part_3, part_41, size_113, size_24, size_3, size_41, und_113, und_24, und_3, xi_113_0, xi_113_1, zero_113, zero_24, zero_3, zero_41, f4.ok, r4, rt4, kt, kc, g3, g4]
        refine W_callP (paid_73 (t := T.coin (T.coins + (k : Int))) f4.ok (by have := f4.next; omega) hb4 hmap hok hll (by omega) fun x hx => by have := hqT x hx; omega) ?_
        rintro _ h5 ⟨rfl, F5⟩
        have f35 : Fr h3 h5 := F5.fr fr4 hm4
        have f5 := f3.trans f35
        have r5 := f35.row' f3.ok r3
        have rt5 := f35.row' f3.ok rt3
        have ck := Tar.ok_at hok
        simp only [Tar.coin] at ck
        cases hE : (paid (T.coin (T.coins + (k : Int))) s.boards l == paid U s.boards l) with
        | false =>
          have hne : ¬ Meets T U s.boards l (T.coins + (k : Int)) := fun q => by unfold Meets at q; rw [q] at hE; simp at hE
          simp (maxDischargeDepth := 30) only [AMS, AMH, ↓reduceIte, Nat.reduceLT, Nat.reduceEqDiff, Nat.reduceAdd, Nat.reduceMul, reduceCtorEq, decide_true, decide_false, Nat.reduceLeDiff, Int.reduceNe, Int.reduceEq, ne_eq, not_false_eq_true, and_self, AMR, bld_113, fp_26_2, fp_41_1, ia_113_0, ia_113_1, ix_24, ld_24, ld_26, ld_3, ld_41, part_3, part_41, size_113, size_24, size_3, size_41, und_113, und_24, und_3, xi_113_0, xi_113_1, zero_113, zero_24, zero_3, zero_41, f5.ok, r5, rt5, kt, kc, g3, g4, g11, hE, g52, v1]
          refine ih2 (2 - (1 + 1)) _ _ (by omega) ?_
          exact ⟨1 + 1, by omega, rfl, by simp [upd_at, g1], by simp [upd_at, g3], by simp [upd_at, g4], by simp [upd_at, g10], by simp [upd_at, g11], by simp [upd_at, g42], by simp [upd_at, g51], by simp [upd_at], fun _ => lo (by omega), fun _ _ _ => hne, f5, r5⟩
        | true =>
          have heq : Meets T U s.boards l (T.coins + (k : Int)) := by unfold Meets; simpa using hE
          simp (maxDischargeDepth := 30) only [AMS, AMH, ↓reduceIte, Nat.reduceLT, Nat.reduceEqDiff, Nat.reduceAdd, Nat.reduceMul, reduceCtorEq, decide_true, decide_false, Nat.reduceLeDiff, Int.reduceNe, Int.reduceEq, ne_eq, not_false_eq_true, and_self, AMR, bld_113, fp_26_2, fp_41_1, ia_113_0, ia_113_1, ix_24, ld_24, ld_26, ld_3, ld_41, part_3, part_41, size_113, size_24, size_3, size_41, und_113, und_24, und_3, xi_113_0, xi_113_1, zero_113, zero_24, zero_3, zero_41, f5.ok, r5, rt5, kt, kc, g3, g4, g11, hE]
          exact ⟨.inl ⟨_, far.high (by omega) (lo (by omega)) (by omega) (by omega) heq, rfl⟩, f5⟩
    · have wk : IntKind.i64.wrap ((k : Int) + 1) = ((k + 1 : Nat) : Int) := by rw [wrap64 (by omega) (by omega)]; omega
      simp (maxDischargeDepth := 30) only [AMS, AMH, ↓reduceIte, Nat.reduceLT, Nat.reduceEqDiff, Nat.reduceAdd, Nat.reduceMul, reduceCtorEq, decide_true, decide_false, Nat.reduceLeDiff, Int.reduceNe, Int.reduceEq, ne_eq, not_false_eq_true, and_self, bld_113, fp_26_2, fp_41_1, ia_113_0, ia_113_1, ix_24, ld_24, ld_26, ld_3, ld_41, part_3, part_41, size_113, size_24, size_3, size_41, und_113, und_24, und_3, xi_113_0, xi_113_1, zero_113, zero_24, zero_3, zero_41, k', g1, g3, g4, g10, g11, g42, g51, g52, l2, wk]
      refine ih (501 - (k + 1)) _ _ (by omega) ?_
      exact ⟨k + 1, by omega, rfl, by simp [upd_at, g1], by simp [upd_at, g3], by simp [upd_at, g4], by simp [upd_at, g10], by simp [upd_at, g11], by simp [upd_at], by have := far.next (lo (by omega)) (hi (by omega)); simpa using this, fr, r'⟩
  · have hkE : k = 501 := by omega
    subst hkE
    have lt : decide (((501 : Nat) : Int) < 501) = false := by decide
    simp (maxDischargeDepth := 30) only [AMS, AMH, ↓reduceIte, Nat.reduceLT, Nat.reduceEqDiff, Nat.reduceAdd, Nat.reduceMul, reduceCtorEq, decide_true, decide_false, Nat.reduceLeDiff, Int.reduceNe, Int.reduceEq, ne_eq, not_false_eq_true, and_self, bld_113, fp_26_2, fp_41_1, ia_113_0, ia_113_1, ix_24, ld_24, ld_26, ld_3, ld_41, part_3, part_41, size_113, size_24, size_3, size_41, und_113, und_24, und_3, xi_113_0, xi_113_1, zero_113, zero_24, zero_3, zero_41, g42, lt]
    exact ⟨.inr ⟨far.all (by omega) (by omega), trivial⟩, fr⟩
end Go.Am
