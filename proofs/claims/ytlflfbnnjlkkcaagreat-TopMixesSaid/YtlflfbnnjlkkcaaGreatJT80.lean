/- The abstract machine over this program: whether a mixture may match in a pigment after some years. -/
import Derived.Test.YtlflfbnnjlkkcaaGreatJT78
set_option linter.unusedSimpArgs false
set_option linter.unusedVariables false
namespace Go.Am
open Go Go.Proofs
theorem F236_T80 : type_of% (And.intro @fp_151_0 <| And.intro @fp_151_1 <| And.intro @fp_25_0 <| And.intro @fp_25_1 <| And.intro @fp_43_0 <| And.intro @fp_43_1 <| And.intro @fp_43_3 <| And.intro @ia_39_0 <| And.intro @ia_39_1 <| And.intro @ia_39_2 <| And.intro @ia_40_0 <| And.intro @ia_40_1 <| And.intro @ia_40_2 <| And.intro @ld_151 <| And.intro @ld_22 <| And.intro @ld_25 <| And.intro @ld_3 <| And.intro @part_25 <| And.intro @part_3 <| And.intro @size_25 <| And.intro @size_3 <| And.intro @size_39 <| And.intro @size_40 <| And.intro @und_39 <| And.intro @und_40 <| And.intro @xi_39_0 <| And.intro @xi_39_1 <| And.intro @xi_39_2 <| And.intro @zero_25 <| And.intro @zero_39 @zero_40) := And.intro @fp_151_0 <| And.intro @fp_151_1 <| And.intro @fp_25_0 <| And.intro @fp_25_1 <| And.intro @fp_43_0 <| And.intro @fp_43_1 <| And.intro @fp_43_3 <| And.intro @ia_39_0 <| And.intro @ia_39_1 <| And.intro @ia_39_2 <| And.intro @ia_40_0 <| And.intro @ia_40_1 <| And.intro @ia_40_2 <| And.intro @ld_151 <| And.intro @ld_22 <| And.intro @ld_25 <| And.intro @ld_3 <| And.intro @part_25 <| And.intro @part_3 <| And.intro @size_25 <| And.intro @size_3 <| And.intro @size_39 <| And.intro @size_40 <| And.intro @und_39 <| And.intro @und_40 <| And.intro @xi_39_0 <| And.intro @xi_39_1 <| And.intro @xi_39_2 <| And.intro @zero_25 <| And.intro @zero_39 @zero_40

def mayV (lo hi parts off o y n : Int) : Bool := decide (lo ≤ parts * leftP o y n + parts * off) && decide (hi ≥ parts * leftP o y n - parts * off)
def mayN (lo hi parts off o y : Int) : Nat → Int → Bool
  | 0, _ => false
  | k + 1, n => mayV lo hi parts off o y n || mayN lo hi parts off o y k (n + 1)
set_option maxRecDepth 10000 in
set_option maxHeartbeats 2000000 in
theorem may_0 {v w : Value} {s : TintS} {l : List Int} {y : Int} {h : Heap} (hk : HOK h) (hp : 0 < h.next) (hv : LS h v s.tins Tin.cells 6) (hw : LS h w l ints 1) (G : s.Good) (M : MixGood s l) (hy : 0 ≤ y ∧ y ≤ 20) :
    CW CC 236 [.agg ⟨potC s v w⟩, .int .i64 0, .int .i64 y] h fun r h' => r = .bool (mayN (sumI (prods (fun t => t.a.lo) l s.tins)) (sumI (prods (fun t => t.a.hi) l s.tins)) (sumI l) s.off s.o1 y (s.f1.hi - s.f1.lo + 1).toNat s.f1.lo) ∧ Fr h h' := by
  have hl4 : l.length ≤ 4 := by rw [M.len]; have := of_decide_eq_true G.tins; omega
  obtain ⟨ho, hf, ha⟩ := G.parts 0 (by omega)
  have ho : inP s.o1 0 99 = true := ho
  have hf : spanP s.f1.lo s.f1.hi 9 = true := hf
  have bo := of_decide_eq_true ho
  have bf := span_b hf
  have bOff := of_decide_eq_true G.off
  have bP := of_decide_eq_true M.sum
  obtain ⟨L, hL⟩ : ∃ L, L = (sumI (prods (fun t => t.a.lo) l s.tins)) := ⟨_, rfl⟩
  obtain ⟨H, hH⟩ : ∃ H, H = (sumI (prods (fun t => t.a.hi) l s.tins)) := ⟨_, rfl⟩
  obtain ⟨P, hP⟩ : ∃ P, P = sumI l := ⟨_, rfl⟩
  have has := fun {h : Heap} (hk : HOK h) (hp : 0 < h.next) (hv : LS h v s.tins Tin.cells 6) (hw : LS h w l ints 1) => has_0 hk hp hv hw G M
  rw [← hL, ← hH] at has
  rw [← hL, ← hH, ← hP]
  have bo2 : 0 ≤ P * s.off ∧ P * s.off ≤ 8 * 20 := ⟨Int.mul_nonneg (by omega) (by omega), Int.mul_le_mul (by omega) (by omega) (by omega) (by omega)⟩
  obtain ⟨q, c, rfl, _⟩ := hv.open
  obtain ⟨q', c', rfl, _⟩ := hw.open
  refine CW_in Tryz.f236 (by kernel_rfl) (by kernel_rfl) rfl rfl ?_
  simp only [Tryz.f236]
  obtain ⟨R, hR⟩ : ∃ R, R = potC s (.slice q s.tins.length c) (.slice q' l.length c') := ⟨_, rfl⟩
  have t1 : take? R 0 14 = some R := by rw [hR]; rfl
  have tf : take? R 3 2 = some [.int .i64 s.f1.lo, .int .i64 s.f1.hi] := by rw [hR]; rfl
  have co : R[0]? = some (.int .i64 s.o1) := by rw [hR]; rfl
  have c11 : R[11]? = some (.int .i64 s.off) := by rw [hR]; rfl
  have c13 : R[13]? = some (.slice q' l.length c') := by rw [hR]; rfl
  have sf : R.all selfC = true := by rw [hR]; rfl
  rw [← hR] at has
  rw [← hR]
  clear hR
  have f1 : Fr h (h.alloc (.row R 0 true)) := (Fr.refl hk).alloc _
  have r1 : rowAt (h.alloc (.row R 0 true)) h.next = some R := rowAt_new _ _ _ _
  have m1 : (h.alloc (.row R 0 true)).next = h.next + 1 := by simp
  simp (maxDischargeDepth := 30) only [AMS, AMH, ↓reduceIte, Nat.reduceLT, Nat.reduceEqDiff, Nat.reduceAdd, Nat.reduceMul, reduceCtorEq, decide_true, decide_false, Nat.reduceLeDiff, Int.reduceNe, Int.reduceEq, ne_eq, not_false_eq_true, and_self, F236_T80, hk]
  generalize (h.alloc (.row R 0 true)) = h1 at f1 r1 m1 ⊢
  have k1 := f1.ok
  refine W_draw [(true, 0), (true, 1), (true, 3), (true, 4), (true, 6), (true, 2), (false, 4), (false, 6), (true, 5), (false, 6), (true, 7), (true, 8)] (by kernel_rfl) ?_
  have fz := (Fr.refl k1).alloc (.row [.int .i64 0, .int .i64 0] 0 true)
  have z1 : (h1.alloc (.row [.int .i64 0, .int .i64 0] 0 true)).get h1.next = some (.row [.int .i64 0, .int .i64 0] 0 true) := get_at _ rfl
  have m2 : (h1.alloc (.row [.int .i64 0, .int .i64 0] 0 true)).next = h1.next + 1 := by simp
  simp (maxDischargeDepth := 30) only [AMS, AMH, ↓reduceIte, Nat.reduceLT, Nat.reduceEqDiff, Nat.reduceAdd, Nat.reduceMul, reduceCtorEq, decide_true, decide_false, Nat.reduceLeDiff, Int.reduceNe, Int.reduceEq, ne_eq, not_false_eq_true, and_self, AMR, F236_T80, k1, r1, t1, c13, sf]
  generalize (h1.alloc (.row [.int .i64 0, .int .i64 0] 0 true)) = h2 at fz z1 m2 ⊢
  have k2 := fz.ok
  have r2 := fz.row' k1 r1
  have f2 := f1.trans fz
  refine W_callP (has k2 (by omega) (hv.fr hk f2) (hw.fr hk f2)) ?_
  rintro _ h3 ⟨rfl, fr3⟩
  have f3 := f2.trans fr3
  have k3 := fr3.ok
  have r3 := fr3.row' k2 r2
  have y1 := fr3.get' k2 z1
  simp (maxDischargeDepth := 30) only [AMS, AMH, ↓reduceIte, Nat.reduceLT, Nat.reduceEqDiff, Nat.reduceAdd, Nat.reduceMul, reduceCtorEq, decide_true, decide_false, Nat.reduceLeDiff, Int.reduceNe, Int.reduceEq, ne_eq, not_false_eq_true, and_self, AMR, F236_T80, k3, r3, t1, c13, sf, y1]
  refine W_callP (sum_t _ (hw.fr hk f3) (by omega) M.bound) ?_
  rintro _ h3 ⟨rfl, rfl⟩
  rw [← hP]
  have fs : Fr h1 (h3.set h1.next (.row [.int .i64 L, .int .i64 H] 0 true)) := (fz.trans fr3).set (Nat.le_refl _) (get_lt k3 y1) _
  have v1 : rowAt (h3.set h1.next (.row [.int .i64 L, .int .i64 H] 0 true)) h1.next = some [.int .i64 L, .int .i64 H] := rowAt_set_self _ _ _ _ _
  have r4 := fs.row' k1 r1
  simp (maxDischargeDepth := 30) only [AMS, AMH, ↓reduceIte, Nat.reduceLT, Nat.reduceEqDiff, Nat.reduceAdd, Nat.reduceMul, reduceCtorEq, decide_true, decide_false, Nat.reduceLeDiff, Int.reduceNe, Int.reduceEq, ne_eq, not_false_eq_true, and_self, AMR, F236_T80, k3, r3, t1, c13, sf, y1, List.set_cons_zero]
  generalize (h3.set h1.next (.row [.int .i64 L, .int .i64 H] 0 true)) = h4 at fs v1 r4 ⊢
  have k4 := fs.ok
  have fd := ((Fr.refl k4).alloc (.row [.int .i64 0, .int .i64 0] 0 true)).set (Nat.le_refl _) (by simp) (.row [.int .i64 s.f1.lo, .int .i64 s.f1.hi] 0 true)
  have d1 : rowAt ((h4.alloc (.row [.int .i64 0, .int .i64 0] 0 true)).set h4.next (.row [.int .i64 s.f1.lo, .int .i64 s.f1.hi] 0 true)) h4.next = some [.int .i64 s.f1.lo, .int .i64 s.f1.hi] := rowAt_set_self _ _ _ _ _
  have r5 := fd.row' k4 r4
  have v5 := fd.row' k4 v1
  simp (maxDischargeDepth := 30) only [AMS, AMH, ↓reduceIte, Nat.reduceLT, Nat.reduceEqDiff, Nat.reduceAdd, Nat.reduceMul, reduceCtorEq, decide_true, decide_false, Nat.reduceLeDiff, Int.reduceNe, Int.reduceEq, ne_eq, not_false_eq_true, and_self, F236_T80, k4, r4, tf, List.set_cons_zero]
  generalize ((h4.alloc (.row [.int .i64 0, .int .i64 0] 0 true)).set h4.next (.row [.int .i64 s.f1.lo, .int .i64 s.f1.hi] 0 true)) = h5 at fd d1 r5 v5 ⊢
  have k5 := fd.ok
  have f5 := (f1.trans fs).trans fd
  refine W_loop (s.f1.hi - s.f1.lo + 1).toNat (fun m f h' => ∃ n : Int, s.f1.lo ≤ n ∧ n ≤ s.f1.hi + 1 ∧ m = (s.f1.hi - n + 1).toNat ∧ f 1 = .int .i64 0 ∧ f 2 = .int .i64 y ∧ f 3 = .pointer (some ⟨h.next, 0, none⟩) ∧ f 7 = .pointer (some ⟨h1.next, 0, none⟩) ∧ f 8 = .int .i64 P ∧ f 9 = .pointer (some ⟨h4.next, 0, none⟩) ∧ f 10 = .int .i64 n ∧ mayN L H P s.off s.o1 y (s.f1.hi - n + 1).toNat n = mayN L H P s.off s.o1 y (s.f1.hi - s.f1.lo + 1).toNat s.f1.lo ∧ h' = h5)
    ⟨s.f1.lo, by omega, by omega, rfl, by simp [upd_at, argsFn_at], by simp [upd_at, argsFn_at], by simp [upd_at, argsFn_at], by simp [upd_at], by simp [upd_at], by simp [upd_at], by simp [upd_at], rfl, rfl⟩ ?_
  rintro m f h' ⟨n, hn1, hn2, rfl, g1, g2, g3, g7, g8, g9, g10, hm, rfl⟩ ih
  by_cases hnh : n ≤ s.f1.hi
  rotate_left
  · have d : decide (n ≤ s.f1.hi) = false := decide_eq_false hnh
    simp (maxDischargeDepth := 30) only [AMS, AMH, ↓reduceIte, Nat.reduceLT, Nat.reduceEqDiff, Nat.reduceAdd, Nat.reduceMul, reduceCtorEq, decide_true, decide_false, Nat.reduceLeDiff, Int.reduceNe, Int.reduceEq, ne_eq, not_false_eq_true, and_self, F236_T80, k5, d1, g1, g2, g3, g7, g8, g9, g10, d]
    rw [show (s.f1.hi - n + 1).toNat = 0 by omega] at hm
    exact ⟨by rw [← hm]; rfl, f5⟩
  have d : decide (n ≤ s.f1.hi) = true := decide_eq_true hnh
  have bl := left_b s.o1 y n bo hy ⟨by omega, by omega⟩
  have bx : 0 ≤ P * leftP s.o1 y n ∧ P * leftP s.o1 y n ≤ 8 * 99 := ⟨Int.mul_nonneg (by omega) (by omega), Int.mul_le_mul (by omega) (by omega) (by omega) (by omega)⟩
  have w1 : IntKind.i64.wrap (P * leftP s.o1 y n) = P * leftP s.o1 y n := wrap64 (by omega) (by omega)
  have w2 : IntKind.i64.wrap (P * s.off) = P * s.off := wrap64 (by omega) (by omega)
  have w3 : IntKind.i64.wrap (P * leftP s.o1 y n + P * s.off) = P * leftP s.o1 y n + P * s.off := wrap64 (by omega) (by omega)
  have w4 : IntKind.i64.wrap (P * leftP s.o1 y n - P * s.off) = P * leftP s.o1 y n - P * s.off := wrap64 (by omega) (by omega)
  have up : IntKind.i64.wrap (n + 1) = n + 1 := wrap64 (by omega) (by omega)
  have e := left_t s.o1 y n bo hy ⟨by omega, by omega⟩
  have hs : (s.f1.hi - n + 1).toNat = (s.f1.hi - (n + 1) + 1).toNat + 1 := by omega
  have next : mayV L H P s.off s.o1 y n = false → mayN L H P s.off s.o1 y (s.f1.hi - (n + 1) + 1).toNat (n + 1) = mayN L H P s.off s.o1 y (s.f1.hi - s.f1.lo + 1).toNat s.f1.lo := fun q => by
    rw [← hm, hs]
    show _ = (mayV L H P s.off s.o1 y n || _)
    rw [q]; rfl
  cases h1' : decide (L ≤ P * leftP s.o1 y n + P * s.off) with
  | false =>
    simp (maxDischargeDepth := 30) only [AMS, AMH, ↓reduceIte, Nat.reduceLT, Nat.reduceEqDiff, Nat.reduceAdd, Nat.reduceMul, reduceCtorEq, decide_true, decide_false, Nat.reduceLeDiff, Int.reduceNe, Int.reduceEq, ne_eq, not_false_eq_true, and_self, F236_T80, k5, d1, r5, v5, co, c11, e, w1, w2, w3, w4, g1, g2, g3, g7, g8, g9, g10, d, h1', up]
    refine ih (s.f1.hi - (n + 1) + 1).toNat _ _ (by omega) ?_
    exact ⟨n + 1, by omega, by omega, rfl, by simp [upd_at, g1], by simp [upd_at, g2], by simp [upd_at, g3], by simp [upd_at, g7], by simp [upd_at, g8], by simp [upd_at, g9], by simp [upd_at], next (by unfold mayV; rw [h1']; rfl), rfl⟩
  | true =>
    cases h2' : decide (H ≥ P * leftP s.o1 y n - P * s.off) with
    | false =>
      simp (maxDischargeDepth := 30) only [AMS, AMH, ↓reduceIte, Nat.reduceLT, Nat.reduceEqDiff, Nat.reduceAdd, Nat.reduceMul, reduceCtorEq, decide_true, decide_false, Nat.reduceLeDiff, Int.reduceNe, Int.reduceEq, ne_eq, not_false_eq_true, and_self, F236_T80, k5, d1, r5, v5, co, c11, e, w1, w2, w3, w4, g1, g2, g3, g7, g8, g9, g10, d, h1', h2', up]
      refine ih (s.f1.hi - (n + 1) + 1).toNat _ _ (by omega) ?_
      exact ⟨n + 1, by omega, by omega, rfl, by simp [upd_at, g1], by simp [upd_at, g2], by simp [upd_at, g3], by simp [upd_at, g7], by simp [upd_at, g8], by simp [upd_at, g9], by simp [upd_at], next (by unfold mayV; rw [h1', h2']; rfl), rfl⟩
    | true =>
      simp (maxDischargeDepth := 30) only [AMS, AMH, ↓reduceIte, Nat.reduceLT, Nat.reduceEqDiff, Nat.reduceAdd, Nat.reduceMul, reduceCtorEq, decide_true, decide_false, Nat.reduceLeDiff, Int.reduceNe, Int.reduceEq, ne_eq, not_false_eq_true, and_self, F236_T80, k5, d1, r5, v5, co, c11, e, w1, w2, w3, w4, g1, g2, g3, g7, g8, g9, g10, d, h1', h2']
      refine ⟨?_, f5⟩
      rw [← hm, hs]
      show _ = Value.bool (mayV L H P s.off s.o1 y n || _)
      unfold mayV
      rw [h1', h2']; rfl
set_option maxRecDepth 10000 in
set_option maxHeartbeats 2000000 in
theorem may_1 {v w : Value} {s : TintS} {l : List Int} {y : Int} {h : Heap} (hk : HOK h) (hp : 0 < h.next) (hv : LS h v s.tins Tin.cells 6) (hw : LS h w l ints 1) (G : s.Good) (M : MixGood s l) (hy : 0 ≤ y ∧ y ≤ 20) :
    CW CC 236 [.agg ⟨potC s v w⟩, .int .i64 1, .int .i64 y] h fun r h' => r = .bool (mayN (sumI (prods (fun t => t.b.lo) l s.tins)) (sumI (prods (fun t => t.b.hi) l s.tins)) (sumI l) s.off s.o2 y (s.f2.hi - s.f2.lo + 1).toNat s.f2.lo) ∧ Fr h h' := by
  have hl4 : l.length ≤ 4 := by rw [M.len]; have := of_decide_eq_true G.tins; omega
  obtain ⟨ho, hf, ha⟩ := G.parts 1 (by omega)
  have ho : inP s.o2 0 99 = true := ho
  have hf : spanP s.f2.lo s.f2.hi 9 = true := hf
  have bo := of_decide_eq_true ho
  have bf := span_b hf
  have bOff := of_decide_eq_true G.off
  have bP := of_decide_eq_true M.sum
  obtain ⟨L, hL⟩ : ∃ L, L = (sumI (prods (fun t => t.b.lo) l s.tins)) := ⟨_, rfl⟩
  obtain ⟨H, hH⟩ : ∃ H, H = (sumI (prods (fun t => t.b.hi) l s.tins)) := ⟨_, rfl⟩
  obtain ⟨P, hP⟩ : ∃ P, P = sumI l := ⟨_, rfl⟩
  have has := fun {h : Heap} (hk : HOK h) (hp : 0 < h.next) (hv : LS h v s.tins Tin.cells 6) (hw : LS h w l ints 1) => has_1 hk hp hv hw G M
  rw [← hL, ← hH] at has
  rw [← hL, ← hH, ← hP]
  have bo2 : 0 ≤ P * s.off ∧ P * s.off ≤ 8 * 20 := ⟨Int.mul_nonneg (by omega) (by omega), Int.mul_le_mul (by omega) (by omega) (by omega) (by omega)⟩
  obtain ⟨q, c, rfl, _⟩ := hv.open
  obtain ⟨q', c', rfl, _⟩ := hw.open
  refine CW_in Tryz.f236 (by kernel_rfl) (by kernel_rfl) rfl rfl ?_
  simp only [Tryz.f236]
  obtain ⟨R, hR⟩ : ∃ R, R = potC s (.slice q s.tins.length c) (.slice q' l.length c') := ⟨_, rfl⟩
  have t1 : take? R 0 14 = some R := by rw [hR]; rfl
  have tf : take? R 5 2 = some [.int .i64 s.f2.lo, .int .i64 s.f2.hi] := by rw [hR]; rfl
  have co : R[1]? = some (.int .i64 s.o2) := by rw [hR]; rfl
  have c11 : R[11]? = some (.int .i64 s.off) := by rw [hR]; rfl
  have c13 : R[13]? = some (.slice q' l.length c') := by rw [hR]; rfl
  have sf : R.all selfC = true := by rw [hR]; rfl
  rw [← hR] at has
  rw [← hR]
  clear hR
  have f1 : Fr h (h.alloc (.row R 0 true)) := (Fr.refl hk).alloc _
  have r1 : rowAt (h.alloc (.row R 0 true)) h.next = some R := rowAt_new _ _ _ _
  have m1 : (h.alloc (.row R 0 true)).next = h.next + 1 := by simp
  simp (maxDischargeDepth := 30) only [AMS, AMH, ↓reduceIte, Nat.reduceLT, Nat.reduceEqDiff, Nat.reduceAdd, Nat.reduceMul, reduceCtorEq, decide_true, decide_false, Nat.reduceLeDiff, Int.reduceNe, Int.reduceEq, ne_eq, not_false_eq_true, and_self, F236_T80, hk]
  generalize (h.alloc (.row R 0 true)) = h1 at f1 r1 m1 ⊢
  have k1 := f1.ok
  refine W_draw [(true, 0), (true, 1), (true, 3), (true, 4), (true, 6), (true, 2), (false, 4), (false, 6), (true, 5), (false, 6), (true, 7), (true, 8)] (by kernel_rfl) ?_
  have fz := (Fr.refl k1).alloc (.row [.int .i64 0, .int .i64 0] 0 true)
  have z1 : (h1.alloc (.row [.int .i64 0, .int .i64 0] 0 true)).get h1.next = some (.row [.int .i64 0, .int .i64 0] 0 true) := get_at _ rfl
  have m2 : (h1.alloc (.row [.int .i64 0, .int .i64 0] 0 true)).next = h1.next + 1 := by simp
  simp (maxDischargeDepth := 30) only [AMS, AMH, ↓reduceIte, Nat.reduceLT, Nat.reduceEqDiff, Nat.reduceAdd, Nat.reduceMul, reduceCtorEq, decide_true, decide_false, Nat.reduceLeDiff, Int.reduceNe, Int.reduceEq, ne_eq, not_false_eq_true, and_self, AMR, F236_T80, k1, r1, t1, c13, sf]
  generalize (h1.alloc (.row [.int .i64 0, .int .i64 0] 0 true)) = h2 at fz z1 m2 ⊢
  have k2 := fz.ok
  have r2 := fz.row' k1 r1
  have f2 := f1.trans fz
  refine W_callP (has k2 (by omega) (hv.fr hk f2) (hw.fr hk f2)) ?_
  rintro _ h3 ⟨rfl, fr3⟩
  have f3 := f2.trans fr3
  have k3 := fr3.ok
  have r3 := fr3.row' k2 r2
  have y1 := fr3.get' k2 z1
  simp (maxDischargeDepth := 30) only [AMS, AMH, ↓reduceIte, Nat.reduceLT, Nat.reduceEqDiff, Nat.reduceAdd, Nat.reduceMul, reduceCtorEq, decide_true, decide_false, Nat.reduceLeDiff, Int.reduceNe, Int.reduceEq, ne_eq, not_false_eq_true, and_self, AMR, F236_T80, k3, r3, t1, c13, sf, y1]
  refine W_callP (sum_t _ (hw.fr hk f3) (by omega) M.bound) ?_
  rintro _ h3 ⟨rfl, rfl⟩
  rw [← hP]
  have fs : Fr h1 (h3.set h1.next (.row [.int .i64 L, .int .i64 H] 0 true)) := (fz.trans fr3).set (Nat.le_refl _) (get_lt k3 y1) _
  have v1 : rowAt (h3.set h1.next (.row [.int .i64 L, .int .i64 H] 0 true)) h1.next = some [.int .i64 L, .int .i64 H] := rowAt_set_self _ _ _ _ _
  have r4 := fs.row' k1 r1
  simp (maxDischargeDepth := 30) only [AMS, AMH, ↓reduceIte, Nat.reduceLT, Nat.reduceEqDiff, Nat.reduceAdd, Nat.reduceMul, reduceCtorEq, decide_true, decide_false, Nat.reduceLeDiff, Int.reduceNe, Int.reduceEq, ne_eq, not_false_eq_true, and_self, AMR, F236_T80, k3, r3, t1, c13, sf, y1, List.set_cons_zero]
  generalize (h3.set h1.next (.row [.int .i64 L, .int .i64 H] 0 true)) = h4 at fs v1 r4 ⊢
  have k4 := fs.ok
  have fd := ((Fr.refl k4).alloc (.row [.int .i64 0, .int .i64 0] 0 true)).set (Nat.le_refl _) (by simp) (.row [.int .i64 s.f2.lo, .int .i64 s.f2.hi] 0 true)
  have d1 : rowAt ((h4.alloc (.row [.int .i64 0, .int .i64 0] 0 true)).set h4.next (.row [.int .i64 s.f2.lo, .int .i64 s.f2.hi] 0 true)) h4.next = some [.int .i64 s.f2.lo, .int .i64 s.f2.hi] := rowAt_set_self _ _ _ _ _
  have r5 := fd.row' k4 r4
  have v5 := fd.row' k4 v1
  simp (maxDischargeDepth := 30) only [AMS, AMH, ↓reduceIte, Nat.reduceLT, Nat.reduceEqDiff, Nat.reduceAdd, Nat.reduceMul, reduceCtorEq, decide_true, decide_false, Nat.reduceLeDiff, Int.reduceNe, Int.reduceEq, ne_eq, not_false_eq_true, and_self, F236_T80, k4, r4, tf, List.set_cons_zero]
  generalize ((h4.alloc (.row [.int .i64 0, .int .i64 0] 0 true)).set h4.next (.row [.int .i64 s.f2.lo, .int .i64 s.f2.hi] 0 true)) = h5 at fd d1 r5 v5 ⊢
  have k5 := fd.ok
  have f5 := (f1.trans fs).trans fd
  refine W_loop (s.f2.hi - s.f2.lo + 1).toNat (fun m f h' => ∃ n : Int, s.f2.lo ≤ n ∧ n ≤ s.f2.hi + 1 ∧ m = (s.f2.hi - n + 1).toNat ∧ f 1 = .int .i64 1 ∧ f 2 = .int .i64 y ∧ f 3 = .pointer (some ⟨h.next, 0, none⟩) ∧ f 7 = .pointer (some ⟨h1.next, 0, none⟩) ∧ f 8 = .int .i64 P ∧ f 9 = .pointer (some ⟨h4.next, 0, none⟩) ∧ f 10 = .int .i64 n ∧ mayN L H P s.off s.o2 y (s.f2.hi - n + 1).toNat n = mayN L H P s.off s.o2 y (s.f2.hi - s.f2.lo + 1).toNat s.f2.lo ∧ h' = h5)
    ⟨s.f2.lo, by omega, by omega, rfl, by simp [upd_at, argsFn_at], by simp [upd_at, argsFn_at], by simp [upd_at, argsFn_at], by simp [upd_at], by simp [upd_at], by simp [upd_at], by simp [upd_at], rfl, rfl⟩ ?_
  rintro m f h' ⟨n, hn1, hn2, rfl, g1, g2, g3, g7, g8, g9, g10, hm, rfl⟩ ih
  by_cases hnh : n ≤ s.f2.hi
  rotate_left
  · have d : decide (n ≤ s.f2.hi) = false := decide_eq_false hnh
    simp (maxDischargeDepth := 30) only [AMS, AMH, ↓reduceIte, Nat.reduceLT, Nat.reduceEqDiff, Nat.reduceAdd, Nat.reduceMul, reduceCtorEq, decide_true, decide_false, Nat.reduceLeDiff, Int.reduceNe, Int.reduceEq, ne_eq, not_false_eq_true, and_self, F236_T80, k5, d1, g1, g2, g3, g7, g8, g9, g10, d]
    rw [show (s.f2.hi - n + 1).toNat = 0 by omega] at hm
    exact ⟨by rw [← hm]; rfl, f5⟩
  have d : decide (n ≤ s.f2.hi) = true := decide_eq_true hnh
  have bl := left_b s.o2 y n bo hy ⟨by omega, by omega⟩
  have bx : 0 ≤ P * leftP s.o2 y n ∧ P * leftP s.o2 y n ≤ 8 * 99 := ⟨Int.mul_nonneg (by omega) (by omega), Int.mul_le_mul (by omega) (by omega) (by omega) (by omega)⟩
  have w1 : IntKind.i64.wrap (P * leftP s.o2 y n) = P * leftP s.o2 y n := wrap64 (by omega) (by omega)
  have w2 : IntKind.i64.wrap (P * s.off) = P * s.off := wrap64 (by omega) (by omega)
  have w3 : IntKind.i64.wrap (P * leftP s.o2 y n + P * s.off) = P * leftP s.o2 y n + P * s.off := wrap64 (by omega) (by omega)
  have w4 : IntKind.i64.wrap (P * leftP s.o2 y n - P * s.off) = P * leftP s.o2 y n - P * s.off := wrap64 (by omega) (by omega)
  have up : IntKind.i64.wrap (n + 1) = n + 1 := wrap64 (by omega) (by omega)
  have e := left_t s.o2 y n bo hy ⟨by omega, by omega⟩
  have hs : (s.f2.hi - n + 1).toNat = (s.f2.hi - (n + 1) + 1).toNat + 1 := by omega
  have next : mayV L H P s.off s.o2 y n = false → mayN L H P s.off s.o2 y (s.f2.hi - (n + 1) + 1).toNat (n + 1) = mayN L H P s.off s.o2 y (s.f2.hi - s.f2.lo + 1).toNat s.f2.lo := fun q => by
    rw [← hm, hs]
    show _ = (mayV L H P s.off s.o2 y n || _)
    rw [q]; rfl
  cases h1' : decide (L ≤ P * leftP s.o2 y n + P * s.off) with
  | false =>
    simp (maxDischargeDepth := 30) only [AMS, AMH, ↓reduceIte, Nat.reduceLT, Nat.reduceEqDiff, Nat.reduceAdd, Nat.reduceMul, reduceCtorEq, decide_true, decide_false, Nat.reduceLeDiff, Int.reduceNe, Int.reduceEq, ne_eq, not_false_eq_true, and_self, F236_T80, k5, d1, r5, v5, co, c11, e, w1, w2, w3, w4, g1, g2, g3, g7, g8, g9, g10, d, h1', up]
    refine ih (s.f2.hi - (n + 1) + 1).toNat _ _ (by omega) ?_
    exact ⟨n + 1, by omega, by omega, rfl, by simp [upd_at, g1], by simp [upd_at, g2], by simp [upd_at, g3], by simp [upd_at, g7], by simp [upd_at, g8], by simp [upd_at, g9], by simp [upd_at], next (by unfold mayV; rw [h1']; rfl), rfl⟩
  | true =>
    cases h2' : decide (H ≥ P * leftP s.o2 y n - P * s.off) with
    | false =>
      simp (maxDischargeDepth := 30) only [AMS, AMH, ↓reduceIte, Nat.reduceLT, Nat.reduceEqDiff, Nat.reduceAdd, Nat.reduceMul, reduceCtorEq, decide_true, decide_false, Nat.reduceLeDiff, Int.reduceNe, Int.reduceEq, ne_eq, not_false_eq_true, and_self, F236_T80, k5, d1, r5, v5, co, c11, e, w1, w2, w3, w4, g1, g2, g3, g7, g8, g9, g10, d, h1', h2', up]
      refine ih (s.f2.hi - (n + 1) + 1).toNat _ _ (by omega) ?_
      exact ⟨n + 1, by omega, by omega, rfl, by simp [upd_at, g1], by simp [upd_at, g2], by simp [upd_at, g3], by simp [upd_at, g7], by simp [upd_at, g8], by simp [upd_at, g9], by simp [upd_at], next (by unfold mayV; rw [h1', h2']; rfl), rfl⟩
    | true =>
      simp (maxDischargeDepth := 30) only [AMS, AMH, ↓reduceIte, Nat.reduceLT, Nat.reduceEqDiff, Nat.reduceAdd, Nat.reduceMul, reduceCtorEq, decide_true, decide_false, Nat.reduceLeDiff, Int.reduceNe, Int.reduceEq, ne_eq, not_false_eq_true, and_self, F236_T80, k5, d1, r5, v5, co, c11, e, w1, w2, w3, w4, g1, g2, g3, g7, g8, g9, g10, d, h1', h2']
      refine ⟨?_, f5⟩
      rw [← hm, hs]
      show _ = Value.bool (mayV L H P s.off s.o2 y n || _)
      unfold mayV
      rw [h1', h2']; rfl
set_option maxRecDepth 10000 in
set_option maxHeartbeats 2000000 in
theorem may_2 {v w : Value} {s : TintS} {l : List Int} {y : Int} {h : Heap} (hk : HOK h) (hp : 0 < h.next) (hv : LS h v s.tins Tin.cells 6) (hw : LS h w l ints 1) (G : s.Good) (M : MixGood s l) (hy : 0 ≤ y ∧ y ≤ 20) :
    CW CC 236 [.agg ⟨potC s v w⟩, .int .i64 2, .int .i64 y] h fun r h' => r = .bool (mayN (sumI (prods (fun t => t.c.lo) l s.tins)) (sumI (prods (fun t => t.c.hi) l s.tins)) (sumI l) s.off s.o3 y (s.f3.hi - s.f3.lo + 1).toNat s.f3.lo) ∧ Fr h h' := by
  have hl4 : l.length ≤ 4 := by rw [M.len]; have := of_decide_eq_true G.tins; omega
  obtain ⟨ho, hf, ha⟩ := G.parts 2 (by omega)
  have ho : inP s.o3 0 99 = true := ho
  have hf : spanP s.f3.lo s.f3.hi 9 = true := hf
  have bo := of_decide_eq_true ho
  have bf := span_b hf
  have bOff := of_decide_eq_true G.off
  have bP := of_decide_eq_true M.sum
  obtain ⟨L, hL⟩ : ∃ L, L = (sumI (prods (fun t => t.c.lo) l s.tins)) := ⟨_, rfl⟩
  obtain ⟨H, hH⟩ : ∃ H, H = (sumI (prods (fun t => t.c.hi) l s.tins)) := ⟨_, rfl⟩
  obtain ⟨P, hP⟩ : ∃ P, P = sumI l := ⟨_, rfl⟩
  have has := fun {h : Heap} (hk : HOK h) (hp : 0 < h.next) (hv : LS h v s.tins Tin.cells 6) (hw : LS h w l ints 1) => has_2 hk hp hv hw G M
  rw [← hL, ← hH] at has
  rw [← hL, ← hH, ← hP]
  have bo2 : 0 ≤ P * s.off ∧ P * s.off ≤ 8 * 20 := ⟨Int.mul_nonneg (by omega) (by omega), Int.mul_le_mul (by omega) (by omega) (by omega) (by omega)⟩
  obtain ⟨q, c, rfl, _⟩ := hv.open
  obtain ⟨q', c', rfl, _⟩ := hw.open
  refine CW_in Tryz.f236 (by kernel_rfl) (by kernel_rfl) rfl rfl ?_
  simp only [Tryz.f236]
  obtain ⟨R, hR⟩ : ∃ R, R = potC s (.slice q s.tins.length c) (.slice q' l.length c') := ⟨_, rfl⟩
  have t1 : take? R 0 14 = some R := by rw [hR]; rfl
  have tf : take? R 7 2 = some [.int .i64 s.f3.lo, .int .i64 s.f3.hi] := by rw [hR]; rfl
  have co : R[2]? = some (.int .i64 s.o3) := by rw [hR]; rfl
  have c11 : R[11]? = some (.int .i64 s.off) := by rw [hR]; rfl
  have c13 : R[13]? = some (.slice q' l.length c') := by rw [hR]; rfl
  have sf : R.all selfC = true := by rw [hR]; rfl
  rw [← hR] at has
  rw [← hR]
  clear hR
  have f1 : Fr h (h.alloc (.row R 0 true)) := (Fr.refl hk).alloc _
  have r1 : rowAt (h.alloc (.row R 0 true)) h.next = some R := rowAt_new _ _ _ _
  have m1 : (h.alloc (.row R 0 true)).next = h.next + 1 := by simp
  simp (maxDischargeDepth := 30) only [AMS, AMH, ↓reduceIte, Nat.reduceLT, Nat.reduceEqDiff, Nat.reduceAdd, Nat.reduceMul, reduceCtorEq, decide_true, decide_false, Nat.reduceLeDiff, Int.reduceNe, Int.reduceEq, ne_eq, not_false_eq_true, and_self, F236_T80, hk]
  generalize (h.alloc (.row R 0 true)) = h1 at f1 r1 m1 ⊢
  have k1 := f1.ok
  refine W_draw [(true, 0), (true, 1), (true, 3), (true, 4), (true, 6), (true, 2), (false, 4), (false, 6), (true, 5), (false, 6), (true, 7), (true, 8)] (by kernel_rfl) ?_
  have fz := (Fr.refl k1).alloc (.row [.int .i64 0, .int .i64 0] 0 true)
  have z1 : (h1.alloc (.row [.int .i64 0, .int .i64 0] 0 true)).get h1.next = some (.row [.int .i64 0, .int .i64 0] 0 true) := get_at _ rfl
  have m2 : (h1.alloc (.row [.int .i64 0, .int .i64 0] 0 true)).next = h1.next + 1 := by simp
  simp (maxDischargeDepth := 30) only [AMS, AMH, ↓reduceIte, Nat.reduceLT, Nat.reduceEqDiff, Nat.reduceAdd, Nat.reduceMul, reduceCtorEq, decide_true, decide_false, Nat.reduceLeDiff, Int.reduceNe, Int.reduceEq, ne_eq, not_false_eq_true, and_self, AMR, F236_T80, k1, r1, t1, c13, sf]
  generalize (h1.alloc (.row [.int .i64 0, .int .i64 0] 0 true)) = h2 at fz z1 m2 ⊢
  have k2 := fz.ok
  have r2 := fz.row' k1 r1
  have f2 := f1.trans fz
  refine W_callP (has k2 (by omega) (hv.fr hk f2) (hw.fr hk f2)) ?_
  rintro _ h3 ⟨rfl, fr3⟩
  have f3 := f2.trans fr3
  have k3 := fr3.ok
  have r3 := fr3.row' k2 r2
  have y1 := fr3.get' k2 z1
  simp (maxDischargeDepth := 30) only [AMS, AMH, ↓reduceIte, Nat.reduceLT, Nat.reduceEqDiff, Nat.reduceAdd, Nat.reduceMul, reduceCtorEq, decide_true, decide_false, Nat.reduceLeDiff, Int.reduceNe, Int.reduceEq, ne_eq, not_false_eq_true, and_self, AMR, F236_T80, k3, r3, t1, c13, sf, y1]
  refine W_callP (sum_t _ (hw.fr hk f3) (by omega) M.bound) ?_
  rintro _ h3 ⟨rfl, rfl⟩
  rw [← hP]
  have fs : Fr h1 (h3.set h1.next (.row [.int .i64 L, .int .i64 H] 0 true)) := (fz.trans fr3).set (Nat.le_refl _) (get_lt k3 y1) _
  have v1 : rowAt (h3.set h1.next (.row [.int .i64 L, .int .i64 H] 0 true)) h1.next = some [.int .i64 L, .int .i64 H] := rowAt_set_self _ _ _ _ _
  have r4 := fs.row' k1 r1
  simp (maxDischargeDepth := 30) only [AMS, AMH, ↓reduceIte, Nat.reduceLT, Nat.reduceEqDiff, Nat.reduceAdd, Nat.reduceMul, reduceCtorEq, decide_true, decide_false, Nat.reduceLeDiff, Int.reduceNe, Int.reduceEq, ne_eq, not_false_eq_true, and_self, AMR, F236_T80, k3, r3, t1, c13, sf, y1, List.set_cons_zero]
  generalize (h3.set h1.next (.row [.int .i64 L, .int .i64 H] 0 true)) = h4 at fs v1 r4 ⊢
  have k4 := fs.ok
  have fd := ((Fr.refl k4).alloc (.row [.int .i64 0, .int .i64 0] 0 true)).set (Nat.le_refl _) (by simp) (.row [.int .i64 s.f3.lo, .int .i64 s.f3.hi] 0 true)
  have d1 : rowAt ((h4.alloc (.row [.int .i64 0, .int .i64 0] 0 true)).set h4.next (.row [.int .i64 s.f3.lo, .int .i64 s.f3.hi] 0 true)) h4.next = some [.int .i64 s.f3.lo, .int .i64 s.f3.hi] := rowAt_set_self _ _ _ _ _
  have r5 := fd.row' k4 r4
  have v5 := fd.row' k4 v1
  simp (maxDischargeDepth := 30) only [AMS, AMH, ↓reduceIte, Nat.reduceLT, Nat.reduceEqDiff, Nat.reduceAdd, Nat.reduceMul, reduceCtorEq, decide_true, decide_false, Nat.reduceLeDiff, Int.reduceNe, Int.reduceEq, ne_eq, not_false_eq_true, and_self, F236_T80, k4, r4, tf, List.set_cons_zero]
  generalize ((h4.alloc (.row [.int .i64 0, .int .i64 0] 0 true)).set h4.next (.row [.int .i64 s.f3.lo, .int .i64 s.f3.hi] 0 true)) = h5 at fd d1 r5 v5 ⊢
  have k5 := fd.ok
  have f5 := (f1.trans fs).trans fd
  refine W_loop (s.f3.hi - s.f3.lo + 1).toNat (fun m f h' => ∃ n : Int, s.f3.lo ≤ n ∧ n ≤ s.f3.hi + 1 ∧ m = (s.f3.hi - n + 1).toNat ∧ f 1 = .int .i64 2 ∧ f 2 = .int .i64 y ∧ f 3 = .pointer (some ⟨h.next, 0, none⟩) ∧ f 7 = .pointer (some ⟨h1.next, 0, none⟩) ∧ f 8 = .int .i64 P ∧ f 9 = .pointer (some ⟨h4.next, 0, none⟩) ∧ f 10 = .int .i64 n ∧ mayN L H P s.off s.o3 y (s.f3.hi - n + 1).toNat n = mayN L H P s.off s.o3 y (s.f3.hi - s.f3.lo + 1).toNat s.f3.lo ∧ h' = h5)
    ⟨s.f3.lo, by omega, by omega, rfl, by simp [upd_at, argsFn_at], by simp [upd_at, argsFn_at], by simp [upd_at, argsFn_at], by simp [upd_at], by simp [upd_at], by simp [upd_at], by simp [upd_at], rfl, rfl⟩ ?_
  rintro m f h' ⟨n, hn1, hn2, rfl, g1, g2, g3, g7, g8, g9, g10, hm, rfl⟩ ih
  by_cases hnh : n ≤ s.f3.hi
  rotate_left
  · have d : decide (n ≤ s.f3.hi) = false := decide_eq_false hnh
    simp (maxDischargeDepth := 30) only [AMS, AMH, ↓reduceIte, Nat.reduceLT, Nat.reduceEqDiff, Nat.reduceAdd, Nat.reduceMul, reduceCtorEq, decide_true, decide_false, Nat.reduceLeDiff, Int.reduceNe, Int.reduceEq, ne_eq, not_false_eq_true, and_self, F236_T80, k5, d1, g1, g2, g3, g7, g8, g9, g10, d]
    rw [show (s.f3.hi - n + 1).toNat = 0 by omega] at hm
    exact ⟨by rw [← hm]; rfl, f5⟩
  have d : decide (n ≤ s.f3.hi) = true := decide_eq_true hnh
  have bl := left_b s.o3 y n bo hy ⟨by omega, by omega⟩
  have bx : 0 ≤ P * leftP s.o3 y n ∧ P * leftP s.o3 y n ≤ 8 * 99 := ⟨Int.mul_nonneg (by omega) (by omega), Int.mul_le_mul (by omega) (by omega) (by omega) (by omega)⟩
  have w1 : IntKind.i64.wrap (P * leftP s.o3 y n) = P * leftP s.o3 y n := wrap64 (by omega) (by omega)
  have w2 : IntKind.i64.wrap (P * s.off) = P * s.off := wrap64 (by omega) (by omega)
  have w3 : IntKind.i64.wrap (P * leftP s.o3 y n + P * s.off) = P * leftP s.o3 y n + P * s.off := wrap64 (by omega) (by omega)
  have w4 : IntKind.i64.wrap (P * leftP s.o3 y n - P * s.off) = P * leftP s.o3 y n - P * s.off := wrap64 (by omega) (by omega)
  have up : IntKind.i64.wrap (n + 1) = n + 1 := wrap64 (by omega) (by omega)
  have e := left_t s.o3 y n bo hy ⟨by omega, by omega⟩
  have hs : (s.f3.hi - n + 1).toNat = (s.f3.hi - (n + 1) + 1).toNat + 1 := by omega
  have next : mayV L H P s.off s.o3 y n = false → mayN L H P s.off s.o3 y (s.f3.hi - (n + 1) + 1).toNat (n + 1) = mayN L H P s.off s.o3 y (s.f3.hi - s.f3.lo + 1).toNat s.f3.lo := fun q => by
    rw [← hm, hs]
    show _ = (mayV L H P s.off s.o3 y n || _)
    rw [q]; rfl
  cases h1' : decide (L ≤ P * leftP s.o3 y n + P * s.off) with
  | false =>
    simp (maxDischargeDepth := 30) only [AMS, AMH, ↓reduceIte, Nat.reduceLT, Nat.reduceEqDiff, Nat.reduceAdd, Nat.reduceMul, reduceCtorEq, decide_true, decide_false, Nat.reduceLeDiff, Int.reduceNe, Int.reduceEq, ne_eq, not_false_eq_true, and_self, F236_T80, k5, d1, r5, v5, co, c11, e, w1, w2, w3, w4, g1, g2, g3, g7, g8, g9, g10, d, h1', up]
    refine ih (s.f3.hi - (n + 1) + 1).toNat _ _ (by omega) ?_
    exact ⟨n + 1, by omega, by omega, rfl, by simp [upd_at, g1], by simp [upd_at, g2], by simp [upd_at, g3], by simp [upd_at, g7], by simp [upd_at, g8], by simp [upd_at, g9], by simp [upd_at], next (by unfold mayV; rw [h1']; rfl), rfl⟩
  | true =>
    cases h2' : decide (H ≥ P * leftP s.o3 y n - P * s.off) with
    | false =>
      simp (maxDischargeDepth := 30) only [AMS, AMH, ↓reduceIte, Nat.reduceLT, Nat.reduceEqDiff, Nat.reduceAdd, Nat.reduceMul, reduceCtorEq, decide_true, decide_false, Nat.reduceLeDiff, Int.reduceNe, Int.reduceEq, ne_eq, not_false_eq_true, and_self, F236_T80, k5, d1, r5, v5, co, c11, e, w1, w2, w3, w4, g1, g2, g3, g7, g8, g9, g10, d, h1', h2', up]
      refine ih (s.f3.hi - (n + 1) + 1).toNat _ _ (by omega) ?_
      exact ⟨n + 1, by omega, by omega, rfl, by simp [upd_at, g1], by simp [upd_at, g2], by simp [upd_at, g3], by simp [upd_at, g7], by simp [upd_at, g8], by simp [upd_at, g9], by simp [upd_at], next (by unfold mayV; rw [h1', h2']; rfl), rfl⟩
    | true =>
      simp (maxDischargeDepth := 30) only [AMS, AMH, ↓reduceIte, Nat.reduceLT, Nat.reduceEqDiff, Nat.reduceAdd, Nat.reduceMul, reduceCtorEq, decide_true, decide_false, Nat.reduceLeDiff, Int.reduceNe, Int.reduceEq, ne_eq, not_false_eq_true, and_self, F236_T80, k5, d1, r5, v5, co, c11, e, w1, w2, w3, w4, g1, g2, g3, g7, g8, g9, g10, d, h1', h2']
      refine ⟨?_, f5⟩
      rw [← hm, hs]
      show _ = Value.bool (mayV L H P s.off s.o3 y n || _)
      unfold mayV
      rw [h1', h2']; rfl
end Go.Am
