/- Parts T76, T77 of the abstract machine over this program, joined: what each part says stands at its head. -/
import Derived.Test.YtlflfbnnjlkkcaaGreatJT75
set_option linter.unusedSimpArgs false
set_option linter.unusedVariables false
/- The abstract machine over this program: between which bounds a mixture has of a pigment. -/
namespace Go.Am
open Go Go.Proofs
theorem F271_T76 : type_of% (And.intro @bld_25 <| And.intro @bld_433 <| And.intro @fld_25_0 <| And.intro @fld_25_1 <| And.intro @ia_433_0 <| And.intro @ia_433_1 <| And.intro @ld_151 <| And.intro @ld_25 <| And.intro @ld_356 <| And.intro @part_356 <| And.intro @size_25 <| And.intro @size_356 <| And.intro @size_433 <| And.intro @sp_25_0 <| And.intro @sp_25_1 <| And.intro @und_433 <| And.intro @xi_433_0 <| And.intro @xi_433_1 <| And.intro @zero_25 @zero_433) := And.intro @bld_25 <| And.intro @bld_433 <| And.intro @fld_25_0 <| And.intro @fld_25_1 <| And.intro @ia_433_0 <| And.intro @ia_433_1 <| And.intro @ld_151 <| And.intro @ld_25 <| And.intro @ld_356 <| And.intro @part_356 <| And.intro @size_25 <| And.intro @size_356 <| And.intro @size_433 <| And.intro @sp_25_0 <| And.intro @sp_25_1 <| And.intro @und_433 <| And.intro @xi_433_0 <| And.intro @xi_433_1 <| And.intro @zero_25 @zero_433

theorem sw_pot {R : List Value} (h : R.all selfC = true) : [Value.agg ⟨R⟩].all selfW = true := by
  simp [selfW, h]
set_option maxRecDepth 10000 in
set_option maxHeartbeats 1000000 in
theorem has_0 {v w : Value} {s : TintS} {l : List Int} {h : Heap} (hk : HOK h) (hp : 0 < h.next) (hv : LS h v s.tins Tin.cells 6) (hw : LS h w l ints 1) (G : s.Good) (M : MixGood s l) :
    CW CC 271 [.agg ⟨potC s v w⟩, .int .i64 0] h fun r h' => r = .agg ⟨[.int .i64 (sumI (prods (fun t => t.a.lo) l s.tins)), .int .i64 (sumI (prods (fun t => t.a.hi) l s.tins))]⟩ ∧ Fr h h' := by
  obtain ⟨q, c, rfl, hx⟩ := hv.open
  obtain ⟨q', c', rfl, hy⟩ := hw.open
  refine CW_in Tryz.f271 (by kernel_rfl) (by kernel_rfl) rfl rfl ?_
  simp only [Tryz.f271]
  obtain ⟨R, hR⟩ : ∃ R, R = potC s (.slice q s.tins.length c) (.slice q' l.length c') := ⟨_, rfl⟩
  have t1 : take? R 0 14 = some R := by rw [hR]; rfl
  have a1 : allOne R = true := by rw [hR]; rfl
  have n1 : R.length = 14 := by rw [hR]; rfl
  have sf : R.all selfC = true := by rw [hR]; rfl
  have least := fun {h : Heap} (hk : HOK h) (hp : 0 < h.next) (hv : LS h (.slice q s.tins.length c) s.tins Tin.cells 6) (hw : LS h (.slice q' l.length c') l ints 1) => least_0 hk hp hv hw G M
  have greatest := fun {h : Heap} (hk : HOK h) (hp : 0 < h.next) (hv : LS h (.slice q s.tins.length c) s.tins Tin.cells 6) (hw : LS h (.slice q' l.length c') l ints 1) => greatest_0 hk hp hv hw G M
  rw [← hR] at least greatest
  rw [← hR]
  clear hR
  have f1 : Fr h ((h.alloc (.row R 0 true)).alloc (.row [.int .i64 0, .int .i64 0] 0 true)) := ((Fr.refl hk).alloc _).alloc _
  have r1 : rowAt ((h.alloc (.row R 0 true)).alloc (.row [.int .i64 0, .int .i64 0] 0 true)) h.next = some R := by rw [rowAt_old _ (by simp), rowAt_new]
  have z1 : ((h.alloc (.row R 0 true)).alloc (.row [.int .i64 0, .int .i64 0] 0 true)).get (h.next + 1) = some (.row [.int .i64 0, .int .i64 0] 0 true) := get_at _ (by simp)
  have m1 : ((h.alloc (.row R 0 true)).alloc (.row [.int .i64 0, .int .i64 0] 0 true)).next = h.next + 2 := by simp
  simp (maxDischargeDepth := 30) only [AMS, AMH, ↓reduceIte, Nat.reduceLT, Nat.reduceEqDiff, Nat.reduceAdd, Nat.reduceMul, reduceCtorEq, decide_true, decide_false, Nat.reduceLeDiff, Int.reduceNe, Int.reduceEq, ne_eq, not_false_eq_true, and_self, F271_T76, hk]
  generalize ((h.alloc (.row R 0 true)).alloc (.row [.int .i64 0, .int .i64 0] 0 true)) = h1 at f1 r1 z1 m1 ⊢
  have k1 := f1.ok
  simp (maxDischargeDepth := 30) only [AMS, AMH, ↓reduceIte, Nat.reduceLT, Nat.reduceEqDiff, Nat.reduceAdd, Nat.reduceMul, reduceCtorEq, decide_true, decide_false, Nat.reduceLeDiff, Int.reduceNe, Int.reduceEq, ne_eq, not_false_eq_true, and_self, F271_T76, k1, r1, t1]
  have f2 : Fr h1 ((h1.alloc (.row [.nilFunc, .nilFunc] 0 true)).set h1.next (.row [.func (.func 305) ⟨[.agg ⟨R⟩]⟩ ⟨[]⟩, .func (.func 306) ⟨[.agg ⟨R⟩]⟩ ⟨[]⟩] 0 true)) := ((Fr.refl k1).alloc _).set (Nat.le_refl _) (by simp) _
  have r2 : rowAt ((h1.alloc (.row [.nilFunc, .nilFunc] 0 true)).set h1.next (.row [.func (.func 305) ⟨[.agg ⟨R⟩]⟩ ⟨[]⟩, .func (.func 306) ⟨[.agg ⟨R⟩]⟩ ⟨[]⟩] 0 true)) h1.next = some [.func (.func 305) ⟨[.agg ⟨R⟩]⟩ ⟨[]⟩, .func (.func 306) ⟨[.agg ⟨R⟩]⟩ ⟨[]⟩] := rowAt_set_self _ _ _ _ _
  have z2 := f2.get' k1 z1
  generalize ((h1.alloc (.row [.nilFunc, .nilFunc] 0 true)).set h1.next (.row [.func (.func 305) ⟨[.agg ⟨R⟩]⟩ ⟨[]⟩, .func (.func 306) ⟨[.agg ⟨R⟩]⟩ ⟨[]⟩] 0 true)) = h2 at f2 r2 z2 ⊢
  have f02 := f1.trans f2
  have k2 := f2.ok
  have sw : sameV (.func (.func 306) ⟨[.agg ⟨R⟩]⟩ ⟨[]⟩) (.func (.func 306) ⟨[.agg ⟨R⟩]⟩ ⟨[]⟩) = true := sameV_func (sw_pot sf) rfl
  refine W_draw [(true, 0), (true, 1), (true, 2), (true, 4), (true, 5), (true, 6), (true, 3), (false, 5), (true, 7), (true, 8), (true, 9)] (by kernel_rfl) ?_
  simp (maxDischargeDepth := 30) only [AMS, AMH, ↓reduceIte, Nat.reduceLT, Nat.reduceEqDiff, Nat.reduceAdd, Nat.reduceMul, reduceCtorEq, decide_true, decide_false, Nat.reduceLeDiff, Int.reduceNe, Int.reduceEq, ne_eq, not_false_eq_true, and_self, AMR, F271_T76, k2, r2, V_clo, List.append_nil, List.nil_append, List.cons_append]
  refine W_callP (least k2 (by have := f02.next; omega) (hv.fr hk f02) (hw.fr hk f02)) ?_
  rintro _ h3 ⟨rfl, fr3⟩
  have f03 := f02.trans fr3
  have k3 := fr3.ok
  have r3 := fr3.row' k2 r2
  have z3 := fr3.get' k2 z2
  simp (maxDischargeDepth := 30) only [AMS, AMH, ↓reduceIte, Nat.reduceLT, Nat.reduceEqDiff, Nat.reduceAdd, Nat.reduceMul, reduceCtorEq, decide_true, decide_false, Nat.reduceLeDiff, Int.reduceNe, Int.reduceEq, ne_eq, not_false_eq_true, and_self, AMR, F271_T76, k3, r3, sw, V_clo, List.append_nil, List.nil_append, List.cons_append]
  refine W_callP (greatest k3 (by have := f03.next; omega) (hv.fr hk f03) (hw.fr hk f03)) ?_
  rintro _ h4 ⟨rfl, fr4⟩
  have f04 := f03.trans fr4
  have k4 := fr4.ok
  have z4 := fr4.get' k3 z3
  simp (maxDischargeDepth := 30) only [AMS, AMH, ↓reduceIte, Nat.reduceLT, Nat.reduceEqDiff, Nat.reduceAdd, Nat.reduceMul, reduceCtorEq, decide_true, decide_false, Nat.reduceLeDiff, Int.reduceNe, Int.reduceEq, ne_eq, not_false_eq_true, and_self, AMR, F271_T76, k4, z4, List.set_cons_zero]
  exact ⟨by first | rfl | trivial, f04.set (by omega) (get_lt k4 z4) _⟩
set_option maxRecDepth 10000 in
set_option maxHeartbeats 1000000 in
theorem has_1 {v w : Value} {s : TintS} {l : List Int} {h : Heap} (hk : HOK h) (hp : 0 < h.next) (hv : LS h v s.tins Tin.cells 6) (hw : LS h w l ints 1) (G : s.Good) (M : MixGood s l) :
    CW CC 271 [.agg ⟨potC s v w⟩, .int .i64 1] h fun r h' => r = .agg ⟨[.int .i64 (sumI (prods (fun t => t.b.lo) l s.tins)), .int .i64 (sumI (prods (fun t => t.b.hi) l s.tins))]⟩ ∧ Fr h h' := by
  obtain ⟨q, c, rfl, hx⟩ := hv.open
  obtain ⟨q', c', rfl, hy⟩ := hw.open
  refine CW_in Tryz.f271 (by kernel_rfl) (by kernel_rfl) rfl rfl ?_
  simp only [Tryz.f271]
  obtain ⟨R, hR⟩ : ∃ R, R = potC s (.slice q s.tins.length c) (.slice q' l.length c') := ⟨_, rfl⟩
  have t1 : take? R 0 14 = some R := by rw [hR]; rfl
  have a1 : allOne R = true := by rw [hR]; rfl
  have n1 : R.length = 14 := by rw [hR]; rfl
  have sf : R.all selfC = true := by rw [hR]; rfl
  have least := fun {h : Heap} (hk : HOK h) (hp : 0 < h.next) (hv : LS h (.slice q s.tins.length c) s.tins Tin.cells 6) (hw : LS h (.slice q' l.length c') l ints 1) => least_1 hk hp hv hw G M
  have greatest := fun {h : Heap} (hk : HOK h) (hp : 0 < h.next) (hv : LS h (.slice q s.tins.length c) s.tins Tin.cells 6) (hw : LS h (.slice q' l.length c') l ints 1) => greatest_1 hk hp hv hw G M
  rw [← hR] at least greatest
  rw [← hR]
  clear hR
  have f1 : Fr h ((h.alloc (.row R 0 true)).alloc (.row [.int .i64 0, .int .i64 0] 0 true)) := ((Fr.refl hk).alloc _).alloc _
  have r1 : rowAt ((h.alloc (.row R 0 true)).alloc (.row [.int .i64 0, .int .i64 0] 0 true)) h.next = some R := by rw [rowAt_old _ (by simp), rowAt_new]
  have z1 : ((h.alloc (.row R 0 true)).alloc (.row [.int .i64 0, .int .i64 0] 0 true)).get (h.next + 1) = some (.row [.int .i64 0, .int .i64 0] 0 true) := get_at _ (by simp)
  have m1 : ((h.alloc (.row R 0 true)).alloc (.row [.int .i64 0, .int .i64 0] 0 true)).next = h.next + 2 := by simp
  simp (maxDischargeDepth := 30) only [AMS, AMH, ↓reduceIte, Nat.reduceLT, Nat.reduceEqDiff, Nat.reduceAdd, Nat.reduceMul, reduceCtorEq, decide_true, decide_false, Nat.reduceLeDiff, Int.reduceNe, Int.reduceEq, ne_eq, not_false_eq_true, and_self, F271_T76, hk]
  generalize ((h.alloc (.row R 0 true)).alloc (.row [.int .i64 0, .int .i64 0] 0 true)) = h1 at f1 r1 z1 m1 ⊢
  have k1 := f1.ok
  simp (maxDischargeDepth := 30) only [AMS, AMH, ↓reduceIte, Nat.reduceLT, Nat.reduceEqDiff, Nat.reduceAdd, Nat.reduceMul, reduceCtorEq, decide_true, decide_false, Nat.reduceLeDiff, Int.reduceNe, Int.reduceEq, ne_eq, not_false_eq_true, and_self, F271_T76, k1, r1, t1]
  have f2 : Fr h1 ((h1.alloc (.row [.nilFunc, .nilFunc] 0 true)).set h1.next (.row [.func (.func 305) ⟨[.agg ⟨R⟩]⟩ ⟨[]⟩, .func (.func 306) ⟨[.agg ⟨R⟩]⟩ ⟨[]⟩] 0 true)) := ((Fr.refl k1).alloc _).set (Nat.le_refl _) (by simp) _
  have r2 : rowAt ((h1.alloc (.row [.nilFunc, .nilFunc] 0 true)).set h1.next (.row [.func (.func 305) ⟨[.agg ⟨R⟩]⟩ ⟨[]⟩, .func (.func 306) ⟨[.agg ⟨R⟩]⟩ ⟨[]⟩] 0 true)) h1.next = some [.func (.func 305) ⟨[.agg ⟨R⟩]⟩ ⟨[]⟩, .func (.func 306) ⟨[.agg ⟨R⟩]⟩ ⟨[]⟩] := rowAt_set_self _ _ _ _ _
  have z2 := f2.get' k1 z1
  generalize ((h1.alloc (.row [.nilFunc, .nilFunc] 0 true)).set h1.next (.row [.func (.func 305) ⟨[.agg ⟨R⟩]⟩ ⟨[]⟩, .func (.func 306) ⟨[.agg ⟨R⟩]⟩ ⟨[]⟩] 0 true)) = h2 at f2 r2 z2 ⊢
  have f02 := f1.trans f2
  have k2 := f2.ok
  have sw : sameV (.func (.func 306) ⟨[.agg ⟨R⟩]⟩ ⟨[]⟩) (.func (.func 306) ⟨[.agg ⟨R⟩]⟩ ⟨[]⟩) = true := sameV_func (sw_pot sf) rfl
  refine W_draw [(true, 0), (true, 1), (true, 2), (true, 4), (true, 5), (true, 6), (true, 3), (false, 5), (true, 7), (true, 8), (true, 9)] (by kernel_rfl) ?_
  simp (maxDischargeDepth := 30) only [AMS, AMH, ↓reduceIte, Nat.reduceLT, Nat.reduceEqDiff, Nat.reduceAdd, Nat.reduceMul, reduceCtorEq, decide_true, decide_false, Nat.reduceLeDiff, Int.reduceNe, Int.reduceEq, ne_eq, not_false_eq_true, and_self, AMR, F271_T76, k2, r2, V_clo, List.append_nil, List.nil_append, List.cons_append]
  refine W_callP (least k2 (by have := f02.next; omega) (hv.fr hk f02) (hw.fr hk f02)) ?_
  rintro _ h3 ⟨rfl, fr3⟩
  have f03 := f02.trans fr3
  have k3 := fr3.ok
  have r3 := fr3.row' k2 r2
  have z3 := fr3.get' k2 z2
  simp (maxDischargeDepth := 30) only [AMS, AMH, ↓reduceIte, Nat.reduceLT, Nat.reduceEqDiff, Nat.reduceAdd, Nat.reduceMul, reduceCtorEq, decide_true, decide_false, Nat.reduceLeDiff, Int.reduceNe, Int.reduceEq, ne_eq, not_false_eq_true, and_self, AMR, F271_T76, k3, r3, sw, V_clo, List.append_nil, List.nil_append, List.cons_append]
  refine W_callP (greatest k3 (by have := f03.next; omega) (hv.fr hk f03) (hw.fr hk f03)) ?_
  rintro _ h4 ⟨rfl, fr4⟩
  have f04 := f03.trans fr4
  have k4 := fr4.ok
  have z4 := fr4.get' k3 z3
  simp (maxDischargeDepth := 30) only [AMS, AMH, ↓reduceIte, Nat.reduceLT, Nat.reduceEqDiff, Nat.reduceAdd, Nat.reduceMul, reduceCtorEq, decide_true, decide_false, Nat.reduceLeDiff, Int.reduceNe, Int.reduceEq, ne_eq, not_false_eq_true, and_self, AMR, F271_T76, k4, z4, List.set_cons_zero]
  exact ⟨by first | rfl | trivial, f04.set (by omega) (get_lt k4 z4) _⟩
set_option maxRecDepth 10000 in
set_option maxHeartbeats 1000000 in
theorem has_2 {v w : Value} {s : TintS} {l : List Int} {h : Heap} (hk : HOK h) (hp : 0 < h.next) (hv : LS h v s.tins Tin.cells 6) (hw : LS h w l ints 1) (G : s.Good) (M : MixGood s l) :
    CW CC 271 [.agg ⟨potC s v w⟩, .int .i64 2] h fun r h' => r = .agg ⟨[.int .i64 (sumI (prods (fun t => t.c.lo) l s.tins)), .int .i64 (sumI (prods (fun t => t.c.hi) l s.tins))]⟩ ∧ Fr h h' := by
  obtain ⟨q, c, rfl, hx⟩ := hv.open
  obtain ⟨q', c', rfl, hy⟩ := hw.open
  refine CW_in Tryz.f271 (by kernel_rfl) (by kernel_rfl) rfl rfl ?_
  simp only [Tryz.f271]
  obtain ⟨R, hR⟩ : ∃ R, R = potC s (.slice q s.tins.length c) (.slice q' l.length c') := ⟨_, rfl⟩
  have t1 : take? R 0 14 = some R := by rw [hR]; rfl
  have a1 : allOne R = true := by rw [hR]; rfl
  have n1 : R.length = 14 := by rw [hR]; rfl
  have sf : R.all selfC = true := by rw [hR]; rfl
  have least := fun {h : Heap} (hk : HOK h) (hp : 0 < h.next) (hv : LS h (.slice q s.tins.length c) s.tins Tin.cells 6) (hw : LS h (.slice q' l.length c') l ints 1) => least_2 hk hp hv hw G M
  have greatest := fun {h : Heap} (hk : HOK h) (hp : 0 < h.next) (hv : LS h (.slice q s.tins.length c) s.tins Tin.cells 6) (hw : LS h (.slice q' l.length c') l ints 1) => greatest_2 hk hp hv hw G M
  rw [← hR] at least greatest
  rw [← hR]
  clear hR
  have f1 : Fr h ((h.alloc (.row R 0 true)).alloc (.row [.int .i64 0, .int .i64 0] 0 true)) := ((Fr.refl hk).alloc _).alloc _
  have r1 : rowAt ((h.alloc (.row R 0 true)).alloc (.row [.int .i64 0, .int .i64 0] 0 true)) h.next = some R := by rw [rowAt_old _ (by simp), rowAt_new]
  have z1 : ((h.alloc (.row R 0 true)).alloc (.row [.int .i64 0, .int .i64 0] 0 true)).get (h.next + 1) = some (.row [.int .i64 0, .int .i64 0] 0 true) := get_at _ (by simp)
  have m1 : ((h.alloc (.row R 0 true)).alloc (.row [.int .i64 0, .int .i64 0] 0 true)).next = h.next + 2 := by simp
  simp (maxDischargeDepth := 30) only [AMS, AMH, ↓reduceIte, Nat.reduceLT, Nat.reduceEqDiff, Nat.reduceAdd, Nat.reduceMul, reduceCtorEq, decide_true, decide_false, Nat.reduceLeDiff, Int.reduceNe, Int.reduceEq, ne_eq, not_false_eq_true, and_self, F271_T76, hk]
  generalize ((h.alloc (.row R 0 true)).alloc (.row [.int .i64 0, .int .i64 0] 0 true)) = h1 at f1 r1 z1 m1 ⊢
  have k1 := f1.ok
  simp (maxDischargeDepth := 30) only [AMS, AMH, ↓reduceIte, Nat.reduceLT, Nat.reduceEqDiff, Nat.reduceAdd, Nat.reduceMul, reduceCtorEq, decide_true, decide_false, Nat.reduceLeDiff, Int.reduceNe, Int.reduceEq, ne_eq, not_false_eq_true, and_self, F271_T76, k1, r1, t1]
  have f2 : Fr h1 ((h1.alloc (.row [.nilFunc, .nilFunc] 0 true)).set h1.next (.row [.func (.func 305) ⟨[.agg ⟨R⟩]⟩ ⟨[]⟩, .func (.func 306) ⟨[.agg ⟨R⟩]⟩ ⟨[]⟩] 0 true)) := ((Fr.refl k1).alloc _).set (Nat.le_refl _) (by simp) _
  have r2 : rowAt ((h1.alloc (.row [.nilFunc, .nilFunc] 0 true)).set h1.next (.row [.func (.func 305) ⟨[.agg ⟨R⟩]⟩ ⟨[]⟩, .func (.func 306) ⟨[.agg ⟨R⟩]⟩ ⟨[]⟩] 0 true)) h1.next = some [.func (.func 305) ⟨[.agg ⟨R⟩]⟩ ⟨[]⟩, .func (.func 306) ⟨[.agg ⟨R⟩]⟩ ⟨[]⟩] := rowAt_set_self _ _ _ _ _
  have z2 := f2.get' k1 z1
  generalize ((h1.alloc (.row [.nilFunc, .nilFunc] 0 true)).set h1.next (.row [.func (.func 305) ⟨[.agg ⟨R⟩]⟩ ⟨[]⟩, .func (.func 306) ⟨[.agg ⟨R⟩]⟩ ⟨[]⟩] 0 true)) = h2 at f2 r2 z2 ⊢
  have f02 := f1.trans f2
  have k2 := f2.ok
  have sw : sameV (.func (.func 306) ⟨[.agg ⟨R⟩]⟩ ⟨[]⟩) (.func (.func 306) ⟨[.agg ⟨R⟩]⟩ ⟨[]⟩) = true := sameV_func (sw_pot sf) rfl
  refine W_draw [(true, 0), (true, 1), (true, 2), (true, 4), (true, 5), (true, 6), (true, 3), (false, 5), (true, 7), (true, 8), (true, 9)] (by kernel_rfl) ?_
  simp (maxDischargeDepth := 30) only [AMS, AMH, ↓reduceIte, Nat.reduceLT, Nat.reduceEqDiff, Nat.reduceAdd, Nat.reduceMul, reduceCtorEq, decide_true, decide_false, Nat.reduceLeDiff, Int.reduceNe, Int.reduceEq, ne_eq, not_false_eq_true, and_self, AMR, F271_T76, k2, r2, V_clo, List.append_nil, List.nil_append, List.cons_append]
  refine W_callP (least k2 (by have := f02.next; omega) (hv.fr hk f02) (hw.fr hk f02)) ?_
  rintro _ h3 ⟨rfl, fr3⟩
  have f03 := f02.trans fr3
  have k3 := fr3.ok
  have r3 := fr3.row' k2 r2
  have z3 := fr3.get' k2 z2
  simp (maxDischargeDepth := 30) only [AMS, AMH, ↓reduceIte, Nat.reduceLT, Nat.reduceEqDiff, Nat.reduceAdd, Nat.reduceMul, reduceCtorEq, decide_true, decide_false, Nat.reduceLeDiff, Int.reduceNe, Int.reduceEq, ne_eq, not_false_eq_true, and_self, AMR, F271_T76, k3, r3, sw, V_clo, List.append_nil, List.nil_append, List.cons_append]
  refine W_callP (greatest k3 (by have := f03.next; omega) (hv.fr hk f03) (hw.fr hk f03)) ?_
  rintro _ h4 ⟨rfl, fr4⟩
  have f04 := f03.trans fr4
  have k4 := fr4.ok
  have z4 := fr4.get' k3 z3
  simp (maxDischargeDepth := 30) only [AMS, AMH, ↓reduceIte, Nat.reduceLT, Nat.reduceEqDiff, Nat.reduceAdd, Nat.reduceMul, reduceCtorEq, decide_true, decide_false, Nat.reduceLeDiff, Int.reduceNe, Int.reduceEq, ne_eq, not_false_eq_true, and_self, AMR, F271_T76, k4, z4, List.set_cons_zero]
  exact ⟨by first | rfl | trivial, f04.set (by omega) (get_lt k4 z4) _⟩
end Go.Am

/- The abstract machine over this program: what the board has of a pigment; how far off a mixture can be of a pigment. -/
namespace Go.Am
open Go Go.Proofs
theorem F272_T77 : type_of% (And.intro @bld_25 <| And.intro @fld_25_0 <| And.intro @fld_25_1 <| And.intro @fp_25_0 <| And.intro @fp_25_1 <| And.intro @fp_43_0 <| And.intro @fp_43_1 <| And.intro @ia_39_0 <| And.intro @ia_39_1 <| And.intro @ia_39_2 <| And.intro @ia_40_0 <| And.intro @ia_40_1 <| And.intro @ia_40_2 <| And.intro @ld_25 <| And.intro @ld_3 <| And.intro @part_25 <| And.intro @part_3 <| And.intro @size_25 <| And.intro @size_3 <| And.intro @size_39 <| And.intro @size_40 <| And.intro @sp_25_0 <| And.intro @sp_25_1 <| And.intro @und_39 <| And.intro @und_40 <| And.intro @xi_39_0 <| And.intro @xi_39_1 <| And.intro @xi_39_2 <| And.intro @zero_25 <| And.intro @zero_39 @zero_40) := And.intro @bld_25 <| And.intro @fld_25_0 <| And.intro @fld_25_1 <| And.intro @fp_25_0 <| And.intro @fp_25_1 <| And.intro @fp_43_0 <| And.intro @fp_43_1 <| And.intro @ia_39_0 <| And.intro @ia_39_1 <| And.intro @ia_39_2 <| And.intro @ia_40_0 <| And.intro @ia_40_1 <| And.intro @ia_40_2 <| And.intro @ld_25 <| And.intro @ld_3 <| And.intro @part_25 <| And.intro @part_3 <| And.intro @size_25 <| And.intro @size_3 <| And.intro @size_39 <| And.intro @size_40 <| And.intro @sp_25_0 <| And.intro @sp_25_1 <| And.intro @und_39 <| And.intro @und_40 <| And.intro @xi_39_0 <| And.intro @xi_39_1 <| And.intro @xi_39_2 <| And.intro @zero_25 <| And.intro @zero_39 @zero_40

theorem left_b (o y f : Int) (ho : 0 ≤ o ∧ o ≤ 99) (hy : 0 ≤ y ∧ y ≤ 20) (hf : 0 ≤ f ∧ f ≤ 9) : 0 ≤ leftP o y f ∧ leftP o y f ≤ 99 := by
  have b : 0 ≤ y * f ∧ y * f ≤ 20 * 9 := ⟨Int.mul_nonneg hy.1 hf.1, Int.mul_le_mul hy.2 hf.2 hf.1 (by omega)⟩
  unfold leftP
  omega
theorem span_b {a b m : Int} (h : spanP a b m = true) : (0 ≤ a ∧ a ≤ m) ∧ (a ≤ b ∧ b ≤ m) ∧ 0 ≤ b := by
  unfold spanP at h
  rw [Bool.and_eq_true] at h
  have h1 := of_decide_eq_true h.1
  have h2 := of_decide_eq_true h.2
  omega
set_option maxRecDepth 10000 in
set_option maxHeartbeats 1000000 in
theorem board_0 {v : Value} {s : TintS} {y : Int} {h : Heap} (hk : HOK h) (G : s.Good) (hy : 0 ≤ y ∧ y ≤ 20) :
    CW CC 272 [.agg ⟨s.cells v⟩, .int .i64 0, .int .i64 y] h fun r h' => r = .agg ⟨[.int .i64 (leftP s.o1 y s.f1.hi), .int .i64 (leftP s.o1 y s.f1.lo)]⟩ ∧ Fr h h' := by
  obtain ⟨ho, hf, _⟩ := G.parts 0 (by omega)
  have ho : inP s.o1 0 99 = true := ho
  have hf : spanP s.f1.lo s.f1.hi 9 = true := hf
  have bo := of_decide_eq_true ho
  have bf := span_b hf
  refine CW_in Tryz.f272 (by kernel_rfl) (by kernel_rfl) rfl rfl ?_
  simp only [Tryz.f272]
  obtain ⟨R, hR⟩ : ∃ R, R = s.cells v := ⟨_, rfl⟩
  have co : R[0]? = some (.int .i64 s.o1) := by rw [hR]; rfl
  have cf : take? R 3 2 = some [.int .i64 s.f1.lo, .int .i64 s.f1.hi] := by rw [hR]; rfl
  rw [← hR]
  clear hR
  have f1 : Fr h ((h.alloc (.row R 0 true)).alloc (.row [.int .i64 0, .int .i64 0] 0 true)) := ((Fr.refl hk).alloc _).alloc _
  have r1 : rowAt ((h.alloc (.row R 0 true)).alloc (.row [.int .i64 0, .int .i64 0] 0 true)) h.next = some R := by rw [rowAt_old _ (by simp), rowAt_new]
  have z1 : ((h.alloc (.row R 0 true)).alloc (.row [.int .i64 0, .int .i64 0] 0 true)).get (h.next + 1) = some (.row [.int .i64 0, .int .i64 0] 0 true) := get_at _ (by simp)
  have m1 : ((h.alloc (.row R 0 true)).alloc (.row [.int .i64 0, .int .i64 0] 0 true)).next = h.next + 2 := by simp
  simp (maxDischargeDepth := 30) only [AMS, AMH, ↓reduceIte, Nat.reduceLT, Nat.reduceEqDiff, Nat.reduceAdd, Nat.reduceMul, reduceCtorEq, decide_true, decide_false, Nat.reduceLeDiff, Int.reduceNe, Int.reduceEq, ne_eq, not_false_eq_true, and_self, F272_T77, hk]
  generalize ((h.alloc (.row R 0 true)).alloc (.row [.int .i64 0, .int .i64 0] 0 true)) = h1 at f1 r1 z1 m1 ⊢
  have k1 := f1.ok
  have f2 := ((Fr.refl k1).alloc (.row [.int .i64 0, .int .i64 0] 0 true)).set (Nat.le_refl _) (by simp) (.row [.int .i64 s.f1.lo, .int .i64 s.f1.hi] 0 true)
  have s2 : rowAt ((h1.alloc (.row [.int .i64 0, .int .i64 0] 0 true)).set h1.next (.row [.int .i64 s.f1.lo, .int .i64 s.f1.hi] 0 true)) h1.next = some [.int .i64 s.f1.lo, .int .i64 s.f1.hi] := rowAt_set_self _ _ _ _ _
  have r2 := f2.row' k1 r1
  have z2 := f2.get' k1 z1
  simp (maxDischargeDepth := 30) only [AMS, AMH, ↓reduceIte, Nat.reduceLT, Nat.reduceEqDiff, Nat.reduceAdd, Nat.reduceMul, reduceCtorEq, decide_true, decide_false, Nat.reduceLeDiff, Int.reduceNe, Int.reduceEq, ne_eq, not_false_eq_true, and_self, F272_T77, k1, r1, cf, List.set_cons_zero]
  generalize ((h1.alloc (.row [.int .i64 0, .int .i64 0] 0 true)).set h1.next (.row [.int .i64 s.f1.lo, .int .i64 s.f1.hi] 0 true)) = h2 at f2 s2 r2 z2 ⊢
  have k2 := f2.ok
  refine W_draw [(true, 0), (true, 1), (true, 2), (true, 3), (true, 4), (true, 5), (true, 6), (true, 8), (true, 9), (true, 10), (true, 11), (true, 12), (true, 13), (true, 14), (true, 7), (false, 11), (false, 14), (true, 15), (true, 16), (true, 17)] (by kernel_rfl) ?_
  simp (maxDischargeDepth := 30) only [AMS, AMH, ↓reduceIte, Nat.reduceLT, Nat.reduceEqDiff, Nat.reduceAdd, Nat.reduceMul, reduceCtorEq, decide_true, decide_false, Nat.reduceLeDiff, Int.reduceNe, Int.reduceEq, ne_eq, not_false_eq_true, and_self, AMR, F272_T77, k2, r2, s2, z2, co, left_t s.o1 y s.f1.hi bo hy ⟨bf.2.2, bf.2.1.2⟩, left_t s.o1 y s.f1.lo bo hy bf.1, List.set_cons_zero]
  exact ⟨by first | rfl | trivial, (f1.trans f2).set (by omega) (get_lt k2 z2) _⟩
set_option maxRecDepth 10000 in
set_option maxHeartbeats 1000000 in
theorem board_1 {v : Value} {s : TintS} {y : Int} {h : Heap} (hk : HOK h) (G : s.Good) (hy : 0 ≤ y ∧ y ≤ 20) :
    CW CC 272 [.agg ⟨s.cells v⟩, .int .i64 1, .int .i64 y] h fun r h' => r = .agg ⟨[.int .i64 (leftP s.o2 y s.f2.hi), .int .i64 (leftP s.o2 y s.f2.lo)]⟩ ∧ Fr h h' := by
  obtain ⟨ho, hf, _⟩ := G.parts 1 (by omega)
  have ho : inP s.o2 0 99 = true := ho
  have hf : spanP s.f2.lo s.f2.hi 9 = true := hf
  have bo := of_decide_eq_true ho
  have bf := span_b hf
  refine CW_in Tryz.f272 (by kernel_rfl) (by kernel_rfl) rfl rfl ?_
  simp only [Tryz.f272]
  obtain ⟨R, hR⟩ : ∃ R, R = s.cells v := ⟨_, rfl⟩
  have co : R[1]? = some (.int .i64 s.o2) := by rw [hR]; rfl
  have cf : take? R 5 2 = some [.int .i64 s.f2.lo, .int .i64 s.f2.hi] := by rw [hR]; rfl
  rw [← hR]
  clear hR
  have f1 : Fr h ((h.alloc (.row R 0 true)).alloc (.row [.int .i64 0, .int .i64 0] 0 true)) := ((Fr.refl hk).alloc _).alloc _
  have r1 : rowAt ((h.alloc (.row R 0 true)).alloc (.row [.int .i64 0, .int .i64 0] 0 true)) h.next = some R := by rw [rowAt_old _ (by simp), rowAt_new]
  have z1 : ((h.alloc (.row R 0 true)).alloc (.row [.int .i64 0, .int .i64 0] 0 true)).get (h.next + 1) = some (.row [.int .i64 0, .int .i64 0] 0 true) := get_at _ (by simp)
  have m1 : ((h.alloc (.row R 0 true)).alloc (.row [.int .i64 0, .int .i64 0] 0 true)).next = h.next + 2 := by simp
  simp (maxDischargeDepth := 30) only [AMS, AMH, ↓reduceIte, Nat.reduceLT, Nat.reduceEqDiff, Nat.reduceAdd, Nat.reduceMul, reduceCtorEq, decide_true, decide_false, Nat.reduceLeDiff, Int.reduceNe, Int.reduceEq, ne_eq, not_false_eq_true, and_self, F272_T77, hk]
  generalize ((h.alloc (.row R 0 true)).alloc (.row [.int .i64 0, .int .i64 0] 0 true)) = h1 at f1 r1 z1 m1 ⊢
  have k1 := f1.ok
  have f2 := ((Fr.refl k1).alloc (.row [.int .i64 0, .int .i64 0] 0 true)).set (Nat.le_refl _) (by simp) (.row [.int .i64 s.f2.lo, .int .i64 s.f2.hi] 0 true)
  have s2 : rowAt ((h1.alloc (.row [.int .i64 0, .int .i64 0] 0 true)).set h1.next (.row [.int .i64 s.f2.lo, .int .i64 s.f2.hi] 0 true)) h1.next = some [.int .i64 s.f2.lo, .int .i64 s.f2.hi] := rowAt_set_self _ _ _ _ _
  have r2 := f2.row' k1 r1
  have z2 := f2.get' k1 z1
  simp (maxDischargeDepth := 30) only [AMS, AMH, ↓reduceIte, Nat.reduceLT, Nat.reduceEqDiff, Nat.reduceAdd, Nat.reduceMul, reduceCtorEq, decide_true, decide_false, Nat.reduceLeDiff, Int.reduceNe, Int.reduceEq, ne_eq, not_false_eq_true, and_self, F272_T77, k1, r1, cf, List.set_cons_zero]
  generalize ((h1.alloc (.row [.int .i64 0, .int .i64 0] 0 true)).set h1.next (.row [.int .i64 s.f2.lo, .int .i64 s.f2.hi] 0 true)) = h2 at f2 s2 r2 z2 ⊢
  have k2 := f2.ok
  refine W_draw [(true, 0), (true, 1), (true, 2), (true, 3), (true, 4), (true, 5), (true, 6), (true, 8), (true, 9), (true, 10), (true, 11), (true, 12), (true, 13), (true, 14), (true, 7), (false, 11), (false, 14), (true, 15), (true, 16), (true, 17)] (by kernel_rfl) ?_
  simp (maxDischargeDepth := 30) only [AMS, AMH, ↓reduceIte, Nat.reduceLT, Nat.reduceEqDiff, Nat.reduceAdd, Nat.reduceMul, reduceCtorEq, decide_true, decide_false, Nat.reduceLeDiff, Int.reduceNe, Int.reduceEq, ne_eq, not_false_eq_true, and_self, AMR, F272_T77, k2, r2, s2, z2, co, left_t s.o2 y s.f2.hi bo hy ⟨bf.2.2, bf.2.1.2⟩, left_t s.o2 y s.f2.lo bo hy bf.1, List.set_cons_zero]
  exact ⟨by first | rfl | trivial, (f1.trans f2).set (by omega) (get_lt k2 z2) _⟩
set_option maxRecDepth 10000 in
set_option maxHeartbeats 1000000 in
theorem board_2 {v : Value} {s : TintS} {y : Int} {h : Heap} (hk : HOK h) (G : s.Good) (hy : 0 ≤ y ∧ y ≤ 20) :
    CW CC 272 [.agg ⟨s.cells v⟩, .int .i64 2, .int .i64 y] h fun r h' => r = .agg ⟨[.int .i64 (leftP s.o3 y s.f3.hi), .int .i64 (leftP s.o3 y s.f3.lo)]⟩ ∧ Fr h h' := by
  obtain ⟨ho, hf, _⟩ := G.parts 2 (by omega)
  have ho : inP s.o3 0 99 = true := ho
  have hf : spanP s.f3.lo s.f3.hi 9 = true := hf
  have bo := of_decide_eq_true ho
  have bf := span_b hf
  refine CW_in Tryz.f272 (by kernel_rfl) (by kernel_rfl) rfl rfl ?_
  simp only [Tryz.f272]
  obtain ⟨R, hR⟩ : ∃ R, R = s.cells v := ⟨_, rfl⟩
  have co : R[2]? = some (.int .i64 s.o3) := by rw [hR]; rfl
  have cf : take? R 7 2 = some [.int .i64 s.f3.lo, .int .i64 s.f3.hi] := by rw [hR]; rfl
  rw [← hR]
  clear hR
  have f1 : Fr h ((h.alloc (.row R 0 true)).alloc (.row [.int .i64 0, .int .i64 0] 0 true)) := ((Fr.refl hk).alloc _).alloc _
  have r1 : rowAt ((h.alloc (.row R 0 true)).alloc (.row [.int .i64 0, .int .i64 0] 0 true)) h.next = some R := by rw [rowAt_old _ (by simp), rowAt_new]
  have z1 : ((h.alloc (.row R 0 true)).alloc (.row [.int .i64 0, .int .i64 0] 0 true)).get (h.next + 1) = some (.row [.int .i64 0, .int .i64 0] 0 true) := get_at _ (by simp)
  have m1 : ((h.alloc (.row R 0 true)).alloc (.row [.int .i64 0, .int .i64 0] 0 true)).next = h.next + 2 := by simp
  simp (maxDischargeDepth := 30) only [AMS, AMH, ↓reduceIte, Nat.reduceLT, Nat.reduceEqDiff, Nat.reduceAdd, Nat.reduceMul, reduceCtorEq, decide_true, decide_false, Nat.reduceLeDiff, Int.reduceNe, Int.reduceEq, ne_eq, not_false_eq_true, and_self, F272_T77, hk]
  generalize ((h.alloc (.row R 0 true)).alloc (.row [.int .i64 0, .int .i64 0] 0 true)) = h1 at f1 r1 z1 m1 ⊢
  have k1 := f1.ok
  have f2 := ((Fr.refl k1).alloc (.row [.int .i64 0, .int .i64 0] 0 true)).set (Nat.le_refl _) (by simp) (.row [.int .i64 s.f3.lo, .int .i64 s.f3.hi] 0 true)
  have s2 : rowAt ((h1.alloc (.row [.int .i64 0, .int .i64 0] 0 true)).set h1.next (.row [.int .i64 s.f3.lo, .int .i64 s.f3.hi] 0 true)) h1.next = some [.int .i64 s.f3.lo, .int .i64 s.f3.hi] := rowAt_set_self _ _ _ _ _
  have r2 := f2.row' k1 r1
  have z2 := f2.get' k1 z1
  simp (maxDischargeDepth := 30) only [AMS, AMH, ↓reduceIte, Nat.reduceLT, Nat.reduceEqDiff, Nat.reduceAdd, Nat.reduceMul, reduceCtorEq, decide_true, decide_false, Nat.reduceLeDiff, Int.reduceNe, Int.reduceEq, ne_eq, not_false_eq_true, and_self, F272_T77, k1, r1, cf, List.set_cons_zero]
  generalize ((h1.alloc (.row [.int .i64 0, .int .i64 0] 0 true)).set h1.next (.row [.int .i64 s.f3.lo, .int .i64 s.f3.hi] 0 true)) = h2 at f2 s2 r2 z2 ⊢
  have k2 := f2.ok
  refine W_draw [(true, 0), (true, 1), (true, 2), (true, 3), (true, 4), (true, 5), (true, 6), (true, 8), (true, 9), (true, 10), (true, 11), (true, 12), (true, 13), (true, 14), (true, 7), (false, 11), (false, 14), (true, 15), (true, 16), (true, 17)] (by kernel_rfl) ?_
  simp (maxDischargeDepth := 30) only [AMS, AMH, ↓reduceIte, Nat.reduceLT, Nat.reduceEqDiff, Nat.reduceAdd, Nat.reduceMul, reduceCtorEq, decide_true, decide_false, Nat.reduceLeDiff, Int.reduceNe, Int.reduceEq, ne_eq, not_false_eq_true, and_self, AMR, F272_T77, k2, r2, s2, z2, co, left_t s.o3 y s.f3.hi bo hy ⟨bf.2.2, bf.2.1.2⟩, left_t s.o3 y s.f3.lo bo hy bf.1, List.set_cons_zero]
  exact ⟨by first | rfl | trivial, (f1.trans f2).set (by omega) (get_lt k2 z2) _⟩
end Go.Am
