/- Parts 114 of the abstract machine over this program, joined: what each part says stands at its head. -/
import Derived.Test.YtfnkjclplfhjcaaGreatDoorJ112
set_option linter.unusedSimpArgs false
set_option linter.unusedVariables false
/- The abstract machine, part 114: contracts: Check, Paid (both). -/
namespace Go.Am
open Go Go.Proofs

theorem max_two (k : IntKind) (x y : Int) : foldV max2 [.int k y] (.int k x) = some (.int k (if x < y then y else x)) := rfl
theorem ix0_54 {b o n c : Nat} {sp : Option Nat} (h : 0 < n) : aIndexAddr CC 54 (.slice (some ⟨b, o, sp⟩) n c) (.int .i64 0) = some (.pointer (some ⟨b, o, none⟩)) := ix_54 b o sp n c 0 h
theorem hours_all {bs : List Board} {q : List Int} : hoursOK bs q = true ↔ q ∈ allN bs bs.length := by
  rw [allN_mem (Nat.le_refl _)]
  constructor
  · exact hoursOK_at
  · rintro ⟨h1, h2⟩
    refine hoursOK_all h1 fun i x b hx hb => ?_
    have := h2 i x b hx hb
    simpa [okHour, inP] using this

set_option maxRecDepth 10000 in
set_option maxHeartbeats 1000000 in
theorem check_60 {h : Heap} (hk : HOK h) {a b c : Value} {s : Sheet} (hs : IsSheet h a b c s) :
    CW CC 60 [.agg ⟨[a, b, c]⟩] h fun r h' => r = .int .i64 (if s.ok then 0 else 2) ∧ Fr h h' := by
  obtain ⟨p1, c1, rfl, _⟩ := hs.offs.open
  obtain ⟨p2, c2, rfl, _⟩ := hs.boards.open
  obtain ⟨p3, c3, rfl, _⟩ := hs.tars.open
  refine CW_in Tryz.f60 (by kernel_rfl) (by kernel_rfl) rfl rfl ?_
  simp only [Tryz.f60]
  have f1 : Fr h (h.alloc (.row [.slice p1 s.offs.length c1, .slice p2 s.boards.length c2, .slice p3 s.tars.length c3] 0 true)) := (Fr.refl hk).alloc _
  have r1 : rowAt (h.alloc (.row [.slice p1 s.offs.length c1, .slice p2 s.boards.length c2, .slice p3 s.tars.length c3] 0 true)) h.next = some [.slice p1 s.offs.length c1, .slice p2 s.boards.length c2, .slice p3 s.tars.length c3] := rowAt_new _ _ _ _
  obtain ⟨_, h2, e2, rfl, fr2⟩ := isSheet_85 f1.ok (hs.fr hk f1)
  have f2 := f1.trans fr2
  cases hb : s.ok with
  | false =>
    rw [hb] at e2
    simp (maxDischargeDepth := 30) only [AMS, AMH, ↓reduceIte, Nat.reduceLT, Nat.reduceEqDiff, Nat.reduceAdd, Nat.reduceMul, reduceCtorEq, decide_true, decide_false, Nat.reduceLeDiff, Int.reduceNe, Int.reduceEq, ne_eq, not_false_eq_true, and_self, ld_26, hk, e2]
    exact ⟨trivial, f2⟩
  | true =>
    rw [hb] at e2
    simp (maxDischargeDepth := 30) only [AMS, AMH, ↓reduceIte, Nat.reduceLT, Nat.reduceEqDiff, Nat.reduceAdd, Nat.reduceMul, reduceCtorEq, decide_true, decide_false, Nat.reduceLeDiff, Int.reduceNe, Int.reduceEq, ne_eq, not_false_eq_true, and_self, ld_26, hk, e2]
    exact ⟨trivial, f2⟩

set_option maxRecDepth 10000 in
set_option maxHeartbeats 1000000 in
theorem paid_24_bad {h : Heap} (hk : HOK h) {a b c : Value} {s : Sheet} (t : Int) (hs : IsSheet h a b c s) (hn : s.tars.length ≤ 100) (bad : (s.ok && inP t 0 (s.tars.length - 1)) = false) :
    CW CC 24 [.agg ⟨[a, b, c]⟩, .int .i64 t] h fun r h' => r = .tuple ⟨[.agg ⟨[.int .i64 0, .int .i64 0]⟩, .int .i64 2]⟩ ∧ Fr h h' := by
  obtain ⟨p1, c1, rfl, _⟩ := hs.offs.open
  obtain ⟨p2, c2, rfl, _⟩ := hs.boards.open
  obtain ⟨p3, c3, rfl, _⟩ := hs.tars.open
  refine CW_in Tryz.f24 (by kernel_rfl) (by kernel_rfl) rfl rfl ?_
  simp only [Tryz.f24]
  have fa : ∀ x y, Fr h ((h.alloc x).alloc y) := fun x y => ((Fr.refl hk).alloc x).alloc y
  have ra : ∀ y, rowAt ((h.alloc (.row [.slice p1 s.offs.length c1, .slice p2 s.boards.length c2, .slice p3 s.tars.length c3] 0 true)).alloc y) h.next = some [.slice p1 s.offs.length c1, .slice p2 s.boards.length c2, .slice p3 s.tars.length c3] := fun y => by rw [rowAt_old _ (by simp), rowAt_new]
  have rb : ∀ x (y : List Value), ((h.alloc x).alloc (.row y 0 true)).get (h.next + 1) = some (.row y 0 true) := fun x y => get_at _ (by simp)
  simp (maxDischargeDepth := 30) only [AMS, AMH, ↓reduceIte, Nat.reduceLT, Nat.reduceEqDiff, Nat.reduceAdd, Nat.reduceMul, reduceCtorEq, decide_true, decide_false, Nat.reduceLeDiff, Int.reduceNe, Int.reduceEq, ne_eq, not_false_eq_true, and_self, bld_30, fld_30_0, fld_30_1, fp_26_2, ix_24, ld_24, ld_26, ld_30, ld_41, part_41, size_24, size_30, size_41, sp_30_0, sp_30_1, und_24, zero_24, zero_30, zero_41, hk]
  refine W_call (isOne_70 (fa _ _).ok (hs.fr hk (fa _ _)) t (by omega)) ?_
  rintro _ h2 ⟨rfl, fr2⟩
  rw [bad]
  have f2 := (fa _ _).trans fr2
  have g2 := fr2.get' (fa _ _).ok (rb _ _)
  have l2 := get_lt f2.ok g2
  simp (maxDischargeDepth := 30) only [AMS, AMH, ↓reduceIte, Nat.reduceLT, Nat.reduceEqDiff, Nat.reduceAdd, Nat.reduceMul, reduceCtorEq, decide_true, decide_false, Nat.reduceLeDiff, Int.reduceNe, Int.reduceEq, ne_eq, not_false_eq_true, and_self, bld_30, fld_30_0, fld_30_1, fp_26_2, ix_24, ld_24, ld_26, ld_30, ld_41, part_41, size_24, size_30, size_41, sp_30_0, sp_30_1, und_24, zero_24, zero_30, zero_41, f2.ok, g2, l2]
  exact ⟨trivial, f2.set (by omega) l2 _⟩

set_option maxRecDepth 10000 in
set_option maxHeartbeats 4000000 in
theorem paid_61 {h : Heap} (hk : HOK h) (hp : 0 < h.next) {a b c : Value} {s : Sheet} {T : Tar} (hs : IsSheet h a b c s) (ok : s.ok = true) (tok : T.ok = true) :
    CW CC 61 [.agg ⟨[a, b, c]⟩, .agg ⟨T.cells⟩] h fun r h' => r = .agg ⟨[.int .i64 (paid T s.boards (endsL false s.boards)), .int .i64 (paid T s.boards (endsL true s.boards))]⟩ ∧ Fr h h' := by
  have hlen := Sheet.ok_len ok
  have hbs : ∀ b ∈ s.boards, 0 ≤ b.lo ∧ b.lo ≤ b.hi ∧ b.hi ≤ 40 ∧ b.hi - b.lo ≤ 6 := fun b hb => by
    have := of_decide_eq_true (Sheet.ok_boards ok b hb); omega
  obtain ⟨p1, c1, rfl, _⟩ := hs.offs.open
  obtain ⟨p2, c2, rfl, _⟩ := hs.boards.open
  obtain ⟨p3, c3, rfl, _⟩ := hs.tars.open
  refine CW_in Tryz.f61 (by kernel_rfl) (by kernel_rfl) rfl rfl ?_
  simp only [Tryz.f61]
  have kt : take? T.cells 0 5 = some T.cells := rfl
  have kc : T.cells.all selfC = true := rfl
  have tl : T.cells.length = 5 := rfl
  have ta : allOne T.cells = true := rfl
  have f1 : Fr h ((((h.alloc (.row [.slice p1 s.offs.length c1, .slice p2 s.boards.length c2, .slice p3 s.tars.length c3] 0 true)).alloc (.row T.cells 0 true)).alloc (.row [.int .i64 0, .int .i64 0] 0 true))) := (((Fr.refl hk).alloc _).alloc _).alloc _
  have r1 : rowAt ((((h.alloc (.row [.slice p1 s.offs.length c1, .slice p2 s.boards.length c2, .slice p3 s.tars.length c3] 0 true)).alloc (.row T.cells 0 true)).alloc (.row [.int .i64 0, .int .i64 0] 0 true))) h.next = some [.slice p1 s.offs.length c1, .slice p2 s.boards.length c2, .slice p3 s.tars.length c3] := by rw [rowAt_old _ (by simp; omega), rowAt_old _ (by simp), rowAt_new]
  have t1 : rowAt ((((h.alloc (.row [.slice p1 s.offs.length c1, .slice p2 s.boards.length c2, .slice p3 s.tars.length c3] 0 true)).alloc (.row T.cells 0 true)).alloc (.row [.int .i64 0, .int .i64 0] 0 true))) (h.next + 1) = some T.cells := by rw [rowAt_old _ (by simp), rowAt_at _ _ _ (by simp)]
  have g1 : ((((h.alloc (.row [.slice p1 s.offs.length c1, .slice p2 s.boards.length c2, .slice p3 s.tars.length c3] 0 true)).alloc (.row T.cells 0 true)).alloc (.row [.int .i64 0, .int .i64 0] 0 true))).get (h.next + 2) = some (.row [.int .i64 0, .int .i64 0] 0 true) := get_at _ (by simp)
  have n1 : ((((h.alloc (.row [.slice p1 s.offs.length c1, .slice p2 s.boards.length c2, .slice p3 s.tars.length c3] 0 true)).alloc (.row T.cells 0 true)).alloc (.row [.int .i64 0, .int .i64 0] 0 true))).next = h.next + 3 := by simp
  simp (maxDischargeDepth := 30) only [AMS, AMH, ↓reduceIte, Nat.reduceLT, Nat.reduceEqDiff, Nat.reduceAdd, Nat.reduceMul, reduceCtorEq, decide_true, decide_false, Nat.reduceLeDiff, Int.reduceNe, Int.reduceEq, ne_eq, not_false_eq_true, and_self, bld_30, fld_30_0, fld_30_1, fp_30_0, fp_30_1, ix_54, ld_22, ld_26, ld_3, ld_30, ld_41, len_54, part_22, size_22, size_30, size_54, sp_30_0, sp_30_1, und_54, zero_30, zero_54, hk, kt, kc, tl, ta]
  generalize ((((h.alloc (.row [.slice p1 s.offs.length c1, .slice p2 s.boards.length c2, .slice p3 s.tars.length c3] 0 true)).alloc (.row T.cells 0 true)).alloc (.row [.int .i64 0, .int .i64 0] 0 true))) = h1 at f1 r1 t1 g1 n1 ⊢
  refine W_call (all_42 f1.ok (by omega) (hs.fr hk f1) ok) ?_
  rintro R h2 ⟨⟨us, L2, R2⟩, fr2⟩
  have f2 := f1.trans fr2
  have r2 := fr2.row' f1.ok r1
  have t2 := fr2.row' f1.ok t1
  have g2 := fr2.get' f1.ok g1
  have n2 := fr2.next
  have hcount : (allN s.boards s.boards.length).length ≤ 2401 := by
    have h1 := allN_len (bs := s.boards) (fun b hb => (hbs b hb).2.2.2) (Nat.le_refl _) (by omega)
    have h2 : 7 ^ s.boards.length ≤ 7 ^ 4 := Nat.pow_le_pow_right (by omega) (by omega)
    omega
  have hone := allN_get (bs := s.boards) (fun b hb => (hbs b hb).2.1) (Nat.le_refl _)
  have hall : ∀ q ∈ allN s.boards s.boards.length, q.length = s.boards.length ∧ (∀ x ∈ qtys T s.boards q, 0 ≤ x ∧ x ≤ 60) ∧ paid T s.boards (endsL false s.boards) ≤ paid T s.boards q ∧ paid T s.boards q ≤ paid T s.boards (endsL true s.boards) := fun q hq => by
    have hq := hours_all.2 hq
    obtain ⟨_, b1, b2, _⟩ := between ok tok hq
    exact ⟨(hoursOK_at hq).1, qtys_b ok hq T, b1, b2⟩
  have hlow := hours_all.1 (ends_ok ok false)
  have hhigh := hours_all.1 (ends_ok ok true)
  generalize hL : allN s.boards s.boards.length = L at *
  obtain ⟨pv, cv, rfl, x2⟩ := L2.open
  rw [R2.1]
  rcases x2 with hx | ⟨b3, o3, sp3, row3, rfl, rr3, x3⟩
  · have := R2.1; rw [hx] at this; simp at this; omega
  have cell : ∀ (k : Nat) q, L[k]? = some q → ∃ pu cu, row3[o3 + k]? = some (.slice pu q.length cu) ∧ LS h2 (.slice pu q.length cu) q ints 1 := fun k q hq => by
    obtain ⟨u, gu, lu⟩ := R2.2 k q hq
    obtain ⟨pu, cu, rfl⟩ := lu.len
    exact ⟨pu, cu, by simpa [unit] using (x3 _ _ gu).2 0 (by omega), lu⟩
  obtain ⟨q0, hq0⟩ : ∃ q, L[0]? = some q := ⟨_, List.getElem?_eq_getElem (by omega)⟩
  obtain ⟨pu, cu, e0, l0⟩ := cell 0 q0 hq0
  have e0' : row3[o3]? = some (.slice pu q0.length cu) := by simpa using e0
  have a0 := hall q0 (List.mem_of_getElem? hq0)
  have il0 : decide ((0 : Int) < (L.length : Int)) = true := decide_eq_true (by omega)
  have il0' : (0 < L.length) = True := eq_true (by omega)
  simp (maxDischargeDepth := 30) only [AMS, AMH, ↓reduceIte, Nat.reduceLT, Nat.reduceEqDiff, Nat.reduceAdd, Nat.reduceMul, reduceCtorEq, decide_true, decide_false, Nat.reduceLeDiff, Int.reduceNe, Int.reduceEq, ne_eq, not_false_eq_true, and_self, bld_30, fld_30_0, fld_30_1, fp_30_0, fp_30_1, ix_54, ld_22, ld_26, ld_3, ld_30, ld_41, len_54, part_22, size_22, size_30, size_54, sp_30_0, sp_30_1, und_54, zero_30, zero_54, f2.ok, r2, t2]
  refine W_draw [(true, 0), (true, 1), (true, 2), (true, 3), (true, 4), (true, 6), (true, 7), (true, 8), (true, 9), (true, 10), (true, 13), (true, 5), (false, 6), (false, 7), (false, 10), (false, 13), (true, 11), (false, 13), (true, 12), (true, 14)] (by kernel_rfl) ?_
  simp (maxDischargeDepth := 30) only [AMS, AMH, ↓reduceIte, Nat.reduceLT, Nat.reduceEqDiff, Nat.reduceAdd, Nat.reduceMul, reduceCtorEq, decide_true, decide_false, Nat.reduceLeDiff, Int.reduceNe, Int.reduceEq, ne_eq, not_false_eq_true, and_self, AMR, bld_30, fld_30_0, fld_30_1, fp_30_0, fp_30_1, ix_54, ld_22, ld_26, ld_3, ld_30, ld_41, len_54, part_22, size_22, size_30, size_54, sp_30_0, sp_30_1, und_54, zero_30, zero_54, f2.ok, r2, t2, kt, kc, rr3, ix0_54, e0', il0']
  have fA : Fr h2 (h2.alloc (.row [.int .i64 0, .int .i64 0] 0 true)) := (Fr.refl f2.ok).alloc _
  have gA : (h2.alloc (.row [.int .i64 0, .int .i64 0] 0 true)).get h2.next = some (.row [.int .i64 0, .int .i64 0] 0 true) := get_at _ rfl
  have nA : (h2.alloc (.row [.int .i64 0, .int .i64 0] 0 true)).next = h2.next + 1 := by simp
  generalize (h2.alloc (.row [.int .i64 0, .int .i64 0] 0 true)) = h3 at fA gA nA ⊢
  refine W_callP (total_62 (t := T) fA.ok (by omega) (hs.fr hk (f2.trans fA)) (l0.fr f2.ok fA) tok a0.1 (by omega) fun x hx => by have := a0.2.1 x hx; omega) ?_
  rintro _ h4 ⟨rfl, fr4⟩
  have f4 := fA.trans fr4
  have r4 := f4.row' f2.ok r2
  have t4 := f4.row' f2.ok t2
  have rr4 := f4.row' f2.ok rr3
  have g4 := fr4.get' fA.ok gA
  have n4 := fr4.next
  simp (maxDischargeDepth := 30) only [AMS, AMH, ↓reduceIte, Nat.reduceLT, Nat.reduceEqDiff, Nat.reduceAdd, Nat.reduceMul, reduceCtorEq, decide_true, decide_false, Nat.reduceLeDiff, Int.reduceNe, Int.reduceEq, ne_eq, not_false_eq_true, and_self, AMR, bld_30, fld_30_0, fld_30_1, fp_30_0, fp_30_1, ix_54, ld_22, ld_26, ld_3, ld_30, ld_41, len_54, part_22, size_22, size_30, size_54, sp_30_0, sp_30_1, und_54, zero_30, zero_54, f4.ok, g4, r4, t4, kt, kc, rr4, ix0_54, e0', il0']
  refine W_callP (total_62 (t := T) f4.ok (by omega) (hs.fr hk (f2.trans f4)) (l0.fr f2.ok f4) tok a0.1 (by omega) fun x hx => by have := a0.2.1 x hx; omega) ?_
  rintro _ h5 ⟨rfl, fr5⟩
  have f5 := f4.trans fr5
  have g5 := fr5.get' f4.ok g4
  have l5 := get_lt f5.ok g5
  generalize hlo : paid T s.boards (endsL false s.boards) = lo at *
  generalize hhi : paid T s.boards (endsL true s.boards) = hi at *
  simp (maxDischargeDepth := 30) only [AMS, AMH, ↓reduceIte, Nat.reduceLT, Nat.reduceEqDiff, Nat.reduceAdd, Nat.reduceMul, reduceCtorEq, decide_true, decide_false, Nat.reduceLeDiff, Int.reduceNe, Int.reduceEq, ne_eq, not_false_eq_true, and_self, AMR, bld_30, fld_30_0, fld_30_1, fp_30_0, fp_30_1, ix_54, ld_22, ld_26, ld_3, ld_30, ld_41, len_54, part_22, size_22, size_30, size_54, sp_30_0, sp_30_1, und_54, zero_30, zero_54, f5.ok, g5, l5, kt, kc]
  refine W_loop L.length (fun m' f h' => ∃ k ya yb, k ≤ L.length ∧ m' = L.length - k ∧ f 2 = .pointer (some ⟨h.next, 0, none⟩) ∧ f 3 = .pointer (some ⟨h.next + 1, 0, none⟩) ∧ f 4 = .pointer (some ⟨h.next + 2, 0, none⟩) ∧ f 5 = .slice (some ⟨b3, o3, sp3⟩) L.length cv ∧ f 6 = .pointer (some ⟨h2.next, 0, none⟩) ∧ f 7 = .int .i64 (k : Nat) ∧
      h'.get h2.next = some (.row [.int .i64 ya, .int .i64 yb] 0 true) ∧ Fr h2 h' ∧ (∃ q ∈ L, paid T s.boards q = ya) ∧ (∃ q ∈ L, paid T s.boards q = yb) ∧ ∀ (j : Nat) q, j < k → L[j]? = some q → ya ≤ paid T s.boards q ∧ paid T s.boards q ≤ yb)
    ⟨0, _, _, by omega, by omega, by simp [upd_at], by simp [upd_at], by simp [upd_at], by simp [upd_at], by simp [upd_at], by simp [upd_at], get_set_self' _ _ _, f5.set (Nat.le_refl _) l5 _, ⟨q0, List.mem_of_getElem? hq0, rfl⟩, ⟨q0, List.mem_of_getElem? hq0, rfl⟩, fun j q hj => absurd hj (by omega)⟩ ?_
  rintro m' f h' ⟨k, ya, yb, hk', rfl, u2, u3, u4, u5, u6, u7, gz, fr, ⟨qa, ma, ea⟩, ⟨qb, mb, eb⟩, hall'⟩ ih
  have k' := fr.ok
  have fh := f2.trans fr
  have r' := fr.row' f2.ok r2
  have t' := fr.row' f2.ok t2
  have g' := fr.get' f2.ok g2
  have rr' := fr.row' f2.ok rr3
  have nz := fr.next
  by_cases hkl : k < L.length
  · obtain ⟨q, hq⟩ : ∃ x, L[k]? = some x := ⟨_, List.getElem?_eq_getElem hkl⟩
    obtain ⟨pu, cu, e1, l1⟩ := cell k q hq
    have a1 := hall q (List.mem_of_getElem? hq)
    simp (maxDischargeDepth := 30) only [AMS, AMH, ↓reduceIte, Nat.reduceLT, Nat.reduceEqDiff, Nat.reduceAdd, Nat.reduceMul, reduceCtorEq, decide_true, decide_false, Nat.reduceLeDiff, Int.reduceNe, Int.reduceEq, ne_eq, not_false_eq_true, and_self, bld_30, fld_30_0, fld_30_1, fp_30_0, fp_30_1, ix_54, ld_22, ld_26, ld_3, ld_30, ld_41, len_54, part_22, size_22, size_30, size_54, sp_30_0, sp_30_1, und_54, zero_30, zero_54, k', u2, u3, u4, u5, u6, u7, lt_t hkl]
    refine W_draw [(true, 0), (true, 1), (true, 2), (true, 3), (true, 4), (true, 5), (true, 6), (true, 7)] (by kernel_rfl) ?_
    simp (maxDischargeDepth := 30) only [AMS, AMH, ↓reduceIte, Nat.reduceLT, Nat.reduceEqDiff, Nat.reduceAdd, Nat.reduceMul, reduceCtorEq, decide_true, decide_false, Nat.reduceLeDiff, Int.reduceNe, Int.reduceEq, ne_eq, not_false_eq_true, and_self, AMR, bld_30, fld_30_0, fld_30_1, fp_30_0, fp_30_1, ix_54, ld_22, ld_26, ld_3, ld_30, ld_41, len_54, part_22, size_22, size_30, size_54, sp_30_0, sp_30_1, und_54, zero_30, zero_54, k', u2, u3, u4, u5, u6, u7, r', t', kt, kc, rr', Nat.mul_one, e1, hkl]
    refine W_callP (total_62 (t := T) k' (by omega) (hs.fr hk fh) (l1.fr f2.ok fr) tok a1.1 (by omega) fun x hx => by have := a1.2.1 x hx; omega) ?_
    rintro _ h8 ⟨rfl, fr8⟩
    have f8 := fr.trans fr8
    have g8 := fr8.get' k' gz
    have r8 := fr8.row' k' r'
    have t8 := fr8.row' k' t'
    have rr8 := fr8.row' k' rr'
    have l8 := get_lt f8.ok g8
    have z8 : rowAt h8 h2.next = some [.int .i64 ya, .int .i64 yb] := by unfold rowAt; rw [g8]; rfl
    have wk : IntKind.i64.wrap ((k : Int) + 1) = ((k + 1 : Nat) : Int) := by rw [wrap64 (by omega) (by omega)]; omega
    simp (maxDischargeDepth := 30) only [AMS, AMH, ↓reduceIte, Nat.reduceLT, Nat.reduceEqDiff, Nat.reduceAdd, Nat.reduceMul, reduceCtorEq, decide_true, decide_false, Nat.reduceLeDiff, Int.reduceNe, Int.reduceEq, ne_eq, not_false_eq_true, and_self, AMR, bld_30, fld_30_0, fld_30_1, fp_30_0, fp_30_1, ix_54, ld_22, ld_26, ld_3, ld_30, ld_41, len_54, part_22, size_22, size_30, size_54, sp_30_0, sp_30_1, und_54, zero_30, zero_54, f8.ok, u2, u3, u4, u5, u6, u7, r8, t8, kt, kc, rr8, Nat.mul_one, e1, hkl, z8, g8, l8, min_two, max_two, wk]
    refine ih (L.length - (k + 1)) _ _ (by omega) ?_
    refine ⟨k + 1, _, _, by omega, rfl, by simp [upd_at, u2], by simp [upd_at, u3], by simp [upd_at, u4], by simp [upd_at, u5], by simp [upd_at, u6], by simp [upd_at], get_set_self' _ _ _, f8.set (Nat.le_refl _) l8 _, ?_, ?_, ?_⟩
    · split
      · exact ⟨q, List.mem_of_getElem? hq, rfl⟩
      · exact ⟨qa, ma, ea⟩
    · split
      · exact ⟨q, List.mem_of_getElem? hq, rfl⟩
      · exact ⟨qb, mb, eb⟩
    · intro j q' hj hq'
      by_cases e : j = k
      · subst e
        rw [hq] at hq'; simp at hq'; subst hq'
        constructor
        · split <;> omega
        · split <;> omega
      · have := hall' j q' (by omega) hq'
        constructor
        · split <;> omega
        · split <;> omega
  · have hkE : k = L.length := by omega
    subst hkE
    have z9 : rowAt h' h2.next = some [.int .i64 ya, .int .i64 yb] := by unfold rowAt; rw [gz]; rfl
    have g9 : h'.get (h.next + 1 + 1) = some (.row [.int .i64 0, .int .i64 0] 0 true) := g'
    have l9 := get_lt k' g9
    simp (maxDischargeDepth := 30) only [AMS, AMH, ↓reduceIte, Nat.reduceLT, Nat.reduceEqDiff, Nat.reduceAdd, Nat.reduceMul, reduceCtorEq, decide_true, decide_false, Nat.reduceLeDiff, Int.reduceNe, Int.reduceEq, ne_eq, not_false_eq_true, and_self, bld_30, fld_30_0, fld_30_1, fp_30_0, fp_30_1, ix_54, ld_22, ld_26, ld_3, ld_30, ld_41, len_54, part_22, size_22, size_30, size_54, sp_30_0, sp_30_1, und_54, zero_30, zero_54, k', u2, u3, u4, u5, u6, u7, lt_f, z9, g9, l9]
    have b1 := hall qa ma
    have b2 := hall qb mb
    obtain ⟨jl, hjl⟩ := List.getElem?_of_mem hlow
    obtain ⟨jh, hjh⟩ := List.getElem?_of_mem hhigh
    have c1 := hall' jl _ (List.getElem?_eq_some_iff.1 hjl).1 hjl
    have c2 := hall' jh _ (List.getElem?_eq_some_iff.1 hjh).1 hjh
    rw [hlo] at c1
    rw [hhi] at c2
    obtain rfl : ya = lo := by omega
    obtain rfl : yb = hi := by omega
    exact ⟨rfl, fh.set (by omega) l9 _⟩
end Go.Am
