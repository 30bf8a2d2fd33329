/- DaybookNil on the machine: methods of a nil desk, and of a zero one, return the error for it. -/
import Derived.Test.YtfnllpibhjikgaaGreatDoorJD41
set_option linter.unusedSimpArgs false
set_option linter.unusedVariables false
namespace Go.Am
open Go Go.Proofs
theorem F5_DNil : type_of% (And.intro @bs_72 <| And.intro @fld_71_0 <| And.intro @fld_71_1 <| And.intro @fld_71_2 <| And.intro @fp_25_1 <| And.intro @fp_40_1 <| And.intro @ix_72 <| And.intro @ld_23 <| And.intro @ld_25 <| And.intro @ld_40 <| And.intro @ld_41 <| And.intro @len_23 <| And.intro @len_72 <| And.intro @part_41 <| And.intro @size_41 <| And.intro @size_71 <| And.intro @size_72 <| And.intro @sp_71_0 <| And.intro @sp_71_1 <| And.intro @sp_71_2 <| And.intro @und_72 @zero_72) := And.intro @bs_72 <| And.intro @fld_71_0 <| And.intro @fld_71_1 <| And.intro @fld_71_2 <| And.intro @fp_25_1 <| And.intro @fp_40_1 <| And.intro @ix_72 <| And.intro @ld_23 <| And.intro @ld_25 <| And.intro @ld_40 <| And.intro @ld_41 <| And.intro @len_23 <| And.intro @len_72 <| And.intro @part_41 <| And.intro @size_41 <| And.intro @size_71 <| And.intro @size_72 <| And.intro @sp_71_0 <| And.intro @sp_71_1 <| And.intro @sp_71_2 <| And.intro @und_72 @zero_72

/-- what a method needs of a desk that is none -/
def NoDesk (h : Heap) (d : Value) : Prop := ∀ h', Fr h h' → callF CC (Lim CC) 30 [d] h' = some (.ret (.bool false) h' none)
theorem NoDesk.fr {h h' : Heap} {d : Value} (q : NoDesk h d) (f : Fr h h') : NoDesk h' d := fun h2 f2 => q h2 (f.trans f2)
theorem neq_nil (c : Bool) : aBin CC .neq 41 c (.pointer none) (.pointer none) = some (.bool false) := by cases c <;> kernel_rfl
theorem neq_ptr (c : Bool) (a : Addr) : aBin CC .neq 41 c (.pointer (some a)) (.pointer none) = some (.bool true) := by cases c <;> kernel_rfl
theorem known_c (h : Heap) : callF CC (Lim CC) 6 [] h = some (.ret (.bool true) h none) := by
  unfold callF
  rw [show CC.A 6 = some knownSpec by kernel_rfl]
  rfl
theorem known_w (h : Heap) : CW CC 6 [] h fun r h' => r = .bool true ∧ h' = h := ⟨_, _, known_c h, rfl, rfl⟩
theorem neq_str (c : Bool) : aBin CC .neq 9 c (.string ⟨⟨[]⟩⟩) (.string ⟨⟨[]⟩⟩) = some (.bool false) := by cases c <;> kernel_rfl
theorem is_nil (h : Heap) : callF CC (Lim CC) 30 [.pointer none] h = some (.ret (.bool false) h none) := by
  refine CW.eq (CW_in Tryz.f30 (by kernel_rfl) (by kernel_rfl) rfl rfl ?_)
  simp only [Tryz.f30]
  simp (maxDischargeDepth := 30) only [AMS, AMH, ↓reduceIte, Nat.reduceLT, Nat.reduceEqDiff, Nat.reduceAdd, Nat.reduceMul, reduceCtorEq, decide_true, decide_false, Nat.reduceLeDiff, Int.reduceNe, Int.reduceEq, ne_eq, not_false_eq_true, and_self, fp_71_0, ld_4, neq_nil]
theorem is_zero {h : Heap} {b : Nat} {row : List Value} (hr : rowAt h b = some row) (h0 : row[0]? = some (.bool false)) : callF CC (Lim CC) 30 [.pointer (some ⟨b, 0, none⟩)] h = some (.ret (.bool false) h none) := by
  refine CW.eq (CW_in Tryz.f30 (by kernel_rfl) (by kernel_rfl) rfl rfl ?_)
  simp only [Tryz.f30]
  simp (maxDischargeDepth := 30) only [AMS, AMH, ↓reduceIte, Nat.reduceLT, Nat.reduceEqDiff, Nat.reduceAdd, Nat.reduceMul, reduceCtorEq, decide_true, decide_false, Nat.reduceLeDiff, Int.reduceNe, Int.reduceEq, ne_eq, not_false_eq_true, and_self, fp_71_0, ld_4, neq_ptr, hr, h0]
theorem ask_none {h : Heap} (hk : HOK h) {d : Value} (hd : NoDesk h d) (l : List Value) : CW CC 13 [d, .agg ⟨l⟩] h fun r h' => r = .tuple ⟨[.slice none 0 0, .int .i64 1]⟩ ∧ Fr h h' := by
  refine CW_in Tryz.f13 (by kernel_rfl) (by kernel_rfl) rfl rfl ?_
  simp only [Tryz.f13]
  have f1 := (Fr.refl hk).alloc (.row l 0 true)
  simp (maxDischargeDepth := 30) only [AMS, AMH, ↓reduceIte, Nat.reduceLT, Nat.reduceEqDiff, Nat.reduceAdd, Nat.reduceMul, reduceCtorEq, decide_true, decide_false, Nat.reduceLeDiff, Int.reduceNe, Int.reduceEq, ne_eq, not_false_eq_true, and_self, fp_40_0, fp_40_1, ia_93_0, ia_93_1, ia_93_2, ia_93_3, ia_93_4, ia_93_5, ia_93_6, ia_93_7, ld_23, ld_38, ld_40, part_92, size_92, size_93, und_93, xi_93_0, xi_93_1, xi_93_2, xi_93_3, xi_93_4, xi_93_5, xi_93_6, xi_93_7, zero_93, hk, hd _ f1]
  exact ⟨trivial, f1⟩
theorem journal_none {h : Heap} (hk : HOK h) {d : Value} (hd : NoDesk h d) : CW CC 14 [d] h fun r h' => r = .tuple ⟨[.string ⟨⟨[]⟩⟩, .int .i64 1]⟩ ∧ Fr h h' := by
  refine CW_in Tryz.f14 (by kernel_rfl) (by kernel_rfl) rfl rfl ?_
  simp only [Tryz.f14]
  simp (maxDischargeDepth := 30) only [AMS, AMH, ↓reduceIte, Nat.reduceLT, Nat.reduceEqDiff, Nat.reduceAdd, Nat.reduceMul, reduceCtorEq, decide_true, decide_false, Nat.reduceLeDiff, Int.reduceNe, Int.reduceEq, ne_eq, not_false_eq_true, and_self, fp_71_2, ix_69, ld_25, ld_69, len_69, part_25, size_25, size_69, und_69, zero_25, zero_69, hk, hd _ (Fr.refl hk)]
  exact ⟨trivial, Fr.refl hk⟩
theorem enter_none {h : Heap} (hk : HOK h) {d : Value} (hd : NoDesk h d) (l : List Value) : CW CC 15 [d, .agg ⟨l⟩] h fun r h' => r = .int .i64 1 ∧ Fr h h' := by
  refine CW_in Tryz.f15 (by kernel_rfl) (by kernel_rfl) rfl rfl ?_
  simp only [Tryz.f15]
  have f1 := (Fr.refl hk).alloc (.row l 0 true)
  simp (maxDischargeDepth := 30) only [AMS, AMH, ↓reduceIte, Nat.reduceLT, Nat.reduceEqDiff, Nat.reduceAdd, Nat.reduceMul, reduceCtorEq, decide_true, decide_false, Nat.reduceLeDiff, Int.reduceNe, Int.reduceEq, ne_eq, not_false_eq_true, and_self, bld_25, fld_25_0, fld_25_1, fp_25_0, fp_25_1, fp_71_2, ix_69, ld_22, ld_23, ld_25, ld_69, len_69, part_25, size_25, size_69, size_95, sp_25_0, sp_25_1, und_69, und_95, zero_25, zero_69, zero_95, hk, hd _ f1]
  exact ⟨trivial, f1⟩

noncomputable def zDesk : List Value := match CC.zero 71 with | some v => cellsOf v | none => []
theorem bld_desk : aBuild CC 71 [] = some (.agg ⟨zDesk⟩) := by kernel_rfl
theorem zDesk_open : zDesk[0]? = some (.bool false) := by kernel_rfl
theorem bs_desks (v : Value) (hv : cellsOf v = [v]) : aBuildSlice CC 72 2 [(0, .pointer none), (1, v)] = some (.new (.row [.pointer none, v] 1 true) (sliceTo 1 2 2)) := by
  unfold aBuildSlice
  rw [und_72]
  simp only [obind_some, sliceElem, zeroRow, size_41, zero_41]
  show guardB true (guardB true _) = _
  simp only [guardB_true]
  show obind (fillWith (rowPlace 1) [(0, .pointer none), (1, v)] [.pointer none, .pointer none]) _ = _
  simp [fill_cons, fill_nil, fill1_eq, rowPlace_eq, hv, show cellsOf (.pointer none) = [.pointer none] from rfl]

set_option maxRecDepth 10000 in
set_option maxHeartbeats 1000000 in
theorem nil_law {h : Heap} (hk : HOK h) (hp : 0 < h.next) (k : Int) (p : Option Addr) (l c : Nat) (k' : Int) (p' : Option Addr) (l' c' : Nat) :
    CW CC 5 [.agg ⟨[.int .i64 k, .slice p l c]⟩, .agg ⟨[.int .i64 k', .slice p' l' c']⟩] h fun r h' => r = .bool true ∧ Fr h h' := by
  refine CW_in Tryz.f5 (by kernel_rfl) (by kernel_rfl) rfl rfl ?_
  simp only [Tryz.f5]
  have f1 := ((Fr.refl hk).alloc (.row [.int .i64 k, .slice p l c] 0 true)).alloc (.row [.int .i64 k', .slice p' l' c'] 0 true)
  have r1 : rowAt ((h.alloc (.row [.int .i64 k, .slice p l c] 0 true)).alloc (.row [.int .i64 k', .slice p' l' c'] 0 true)) h.next = some [.int .i64 k, .slice p l c] := by rw [rowAt_old _ (by simp)]; exact rowAt_new _ _ _ _
  have r2 : rowAt ((h.alloc (.row [.int .i64 k, .slice p l c] 0 true)).alloc (.row [.int .i64 k', .slice p' l' c'] 0 true)) (h.next + 1) = some [.int .i64 k', .slice p' l' c'] := rowAt_at _ _ _ (by simp)
  have k1 := f1.ok
  by_cases hl : (l : Int) > 9
  · have d1 : decide ((l : Int) > 9) = true := decide_eq_true hl
    simp (maxDischargeDepth := 30) only [AMS, AMH, ↓reduceIte, Nat.reduceLT, Nat.reduceEqDiff, Nat.reduceAdd, Nat.reduceMul, reduceCtorEq, decide_true, decide_false, Nat.reduceLeDiff, Int.reduceNe, Int.reduceEq, ne_eq, not_false_eq_true, and_self, F5_DNil, hk, r1, r2, d1]
    refine W_call (known_w _) ?_
    rintro _ _ ⟨rfl, rfl⟩
    simp (maxDischargeDepth := 30) only [AMS, AMH, ↓reduceIte, Nat.reduceLT, Nat.reduceEqDiff, Nat.reduceAdd, Nat.reduceMul, reduceCtorEq, decide_true, decide_false, Nat.reduceLeDiff, Int.reduceNe, Int.reduceEq, ne_eq, not_false_eq_true, and_self, F5_DNil, k1]
    exact ⟨trivial, f1⟩
  have d1 : decide ((l : Int) > 9) = false := decide_eq_false hl
  by_cases hl' : (l' : Int) > 9
  · have d2 : decide ((l' : Int) > 9) = true := decide_eq_true hl'
    simp (maxDischargeDepth := 30) only [AMS, AMH, ↓reduceIte, Nat.reduceLT, Nat.reduceEqDiff, Nat.reduceAdd, Nat.reduceMul, reduceCtorEq, decide_true, decide_false, Nat.reduceLeDiff, Int.reduceNe, Int.reduceEq, ne_eq, not_false_eq_true, and_self, F5_DNil, hk, r1, r2, d1, d2]
    refine W_call (known_w _) ?_
    rintro _ _ ⟨rfl, rfl⟩
    simp (maxDischargeDepth := 30) only [AMS, AMH, ↓reduceIte, Nat.reduceLT, Nat.reduceEqDiff, Nat.reduceAdd, Nat.reduceMul, reduceCtorEq, decide_true, decide_false, Nat.reduceLeDiff, Int.reduceNe, Int.reduceEq, ne_eq, not_false_eq_true, and_self, F5_DNil, k1]
    exact ⟨trivial, f1⟩
  have d2 : decide ((l' : Int) > 9) = false := decide_eq_false hl'
  have bs := bs_desks (.pointer (some ⟨h.next + 1 + 1, 0, none⟩)) rfl
  have f2 := (f1.alloc (.row zDesk 0 true)).alloc (.row [.pointer none, .pointer (some ⟨h.next + 1 + 1, 0, none⟩)] 1 true)
  have n2 : ((((h.alloc (.row [.int .i64 k, .slice p l c] 0 true)).alloc (.row [.int .i64 k', .slice p' l' c'] 0 true)).alloc (.row zDesk 0 true)).alloc (.row [.pointer none, .pointer (some ⟨h.next + 1 + 1, 0, none⟩)] 1 true)).next = h.next + 4 := by simp
  have q1 := ((Fr.refl k1).alloc (.row zDesk 0 true)).row' k1 r1
  have q2 := ((Fr.refl k1).alloc (.row zDesk 0 true)).row' k1 r2
  simp (maxDischargeDepth := 30) only [AMS, AMH, ↓reduceIte, Nat.reduceLT, Nat.reduceEqDiff, Nat.reduceAdd, Nat.reduceMul, reduceCtorEq, decide_true, decide_false, Nat.reduceLeDiff, Int.reduceNe, Int.reduceEq, ne_eq, not_false_eq_true, and_self, F5_DNil, hk, r1, r2, d1, d2, bld_desk, bs]
  have e1 : rowAt ((((h.alloc (.row [.int .i64 k, .slice p l c] 0 true)).alloc (.row [.int .i64 k', .slice p' l' c'] 0 true)).alloc (.row zDesk 0 true)).alloc (.row [.pointer none, .pointer (some ⟨h.next + 1 + 1, 0, none⟩)] 1 true)) h.next = some [.int .i64 k, .slice p l c] := by
    rw [rowAt_old _ (by simp; omega)]; exact q1
  have e2 : rowAt ((((h.alloc (.row [.int .i64 k, .slice p l c] 0 true)).alloc (.row [.int .i64 k', .slice p' l' c'] 0 true)).alloc (.row zDesk 0 true)).alloc (.row [.pointer none, .pointer (some ⟨h.next + 1 + 1, 0, none⟩)] 1 true)) (h.next + 1) = some [.int .i64 k', .slice p' l' c'] := by
    rw [rowAt_old _ (by simp)]; exact q2
  have e3 : rowAt ((((h.alloc (.row [.int .i64 k, .slice p l c] 0 true)).alloc (.row [.int .i64 k', .slice p' l' c'] 0 true)).alloc (.row zDesk 0 true)).alloc (.row [.pointer none, .pointer (some ⟨h.next + 1 + 1, 0, none⟩)] 1 true)) (h.next + 1 + 1) = some zDesk := by
    rw [rowAt_old _ (by simp)]; exact rowAt_at _ _ _ (by simp)
  have e4 : rowAt ((((h.alloc (.row [.int .i64 k, .slice p l c] 0 true)).alloc (.row [.int .i64 k', .slice p' l' c'] 0 true)).alloc (.row zDesk 0 true)).alloc (.row [.pointer none, .pointer (some ⟨h.next + 1 + 1, 0, none⟩)] 1 true)) (h.next + 1 + 1 + 1) = some [.pointer none, .pointer (some ⟨h.next + 1 + 1, 0, none⟩)] := rowAt_at _ _ _ (by simp)
  generalize ((((h.alloc (.row [.int .i64 k, .slice p l c] 0 true)).alloc (.row [.int .i64 k', .slice p' l' c'] 0 true)).alloc (.row zDesk 0 true)).alloc (.row [.pointer none, .pointer (some ⟨h.next + 1 + 1, 0, none⟩)] 1 true)) = H2 at f2 n2 e1 e2 e3 e4 ⊢
  have k2 := f2.ok
  have desk : ∀ i, i < 2 → ∃ d, [Value.pointer none, .pointer (some ⟨h.next + 1 + 1, 0, none⟩)][i]? = some d ∧ NoDesk H2 d := fun i hi => by
    rcases Nat.lt_or_ge i 1 with q | q
    · obtain rfl : i = 0 := by omega
      exact ⟨_, rfl, fun h' _ => is_nil h'⟩
    · obtain rfl : i = 1 := by omega
      exact ⟨_, rfl, fun h' f => is_zero (f.row' k2 e3) zDesk_open⟩
  generalize [Value.pointer none, .pointer (some ⟨h.next + 1 + 1, 0, none⟩)] = L at e4 desk
  clear q1 q2 r1 r2 bs k1 f1
  refine W_loop 2 (fun m f h' => ∃ i, i ≤ 2 ∧ m = 2 - i ∧ f 2 = .pointer (some ⟨h.next, 0, none⟩) ∧ f 3 = .pointer (some ⟨h.next + 1, 0, none⟩) ∧ f 5 = .slice (some ⟨h.next + 1 + 1 + 1, 0, some 1⟩) 2 2 ∧ f 6 = .int .i64 (i : Nat) ∧ Fr H2 h')
    ⟨0, by omega, by omega, by simp [upd_at], by simp [upd_at], by simp [upd_at], by simp [upd_at], Fr.refl k2⟩ ?_
  rintro m f h3 ⟨i, hi, rfl, g2, g3, g5, g6, f3⟩ ih
  have k3 := f3.ok
  have a1 := f3.row' k2 e1
  have a2 := f3.row' k2 e2
  have a4 := f3.row' k2 e4
  by_cases hil : i < 2
  · obtain ⟨d, hd, hn⟩ := desk i hil
    have dl : decide ((i : Int) < ((2 : Nat) : Int)) = true := lt_t hil
    simp (maxDischargeDepth := 30) only [AMS, AMH, ↓reduceIte, Nat.reduceLT, Nat.reduceEqDiff, Nat.reduceAdd, Nat.reduceMul, reduceCtorEq, decide_true, decide_false, Nat.reduceLeDiff, Int.reduceNe, Int.reduceEq, ne_eq, not_false_eq_true, and_self, F5_DNil, k3, g2, g3, g5, g6, dl]
    refine W_draw [(true, 0), (true, 1), (true, 2), (true, 3), (true, 4), (true, 5), (true, 6), (true, 7), (true, 8), (true, 9), (true, 10)] (by kernel_rfl) ?_
    simp (maxDischargeDepth := 30) only [AMS, AMH, ↓reduceIte, Nat.reduceLT, Nat.reduceEqDiff, Nat.reduceAdd, Nat.reduceMul, reduceCtorEq, decide_true, decide_false, Nat.reduceLeDiff, Int.reduceNe, Int.reduceEq, ne_eq, not_false_eq_true, and_self, AMR, F5_DNil, k3, g2, g3, g5, g6, hil, a4, Nat.mul_one, Nat.zero_add, hd, a2]
    refine W_callP (ask_none k3 (hn.fr f3) _) ?_
    rintro _ h4 ⟨rfl, f4⟩
    have k4 := f4.ok
    have b1 := f4.row' k3 a1
    have b2 := f4.row' k3 a2
    have b4 := f4.row' k3 a4
    simp (maxDischargeDepth := 30) only [AMS, AMH, ↓reduceIte, Nat.reduceLT, Nat.reduceEqDiff, Nat.reduceAdd, Nat.reduceMul, reduceCtorEq, decide_true, decide_false, Nat.reduceLeDiff, Int.reduceNe, Int.reduceEq, ne_eq, not_false_eq_true, and_self, AMR, F5_DNil, k4, g2, g3, g5, g6, hil, b4, Nat.mul_one, Nat.zero_add, hd, b2]
    refine W_call (journal_none k4 ((hn.fr f3).fr f4)) ?_
    rintro _ h5 ⟨rfl, f5⟩
    have k5 := f5.ok
    have c1 := f5.row' k4 b1
    have c2 := f5.row' k4 b2
    have c4 := f5.row' k4 b4
    simp (maxDischargeDepth := 30) only [AMS, AMH, ↓reduceIte, Nat.reduceLT, Nat.reduceEqDiff, Nat.reduceAdd, Nat.reduceMul, reduceCtorEq, decide_true, decide_false, Nat.reduceLeDiff, Int.reduceNe, Int.reduceEq, ne_eq, not_false_eq_true, and_self, F5_DNil, k5, g2, g3, g5, g6]
    refine W_draw [(true, 0), (true, 1), (true, 2), (true, 3), (true, 4), (true, 5), (true, 6), (true, 7), (true, 8), (true, 9), (true, 10), (true, 11), (true, 12), (true, 13), (true, 14), (true, 15), (true, 16), (true, 17), (true, 18), (true, 19), (true, 20), (true, 21), (true, 22), (true, 23)] (by kernel_rfl) ?_
    simp (maxDischargeDepth := 30) only [AMS, AMH, ↓reduceIte, Nat.reduceLT, Nat.reduceEqDiff, Nat.reduceAdd, Nat.reduceMul, reduceCtorEq, decide_true, decide_false, Nat.reduceLeDiff, Int.reduceNe, Int.reduceEq, ne_eq, not_false_eq_true, and_self, AMR, F5_DNil, k5, g2, g3, g5, g6, hil, c4, Nat.mul_one, Nat.zero_add, hd, c1]
    refine W_callP (enter_none k5 (((hn.fr f3).fr f4).fr f5) _) ?_
    rintro _ h6 ⟨rfl, f6⟩
    have k6 := f6.ok
    have x1 := f6.row' k5 c1
    have x4 := f6.row' k5 c4
    have i1 : ((1 : Int) != 1) = false := rfl
    have i0 : (((0 : Nat) : Int) != 0) = false := rfl
    have se : (!strEq ⟨⟨[]⟩⟩ ⟨#[]⟩) = false := by kernel_rfl
    simp (maxDischargeDepth := 30) only [AMS, AMH, ↓reduceIte, Nat.reduceLT, Nat.reduceEqDiff, Nat.reduceAdd, Nat.reduceMul, reduceCtorEq, decide_true, decide_false, Nat.reduceLeDiff, Int.reduceNe, Int.reduceEq, ne_eq, not_false_eq_true, and_self, AMR, F5_DNil, k6, g2, g3, g5, g6, hil, x4, Nat.mul_one, Nat.zero_add, hd, x1, i1, i0, se, i_next hil (by omega)]
    refine ih (2 - (i + 1)) _ _ (by omega) ?_
    exact ⟨i + 1, by omega, rfl, by simp [upd_at, g2], by simp [upd_at, g3], by simp [upd_at, g5], by simp [upd_at], ((f3.trans f4).trans f5).trans f6⟩
  · have : i = 2 := by omega
    subst this
    simp (maxDischargeDepth := 30) only [AMS, AMH, ↓reduceIte, Nat.reduceLT, Nat.reduceEqDiff, Nat.reduceAdd, Nat.reduceMul, reduceCtorEq, decide_true, decide_false, Nat.reduceLeDiff, Int.reduceNe, Int.reduceEq, ne_eq, not_false_eq_true, and_self, F5_DNil, k3, g2, g3, g5, g6, lt_f]
    refine W_call (known_w _) ?_
    rintro _ _ ⟨rfl, rfl⟩
    simp (maxDischargeDepth := 30) only [AMS, AMH, ↓reduceIte, Nat.reduceLT, Nat.reduceEqDiff, Nat.reduceAdd, Nat.reduceMul, reduceCtorEq, decide_true, decide_false, Nat.reduceLeDiff, Int.reduceNe, Int.reduceEq, ne_eq, not_false_eq_true, and_self, F5_DNil, k3]
    exact ⟨trivial, f2.trans f3⟩
theorem nil_5 {h : Heap} (hk : HOK h) (hp : 0 < h.next) (k : Int) {a : Value} {l : List Int} (hl : LS h a l ints 1) (k' : Int) {a' : Value} {l' : List Int} (hl' : LS h a' l' ints 1) :
    CW CC 5 [.agg ⟨[.int .i64 k, a]⟩, .agg ⟨[.int .i64 k', a']⟩] h fun r h' => r = .bool true ∧ Fr h h' := by
  obtain ⟨p, c, rfl⟩ := hl.len
  obtain ⟨p', c', rfl⟩ := hl'.len
  exact nil_law hk hp k p _ c k' p' _ c'
end Go.Am
