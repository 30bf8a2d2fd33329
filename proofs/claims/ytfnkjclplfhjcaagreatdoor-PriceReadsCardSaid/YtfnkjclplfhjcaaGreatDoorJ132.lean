/- Parts 132, 133 of the abstract machine over this program, joined: what each part says stands at its head. -/
import Derived.Test.YtfnkjclplfhjcaaGreatDoorJ129
import Derived.Test.YtfnkjclplfhjcaaGreatDoorJ52
import Derived.Test.YtfnkjclplfhjcaaGreatDoorJ48
set_option linter.unusedSimpArgs false
set_option linter.unusedVariables false
/- The abstract machine, part 132: contracts: the line of a tariff; tariff. -/
namespace Go.Am
open Go Go.Proofs
theorem F125_Am132 : type_of% (And.intro @bs_22 <| And.intro @fp_41_0 <| And.intro @fp_41_1 <| And.intro @fp_41_2 <| And.intro @fp_41_3 <| And.intro @fp_41_4 <| And.intro @ia_143_0 <| And.intro @ia_143_1 <| And.intro @ia_143_2 <| And.intro @ia_143_3 <| And.intro @ia_143_4 <| And.intro @ia_143_5 <| And.intro @ia_170_0 <| And.intro @ia_170_1 <| And.intro @ia_170_2 <| And.intro @ia_170_3 <| And.intro @ix_22 <| And.intro @ld_3 <| And.intro @ld_38 <| And.intro @ld_39 <| And.intro @ld_4 <| And.intro @part_3 <| And.intro @part_9 <| And.intro @size_143 <| And.intro @size_170 <| And.intro @size_22 <| And.intro @size_3 <| And.intro @size_9 <| And.intro @und_143 <| And.intro @und_170 <| And.intro @und_22 <| And.intro @xi_143_0 <| And.intro @xi_143_1 <| And.intro @xi_143_2 <| And.intro @xi_143_3 <| And.intro @xi_143_4 <| And.intro @xi_143_5 <| And.intro @xi_170_0 <| And.intro @xi_170_1 <| And.intro @xi_170_2 <| And.intro @xi_170_3 <| And.intro @zero_143 <| And.intro @zero_170 @zero_22) := And.intro @bs_22 <| And.intro @fp_41_0 <| And.intro @fp_41_1 <| And.intro @fp_41_2 <| And.intro @fp_41_3 <| And.intro @fp_41_4 <| And.intro @ia_143_0 <| And.intro @ia_143_1 <| And.intro @ia_143_2 <| And.intro @ia_143_3 <| And.intro @ia_143_4 <| And.intro @ia_143_5 <| And.intro @ia_170_0 <| And.intro @ia_170_1 <| And.intro @ia_170_2 <| And.intro @ia_170_3 <| And.intro @ix_22 <| And.intro @ld_3 <| And.intro @ld_38 <| And.intro @ld_39 <| And.intro @ld_4 <| And.intro @part_3 <| And.intro @part_9 <| And.intro @size_143 <| And.intro @size_170 <| And.intro @size_22 <| And.intro @size_3 <| And.intro @size_9 <| And.intro @und_143 <| And.intro @und_170 <| And.intro @und_22 <| And.intro @xi_143_0 <| And.intro @xi_143_1 <| And.intro @xi_143_2 <| And.intro @xi_143_3 <| And.intro @xi_143_4 <| And.intro @xi_143_5 <| And.intro @xi_170_0 <| And.intro @xi_170_1 <| And.intro @xi_170_2 <| And.intro @xi_170_3 <| And.intro @zero_143 <| And.intro @zero_170 @zero_22

theorem ix_words {k : Int} (h : 1 ≤ k ∧ k ≤ 4) : aIndex CC 143 (.agg ⟨wordList.map fun w => .string (bs w)⟩) (.int .i64 (2 + (k - 1))) = some (.string (bs (kindW k))) := by
  rcases four_of h with rfl | rfl | rfl | rfl
  · show aIndex CC 143 _ (.int .i64 2) = _; rw [xi_143_2]; rfl
  · show aIndex CC 143 _ (.int .i64 3) = _; rw [xi_143_3]; rfl
  · show aIndex CC 143 _ (.int .i64 4) = _; rw [xi_143_4]; rfl
  · show aIndex CC 143 _ (.int .i64 5) = _; rw [xi_143_5]; rfl
theorem ix_rules {r : Int} (h : 1 ≤ r ∧ r ≤ 4) : aIndex CC 170 (.agg ⟨ruleList.map fun w => .string (bs w)⟩) (.int .i64 (r - 1)) = some (.string (bs (ruleW r))) := by
  rcases four_of h with rfl | rfl | rfl | rfl
  · show aIndex CC 170 _ (.int .i64 0) = _; rw [xi_170_0]; rfl
  · show aIndex CC 170 _ (.int .i64 1) = _; rw [xi_170_1]; rfl
  · show aIndex CC 170 _ (.int .i64 2) = _; rw [xi_170_2]; rfl
  · show aIndex CC 170 _ (.int .i64 3) = _; rw [xi_170_3]; rfl
theorem bs2_22 (a b : Int) : aBuildSlice CC 22 2 [(0, .int .i64 a), (1, .int .i64 b)] = some (.new (.row [.int .i64 a, .int .i64 b] 1 true) (sliceTo 1 2 2)) := by kernel_rfl
theorem bs5_22 (a b c d e : Int) : aBuildSlice CC 22 5 [(0, .int .i64 a), (1, .int .i64 b), (2, .int .i64 c), (3, .int .i64 d), (4, .int .i64 e)] = some (.new (.row [.int .i64 a, .int .i64 b, .int .i64 c, .int .i64 d, .int .i64 e] 1 true) (sliceTo 1 5 5)) := by kernel_rfl
theorem told_eq (k c u r : Int) (w : Bs) (e : Bool) (hw : w = 32 :: whenW e) : glue 32 [kindW k, dec c, dec u] ++ [32] ++ ruleW r ++ w = rowB (.t ⟨k, c, u, r, e⟩) := by
  subst hw
  simp [rowB, Item.ws, glue]

set_option maxRecDepth 10000 in
set_option maxHeartbeats 2000000 in
theorem told_125 {t : Tar} (ht : okT t) {h : Heap} (hk : HOK h) : CW CC 125 [.agg ⟨t.cells⟩] h fun r h' => r = .string (bs (rowB (.t t))) ∧ Fr h h' := by
  obtain ⟨k, c, u, r, e⟩ := t
  obtain ⟨tk, tc, tu, tr⟩ := ht
  simp only at tk tc tu tr
  have iw := ix_words tk
  have ir := ix_rules tr
  have w1 := wrap64 (n := k - 1) (by omega) (by omega)
  have w2 := wrap64 (n := 2 + (k - 1)) (by omega) (by omega)
  have l1 : (glue 32 [kindW k, dec c, dec u]).length ≤ 14 := by
    have := kind_len k; have := (dec_num tc).2.2.1; have := (dec_num tu).2.2.1
    simp [glue_len]; omega
  have l2 := rule_len r
  refine CW_in Tryz.f125 (by kernel_rfl) (by kernel_rfl) rfl rfl ?_
  simp only [Tryz.f125, Tar.cells, bs_mk]
  cases e with
  | false =>
    have f1 : Fr h (h.alloc (.row [.int .i64 k, .int .i64 c, .int .i64 u, .int .i64 r, .bool false] 0 true)) := (Fr.refl hk).alloc _
    have r1 : rowAt (h.alloc (.row [.int .i64 k, .int .i64 c, .int .i64 u, .int .i64 r, .bool false] 0 true)) h.next = some [.int .i64 k, .int .i64 c, .int .i64 u, .int .i64 r, .bool false] := rowAt_new _ _ _ _
    have n1 : h.next < (h.alloc (.row [.int .i64 k, .int .i64 c, .int .i64 u, .int .i64 r, .bool false] 0 true)).next := by simp
    simp (maxDischargeDepth := 30) only [AMS, AMH, ↓reduceIte, Nat.reduceLT, Nat.reduceEqDiff, Nat.reduceAdd, Nat.reduceMul, reduceCtorEq, decide_true, decide_false, Nat.reduceLeDiff, Int.reduceNe, Int.reduceEq, ne_eq, not_false_eq_true, and_self, F125_Am132, hk, bs_mk]
    generalize (h.alloc (.row [.int .i64 k, .int .i64 c, .int .i64 u, .int .i64 r, .bool false] 0 true)) = h1 at f1 r1 n1 ⊢
    have k1 := f1.ok
    refine W_draw [(true, 1), (true, 2), (true, 3), (true, 4), (true, 6), (true, 7), (true, 8), (true, 9), (true, 10), (true, 14), (true, 15), (true, 19), (true, 0), (false, 2), (false, 7), (false, 9), (false, 10), (false, 15), (true, 5), (true, 11), (false, 15), (true, 12), (true, 13), (false, 15), (true, 16), (true, 17), (true, 18), (true, 20), (true, 21)] (by kernel_rfl) ?_
    simp (maxDischargeDepth := 30) only [AMS, AMH, ↓reduceIte, Nat.reduceLT, Nat.reduceEqDiff, Nat.reduceAdd, Nat.reduceMul, reduceCtorEq, decide_true, decide_false, Nat.reduceLeDiff, Int.reduceNe, Int.reduceEq, ne_eq, not_false_eq_true, and_self, AMR, F125_Am132, k1, r1, n1, w1, w2, bs2_22]
    refine W_callP (words_124 (k1.alloc _)) ?_
    rintro _ h2 ⟨rfl, fr2⟩
    have f2 := (f1.alloc (.row [.int .i64 c, .int .i64 u] 1 true)).trans fr2
    have k2 := f2.ok
    have r2 : rowAt h2 h.next = some [.int .i64 k, .int .i64 c, .int .i64 u, .int .i64 r, .bool false] := fr2.row' (k1.alloc _) (by rw [rowAt_old _ n1]; exact r1)
    have y2 : h2.get h1.next = some (.row [.int .i64 c, .int .i64 u] 1 true) := fr2.get' (k1.alloc _) (get_at _ rfl)
    simp (maxDischargeDepth := 30) only [AMS, AMH, ↓reduceIte, Nat.reduceLT, Nat.reduceEqDiff, Nat.reduceAdd, Nat.reduceMul, reduceCtorEq, decide_true, decide_false, Nat.reduceLeDiff, Int.reduceNe, Int.reduceEq, ne_eq, not_false_eq_true, and_self, AMR, F125_Am132, k2, r2, y2, w1, w2, iw]
    have lc : LS h2 (.slice (some ⟨h1.next, 0, some 1⟩) 2 2) [c, u] ints 1 := LS.of_row (xs := [c, u]) ints_len (by unfold rowAt; rw [y2]; rfl)
    refine W_callP (row_123 k2 lc (by intro n hn; simp at hn; rcases hn with rfl | rfl <;> assumption) (by simp) (by have := kind_len k; omega)) ?_
    rintro _ h3 ⟨rfl, fr3⟩
    have f3 := f2.trans fr3
    have k3 := f3.ok
    have r3 := fr3.row' k2 r2
    simp (maxDischargeDepth := 30) only [AMS, AMH, ↓reduceIte, Nat.reduceLT, Nat.reduceEqDiff, Nat.reduceAdd, Nat.reduceMul, reduceCtorEq, decide_true, decide_false, Nat.reduceLeDiff, Int.reduceNe, Int.reduceEq, ne_eq, not_false_eq_true, and_self, AMR, F125_Am132, k3, r3, bs_mk, s_add (a := (glue 32 [kindW k, dec c, dec u])) (b := [32]) (by simp only [List.length_append, List.length_cons, List.length_nil]; omega)]
    refine W_callP (ruleNames_144 k3) ?_
    rintro _ h4 ⟨rfl, fr4⟩
    have f4 := f3.trans fr4
    have k4 := f4.ok
    have r4 := fr4.row' k3 r3
    simp (maxDischargeDepth := 30) only [AMS, AMH, ↓reduceIte, Nat.reduceLT, Nat.reduceEqDiff, Nat.reduceAdd, Nat.reduceMul, reduceCtorEq, decide_true, decide_false, Nat.reduceLeDiff, Int.reduceNe, Int.reduceEq, ne_eq, not_false_eq_true, and_self, AMR, F125_Am132, k4, r4, place_137 tr.1 tr.2, RPc_ret, ir, s_add (a := (glue 32 [kindW k, dec c, dec u]) ++ [32]) (b := ruleW r) (by simp only [List.length_append, List.length_cons, List.length_nil]; omega), s_add (a := (glue 32 [kindW k, dec c, dec u]) ++ [32] ++ ruleW r) (b := [32, 97, 108, 108]) (by simp only [List.length_append, List.length_cons, List.length_nil]; omega)]
    refine ⟨?_, f4⟩
    first | exact congrArg (fun l => Value.string (bs l)) (told_eq k c u r [32, 97, 108, 108] false rfl) | (rw [← told_eq k c u r [32, 97, 108, 108] false rfl]; simp)
  | true =>
    have f1 : Fr h (h.alloc (.row [.int .i64 k, .int .i64 c, .int .i64 u, .int .i64 r, .bool true] 0 true)) := (Fr.refl hk).alloc _
    have r1 : rowAt (h.alloc (.row [.int .i64 k, .int .i64 c, .int .i64 u, .int .i64 r, .bool true] 0 true)) h.next = some [.int .i64 k, .int .i64 c, .int .i64 u, .int .i64 r, .bool true] := rowAt_new _ _ _ _
    have n1 : h.next < (h.alloc (.row [.int .i64 k, .int .i64 c, .int .i64 u, .int .i64 r, .bool true] 0 true)).next := by simp
    simp (maxDischargeDepth := 30) only [AMS, AMH, ↓reduceIte, Nat.reduceLT, Nat.reduceEqDiff, Nat.reduceAdd, Nat.reduceMul, reduceCtorEq, decide_true, decide_false, Nat.reduceLeDiff, Int.reduceNe, Int.reduceEq, ne_eq, not_false_eq_true, and_self, F125_Am132, hk, bs_mk]
    generalize (h.alloc (.row [.int .i64 k, .int .i64 c, .int .i64 u, .int .i64 r, .bool true] 0 true)) = h1 at f1 r1 n1 ⊢
    have k1 := f1.ok
    refine W_draw [(true, 1), (true, 2), (true, 3), (true, 4), (true, 6), (true, 7), (true, 8), (true, 9), (true, 10), (true, 14), (true, 15), (true, 19), (true, 0), (false, 2), (false, 7), (false, 9), (false, 10), (false, 15), (true, 5), (true, 11), (false, 15), (true, 12), (true, 13), (false, 15), (true, 16), (true, 17), (true, 18), (true, 20), (true, 21)] (by kernel_rfl) ?_
    simp (maxDischargeDepth := 30) only [AMS, AMH, ↓reduceIte, Nat.reduceLT, Nat.reduceEqDiff, Nat.reduceAdd, Nat.reduceMul, reduceCtorEq, decide_true, decide_false, Nat.reduceLeDiff, Int.reduceNe, Int.reduceEq, ne_eq, not_false_eq_true, and_self, AMR, F125_Am132, k1, r1, n1, w1, w2, bs2_22]
    refine W_callP (words_124 (k1.alloc _)) ?_
    rintro _ h2 ⟨rfl, fr2⟩
    have f2 := (f1.alloc (.row [.int .i64 c, .int .i64 u] 1 true)).trans fr2
    have k2 := f2.ok
    have r2 : rowAt h2 h.next = some [.int .i64 k, .int .i64 c, .int .i64 u, .int .i64 r, .bool true] := fr2.row' (k1.alloc _) (by rw [rowAt_old _ n1]; exact r1)
    have y2 : h2.get h1.next = some (.row [.int .i64 c, .int .i64 u] 1 true) := fr2.get' (k1.alloc _) (get_at _ rfl)
    simp (maxDischargeDepth := 30) only [AMS, AMH, ↓reduceIte, Nat.reduceLT, Nat.reduceEqDiff, Nat.reduceAdd, Nat.reduceMul, reduceCtorEq, decide_true, decide_false, Nat.reduceLeDiff, Int.reduceNe, Int.reduceEq, ne_eq, not_false_eq_true, and_self, AMR, F125_Am132, k2, r2, y2, w1, w2, iw]
    have lc : LS h2 (.slice (some ⟨h1.next, 0, some 1⟩) 2 2) [c, u] ints 1 := LS.of_row (xs := [c, u]) ints_len (by unfold rowAt; rw [y2]; rfl)
    refine W_callP (row_123 k2 lc (by intro n hn; simp at hn; rcases hn with rfl | rfl <;> assumption) (by simp) (by have := kind_len k; omega)) ?_
    rintro _ h3 ⟨rfl, fr3⟩
    have f3 := f2.trans fr3
    have k3 := f3.ok
    have r3 := fr3.row' k2 r2
    simp (maxDischargeDepth := 30) only [AMS, AMH, ↓reduceIte, Nat.reduceLT, Nat.reduceEqDiff, Nat.reduceAdd, Nat.reduceMul, reduceCtorEq, decide_true, decide_false, Nat.reduceLeDiff, Int.reduceNe, Int.reduceEq, ne_eq, not_false_eq_true, and_self, AMR, F125_Am132, k3, r3, bs_mk, s_add (a := (glue 32 [kindW k, dec c, dec u])) (b := [32]) (by simp only [List.length_append, List.length_cons, List.length_nil]; omega)]
    refine W_callP (ruleNames_144 k3) ?_
    rintro _ h4 ⟨rfl, fr4⟩
    have f4 := f3.trans fr4
    have k4 := f4.ok
    have r4 := fr4.row' k3 r3
    simp (maxDischargeDepth := 30) only [AMS, AMH, ↓reduceIte, Nat.reduceLT, Nat.reduceEqDiff, Nat.reduceAdd, Nat.reduceMul, reduceCtorEq, decide_true, decide_false, Nat.reduceLeDiff, Int.reduceNe, Int.reduceEq, ne_eq, not_false_eq_true, and_self, AMR, F125_Am132, k4, r4, place_137 tr.1 tr.2, RPc_ret, ir, s_add (a := (glue 32 [kindW k, dec c, dec u]) ++ [32]) (b := ruleW r) (by simp only [List.length_append, List.length_cons, List.length_nil]; omega), s_add (a := (glue 32 [kindW k, dec c, dec u]) ++ [32] ++ ruleW r) (b := [32, 101, 97, 99, 104]) (by simp only [List.length_append, List.length_cons, List.length_nil]; omega)]
    refine ⟨?_, f4⟩
    first | exact congrArg (fun l => Value.string (bs l)) (told_eq k c u r [32, 101, 97, 99, 104] true rfl) | (rw [← told_eq k c u r [32, 101, 97, 99, 104] true rfl]; simp)
end Go.Am

/- The abstract machine, part 133: contracts: tariff. -/
namespace Go.Am
open Go Go.Proofs
theorem F132_Am133 : type_of% (And.intro @bld_41 <| And.intro @fld_41_0 <| And.intro @fld_41_1 <| And.intro @fld_41_2 <| And.intro @fld_41_3 <| And.intro @fld_41_4 <| And.intro @ix_117 <| And.intro @ix_22 <| And.intro @ld_3 <| And.intro @ld_41 <| And.intro @ld_9 <| And.intro @len_117 <| And.intro @part_3 <| And.intro @part_9 <| And.intro @size_117 <| And.intro @size_170 <| And.intro @size_22 <| And.intro @size_3 <| And.intro @size_41 <| And.intro @size_9 <| And.intro @sp_41_0 <| And.intro @sp_41_1 <| And.intro @sp_41_2 <| And.intro @sp_41_3 <| And.intro @sp_41_4 <| And.intro @und_117 <| And.intro @und_170 <| And.intro @und_22 <| And.intro @zero_117 <| And.intro @zero_170 <| And.intro @zero_22 @zero_41) := And.intro @bld_41 <| And.intro @fld_41_0 <| And.intro @fld_41_1 <| And.intro @fld_41_2 <| And.intro @fld_41_3 <| And.intro @fld_41_4 <| And.intro @ix_117 <| And.intro @ix_22 <| And.intro @ld_3 <| And.intro @ld_41 <| And.intro @ld_9 <| And.intro @len_117 <| And.intro @part_3 <| And.intro @part_9 <| And.intro @size_117 <| And.intro @size_170 <| And.intro @size_22 <| And.intro @size_3 <| And.intro @size_41 <| And.intro @size_9 <| And.intro @sp_41_0 <| And.intro @sp_41_1 <| And.intro @sp_41_2 <| And.intro @sp_41_3 <| And.intro @sp_41_4 <| And.intro @und_117 <| And.intro @und_170 <| And.intro @und_22 <| And.intro @zero_117 <| And.intro @zero_170 <| And.intro @zero_22 @zero_41

theorem take?_one {l : List Value} {p : Nat} {v : Value} (h : l[p]? = some v) : take? l p 1 = some [v] := by
  obtain ⟨hk, e⟩ := List.getElem?_eq_some_iff.1 h
  rw [take?_some (by omega), List.drop_eq_getElem_cons hk, e]; rfl
theorem strs_get {ws : List Bs} {i : Nat} {x : Bs} (h : ws[i]? = some x) : (ws.flatMap strC)[i]? = some (.string (bs x)) := by
  rw [strC_map, List.getElem?_map, h]; rfl
/-- a part of a list of strings -/
theorem LS.sub {h : Heap} {b : Nat} {ws : List Bs} (lo m : Nat) {c : Nat} {sp : Option Nat} (hr : rowAt h b = some (ws.flatMap strC)) (hm : lo + m ≤ ws.length) : LS h (.slice (some ⟨b, lo, sp⟩) m c) ((ws.drop lo).take m) strC 1 := by
  have hl : ((ws.drop lo).take m).length = m := by simp; omega
  refine .inr ⟨b, lo, sp, c, _, by rw [hl], hr, fun i x hx => ?_⟩
  have hi := (List.getElem?_eq_some_iff.1 hx).1
  rw [hl] at hi
  rw [List.getElem?_take_of_lt hi, List.getElem?_drop] at hx
  have hg := strs_get hx
  rw [Nat.mul_one]
  refine ⟨take?_one hg, fun j hj => ?_⟩
  have : j = 0 := by omega
  subst this
  rw [Nat.add_zero, hg]; rfl
theorem natIn_at (lo hi n : Nat) : natIn lo hi (n : Int) = guardB (Nat.ble lo n && Nat.ble n hi) (some n) := rfl
theorem bound_at (hi d : Nat) (k : IntKind) (i : Int) : bound? hi d (some (.int k i)) = natIn 0 hi i := rfl
theorem bound_none (hi d : Nat) : bound? hi d none = some d := rfl
theorem aSlice_sl {C : Ctx} {t e : TypeId} {n : Nat} (hu : C.und t = some (.slice e)) (hs : C.size e = some n) (p : Option Addr) (len cap : Nat) (lo hi : Option Value) : aSlice C t (.slice p len cap) lo hi none = sliceSl n p len cap lo hi := by
  unfold aSlice
  rw [hu]
  show obind (C.size e) _ = _
  rw [hs]; rfl
theorem sliceSl_at (b o n c lo hi : Nat) (h1 : lo ≤ hi) (h2 : hi ≤ c) (h3 : n ≤ c) : sliceSl 1 (some ⟨b + 1, o, some 1⟩) n c (some (.int .i64 lo)) (some (.int .i64 hi)) = some (.slice (some ⟨b + 1, o + lo * 1, some 1⟩) (hi - lo) (c - lo)) := by
  unfold sliceSl
  rw [Nat.ble_eq_true_of_le h3, guardB_true]
  simp only [bound_at, natIn_at, Nat.ble_eq_true_of_le h2, Nat.ble_eq_true_of_le h1, Nat.ble_eq_true_of_le (Nat.zero_le hi), Nat.ble_eq_true_of_le (Nat.zero_le lo), Bool.and_self, guardB_true, obind_some]
  rfl
theorem sliceSl_n (b o n c lo : Nat) (h1 : lo ≤ n) (h3 : n ≤ c) : sliceSl 1 (some ⟨b + 1, o, some 1⟩) n c (some (.int .i64 lo)) none = some (.slice (some ⟨b + 1, o + lo * 1, some 1⟩) (n - lo) (c - lo)) := by
  unfold sliceSl
  rw [Nat.ble_eq_true_of_le h3, guardB_true]
  simp only [bound_none, bound_at, natIn_at, Nat.ble_eq_true_of_le h1, Nat.ble_eq_true_of_le (Nat.zero_le lo), Bool.and_self, guardB_true, obind_some]
  rfl
theorem sl_117 (b o n c lo hi : Nat) (h1 : lo ≤ hi) (h2 : hi ≤ c) (h3 : n ≤ c) : aSlice CC 117 (.slice (some ⟨b + 1, o, some 1⟩) n c) (some (.int .i64 lo)) (some (.int .i64 hi)) none = some (.slice (some ⟨b + 1, o + lo * 1, some 1⟩) (hi - lo) (c - lo)) := by
  rw [aSlice_sl und_117 size_9]; exact sliceSl_at b o n c lo hi h1 h2 h3
theorem sl_117n (b o n c lo : Nat) (h1 : lo ≤ n) (h3 : n ≤ c) : aSlice CC 117 (.slice (some ⟨b + 1, o, some 1⟩) n c) (some (.int .i64 lo)) none none = some (.slice (some ⟨b + 1, o + lo * 1, some 1⟩) (n - lo) (c - lo)) := by
  rw [aSlice_sl und_117 size_9]; exact sliceSl_n b o n c lo h1 h3
theorem sl_170 (b : Nat) (sp : Option Nat) : aSlice CC 170 (.pointer (some ⟨b, 0, sp⟩)) none none none = some (.slice (some ⟨b, 0, none⟩) 4 4) := by kernel_rfl
theorem sl_143 (b : Nat) (sp : Option Nat) : aSlice CC 143 (.pointer (some ⟨b, 0, sp⟩)) none none none = some (.slice (some ⟨b, 0, none⟩) 6 6) := by kernel_rfl
theorem rules_len : (ruleList.map fun w => Value.string (bs w)).length = 4 := rfl
theorem rules_one : allOne (ruleList.map fun w => Value.string (bs w)) = true := rfl
theorem words_len : (wordList.map fun w => Value.string (bs w)).length = 6 := rfl
theorem words_one : allOne (wordList.map fun w => Value.string (bs w)) = true := rfl
theorem rules_write : write? [.string ⟨⟨[]⟩⟩, .string ⟨⟨[]⟩⟩, .string ⟨⟨[]⟩⟩, .string ⟨⟨[]⟩⟩] 0 (ruleList.map fun w => Value.string (bs w)) = some (ruleList.map fun w => Value.string (bs w)) := write_all _ _ rfl
theorem words_write : write? [.string ⟨⟨[]⟩⟩, .string ⟨⟨[]⟩⟩, .string ⟨⟨[]⟩⟩, .string ⟨⟨[]⟩⟩, .string ⟨⟨[]⟩⟩, .string ⟨⟨[]⟩⟩] 0 (wordList.map fun w => Value.string (bs w)) = some (wordList.map fun w => Value.string (bs w)) := write_all _ _ rfl
theorem rules_flat : (ruleList.map fun w => Value.string (bs w)) = ruleList.flatMap strC := (strC_map ruleList).symm
theorem words_flat : (wordList.map fun w => Value.string (bs w)) = wordList.flatMap strC := (strC_map wordList).symm

theorem tar_none {k : Int} {ws : List Bs} (h : ws.length ≠ 5) : tarP k ws = none := by
  unfold tarP
  split
  · simp at h
  · rfl
theorem five_of {ws : List Bs} (h : ws.length = 5) : ∃ w a b r e, ws = [w, a, b, r, e] := by
  match ws, h with
  | [w, a, b, r, e], _ => exact ⟨w, a, b, r, e, rfl⟩

set_option maxRecDepth 10000 in
set_option maxHeartbeats 4000000 in
theorem tariff_132 {at' : Int} {N : Nat} {v : Value} {ws : List Bs} {h : Heap} (hk : HOK h) (hp : 0 < h.next) (q : SL N h v (ws.flatMap strC) 1 ws.length) (hne : 1 ≤ ws.length) (hl : ws.length ≤ 1000) (h2 : 2 ≤ at' ∧ at' ≤ 5) :
    CX CC 132 [.int .i64 at', v] h (fun r h' => ∃ x, tarP at' ws = some x ∧ r = .agg ⟨x.cells⟩ ∧ Fr h h') fun e h' => tarP at' ws = none ∧ noText e ∧ Fr h h' := by
  rcases q with ⟨_, _, e⟩ | ⟨b, rfl, hb0, _, gb, _⟩
  · omega
  obtain ⟨b, rfl⟩ : ∃ b', b = b' + 1 := ⟨b - 1, by omega⟩
  refine CX_in Tryz.f132 (by kernel_rfl) (by kernel_rfl) rfl rfl ?_
  simp only [Tryz.f132, bs_mk]
  have f1 : Fr h (h.alloc (.row [.int .i64 0, .int .i64 0, .int .i64 0, .int .i64 0, .bool false] 0 true)) := (Fr.refl hk).alloc _
  have z1 : (h.alloc (.row [.int .i64 0, .int .i64 0, .int .i64 0, .int .i64 0, .bool false] 0 true)).get h.next = some (.row [.int .i64 0, .int .i64 0, .int .i64 0, .int .i64 0, .bool false] 0 true) := get_at _ rfl
  have n1 : h.next < (h.alloc (.row [.int .i64 0, .int .i64 0, .int .i64 0, .int .i64 0, .bool false] 0 true)).next := by simp
  simp (maxDischargeDepth := 30) only [AMS, AMH, ↓reduceIte, Nat.reduceLT, Nat.reduceEqDiff, Nat.reduceAdd, Nat.reduceMul, reduceCtorEq, decide_true, decide_false, Nat.reduceLeDiff, Int.reduceNe, Int.reduceEq, ne_eq, not_false_eq_true, and_self, F132_Am133, hk, bs_mk]
  generalize (h.alloc (.row [.int .i64 0, .int .i64 0, .int .i64 0, .int .i64 0, .bool false] 0 true)) = h1 at f1 z1 n1 ⊢
  have k1 := f1.ok
  refine W_callX (need_129 _ _ k1) ?_ ?_
  rotate_left
  · rintro e h3 ⟨hb, nt, f3⟩
    simp only [PostX_panic]
    refine ⟨tar_none fun e5 => ?_, nt, f1.trans f3⟩
    rw [e5] at hb; exact absurd hb (by decide)
  rintro _ h3 ⟨hb, fr3⟩
  have h5 : ws.length = 5 := by have : (ws.length : Int) = 5 := by simpa using hb
                                omega
  clear hb
  obtain ⟨w, a, b', r, e, rfl⟩ := five_of h5
  have f3 := f1.trans fr3
  have k3 := f3.ok
  have g3 := f3.get' hk gb
  have z3 := fr3.get' k1 z1
  have r3 : rowAt h3 (b + 1) = some ([w, a, b', r, e].flatMap strC) := by unfold rowAt; rw [g3]; rfl
  have l3 : LS h3 (.slice (some ⟨b + 1, 1, some 1⟩) 2 4) [a, b'] strC 1 := LS.sub (ws := [w, a, b', r, e]) 1 2 r3 (by simp)
  have s13 : aSlice CC 117 (.slice (some ⟨b + 1, 0, some 1⟩) 5 5) (some (.int .i64 1)) (some (.int .i64 3)) none = some (.slice (some ⟨b + 1, 1, some 1⟩) 2 4) := sl_117 b 0 5 5 1 3 (by omega) (by omega) (by omega)
  simp (maxDischargeDepth := 30) only [AMS, AMH, ↓reduceIte, Nat.reduceLT, Nat.reduceEqDiff, Nat.reduceAdd, Nat.reduceMul, reduceCtorEq, decide_true, decide_false, Nat.reduceLeDiff, Int.reduceNe, Int.reduceEq, ne_eq, not_false_eq_true, and_self, F132_Am133, k3, s13, Option.map_some, Option.map_none]
  refine W_callX (given_131 (many := 2) k3 (by have := f3.next; omega) l3 (by simp) (by omega)) ?_ ?_
  rotate_left
  · rintro ex h4 ⟨hb, nt, f4⟩
    simp only [PostX_panic]
    refine ⟨?_, nt, f3.trans f4⟩
    have hn : ¬ (numB a = true ∧ numB b' = true) := fun ⟨q1, q2⟩ => by simp [numsB, q1, q2] at hb
    show (if _ then _ else _) = none
    rw [if_neg fun q => hn ⟨q.1, q.2.1⟩]
  rintro lv h4 ⟨hb, q4, fr4⟩
  have hab : numB a = true ∧ numB b' = true := by simpa [numsB] using hb
  clear hb
  rcases q4 with ⟨_, e4, _⟩ | ⟨bl, rfl, _, _, gl, _⟩
  · simp [vals, ints] at e4
  have gl : h4.get bl = some (.row [.int .i64 (valB a), .int .i64 (valB b')] 1 true) := gl
  have f4 := f3.trans fr4
  have k4 := f4.ok
  have g4 := fr4.get' k3 g3
  have z4 := fr4.get' k3 z3
  simp (maxDischargeDepth := 30) only [AMS, AMH, ↓reduceIte, Nat.reduceLT, Nat.reduceEqDiff, Nat.reduceAdd, Nat.reduceMul, reduceCtorEq, decide_true, decide_false, Nat.reduceLeDiff, Int.reduceNe, Int.reduceEq, ne_eq, not_false_eq_true, and_self, F132_Am133, k4]
  refine W_call (ruleNames_144 k4) ?_
  rintro _ h5 ⟨rfl, fr5⟩
  have f5 := f4.trans fr5
  have k5 := f5.ok
  have g5 := fr5.get' k4 g4
  have z5 := fr5.get' k4 z4
  have gl5 := fr5.get' k4 gl
  simp (maxDischargeDepth := 30) only [AMS, AMH, ↓reduceIte, Nat.reduceLT, Nat.reduceEqDiff, Nat.reduceAdd, Nat.reduceMul, reduceCtorEq, decide_true, decide_false, Nat.reduceLeDiff, Int.reduceNe, Int.reduceEq, ne_eq, not_false_eq_true, and_self, F132_Am133, k5, rules_len, rules_one, rules_write]
  have fr6 : Fr h5 ((h5.alloc (.row [.string ⟨⟨[]⟩⟩, .string ⟨⟨[]⟩⟩, .string ⟨⟨[]⟩⟩, .string ⟨⟨[]⟩⟩] 0 true)).set h5.next (.row (ruleList.map fun w => .string (bs w)) 0 true)) := ((Fr.refl k5).alloc _).set (Nat.le_refl _) (by simp) _
  have y6 : rowAt ((h5.alloc (.row [.string ⟨⟨[]⟩⟩, .string ⟨⟨[]⟩⟩, .string ⟨⟨[]⟩⟩, .string ⟨⟨[]⟩⟩] 0 true)).set h5.next (.row (ruleList.map fun w => .string (bs w)) 0 true)) h5.next = some (ruleList.flatMap strC) := by rw [rowAt_set_self, rules_flat]
  generalize ((h5.alloc (.row [.string ⟨⟨[]⟩⟩, .string ⟨⟨[]⟩⟩, .string ⟨⟨[]⟩⟩, .string ⟨⟨[]⟩⟩] 0 true)).set h5.next (.row (ruleList.map fun w => .string (bs w)) 0 true)) = h6 at fr6 y6 ⊢
  have f6 := f5.trans fr6
  have k6 := f6.ok
  have g6 := fr6.get' k5 g5
  have z6 := fr6.get' k5 z5
  have gl6 := fr6.get' k5 gl5
  have r6 : rowAt h6 (b + 1) = some ([w, a, b', r, e].flatMap strC) := by unfold rowAt; rw [g6]; rfl
  have c3 : ([w, a, b', r, e].flatMap strC)[3]? = some (.string (bs r)) := rfl
  have c4 : ([w, a, b', r, e].flatMap strC)[4]? = some (.string (bs e)) := rfl
  have i3 : aIndexAddr CC 117 (.slice (some ⟨b + 1, 0, some 1⟩) 5 5) (.int .i64 3) = some (.pointer (some ⟨b + 1, 3, none⟩)) := ix_117 (b + 1) 0 (some 1) 5 5 3 (by omega)
  have i4 : aIndexAddr CC 117 (.slice (some ⟨b + 1, 0, some 1⟩) 5 5) (.int .i64 4) = some (.pointer (some ⟨b + 1, 4, none⟩)) := ix_117 (b + 1) 0 (some 1) 5 5 4 (by omega)
  refine W_draw [(true, 0), (true, 1), (true, 2), (true, 3), (true, 4), (true, 5)] (by kernel_rfl) ?_
  simp (maxDischargeDepth := 30) only [AMS, AMH, ↓reduceIte, Nat.reduceLT, Nat.reduceEqDiff, Nat.reduceAdd, Nat.reduceMul, reduceCtorEq, decide_true, decide_false, Nat.reduceLeDiff, Int.reduceNe, Int.reduceEq, ne_eq, not_false_eq_true, and_self, AMR, F132_Am133, k6, sl_170, i3, r6, c3, Option.map_none]
  have lr : LS h6 (.slice (some ⟨h5.next, 0, none⟩) 4 4) ruleList strC 1 := LS.of_row (xs := ruleList) strC_len y6
  refine W_callP (index_130 (x := r) k6 lr (by simp [ruleList])) ?_
  rintro _ _ ⟨rfl, rfl⟩
  have hpr := pos_lt r ruleList 0
  have hlr : ruleList.length = 4 := rfl
  rw [hlr] at hpr
  simp (maxDischargeDepth := 30) only [AMS, AMH, ↓reduceIte, Nat.reduceLT, Nat.reduceEqDiff, Nat.reduceAdd, Nat.reduceMul, reduceCtorEq, decide_true, decide_false, Nat.reduceLeDiff, Int.reduceNe, Int.reduceEq, ne_eq, not_false_eq_true, and_self, AMR, F132_Am133, k6, i3, r6, c3]
  refine W_callX (need_129 _ _ k6) ?_ ?_
  rotate_left
  · rintro ex h7 ⟨hb, nt, f7⟩
    simp only [PostX_panic]
    refine ⟨?_, nt, f6.trans f7⟩
    have hn : ¬ 0 ≤ pos r ruleList 0 := by simpa using hb
    show (if _ then _ else _) = none
    rw [if_neg fun q => hn q.2.2]
  rintro _ h7 ⟨hb, fr7⟩
  have hpos : 0 ≤ pos r ruleList 0 := by simpa using hb
  clear hb
  have f7 := f6.trans fr7
  have k7 := f7.ok
  have r7 := fr7.row' k6 r6
  have z7 := fr7.get' k6 z6
  have gl7 : rowAt h7 bl = some [.int .i64 (valB a), .int .i64 (valB b')] := by unfold rowAt; rw [fr7.get' k6 gl6]; rfl
  have w1 := wrap64 (n := at' - 2) (by omega) (by omega)
  have w2 := wrap64 (n := 1 + (at' - 2)) (by omega) (by omega)
  have w3 := wrap64 (n := 1 + pos r ruleList 0) (by omega) (by omega)
  have j0 : aIndexAddr CC 22 (.slice (some ⟨bl, 0, some 1⟩) 2 2) (.int .i64 0) = some (.pointer (some ⟨bl, 0, none⟩)) := ix_22 bl 0 (some 1) 2 2 0 (by omega)
  have j1 : aIndexAddr CC 22 (.slice (some ⟨bl, 0, some 1⟩) 2 2) (.int .i64 1) = some (.pointer (some ⟨bl, 1, none⟩)) := ix_22 bl 0 (some 1) 2 2 1 (by omega)
  simp (maxDischargeDepth := 30) only [AMS, AMH, ↓reduceIte, Nat.reduceLT, Nat.reduceEqDiff, Nat.reduceAdd, Nat.reduceMul, reduceCtorEq, decide_true, decide_false, Nat.reduceLeDiff, Int.reduceNe, Int.reduceEq, ne_eq, not_false_eq_true, and_self, F132_Am133, k7]
  refine W_draw [(true, 0), (true, 1), (true, 2), (true, 3), (true, 4), (true, 5), (true, 6), (true, 7), (true, 8), (true, 9), (true, 10), (true, 11), (true, 12), (true, 13), (true, 14), (true, 15), (true, 16)] (by kernel_rfl) ?_
  simp (maxDischargeDepth := 30) only [AMS, AMH, ↓reduceIte, Nat.reduceLT, Nat.reduceEqDiff, Nat.reduceAdd, Nat.reduceMul, reduceCtorEq, decide_true, decide_false, Nat.reduceLeDiff, Int.reduceNe, Int.reduceEq, ne_eq, not_false_eq_true, and_self, AMR, F132_Am133, k7, i4, r7, c4, z7, w1, w2, w3, j0, j1, gl7, s_eq, List.take_succ_cons, List.take_zero, List.drop_succ_cons, List.drop_zero, PostX_end, PostX_ret]
  refine ⟨⟨1 + (at' - 2), valB a, valB b', 1 + pos r ruleList 0, decide (e = wEach)⟩, ?_, rfl, f7.set (by omega) (by have := f7.next; have := fr7.next; have := get_lt k7 z7; omega) _⟩
  show (if _ then _ else _) = _
  rw [if_pos ⟨hab.1, hab.2, hpos⟩]
  have : 1 + (at' - 2) = at' - 1 := by omega
  rw [this]
end Go.Am
