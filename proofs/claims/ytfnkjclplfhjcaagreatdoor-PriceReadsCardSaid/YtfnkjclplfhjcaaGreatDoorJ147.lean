/- Parts 147 of the abstract machine over this program, joined: what each part says stands at its head. -/
import Derived.Test.YtfnkjclplfhjcaaGreatDoorJ145
set_option linter.unusedSimpArgs false
set_option linter.unusedVariables false
/- The abstract machine, part 147: contracts of the specification: Print. -/
namespace Go.Am
open Go Go.Proofs
theorem F65_Am147 : type_of% (And.intro @bs_117 <| And.intro @bs_22 <| And.intro @fp_26_0 <| And.intro @fp_26_1 <| And.intro @fp_26_2 <| And.intro @fp_30_0 <| And.intro @fp_30_1 <| And.intro @fp_41_0 <| And.intro @fp_41_1 <| And.intro @fp_41_2 <| And.intro @fp_41_3 <| And.intro @fp_41_4 <| And.intro @fp_72_0 <| And.intro @fp_72_1 <| And.intro @fp_72_2 <| And.intro @fp_72_3 <| And.intro @ix_117 <| And.intro @ix_22 <| And.intro @ix_23 <| And.intro @ix_24 <| And.intro @ld_22 <| And.intro @ld_23 <| And.intro @ld_24 <| And.intro @ld_3 <| And.intro @ld_38 <| And.intro @ld_39 <| And.intro @ld_4 <| And.intro @ld_41 <| And.intro @ld_72 <| And.intro @ld_9 <| And.intro @len_22 <| And.intro @len_23 <| And.intro @len_24 <| And.intro @part_3 <| And.intro @part_41 <| And.intro @part_72 <| And.intro @part_9 <| And.intro @size_117 <| And.intro @size_22 <| And.intro @size_23 <| And.intro @size_24 <| And.intro @size_3 <| And.intro @size_41 <| And.intro @size_72 <| And.intro @size_9 <| And.intro @und_117 <| And.intro @und_22 <| And.intro @und_23 <| And.intro @und_24 <| And.intro @zero_117 <| And.intro @zero_22 <| And.intro @zero_23 <| And.intro @zero_24 <| And.intro @zero_41 @zero_72) := And.intro @bs_117 <| And.intro @bs_22 <| And.intro @fp_26_0 <| And.intro @fp_26_1 <| And.intro @fp_26_2 <| And.intro @fp_30_0 <| And.intro @fp_30_1 <| And.intro @fp_41_0 <| And.intro @fp_41_1 <| And.intro @fp_41_2 <| And.intro @fp_41_3 <| And.intro @fp_41_4 <| And.intro @fp_72_0 <| And.intro @fp_72_1 <| And.intro @fp_72_2 <| And.intro @fp_72_3 <| And.intro @ix_117 <| And.intro @ix_22 <| And.intro @ix_23 <| And.intro @ix_24 <| And.intro @ld_22 <| And.intro @ld_23 <| And.intro @ld_24 <| And.intro @ld_3 <| And.intro @ld_38 <| And.intro @ld_39 <| And.intro @ld_4 <| And.intro @ld_41 <| And.intro @ld_72 <| And.intro @ld_9 <| And.intro @len_22 <| And.intro @len_23 <| And.intro @len_24 <| And.intro @part_3 <| And.intro @part_41 <| And.intro @part_72 <| And.intro @part_9 <| And.intro @size_117 <| And.intro @size_22 <| And.intro @size_23 <| And.intro @size_24 <| And.intro @size_3 <| And.intro @size_41 <| And.intro @size_72 <| And.intro @size_9 <| And.intro @und_117 <| And.intro @und_22 <| And.intro @und_23 <| And.intro @und_24 <| And.intro @zero_117 <| And.intro @zero_22 <| And.intro @zero_23 <| And.intro @zero_24 <| And.intro @zero_41 @zero_72

theorem kl_at {n : Nat} (h : 1 ≤ n ∧ n ≤ 4) : (kindList.flatMap strC)[n]? = some (.string (bs (kindW n))) := by
  have : n = 1 ∨ n = 2 ∨ n = 3 ∨ n = 4 := by omega
  rcases this with rfl | rfl | rfl | rfl <;> rfl
theorem rl_at {n : Nat} (h : 1 ≤ n ∧ n ≤ 4) : (ruleList'.flatMap strC)[n]? = some (.string (bs (ruleW n))) := by
  have : n = 1 ∨ n = 2 ∨ n = 3 ∨ n = 4 := by omega
  rcases this with rfl | rfl | rfl | rfl <;> rfl

set_option maxRecDepth 10000 in
set_option maxHeartbeats 4000000 in
theorem print_65 {h : Heap} (hk : HOK h) (hp : 0 < h.next) {a b c : Value} {s : Sheet} (hs : IsSheet h a b c s) (ho : okS s) (l1 : s.offs.length ≤ 1000) (l2 : s.boards.length ≤ 1000) (l3 : s.tars.length ≤ 1000) :
    CW CC 65 [.agg ⟨[a, b, c]⟩] h fun r h' => r = .string (bs (textB s)) ∧ Fr h h' := by
  obtain ⟨p1, c1, rfl, hx1⟩ := hs.offs.open
  obtain ⟨p2, c2, rfl, hx2⟩ := hs.boards.open
  obtain ⟨p3, c3, rfl, hx3⟩ := hs.tars.open
  refine CW_in Tryz.f65 (by kernel_rfl) (by kernel_rfl) rfl rfl ?_
  simp only [Tryz.f65, bs_mk]
  have f1 : Fr h (h.alloc (.row [.slice p1 s.offs.length c1, .slice p2 s.boards.length c2, .slice p3 s.tars.length c3] 0 true)) := (Fr.refl hk).alloc _
  have r1 : rowAt (h.alloc (.row [.slice p1 s.offs.length c1, .slice p2 s.boards.length c2, .slice p3 s.tars.length c3] 0 true)) h.next = some [.slice p1 s.offs.length c1, .slice p2 s.boards.length c2, .slice p3 s.tars.length c3] := rowAt_new _ _ _ _
  have q1 : SL (h.alloc (.row [.slice p1 s.offs.length c1, .slice p2 s.boards.length c2, .slice p3 s.tars.length c3] 0 true)).next ((h.alloc (.row [.slice p1 s.offs.length c1, .slice p2 s.boards.length c2, .slice p3 s.tars.length c3] 0 true)).alloc (.row [.string (bs wPrice)] 1 true)) (.slice (some ⟨(h.alloc (.row [.slice p1 s.offs.length c1, .slice p2 s.boards.length c2, .slice p3 s.tars.length c3] 0 true)).next, 0, some 1⟩) 1 1) ([wPrice].flatMap strC) 1 1 := SL.new (Nat.le_refl _) (by simp) _ _ _ rfl
  have w0 : Value.string (bs [112, 114, 105, 99, 101]) = .string (bs wPrice) := rfl
  simp (maxDischargeDepth := 30) only [AMS, AMH, ↓reduceIte, Nat.reduceLT, Nat.reduceEqDiff, Nat.reduceAdd, Nat.reduceMul, reduceCtorEq, decide_true, decide_false, Nat.reduceLeDiff, Int.reduceNe, Int.reduceEq, ne_eq, not_false_eq_true, and_self, F65_Am147, hk, bs_mk, w0]
  have e1 : (h.alloc (.row [.slice p1 s.offs.length c1, .slice p2 s.boards.length c2, .slice p3 s.tars.length c3] 0 true)).next = h.next + 1 := Heap.next_alloc _ _
  rw [e1] at q1
  have fr1 : Fr (h.alloc (.row [.slice p1 s.offs.length c1, .slice p2 s.boards.length c2, .slice p3 s.tars.length c3] 0 true)) ((h.alloc (.row [.slice p1 s.offs.length c1, .slice p2 s.boards.length c2, .slice p3 s.tars.length c3] 0 true)).alloc (.row [.string (bs wPrice)] 1 true)) := (Fr.refl f1.ok).alloc _
  generalize hh2 : ((h.alloc (.row [.slice p1 s.offs.length c1, .slice p2 s.boards.length c2, .slice p3 s.tars.length c3] 0 true)).alloc (.row [.string (bs wPrice)] 1 true)) = h2 at q1 fr1
  generalize (h.alloc (.row [.slice p1 s.offs.length c1, .slice p2 s.boards.length c2, .slice p3 s.tars.length c3] 0 true)) = b1 at f1 r1 fr1 e1
  have kb := f1.ok
  have hpb : 0 < b1.next := by omega
  replace q1 : SL b1.next h2 (.slice (some ⟨h.next + 1, 0, some 1⟩) 1 1) ([wPrice].flatMap strC) 1 1 := by rw [e1]; exact q1
  clear hh2
  refine W_loop s.offs.length (fun m f h' => ∃ i, i ≤ s.offs.length ∧ m = s.offs.length - i ∧ f 1 = .pointer (some ⟨h.next, 0, none⟩) ∧ f 4 = .int .i64 i ∧
      SL b1.next h' (f 3) ((wPrice :: (s.offs.take i).map fun n => rowB (.o n)).flatMap strC) 1 (1 + i) ∧ Fr b1 h')
    ⟨0, by omega, by omega, by simp [upd_at], by simp [upd_at], by simpa [upd_at] using q1, fr1⟩ ?_
  clear q1 fr1 h2
  rintro m f h2 ⟨i, hi, rfl, g1, g4, q3, fr2⟩ ih
  have k2 := fr2.ok
  have r2 := fr2.row' kb r1
  by_cases hil : i < s.offs.length
  · obtain ⟨n, gn⟩ : ∃ n, s.offs[i]? = some n := ⟨_, List.getElem?_eq_getElem hil⟩
    rcases hx1 with hx | ⟨b, o, sp, row, rfl, hr, hx⟩
    · rw [hx] at hil; simp at hil
    have hcell : row[o + i]? = some (.int .i64 n) := by
      have := (hx _ _ gn).2 0 (by omega)
      simpa [ints] using this
    have on := ho.offs n (List.mem_of_getElem? gn)
    have hr2 := (f1.trans fr2).row' hk hr
    have w1 : Value.string (bs [111, 119, 110, 101, 114]) = .string (bs wOwner) := rfl
    have ln : LS (h2.alloc (.row [.int .i64 n] 1 true)) (.slice (some ⟨h2.next, 0, some 1⟩) 1 1) [n] ints 1 := LS.of_row (xs := [n]) ints_len (rowAt_new _ _ _ _)
    simp (maxDischargeDepth := 30) only [AMS, AMH, ↓reduceIte, Nat.reduceLT, Nat.reduceEqDiff, Nat.reduceAdd, Nat.reduceMul, reduceCtorEq, decide_true, decide_false, Nat.reduceLeDiff, Int.reduceNe, Int.reduceEq, ne_eq, not_false_eq_true, and_self, F65_Am147, k2, g1, g4, lt_t hil, hil, Nat.mul_one, r2, hr2, hcell, w1]
    refine W_call (row_96 (k2.alloc _) ln (by intro x hx; simp at hx; subst hx; exact on) (by simp) (by simp [wOwner])) ?_
    rintro _ h4 ⟨rfl, fr4⟩
    have fr24 := (fr2.alloc (.row [.int .i64 n] 1 true)).trans fr4
    have q4 := q3.fr k2 ((Fr.refl k2).alloc (.row [.int .i64 n] 1 true))
    have q4 := q4.fr (k2.alloc _) fr4
    obtain ⟨h5, e5, q5, f5, n5, _⟩ := append_one (ts := []) app_117 fr24 (by have := fr24.next; omega) q4 (v := .string (bs (glue 32 [wOwner, dec n]))) rfl (by omega)
    simp (maxDischargeDepth := 30) only [AMS, AMH, ↓reduceIte, Nat.reduceLT, Nat.reduceEqDiff, Nat.reduceAdd, Nat.reduceMul, reduceCtorEq, decide_true, decide_false, Nat.reduceLeDiff, Int.reduceNe, Int.reduceEq, ne_eq, not_false_eq_true, and_self, F65_Am147, fr24.ok, e5, f5.ok, g4, i_next hil l1]
    refine ih (s.offs.length - (i + 1)) _ _ (by omega) ?_
    refine ⟨i + 1, by omega, rfl, by simp [upd_at, g1], by simp [upd_at], ?_, f5⟩
    rw [snocB _ gn, ← List.cons_append, flat_snoc]
    simpa [upd_at, rowB, Item.ws, Nat.add_assoc] using q5
  have : i = s.offs.length := by omega
  subst this
  rw [List.take_length] at q3
  clear ih
  simp (maxDischargeDepth := 30) only [AMS, AMH, ↓reduceIte, Nat.reduceLT, Nat.reduceEqDiff, Nat.reduceAdd, Nat.reduceMul, reduceCtorEq, decide_true, decide_false, Nat.reduceLeDiff, Int.reduceNe, Int.reduceEq, ne_eq, not_false_eq_true, and_self, F65_Am147, k2, g1, g4, lt_f, r2]
  refine W_loop s.boards.length (fun m f h' => ∃ i, i ≤ s.boards.length ∧ m = s.boards.length - i ∧ f 1 = .pointer (some ⟨h.next, 0, none⟩) ∧ f 5 = .int .i64 i ∧
      SL b1.next h' (f 3) ((wPrice :: ((s.offs.map fun n => rowB (.o n)) ++ (s.boards.take i).map fun n => rowB (.b n))).flatMap strC) 1 (1 + s.offs.length + i) ∧ Fr b1 h')
    ⟨0, by omega, by omega, by simp [upd_at, g1], by simp [upd_at], by simpa [upd_at] using q3, fr2⟩ ?_
  clear q3 fr2 k2 r2 g1 g4 hi h2 f
  rintro m f h2 ⟨i, hi, rfl, g1, g4, q3, fr2⟩ ih
  have k2 := fr2.ok
  have r2 := fr2.row' kb r1
  by_cases hil : i < s.boards.length
  · obtain ⟨x, gx⟩ : ∃ n, s.boards[i]? = some n := ⟨_, List.getElem?_eq_getElem hil⟩
    rcases hx2 with hx | ⟨b, o, sp, row, rfl, hr, hx⟩
    · rw [hx] at hil; simp at hil
    have hcell := (hx _ _ gx).1
    have ox := ho.boards x (List.mem_of_getElem? gx)
    have hr2 := (f1.trans fr2).row' hk hr
    obtain ⟨L, F, lo, hi', ow⟩ := x
    obtain ⟨o1, o2, o3, o4, o5⟩ := ox
    simp only at o1 o2 o3 o4 o5
    simp only [Board.cells] at hcell
    have w1 : Value.string (bs [98, 111, 97, 114, 100]) = .string (bs wBoard) := rfl
    have fr3 : Fr b1 ((h2.alloc (.row [.int .i64 0, .int .i64 0, .int .i64 0, .int .i64 0, .int .i64 0] 0 true)).set h2.next (.row [.int .i64 L, .int .i64 F, .int .i64 lo, .int .i64 hi', .int .i64 ow] 0 true)) := (fr2.alloc _).set fr2.next (by simp) _
    have q33 : SL b1.next ((h2.alloc (.row [.int .i64 0, .int .i64 0, .int .i64 0, .int .i64 0, .int .i64 0] 0 true)).set h2.next (.row [.int .i64 L, .int .i64 F, .int .i64 lo, .int .i64 hi', .int .i64 ow] 0 true)) (f 3) ((wPrice :: ((s.offs.map fun n => rowB (.o n)) ++ (s.boards.take i).map fun n => rowB (.b n))).flatMap strC) 1 (1 + s.offs.length + i) := q3.fr k2 (((Fr.refl k2).alloc _).set (Nat.le_refl _) (by simp) _)
    have x3 : ((h2.alloc (.row [.int .i64 0, .int .i64 0, .int .i64 0, .int .i64 0, .int .i64 0] 0 true)).set h2.next (.row [.int .i64 L, .int .i64 F, .int .i64 lo, .int .i64 hi', .int .i64 ow] 0 true)).get h2.next = some (.row [.int .i64 L, .int .i64 F, .int .i64 lo, .int .i64 hi', .int .i64 ow] 0 true) := get_set_self' _ _ _
    simp (maxDischargeDepth := 30) only [AMS, AMH, ↓reduceIte, Nat.reduceLT, Nat.reduceEqDiff, Nat.reduceAdd, Nat.reduceMul, reduceCtorEq, decide_true, decide_false, Nat.reduceLeDiff, Int.reduceNe, Int.reduceEq, ne_eq, not_false_eq_true, and_self, F65_Am147, k2, g1, g4, lt_t hil, hil, r2, hr2, hcell]
    generalize ((h2.alloc (.row [.int .i64 0, .int .i64 0, .int .i64 0, .int .i64 0, .int .i64 0] 0 true)).set h2.next (.row [.int .i64 L, .int .i64 F, .int .i64 lo, .int .i64 hi', .int .i64 ow] 0 true)) = h3 at fr3 q33 x3 ⊢
    have k3 := fr3.ok
    have r3 : rowAt h3 h2.next = some [.int .i64 L, .int .i64 F, .int .i64 lo, .int .i64 hi', .int .i64 ow] := by unfold rowAt; rw [x3]; rfl
    simp (maxDischargeDepth := 30) only [AMS, AMH, ↓reduceIte, Nat.reduceLT, Nat.reduceEqDiff, Nat.reduceAdd, Nat.reduceMul, reduceCtorEq, decide_true, decide_false, Nat.reduceLeDiff, Int.reduceNe, Int.reduceEq, ne_eq, not_false_eq_true, and_self, F65_Am147, k3, r3, bs5_22, w1]
    have fr3b := fr3.alloc (.row [.int .i64 L, .int .i64 F, .int .i64 lo, .int .i64 hi', .int .i64 ow] 1 true)
    have q3b := q33.fr k3 ((Fr.refl k3).alloc (.row [.int .i64 L, .int .i64 F, .int .i64 lo, .int .i64 hi', .int .i64 ow] 1 true))
    have lc : LS (h3.alloc (.row [.int .i64 L, .int .i64 F, .int .i64 lo, .int .i64 hi', .int .i64 ow] 1 true)) (.slice (some ⟨h3.next, 0, some 1⟩) 5 5) [L, F, lo, hi', ow] ints 1 := LS.of_row (xs := [L, F, lo, hi', ow]) ints_len (rowAt_new _ _ _ _)
    refine W_call (row_96 (k3.alloc _) lc (by intro n hn; simp at hn; rcases hn with rfl | rfl | rfl | rfl | rfl <;> assumption) (by simp) (by simp [wBoard])) ?_
    rintro _ h6 ⟨rfl, fr6⟩
    have fr26 := fr3b.trans fr6
    have q6 := q3b.fr (k3.alloc _) fr6
    obtain ⟨h7, e7, q7, f7, n7, g7⟩ := append_one (ts := []) app_117 fr26 (by have := fr26.next; omega) q6 (v := .string (bs (glue 32 [wBoard, dec L, dec F, dec lo, dec hi', dec ow]))) rfl (by omega)
    simp (maxDischargeDepth := 30) only [AMS, AMH, ↓reduceIte, Nat.reduceLT, Nat.reduceEqDiff, Nat.reduceAdd, Nat.reduceMul, reduceCtorEq, decide_true, decide_false, Nat.reduceLeDiff, Int.reduceNe, Int.reduceEq, ne_eq, not_false_eq_true, and_self, F65_Am147, fr6.ok, e7, f7.ok, g4, i_next hil l2]
    refine ih (s.boards.length - (i + 1)) _ _ (by omega) ?_
    refine ⟨i + 1, by omega, rfl, by simp [upd_at, g1], by simp [upd_at], ?_, f7⟩
    have e8 : wPrice :: ((s.offs.map fun n => rowB (.o n)) ++ (s.boards.take (i + 1)).map fun n => rowB (.b n)) = (wPrice :: ((s.offs.map fun n => rowB (.o n)) ++ (s.boards.take i).map fun n => rowB (.b n))) ++ [glue 32 [wBoard, dec L, dec F, dec lo, dec hi', dec ow]] := by
      rw [snocB _ gx]; simp [rowB, Item.ws]
    rw [e8, flat_snoc]
    simpa [upd_at, Nat.add_assoc] using q7
  have : i = s.boards.length := by omega
  subst this
  rw [List.take_length] at q3
  clear ih
  simp (maxDischargeDepth := 30) only [AMS, AMH, ↓reduceIte, Nat.reduceLT, Nat.reduceEqDiff, Nat.reduceAdd, Nat.reduceMul, reduceCtorEq, decide_true, decide_false, Nat.reduceLeDiff, Int.reduceNe, Int.reduceEq, ne_eq, not_false_eq_true, and_self, F65_Am147, k2, g1, g4, lt_f, r2]
  refine W_loop s.tars.length (fun m f h' => ∃ i, i ≤ s.tars.length ∧ m = s.tars.length - i ∧ f 1 = .pointer (some ⟨h.next, 0, none⟩) ∧ f 7 = .int .i64 i ∧
      SL b1.next h' (f 3) ((wPrice :: ((s.offs.map fun n => rowB (.o n)) ++ (s.boards.map fun n => rowB (.b n)) ++ (s.tars.take i).map fun n => rowB (.t n))).flatMap strC) 1 (1 + s.offs.length + s.boards.length + i) ∧ Fr b1 h')
    ⟨0, by omega, by omega, by simp [upd_at, g1], by simp [upd_at], by simpa [upd_at] using q3, fr2⟩ ?_
  clear q3 fr2 k2 r2 g1 g4 hi h2 f
  rintro m f h2 ⟨i, hi, rfl, g1, g4, q3, fr2⟩ ih
  have k2 := fr2.ok
  have r2 := fr2.row' kb r1
  by_cases hil : i < s.tars.length
  · obtain ⟨x, gx⟩ : ∃ n, s.tars[i]? = some n := ⟨_, List.getElem?_eq_getElem hil⟩
    rcases hx3 with hx | ⟨b, o, sp, row, rfl, hr, hx⟩
    · rw [hx] at hil; simp at hil
    have hcell := (hx _ _ gx).1
    have ox := ho.tars x (List.mem_of_getElem? gx)
    have hr2 := (f1.trans fr2).row' hk hr
    obtain ⟨k, cc, u, r, ev⟩ := x
    obtain ⟨ok, oc, ou, orr⟩ := ox
    simp only at ok oc ou orr
    simp only [Tar.cells] at hcell
    obtain ⟨kn, hkn⟩ : ∃ kn : Nat, k = (kn : Int) := ⟨k.toNat, by omega⟩
    obtain ⟨rn, hrn⟩ : ∃ rn : Nat, r = (rn : Int) := ⟨r.toNat, by omega⟩
    have kl : (kindList.flatMap strC)[kn]? = some (.string (bs (kindW k))) := by rw [hkn]; exact kl_at (by omega)
    have rl : (ruleList'.flatMap strC)[rn]? = some (.string (bs (ruleW r))) := by rw [hrn]; exact rl_at (by omega)
    have lg : (glue 32 [kindW k, dec cc, dec u]).length ≤ 14 := by
      have := kind_len k; have := (dec_num oc).2.2.1; have := (dec_num ou).2.2.1
      simp [glue_len]; omega
    have lr := rule_len r
    cases ev with
    | false =>
      have x3 : ((h2.alloc (.row [.int .i64 0, .int .i64 0, .int .i64 0, .int .i64 0, .bool false] 0 true)).set h2.next (.row [.int .i64 k, .int .i64 cc, .int .i64 u, .int .i64 r, .bool false] 0 true)).get h2.next = some (.row [.int .i64 k, .int .i64 cc, .int .i64 u, .int .i64 r, .bool false] 0 true) := get_set_self' _ _ _
      have n3 : h2.next < ((h2.alloc (.row [.int .i64 0, .int .i64 0, .int .i64 0, .int .i64 0, .bool false] 0 true)).set h2.next (.row [.int .i64 k, .int .i64 cc, .int .i64 u, .int .i64 r, .bool false] 0 true)).next := by simp
      have fr3 : Fr b1 ((h2.alloc (.row [.int .i64 0, .int .i64 0, .int .i64 0, .int .i64 0, .bool false] 0 true)).set h2.next (.row [.int .i64 k, .int .i64 cc, .int .i64 u, .int .i64 r, .bool false] 0 true)) := (fr2.alloc _).set fr2.next (by simp) _
      have q33 : SL b1.next ((h2.alloc (.row [.int .i64 0, .int .i64 0, .int .i64 0, .int .i64 0, .bool false] 0 true)).set h2.next (.row [.int .i64 k, .int .i64 cc, .int .i64 u, .int .i64 r, .bool false] 0 true)) (f 3) ((wPrice :: ((s.offs.map fun n => rowB (.o n)) ++ (s.boards.map fun n => rowB (.b n)) ++ (s.tars.take i).map fun n => rowB (.t n))).flatMap strC) 1 (1 + s.offs.length + s.boards.length + i) := q3.fr k2 (((Fr.refl k2).alloc _).set (Nat.le_refl _) (by simp) _)
      simp (maxDischargeDepth := 30) only [AMS, AMH, ↓reduceIte, Nat.reduceLT, Nat.reduceEqDiff, Nat.reduceAdd, Nat.reduceMul, reduceCtorEq, decide_true, decide_false, Nat.reduceLeDiff, Int.reduceNe, Int.reduceEq, ne_eq, not_false_eq_true, and_self, F65_Am147, k2, g1, g4, lt_t hil, hil, r2, hr2, hcell]
      generalize ((h2.alloc (.row [.int .i64 0, .int .i64 0, .int .i64 0, .int .i64 0, .bool false] 0 true)).set h2.next (.row [.int .i64 k, .int .i64 cc, .int .i64 u, .int .i64 r, .bool false] 0 true)) = h3 at fr3 q33 x3 n3 ⊢
      have k3 := fr3.ok
      have r3 : rowAt h3 h2.next = some [.int .i64 k, .int .i64 cc, .int .i64 u, .int .i64 r, .bool false] := by unfold rowAt; rw [x3]; rfl
      refine W_draw [(true, 0), (true, 2), (true, 3), (true, 6), (true, 7), (true, 8), (true, 9), (true, 10), (true, 14), (true, 15), (true, 21), (true, 1), (false, 3), (false, 7), (false, 9), (false, 10), (false, 15), (true, 4), (true, 5), (true, 11), (false, 15), (true, 12), (true, 13), (false, 15), (true, 16), (true, 17), (true, 18), (true, 19), (true, 20), (false, 15), (false, 17), (true, 22), (true, 23), (true, 24), (true, 25), (true, 26), (true, 27)] (by kernel_rfl) ?_
      simp (maxDischargeDepth := 30) only [AMS, AMH, ↓reduceIte, Nat.reduceLT, Nat.reduceEqDiff, Nat.reduceAdd, Nat.reduceMul, reduceCtorEq, decide_true, decide_false, Nat.reduceLeDiff, Int.reduceNe, Int.reduceEq, ne_eq, not_false_eq_true, and_self, AMR, F65_Am147, k3, r3, n3, bs2_22]
      have nA : h2.next < (h3.alloc (.row [.int .i64 cc, .int .i64 u] 1 true)).next := by simp; omega
      have rA : rowAt (h3.alloc (.row [.int .i64 cc, .int .i64 u] 1 true)) h2.next = some [.int .i64 k, .int .i64 cc, .int .i64 u, .int .i64 r, .bool false] := by rw [rowAt_old _ n3]; exact r3
      have yA : (h3.alloc (.row [.int .i64 cc, .int .i64 u] 1 true)).get h3.next = some (.row [.int .i64 cc, .int .i64 u] 1 true) := get_at _ rfl
      have frA := fr3.alloc (.row [.int .i64 cc, .int .i64 u] 1 true)
      have qA := q33.fr k3 ((Fr.refl k3).alloc (.row [.int .i64 cc, .int .i64 u] 1 true))
      generalize (h3.alloc (.row [.int .i64 cc, .int .i64 u] 1 true)) = hA at nA rA yA frA qA ⊢
      have kA := frA.ok
      refine W_callP (kinds_97 kA) ?_
      rintro _ _ ⟨rfl, rfl⟩
      have frK := (Fr.refl kA).alloc (.row (kindList.flatMap strC) 1 true)
      have rK := rowAt_new hA (kindList.flatMap strC) 1 true
      have iK : aIndexAddr CC 117 (.slice (some ⟨hA.next, 0, some 1⟩) 5 5) (.int .i64 k) = some (.pointer (some ⟨hA.next, 0 + kn * 1, none⟩)) := by rw [hkn]; exact ix_117 hA.next 0 (some 1) 5 5 kn (by omega)
      rw [Nat.zero_add, Nat.mul_one] at iK
      have r4 := frK.row' kA rA
      have y4 := frK.get' kA yA
      have q4 := qA.fr kA frK
      have fr4 := frA.trans frK
      generalize (hA.alloc (.row (kindList.flatMap strC) 1 true)) = h4 at frK rK r4 y4 q4 fr4 ⊢
      have k4 := fr4.ok
      have m4 := get_lt k4 y4
      have m4' := row_lt k4 r4
      simp (maxDischargeDepth := 30) only [AMS, AMH, ↓reduceIte, Nat.reduceLT, Nat.reduceEqDiff, Nat.reduceAdd, Nat.reduceMul, reduceCtorEq, decide_true, decide_false, Nat.reduceLeDiff, Int.reduceNe, Int.reduceEq, ne_eq, not_false_eq_true, and_self, AMR, F65_Am147, k4, r4, y4, iK, rK, kl]
      have lc : LS h4 (.slice (some ⟨h3.next, 0, some 1⟩) 2 2) [cc, u] ints 1 := LS.of_row (xs := [cc, u]) ints_len (by unfold rowAt; rw [y4]; rfl)
      refine W_callP (row_96 k4 lc (by intro n hn; simp at hn; rcases hn with rfl | rfl <;> assumption) (by simp) (by have := kind_len k; omega)) ?_
      rintro _ h5 ⟨rfl, fr5⟩
      have k5 := fr5.ok
      have r5 := fr5.row' k4 r4
      have y5 := fr5.get' k4 y4
      have rK5 := fr5.row' k4 rK
      have fr25 := fr4.trans fr5
      have q5 := q4.fr k4 fr5
      simp (maxDischargeDepth := 30) only [AMS, AMH, ↓reduceIte, Nat.reduceLT, Nat.reduceEqDiff, Nat.reduceAdd, Nat.reduceMul, reduceCtorEq, decide_true, decide_false, Nat.reduceLeDiff, Int.reduceNe, Int.reduceEq, ne_eq, not_false_eq_true, and_self, AMR, F65_Am147, k5, r5, y5, iK, rK5, kl, bs_mk, s_add (a := glue 32 [kindW k, dec cc, dec u]) (b := [32]) (by simp only [List.length_cons, List.length_nil]; omega)]
      refine W_callP (rules_98 k5) ?_
      rintro _ _ ⟨rfl, rfl⟩
      have frR := (Fr.refl k5).alloc (.row (ruleList'.flatMap strC) 1 true)
      have rR := rowAt_new h5 (ruleList'.flatMap strC) 1 true
      have iR : aIndexAddr CC 117 (.slice (some ⟨h5.next, 0, some 1⟩) 5 5) (.int .i64 r) = some (.pointer (some ⟨h5.next, 0 + rn * 1, none⟩)) := by rw [hrn]; exact ix_117 h5.next 0 (some 1) 5 5 rn (by omega)
      rw [Nat.zero_add, Nat.mul_one] at iR
      have r6 := frR.row' k5 r5
      have y6 := frR.get' k5 y5
      have rK6 := frR.row' k5 rK5
      have fr26 := fr25.trans frR
      have q6 := q5.fr k5 frR
      generalize (h5.alloc (.row (ruleList'.flatMap strC) 1 true)) = h6 at frR rR r6 y6 rK6 fr26 q6 ⊢
      have k6 := fr26.ok
      simp (maxDischargeDepth := 30) only [AMS, AMH, ↓reduceIte, Nat.reduceLT, Nat.reduceEqDiff, Nat.reduceAdd, Nat.reduceMul, reduceCtorEq, decide_true, decide_false, Nat.reduceLeDiff, Int.reduceNe, Int.reduceEq, ne_eq, not_false_eq_true, and_self, AMR, F65_Am147, k6, r6, y6, iK, rK6, kl, iR, rR, rl, bs_mk, s_add (a := glue 32 [kindW k, dec cc, dec u] ++ [32]) (b := ruleW r) (by simp only [List.length_append, List.length_cons, List.length_nil]; omega), s_add (a := glue 32 [kindW k, dec cc, dec u] ++ [32] ++ ruleW r) (b := [32]) (by simp only [List.length_append, List.length_cons, List.length_nil]; omega)]
      refine W_callP (whens_99 k6) ?_
      rintro _ _ ⟨rfl, rfl⟩
      have frW := (Fr.refl k6).alloc (.row (whenList.flatMap strC) 1 true)
      have rW := rowAt_new h6 (whenList.flatMap strC) 1 true
      have iW : aIndexAddr CC 117 (.slice (some ⟨h6.next, 0, some 1⟩) 2 2) (.int .i64 0) = some (.pointer (some ⟨h6.next, 0 + 0 * 1, none⟩)) := ix_117 h6.next 0 (some 1) 2 2 0 (by omega)
      rw [Nat.zero_add, Nat.mul_one] at iW
      have wl : (whenList.flatMap strC)[0]? = some (.string (bs (whenW false))) := rfl
      have r7 := frW.row' k6 r6
      have y7 := frW.get' k6 y6
      have rK7 := frW.row' k6 rK6
      have rR7 := frW.row' k6 rR
      have fr27 := fr26.trans frW
      have q7 := q6.fr k6 frW
      generalize (h6.alloc (.row (whenList.flatMap strC) 1 true)) = h7 at frW rW r7 y7 rK7 rR7 fr27 q7 ⊢
      have k7 := fr27.ok
      obtain ⟨h8, e8, q8, f8, n8, g8⟩ := append_one (ts := []) app_117 fr27 (by have := fr27.next; omega) q7 (v := .string (bs (glue 32 [kindW k, dec cc, dec u] ++ [32] ++ ruleW r ++ [32] ++ whenW false))) rfl (by omega)
      simp (maxDischargeDepth := 30) only [AMS, AMH, ↓reduceIte, Nat.reduceLT, Nat.reduceEqDiff, Nat.reduceAdd, Nat.reduceMul, reduceCtorEq, decide_true, decide_false, Nat.reduceLeDiff, Int.reduceNe, Int.reduceEq, ne_eq, not_false_eq_true, and_self, AMR, F65_Am147, k7, r7, y7, iK, rK7, kl, iR, rR7, rl, iW, rW, wl, bs_mk, s_add (a := glue 32 [kindW k, dec cc, dec u] ++ [32] ++ ruleW r ++ [32]) (b := whenW false) (by have := when_len false; simp only [List.length_append, List.length_cons, List.length_nil]; omega), e8, f8.ok, g4, i_next hil l3]
      refine ih (s.tars.length - (i + 1)) _ _ (by omega) ?_
      refine ⟨i + 1, by omega, rfl, by simp [upd_at, g1], by simp [upd_at], ?_, f8⟩
      have e9 : glue 32 [kindW k, dec cc, dec u] ++ [32] ++ ruleW r ++ [32] ++ whenW false = rowB (.t ⟨k, cc, u, r, false⟩) := by
        rw [← told_eq k cc u r (32 :: whenW false) false rfl]; simp
      have e10 : wPrice :: ((s.offs.map fun n => rowB (.o n)) ++ (s.boards.map fun n => rowB (.b n)) ++ (s.tars.take (i + 1)).map fun n => rowB (.t n)) = (wPrice :: ((s.offs.map fun n => rowB (.o n)) ++ (s.boards.map fun n => rowB (.b n)) ++ (s.tars.take i).map fun n => rowB (.t n))) ++ [rowB (.t ⟨k, cc, u, r, false⟩)] := by
        rw [snocB _ gx]; simp
      rw [e10, flat_snoc]
      rw [e9] at q8
      simpa [upd_at, Nat.add_assoc] using q8
    | true =>
      have x3 : ((h2.alloc (.row [.int .i64 0, .int .i64 0, .int .i64 0, .int .i64 0, .bool false] 0 true)).set h2.next (.row [.int .i64 k, .int .i64 cc, .int .i64 u, .int .i64 r, .bool true] 0 true)).get h2.next = some (.row [.int .i64 k, .int .i64 cc, .int .i64 u, .int .i64 r, .bool true] 0 true) := get_set_self' _ _ _
      have n3 : h2.next < ((h2.alloc (.row [.int .i64 0, .int .i64 0, .int .i64 0, .int .i64 0, .bool false] 0 true)).set h2.next (.row [.int .i64 k, .int .i64 cc, .int .i64 u, .int .i64 r, .bool true] 0 true)).next := by simp
      have fr3 : Fr b1 ((h2.alloc (.row [.int .i64 0, .int .i64 0, .int .i64 0, .int .i64 0, .bool false] 0 true)).set h2.next (.row [.int .i64 k, .int .i64 cc, .int .i64 u, .int .i64 r, .bool true] 0 true)) := (fr2.alloc _).set fr2.next (by simp) _
      have q33 : SL b1.next ((h2.alloc (.row [.int .i64 0, .int .i64 0, .int .i64 0, .int .i64 0, .bool false] 0 true)).set h2.next (.row [.int .i64 k, .int .i64 cc, .int .i64 u, .int .i64 r, .bool true] 0 true)) (f 3) ((wPrice :: ((s.offs.map fun n => rowB (.o n)) ++ (s.boards.map fun n => rowB (.b n)) ++ (s.tars.take i).map fun n => rowB (.t n))).flatMap strC) 1 (1 + s.offs.length + s.boards.length + i) := q3.fr k2 (((Fr.refl k2).alloc _).set (Nat.le_refl _) (by simp) _)
      simp (maxDischargeDepth := 30) only [AMS, AMH, ↓reduceIte, Nat.reduceLT, Nat.reduceEqDiff, Nat.reduceAdd, Nat.reduceMul, reduceCtorEq, decide_true, decide_false, Nat.reduceLeDiff, Int.reduceNe, Int.reduceEq, ne_eq, not_false_eq_true, and_self, F65_Am147, k2, g1, g4, lt_t hil, hil, r2, hr2, hcell]
      generalize ((h2.alloc (.row [.int .i64 0, .int .i64 0, .int .i64 0, .int .i64 0, .bool false] 0 true)).set h2.next (.row [.int .i64 k, .int .i64 cc, .int .i64 u, .int .i64 r, .bool true] 0 true)) = h3 at fr3 q33 x3 n3 ⊢
      have k3 := fr3.ok
      have r3 : rowAt h3 h2.next = some [.int .i64 k, .int .i64 cc, .int .i64 u, .int .i64 r, .bool true] := by unfold rowAt; rw [x3]; rfl
      refine W_draw [(true, 0), (true, 2), (true, 3), (true, 6), (true, 7), (true, 8), (true, 9), (true, 10), (true, 14), (true, 15), (true, 21), (true, 1), (false, 3), (false, 7), (false, 9), (false, 10), (false, 15), (true, 4), (true, 5), (true, 11), (false, 15), (true, 12), (true, 13), (false, 15), (true, 16), (true, 17), (true, 18), (true, 19), (true, 20), (false, 15), (false, 17), (true, 22), (true, 23), (true, 24), (true, 25), (true, 26), (true, 27)] (by kernel_rfl) ?_
      simp (maxDischargeDepth := 30) only [AMS, AMH, ↓reduceIte, Nat.reduceLT, Nat.reduceEqDiff, Nat.reduceAdd, Nat.reduceMul, reduceCtorEq, decide_true, decide_false, Nat.reduceLeDiff, Int.reduceNe, Int.reduceEq, ne_eq, not_false_eq_true, and_self, AMR, F65_Am147, k3, r3, n3, bs2_22]
      have nA : h2.next < (h3.alloc (.row [.int .i64 cc, .int .i64 u] 1 true)).next := by simp; omega
      have rA : rowAt (h3.alloc (.row [.int .i64 cc, .int .i64 u] 1 true)) h2.next = some [.int .i64 k, .int .i64 cc, .int .i64 u, .int .i64 r, .bool true] := by rw [rowAt_old _ n3]; exact r3
      have yA : (h3.alloc (.row [.int .i64 cc, .int .i64 u] 1 true)).get h3.next = some (.row [.int .i64 cc, .int .i64 u] 1 true) := get_at _ rfl
      have frA := fr3.alloc (.row [.int .i64 cc, .int .i64 u] 1 true)
      have qA := q33.fr k3 ((Fr.refl k3).alloc (.row [.int .i64 cc, .int .i64 u] 1 true))
      generalize (h3.alloc (.row [.int .i64 cc, .int .i64 u] 1 true)) = hA at nA rA yA frA qA ⊢
      have kA := frA.ok
      refine W_callP (kinds_97 kA) ?_
      rintro _ _ ⟨rfl, rfl⟩
      have frK := (Fr.refl kA).alloc (.row (kindList.flatMap strC) 1 true)
      have rK := rowAt_new hA (kindList.flatMap strC) 1 true
      have iK : aIndexAddr CC 117 (.slice (some ⟨hA.next, 0, some 1⟩) 5 5) (.int .i64 k) = some (.pointer (some ⟨hA.next, 0 + kn * 1, none⟩)) := by rw [hkn]; exact ix_117 hA.next 0 (some 1) 5 5 kn (by omega)
      rw [Nat.zero_add, Nat.mul_one] at iK
      have r4 := frK.row' kA rA
      have y4 := frK.get' kA yA
      have q4 := qA.fr kA frK
      have fr4 := frA.trans frK
      generalize (hA.alloc (.row (kindList.flatMap strC) 1 true)) = h4 at frK rK r4 y4 q4 fr4 ⊢
      have k4 := fr4.ok
      have m4 := get_lt k4 y4
      have m4' := row_lt k4 r4
      simp (maxDischargeDepth := 30) only [AMS, AMH, ↓reduceIte, Nat.reduceLT, Nat.reduceEqDiff, Nat.reduceAdd, Nat.reduceMul, reduceCtorEq, decide_true, decide_false, Nat.reduceLeDiff, Int.reduceNe, Int.reduceEq, ne_eq, not_false_eq_true, and_self, AMR, F65_Am147, k4, r4, y4, iK, rK, kl]
      have lc : LS h4 (.slice (some ⟨h3.next, 0, some 1⟩) 2 2) [cc, u] ints 1 := LS.of_row (xs := [cc, u]) ints_len (by unfold rowAt; rw [y4]; rfl)
      refine W_callP (row_96 k4 lc (by intro n hn; simp at hn; rcases hn with rfl | rfl <;> assumption) (by simp) (by have := kind_len k; omega)) ?_
      rintro _ h5 ⟨rfl, fr5⟩
      have k5 := fr5.ok
      have r5 := fr5.row' k4 r4
      have y5 := fr5.get' k4 y4
      have rK5 := fr5.row' k4 rK
      have fr25 := fr4.trans fr5
      have q5 := q4.fr k4 fr5
      simp (maxDischargeDepth := 30) only [AMS, AMH, ↓reduceIte, Nat.reduceLT, Nat.reduceEqDiff, Nat.reduceAdd, Nat.reduceMul, reduceCtorEq, decide_true, decide_false, Nat.reduceLeDiff, Int.reduceNe, Int.reduceEq, ne_eq, not_false_eq_true, and_self, AMR, F65_Am147, k5, r5, y5, iK, rK5, kl, bs_mk, s_add (a := glue 32 [kindW k, dec cc, dec u]) (b := [32]) (by simp only [List.length_cons, List.length_nil]; omega)]
      refine W_callP (rules_98 k5) ?_
      rintro _ _ ⟨rfl, rfl⟩
      have frR := (Fr.refl k5).alloc (.row (ruleList'.flatMap strC) 1 true)
      have rR := rowAt_new h5 (ruleList'.flatMap strC) 1 true
      have iR : aIndexAddr CC 117 (.slice (some ⟨h5.next, 0, some 1⟩) 5 5) (.int .i64 r) = some (.pointer (some ⟨h5.next, 0 + rn * 1, none⟩)) := by rw [hrn]; exact ix_117 h5.next 0 (some 1) 5 5 rn (by omega)
      rw [Nat.zero_add, Nat.mul_one] at iR
      have r6 := frR.row' k5 r5
      have y6 := frR.get' k5 y5
      have rK6 := frR.row' k5 rK5
      have fr26 := fr25.trans frR
      have q6 := q5.fr k5 frR
      generalize (h5.alloc (.row (ruleList'.flatMap strC) 1 true)) = h6 at frR rR r6 y6 rK6 fr26 q6 ⊢
      have k6 := fr26.ok
      simp (maxDischargeDepth := 30) only [AMS, AMH, ↓reduceIte, Nat.reduceLT, Nat.reduceEqDiff, Nat.reduceAdd, Nat.reduceMul, reduceCtorEq, decide_true, decide_false, Nat.reduceLeDiff, Int.reduceNe, Int.reduceEq, ne_eq, not_false_eq_true, and_self, AMR, F65_Am147, k6, r6, y6, iK, rK6, kl, iR, rR, rl, bs_mk, s_add (a := glue 32 [kindW k, dec cc, dec u] ++ [32]) (b := ruleW r) (by simp only [List.length_append, List.length_cons, List.length_nil]; omega), s_add (a := glue 32 [kindW k, dec cc, dec u] ++ [32] ++ ruleW r) (b := [32]) (by simp only [List.length_append, List.length_cons, List.length_nil]; omega)]
      refine W_callP (whens_99 k6) ?_
      rintro _ _ ⟨rfl, rfl⟩
      have frW := (Fr.refl k6).alloc (.row (whenList.flatMap strC) 1 true)
      have rW := rowAt_new h6 (whenList.flatMap strC) 1 true
      have iW : aIndexAddr CC 117 (.slice (some ⟨h6.next, 0, some 1⟩) 2 2) (.int .i64 1) = some (.pointer (some ⟨h6.next, 0 + 1 * 1, none⟩)) := ix_117 h6.next 0 (some 1) 2 2 1 (by omega)
      rw [Nat.zero_add, Nat.mul_one] at iW
      have wl : (whenList.flatMap strC)[1]? = some (.string (bs (whenW true))) := rfl
      have r7 := frW.row' k6 r6
      have y7 := frW.get' k6 y6
      have rK7 := frW.row' k6 rK6
      have rR7 := frW.row' k6 rR
      have fr27 := fr26.trans frW
      have q7 := q6.fr k6 frW
      generalize (h6.alloc (.row (whenList.flatMap strC) 1 true)) = h7 at frW rW r7 y7 rK7 rR7 fr27 q7 ⊢
      have k7 := fr27.ok
      obtain ⟨h8, e8, q8, f8, n8, g8⟩ := append_one (ts := []) app_117 fr27 (by have := fr27.next; omega) q7 (v := .string (bs (glue 32 [kindW k, dec cc, dec u] ++ [32] ++ ruleW r ++ [32] ++ whenW true))) rfl (by omega)
      simp (maxDischargeDepth := 30) only [AMS, AMH, ↓reduceIte, Nat.reduceLT, Nat.reduceEqDiff, Nat.reduceAdd, Nat.reduceMul, reduceCtorEq, decide_true, decide_false, Nat.reduceLeDiff, Int.reduceNe, Int.reduceEq, ne_eq, not_false_eq_true, and_self, AMR, F65_Am147, k7, r7, y7, iK, rK7, kl, iR, rR7, rl, iW, rW, wl, bs_mk, s_add (a := glue 32 [kindW k, dec cc, dec u] ++ [32] ++ ruleW r ++ [32]) (b := whenW true) (by have := when_len true; simp only [List.length_append, List.length_cons, List.length_nil]; omega), e8, f8.ok, g4, i_next hil l3]
      refine ih (s.tars.length - (i + 1)) _ _ (by omega) ?_
      refine ⟨i + 1, by omega, rfl, by simp [upd_at, g1], by simp [upd_at], ?_, f8⟩
      have e9 : glue 32 [kindW k, dec cc, dec u] ++ [32] ++ ruleW r ++ [32] ++ whenW true = rowB (.t ⟨k, cc, u, r, true⟩) := by
        rw [← told_eq k cc u r (32 :: whenW true) true rfl]; simp
      have e10 : wPrice :: ((s.offs.map fun n => rowB (.o n)) ++ (s.boards.map fun n => rowB (.b n)) ++ (s.tars.take (i + 1)).map fun n => rowB (.t n)) = (wPrice :: ((s.offs.map fun n => rowB (.o n)) ++ (s.boards.map fun n => rowB (.b n)) ++ (s.tars.take i).map fun n => rowB (.t n))) ++ [rowB (.t ⟨k, cc, u, r, true⟩)] := by
        rw [snocB _ gx]; simp
      rw [e10, flat_snoc]
      rw [e9] at q8
      simpa [upd_at, Nat.add_assoc] using q8
  have : i = s.tars.length := by omega
  subst this
  rw [List.take_length] at q3
  clear ih hx1 hx2 hx3
  have er : wPrice :: ((s.offs.map fun n => rowB (.o n)) ++ (s.boards.map fun n => rowB (.b n)) ++ s.tars.map fun n => rowB (.t n)) = rowsB s := by
    simp [rowsB, itemsOfS, Function.comp_def]
  have en : 1 + s.offs.length + s.boards.length + s.tars.length = (rowsB s).length := by rw [rows_count]
  rw [er, en] at q3
  have lq : LS h2 (f 3) (rowsB s) strC 1 := SL.ls strC_len q3
  simp (maxDischargeDepth := 30) only [AMS, AMH, ↓reduceIte, Nat.reduceLT, Nat.reduceEqDiff, Nat.reduceAdd, Nat.reduceMul, reduceCtorEq, decide_true, decide_false, Nat.reduceLeDiff, Int.reduceNe, Int.reduceEq, ne_eq, not_false_eq_true, and_self, F65_Am147, k2, g1, g4, lt_f, r2]
  refine W_call (sealed_100 k2 lq ho l1 l2 l3) ?_
  rintro _ h8 ⟨rfl, fr8⟩
  simp (maxDischargeDepth := 30) only [AMS, AMH, ↓reduceIte, Nat.reduceLT, Nat.reduceEqDiff, Nat.reduceAdd, Nat.reduceMul, reduceCtorEq, decide_true, decide_false, Nat.reduceLeDiff, Int.reduceNe, Int.reduceEq, ne_eq, not_false_eq_true, and_self, F65_Am147, fr8.ok]
  exact ⟨trivial, (f1.trans fr2).trans fr8⟩
end Go.Am
