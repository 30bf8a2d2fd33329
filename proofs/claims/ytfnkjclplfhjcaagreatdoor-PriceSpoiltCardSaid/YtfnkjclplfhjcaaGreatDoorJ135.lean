/- Parts 135 of the abstract machine over this program, joined: what each part says stands at its head. -/
import Derived.Test.YtfnkjclplfhjcaaGreatDoorJ132
set_option linter.unusedSimpArgs false
set_option linter.unusedVariables false
/- The abstract machine, part 135: contracts: the text of a sheet. -/
namespace Go.Am
open Go Go.Proofs
theorem F93_Am135 : type_of% (And.intro @bs_117 <| And.intro @bs_22 <| And.intro @fp_26_0 <| And.intro @fp_26_1 <| And.intro @fp_26_2 <| And.intro @fp_30_0 <| And.intro @fp_30_1 <| And.intro @fp_72_0 <| And.intro @fp_72_1 <| And.intro @fp_72_2 <| And.intro @fp_72_3 <| And.intro @ia_143_0 <| And.intro @ia_143_1 <| And.intro @ia_143_2 <| And.intro @ia_143_3 <| And.intro @ia_143_4 <| And.intro @ia_143_5 <| And.intro @ix_117 <| And.intro @ix_22 <| And.intro @ix_23 <| And.intro @ix_24 <| And.intro @ld_22 <| And.intro @ld_23 <| And.intro @ld_24 <| And.intro @ld_3 <| And.intro @ld_41 <| And.intro @ld_72 <| And.intro @ld_9 <| And.intro @len_117 <| And.intro @len_22 <| And.intro @len_23 <| And.intro @len_24 <| And.intro @len_9 <| And.intro @part_3 <| And.intro @part_41 <| And.intro @part_72 <| And.intro @part_9 <| And.intro @size_117 <| And.intro @size_143 <| And.intro @size_22 <| And.intro @size_23 <| And.intro @size_24 <| And.intro @size_3 <| And.intro @size_41 <| And.intro @size_72 <| And.intro @size_9 <| And.intro @und_117 <| And.intro @und_143 <| And.intro @und_22 <| And.intro @und_23 <| And.intro @und_24 <| And.intro @und_3 <| And.intro @und_5 <| And.intro @und_9 <| And.intro @xi_143_0 <| And.intro @xi_143_1 <| And.intro @xi_143_2 <| And.intro @xi_143_3 <| And.intro @xi_143_4 <| And.intro @xi_143_5 <| And.intro @zero_117 <| And.intro @zero_143 <| And.intro @zero_22 <| And.intro @zero_23 <| And.intro @zero_24 <| And.intro @zero_41 <| And.intro @zero_72 @zero_9) := And.intro @bs_117 <| And.intro @bs_22 <| And.intro @fp_26_0 <| And.intro @fp_26_1 <| And.intro @fp_26_2 <| And.intro @fp_30_0 <| And.intro @fp_30_1 <| And.intro @fp_72_0 <| And.intro @fp_72_1 <| And.intro @fp_72_2 <| And.intro @fp_72_3 <| And.intro @ia_143_0 <| And.intro @ia_143_1 <| And.intro @ia_143_2 <| And.intro @ia_143_3 <| And.intro @ia_143_4 <| And.intro @ia_143_5 <| And.intro @ix_117 <| And.intro @ix_22 <| And.intro @ix_23 <| And.intro @ix_24 <| And.intro @ld_22 <| And.intro @ld_23 <| And.intro @ld_24 <| And.intro @ld_3 <| And.intro @ld_41 <| And.intro @ld_72 <| And.intro @ld_9 <| And.intro @len_117 <| And.intro @len_22 <| And.intro @len_23 <| And.intro @len_24 <| And.intro @len_9 <| And.intro @part_3 <| And.intro @part_41 <| And.intro @part_72 <| And.intro @part_9 <| And.intro @size_117 <| And.intro @size_143 <| And.intro @size_22 <| And.intro @size_23 <| And.intro @size_24 <| And.intro @size_3 <| And.intro @size_41 <| And.intro @size_72 <| And.intro @size_9 <| And.intro @und_117 <| And.intro @und_143 <| And.intro @und_22 <| And.intro @und_23 <| And.intro @und_24 <| And.intro @und_3 <| And.intro @und_5 <| And.intro @und_9 <| And.intro @xi_143_0 <| And.intro @xi_143_1 <| And.intro @xi_143_2 <| And.intro @xi_143_3 <| And.intro @xi_143_4 <| And.intro @xi_143_5 <| And.intro @zero_117 <| And.intro @zero_143 <| And.intro @zero_22 <| And.intro @zero_23 <| And.intro @zero_24 <| And.intro @zero_41 <| And.intro @zero_72 @zero_9

theorem wl_0 : (wordList.map fun w => Value.string (bs w))[0]? = some (.string (bs wOwner)) := rfl
theorem wl_1 : (wordList.map fun w => Value.string (bs w))[1]? = some (.string (bs wBoard)) := rfl
theorem snocB {α : Type} (f : α → Bs) {l : List α} {i : Nat} {x : α} (h : l[i]? = some x) : (l.take (i + 1)).map f = (l.take i).map f ++ [f x] := by
  obtain ⟨hk, e⟩ := List.getElem?_eq_some_iff.1 h
  rw [List.take_succ_eq_append_getElem hk, e, List.map_append]; rfl
theorem flat_snoc (l : List Bs) (x : Bs) : (l ++ [x]).flatMap strC = l.flatMap strC ++ [.string (bs x)] := by
  rw [List.flatMap_append]; rfl

theorem ckR_app (i : Nat) : ∀ (a b : Bs) (k : Nat), ckR i k (a ++ b) = ckR i k a + ckR i (k + a.length) b
  | [], b, k => by simp [ckR]
  | x :: a, b, k => by
    have ih := ckR_app i a b (k + 1)
    show x.toNat * (k + 1) * (i + 1) + ckR i (k + 1) (a ++ b) = (x.toNat * (k + 1) * (i + 1) + ckR i (k + 1) a) + ckR i (k + (a.length + 1)) b
    rw [ih, show k + 1 + a.length = k + (a.length + 1) by omega]
    omega
theorem ckN_app : ∀ (a b : List Bs) (i : Nat), ckN i (a ++ b) = ckN i a + ckN (i + a.length) b
  | [], b, i => by simp [ckN]
  | x :: a, b, i => by
    have ih := ckN_app a b (i + 1)
    show ckR i 0 x + ckN (i + 1) (a ++ b) = (ckR i 0 x + ckN (i + 1) a) + ckN (i + (a.length + 1)) b
    rw [ih, show i + 1 + a.length = i + (a.length + 1) by omega]
    omega
theorem ckR_snoc {i : Nat} {r : Bs} {k : Nat} {b : UInt8} (h : r[k]? = some b) : ckR i 0 (r.take (k + 1)) = ckR i 0 (r.take k) + b.toNat * (k + 1) * (i + 1) := by
  obtain ⟨hk, e⟩ := List.getElem?_eq_some_iff.1 h
  rw [List.take_succ_eq_append_getElem hk, e, ckR_app, List.length_take, Nat.zero_add, show min k r.length = k by omega]
  simp [ckR]
theorem ckN_snoc {rs : List Bs} {i : Nat} {r : Bs} (h : rs[i]? = some r) : ckN 0 (rs.take (i + 1)) = ckN 0 (rs.take i) + ckR i 0 r := by
  obtain ⟨hk, e⟩ := List.getElem?_eq_some_iff.1 h
  rw [List.take_succ_eq_append_getElem hk, e, ckN_app, List.length_take, Nat.zero_add, show min i rs.length = i by omega]
  simp [ckN]
theorem rows_all {s : Sheet} (h : okS s) : ∀ r ∈ rowsB s ++ [lastB s], r.length ≤ 25 := by
  intro r hr
  rcases List.mem_append.1 hr with hr | hr
  · exact rows_len h r hr
  · have := (last_no s).2
    simp at hr; subst hr; omega
theorem text_short {s : Sheet} (h : okS s) (l1 : s.offs.length ≤ 1000) (l2 : s.boards.length ≤ 1000) (l3 : s.tars.length ≤ 1000) : (Lib.join (rowsB s ++ [lastB s]) [10]).length ≤ 100000 := by
  have hc := rows_count s
  have ha := rows_all h
  have e : rowsB s ++ [lastB s] = wPrice :: ((itemsOfS s).map rowB ++ [lastB s]) := rfl
  rw [e, join_glue, glue_len]
  have hs := sum_le (fun x : Bs => x.length + 1) 26 ((itemsOfS s).map rowB ++ [lastB s]) fun x hx => by have := ha x (by rw [e]; exact List.mem_cons_of_mem _ hx); omega
  have hl : ((itemsOfS s).map rowB ++ [lastB s]).length = s.offs.length + s.boards.length + s.tars.length + 1 := by simp [items_count]
  rw [hl] at hs
  have : wPrice.length = 5 := rfl
  omega

set_option maxRecDepth 10000 in
set_option maxHeartbeats 4000000 in
theorem text_93 {h : Heap} (hk : HOK h) (hp : 0 < h.next) {a b c : Value} {s : Sheet} (hs : IsSheet h a b c s) (ho : okS s) (l1 : s.offs.length ≤ 1000) (l2 : s.boards.length ≤ 1000) (l3 : s.tars.length ≤ 1000) :
    CW CC 93 [.agg ⟨[a, b, c]⟩] h fun r h' => r = .string (bs (textB s)) ∧ Fr h h' := by
  obtain ⟨p1, c1, rfl, hx1⟩ := hs.offs.open
  obtain ⟨p2, c2, rfl, hx2⟩ := hs.boards.open
  obtain ⟨p3, c3, rfl, hx3⟩ := hs.tars.open
  refine CW_in Tryz.f93 (by kernel_rfl) (by kernel_rfl) rfl rfl ?_
  simp only [Tryz.f93, bs_mk]
  have f1 : Fr h (h.alloc (.row [.slice p1 s.offs.length c1, .slice p2 s.boards.length c2, .slice p3 s.tars.length c3] 0 true)) := (Fr.refl hk).alloc _
  have r1 : rowAt (h.alloc (.row [.slice p1 s.offs.length c1, .slice p2 s.boards.length c2, .slice p3 s.tars.length c3] 0 true)) h.next = some [.slice p1 s.offs.length c1, .slice p2 s.boards.length c2, .slice p3 s.tars.length c3] := rowAt_new _ _ _ _
  have n1 : h.next < (h.alloc (.row [.slice p1 s.offs.length c1, .slice p2 s.boards.length c2, .slice p3 s.tars.length c3] 0 true)).next := by simp
  have q1 : SL (h.alloc (.row [.slice p1 s.offs.length c1, .slice p2 s.boards.length c2, .slice p3 s.tars.length c3] 0 true)).next ((h.alloc (.row [.slice p1 s.offs.length c1, .slice p2 s.boards.length c2, .slice p3 s.tars.length c3] 0 true)).alloc (.row [.string (bs wPrice)] 1 true)) (.slice (some ⟨(h.alloc (.row [.slice p1 s.offs.length c1, .slice p2 s.boards.length c2, .slice p3 s.tars.length c3] 0 true)).next, 0, some 1⟩) 1 1) ([wPrice].flatMap strC) 1 1 := SL.new (Nat.le_refl _) (by simp) _ _ _ rfl
  have w0 : Value.string (bs [112, 114, 105, 99, 101]) = .string (bs wPrice) := rfl
  simp (maxDischargeDepth := 30) only [AMS, AMH, ↓reduceIte, Nat.reduceLT, Nat.reduceEqDiff, Nat.reduceAdd, Nat.reduceMul, reduceCtorEq, decide_true, decide_false, Nat.reduceLeDiff, Int.reduceNe, Int.reduceEq, ne_eq, not_false_eq_true, and_self, F93_Am135, hk, bs_mk, w0]
  have e1 : (h.alloc (.row [.slice p1 s.offs.length c1, .slice p2 s.boards.length c2, .slice p3 s.tars.length c3] 0 true)).next = h.next + 1 := Heap.next_alloc _ _
  have e2 : ((h.alloc (.row [.slice p1 s.offs.length c1, .slice p2 s.boards.length c2, .slice p3 s.tars.length c3] 0 true)).alloc (.row [.string (bs wPrice)] 1 true)).next = h.next + 2 := by simp
  rw [e1] at q1
  have fr1 : Fr (h.alloc (.row [.slice p1 s.offs.length c1, .slice p2 s.boards.length c2, .slice p3 s.tars.length c3] 0 true)) ((h.alloc (.row [.slice p1 s.offs.length c1, .slice p2 s.boards.length c2, .slice p3 s.tars.length c3] 0 true)).alloc (.row [.string (bs wPrice)] 1 true)) := (Fr.refl f1.ok).alloc _
  generalize hh2 : ((h.alloc (.row [.slice p1 s.offs.length c1, .slice p2 s.boards.length c2, .slice p3 s.tars.length c3] 0 true)).alloc (.row [.string (bs wPrice)] 1 true)) = h2 at q1 fr1 e2
  generalize (h.alloc (.row [.slice p1 s.offs.length c1, .slice p2 s.boards.length c2, .slice p3 s.tars.length c3] 0 true)) = b1 at f1 r1 n1 fr1 e1
  have kb := f1.ok
  have hpb : 0 < b1.next := by omega
  replace q1 : SL b1.next h2 (.slice (some ⟨h.next + 1, 0, some 1⟩) 1 1) ([wPrice].flatMap strC) 1 1 := by rw [e1]; exact q1
  clear hh2 e2
  have owner := ho.offs
  -- the owners
  refine W_loop s.offs.length (fun m f h' => ∃ i, i ≤ s.offs.length ∧ m = s.offs.length - i ∧ f 1 = .pointer (some ⟨h.next, 0, none⟩) ∧ f 16 = .slice p1 s.offs.length c1 ∧ f 17 = .int .i64 s.offs.length ∧ f 18 = .int .i64 i ∧
      SL b1.next h' (f 3) ((wPrice :: (s.offs.take i).map fun n => rowB (.o n)).flatMap strC) 1 (1 + i) ∧ Fr b1 h')
    ⟨0, by omega, by omega, by simp [upd_at], by simp [upd_at], by simp [upd_at], by simp [upd_at], by simpa [upd_at] using q1, fr1⟩ ?_
  clear q1 fr1 h2
  rintro m f h2 ⟨i, hi, rfl, g1, g16, g17, g18, q3, fr2⟩ ih
  have k2 := fr2.ok
  have r2 := fr2.row' kb r1
  by_cases hil : i < s.offs.length
  · obtain ⟨n, gn⟩ : ∃ n, s.offs[i]? = some n := ⟨_, List.getElem?_eq_getElem hil⟩
    rcases hx1 with hx | ⟨b, o, sp, row, rfl, hr, hx⟩
    · rw [hx] at hil; simp at hil
    have hcell : row[o + i]? = some (.int .i64 n) := by
      have := (hx _ _ gn).2 0 (by omega)
      simpa [ints] using this
    have on := ho.offs n (List.mem_of_getElem? gn)
    have hr2 := (f1.trans fr2).row' hk hr
    simp (maxDischargeDepth := 30) only [AMS, AMH, ↓reduceIte, Nat.reduceLT, Nat.reduceEqDiff, Nat.reduceAdd, Nat.reduceMul, reduceCtorEq, decide_true, decide_false, Nat.reduceLeDiff, Int.reduceNe, Int.reduceEq, ne_eq, not_false_eq_true, and_self, F93_Am135, k2, g1, g16, g17, g18, lt_t hil, hil, Nat.mul_one, hr2, hcell]
    refine W_call (words_124 k2) ?_
    rintro _ h3 ⟨rfl, fr3⟩
    have fr23 := fr2.trans fr3
    have k3 := fr3.ok
    simp (maxDischargeDepth := 30) only [AMS, AMH, ↓reduceIte, Nat.reduceLT, Nat.reduceEqDiff, Nat.reduceAdd, Nat.reduceMul, reduceCtorEq, decide_true, decide_false, Nat.reduceLeDiff, Int.reduceNe, Int.reduceEq, ne_eq, not_false_eq_true, and_self, F93_Am135, k3, wl_0]
    have ln : LS (h3.alloc (.row [.int .i64 n] 1 true)) (.slice (some ⟨h3.next, 0, some 1⟩) 1 1) [n] ints 1 := LS.of_row (xs := [n]) ints_len (rowAt_new _ _ _ _)
    refine W_call (row_123 (k3.alloc _) ln (by intro x hx; simp at hx; subst hx; exact on) (by simp) (by simp [wOwner])) ?_
    rintro _ h4 ⟨rfl, fr4⟩
    have fr24 := (fr23.alloc (.row [.int .i64 n] 1 true)).trans fr4
    have q4 := (q3.fr k2 fr3).fr k3 ((Fr.refl k3).alloc (.row [.int .i64 n] 1 true))
    have q4 := q4.fr (k3.alloc _) fr4
    obtain ⟨h5, e5, q5, f5, n5, _⟩ := append_one (ts := []) app_117 fr24 (by have := fr24.next; omega) q4 (v := .string (bs (glue 32 [wOwner, dec n]))) rfl (by omega)
    simp (maxDischargeDepth := 30) only [AMS, AMH, ↓reduceIte, Nat.reduceLT, Nat.reduceEqDiff, Nat.reduceAdd, Nat.reduceMul, reduceCtorEq, decide_true, decide_false, Nat.reduceLeDiff, Int.reduceNe, Int.reduceEq, ne_eq, not_false_eq_true, and_self, F93_Am135, fr24.ok, e5, f5.ok, g18, wrap64 (n := (i : Int) + 1) (by omega) (by omega)]
    refine ih (s.offs.length - (i + 1)) _ _ (by omega) ?_
    refine ⟨i + 1, by omega, rfl, by simp [upd_at, g1], by simp [upd_at, g16], by simp [upd_at, g17], by simp [upd_at], ?_, f5⟩
    rw [snocB _ gn, ← List.cons_append, flat_snoc]
    simpa [upd_at, rowB, Item.ws, Nat.add_assoc] using q5
  have : i = s.offs.length := by omega
  subst this
  rw [List.take_length] at q3
  clear ih
  simp (maxDischargeDepth := 30) only [AMS, AMH, ↓reduceIte, Nat.reduceLT, Nat.reduceEqDiff, Nat.reduceAdd, Nat.reduceMul, reduceCtorEq, decide_true, decide_false, Nat.reduceLeDiff, Int.reduceNe, Int.reduceEq, ne_eq, not_false_eq_true, and_self, F93_Am135, k2, g1, g16, g17, g18, lt_f, r2]
  -- the boards
  have hlo := s.offs.length
  refine W_loop s.boards.length (fun m f h' => ∃ i, i ≤ s.boards.length ∧ m = s.boards.length - i ∧ f 1 = .pointer (some ⟨h.next, 0, none⟩) ∧ f 32 = .slice p2 s.boards.length c2 ∧ f 33 = .int .i64 s.boards.length ∧ f 34 = .int .i64 i ∧
      SL b1.next h' (f 3) ((wPrice :: ((s.offs.map fun n => rowB (.o n)) ++ (s.boards.take i).map fun n => rowB (.b n))).flatMap strC) 1 (1 + s.offs.length + i) ∧ Fr b1 h')
    ⟨0, by omega, by omega, by simp [upd_at, g1], by simp [upd_at], by simp [upd_at], by simp [upd_at], by simpa [upd_at] using q3, fr2⟩ ?_
  clear q3 fr2 k2 r2 g1 g16 g17 g18 hi h2 f
  rintro m f h2 ⟨i, hi, rfl, g1, g16, g17, g18, q3, fr2⟩ ih
  have k2 := fr2.ok
  have r2 := fr2.row' kb r1
  by_cases hil : i < s.boards.length
  · obtain ⟨x, gx⟩ : ∃ n, s.boards[i]? = some n := ⟨_, List.getElem?_eq_getElem hil⟩
    rcases hx2 with hx | ⟨b, o, sp, row, rfl, hr, hx⟩
    · rw [hx] at hil; simp at hil
    have hcell := (hx _ _ gx).1
    have ox := ho.boards x (List.mem_of_getElem? gx)
    have hr2 := (f1.trans fr2).row' hk hr
    obtain ⟨L, F, lo, hi', ow⟩ := x
    obtain ⟨o1, o2, o3, o4, o5⟩ := ox
    simp only at o1 o2 o3 o4 o5
    simp only [Board.cells] at hcell
    have fr3 : Fr b1 ((h2.alloc (.row [.int .i64 0, .int .i64 0, .int .i64 0, .int .i64 0, .int .i64 0] 0 true)).set h2.next (.row [.int .i64 L, .int .i64 F, .int .i64 lo, .int .i64 hi', .int .i64 ow] 0 true)) := (fr2.alloc _).set fr2.next (by simp) _
    have q33 : SL b1.next ((h2.alloc (.row [.int .i64 0, .int .i64 0, .int .i64 0, .int .i64 0, .int .i64 0] 0 true)).set h2.next (.row [.int .i64 L, .int .i64 F, .int .i64 lo, .int .i64 hi', .int .i64 ow] 0 true)) (f 3) ((wPrice :: ((s.offs.map fun n => rowB (.o n)) ++ (s.boards.take i).map fun n => rowB (.b n))).flatMap strC) 1 (1 + s.offs.length + i) := q3.fr k2 (((Fr.refl k2).alloc _).set (Nat.le_refl _) (by simp) _)
    have x3 : ((h2.alloc (.row [.int .i64 0, .int .i64 0, .int .i64 0, .int .i64 0, .int .i64 0] 0 true)).set h2.next (.row [.int .i64 L, .int .i64 F, .int .i64 lo, .int .i64 hi', .int .i64 ow] 0 true)).get h2.next = some (.row [.int .i64 L, .int .i64 F, .int .i64 lo, .int .i64 hi', .int .i64 ow] 0 true) := get_set_self' _ _ _
    have n3 : h2.next < ((h2.alloc (.row [.int .i64 0, .int .i64 0, .int .i64 0, .int .i64 0, .int .i64 0] 0 true)).set h2.next (.row [.int .i64 L, .int .i64 F, .int .i64 lo, .int .i64 hi', .int .i64 ow] 0 true)).next := by simp
    simp (maxDischargeDepth := 30) only [AMS, AMH, ↓reduceIte, Nat.reduceLT, Nat.reduceEqDiff, Nat.reduceAdd, Nat.reduceMul, reduceCtorEq, decide_true, decide_false, Nat.reduceLeDiff, Int.reduceNe, Int.reduceEq, ne_eq, not_false_eq_true, and_self, F93_Am135, k2, g1, g16, g17, g18, lt_t hil, hil, hr2, hcell]
    generalize ((h2.alloc (.row [.int .i64 0, .int .i64 0, .int .i64 0, .int .i64 0, .int .i64 0] 0 true)).set h2.next (.row [.int .i64 L, .int .i64 F, .int .i64 lo, .int .i64 hi', .int .i64 ow] 0 true)) = h3 at fr3 q33 x3 n3 ⊢
    have k3 := fr3.ok
    have r3 : rowAt h3 h2.next = some [.int .i64 L, .int .i64 F, .int .i64 lo, .int .i64 hi', .int .i64 ow] := by unfold rowAt; rw [x3]; rfl
    refine W_draw [(true, 0), (true, 3), (true, 4), (true, 5), (true, 6), (true, 7), (true, 8), (true, 9), (true, 10), (true, 11), (true, 12), (true, 13), (true, 14), (true, 15), (true, 1), (false, 4), (false, 6), (false, 9), (false, 12), (false, 14), (false, 15), (true, 2), (true, 16), (true, 17), (true, 18), (true, 19)] (by kernel_rfl) ?_
    simp (maxDischargeDepth := 30) only [AMS, AMH, ↓reduceIte, Nat.reduceLT, Nat.reduceEqDiff, Nat.reduceAdd, Nat.reduceMul, reduceCtorEq, decide_true, decide_false, Nat.reduceLeDiff, Int.reduceNe, Int.reduceEq, ne_eq, not_false_eq_true, and_self, AMR, F93_Am135, k3, r3, n3, bs5_22]
    have n3b : h3.next < (h3.alloc (.row [.int .i64 L, .int .i64 F, .int .i64 lo, .int .i64 hi', .int .i64 ow] 1 true)).next := by simp
    have y3 : (h3.alloc (.row [.int .i64 L, .int .i64 F, .int .i64 lo, .int .i64 hi', .int .i64 ow] 1 true)).get h3.next = some (.row [.int .i64 L, .int .i64 F, .int .i64 lo, .int .i64 hi', .int .i64 ow] 1 true) := get_at _ rfl
    have r3b : rowAt (h3.alloc (.row [.int .i64 L, .int .i64 F, .int .i64 lo, .int .i64 hi', .int .i64 ow] 1 true)) h2.next = some [.int .i64 L, .int .i64 F, .int .i64 lo, .int .i64 hi', .int .i64 ow] := by rw [rowAt_old _ n3]; exact r3
    have fr3b := fr3.alloc (.row [.int .i64 L, .int .i64 F, .int .i64 lo, .int .i64 hi', .int .i64 ow] 1 true)
    have q3b := q33.fr k3 ((Fr.refl k3).alloc (.row [.int .i64 L, .int .i64 F, .int .i64 lo, .int .i64 hi', .int .i64 ow] 1 true))
    generalize (h3.alloc (.row [.int .i64 L, .int .i64 F, .int .i64 lo, .int .i64 hi', .int .i64 ow] 1 true)) = h4 at n3b y3 r3b fr3b q3b ⊢
    have k4 := fr3b.ok
    refine W_callP (words_124 k4) ?_
    rintro _ h5 ⟨rfl, fr5⟩
    have k5 := fr5.ok
    have r5 := fr5.row' k4 r3b
    have y5 := fr5.get' k4 y3
    simp (maxDischargeDepth := 30) only [AMS, AMH, ↓reduceIte, Nat.reduceLT, Nat.reduceEqDiff, Nat.reduceAdd, Nat.reduceMul, reduceCtorEq, decide_true, decide_false, Nat.reduceLeDiff, Int.reduceNe, Int.reduceEq, ne_eq, not_false_eq_true, and_self, AMR, F93_Am135, k5, r5, y5, wl_1]
    have lc : LS h5 (.slice (some ⟨h3.next, 0, some 1⟩) 5 5) [L, F, lo, hi', ow] ints 1 := LS.of_row (xs := [L, F, lo, hi', ow]) ints_len (by unfold rowAt; rw [y5]; rfl)
    refine W_callP (row_123 k5 lc (by intro n hn; simp at hn; rcases hn with rfl | rfl | rfl | rfl | rfl <;> assumption) (by simp) (by simp [wBoard])) ?_
    rintro _ h6 ⟨rfl, fr6⟩
    have k6 := fr6.ok
    have r6 := fr6.row' k5 r5
    have y6 := fr6.get' k5 y5
    have fr26 := (fr3b.trans fr5).trans fr6
    have q6 := (q3b.fr k4 fr5).fr k5 fr6
    obtain ⟨h7, e7, q7, f7, n7, g7⟩ := append_one (ts := []) app_117 fr26 (by have := fr26.next; omega) q6 (v := .string (bs (glue 32 [wBoard, dec L, dec F, dec lo, dec hi', dec ow]))) rfl (by omega)
    simp (maxDischargeDepth := 30) only [AMS, AMH, ↓reduceIte, Nat.reduceLT, Nat.reduceEqDiff, Nat.reduceAdd, Nat.reduceMul, reduceCtorEq, decide_true, decide_false, Nat.reduceLeDiff, Int.reduceNe, Int.reduceEq, ne_eq, not_false_eq_true, and_self, AMR, F93_Am135, k6, r6, y6, e7, f7.ok, g18, wrap64 (n := (i : Int) + 1) (by omega) (by omega)]
    refine ih (s.boards.length - (i + 1)) _ _ (by omega) ?_
    refine ⟨i + 1, by omega, rfl, by simp [upd_at, g1], by simp [upd_at, g16], by simp [upd_at, g17], by simp [upd_at], ?_, f7⟩
    have e8 : wPrice :: ((s.offs.map fun n => rowB (.o n)) ++ (s.boards.take (i + 1)).map fun n => rowB (.b n)) = (wPrice :: ((s.offs.map fun n => rowB (.o n)) ++ (s.boards.take i).map fun n => rowB (.b n))) ++ [glue 32 [wBoard, dec L, dec F, dec lo, dec hi', dec ow]] := by
      rw [snocB _ gx]; simp [rowB, Item.ws]
    rw [e8, flat_snoc]
    simpa [upd_at, Nat.add_assoc] using q7
  have : i = s.boards.length := by omega
  subst this
  rw [List.take_length] at q3
  clear ih
  simp (maxDischargeDepth := 30) only [AMS, AMH, ↓reduceIte, Nat.reduceLT, Nat.reduceEqDiff, Nat.reduceAdd, Nat.reduceMul, reduceCtorEq, decide_true, decide_false, Nat.reduceLeDiff, Int.reduceNe, Int.reduceEq, ne_eq, not_false_eq_true, and_self, F93_Am135, k2, g1, g16, g17, g18, lt_f, r2]
  -- the tariffs
  refine W_loop s.tars.length (fun m f h' => ∃ i, i ≤ s.tars.length ∧ m = s.tars.length - i ∧ f 1 = .pointer (some ⟨h.next, 0, none⟩) ∧ f 59 = .slice p3 s.tars.length c3 ∧ f 60 = .int .i64 s.tars.length ∧ f 61 = .int .i64 i ∧
      SL b1.next h' (f 3) ((wPrice :: ((s.offs.map fun n => rowB (.o n)) ++ (s.boards.map fun n => rowB (.b n)) ++ (s.tars.take i).map fun n => rowB (.t n))).flatMap strC) 1 (1 + s.offs.length + s.boards.length + i) ∧ Fr b1 h')
    ⟨0, by omega, by omega, by simp [upd_at, g1], by simp [upd_at], by simp [upd_at], by simp [upd_at], by simpa [upd_at] using q3, fr2⟩ ?_
  clear q3 fr2 k2 r2 g1 g16 g17 g18 hi h2 f
  rintro m f h2 ⟨i, hi, rfl, g1, g16, g17, g18, q3, fr2⟩ ih
  have k2 := fr2.ok
  have r2 := fr2.row' kb r1
  by_cases hil : i < s.tars.length
  · obtain ⟨x, gx⟩ : ∃ n, s.tars[i]? = some n := ⟨_, List.getElem?_eq_getElem hil⟩
    rcases hx3 with hx | ⟨b, o, sp, row, rfl, hr, hx⟩
    · rw [hx] at hil; simp at hil
    have hcell := (hx _ _ gx).1
    have ox := ho.tars x (List.mem_of_getElem? gx)
    have hr2 := (f1.trans fr2).row' hk hr
    have ew : write? [.int .i64 0, .int .i64 0, .int .i64 0, .int .i64 0, .bool false] 0 x.cells = some x.cells := write_all _ _ rfl
    have el : x.cells.length = 5 := rfl
    have ea : allOne x.cells = true := rfl
    have fr3 : Fr b1 ((h2.alloc (.row [.int .i64 0, .int .i64 0, .int .i64 0, .int .i64 0, .bool false] 0 true)).set h2.next (.row x.cells 0 true)) := (fr2.alloc _).set fr2.next (by simp) _
    have q33 : SL b1.next ((h2.alloc (.row [.int .i64 0, .int .i64 0, .int .i64 0, .int .i64 0, .bool false] 0 true)).set h2.next (.row x.cells 0 true)) (f 3) ((wPrice :: ((s.offs.map fun n => rowB (.o n)) ++ (s.boards.map fun n => rowB (.b n)) ++ (s.tars.take i).map fun n => rowB (.t n))).flatMap strC) 1 (1 + s.offs.length + s.boards.length + i) := q3.fr k2 (((Fr.refl k2).alloc _).set (Nat.le_refl _) (by simp) _)
    have x3 : rowAt ((h2.alloc (.row [.int .i64 0, .int .i64 0, .int .i64 0, .int .i64 0, .bool false] 0 true)).set h2.next (.row x.cells 0 true)) h2.next = some x.cells := rowAt_set_self _ _ _ _ _
    have tk : take? x.cells 0 5 = some x.cells := rfl
    simp (maxDischargeDepth := 30) only [AMS, AMH, ↓reduceIte, Nat.reduceLT, Nat.reduceEqDiff, Nat.reduceAdd, Nat.reduceMul, reduceCtorEq, decide_true, decide_false, Nat.reduceLeDiff, Int.reduceNe, Int.reduceEq, ne_eq, not_false_eq_true, and_self, F93_Am135, k2, g1, g16, g17, g18, lt_t hil, hil, hr2, hcell, ew, el, ea]
    generalize ((h2.alloc (.row [.int .i64 0, .int .i64 0, .int .i64 0, .int .i64 0, .bool false] 0 true)).set h2.next (.row x.cells 0 true)) = h3 at fr3 q33 x3 ⊢
    have k3 := fr3.ok
    simp (maxDischargeDepth := 30) only [AMS, AMH, ↓reduceIte, Nat.reduceLT, Nat.reduceEqDiff, Nat.reduceAdd, Nat.reduceMul, reduceCtorEq, decide_true, decide_false, Nat.reduceLeDiff, Int.reduceNe, Int.reduceEq, ne_eq, not_false_eq_true, and_self, F93_Am135, k3, x3, tk]
    refine W_call (told_125 ox k3) ?_
    rintro _ h4 ⟨rfl, fr4⟩
    have fr24 := fr3.trans fr4
    have q4 := q33.fr k3 fr4
    obtain ⟨h7, e7, q7, f7, n7, g7⟩ := append_one (ts := []) app_117 fr24 (by have := fr24.next; omega) q4 (v := .string (bs (rowB (.t x)))) rfl (by omega)
    simp (maxDischargeDepth := 30) only [AMS, AMH, ↓reduceIte, Nat.reduceLT, Nat.reduceEqDiff, Nat.reduceAdd, Nat.reduceMul, reduceCtorEq, decide_true, decide_false, Nat.reduceLeDiff, Int.reduceNe, Int.reduceEq, ne_eq, not_false_eq_true, and_self, F93_Am135, fr4.ok, e7, f7.ok, g18, wrap64 (n := (i : Int) + 1) (by omega) (by omega)]
    refine ih (s.tars.length - (i + 1)) _ _ (by omega) ?_
    refine ⟨i + 1, by omega, rfl, by simp [upd_at, g1], by simp [upd_at, g16], by simp [upd_at, g17], by simp [upd_at], ?_, f7⟩
    have e8 : wPrice :: ((s.offs.map fun n => rowB (.o n)) ++ (s.boards.map fun n => rowB (.b n)) ++ (s.tars.take (i + 1)).map fun n => rowB (.t n)) = (wPrice :: ((s.offs.map fun n => rowB (.o n)) ++ (s.boards.map fun n => rowB (.b n)) ++ (s.tars.take i).map fun n => rowB (.t n))) ++ [rowB (.t x)] := by
      rw [snocB _ gx]; simp
    rw [e8, flat_snoc]
    simpa [upd_at, Nat.add_assoc] using q7
  have : i = s.tars.length := by omega
  subst this
  rw [List.take_length] at q3
  clear ih hx1 hx2 hx3
  have er : wPrice :: ((s.offs.map fun n => rowB (.o n)) ++ (s.boards.map fun n => rowB (.b n)) ++ s.tars.map fun n => rowB (.t n)) = rowsB s := by
    simp [rowsB, itemsOfS, Function.comp_def]
  have en : 1 + s.offs.length + s.boards.length + s.tars.length = (rowsB s).length := by rw [rows_count]
  rw [er, en] at q3
  have hnc := rows_count s
  rcases q3 with ⟨_, _, e0⟩ | ⟨b, ev, hb0, hN, hg, hlen⟩
  · omega
  have hrb : rowAt h2 b = some ((rowsB s).flatMap strC) := by unfold rowAt; rw [hg]; rfl
  have q3 : SL b1.next h2 (.slice (some ⟨b, 0, some 1⟩) (rowsB s).length (rowsB s).length) ((rowsB s).flatMap strC) 1 (rowsB s).length := .inr ⟨b, rfl, hb0, hN, hg, hlen⟩
  have hrl := rows_len ho
  simp (maxDischargeDepth := 30) only [AMS, AMH, ↓reduceIte, Nat.reduceLT, Nat.reduceEqDiff, Nat.reduceAdd, Nat.reduceMul, reduceCtorEq, decide_true, decide_false, Nat.reduceLeDiff, Int.reduceNe, Int.reduceEq, ne_eq, not_false_eq_true, and_self, F93_Am135, k2, g1, g16, g17, g18, lt_f, r2, ev]
  -- the check
  refine W_loop (rowsB s).length (fun m f h' => ∃ i, i ≤ (rowsB s).length ∧ m = (rowsB s).length - i ∧ f 3 = .slice (some ⟨b, 0, some 1⟩) (rowsB s).length (rowsB s).length ∧ f 71 = .slice (some ⟨b, 0, some 1⟩) (rowsB s).length (rowsB s).length ∧ f 72 = .int .i64 (rowsB s).length ∧ f 73 = .int .i64 i ∧
      f 10 = .int .i64 (ckN 0 ((rowsB s).take i) : Nat) ∧ h' = h2)
    ⟨0, by omega, by omega, by simp [upd_at, ev], by simp [upd_at], by simp [upd_at], by simp [upd_at], by simp [upd_at, ckN], rfl⟩ ?_
  clear g1 g16 g17 g18 hi ev f
  rintro m f h2 ⟨i, hi, rfl, g3, g71, g72, g73, g10, rfl⟩ ih
  by_cases hil : i < (rowsB s).length
  · obtain ⟨r, gr⟩ : ∃ n, (rowsB s)[i]? = some n := ⟨_, List.getElem?_eq_getElem hil⟩
    have hcell := strs_get gr
    have lr := hrl r (List.mem_of_getElem? gr)
    have cb := ckN_le ((rowsB s).take i) 0 (fun x hx => by have := hrl x (take_mem hx); omega) (by simp; omega)
    have cl : ((rowsB s).take i).length ≤ 4096 := by simp; omega
    have cb2 : ((rowsB s).take i).length * 4278190080 ≤ 4096 * 4278190080 := Nat.mul_le_mul_right _ cl
    simp (maxDischargeDepth := 30) only [AMS, AMH, ↓reduceIte, Nat.reduceLT, Nat.reduceEqDiff, Nat.reduceAdd, Nat.reduceMul, reduceCtorEq, decide_true, decide_false, Nat.reduceLeDiff, Int.reduceNe, Int.reduceEq, ne_eq, not_false_eq_true, and_self, F93_Am135, k2, g3, g71, g72, g73, g10, lt_t hil, hil, Nat.mul_one, hrb, hcell, bs_list]
    refine W_loop r.length (fun m' f' h' => ∃ k, k ≤ r.length ∧ m' = r.length - k ∧ f' 3 = .slice (some ⟨b, 0, some 1⟩) (rowsB s).length (rowsB s).length ∧ f' 71 = .slice (some ⟨b, 0, some 1⟩) (rowsB s).length (rowsB s).length ∧ f' 72 = .int .i64 (rowsB s).length ∧ f' 73 = .int .i64 i ∧
        f' 11 = .int .i64 i ∧ f' 12 = .string (bs r) ∧ f' 79 = .int .i64 r.length ∧ f' 80 = .int .i64 k ∧ f' 10 = .int .i64 (ckN 0 ((rowsB s).take i) + ckR i 0 (r.take k) : Nat) ∧ h' = h2)
      ⟨0, by omega, by omega, by simp [upd_at, g3], by simp [upd_at, g71], by simp [upd_at, g72], by simp [upd_at, g73], by simp [upd_at], by simp [upd_at], by simp [upd_at], by simp [upd_at], by simp [upd_at, g10, ckR], rfl⟩ ?_
    clear g3 g71 g72 g73 g10
    rintro m' f' h2 ⟨k, hk', rfl, g3, g71, g72, g73, g11, g12, g79, g80, g10, rfl⟩ ih2
    by_cases hkl : k < r.length
    · obtain ⟨x, gx⟩ : ∃ n, r[k]? = some n := ⟨_, List.getElem?_eq_getElem hkl⟩
      have hx := x.toNat_lt
      have rb := ckR_le i (by omega) (r.take k) 0 (by simp; omega)
      have rl : (r.take k).length * 66846720 ≤ 64 * 66846720 := Nat.mul_le_mul_right _ (by simp; omega)
      have z1 : x.toNat * (k + 1) ≤ 255 * 64 := Nat.mul_le_mul (by omega) (by omega)
      have z2 : x.toNat * (k + 1) * (i + 1) ≤ 255 * 64 * 4096 := Nat.mul_le_mul z1 (by omega)
      have v1 : (x.toNat : Int) * ((k : Int) + 1) = ((x.toNat * (k + 1) : Nat) : Int) := by push_cast; rfl
      have v2 : ((x.toNat * (k + 1) : Nat) : Int) * ((i : Int) + 1) = ((x.toNat * (k + 1) * (i + 1) : Nat) : Int) := by push_cast; rfl
      have v3 : ((ckN 0 ((rowsB s).take i) + ckR i 0 (r.take k) : Nat) : Int) + ((x.toNat * (k + 1) * (i + 1) : Nat) : Int) = ((ckN 0 ((rowsB s).take i) + ckR i 0 (r.take (k + 1)) : Nat) : Int) := by rw [ckR_snoc gx]; push_cast; omega
      have w3 : ckR i 0 (r.take (k + 1)) = ckR i 0 (r.take k) + x.toNat * (k + 1) * (i + 1) := ckR_snoc gx
      generalize ckN 0 ((rowsB s).take i) = A at *
      generalize ckR i 0 (r.take k) = B at *
      simp (maxDischargeDepth := 30) only [AMS, AMH, ↓reduceIte, Nat.reduceLT, Nat.reduceEqDiff, Nat.reduceAdd, Nat.reduceMul, reduceCtorEq, decide_true, decide_false, Nat.reduceLeDiff, Int.reduceNe, Int.reduceEq, ne_eq, not_false_eq_true, and_self, F93_Am135, k2, g3, g11, g12, g79, g80, g10, lt_t hkl, hkl, i_9 gx, cv_5_3, wrap64 (n := (x.toNat : Int)) (by omega) (by omega), wrap64 (n := (k : Int) + 1) (by omega) (by omega), wrap64 (n := (i : Int) + 1) (by omega) (by omega), v1, v2, v3, wrap64 (n := ((x.toNat * (k + 1) : Nat) : Int)) (by omega) (by omega), wrap64 (n := ((x.toNat * (k + 1) * (i + 1) : Nat) : Int)) (by omega) (by omega), wrap64 (n := ((A + ckR i 0 (r.take (k + 1)) : Nat) : Int)) (by omega) (by omega)]
      refine ih2 (r.length - (k + 1)) _ _ (by omega) ?_
      exact ⟨k + 1, by omega, rfl, by simp [upd_at, g3], by simp [upd_at, g71], by simp [upd_at, g72], by simp [upd_at, g73], by simp [upd_at, g11], by simp [upd_at, g12], by simp [upd_at, g79], by simp [upd_at], by simp [upd_at], rfl⟩
    have : k = r.length := by omega
    subst this
    rw [List.take_length, ← ckN_snoc gr] at g10
    clear ih2
    simp (maxDischargeDepth := 30) only [AMS, AMH, ↓reduceIte, Nat.reduceLT, Nat.reduceEqDiff, Nat.reduceAdd, Nat.reduceMul, reduceCtorEq, decide_true, decide_false, Nat.reduceLeDiff, Int.reduceNe, Int.reduceEq, ne_eq, not_false_eq_true, and_self, F93_Am135, k2, g3, g71, g72, g73, g10, g79, g80, lt_f, wrap64 (n := (i : Int) + 1) (by omega) (by omega)]
    refine ih ((rowsB s).length - (i + 1)) _ _ (by omega) ?_
    exact ⟨i + 1, by omega, rfl, by simp [upd_at, g3], by simp [upd_at, g71], by simp [upd_at, g72], by simp [upd_at], by simp [upd_at, g10], rfl⟩
  have : i = (rowsB s).length := by omega
  subst this
  rw [List.take_length] at g10
  clear ih
  have hm : ckN 0 (rowsB s) % 211 < 211 := check_lt s
  have m1 : ((ckN 0 (rowsB s) : Nat) : Int).tmod 211 = ((ckN 0 (rowsB s) % 211 : Nat) : Int) := rfl
  have hle : lastB s = endB (ckN 0 (rowsB s) % 211) := rfl
  generalize ckN 0 (rowsB s) % 211 = C at hm m1 hle
  have m2 : ((C : Nat) : Int).tdiv 100 = ((C / 100 : Nat) : Int) := rfl
  have m3 : ((C : Nat) : Int).tdiv 10 = ((C / 10 : Nat) : Int) := rfl
  have m4 : ((C / 10 : Nat) : Int).tmod 10 = ((C / 10 % 10 : Nat) : Int) := rfl
  have m5 : ((C : Nat) : Int).tmod 10 = ((C % 10 : Nat) : Int) := rfl
  have d1 : (dec ((C / 100 : Nat) : Int)).length ≤ 3 := (dec_num ⟨by omega, by omega⟩).2.2.1
  have d2 : (dec ((C / 10 % 10 : Nat) : Int)).length ≤ 3 := (dec_num ⟨by omega, by omega⟩).2.2.1
  have d3 : (dec ((C % 10 : Nat) : Int)).length ≤ 3 := (dec_num ⟨by omega, by omega⟩).2.2.1
  obtain ⟨E, hE⟩ : ∃ E : Bs, E = [101, 110, 100, 32] := ⟨_, rfl⟩
  have lE : E.length = 4 := by rw [hE]; rfl
  have wE : Value.string (bs [101, 110, 100, 32]) = .string (bs E) := by rw [hE]
  have i10 : (10 : Int) ≠ 0 := by decide
  have i100 : (100 : Int) ≠ 0 := by decide
  have i211 : (211 : Int) ≠ 0 := by decide
  simp (maxDischargeDepth := 30) only [AMS, AMH, ↓reduceIte, Nat.reduceLT, Nat.reduceEqDiff, Nat.reduceAdd, Nat.reduceMul, reduceCtorEq, decide_true, decide_false, Nat.reduceLeDiff, Int.reduceNe, Int.reduceEq, ne_eq, not_false_eq_true, and_self, F93_Am135, k2, g3, g71, g72, g73, g10, lt_f, wE, m1, I_rem, I_quo, i10, i100, i211, m2, m3, m4, m5, wrap64 (n := ((C / 100 : Nat) : Int)) (by omega) (by omega)]
  refine W_call (itoa_126 (n := ((C / 100 : Nat) : Int)) (by omega) (by omega) _) ?_
  rintro _ _ ⟨rfl, rfl⟩
  simp (maxDischargeDepth := 30) only [AMS, AMH, ↓reduceIte, Nat.reduceLT, Nat.reduceEqDiff, Nat.reduceAdd, Nat.reduceMul, reduceCtorEq, decide_true, decide_false, Nat.reduceLeDiff, Int.reduceNe, Int.reduceEq, ne_eq, not_false_eq_true, and_self, F93_Am135, k2, m1, I_rem, I_quo, i10, i100, i211, m2, m3, m4, m5, s_add (a := E) (b := dec ((C / 100 : Nat) : Int)) (by simp only [List.length_append, List.length_cons, List.length_nil, lE]; omega), wrap64 (n := ((C / 10 : Nat) : Int)) (by omega) (by omega)]
  refine W_call (itoa_126 (n := ((C / 10 % 10 : Nat) : Int)) (by omega) (by omega) _) ?_
  rintro _ _ ⟨rfl, rfl⟩
  simp (maxDischargeDepth := 30) only [AMS, AMH, ↓reduceIte, Nat.reduceLT, Nat.reduceEqDiff, Nat.reduceAdd, Nat.reduceMul, reduceCtorEq, decide_true, decide_false, Nat.reduceLeDiff, Int.reduceNe, Int.reduceEq, ne_eq, not_false_eq_true, and_self, F93_Am135, k2, m1, I_rem, I_quo, i10, i100, i211, m2, m3, m4, m5, s_add (a := E ++ dec ((C / 100 : Nat) : Int)) (b := dec ((C / 10 % 10 : Nat) : Int)) (by simp only [List.length_append, List.length_cons, List.length_nil, lE]; omega)]
  refine W_call (itoa_126 (n := ((C % 10 : Nat) : Int)) (by omega) (by omega) _) ?_
  rintro _ h2 ⟨rfl, rfl⟩
  have eq : E ++ dec ((C / 100 : Nat) : Int) ++ dec ((C / 10 % 10 : Nat) : Int) ++ dec ((C % 10 : Nat) : Int) = lastB s := by rw [hle, hE]; rfl
  obtain ⟨h7, e7, q7, f7, n7, g7⟩ := append_one (ts := []) app_117 fr2 (by have := fr2.next; omega) q3 (v := .string (bs (lastB s))) rfl (by omega)
  simp (maxDischargeDepth := 30) only [AMS, AMH, ↓reduceIte, Nat.reduceLT, Nat.reduceEqDiff, Nat.reduceAdd, Nat.reduceMul, reduceCtorEq, decide_true, decide_false, Nat.reduceLeDiff, Int.reduceNe, Int.reduceEq, ne_eq, not_false_eq_true, and_self, F93_Am135, k2, s_add (a := E ++ dec ((C / 100 : Nat) : Int) ++ dec ((C / 10 % 10 : Nat) : Int)) (b := dec ((C % 10 : Nat) : Int)) (by simp only [List.length_append, List.length_cons, List.length_nil, lE]; omega), eq, e7, f7.ok]
  rw [← flat_snoc, show (rowsB s).length + 1 = (rowsB s ++ [lastB s]).length by simp] at q7
  have hsh := text_short ho l1 l2 l3
  have q7' : SL b1.next h7 (.slice (some ⟨h2.next + 1, 0, some 1⟩) ((rowsB s).length + 1) ((rowsB s).length + 1)) ((rowsB s ++ [lastB s]).flatMap strC) 1 (rowsB s ++ [lastB s]).length := by
    have := q7
    rw [← show (rowsB s).length + 1 = (rowsB s ++ [lastB s]).length by simp] at this ⊢
    exact this
  refine W_call (join_127 (p := [10]) q7' (by simp; omega) (by omega)) ?_
  rintro _ h8 ⟨rfl, rfl⟩
  simp (maxDischargeDepth := 30) only [AMS, AMH, ↓reduceIte, Nat.reduceLT, Nat.reduceEqDiff, Nat.reduceAdd, Nat.reduceMul, reduceCtorEq, decide_true, decide_false, Nat.reduceLeDiff, Int.reduceNe, Int.reduceEq, ne_eq, not_false_eq_true, and_self, F93_Am135, f7.ok, s_add (a := Lib.join (rowsB s ++ [lastB s]) [10]) (b := [10]) (by simp only [List.length_cons, List.length_nil, lE]; omega)]
  exact ⟨rfl, f1.trans f7⟩
end Go.Am
