/- Parts 144 of the abstract machine over this program, joined: what each part says stands at its head. -/
import Derived.Test.YtfnkjclplfhjcaaGreatDoorJ143
set_option linter.unusedSimpArgs false
set_option linter.unusedVariables false
/- The abstract machine, part 144: contracts of the specification: lists of numbers, sheets that are equal. -/
namespace Go.Am
open Go Go.Proofs
theorem F35_Am144 : type_of% (And.intro @ix_22 <| And.intro @ld_3 <| And.intro @len_22 <| And.intro @part_3 <| And.intro @size_22 <| And.intro @size_3 <| And.intro @und_22 @zero_22) := And.intro @ix_22 <| And.intro @ld_3 <| And.intro @len_22 <| And.intro @part_3 <| And.intro @size_22 <| And.intro @size_3 <| And.intro @und_22 @zero_22
theorem F66_Am144 : type_of% (And.intro @fp_26_0 <| And.intro @fp_26_1 <| And.intro @fp_26_2 <| And.intro @ix_23 <| And.intro @ix_24 <| And.intro @ld_22 <| And.intro @ld_23 <| And.intro @ld_24 <| And.intro @ld_41 <| And.intro @ld_72 <| And.intro @len_23 <| And.intro @len_24 <| And.intro @part_41 <| And.intro @part_72 <| And.intro @size_23 <| And.intro @size_24 <| And.intro @size_41 <| And.intro @size_72 <| And.intro @und_23 <| And.intro @und_24 <| And.intro @zero_23 @zero_24) := And.intro @fp_26_0 <| And.intro @fp_26_1 <| And.intro @fp_26_2 <| And.intro @ix_23 <| And.intro @ix_24 <| And.intro @ld_22 <| And.intro @ld_23 <| And.intro @ld_24 <| And.intro @ld_41 <| And.intro @ld_72 <| And.intro @len_23 <| And.intro @len_24 <| And.intro @part_41 <| And.intro @part_72 <| And.intro @size_23 <| And.intro @size_24 <| And.intro @size_41 <| And.intro @size_72 <| And.intro @und_23 <| And.intro @und_24 <| And.intro @zero_23 @zero_24
theorem F102_Am144 : type_of% (And.intro @ix_22 <| And.intro @ld_3 <| And.intro @len_22 <| And.intro @part_3 <| And.intro @size_22 <| And.intro @size_3 <| And.intro @und_22 @zero_22) := And.intro @ix_22 <| And.intro @ld_3 <| And.intro @len_22 <| And.intro @part_3 <| And.intro @size_22 <| And.intro @size_3 <| And.intro @und_22 @zero_22
theorem F134_Am144 : type_of% (And.intro @bs_22 <| And.intro @ix_117 <| And.intro @ix_22 <| And.intro @ld_9 <| And.intro @len_117 <| And.intro @part_3 <| And.intro @part_9 <| And.intro @size_117 <| And.intro @size_22 <| And.intro @size_3 <| And.intro @size_9 <| And.intro @und_117 <| And.intro @und_22 <| And.intro @zero_117 @zero_22) := And.intro @bs_22 <| And.intro @ix_117 <| And.intro @ix_22 <| And.intro @ld_9 <| And.intro @len_117 <| And.intro @part_3 <| And.intro @part_9 <| And.intro @size_117 <| And.intro @size_22 <| And.intro @size_3 <| And.intro @size_9 <| And.intro @und_117 <| And.intro @und_22 <| And.intro @zero_117 @zero_22

theorem numsZ_app : ∀ (a b : List Bs), numsZ (a ++ b) = match numsZ a with | none => none | some l => match numsZ b with | none => none | some m => some (l ++ m)
  | [], b => by
    show numsZ b = match numsZ b with | none => none | some m => some ([] ++ m)
    cases numsZ b <;> rfl
  | x :: a, b => by
    show (match numZ x with | none => none | some n => match numsZ (a ++ b) with | none => none | some l => some (n :: l)) = _
    rw [numsZ_app a b]
    show _ = match (match numZ x with | none => none | some n => match numsZ a with | none => none | some l => some (n :: l)) with | none => none | some l => match numsZ b with | none => none | some m => some (l ++ m)
    cases numZ x with
    | none => rfl
    | some n =>
      cases numsZ a with
      | none => rfl
      | some l => cases numsZ b <;> rfl
theorem numsZ_snoc {ws : List Bs} {i : Nat} {x : Bs} {l : List Int} {n : Int} (h : ws[i]? = some x) (hl : numsZ (ws.take i) = some l) (hx : numZ x = some n) : numsZ (ws.take (i + 1)) = some (l ++ [n]) := by
  obtain ⟨hk, e⟩ := List.getElem?_eq_some_iff.1 h
  rw [List.take_succ_eq_append_getElem hk, e, numsZ_app, hl]
  show (match (match numZ x with | none => none | some n => some [n]) with | none => none | some m => some (l ++ m)) = _
  rw [hx]
theorem numsZ_bad : ∀ {ws : List Bs} {i : Nat} {x : Bs}, ws[i]? = some x → numZ x = none → numsZ ws = none
  | [], _, _, h, _ => by simp at h
  | a :: ws, 0, x, h, hx => by
    have : a = x := by simpa using h
    subst this
    unfold numsZ
    rw [hx]
  | a :: ws, i + 1, x, h, hx => by
    have ih := numsZ_bad (ws := ws) (i := i) (by simpa using h) hx
    unfold numsZ
    rw [ih]
    cases numZ a <;> rfl
theorem numsZ_len : ∀ {ws : List Bs} {l : List Int}, numsZ ws = some l → l.length = ws.length
  | [], l, h => by
    have : l = [] := by simpa [numsZ] using h.symm
    subst this; rfl
  | r :: rs, l, h => by
    unfold numsZ at h
    cases h1 : numZ r with
    | none => rw [h1] at h; cases h
    | some it =>
      rw [h1] at h
      cases h2 : numsZ rs with
      | none => rw [h2] at h; cases h
      | some its => rw [h2] at h; cases h; simp [numsZ_len h2]

set_option maxRecDepth 10000 in
set_option maxHeartbeats 1000000 in
theorem numbers_134 {v : Value} {ws : List Bs} {h : Heap} (hk : HOK h) (hp : 0 < h.next) (hv : LS h v ws strC 1) (hl : ws.length ≤ 1000) (hw : ∀ w ∈ ws, w.length ≤ 100000) :
    CW CC 134 [v, .int .i64 3] h fun r h' => ((∃ l v', numsZ ws = some l ∧ r = .tuple ⟨[v', .bool true]⟩ ∧ SL h.next h' v' (l.flatMap ints) 1 l.length) ∨ (numsZ ws = none ∧ r = .tuple ⟨[.slice none 0 0, .bool false]⟩)) ∧ Fr h h' := by
  obtain ⟨p, c, rfl, hx⟩ := hv.open
  refine CW_in Tryz.f134 (by kernel_rfl) (by kernel_rfl) rfl rfl ?_
  simp only [Tryz.f134]
  simp (maxDischargeDepth := 30) only [AMS, AMH, ↓reduceIte, Nat.reduceLT, Nat.reduceEqDiff, Nat.reduceAdd, Nat.reduceMul, reduceCtorEq, decide_true, decide_false, Nat.reduceLeDiff, Int.reduceNe, Int.reduceEq, ne_eq, not_false_eq_true, and_self, F134_Am144, hk]
  refine W_loop ws.length (fun m f h' => ∃ i l, i ≤ ws.length ∧ m = ws.length - i ∧ f 0 = .slice p ws.length c ∧ f 1 = .int .i64 3 ∧ f 7 = .int .i64 i ∧ numsZ (ws.take i) = some l ∧ SL h.next h' (f 6) (l.flatMap ints) 1 l.length ∧ Fr h h')
    ⟨0, [], by omega, by omega, by simp [upd_at, argsFn_at], by simp [upd_at, argsFn_at], by simp [upd_at], by simp [numsZ], by simpa [upd_at] using SL.nil h.next h 1, Fr.refl hk⟩ ?_
  rintro m f h1 ⟨i, l, hi, rfl, g0, g1, g7, hnl, q6, f1⟩ ih
  have k1 := f1.ok
  have hll := numsZ_len hnl
  have hll' : l.length ≤ 1000 := by rw [hll]; simp; omega
  by_cases hil : i < ws.length
  · obtain ⟨w, gw⟩ : ∃ w, ws[i]? = some w := ⟨_, List.getElem?_eq_getElem hil⟩
    rcases hx with hx | ⟨b, o, sp, row, rfl, hr, hx⟩
    · rw [hx] at hil; simp at hil
    have hcell : row[o + i]? = some (.string (bs w)) := by
      have := (hx _ _ gw).2 0 (by omega)
      simpa [strC] using this
    have hr1 := f1.row' hk hr
    simp (maxDischargeDepth := 30) only [AMS, AMH, ↓reduceIte, Nat.reduceLT, Nat.reduceEqDiff, Nat.reduceAdd, Nat.reduceMul, reduceCtorEq, decide_true, decide_false, Nat.reduceLeDiff, Int.reduceNe, Int.reduceEq, ne_eq, not_false_eq_true, and_self, F134_Am144, k1, g0, g1, g7, lt_t hil, hil, Nat.mul_one, hr1, hcell]
    refine W_call (number_150 k1 (hw w (List.mem_of_getElem? gw))) ?_
    rintro _ h2 ⟨⟨n, bb, rfl, hn⟩, fr2⟩
    have f2 := f1.trans fr2
    cases bb with
    | false =>
      simp (maxDischargeDepth := 30) only [AMS, AMH, ↓reduceIte, Nat.reduceLT, Nat.reduceEqDiff, Nat.reduceAdd, Nat.reduceMul, reduceCtorEq, decide_true, decide_false, Nat.reduceLeDiff, Int.reduceNe, Int.reduceEq, ne_eq, not_false_eq_true, and_self, F134_Am144, f2.ok]
      exact ⟨.inr ⟨numsZ_bad gw (by simpa using hn), by first | rfl | trivial⟩, f2⟩
    | true =>
      have q2 := q6.fr k1 fr2
      obtain ⟨h3, e3, q3, f3, n3, _⟩ := append_one (ts := []) app_22 f2 (by have := f2.next; omega) q2 (v := .int .i64 n) rfl (by omega)
      simp (maxDischargeDepth := 30) only [AMS, AMH, ↓reduceIte, Nat.reduceLT, Nat.reduceEqDiff, Nat.reduceAdd, Nat.reduceMul, reduceCtorEq, decide_true, decide_false, Nat.reduceLeDiff, Int.reduceNe, Int.reduceEq, ne_eq, not_false_eq_true, and_self, F134_Am144, f2.ok, e3, f3.ok, g7, i_next hil hl]
      refine ih (ws.length - (i + 1)) _ _ (by omega) ?_
      refine ⟨i + 1, l ++ [n], by omega, rfl, by simp [upd_at, g0], by simp [upd_at, g1], by simp [upd_at], numsZ_snoc gw hnl (by simpa using hn), ?_, f3⟩
      simpa [upd_at, ints] using q3
  · have : i = ws.length := by omega
    subst this
    rw [List.take_length] at hnl
    simp (maxDischargeDepth := 30) only [AMS, AMH, ↓reduceIte, Nat.reduceLT, Nat.reduceEqDiff, Nat.reduceAdd, Nat.reduceMul, reduceCtorEq, decide_true, decide_false, Nat.reduceLeDiff, Int.reduceNe, Int.reduceEq, ne_eq, not_false_eq_true, and_self, F134_Am144, k1, g0, g1, g7, lt_f]
    exact ⟨.inl ⟨l, _, hnl, by first | rfl | trivial, q6⟩, f1⟩

theorem all_snoc {l : List Int} {i : Nat} {x : Int} (h : l[i]? = some x) (p : Int → Bool) : (l.take (i + 1)).all p = ((l.take i).all p && p x) := by
  obtain ⟨hk, e⟩ := List.getElem?_eq_some_iff.1 h
  rw [List.take_succ_eq_append_getElem hk, e, List.all_append]; simp
set_option maxRecDepth 10000 in
set_option maxHeartbeats 1000000 in
theorem plain_102 {v : Value} {ws : List Bs} {h : Heap} (hk : HOK h) (hp : 0 < h.next) (hv : LS h v ws strC 1) (hl : ws.length ≤ 1000) (hw : ∀ w ∈ ws, w.length ≤ 100000) :
    CW CC 102 [v, .int .i64 3] h fun r h' => ((∃ l v', plainZ ws = some l ∧ r = .tuple ⟨[v', .bool true]⟩ ∧ SL h.next h' v' (l.flatMap ints) 1 l.length) ∨ (plainZ ws = none ∧ ∃ v', r = .tuple ⟨[v', .bool false]⟩)) ∧ Fr h h' := by
  obtain ⟨p, c, rfl, _⟩ := hv.open
  refine CW_in Tryz.f102 (by kernel_rfl) (by kernel_rfl) rfl rfl ?_
  simp only [Tryz.f102]
  simp (maxDischargeDepth := 30) only [AMS, AMH, ↓reduceIte, Nat.reduceLT, Nat.reduceEqDiff, Nat.reduceAdd, Nat.reduceMul, reduceCtorEq, decide_true, decide_false, Nat.reduceLeDiff, Int.reduceNe, Int.reduceEq, ne_eq, not_false_eq_true, and_self, F102_Am144, hk]
  refine W_call (numbers_134 hk hp hv hl hw) ?_
  rintro _ h1 ⟨⟨l, v', hn, rfl, q⟩ | ⟨hn, rfl⟩, f1⟩
  · have k1 := f1.ok
    have hll := numsZ_len hn
    obtain ⟨p', c', e'⟩ := q.value
    subst e'
    have q0 := q
    have hlv : LS h1 (.slice p' l.length c') l ints 1 := SL.ls ints_len q
    obtain ⟨pp, cc, ee, hx⟩ := hlv.open
    simp only [Value.slice.injEq] at ee
    obtain ⟨rfl, _, rfl⟩ := ee
    have pe : plainZ ws = if l.all (fun n => decide (0 ≤ n)) = true then some l else none := by unfold plainZ; rw [hn]
    simp (maxDischargeDepth := 30) only [AMS, AMH, ↓reduceIte, Nat.reduceLT, Nat.reduceEqDiff, Nat.reduceAdd, Nat.reduceMul, reduceCtorEq, decide_true, decide_false, Nat.reduceLeDiff, Int.reduceNe, Int.reduceEq, ne_eq, not_false_eq_true, and_self, F102_Am144, k1]
    refine W_loop l.length (fun m f h' => ∃ i, i ≤ l.length ∧ m = l.length - i ∧ f 6 = .slice p' l.length c' ∧ f 8 = .int .i64 i ∧ f 7 = .bool ((l.take i).all fun n => decide (0 ≤ n)) ∧ h' = h1)
      ⟨0, by omega, by omega, by simp [upd_at], by simp [upd_at], by simp [upd_at], rfl⟩ ?_
    rintro m f h2 ⟨i, hi, rfl, g6, g8, g7, rfl⟩ ih
    by_cases hil : i < l.length
    · obtain ⟨x, gx⟩ : ∃ w, l[i]? = some w := ⟨_, List.getElem?_eq_getElem hil⟩
      rcases hx with hx | ⟨b, o, sp, row, rfl, hr, hx⟩
      · rw [hx] at hil; simp at hil
      have hcell : row[o + i]? = some (.int .i64 x) := by
        have := (hx _ _ gx).2 0 (by omega)
        simpa [ints] using this
      have ea := all_snoc gx (fun n => decide (0 ≤ n))
      cases hb : (l.take i).all (fun n => decide (0 ≤ n)) with
      | false =>
        rw [hb] at ea g7
        simp (maxDischargeDepth := 30) only [AMS, AMH, ↓reduceIte, Nat.reduceLT, Nat.reduceEqDiff, Nat.reduceAdd, Nat.reduceMul, reduceCtorEq, decide_true, decide_false, Nat.reduceLeDiff, Int.reduceNe, Int.reduceEq, ne_eq, not_false_eq_true, and_self, F102_Am144, k1, g6, g8, g7, lt_t hil, hil, i_next hil (by omega : l.length ≤ 1000)]
        refine ih (l.length - (i + 1)) _ _ (by omega) ?_
        exact ⟨i + 1, by omega, rfl, by simp [upd_at, g6], by simp [upd_at], by simp [upd_at, ea], rfl⟩
      | true =>
        rw [hb] at ea g7
        simp (maxDischargeDepth := 30) only [AMS, AMH, ↓reduceIte, Nat.reduceLT, Nat.reduceEqDiff, Nat.reduceAdd, Nat.reduceMul, reduceCtorEq, decide_true, decide_false, Nat.reduceLeDiff, Int.reduceNe, Int.reduceEq, ne_eq, not_false_eq_true, and_self, F102_Am144, k1, g6, g8, g7, lt_t hil, hil, Nat.mul_one, hr, hcell, i_next hil (by omega : l.length ≤ 1000)]
        refine ih (l.length - (i + 1)) _ _ (by omega) ?_
        refine ⟨i + 1, by omega, rfl, by simp [upd_at, g6], by simp [upd_at], ?_, rfl⟩
        simp only [upd_at, ↓reduceIte, Nat.reduceEqDiff, ea, Bool.true_and, ge_iff_le]
    · have : i = l.length := by omega
      subst this
      rw [List.take_length] at g7
      simp (maxDischargeDepth := 30) only [AMS, AMH, ↓reduceIte, Nat.reduceLT, Nat.reduceEqDiff, Nat.reduceAdd, Nat.reduceMul, reduceCtorEq, decide_true, decide_false, Nat.reduceLeDiff, Int.reduceNe, Int.reduceEq, ne_eq, not_false_eq_true, and_self, F102_Am144, k1, g6, g8, g7, lt_f]
      cases hb : l.all (fun n => decide (0 ≤ n)) with
      | false => exact ⟨.inr ⟨by rw [pe, hb]; rfl, _, rfl⟩, f1⟩
      | true => exact ⟨.inl ⟨l, _, by rw [pe, hb]; rfl, rfl, q0⟩, f1⟩
  · have pe : plainZ ws = none := by unfold plainZ; rw [hn]
    have l0 : decide ((0 : Int) < ((0 : Nat) : Int)) = false := rfl
    simp (maxDischargeDepth := 30) only [AMS, AMH, ↓reduceIte, Nat.reduceLT, Nat.reduceEqDiff, Nat.reduceAdd, Nat.reduceMul, reduceCtorEq, decide_true, decide_false, Nat.reduceLeDiff, Int.reduceNe, Int.reduceEq, ne_eq, not_false_eq_true, and_self, F102_Am144, f1.ok]
    refine W_loop 0 (fun m f h' => m = 0 ∧ f 6 = .slice none 0 0 ∧ f 8 = .int .i64 0 ∧ f 7 = .bool false ∧ h' = h1) ⟨rfl, by simp [upd_at], by simp [upd_at], by simp [upd_at], rfl⟩ ?_
    rintro m f h2 ⟨rfl, g6, g8, g7, rfl⟩ _
    simp (maxDischargeDepth := 30) only [AMS, AMH, ↓reduceIte, Nat.reduceLT, Nat.reduceEqDiff, Nat.reduceAdd, Nat.reduceMul, reduceCtorEq, decide_true, decide_false, Nat.reduceLeDiff, Int.reduceNe, Int.reduceEq, ne_eq, not_false_eq_true, and_self, F102_Am144, f1.ok, g6, g8, g7, l0]
    exact ⟨.inr ⟨pe, _, by first | rfl | trivial⟩, f1⟩

/- SHEETS THAT ARE EQUAL -/
set_option maxRecDepth 10000 in
theorem same_35s (v w : Value) (l m : List Int) (h : Heap) (hk : HOK h) (hv : LS h v l ints 1) (hw : LS h w m ints 1) (hl : l.length ≤ 1000) (hm : m.length ≤ 1000) : CW CC 35 [v, w] h fun r h' => r = .bool (decide (l = m)) ∧ h' = h := by
  obtain ⟨p, c, rfl, hx⟩ := hv.open
  obtain ⟨p', c', rfl, hy⟩ := hw.open
  refine CW_in Tryz.f35 (by kernel_rfl) (by kernel_rfl) rfl rfl ?_
  simp only [Tryz.f35]
  by_cases hne : (l.length : Int) = m.length
  · have hne' : l.length = m.length := by omega
    simp (maxDischargeDepth := 30) only [AMS, AMH, ↓reduceIte, Nat.reduceLT, Nat.reduceEqDiff, Nat.reduceAdd, Nat.reduceMul, reduceCtorEq, decide_true, decide_false, Nat.reduceLeDiff, Int.reduceNe, Int.reduceEq, ne_eq, not_false_eq_true, and_self, F35_Am144, hne, bne_self_eq_false]
    refine W_loop l.length (fun n f h' => ∃ i, i ≤ l.length ∧ n = l.length - i ∧ f 0 = .slice p l.length c ∧ f 1 = .slice p' m.length c' ∧ f 5 = .int .i64 i ∧ l.take i = m.take i ∧ h' = h) ⟨0, by omega, by omega, by simp [upd_at, argsFn_at, hne], by simp [upd_at, argsFn_at], by simp [upd_at], by simp, rfl⟩ ?_
    rintro n f h' ⟨i, hi, rfl, g0, g1, g5, ht, rfl⟩ ih
    by_cases hil : i < l.length
    · have him : i < m.length := by omega
      obtain ⟨x, gx⟩ : ∃ x, l[i]? = some x := ⟨_, List.getElem?_eq_getElem hil⟩
      obtain ⟨y, gy⟩ : ∃ y, m[i]? = some y := ⟨_, List.getElem?_eq_getElem him⟩
      rcases hx with hx | ⟨b2, o2, sp2, row2, rfl, rr2, x2⟩
      · rw [hx] at hil; simp at hil
      rcases hy with hy | ⟨b4, o4, sp4, row4, rfl, rr4, x4⟩
      · rw [hy] at him; simp at him
      have e1 : row2[o2 + i]? = some (.int .i64 x) := by simpa [ints] using (x2 _ _ gx).2 0 (by omega)
      have e2 : row4[o4 + i]? = some (.int .i64 y) := by simpa [ints] using (x4 _ _ gy).2 0 (by omega)
      have n2 := row_lt hk rr2
      have n4 := row_lt hk rr4
      simp (maxDischargeDepth := 30) only [AMS, AMH, ↓reduceIte, Nat.reduceLT, Nat.reduceEqDiff, Nat.reduceAdd, Nat.reduceMul, reduceCtorEq, decide_true, decide_false, Nat.reduceLeDiff, Int.reduceNe, Int.reduceEq, ne_eq, not_false_eq_true, and_self, F35_Am144, g0, g1, g5, lt_t hil, hil, him]
      refine W_draw [(true, 0), (true, 1), (true, 2), (true, 3), (true, 4), (true, 5), (true, 6), (true, 7), (true, 8)] (by kernel_rfl) ?_
      cases hxy : (x != y) with
      | true =>
        simp (maxDischargeDepth := 30) only [AMS, AMH, ↓reduceIte, Nat.reduceLT, Nat.reduceEqDiff, Nat.reduceAdd, Nat.reduceMul, reduceCtorEq, decide_true, decide_false, Nat.reduceLeDiff, Int.reduceNe, Int.reduceEq, ne_eq, not_false_eq_true, and_self, AMR, F35_Am144, hk, g0, g1, g5, hil, him, n2, n4, rr2, rr4, Nat.mul_one, e1, e2, hxy]
        refine ⟨?_, trivial⟩
        have : l ≠ m := fun e => by
          rw [e, gy] at gx
          simp at gx hxy
          exact hxy gx.symm
        simp [this]
      | false =>
        simp (maxDischargeDepth := 30) only [AMS, AMH, ↓reduceIte, Nat.reduceLT, Nat.reduceEqDiff, Nat.reduceAdd, Nat.reduceMul, reduceCtorEq, decide_true, decide_false, Nat.reduceLeDiff, Int.reduceNe, Int.reduceEq, ne_eq, not_false_eq_true, and_self, AMR, F35_Am144, hk, g0, g1, g5, hil, him, n2, n4, rr2, rr4, Nat.mul_one, e1, e2, hxy, i_next hil hl]
        refine ih (l.length - (i + 1)) _ _ (by omega) ?_
        have hxy' : x = y := by simpa using hxy
        exact ⟨i + 1, by omega, rfl, by simp [upd_at, g0], by simp [upd_at, g1], by simp [upd_at], by rw [take_snoc gx, take_snoc gy, ht, hxy'], rfl⟩
    · have : i = l.length := by omega
      subst this
      simp (maxDischargeDepth := 30) only [AMS, AMH, ↓reduceIte, Nat.reduceLT, Nat.reduceEqDiff, Nat.reduceAdd, Nat.reduceMul, reduceCtorEq, decide_true, decide_false, Nat.reduceLeDiff, Int.reduceNe, Int.reduceEq, ne_eq, not_false_eq_true, and_self, F35_Am144, g0, g1, g5, lt_f]
      rw [List.take_of_length_le (Nat.le_refl _), List.take_of_length_le (by omega)] at ht
      exact ⟨by simp [ht], trivial⟩
  · have hb : ((l.length : Int) != m.length) = true := by simpa using hne
    simp (maxDischargeDepth := 30) only [AMS, AMH, ↓reduceIte, Nat.reduceLT, Nat.reduceEqDiff, Nat.reduceAdd, Nat.reduceMul, reduceCtorEq, decide_true, decide_false, Nat.reduceLeDiff, Int.reduceNe, Int.reduceEq, ne_eq, not_false_eq_true, and_self, F35_Am144, hb]
    refine ⟨?_, trivial⟩
    have : l ≠ m := fun e => hne (by rw [e])
    simp [this]
noncomputable instance Board.dec : DecidableEq Board := fun _ _ => Classical.propDecidable _
theorem eqOk_72 : CC.eqOk 72 = true := by kernel_rfl
theorem eqOk_41 : CC.eqOk 41 = true := by kernel_rfl
theorem neq_72 (x y : Board) (c : Bool) : aBin CC .neq 72 c (.agg ⟨x.cells⟩) (.agg ⟨y.cells⟩) = some (.bool (!decide (x = y))) := by
  obtain ⟨a1, a2, a3, a4, a5⟩ := x
  obtain ⟨b1, b2, b3, b4, b5⟩ := y
  have hl : CC.like 72 [.int .i64 a1, .int .i64 a2, .int .i64 a3, .int .i64 a4, .int .i64 a5] = true := by kernel_rfl
  simp only [Board.cells]
  rw [A_neq CC 72 c _ _ eqOk_72 hl rfl]
  simp only [cellsEq_int, cellsEq_nil, Board.mk.injEq]
  repeat' split
  all_goals simp [*, notV]
theorem neq_41 (x y : Tar) (c : Bool) : aBin CC .neq 41 c (.agg ⟨x.cells⟩) (.agg ⟨y.cells⟩) = some (.bool (!decide (x = y))) := by
  obtain ⟨a1, a2, a3, a4, a5⟩ := x
  obtain ⟨b1, b2, b3, b4, b5⟩ := y
  have hl : CC.like 41 [.int .i64 a1, .int .i64 a2, .int .i64 a3, .int .i64 a4, .bool a5] = true := by kernel_rfl
  simp only [Tar.cells]
  rw [A_neq CC 41 c _ _ eqOk_41 hl rfl]
  simp only [cellsEq_int, cellsEq_bool, cellsEq_nil, Tar.mk.injEq]
  repeat' split
  all_goals simp [*, notV]
def sameS (a b : Sheet) : Prop := a.offs = b.offs ∧ a.boards = b.boards ∧ a.tars = b.tars
noncomputable instance sameS.dec (a b : Sheet) : Decidable (sameS a b) := Classical.propDecidable _
theorem eq_by_take {α : Type} {l m : List α} (h : l.length = m.length) (ht : l.take l.length = m.take l.length) : l = m := by
  rw [List.take_length, h, List.take_length] at ht; exact ht

set_option maxRecDepth 10000 in
set_option maxHeartbeats 4000000 in
theorem sames_66 {h : Heap} (hk : HOK h) {a b c d e f : Value} {s t : Sheet} (hs : IsSheet h a b c s) (ht : IsSheet h d e f t) (l1 : s.offs.length ≤ 1000) (l2 : s.boards.length ≤ 1000) (l3 : s.tars.length ≤ 1000) (m1 : t.offs.length ≤ 1000) (m2 : t.boards.length ≤ 1000) (m3 : t.tars.length ≤ 1000) :
    CW CC 66 [.agg ⟨[a, b, c]⟩, .agg ⟨[d, e, f]⟩] h fun r h' => r = .bool (decide (sameS s t)) ∧ Fr h h' := by
  obtain ⟨p1, c1, rfl, _⟩ := hs.offs.open
  obtain ⟨p2, c2, rfl, x2⟩ := hs.boards.open
  obtain ⟨p3, c3, rfl, x3⟩ := hs.tars.open
  obtain ⟨q1, d1, rfl, _⟩ := ht.offs.open
  obtain ⟨q2, d2, rfl, y2⟩ := ht.boards.open
  obtain ⟨q3, d3, rfl, y3⟩ := ht.tars.open
  refine CW_in Tryz.f66 (by kernel_rfl) (by kernel_rfl) rfl rfl ?_
  simp only [Tryz.f66]
  have f1 : Fr h ((h.alloc (.row [.slice p1 s.offs.length c1, .slice p2 s.boards.length c2, .slice p3 s.tars.length c3] 0 true)).alloc (.row [.slice q1 t.offs.length d1, .slice q2 t.boards.length d2, .slice q3 t.tars.length d3] 0 true)) := ((Fr.refl hk).alloc _).alloc _
  have r1 : rowAt ((h.alloc (.row [.slice p1 s.offs.length c1, .slice p2 s.boards.length c2, .slice p3 s.tars.length c3] 0 true)).alloc (.row [.slice q1 t.offs.length d1, .slice q2 t.boards.length d2, .slice q3 t.tars.length d3] 0 true)) h.next = some [.slice p1 s.offs.length c1, .slice p2 s.boards.length c2, .slice p3 s.tars.length c3] := by rw [rowAt_old _ (by simp), rowAt_new]
  have r2 : rowAt ((h.alloc (.row [.slice p1 s.offs.length c1, .slice p2 s.boards.length c2, .slice p3 s.tars.length c3] 0 true)).alloc (.row [.slice q1 t.offs.length d1, .slice q2 t.boards.length d2, .slice q3 t.tars.length d3] 0 true)) (h.next + 1) = some [.slice q1 t.offs.length d1, .slice q2 t.boards.length d2, .slice q3 t.tars.length d3] := rowAt_at _ _ _ (by simp)
  simp (maxDischargeDepth := 30) only [AMS, AMH, ↓reduceIte, Nat.reduceLT, Nat.reduceEqDiff, Nat.reduceAdd, Nat.reduceMul, reduceCtorEq, decide_true, decide_false, Nat.reduceLeDiff, Int.reduceNe, Int.reduceEq, ne_eq, not_false_eq_true, and_self, F66_Am144, hk]
  generalize ((h.alloc (.row [.slice p1 s.offs.length c1, .slice p2 s.boards.length c2, .slice p3 s.tars.length c3] 0 true)).alloc (.row [.slice q1 t.offs.length d1, .slice q2 t.boards.length d2, .slice q3 t.tars.length d3] 0 true)) = h1 at f1 r1 r2 ⊢
  have k1 := f1.ok
  refine W_call (same_35s _ _ s.offs t.offs h1 k1 (hs.offs.fr hk f1) (ht.offs.fr hk f1) l1 m1) ?_
  rintro _ h1 ⟨rfl, rfl⟩
  cases d1 : decide (s.offs = t.offs) with
  | false =>
    simp (maxDischargeDepth := 30) only [AMS, AMH, ↓reduceIte, Nat.reduceLT, Nat.reduceEqDiff, Nat.reduceAdd, Nat.reduceMul, reduceCtorEq, decide_true, decide_false, Nat.reduceLeDiff, Int.reduceNe, Int.reduceEq, ne_eq, not_false_eq_true, and_self, F66_Am144, k1, d1]
    refine ⟨?_, f1⟩
    have : ¬ sameS s t := fun e => by rw [e.1] at d1; simp at d1
    simp [this]
  | true =>
  have e1 : s.offs = t.offs := of_decide_eq_true d1
  cases d2 : ((s.boards.length : Int) != (t.boards.length : Int)) with
  | true =>
    simp (maxDischargeDepth := 30) only [AMS, AMH, ↓reduceIte, Nat.reduceLT, Nat.reduceEqDiff, Nat.reduceAdd, Nat.reduceMul, reduceCtorEq, decide_true, decide_false, Nat.reduceLeDiff, Int.reduceNe, Int.reduceEq, ne_eq, not_false_eq_true, and_self, F66_Am144, k1, d1, r1, r2, d2]
    refine ⟨?_, f1⟩
    have : ¬ sameS s t := fun e => by rw [e.2.1] at d2; simp at d2
    simp [this]
  | false =>
  have e2 : s.boards.length = t.boards.length := by have : (s.boards.length : Int) = t.boards.length := by simpa using d2
                                                    omega
  cases d3 : ((s.tars.length : Int) != (t.tars.length : Int)) with
  | true =>
    simp (maxDischargeDepth := 30) only [AMS, AMH, ↓reduceIte, Nat.reduceLT, Nat.reduceEqDiff, Nat.reduceAdd, Nat.reduceMul, reduceCtorEq, decide_true, decide_false, Nat.reduceLeDiff, Int.reduceNe, Int.reduceEq, ne_eq, not_false_eq_true, and_self, F66_Am144, k1, d1, r1, r2, d2, d3]
    refine ⟨?_, f1⟩
    have : ¬ sameS s t := fun e => by rw [e.2.2] at d3; simp at d3
    simp [this]
  | false =>
  have e3 : s.tars.length = t.tars.length := by have : (s.tars.length : Int) = t.tars.length := by simpa using d3
                                                omega
  have n1 := row_lt k1 r1
  have n2 := row_lt k1 r2
  simp (maxDischargeDepth := 30) only [AMS, AMH, ↓reduceIte, Nat.reduceLT, Nat.reduceEqDiff, Nat.reduceAdd, Nat.reduceMul, reduceCtorEq, decide_true, decide_false, Nat.reduceLeDiff, Int.reduceNe, Int.reduceEq, ne_eq, not_false_eq_true, and_self, F66_Am144, k1, d1, r1, r2, d2, d3]
  refine W_loop s.boards.length (fun m f h' => ∃ i, i ≤ s.boards.length ∧ m = s.boards.length - i ∧ f 2 = .pointer (some ⟨h.next, 0, none⟩) ∧ f 3 = .pointer (some ⟨h.next + 1, 0, none⟩) ∧ f 5 = .int .i64 i ∧ s.boards.take i = t.boards.take i ∧ h' = h1)
    ⟨0, by omega, by omega, by simp [upd_at], by simp [upd_at], by simp [upd_at], by simp, rfl⟩ ?_
  rintro m f h2 ⟨i, hi, rfl, g2, g3, g5, ht2, rfl⟩ ih
  by_cases hil : i < s.boards.length
  · have him : i < t.boards.length := by omega
    obtain ⟨x, gx⟩ : ∃ x, s.boards[i]? = some x := ⟨_, List.getElem?_eq_getElem hil⟩
    obtain ⟨y, gy⟩ : ∃ y, t.boards[i]? = some y := ⟨_, List.getElem?_eq_getElem him⟩
    rcases x2 with x2 | ⟨b2, o2, sp2, row2, rfl, rr2, x2⟩
    · rw [x2] at hil; simp at hil
    rcases y2 with y2 | ⟨b4, o4, sp4, row4, rfl, rr4, y2⟩
    · rw [y2] at him; simp at him
    have a1 := (x2 _ _ gx).1
    have a2 := (y2 _ _ gy).1
    have rr2' := f1.row' hk rr2
    have rr4' := f1.row' hk rr4
    have u2 := row_lt k1 rr2'
    have u4 := row_lt k1 rr4'
    have xs : x.cells.all selfC = true := rfl
    have ys : y.cells.all selfC = true := rfl
    simp (maxDischargeDepth := 30) only [AMS, AMH, ↓reduceIte, Nat.reduceLT, Nat.reduceEqDiff, Nat.reduceAdd, Nat.reduceMul, reduceCtorEq, decide_true, decide_false, Nat.reduceLeDiff, Int.reduceNe, Int.reduceEq, ne_eq, not_false_eq_true, and_self, F66_Am144, k1, g2, g3, g5, r1, r2, lt_t hil]
    refine W_draw [(true, 0), (true, 1), (true, 2), (true, 3), (true, 4), (true, 5), (true, 6), (true, 7), (true, 8), (true, 9), (true, 10)] (by kernel_rfl) ?_
    cases hxy : decide (x = y) with
    | false =>
      simp (maxDischargeDepth := 30) only [AMS, AMH, ↓reduceIte, Nat.reduceLT, Nat.reduceEqDiff, Nat.reduceAdd, Nat.reduceMul, reduceCtorEq, decide_true, decide_false, Nat.reduceLeDiff, Int.reduceNe, Int.reduceEq, ne_eq, not_false_eq_true, and_self, AMR, F66_Am144, k1, g2, g3, g5, r1, r2, n1, n2, u2, u4, hil, him, rr2', rr4', a1, a2, xs, ys, neq_72, hxy]
      refine ⟨?_, f1⟩
      have : ¬ sameS s t := fun e => by
        rw [e.2.1, gy] at gx
        simp at gx hxy
        exact hxy gx.symm
      simp [this]
    | true =>
      simp (maxDischargeDepth := 30) only [AMS, AMH, ↓reduceIte, Nat.reduceLT, Nat.reduceEqDiff, Nat.reduceAdd, Nat.reduceMul, reduceCtorEq, decide_true, decide_false, Nat.reduceLeDiff, Int.reduceNe, Int.reduceEq, ne_eq, not_false_eq_true, and_self, AMR, F66_Am144, k1, g2, g3, g5, r1, r2, n1, n2, u2, u4, hil, him, rr2', rr4', a1, a2, xs, ys, neq_72, hxy, i_next hil l2]
      refine ih (s.boards.length - (i + 1)) _ _ (by omega) ?_
      exact ⟨i + 1, by omega, rfl, by simp [upd_at, g2], by simp [upd_at, g3], by simp [upd_at], by rw [take_snoc gx, take_snoc gy, ht2, of_decide_eq_true hxy], rfl⟩
  have : i = s.boards.length := by omega
  subst this
  have eb := eq_by_take e2 ht2
  have lf : decide ((s.boards.length : Int) < (s.boards.length : Int)) = false := lt_f _
  clear ih
  simp (maxDischargeDepth := 30) only [AMS, AMH, ↓reduceIte, Nat.reduceLT, Nat.reduceEqDiff, Nat.reduceAdd, Nat.reduceMul, reduceCtorEq, decide_true, decide_false, Nat.reduceLeDiff, Int.reduceNe, Int.reduceEq, ne_eq, not_false_eq_true, and_self, F66_Am144, k1, g2, g3, g5, r1, r2, lt_f]
  refine W_loop s.tars.length (fun m f h' => ∃ i, i ≤ s.tars.length ∧ m = s.tars.length - i ∧ f 2 = .pointer (some ⟨h.next, 0, none⟩) ∧ f 3 = .pointer (some ⟨h.next + 1, 0, none⟩) ∧ f 6 = .int .i64 i ∧ s.tars.take i = t.tars.take i ∧ h' = h2)
    ⟨0, by omega, by omega, by simp [upd_at, g2], by simp [upd_at, g3], by simp [upd_at], by simp, rfl⟩ ?_
  clear g2 g3 g5 ht2 hi f
  rintro m f h3 ⟨i, hi, rfl, g2, g3, g5, ht2, rfl⟩ ih
  by_cases hil : i < s.tars.length
  · have him : i < t.tars.length := by omega
    obtain ⟨x, gx⟩ : ∃ x, s.tars[i]? = some x := ⟨_, List.getElem?_eq_getElem hil⟩
    obtain ⟨y, gy⟩ : ∃ y, t.tars[i]? = some y := ⟨_, List.getElem?_eq_getElem him⟩
    rcases x3 with x2 | ⟨b2, o2, sp2, row2, rfl, rr2, x2⟩
    · rw [x2] at hil; simp at hil
    rcases y3 with y2 | ⟨b4, o4, sp4, row4, rfl, rr4, y2⟩
    · rw [y2] at him; simp at him
    have a1 := (x2 _ _ gx).1
    have a2 := (y2 _ _ gy).1
    have rr2' := f1.row' hk rr2
    have rr4' := f1.row' hk rr4
    have u2 := row_lt k1 rr2'
    have u4 := row_lt k1 rr4'
    have xs : x.cells.all selfC = true := rfl
    have ys : y.cells.all selfC = true := rfl
    simp (maxDischargeDepth := 30) only [AMS, AMH, ↓reduceIte, Nat.reduceLT, Nat.reduceEqDiff, Nat.reduceAdd, Nat.reduceMul, reduceCtorEq, decide_true, decide_false, Nat.reduceLeDiff, Int.reduceNe, Int.reduceEq, ne_eq, not_false_eq_true, and_self, F66_Am144, k1, g2, g3, g5, r1, r2, lt_t hil]
    refine W_draw [(true, 0), (true, 1), (true, 2), (true, 3), (true, 4), (true, 5), (true, 6), (true, 7), (true, 8), (true, 9), (true, 10)] (by kernel_rfl) ?_
    cases hxy : decide (x = y) with
    | false =>
      simp (maxDischargeDepth := 30) only [AMS, AMH, ↓reduceIte, Nat.reduceLT, Nat.reduceEqDiff, Nat.reduceAdd, Nat.reduceMul, reduceCtorEq, decide_true, decide_false, Nat.reduceLeDiff, Int.reduceNe, Int.reduceEq, ne_eq, not_false_eq_true, and_self, AMR, F66_Am144, k1, g2, g3, g5, r1, r2, n1, n2, u2, u4, hil, him, rr2', rr4', a1, a2, xs, ys, neq_41, hxy]
      refine ⟨?_, f1⟩
      have : ¬ sameS s t := fun e => by
        rw [e.2.2, gy] at gx
        simp at gx hxy
        exact hxy gx.symm
      simp [this]
    | true =>
      simp (maxDischargeDepth := 30) only [AMS, AMH, ↓reduceIte, Nat.reduceLT, Nat.reduceEqDiff, Nat.reduceAdd, Nat.reduceMul, reduceCtorEq, decide_true, decide_false, Nat.reduceLeDiff, Int.reduceNe, Int.reduceEq, ne_eq, not_false_eq_true, and_self, AMR, F66_Am144, k1, g2, g3, g5, r1, r2, n1, n2, u2, u4, hil, him, rr2', rr4', a1, a2, xs, ys, neq_41, hxy, i_next hil l3]
      refine ih (s.tars.length - (i + 1)) _ _ (by omega) ?_
      exact ⟨i + 1, by omega, rfl, by simp [upd_at, g2], by simp [upd_at, g3], by simp [upd_at], by rw [take_snoc gx, take_snoc gy, ht2, of_decide_eq_true hxy], rfl⟩
  have : i = s.tars.length := by omega
  subst this
  simp (maxDischargeDepth := 30) only [AMS, AMH, ↓reduceIte, Nat.reduceLT, Nat.reduceEqDiff, Nat.reduceAdd, Nat.reduceMul, reduceCtorEq, decide_true, decide_false, Nat.reduceLeDiff, Int.reduceNe, Int.reduceEq, ne_eq, not_false_eq_true, and_self, F66_Am144, k1, g2, g3, g5, r1, r2, lt_f]
  refine ⟨?_, f1⟩
  have : sameS s t := ⟨e1, eb, eq_by_take e3 ht2⟩
  simp [this]
end Go.Am
