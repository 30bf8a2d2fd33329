/- Parts 45, 46, 47 of the abstract machine over this program, joined: what each part says stands at its head. -/
import Derived.Test.YtfnkjclplfhjcaaGreatDoorJ41
set_option linter.unusedSimpArgs false
set_option linter.unusedVariables false
/- The abstract machine, part 45: contracts: slices.IndexFunc, slices.ContainsFunc. -/
namespace Go.Am
open Go Go.Proofs
theorem F139_Am45 : type_of% (And.intro @ix_22 <| And.intro @ld_3 <| And.intro @len_22 <| And.intro @part_3 <| And.intro @size_22 <| And.intro @size_3 <| And.intro @und_22 @zero_22) := And.intro @ix_22 <| And.intro @ld_3 <| And.intro @len_22 <| And.intro @part_3 <| And.intro @size_22 <| And.intro @size_3 <| And.intro @und_22 @zero_22
theorem F140_Am45 : type_of% (And.intro @ix_23 <| And.intro @ld_72 <| And.intro @len_23 <| And.intro @part_72 <| And.intro @size_23 <| And.intro @size_72 <| And.intro @und_23 @zero_23) := And.intro @ix_23 <| And.intro @ld_72 <| And.intro @len_23 <| And.intro @part_72 <| And.intro @size_23 <| And.intro @size_72 <| And.intro @und_23 @zero_23
theorem F141_Am45 : type_of% (And.intro @ix_24 <| And.intro @ld_41 <| And.intro @len_24 <| And.intro @part_41 <| And.intro @size_24 <| And.intro @size_41 <| And.intro @und_24 @zero_24) := And.intro @ix_24 <| And.intro @ld_41 <| And.intro @len_24 <| And.intro @part_41 <| And.intro @size_24 <| And.intro @size_41 <| And.intro @und_24 @zero_24

set_option maxRecDepth 10000 in
theorem indexFunc_139 {h : Heap} (hk : HOK h) {v fv : Value} {xs : List Int} (g : Int → Bool) (hv : LS h v xs ints 1) (hl : xs.length ≤ 1000)
    (hcl : ∀ h1, Fr h h1 → ∀ x ∈ xs, ∃ h2, appV CC fv [.int .i64 x] h1 = some (.ret (.bool (g x)) h2 none) ∧ Fr h1 h2) :
    CW CC 139 [v, fv] h fun r h' => (∃ i : Int, r = .int .i64 i ∧ decide (i ≥ 0) = xs.any g) ∧ Fr h h' := by
  obtain ⟨p, c, rfl, hx⟩ := hv.open
  refine CW_in Tryz.f139 (by kernel_rfl) (by kernel_rfl) rfl rfl ?_
  simp only [Tryz.f139]
  simp (maxDischargeDepth := 30) only [AMS, AMH, ↓reduceIte, Nat.reduceLT, Nat.reduceEqDiff, Nat.reduceAdd, Nat.reduceMul, reduceCtorEq, decide_true, decide_false, Nat.reduceLeDiff, Int.reduceNe, Int.reduceEq, ne_eq, not_false_eq_true, and_self, F139_Am45, hk]
  refine W_loop xs.length (fun m f h' => ∃ i, i ≤ xs.length ∧ m = xs.length - i ∧ f 0 = .slice p xs.length c ∧ f 1 = fv ∧ f 7 = .int .i64 xs.length ∧ f 8 = .int .i64 i ∧ (∀ (j : Nat) x, j < i → xs[j]? = some x → g x = false) ∧ Fr h h')
    ⟨0, by omega, by omega, by simp [upd_at, argsFn_at], by simp [upd_at, argsFn_at], by simp [upd_at, argsFn_at], by simp [upd_at], fun j x hj => by omega, Fr.refl hk⟩ ?_
  rintro m f h' ⟨i, hi, rfl, f0, f1, f7, f8, hall, fr⟩ ih
  have hk' := fr.ok
  by_cases hil : i < xs.length
  · have hlt : decide ((i : Int) < (xs.length : Int)) = true := by simp; omega
    obtain ⟨x, g1⟩ : ∃ x, xs[i]? = some x := ⟨_, List.getElem?_eq_getElem hil⟩
    rcases hx with hx | ⟨b, o, sp, row, rfl, hr, hx⟩
    · rw [hx] at hil; simp at hil
    have k1 : row[o + i]? = some (.int .i64 x) := by simpa [ints] using (hx i x g1).2 0 (by omega)
    have hr' := fr.row' hk hr
    obtain ⟨h2, e2, fr2⟩ := hcl h' fr x (List.mem_of_getElem? g1)
    cases hg : g x with
    | true =>
      rw [hg] at e2
      simp (maxDischargeDepth := 30) only [AMS, AMH, ↓reduceIte, Nat.reduceLT, Nat.reduceEqDiff, Nat.reduceAdd, Nat.reduceMul, reduceCtorEq, decide_true, decide_false, Nat.reduceLeDiff, Int.reduceNe, Int.reduceEq, ne_eq, not_false_eq_true, and_self, F139_Am45, hk', f0, f1, f7, f8, hlt, hil, hr', Nat.mul_one, k1, e2]
      refine ⟨⟨_, rfl, ?_⟩, fr.trans fr2⟩
      have : xs.any g = true := List.any_eq_true.2 ⟨x, List.mem_of_getElem? g1, hg⟩
      rw [this]; simp
    | false =>
      rw [hg] at e2
      have w : IntKind.i64.wrap ((i : Int) + 1) = ((i + 1 : Nat) : Int) := by rw [wrap64 (by omega) (by omega)]; omega
      simp (maxDischargeDepth := 30) only [AMS, AMH, ↓reduceIte, Nat.reduceLT, Nat.reduceEqDiff, Nat.reduceAdd, Nat.reduceMul, reduceCtorEq, decide_true, decide_false, Nat.reduceLeDiff, Int.reduceNe, Int.reduceEq, ne_eq, not_false_eq_true, and_self, F139_Am45, hk', f0, f1, f7, f8, hlt, hil, hr', Nat.mul_one, k1, e2, w]
      refine ih (xs.length - (i + 1)) _ _ (by omega) ?_
      refine ⟨i + 1, by omega, rfl, by simp [upd_at, f0], by simp [upd_at, f1], by simp [upd_at, f7], by simp [upd_at], fun j y hj hy => ?_, fr.trans fr2⟩
      by_cases hji : j < i
      · exact hall j y hji hy
      · have : j = i := by omega
        subst this
        rw [g1] at hy; simp at hy; subst hy; exact hg
  · have : i = xs.length := by omega
    subst this
    have hlt : decide ((xs.length : Int) < (xs.length : Int)) = false := by simp
    simp (maxDischargeDepth := 30) only [AMS, AMH, ↓reduceIte, Nat.reduceLT, Nat.reduceEqDiff, Nat.reduceAdd, Nat.reduceMul, reduceCtorEq, decide_true, decide_false, Nat.reduceLeDiff, Int.reduceNe, Int.reduceEq, ne_eq, not_false_eq_true, and_self, F139_Am45, hk', f0, f1, f7, f8, hlt]
    refine ⟨⟨_, rfl, ?_⟩, fr⟩
    have : xs.any g = false := by
      rw [List.any_eq_false]
      intro x hx
      obtain ⟨j, hj⟩ := List.mem_iff_getElem?.1 hx
      simp [hall j x (List.getElem?_eq_some_iff.1 hj).1 hj]
    rw [this]; simp

theorem contains_112 {h : Heap} (hk : HOK h) {v fv : Value} {xs : List Int} (g : Int → Bool) (hv : LS h v xs ints 1) (hl : xs.length ≤ 1000)
    (hcl : ∀ h1, Fr h h1 → ∀ x ∈ xs, ∃ h2, appV CC fv [.int .i64 x] h1 = some (.ret (.bool (g x)) h2 none) ∧ Fr h1 h2) :
    CW CC 112 [v, fv] h fun r h' => r = .bool (xs.any g) ∧ Fr h h' := by
  obtain ⟨r, h1, e, ⟨i, rfl, hi⟩, fr⟩ := indexFunc_139 hk g hv hl hcl
  refine CW_in Tryz.f112 (by kernel_rfl) (by kernel_rfl) rfl rfl ?_
  simp only [Tryz.f112]
  simp (maxDischargeDepth := 30) only [AMS, AMH, ↓reduceIte, Nat.reduceLT, Nat.reduceEqDiff, Nat.reduceAdd, Nat.reduceMul, reduceCtorEq, decide_true, decide_false, Nat.reduceLeDiff, Int.reduceNe, Int.reduceEq, ne_eq, not_false_eq_true, and_self, L_nil, hk, e]
  exact ⟨by rw [hi], fr⟩

set_option maxRecDepth 10000 in
theorem indexFunc_140 {h : Heap} (hk : HOK h) {v fv : Value} {xs : List Board} (g : Board → Bool) (hv : LS h v xs Board.cells 5) (hl : xs.length ≤ 1000)
    (hcl : ∀ h1, Fr h h1 → ∀ x ∈ xs, ∃ h2, appV CC fv [.agg ⟨x.cells⟩] h1 = some (.ret (.bool (g x)) h2 none) ∧ Fr h1 h2) :
    CW CC 140 [v, fv] h fun r h' => (∃ i : Int, r = .int .i64 i ∧ decide (i ≥ 0) = xs.any g) ∧ Fr h h' := by
  obtain ⟨p, c, rfl, hx⟩ := hv.open
  refine CW_in Tryz.f140 (by kernel_rfl) (by kernel_rfl) rfl rfl ?_
  simp only [Tryz.f140]
  simp (maxDischargeDepth := 30) only [AMS, AMH, ↓reduceIte, Nat.reduceLT, Nat.reduceEqDiff, Nat.reduceAdd, Nat.reduceMul, reduceCtorEq, decide_true, decide_false, Nat.reduceLeDiff, Int.reduceNe, Int.reduceEq, ne_eq, not_false_eq_true, and_self, F140_Am45, hk]
  refine W_loop xs.length (fun m f h' => ∃ i, i ≤ xs.length ∧ m = xs.length - i ∧ f 0 = .slice p xs.length c ∧ f 1 = fv ∧ f 7 = .int .i64 xs.length ∧ f 8 = .int .i64 i ∧ (∀ (j : Nat) x, j < i → xs[j]? = some x → g x = false) ∧ Fr h h')
    ⟨0, by omega, by omega, by simp [upd_at, argsFn_at], by simp [upd_at, argsFn_at], by simp [upd_at, argsFn_at], by simp [upd_at], fun j x hj => by omega, Fr.refl hk⟩ ?_
  rintro m f h' ⟨i, hi, rfl, f0, f1, f7, f8, hall, fr⟩ ih
  have hk' := fr.ok
  by_cases hil : i < xs.length
  · have hlt : decide ((i : Int) < (xs.length : Int)) = true := by simp; omega
    obtain ⟨x, g1⟩ : ∃ x, xs[i]? = some x := ⟨_, List.getElem?_eq_getElem hil⟩
    rcases hx with hx | ⟨b, o, sp, row, rfl, hr, hx⟩
    · rw [hx] at hil; simp at hil
    have k1 : take? row (o + i * 5) 5 = some (x.cells) := (hx i x g1).1
    have hr' := fr.row' hk hr
    obtain ⟨h2, e2, fr2⟩ := hcl h' fr x (List.mem_of_getElem? g1)
    cases hg : g x with
    | true =>
      rw [hg] at e2
      simp (maxDischargeDepth := 30) only [AMS, AMH, ↓reduceIte, Nat.reduceLT, Nat.reduceEqDiff, Nat.reduceAdd, Nat.reduceMul, reduceCtorEq, decide_true, decide_false, Nat.reduceLeDiff, Int.reduceNe, Int.reduceEq, ne_eq, not_false_eq_true, and_self, F140_Am45, hk', f0, f1, f7, f8, hlt, hil, hr', Nat.mul_one, k1, e2]
      refine ⟨⟨_, rfl, ?_⟩, fr.trans fr2⟩
      have : xs.any g = true := List.any_eq_true.2 ⟨x, List.mem_of_getElem? g1, hg⟩
      rw [this]; simp
    | false =>
      rw [hg] at e2
      have w : IntKind.i64.wrap ((i : Int) + 1) = ((i + 1 : Nat) : Int) := by rw [wrap64 (by omega) (by omega)]; omega
      simp (maxDischargeDepth := 30) only [AMS, AMH, ↓reduceIte, Nat.reduceLT, Nat.reduceEqDiff, Nat.reduceAdd, Nat.reduceMul, reduceCtorEq, decide_true, decide_false, Nat.reduceLeDiff, Int.reduceNe, Int.reduceEq, ne_eq, not_false_eq_true, and_self, F140_Am45, hk', f0, f1, f7, f8, hlt, hil, hr', Nat.mul_one, k1, e2, w]
      refine ih (xs.length - (i + 1)) _ _ (by omega) ?_
      refine ⟨i + 1, by omega, rfl, by simp [upd_at, f0], by simp [upd_at, f1], by simp [upd_at, f7], by simp [upd_at], fun j y hj hy => ?_, fr.trans fr2⟩
      by_cases hji : j < i
      · exact hall j y hji hy
      · have : j = i := by omega
        subst this
        rw [g1] at hy; simp at hy; subst hy; exact hg
  · have : i = xs.length := by omega
    subst this
    have hlt : decide ((xs.length : Int) < (xs.length : Int)) = false := by simp
    simp (maxDischargeDepth := 30) only [AMS, AMH, ↓reduceIte, Nat.reduceLT, Nat.reduceEqDiff, Nat.reduceAdd, Nat.reduceMul, reduceCtorEq, decide_true, decide_false, Nat.reduceLeDiff, Int.reduceNe, Int.reduceEq, ne_eq, not_false_eq_true, and_self, F140_Am45, hk', f0, f1, f7, f8, hlt]
    refine ⟨⟨_, rfl, ?_⟩, fr⟩
    have : xs.any g = false := by
      rw [List.any_eq_false]
      intro x hx
      obtain ⟨j, hj⟩ := List.mem_iff_getElem?.1 hx
      simp [hall j x (List.getElem?_eq_some_iff.1 hj).1 hj]
    rw [this]; simp

theorem contains_114 {h : Heap} (hk : HOK h) {v fv : Value} {xs : List Board} (g : Board → Bool) (hv : LS h v xs Board.cells 5) (hl : xs.length ≤ 1000)
    (hcl : ∀ h1, Fr h h1 → ∀ x ∈ xs, ∃ h2, appV CC fv [.agg ⟨x.cells⟩] h1 = some (.ret (.bool (g x)) h2 none) ∧ Fr h1 h2) :
    CW CC 114 [v, fv] h fun r h' => r = .bool (xs.any g) ∧ Fr h h' := by
  obtain ⟨r, h1, e, ⟨i, rfl, hi⟩, fr⟩ := indexFunc_140 hk g hv hl hcl
  refine CW_in Tryz.f114 (by kernel_rfl) (by kernel_rfl) rfl rfl ?_
  simp only [Tryz.f114]
  simp (maxDischargeDepth := 30) only [AMS, AMH, ↓reduceIte, Nat.reduceLT, Nat.reduceEqDiff, Nat.reduceAdd, Nat.reduceMul, reduceCtorEq, decide_true, decide_false, Nat.reduceLeDiff, Int.reduceNe, Int.reduceEq, ne_eq, not_false_eq_true, and_self, L_nil, hk, e]
  exact ⟨by rw [hi], fr⟩

set_option maxRecDepth 10000 in
theorem indexFunc_141 {h : Heap} (hk : HOK h) {v fv : Value} {xs : List Tar} (g : Tar → Bool) (hv : LS h v xs Tar.cells 5) (hl : xs.length ≤ 1000)
    (hcl : ∀ h1, Fr h h1 → ∀ x ∈ xs, ∃ h2, appV CC fv [.agg ⟨x.cells⟩] h1 = some (.ret (.bool (g x)) h2 none) ∧ Fr h1 h2) :
    CW CC 141 [v, fv] h fun r h' => (∃ i : Int, r = .int .i64 i ∧ decide (i ≥ 0) = xs.any g) ∧ Fr h h' := by
  obtain ⟨p, c, rfl, hx⟩ := hv.open
  refine CW_in Tryz.f141 (by kernel_rfl) (by kernel_rfl) rfl rfl ?_
  simp only [Tryz.f141]
  simp (maxDischargeDepth := 30) only [AMS, AMH, ↓reduceIte, Nat.reduceLT, Nat.reduceEqDiff, Nat.reduceAdd, Nat.reduceMul, reduceCtorEq, decide_true, decide_false, Nat.reduceLeDiff, Int.reduceNe, Int.reduceEq, ne_eq, not_false_eq_true, and_self, F141_Am45, hk]
  refine W_loop xs.length (fun m f h' => ∃ i, i ≤ xs.length ∧ m = xs.length - i ∧ f 0 = .slice p xs.length c ∧ f 1 = fv ∧ f 7 = .int .i64 xs.length ∧ f 8 = .int .i64 i ∧ (∀ (j : Nat) x, j < i → xs[j]? = some x → g x = false) ∧ Fr h h')
    ⟨0, by omega, by omega, by simp [upd_at, argsFn_at], by simp [upd_at, argsFn_at], by simp [upd_at, argsFn_at], by simp [upd_at], fun j x hj => by omega, Fr.refl hk⟩ ?_
  rintro m f h' ⟨i, hi, rfl, f0, f1, f7, f8, hall, fr⟩ ih
  have hk' := fr.ok
  by_cases hil : i < xs.length
  · have hlt : decide ((i : Int) < (xs.length : Int)) = true := by simp; omega
    obtain ⟨x, g1⟩ : ∃ x, xs[i]? = some x := ⟨_, List.getElem?_eq_getElem hil⟩
    rcases hx with hx | ⟨b, o, sp, row, rfl, hr, hx⟩
    · rw [hx] at hil; simp at hil
    have k1 : take? row (o + i * 5) 5 = some (x.cells) := (hx i x g1).1
    have hr' := fr.row' hk hr
    obtain ⟨h2, e2, fr2⟩ := hcl h' fr x (List.mem_of_getElem? g1)
    cases hg : g x with
    | true =>
      rw [hg] at e2
      simp (maxDischargeDepth := 30) only [AMS, AMH, ↓reduceIte, Nat.reduceLT, Nat.reduceEqDiff, Nat.reduceAdd, Nat.reduceMul, reduceCtorEq, decide_true, decide_false, Nat.reduceLeDiff, Int.reduceNe, Int.reduceEq, ne_eq, not_false_eq_true, and_self, F141_Am45, hk', f0, f1, f7, f8, hlt, hil, hr', Nat.mul_one, k1, e2]
      refine ⟨⟨_, rfl, ?_⟩, fr.trans fr2⟩
      have : xs.any g = true := List.any_eq_true.2 ⟨x, List.mem_of_getElem? g1, hg⟩
      rw [this]; simp
    | false =>
      rw [hg] at e2
      have w : IntKind.i64.wrap ((i : Int) + 1) = ((i + 1 : Nat) : Int) := by rw [wrap64 (by omega) (by omega)]; omega
      simp (maxDischargeDepth := 30) only [AMS, AMH, ↓reduceIte, Nat.reduceLT, Nat.reduceEqDiff, Nat.reduceAdd, Nat.reduceMul, reduceCtorEq, decide_true, decide_false, Nat.reduceLeDiff, Int.reduceNe, Int.reduceEq, ne_eq, not_false_eq_true, and_self, F141_Am45, hk', f0, f1, f7, f8, hlt, hil, hr', Nat.mul_one, k1, e2, w]
      refine ih (xs.length - (i + 1)) _ _ (by omega) ?_
      refine ⟨i + 1, by omega, rfl, by simp [upd_at, f0], by simp [upd_at, f1], by simp [upd_at, f7], by simp [upd_at], fun j y hj hy => ?_, fr.trans fr2⟩
      by_cases hji : j < i
      · exact hall j y hji hy
      · have : j = i := by omega
        subst this
        rw [g1] at hy; simp at hy; subst hy; exact hg
  · have : i = xs.length := by omega
    subst this
    have hlt : decide ((xs.length : Int) < (xs.length : Int)) = false := by simp
    simp (maxDischargeDepth := 30) only [AMS, AMH, ↓reduceIte, Nat.reduceLT, Nat.reduceEqDiff, Nat.reduceAdd, Nat.reduceMul, reduceCtorEq, decide_true, decide_false, Nat.reduceLeDiff, Int.reduceNe, Int.reduceEq, ne_eq, not_false_eq_true, and_self, F141_Am45, hk', f0, f1, f7, f8, hlt]
    refine ⟨⟨_, rfl, ?_⟩, fr⟩
    have : xs.any g = false := by
      rw [List.any_eq_false]
      intro x hx
      obtain ⟨j, hj⟩ := List.mem_iff_getElem?.1 hx
      simp [hall j x (List.getElem?_eq_some_iff.1 hj).1 hj]
    rw [this]; simp

theorem contains_117 {h : Heap} (hk : HOK h) {v fv : Value} {xs : List Tar} (g : Tar → Bool) (hv : LS h v xs Tar.cells 5) (hl : xs.length ≤ 1000)
    (hcl : ∀ h1, Fr h h1 → ∀ x ∈ xs, ∃ h2, appV CC fv [.agg ⟨x.cells⟩] h1 = some (.ret (.bool (g x)) h2 none) ∧ Fr h1 h2) :
    CW CC 117 [v, fv] h fun r h' => r = .bool (xs.any g) ∧ Fr h h' := by
  obtain ⟨r, h1, e, ⟨i, rfl, hi⟩, fr⟩ := indexFunc_141 hk g hv hl hcl
  refine CW_in Tryz.f117 (by kernel_rfl) (by kernel_rfl) rfl rfl ?_
  simp only [Tryz.f117]
  simp (maxDischargeDepth := 30) only [AMS, AMH, ↓reduceIte, Nat.reduceLT, Nat.reduceEqDiff, Nat.reduceAdd, Nat.reduceMul, reduceCtorEq, decide_true, decide_false, Nat.reduceLeDiff, Int.reduceNe, Int.reduceEq, ne_eq, not_false_eq_true, and_self, L_nil, hk, e]
  exact ⟨by rw [hi], fr⟩
end Go.Am

/- The abstract machine, part 46: contracts: which sheets are as defined, as the program has it. -/
namespace Go.Am
open Go Go.Proofs
theorem F85_Am46 : type_of% (And.intro @fp_26_0 <| And.intro @fp_26_1 <| And.intro @fp_26_2 <| And.intro @ld_22 <| And.intro @ld_23 <| And.intro @ld_24 <| And.intro @len_22 <| And.intro @len_23 @len_24) := And.intro @fp_26_0 <| And.intro @fp_26_1 <| And.intro @fp_26_2 <| And.intro @ld_22 <| And.intro @ld_23 <| And.intro @ld_24 <| And.intro @len_22 <| And.intro @len_23 @len_24

theorem sheet_113 (x : Int) (h : Heap) : callF CC (Lim CC) 113 [.int .i64 x] h = some (.ret (.bool (!(inP x 0 100))) h none) := by
  refine CW.eq (CW_in Tryz.f113 (by kernel_rfl) (by kernel_rfl) rfl rfl ?_)
  simp only [Tryz.f113]
  simp (maxDischargeDepth := 30) only [AMS, AMH, ↓reduceIte, Nat.reduceLT, Nat.reduceEqDiff, Nat.reduceAdd, Nat.reduceMul, reduceCtorEq, decide_true, decide_false, Nat.reduceLeDiff, Int.reduceNe, Int.reduceEq, ne_eq, not_false_eq_true, and_self, L_nil, in_104]

theorem sheet_118 (t : Tar) (h : Heap) (hk : HOK h) : CW CC 118 [.agg ⟨t.cells⟩] h fun v h' => v = .bool (!t.ok) ∧ Fr h h' := by
  refine CW_in Tryz.f118 (by kernel_rfl) (by kernel_rfl) rfl rfl ?_
  simp only [Tryz.f118]
  obtain ⟨r, h2, e2, rfl, fr2⟩ := isTariff_88 t (h.alloc (.row t.cells 0 true)) (hk.alloc _)
  have k : take? t.cells 0 5 = some t.cells := rfl
  simp (maxDischargeDepth := 30) only [AMS, AMH, ↓reduceIte, Nat.reduceLT, Nat.reduceEqDiff, Nat.reduceAdd, Nat.reduceMul, reduceCtorEq, decide_true, decide_false, Nat.reduceLeDiff, Int.reduceNe, Int.reduceEq, ne_eq, not_false_eq_true, and_self, ld_41, hk, k, e2]
  exact ⟨trivial, ((Fr.refl hk).alloc _).trans fr2⟩

theorem sheet_115 {h : Heap} (hk : HOK h) (x : Board) (b : Nat) (p q r : Option Addr) (n1 n2 n3 c1 c2 c3 : Nat) (hr : rowAt h b = some [.slice p n1 c1, .slice q n2 c2, .slice r n3 c3]) (hn : n1 ≤ 100) :
    CW CC 115 [.agg ⟨x.cells⟩, .pointer (some ⟨b, 0, none⟩)] h fun v h' => v = .bool (!(x.ok n1)) ∧ Fr h h' := by
  refine CW_in Tryz.f115 (by kernel_rfl) (by kernel_rfl) rfl rfl ?_
  simp only [Tryz.f115]
  obtain ⟨r, h2, e2, rfl, fr2⟩ := isBoard_116 p q r n1 c1 n2 c2 n3 c3 x (h.alloc (.row x.cells 0 true)) (hk.alloc _) hn
  have k : take? x.cells 0 5 = some x.cells := rfl
  have hb := row_lt hk hr
  simp (maxDischargeDepth := 30) only [AMS, AMH, ↓reduceIte, Nat.reduceLT, Nat.reduceEqDiff, Nat.reduceAdd, Nat.reduceMul, reduceCtorEq, decide_true, decide_false, Nat.reduceLeDiff, Int.reduceNe, Int.reduceEq, ne_eq, not_false_eq_true, and_self, ld_26, ld_72, hk, k, hb, hr, e2]
  exact ⟨trivial, ((Fr.refl hk).alloc _).trans fr2⟩

def Sheet.ok (s : Sheet) : Bool := inP s.offs.length 1 3 && (inP s.boards.length 1 4 && (inP s.tars.length 1 3 && (!(s.offs.any fun x => !(inP x 0 100)) && (!(s.boards.any fun b => !(b.ok s.offs.length)) && !(s.tars.any fun t => !t.ok)))))

set_option maxRecDepth 10000 in
theorem isSheet_85 {h : Heap} (hk : HOK h) {a b c : Value} {s : Sheet} (hs : IsSheet h a b c s) :
    CW CC 85 [.agg ⟨[a, b, c]⟩] h fun r h' => r = .bool s.ok ∧ Fr h h' := by
  obtain ⟨p1, c1, rfl, _⟩ := hs.offs.open
  obtain ⟨p2, c2, rfl, _⟩ := hs.boards.open
  obtain ⟨p3, c3, rfl, _⟩ := hs.tars.open
  refine CW_in Tryz.f85 (by kernel_rfl) (by kernel_rfl) rfl rfl ?_
  simp only [Tryz.f85]
  cases i1 : inP s.offs.length 1 3 with
  | false =>
    simp (maxDischargeDepth := 30) only [AMS, AMH, ↓reduceIte, Nat.reduceLT, Nat.reduceEqDiff, Nat.reduceAdd, Nat.reduceMul, reduceCtorEq, decide_true, decide_false, Nat.reduceLeDiff, Int.reduceNe, Int.reduceEq, ne_eq, not_false_eq_true, and_self, F85_Am46, hk, in_104, i1]
    exact ⟨by simp [Sheet.ok, i1], (Fr.refl hk).alloc _⟩
  | true =>
  cases i2 : inP s.boards.length 1 4 with
  | false =>
    simp (maxDischargeDepth := 30) only [AMS, AMH, ↓reduceIte, Nat.reduceLT, Nat.reduceEqDiff, Nat.reduceAdd, Nat.reduceMul, reduceCtorEq, decide_true, decide_false, Nat.reduceLeDiff, Int.reduceNe, Int.reduceEq, ne_eq, not_false_eq_true, and_self, F85_Am46, hk, in_104, i1, i2]
    exact ⟨by simp [Sheet.ok, i1, i2], (Fr.refl hk).alloc _⟩
  | true =>
  cases i3 : inP s.tars.length 1 3 with
  | false =>
    simp (maxDischargeDepth := 30) only [AMS, AMH, ↓reduceIte, Nat.reduceLT, Nat.reduceEqDiff, Nat.reduceAdd, Nat.reduceMul, reduceCtorEq, decide_true, decide_false, Nat.reduceLeDiff, Int.reduceNe, Int.reduceEq, ne_eq, not_false_eq_true, and_self, F85_Am46, hk, in_104, i1, i2, i3]
    exact ⟨by simp [Sheet.ok, i1, i2, i3], (Fr.refl hk).alloc _⟩
  | true =>
  have j1 := of_decide_eq_true i1
  have j2 := of_decide_eq_true i2
  have j3 := of_decide_eq_true i3
  have f1 : Fr h (h.alloc (.row [.slice p1 s.offs.length c1, .slice p2 s.boards.length c2, .slice p3 s.tars.length c3] 0 true)) := (Fr.refl hk).alloc _
  have r1 : rowAt (h.alloc (.row [.slice p1 s.offs.length c1, .slice p2 s.boards.length c2, .slice p3 s.tars.length c3] 0 true)) h.next = some [.slice p1 s.offs.length c1, .slice p2 s.boards.length c2, .slice p3 s.tars.length c3] := rowAt_new _ _ _ _
  obtain ⟨_, h2, e2, rfl, fr2⟩ := contains_112 f1.ok (v := .slice p1 s.offs.length c1) (fv := .func (.func 113) #[] #[]) (xs := s.offs) (fun x => !(inP x 0 100)) (hs.offs.fr hk f1) (by omega) (fun h1 f x _ => ⟨h1, by rw [V_func, sheet_113], Fr.refl f.ok⟩)
  have f2 := f1.trans fr2
  have r2 := fr2.row' f1.ok r1
  cases i4 : (s.offs.any fun x => !(inP x 0 100)) with
  | true =>
    rw [i4] at e2
    simp (maxDischargeDepth := 30) only [AMS, AMH, ↓reduceIte, Nat.reduceLT, Nat.reduceEqDiff, Nat.reduceAdd, Nat.reduceMul, reduceCtorEq, decide_true, decide_false, Nat.reduceLeDiff, Int.reduceNe, Int.reduceEq, ne_eq, not_false_eq_true, and_self, F85_Am46, hk, in_104, i1, i2, i3, e2]
    exact ⟨by simp [Sheet.ok, i4], f2⟩
  | false =>
  rw [i4] at e2
  obtain ⟨_, h3, e3, rfl, fr3⟩ := contains_114 f2.ok (v := .slice p2 s.boards.length c2) (fv := .func (.func 115) ⟨[]⟩ ⟨[.pointer (some ⟨h.next, 0, none⟩)]⟩) (xs := s.boards) (fun b => !(b.ok s.offs.length)) (hs.boards.fr hk f2) (by omega) (fun h1 f x _ => by
    obtain ⟨_, h2', e', rfl, fr'⟩ := sheet_115 f.ok x h.next p1 p2 p3 _ _ _ c1 c2 c3 (f.row' f2.ok r2) (by omega)
    exact ⟨h2', by rw [V_clo]; exact e', fr'⟩)
  have f3 := f2.trans fr3
  have r3 := fr3.row' f2.ok r2
  cases i5 : (s.boards.any fun b => !(b.ok s.offs.length)) with
  | true =>
    rw [i5] at e3
    simp (maxDischargeDepth := 30) only [AMS, AMH, ↓reduceIte, Nat.reduceLT, Nat.reduceEqDiff, Nat.reduceAdd, Nat.reduceMul, reduceCtorEq, decide_true, decide_false, Nat.reduceLeDiff, Int.reduceNe, Int.reduceEq, ne_eq, not_false_eq_true, and_self, F85_Am46, hk, in_104, i1, i2, i3, e2, r2, e3]
    exact ⟨by simp [Sheet.ok, i5], f3⟩
  | false =>
  rw [i5] at e3
  obtain ⟨_, h4, e4, rfl, fr4⟩ := contains_117 f3.ok (v := .slice p3 s.tars.length c3) (fv := .func (.func 118) #[] #[]) (xs := s.tars) (fun t => !t.ok) (hs.tars.fr hk f3) (by omega) (fun h1 f x _ => by
    obtain ⟨_, h2', e', rfl, fr'⟩ := sheet_118 x h1 f.ok
    exact ⟨h2', by rw [V_func]; exact e', fr'⟩)
  have f4 := f3.trans fr4
  simp (maxDischargeDepth := 30) only [AMS, AMH, ↓reduceIte, Nat.reduceLT, Nat.reduceEqDiff, Nat.reduceAdd, Nat.reduceMul, reduceCtorEq, decide_true, decide_false, Nat.reduceLeDiff, Int.reduceNe, Int.reduceEq, ne_eq, not_false_eq_true, and_self, F85_Am46, hk, in_104, i1, i2, i3, e2, r2, e3, r3, e4]
  exact ⟨by simp [Sheet.ok, i1, i2, i3, i4, i5], f4⟩

end Go.Am

/- The abstract machine, part 47: contracts: which sheets are as defined, as the specification has it. -/
namespace Go.Am
open Go Go.Proofs
theorem F32_Am47 : type_of% (And.intro @fp_26_0 <| And.intro @fp_26_1 <| And.intro @fp_26_2 <| And.intro @fp_30_0 <| And.intro @fp_30_1 <| And.intro @fp_72_0 <| And.intro @fp_72_1 <| And.intro @fp_72_2 <| And.intro @fp_72_3 <| And.intro @ix_22 <| And.intro @ix_23 <| And.intro @ix_24 <| And.intro @ld_22 <| And.intro @ld_23 <| And.intro @ld_24 <| And.intro @ld_3 <| And.intro @ld_41 <| And.intro @ld_72 <| And.intro @len_22 <| And.intro @len_23 <| And.intro @len_24 <| And.intro @part_3 <| And.intro @part_41 <| And.intro @part_72 <| And.intro @size_22 <| And.intro @size_23 <| And.intro @size_24 <| And.intro @size_3 <| And.intro @size_41 <| And.intro @size_72 <| And.intro @und_22 <| And.intro @und_23 <| And.intro @und_24 <| And.intro @zero_22 <| And.intro @zero_23 <| And.intro @zero_24 @zero_72) := And.intro @fp_26_0 <| And.intro @fp_26_1 <| And.intro @fp_26_2 <| And.intro @fp_30_0 <| And.intro @fp_30_1 <| And.intro @fp_72_0 <| And.intro @fp_72_1 <| And.intro @fp_72_2 <| And.intro @fp_72_3 <| And.intro @ix_22 <| And.intro @ix_23 <| And.intro @ix_24 <| And.intro @ld_22 <| And.intro @ld_23 <| And.intro @ld_24 <| And.intro @ld_3 <| And.intro @ld_41 <| And.intro @ld_72 <| And.intro @len_22 <| And.intro @len_23 <| And.intro @len_24 <| And.intro @part_3 <| And.intro @part_41 <| And.intro @part_72 <| And.intro @size_22 <| And.intro @size_23 <| And.intro @size_24 <| And.intro @size_3 <| And.intro @size_41 <| And.intro @size_72 <| And.intro @und_22 <| And.intro @und_23 <| And.intro @und_24 <| And.intro @zero_22 <| And.intro @zero_23 <| And.intro @zero_24 @zero_72

theorem Board.ok_ref (L F lo hi ow : Int) (n : Nat) (m : Int) (hm : m = if lo + 6 < 40 then lo + 6 else 40) : (inP L 0 60 && (inP F 0 40 && (inP lo 0 40 && (inP hi lo m && inP ow 0 (n - 1))))) = Board.ok n ⟨L, F, lo, hi, ow⟩ := by
  subst hm
  simp only [Board.ok, inP]
  rw [Bool.eq_iff_iff]
  simp
  split <;> omega
theorem min_two (k : IntKind) (x y : Int) : foldV min2 [.int k y] (.int k x) = some (.int k (if y < x then y else x)) := rfl
theorem i_next {i n : Nat} (h : i < n) (hn : n ≤ 1000) : IntKind.i64.wrap ((i : Int) + 1) = ((i + 1 : Nat) : Int) := by rw [wrap64 (by omega) (by omega)]; omega
theorem lt_t {i n : Nat} (h : i < n) : decide ((i : Int) < (n : Int)) = true := by simp; omega
theorem lt_f (n : Nat) : decide ((n : Int) < (n : Int)) = false := by simp
theorem all_step {α : Type} {xs : List α} {p : α → Bool} {i : Nat} {x : α} (hx : xs[i]? = some x) (h : ∀ (j : Nat) y, j < i → xs[j]? = some y → p y = true) (hp : p x = true) : ∀ (j : Nat) y, j < i + 1 → xs[j]? = some y → p y = true := by
  intro j y hj hy
  by_cases hji : j < i
  · exact h j y hji hy
  · have : j = i := by omega
    subst this
    rw [hx] at hy; simp at hy; subst hy; exact hp
theorem all_end {α : Type} {xs : List α} {p : α → Bool} (h : ∀ (j : Nat) y, j < xs.length → xs[j]? = some y → p y = true) : xs.any (fun x => !(p x)) = false := by
  rw [List.any_eq_false]
  intro x hx
  obtain ⟨j, hj⟩ := List.mem_iff_getElem?.1 hx
  simp [h j x (List.getElem?_eq_some_iff.1 hj).1 hj]
theorem any_hit {α : Type} {xs : List α} {p : α → Bool} {i : Nat} {x : α} (hx : xs[i]? = some x) (hp : p x = false) : xs.any (fun x => !(p x)) = true :=
  List.any_eq_true.2 ⟨x, List.mem_of_getElem? hx, by simp [hp]⟩

set_option maxRecDepth 10000 in
set_option maxHeartbeats 1000000 in
theorem sheet_32 {h : Heap} (hk : HOK h) {a b c : Value} {s : Sheet} (hs : IsSheet h a b c s) :
    CW CC 32 [.agg ⟨[a, b, c]⟩] h fun r h' => r = .bool s.ok ∧ Fr h h' := by
  obtain ⟨p1, c1, rfl, x1⟩ := hs.offs.open
  obtain ⟨p2, c2, rfl, x2⟩ := hs.boards.open
  obtain ⟨p3, c3, rfl, x3⟩ := hs.tars.open
  refine CW_in Tryz.f32 (by kernel_rfl) (by kernel_rfl) rfl rfl ?_
  simp only [Tryz.f32]
  cases i1 : inP s.offs.length 1 3 with
  | false =>
    simp (maxDischargeDepth := 30) only [AMS, AMH, ↓reduceIte, Nat.reduceLT, Nat.reduceEqDiff, Nat.reduceAdd, Nat.reduceMul, reduceCtorEq, decide_true, decide_false, Nat.reduceLeDiff, Int.reduceNe, Int.reduceEq, ne_eq, not_false_eq_true, and_self, F32_Am47, hk, in_76, i1]
    exact ⟨by simp [Sheet.ok, i1], (Fr.refl hk).alloc _⟩
  | true =>
  cases i2 : inP s.boards.length 1 4 with
  | false =>
    simp (maxDischargeDepth := 30) only [AMS, AMH, ↓reduceIte, Nat.reduceLT, Nat.reduceEqDiff, Nat.reduceAdd, Nat.reduceMul, reduceCtorEq, decide_true, decide_false, Nat.reduceLeDiff, Int.reduceNe, Int.reduceEq, ne_eq, not_false_eq_true, and_self, F32_Am47, hk, in_76, i1, i2]
    exact ⟨by simp [Sheet.ok, i1, i2], (Fr.refl hk).alloc _⟩
  | true =>
  cases i3 : inP s.tars.length 1 3 with
  | false =>
    simp (maxDischargeDepth := 30) only [AMS, AMH, ↓reduceIte, Nat.reduceLT, Nat.reduceEqDiff, Nat.reduceAdd, Nat.reduceMul, reduceCtorEq, decide_true, decide_false, Nat.reduceLeDiff, Int.reduceNe, Int.reduceEq, ne_eq, not_false_eq_true, and_self, F32_Am47, hk, in_76, i1, i2, i3]
    exact ⟨by simp [Sheet.ok, i1, i2, i3], (Fr.refl hk).alloc _⟩
  | true =>
  have j1 := of_decide_eq_true i1
  have j2 := of_decide_eq_true i2
  have j3 := of_decide_eq_true i3
  simp (maxDischargeDepth := 30) only [AMS, AMH, ↓reduceIte, Nat.reduceLT, Nat.reduceEqDiff, Nat.reduceAdd, Nat.reduceMul, reduceCtorEq, decide_true, decide_false, Nat.reduceLeDiff, Int.reduceNe, Int.reduceEq, ne_eq, not_false_eq_true, and_self, F32_Am47, hk, in_76, i1, i2, i3]
  have f1 : Fr h (h.alloc (.row [.slice p1 s.offs.length c1, .slice p2 s.boards.length c2, .slice p3 s.tars.length c3] 0 true)) := (Fr.refl hk).alloc _
  have r1 : rowAt (h.alloc (.row [.slice p1 s.offs.length c1, .slice p2 s.boards.length c2, .slice p3 s.tars.length c3] 0 true)) h.next = some [.slice p1 s.offs.length c1, .slice p2 s.boards.length c2, .slice p3 s.tars.length c3] := rowAt_new _ _ _ _
  have m1 : h.next < (h.alloc (.row [.slice p1 s.offs.length c1, .slice p2 s.boards.length c2, .slice p3 s.tars.length c3] 0 true)).next := by simp
  generalize h.alloc (.row [.slice p1 s.offs.length c1, .slice p2 s.boards.length c2, .slice p3 s.tars.length c3] 0 true) = h1 at f1 r1 m1 ⊢
  -- the discounts
  refine W_loop s.offs.length (fun m f h' => ∃ i, i ≤ s.offs.length ∧ m = s.offs.length - i ∧ f 1 = .pointer (some ⟨h.next, 0, none⟩) ∧ f 3 = .int .i64 i ∧ (∀ (j : Nat) x, j < i → s.offs[j]? = some x → inP x 0 100 = true) ∧ h' = h1)
    ⟨0, by omega, by omega, by simp [upd_at], by simp [upd_at], fun j x hj => by omega, rfl⟩ ?_
  rintro m f h' ⟨i, hi, rfl, g1, g3, hall, rfl⟩ ih
  by_cases hil : i < s.offs.length
  · obtain ⟨x, gx⟩ : ∃ x, s.offs[i]? = some x := ⟨_, List.getElem?_eq_getElem hil⟩
    rcases x1 with hx | ⟨b1, o1, sp1, row1, rfl, rr, x1⟩
    · rw [hx] at hil; simp at hil
    have k1 : row1[o1 + i]? = some (.int .i64 x) := by simpa [ints] using (x1 _ _ gx).2 0 (by omega)
    have rr' := f1.row' hk rr
    cases hin : inP x 0 100 with
    | false =>
      simp (maxDischargeDepth := 30) only [AMS, AMH, ↓reduceIte, Nat.reduceLT, Nat.reduceEqDiff, Nat.reduceAdd, Nat.reduceMul, reduceCtorEq, decide_true, decide_false, Nat.reduceLeDiff, Int.reduceNe, Int.reduceEq, ne_eq, not_false_eq_true, and_self, F32_Am47, f1.ok, r1, g1, g3, lt_t hil, hil, rr', Nat.mul_one, k1, in_76, hin]
      exact ⟨by rw [Sheet.ok, any_hit (p := fun x => inP x 0 100) gx hin]; simp, f1⟩
    | true =>
      simp (maxDischargeDepth := 30) only [AMS, AMH, ↓reduceIte, Nat.reduceLT, Nat.reduceEqDiff, Nat.reduceAdd, Nat.reduceMul, reduceCtorEq, decide_true, decide_false, Nat.reduceLeDiff, Int.reduceNe, Int.reduceEq, ne_eq, not_false_eq_true, and_self, F32_Am47, f1.ok, r1, g1, g3, lt_t hil, hil, rr', Nat.mul_one, k1, in_76, hin, i_next hil (by omega)]
      refine ih (s.offs.length - (i + 1)) _ _ (by omega) ?_
      exact ⟨i + 1, by omega, rfl, by simp [upd_at, g1], by simp [upd_at], all_step gx hall hin, rfl⟩
  have hil : i = s.offs.length := by omega
  subst hil
  have a1 := all_end hall
  simp (maxDischargeDepth := 30) only [AMS, AMH, ↓reduceIte, Nat.reduceLT, Nat.reduceEqDiff, Nat.reduceAdd, Nat.reduceMul, reduceCtorEq, decide_true, decide_false, Nat.reduceLeDiff, Int.reduceNe, Int.reduceEq, ne_eq, not_false_eq_true, and_self, F32_Am47, f1.ok, r1, g1, g3, lt_f]
  -- the boards
  refine W_loop s.boards.length (fun m f h' => ∃ i, i ≤ s.boards.length ∧ m = s.boards.length - i ∧ f 1 = .pointer (some ⟨h.next, 0, none⟩) ∧ f 4 = .int .i64 i ∧ (∀ (j : Nat) x, j < i → s.boards[j]? = some x → x.ok s.offs.length = true) ∧ Fr h h' ∧ rowAt h' h.next = some [.slice p1 s.offs.length c1, .slice p2 s.boards.length c2, .slice p3 s.tars.length c3] ∧ h.next < h'.next)
    ⟨0, by omega, by omega, by simp [upd_at, g1], by simp [upd_at], fun j x hj => by omega, f1, r1, m1⟩ ?_
  clear g1 g3 ih hall
  rintro m f h' ⟨i, hi, rfl, g1, g4, hall, f2, r2, m2⟩ ih
  have k2 := f2.ok
  by_cases hil : i < s.boards.length
  · obtain ⟨x, gx⟩ : ∃ x, s.boards[i]? = some x := ⟨_, List.getElem?_eq_getElem hil⟩
    rcases x2 with hx | ⟨b2, o2, sp2, row2, rfl, rr, x2⟩
    · rw [hx] at hil; simp at hil
    obtain ⟨L, F, lo, hi', ow⟩ := x
    have e1 : take? row2 (o2 + i * 5) 5 = some [.int .i64 L, .int .i64 F, .int .i64 lo, .int .i64 hi', .int .i64 ow] := (x2 _ _ gx).1
    have rr' := f2.row' hk rr
    have w2 : IntKind.i64.wrap ((s.offs.length : Int) - 1) = s.offs.length - 1 := wrap64 (by omega) (by omega)
    have fin : ∀ x, Fr h ((h'.alloc x).set h'.next (.row [.int .i64 L, .int .i64 F, .int .i64 lo, .int .i64 hi', .int .i64 ow] 0 true)) := fun x => (f2.alloc x).set (by omega) (by simp) _
    have bad : ∀ r, r = false → Board.ok s.offs.length ⟨L, F, lo, hi', ow⟩ = r → s.ok = false := by
      rintro _ rfl hb
      rw [Sheet.ok, any_hit (p := fun b : Board => b.ok s.offs.length) gx hb]; simp
    have go := fun m hm => Board.ok_ref L F lo hi' ow s.offs.length m hm
    cases q1 : inP L 0 60 with
    | false =>
      simp (maxDischargeDepth := 30) only [AMS, AMH, ↓reduceIte, Nat.reduceLT, Nat.reduceEqDiff, Nat.reduceAdd, Nat.reduceMul, reduceCtorEq, decide_true, decide_false, Nat.reduceLeDiff, Int.reduceNe, Int.reduceEq, ne_eq, not_false_eq_true, and_self, F32_Am47, k2, r2, m2, g1, g4, lt_t hil, hil, rr', e1, in_76, q1]
      exact ⟨by rw [bad _ rfl (by rw [← go _ rfl, q1]; rfl)], fin _⟩
    | true =>
    cases q2 : inP F 0 40 with
    | false =>
      simp (maxDischargeDepth := 30) only [AMS, AMH, ↓reduceIte, Nat.reduceLT, Nat.reduceEqDiff, Nat.reduceAdd, Nat.reduceMul, reduceCtorEq, decide_true, decide_false, Nat.reduceLeDiff, Int.reduceNe, Int.reduceEq, ne_eq, not_false_eq_true, and_self, F32_Am47, k2, r2, m2, g1, g4, lt_t hil, hil, rr', e1, in_76, q1, q2]
      exact ⟨by rw [bad _ rfl (by rw [← go _ rfl, q1, q2]; rfl)], fin _⟩
    | true =>
    cases q3 : inP lo 0 40 with
    | false =>
      simp (maxDischargeDepth := 30) only [AMS, AMH, ↓reduceIte, Nat.reduceLT, Nat.reduceEqDiff, Nat.reduceAdd, Nat.reduceMul, reduceCtorEq, decide_true, decide_false, Nat.reduceLeDiff, Int.reduceNe, Int.reduceEq, ne_eq, not_false_eq_true, and_self, F32_Am47, k2, r2, m2, g1, g4, lt_t hil, hil, rr', e1, in_76, q1, q2, q3]
      exact ⟨by rw [bad _ rfl (by rw [← go _ rfl, q1, q2, q3]; rfl)], fin _⟩
    | true =>
    have z3 := of_decide_eq_true q3
    have w1 : IntKind.i64.wrap (lo + 6) = lo + 6 := wrap64 (by omega) (by omega)
    cases q4 : inP hi' lo (if lo + 6 < 40 then lo + 6 else 40) with
    | false =>
      simp (maxDischargeDepth := 30) only [AMS, AMH, ↓reduceIte, Nat.reduceLT, Nat.reduceEqDiff, Nat.reduceAdd, Nat.reduceMul, reduceCtorEq, decide_true, decide_false, Nat.reduceLeDiff, Int.reduceNe, Int.reduceEq, ne_eq, not_false_eq_true, and_self, F32_Am47, k2, r2, m2, g1, g4, lt_t hil, hil, rr', e1, in_76, q1, q2, q3, w1, min_two, q4]
      exact ⟨by rw [bad _ rfl (by rw [← go _ rfl, q1, q2, q3, q4]; rfl)], fin _⟩
    | true =>
    cases q5 : inP ow 0 (s.offs.length - 1) with
    | false =>
      simp (maxDischargeDepth := 30) only [AMS, AMH, ↓reduceIte, Nat.reduceLT, Nat.reduceEqDiff, Nat.reduceAdd, Nat.reduceMul, reduceCtorEq, decide_true, decide_false, Nat.reduceLeDiff, Int.reduceNe, Int.reduceEq, ne_eq, not_false_eq_true, and_self, F32_Am47, k2, r2, m2, g1, g4, lt_t hil, hil, rr', e1, in_76, q1, q2, q3, w1, min_two, q4, w2, q5]
      exact ⟨by rw [bad _ rfl (by rw [← go _ rfl, q1, q2, q3, q4, q5]; rfl)], fin _⟩
    | true =>
      simp (maxDischargeDepth := 30) only [AMS, AMH, ↓reduceIte, Nat.reduceLT, Nat.reduceEqDiff, Nat.reduceAdd, Nat.reduceMul, reduceCtorEq, decide_true, decide_false, Nat.reduceLeDiff, Int.reduceNe, Int.reduceEq, ne_eq, not_false_eq_true, and_self, F32_Am47, k2, r2, m2, g1, g4, lt_t hil, hil, rr', e1, in_76, q1, q2, q3, w1, min_two, q4, w2, q5, i_next hil (by omega)]
      refine ih (s.boards.length - (i + 1)) _ _ (by omega) ?_
      exact ⟨i + 1, by omega, rfl, by simp [upd_at, g1], by simp [upd_at], all_step gx hall (by rw [← go _ rfl, q1, q2, q3, q4, q5]; rfl), fin _, by rw [rowAt_set_lt _ m2, rowAt_old _ m2]; exact r2, by simp; omega⟩
  have hil : i = s.boards.length := by omega
  subst hil
  have a2 := all_end hall
  simp (maxDischargeDepth := 30) only [AMS, AMH, ↓reduceIte, Nat.reduceLT, Nat.reduceEqDiff, Nat.reduceAdd, Nat.reduceMul, reduceCtorEq, decide_true, decide_false, Nat.reduceLeDiff, Int.reduceNe, Int.reduceEq, ne_eq, not_false_eq_true, and_self, F32_Am47, k2, r2, g1, g4, lt_f]
  -- the tariffs
  refine W_loop s.tars.length (fun m f h' => ∃ i, i ≤ s.tars.length ∧ m = s.tars.length - i ∧ f 1 = .pointer (some ⟨h.next, 0, none⟩) ∧ f 6 = .int .i64 i ∧ (∀ (j : Nat) x, j < i → s.tars[j]? = some x → x.ok = true) ∧ Fr h h' ∧ rowAt h' h.next = some [.slice p1 s.offs.length c1, .slice p2 s.boards.length c2, .slice p3 s.tars.length c3])
    ⟨0, by omega, by omega, by simp [upd_at, g1], by simp [upd_at], fun j x hj => by omega, f2, r2⟩ ?_
  clear g1 g4 ih hall
  rintro m f h3 ⟨i, hi, rfl, g1, g6, hall, f3, r3⟩ ih
  have k3 := f3.ok
  by_cases hil : i < s.tars.length
  · obtain ⟨x, gx⟩ : ∃ x, s.tars[i]? = some x := ⟨_, List.getElem?_eq_getElem hil⟩
    rcases x3 with hx | ⟨b3, o3, sp3, row3, rfl, rr, x3⟩
    · rw [hx] at hil; simp at hil
    have e1 : take? row3 (o3 + i * 5) 5 = some x.cells := (x3 _ _ gx).1
    have rr' := f3.row' hk rr
    obtain ⟨_, h4, e4, rfl, fr4⟩ := fine_77 x h3 k3
    cases hx : x.ok with
    | false =>
      rw [hx] at e4
      simp (maxDischargeDepth := 30) only [AMS, AMH, ↓reduceIte, Nat.reduceLT, Nat.reduceEqDiff, Nat.reduceAdd, Nat.reduceMul, reduceCtorEq, decide_true, decide_false, Nat.reduceLeDiff, Int.reduceNe, Int.reduceEq, ne_eq, not_false_eq_true, and_self, F32_Am47, k3, r3, g1, g6, lt_t hil, hil, rr', e1, e4]
      exact ⟨by rw [Sheet.ok, any_hit (p := fun t : Tar => t.ok) gx hx]; simp, f3.trans fr4⟩
    | true =>
      rw [hx] at e4
      simp (maxDischargeDepth := 30) only [AMS, AMH, ↓reduceIte, Nat.reduceLT, Nat.reduceEqDiff, Nat.reduceAdd, Nat.reduceMul, reduceCtorEq, decide_true, decide_false, Nat.reduceLeDiff, Int.reduceNe, Int.reduceEq, ne_eq, not_false_eq_true, and_self, F32_Am47, k3, r3, g1, g6, lt_t hil, hil, rr', e1, e4, i_next hil (by omega)]
      refine ih (s.tars.length - (i + 1)) _ _ (by omega) ?_
      exact ⟨i + 1, by omega, rfl, by simp [upd_at, g1], by simp [upd_at], all_step gx hall hx, f3.trans fr4, fr4.row' k3 r3⟩
  have hil : i = s.tars.length := by omega
  subst hil
  have a3 := all_end hall
  simp (maxDischargeDepth := 30) only [AMS, AMH, ↓reduceIte, Nat.reduceLT, Nat.reduceEqDiff, Nat.reduceAdd, Nat.reduceMul, reduceCtorEq, decide_true, decide_false, Nat.reduceLeDiff, Int.reduceNe, Int.reduceEq, ne_eq, not_false_eq_true, and_self, F32_Am47, k3, r3, g1, g6, lt_f]
  exact ⟨by rw [Sheet.ok, i1, i2, i3, a1, a2, a3]; rfl, f3⟩
end Go.Am
