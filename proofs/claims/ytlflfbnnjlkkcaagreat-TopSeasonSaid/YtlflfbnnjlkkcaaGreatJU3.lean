/- Parts U3, U4, U5, U6 of the abstract machine over this program, joined: what each part says stands at its head. -/
import Derived.Test.YtlflfbnnjlkkcaaGreatJT85
set_option linter.unusedSimpArgs false
set_option linter.unusedVariables false
set_option linter.defProp false
namespace Go.Am
open Go Go.Proofs
def F163_U3 := A2 @ix_22 <| A2 @ld_3 <| A2 @len_22 <| A2 @part_3 <| A2 @size_22 <| A2 @size_3 <| A2 @und_22 @zero_22
def F292_U3 := A2 @fp_25_0 <| A2 @fp_25_1 <| A2 @fp_47_1 <| A2 @fp_89_2 <| A2 @ix_22 <| A2 @ix_44 <| A2 @ld_3 <| A2 @ld_44 <| A2 @len_22 <| A2 @len_44 <| A2 @part_3 <| A2 @part_89 <| A2 @size_22 <| A2 @size_3 <| A2 @size_44 <| A2 @size_89 <| A2 @und_22 <| A2 @und_44 <| A2 @zero_22 @zero_44
set_option maxRecDepth 10000 in
theorem sum_105 (v : Value) (l : List Int) (h : Heap) (hv : LS h v l ints 1) (hl : l.length ≤ 1000) (hb : ∀ x ∈ l, 0 ≤ x ∧ x ≤ 1000000000000) : CW CC 163 [v] h fun r h' => r = .int .i64 (sumI l) ∧ h' = h := by
  obtain ⟨p, c, rfl, hx⟩ := hv.open
  refine CW_in Tryz.f163 (by kernel_rfl) (by kernel_rfl) rfl rfl ?_
  simp only [Tryz.f163]
  simp (maxDischargeDepth := 30) only [AA, ↓reduceIte, Nat.reduceLT, Nat.reduceEqDiff, Nat.reduceAdd, Nat.reduceMul, reduceCtorEq, Nat.reduceLeDiff, Int.reduceNe, Int.reduceEq, F163_U3]
  refine W_loop l.length (fun m f h' => ∃ pre rest, l = pre ++ rest ∧ m = rest.length ∧ f 6 = .slice p l.length c ∧ f 7 = .int .i64 l.length ∧ f 8 = .int .i64 pre.length ∧ f 3 = .int .i64 (sumI pre) ∧ h' = h) ⟨[], l, by simp, by simp, by simp [upd_at, argsFn_at], by simp [upd_at], by simp [upd_at], by simp [upd_at, sumI], rfl⟩ ?_
  rintro m f h' ⟨pre, rest, e, rfl, h6, h7, h8, h3, rfl⟩ ih
  cases rest with
  | nil =>
    have hlt : decide ((pre.length : Int) < (l.length : Int)) = false := by rw [e]; simp
    have e' : l = pre := by simpa using e
    simp (maxDischargeDepth := 30) only [AA, ↓reduceIte, Nat.reduceLT, Nat.reduceEqDiff, Nat.reduceAdd, Nat.reduceMul, reduceCtorEq, Nat.reduceLeDiff, Int.reduceNe, Int.reduceEq, F163_U3, h6, h7, h8, h3, hlt]
    exact ⟨by rw [e'], trivial⟩
  | cons x rest =>
    have hlt : decide ((pre.length : Int) < (l.length : Int)) = true := by rw [e]; simp; omega
    have hlt' : pre.length < l.length := by rw [e]; simp
    have hget : l[pre.length]? = some x := by rw [e]; exact mid_get _ _ _
    rcases hx with hx | ⟨b, o, sp, row, rfl, hr, hx⟩
    · rw [hx] at hlt'; simp at hlt'
    have hcell : row[o + pre.length]? = some (.int .i64 x) := by
      have := (hx _ _ hget).2 0 (by omega)
      simpa [ints] using this
    have hb1 := sumI_bound (B := 1000000000000) (l := pre) fun y hy => hb y (by rw [e]; simp [hy])
    have hbx := hb x (by rw [e]; simp)
    have hpl : pre.length ≤ 1000 := by omega
    simp (maxDischargeDepth := 30) only [AA, ↓reduceIte, Nat.reduceLT, Nat.reduceEqDiff, Nat.reduceAdd, Nat.reduceMul, reduceCtorEq, Nat.reduceLeDiff, Int.reduceNe, Int.reduceEq, F163_U3, h6, h7, h8, h3, hlt, hlt', Nat.mul_one, hr, hcell, wrap64 (n := sumI pre + x) (by omega) (by omega), wrap64 (n := (pre.length : Int) + 1) (by omega) (by omega)]
    refine ih rest.length _ _ (by simp) ?_
    exact ⟨pre ++ [x], rest, by rw [e]; simp, rfl, by simp [upd_at, h6], by simp [upd_at, h7], by simp [upd_at], by simp [upd_at, sumI_app], rfl⟩
def okHour (p : Int × Board) : Bool := inP p.1 p.2.lo p.2.hi
def hoursOK (bs : List Board) (l : List Int) : Bool := decide (l.length = bs.length) && (l.zip bs).all okHour
theorem hoursOK_long {bs : List Board} {l : List Int} (h : l.length ≠ bs.length) : hoursOK bs l = false := by simp [hoursOK, h]
theorem hoursOK_bad {bs : List Board} {l : List Int} {i : Nat} {x : Int} {b : Board} (h1 : l[i]? = some x) (h2 : bs[i]? = some b) (hb : okHour (x, b) = false) : hoursOK bs l = false := by
  have : (x, b) ∈ l.zip bs := by
    refine List.mem_of_getElem? (i := i) ?_
    rw [List.getElem?_zip_eq_some]; exact ⟨h1, h2⟩
  unfold hoursOK
  rw [Bool.and_eq_false_iff]
  right
  rw [List.all_eq_false]
  exact ⟨_, this, by simp [hb]⟩
theorem hoursOK_all {bs : List Board} {l : List Int} (h : l.length = bs.length) (ha : ∀ (i : Nat) x b, l[i]? = some x → bs[i]? = some b → okHour (x, b) = true) : hoursOK bs l = true := by
  unfold hoursOK
  rw [Bool.and_eq_true]
  refine ⟨by simp [h], List.all_eq_true.2 fun p hp => ?_⟩
  obtain ⟨i, hi⟩ := List.mem_iff_getElem?.1 hp
  obtain ⟨x, b⟩ := p
  rw [List.getElem?_zip_eq_some] at hi
  exact ha i x b hi.1 hi.2
set_option maxRecDepth 10000 in
theorem areHours_74 {h : Heap} (hk : HOK h) {a b c v : Value} {s : Sheet} {l : List Int} (hs : IsSheet h a b c s) (hv : LS h v l ints 1) (hl : l.length ≤ 1000) (hb : s.boards.length ≤ 1000) :
    CW CC 292 [.agg ⟨[a, b, c]⟩, v] h fun r h' => r = .bool (hoursOK s.boards l) ∧ Fr h h' := by
  obtain ⟨p1, c1, rfl, _⟩ := hs.offs.open
  obtain ⟨p2, c2, rfl, x2⟩ := hs.boards.open
  obtain ⟨p3, c3, rfl, _⟩ := hs.tars.open
  obtain ⟨p4, c4, rfl, x4⟩ := hv.open
  refine CW_in Tryz.f292 (by kernel_rfl) (by kernel_rfl) rfl rfl ?_
  simp only [Tryz.f292]
  simp (maxDischargeDepth := 30) only [AA, ↓reduceIte, Nat.reduceLT, Nat.reduceEqDiff, Nat.reduceAdd, Nat.reduceMul, reduceCtorEq, Nat.reduceLeDiff, Int.reduceNe, Int.reduceEq, F292_U3, hk]
  refine W_loop l.length (fun m f h' => ∃ i, i ≤ l.length ∧ m = l.length - i ∧ f 1 = .slice p4 l.length c4 ∧ f 2 = .pointer (some ⟨h.next, 0, none⟩) ∧ f 7 = .slice p4 l.length c4 ∧ f 8 = .int .i64 l.length ∧ f 9 = .int .i64 i ∧ (∀ (j : Nat) x, j < i → l[j]? = some x → ∃ b, s.boards[j]? = some b ∧ okHour (x, b) = true) ∧ h' = h.alloc (.row [.slice p1 s.offs.length c1, .slice p2 s.boards.length c2, .slice p3 s.tars.length c3] 0 true))
    ⟨0, by omega, by omega, by simp [upd_at, argsFn_at], by simp [upd_at], by simp [upd_at, argsFn_at], by simp [upd_at], by simp [upd_at], fun j x hj => by omega, rfl⟩ ?_
  rintro m f h' ⟨i, hi, rfl, f1, f2, f7, f8, f9, hall, rfl⟩ ih
  by_cases hil : i < l.length
  · have hlt : decide ((i : Int) < (l.length : Int)) = true := by simp; omega
    obtain ⟨x, g1⟩ : ∃ x, l[i]? = some x := ⟨_, List.getElem?_eq_getElem hil⟩
    rcases x4 with hx | ⟨b4, o4, sp4, row4, rfl, r4, x4⟩
    · rw [hx] at hil; simp at hil
    have k1 : row4[o4 + i]? = some (.int .i64 x) := by simpa [ints] using (x4 _ _ g1).2 0 (by omega)
    have n4 := row_lt hk r4
    simp (maxDischargeDepth := 30) only [AA, ↓reduceIte, Nat.reduceLT, Nat.reduceEqDiff, Nat.reduceAdd, Nat.reduceMul, reduceCtorEq, Nat.reduceLeDiff, Int.reduceNe, Int.reduceEq, F292_U3, hk, f1, f2, f7, f8, f9, hlt, hil, n4, r4, Nat.mul_one, k1]
    refine W_draw [(true, 0), (true, 1), (true, 2), (true, 3), (true, 4), (true, 5), (true, 6), (true, 7), (true, 8), (true, 9), (true, 10), (true, 11), (true, 12), (true, 13), (true, 14), (true, 15), (true, 16), (true, 17), (true, 18), (true, 19), (true, 20), (true, 21), (true, 22), (true, 23)] (by kernel_rfl) ?_
    by_cases hib : i < s.boards.length
    · obtain ⟨bd, g2⟩ : ∃ b, s.boards[i]? = some b := ⟨_, List.getElem?_eq_getElem hib⟩
      have hge : decide ((i : Int) ≥ (s.boards.length : Int)) = false := by simp; omega
      rcases x2 with hx | ⟨b2, o2, sp2, row2, rfl, r2, x2⟩
      · rw [hx] at hib; simp at hib
      have k2 : row2[o2 + i * 5 + 2]? = some (.int .i64 bd.lo) := by simpa [Board.cells] using (x2 _ _ g2).2 2 (by omega)
      have k3 : row2[o2 + i * 5 + 2 + 1]? = some (.int .i64 bd.hi) := by simpa [Board.cells] using (x2 _ _ g2).2 3 (by omega)
      have n2 := row_lt hk r2
      cases hin : inP x bd.lo bd.hi with
      | false =>
        simp (maxDischargeDepth := 30) only [AA, ↓reduceIte, Nat.reduceLT, Nat.reduceEqDiff, Nat.reduceAdd, Nat.reduceMul, reduceCtorEq, Nat.reduceLeDiff, Int.reduceNe, Int.reduceEq, F292_U3, hk, f1, f2, f7, f8, f9, hge, hib, n4, n2, r4, r2, Nat.mul_one, k1, k2, k3, in_104, hin]
        exact ⟨by rw [hoursOK_bad g1 g2 hin], (Fr.refl hk).alloc _⟩
      | true =>
        have w : IntKind.i64.wrap ((i : Int) + 1) = ((i + 1 : Nat) : Int) := by rw [wrap64 (by omega) (by omega)]; omega
        simp (maxDischargeDepth := 30) only [AA, ↓reduceIte, Nat.reduceLT, Nat.reduceEqDiff, Nat.reduceAdd, Nat.reduceMul, reduceCtorEq, Nat.reduceLeDiff, Int.reduceNe, Int.reduceEq, F292_U3, hk, f1, f2, f7, f8, f9, hge, hib, n4, n2, r4, r2, Nat.mul_one, k1, k2, k3, in_104, hin, w]
        refine ih (l.length - (i + 1)) _ _ (by omega) ?_
        refine ⟨i + 1, by omega, rfl, by simp [upd_at, f1], by simp [upd_at, f2], by simp [upd_at, f7], by simp [upd_at, f8], by simp [upd_at], fun j y hj hy => ?_, rfl⟩
        by_cases hji : j < i
        · exact hall j y hji hy
        · have : j = i := by omega
          subst this
          rw [g1] at hy; simp at hy; subst hy
          exact ⟨bd, g2, hin⟩
    · have hge : decide ((i : Int) ≥ (s.boards.length : Int)) = true := by simp; omega
      simp (maxDischargeDepth := 30) only [AA, ↓reduceIte, Nat.reduceLT, Nat.reduceEqDiff, Nat.reduceAdd, Nat.reduceMul, reduceCtorEq, Nat.reduceLeDiff, Int.reduceNe, Int.reduceEq, F292_U3, hk, f1, f2, f7, f8, f9, hge, n4]
      exact ⟨by rw [hoursOK_long (by omega)], (Fr.refl hk).alloc _⟩
  · have : i = l.length := by omega
    subst this
    have hlt : decide ((l.length : Int) < (l.length : Int)) = false := by simp
    simp (maxDischargeDepth := 30) only [AA, ↓reduceIte, Nat.reduceLT, Nat.reduceEqDiff, Nat.reduceAdd, Nat.reduceMul, reduceCtorEq, Nat.reduceLeDiff, Int.reduceNe, Int.reduceEq, F292_U3, hk, f1, f2, f7, f8, f9, hlt]
    refine ⟨?_, (Fr.refl hk).alloc _⟩
    by_cases he : l.length = s.boards.length
    · rw [hoursOK_all he fun j x bd h1 h2 => ?_]
      · simp [he]
      · obtain ⟨b', g, ho⟩ := hall j x (List.getElem?_eq_some_iff.1 h1).1 h1
        rw [h2] at g; simp at g; rw [g]; exact ho
    · rw [hoursOK_long he]
      simp; omega
end Go.Am

namespace Go.Am
open Go Go.Proofs
def F244_U4 := A2 @bld_409 <| A2 @ia_409_0 <| A2 @ia_409_1 <| A2 @ia_409_2 <| A2 @ia_409_3 <| A2 @ld_241 <| A2 @ld_355 <| A2 @part_241 <| A2 @size_241 <| A2 @size_409 <| A2 @und_409 <| A2 @xi_409_0 <| A2 @xi_409_1 <| A2 @xi_409_2 <| A2 @xi_409_3 @zero_409
def F284_U4 := A2 @fp_355_0 <| A2 @fp_355_1 <| A2 @ld_3 @ld_355
def rDown (a b : Int) : Int := a / b
def rUp (a b : Int) : Int := (a + b - 1) / b
def rNear (a b : Int) : Int := (2 * a + b) / (2 * b)
def rEven (a b : Int) : Int := if 2 * a + b = 2 * b * rNear a b ∧ rNear a b % 2 = 1 then rNear a b - 1 else rNear a b
section
variable {a b : Int} (ha : 0 ≤ a) (ha' : a ≤ 1000000000) (hb : 1 ≤ b) (hb' : b ≤ 1000000) {h : Heap} (hk : HOK h)
include ha ha' hb hb' hk
theorem down_151 : CW CC 281 [.agg ⟨[.int .i64 a, .int .i64 b]⟩] h fun r h' => r = .int .i64 (rDown a b) ∧ Fr h h' := by
  refine CW_in Tryz.f281 (by kernel_rfl) (by kernel_rfl) rfl rfl ?_
  simp only [Tryz.f281]
  have b0 : b ≠ 0 := by omega
  have := div_b ha hb
  simp (maxDischargeDepth := 30) only [AA, ↓reduceIte, Nat.reduceLT, Nat.reduceEqDiff, Nat.reduceAdd, Nat.reduceMul, reduceCtorEq, Nat.reduceLeDiff, Int.reduceNe, Int.reduceEq, fp_355_0, fp_355_1, ld_3, hk, I_quo _ _ _ _ a b b0, tdiv_nn ha hb, wrap64 (n := a / b) (by omega) (by omega)]
  exact ⟨rfl, (Fr.refl hk).alloc _⟩
theorem up_152 : CW CC 282 [.agg ⟨[.int .i64 a, .int .i64 b]⟩] h fun r h' => r = .int .i64 (rUp a b) ∧ Fr h h' := by
  refine CW_in Tryz.f282 (by kernel_rfl) (by kernel_rfl) rfl rfl ?_
  simp only [Tryz.f282]
  have b0 : b ≠ 0 := by omega
  have := div_b (a := a + b - 1) (by omega) hb
  simp (maxDischargeDepth := 30) only [AA, ↓reduceIte, Nat.reduceLT, Nat.reduceEqDiff, Nat.reduceAdd, Nat.reduceMul, reduceCtorEq, Nat.reduceLeDiff, Int.reduceNe, Int.reduceEq, fp_355_0, fp_355_1, ld_3, hk, wrap64 (n := a + b) (by omega) (by omega), wrap64 (n := a + b - 1) (by omega) (by omega), I_quo _ _ _ _ (a + b - 1) b b0, tdiv_nn (a := a + b - 1) (by omega) hb, wrap64 (n := (a + b - 1) / b) (by omega) (by omega)]
  exact ⟨rfl, (Fr.refl hk).alloc _⟩
theorem near_153 : CW CC 283 [.agg ⟨[.int .i64 a, .int .i64 b]⟩] h fun r h' => r = .int .i64 (rNear a b) ∧ Fr h h' := by
  refine CW_in Tryz.f283 (by kernel_rfl) (by kernel_rfl) rfl rfl ?_
  simp only [Tryz.f283]
  have b0 : 2 * b ≠ 0 := by omega
  have := div_b (a := 2 * a + b) (b := 2 * b) (by omega) (by omega)
  simp (maxDischargeDepth := 30) only [AA, ↓reduceIte, Nat.reduceLT, Nat.reduceEqDiff, Nat.reduceAdd, Nat.reduceMul, reduceCtorEq, Nat.reduceLeDiff, Int.reduceNe, Int.reduceEq, fp_355_0, fp_355_1, ld_3, hk, wrap64 (n := 2 * a) (by omega) (by omega), wrap64 (n := 2 * b) (by omega) (by omega), wrap64 (n := 2 * a + b) (by omega) (by omega), I_quo _ _ _ _ (2 * a + b) (2 * b) b0, tdiv_nn (a := 2 * a + b) (b := 2 * b) (by omega) (by omega), wrap64 (n := (2 * a + b) / (2 * b)) (by omega) (by omega)]
  exact ⟨rfl, (Fr.refl hk).alloc _⟩
theorem near_b : 0 ≤ rNear a b ∧ rNear a b ≤ 2 * a + b ∧ 0 ≤ 2 * b * rNear a b ∧ 2 * b * rNear a b ≤ 2 * a + b := by
  have _ := hk
  have := div_b (a := 2 * a + b) (b := 2 * b) (by omega) (by omega)
  have h2 : 2 * b * rNear a b ≤ 2 * a + b := Int.mul_ediv_self_le (by omega)
  exact ⟨this.1, this.2, Int.mul_nonneg (by omega) this.1, h2⟩
theorem even_154 : CW CC 284 [.agg ⟨[.int .i64 a, .int .i64 b]⟩] h fun r h' => r = .int .i64 (rEven a b) ∧ Fr h h' := by
  refine CW_in Tryz.f284 (by kernel_rfl) (by kernel_rfl) rfl rfl ?_
  simp only [Tryz.f284]
  have f1 : Fr h (h.alloc (.row [.int .i64 a, .int .i64 b] 0 true)) := (Fr.refl hk).alloc _
  have r1 : rowAt (h.alloc (.row [.int .i64 a, .int .i64 b] 0 true)) h.next = some [.int .i64 a, .int .i64 b] := rowAt_new _ _ _ _
  obtain ⟨_, h2, e2, rfl, fr2⟩ := near_153 ha ha' hb hb' f1.ok
  have r2 := fr2.row' f1.ok r1
  obtain ⟨n1, n2, n3, n4⟩ := near_b ha ha' hb hb' hk
  have w5 := wrap64 (n := rNear a b - 1) (by omega) (by omega)
  have w4 := wrap64 (n := 2 * b * rNear a b) (by omega) (by omega)
  have t0 : (2 : Int) ≠ 0 := by decide
  cases c1 : (2 * a + b == 2 * b * rNear a b) with
  | false =>
    simp (maxDischargeDepth := 30) only [AA, ↓reduceIte, Nat.reduceLT, Nat.reduceEqDiff, Nat.reduceAdd, Nat.reduceMul, reduceCtorEq, Nat.reduceLeDiff, Int.reduceNe, Int.reduceEq, F284_U4, hk, e2, r2, wrap64 (n := 2 * a) (by omega) (by omega), wrap64 (n := 2 * b) (by omega) (by omega), wrap64 (n := 2 * a + b) (by omega) (by omega), w4, c1]
    refine ⟨?_, f1.trans fr2⟩
    have : ¬ 2 * a + b = 2 * b * rNear a b := by simpa using c1
    simp [rEven, this]
  | true =>
  have c1' : 2 * a + b = 2 * b * rNear a b := by simpa using c1
  cases c2 : (rNear a b % 2 == 1) with
  | false =>
    simp (maxDischargeDepth := 30) only [AA, ↓reduceIte, Nat.reduceLT, Nat.reduceEqDiff, Nat.reduceAdd, Nat.reduceMul, reduceCtorEq, Nat.reduceLeDiff, Int.reduceNe, Int.reduceEq, F284_U4, hk, e2, r2, wrap64 (n := 2 * a) (by omega) (by omega), wrap64 (n := 2 * b) (by omega) (by omega), wrap64 (n := 2 * a + b) (by omega) (by omega), w4, c1, I_rem _ _ _ _ _ 2 t0, tmod_nn n1, c2]
    refine ⟨?_, f1.trans fr2⟩
    have : ¬ rNear a b % 2 = 1 := by simpa using c2
    simp [rEven, this]
  | true =>
    simp (maxDischargeDepth := 30) only [AA, ↓reduceIte, Nat.reduceLT, Nat.reduceEqDiff, Nat.reduceAdd, Nat.reduceMul, reduceCtorEq, Nat.reduceLeDiff, Int.reduceNe, Int.reduceEq, F284_U4, hk, e2, r2, wrap64 (n := 2 * a) (by omega) (by omega), wrap64 (n := 2 * b) (by omega) (by omega), wrap64 (n := 2 * a + b) (by omega) (by omega), w4, c1, I_rem _ _ _ _ _ 2 t0, tmod_nn n1, c2, w5]
    refine ⟨?_, f1.trans fr2⟩
    have : rNear a b % 2 = 1 := by simpa using c2
    rw [rEven, if_pos ⟨c1', this⟩]
end
def rnd (rule a b : Int) : Int := if rule = 0 then rDown a b else if rule = 1 then rUp a b else if rule = 2 then rNear a b else rEven a b
set_option maxRecDepth 10000 in
theorem rounded_136 {a b rule : Int} (ha : 0 ≤ a) (ha' : a ≤ 1000000000) (hb : 1 ≤ b) (hb' : b ≤ 1000000) (h0 : 0 ≤ rule) (h3 : rule ≤ 3) {h : Heap} (hk : HOK h) :
    CW CC 244 [.agg ⟨[.int .i64 a, .int .i64 b]⟩, .int .i64 rule] h fun r h' => r = .int .i64 (rnd rule a b) ∧ Fr h h' := by
  refine CW_in Tryz.f244 (by kernel_rfl) (by kernel_rfl) rfl rfl ?_
  simp only [Tryz.f244]
  have f1 : ∀ x y z, Fr h (((h.alloc x).alloc y).set (h.next + 1) z) := fun x y z => (((Fr.refl hk).alloc x).alloc y).set (by omega) (by simp) z
  have cases4 : rule = 0 ∨ rule = 1 ∨ rule = 2 ∨ rule = 3 := by omega
  rcases cases4 with rfl | rfl | rfl | rfl
  · simp (maxDischargeDepth := 30) only [AA, ↓reduceIte, Nat.reduceLT, Nat.reduceEqDiff, Nat.reduceAdd, Nat.reduceMul, reduceCtorEq, Nat.reduceLeDiff, Int.reduceNe, Int.reduceEq, F244_U4, hk]
    refine W_call (down_151 ha ha' hb hb' (f1 _ _ _).ok) ?_
    rintro _ h2 ⟨rfl, fr2⟩
    simp (maxDischargeDepth := 30) only [AA, ↓reduceIte, Nat.reduceLT, Nat.reduceEqDiff, Nat.reduceAdd, Nat.reduceMul, reduceCtorEq, Nat.reduceLeDiff, Int.reduceNe, Int.reduceEq, F244_U4]
    exact ⟨rfl, (f1 _ _ _).trans fr2⟩
  · simp (maxDischargeDepth := 30) only [AA, ↓reduceIte, Nat.reduceLT, Nat.reduceEqDiff, Nat.reduceAdd, Nat.reduceMul, reduceCtorEq, Nat.reduceLeDiff, Int.reduceNe, Int.reduceEq, F244_U4, hk]
    refine W_call (up_152 ha ha' hb hb' (f1 _ _ _).ok) ?_
    rintro _ h2 ⟨rfl, fr2⟩
    simp (maxDischargeDepth := 30) only [AA, ↓reduceIte, Nat.reduceLT, Nat.reduceEqDiff, Nat.reduceAdd, Nat.reduceMul, reduceCtorEq, Nat.reduceLeDiff, Int.reduceNe, Int.reduceEq, F244_U4]
    exact ⟨rfl, (f1 _ _ _).trans fr2⟩
  · simp (maxDischargeDepth := 30) only [AA, ↓reduceIte, Nat.reduceLT, Nat.reduceEqDiff, Nat.reduceAdd, Nat.reduceMul, reduceCtorEq, Nat.reduceLeDiff, Int.reduceNe, Int.reduceEq, F244_U4, hk]
    refine W_call (near_153 ha ha' hb hb' (f1 _ _ _).ok) ?_
    rintro _ h2 ⟨rfl, fr2⟩
    simp (maxDischargeDepth := 30) only [AA, ↓reduceIte, Nat.reduceLT, Nat.reduceEqDiff, Nat.reduceAdd, Nat.reduceMul, reduceCtorEq, Nat.reduceLeDiff, Int.reduceNe, Int.reduceEq, F244_U4]
    exact ⟨rfl, (f1 _ _ _).trans fr2⟩
  · simp (maxDischargeDepth := 30) only [AA, ↓reduceIte, Nat.reduceLT, Nat.reduceEqDiff, Nat.reduceAdd, Nat.reduceMul, reduceCtorEq, Nat.reduceLeDiff, Int.reduceNe, Int.reduceEq, F244_U4, hk]
    refine W_call (even_154 ha ha' hb hb' (f1 _ _ _).ok) ?_
    rintro _ h2 ⟨rfl, fr2⟩
    simp (maxDischargeDepth := 30) only [AA, ↓reduceIte, Nat.reduceLT, Nat.reduceEqDiff, Nat.reduceAdd, Nat.reduceMul, reduceCtorEq, Nat.reduceLeDiff, Int.reduceNe, Int.reduceEq, F244_U4]
    exact ⟨rfl, (f1 _ _ _).trans fr2⟩
theorem place_137 {r : Int} (h1 : 1 ≤ r) (h2 : r ≤ 4) (h : Heap) : callF CC (Lim CC) 245 [.int .i64 r] h = some (.ret (.int .i64 (r - 1)) h none) := by
  refine CW.eq (CW_in Tryz.f245 (by kernel_rfl) (by kernel_rfl) rfl rfl ?_)
  simp only [Tryz.f245]
  simp (maxDischargeDepth := 30) only [AA, ↓reduceIte, Nat.reduceLT, Nat.reduceEqDiff, Nat.reduceAdd, Nat.reduceMul, reduceCtorEq, Nat.reduceLeDiff, Int.reduceNe, Int.reduceEq, L_nil, wrap64 (n := r - 1) (by omega) (by omega)]
end Go.Am

namespace Go.Am
open Go Go.Proofs
def F166_U5 := A2 @bs_22 <| A2 @fp_177_0 <| A2 @fp_177_1 <| A2 @fp_47_1 <| A2 @ix_22 <| A2 @ix_44 <| A2 @ld_166 <| A2 @ld_22 <| A2 @ld_3 <| A2 @ld_44 <| A2 @ld_89 <| A2 @len_44 <| A2 @part_3 <| A2 @part_89 <| A2 @size_22 <| A2 @size_3 <| A2 @size_44 <| A2 @size_89 <| A2 @und_22 <| A2 @und_44 <| A2 @zero_22 <| A2 @zero_44 @zero_89
def F246_U5 := A2 @bld_410 <| A2 @bld_411 <| A2 @bld_412 <| A2 @bld_413 <| A2 @bld_414 <| A2 @fp_166_0 <| A2 @ia_414_0 <| A2 @ia_414_1 <| A2 @ia_414_2 <| A2 @ia_414_3 <| A2 @ld_163 <| A2 @mi_410 <| A2 @mi_411 <| A2 @mi_412 <| A2 @mi_413 <| A2 @part_359 <| A2 @size_359 <| A2 @size_410 <| A2 @size_411 <| A2 @size_412 <| A2 @size_413 <| A2 @size_414 <| A2 @und_414 <| A2 @xi_414_0 <| A2 @xi_414_1 <| A2 @xi_414_2 <| A2 @xi_414_3 <| A2 @zero_410 <| A2 @zero_411 <| A2 @zero_412 <| A2 @zero_413 @zero_414
theorem fm_410 : findMethod CC 410 "mahlstick/price.quantity" = some 358 := by kernel_rfl
theorem fm_411 : findMethod CC 411 "mahlstick/price.quantity" = some 359 := by kernel_rfl
theorem fm_412 : findMethod CC 412 "mahlstick/price.quantity" = some 360 := by kernel_rfl
theorem fm_413 : findMethod CC 413 "mahlstick/price.quantity" = some 361 := by kernel_rfl
def qty (k : Int) (b : Board) (hr : Int) : Int := if k = 1 then b.L else if k = 2 then b.F else if k = 3 then hr else 1
def kindV (k : Int) : Value := if k = 1 then .iface 410 (.agg ⟨[]⟩) else if k = 2 then .iface 411 (.agg ⟨[]⟩) else if k = 3 then .iface 412 (.agg ⟨[]⟩) else .iface 413 (.agg ⟨[]⟩)
theorem quantity_207 (x : Board) (hr : Int) {h : Heap} (hk : HOK h) : CW CC 358 [.agg ⟨[]⟩, .agg ⟨x.cells⟩, .int .i64 hr] h fun r h' => r = .int .i64 x.L ∧ Fr h h' := by
  obtain ⟨L, F, lo, hi, ow⟩ := x
  refine CW_in Tryz.f358 (by kernel_rfl) (by kernel_rfl) rfl rfl ?_
  simp only [Tryz.f358, Board.cells]
  simp (maxDischargeDepth := 30) only [AA, ↓reduceIte, Nat.reduceLT, Nat.reduceEqDiff, Nat.reduceAdd, Nat.reduceMul, reduceCtorEq, Nat.reduceLeDiff, Int.reduceNe, Int.reduceEq, fp_89_0, ld_3, hk]
  exact ⟨trivial, ((Fr.refl hk).alloc _).alloc _⟩
theorem quantity_208 (x : Board) (hr : Int) {h : Heap} (hk : HOK h) : CW CC 359 [.agg ⟨[]⟩, .agg ⟨x.cells⟩, .int .i64 hr] h fun r h' => r = .int .i64 x.F ∧ Fr h h' := by
  obtain ⟨L, F, lo, hi, ow⟩ := x
  refine CW_in Tryz.f359 (by kernel_rfl) (by kernel_rfl) rfl rfl ?_
  simp only [Tryz.f359, Board.cells]
  simp (maxDischargeDepth := 30) only [AA, ↓reduceIte, Nat.reduceLT, Nat.reduceEqDiff, Nat.reduceAdd, Nat.reduceMul, reduceCtorEq, Nat.reduceLeDiff, Int.reduceNe, Int.reduceEq, fp_89_1, ld_3, hk]
  exact ⟨trivial, ((Fr.refl hk).alloc _).alloc _⟩
theorem quantity_209 (x : Board) (hr : Int) {h : Heap} (hk : HOK h) : CW CC 360 [.agg ⟨[]⟩, .agg ⟨x.cells⟩, .int .i64 hr] h fun r h' => r = .int .i64 hr ∧ Fr h h' := by
  obtain ⟨L, F, lo, hi, ow⟩ := x
  refine CW_in Tryz.f360 (by kernel_rfl) (by kernel_rfl) rfl rfl ?_
  simp only [Tryz.f360, Board.cells]
  simp (maxDischargeDepth := 30) only [AA, ↓reduceIte, Nat.reduceLT, Nat.reduceEqDiff, Nat.reduceAdd, Nat.reduceMul, reduceCtorEq, Nat.reduceLeDiff, Int.reduceNe, Int.reduceEq, L_nil, hk]
  first | exact ⟨trivial, (Fr.refl hk).alloc _⟩ | exact ⟨trivial, Fr.refl hk⟩ | exact ⟨trivial, ((Fr.refl hk).alloc _).alloc _⟩
theorem quantity_210 (x : Board) (hr : Int) {h : Heap} (hk : HOK h) : CW CC 361 [.agg ⟨[]⟩, .agg ⟨x.cells⟩, .int .i64 hr] h fun r h' => r = .int .i64 1 ∧ Fr h h' := by
  obtain ⟨L, F, lo, hi, ow⟩ := x
  refine CW_in Tryz.f361 (by kernel_rfl) (by kernel_rfl) rfl rfl ?_
  simp only [Tryz.f361, Board.cells]
  simp (maxDischargeDepth := 30) only [AA, ↓reduceIte, Nat.reduceLT, Nat.reduceEqDiff, Nat.reduceAdd, Nat.reduceMul, reduceCtorEq, Nat.reduceLeDiff, Int.reduceNe, Int.reduceEq, L_nil, hk]
  first | exact ⟨trivial, (Fr.refl hk).alloc _⟩ | exact ⟨trivial, Fr.refl hk⟩ | exact ⟨trivial, ((Fr.refl hk).alloc _).alloc _⟩
theorem quantity_at {k : Int} (h1 : 1 ≤ k) (h4 : k ≤ 4) (x : Board) (hr : Int) {h : Heap} (hk : HOK h) :
    ∃ h', callM CC (Lim CC) (kindV k) "mahlstick/price.quantity" [.agg ⟨x.cells⟩, .int .i64 hr] h = some (.ret (.int .i64 (qty k x hr)) h' none) ∧ Fr h h' := by
  have c4 : k = 1 ∨ k = 2 ∨ k = 3 ∨ k = 4 := by omega
  rcases c4 with rfl | rfl | rfl | rfl
  · obtain ⟨_, h', e, rfl, f⟩ := quantity_207 x hr hk
    exact ⟨h', by simp only [kindV, qty, ↓reduceIte]; rw [callM_iface, fm_410, obind_some, e], f⟩
  · obtain ⟨_, h', e, rfl, f⟩ := quantity_208 x hr hk
    exact ⟨h', by simp only [kindV, qty, ↓reduceIte, Int.reduceEq]; rw [callM_iface, fm_411, obind_some, e], f⟩
  · obtain ⟨_, h', e, rfl, f⟩ := quantity_209 x hr hk
    exact ⟨h', by simp only [kindV, qty, ↓reduceIte, Int.reduceEq]; rw [callM_iface, fm_412, obind_some, e], f⟩
  · obtain ⟨_, h', e, rfl, f⟩ := quantity_210 x hr hk
    exact ⟨h', by simp only [kindV, qty, ↓reduceIte, Int.reduceEq]; rw [callM_iface, fm_413, obind_some, e], f⟩
theorem nil_kind {k : Int} (h1 : 1 ≤ k) (h4 : k ≤ 4) (ys : Array Value) : aNilCheck CC (.func (.method "mahlstick/price.quantity") ⟨[kindV k]⟩ ys) = some (.val (.func (.method "mahlstick/price.quantity") ⟨[kindV k]⟩ ys)) := by
  have c4 : k = 1 ∨ k = 2 ∨ k = 3 ∨ k = 4 := by omega
  rcases c4 with rfl | rfl | rfl | rfl
  · simp only [kindV, ↓reduceIte]; rw [nil_meth, fm_410]; rfl
  · simp only [kindV, ↓reduceIte, Int.reduceEq]; rw [nil_meth, fm_411]; rfl
  · simp only [kindV, ↓reduceIte, Int.reduceEq]; rw [nil_meth, fm_412]; rfl
  · simp only [kindV, ↓reduceIte, Int.reduceEq]; rw [nil_meth, fm_413]; rfl
set_option maxRecDepth 10000 in
theorem kindOf_138 {t : Tar} (h1 : 1 ≤ t.kind) (h4 : t.kind ≤ 4) {h : Heap} (hk : HOK h) : CW CC 246 [.agg ⟨t.cells⟩] h fun r h' => r = kindV t.kind ∧ Fr h h' := by
  obtain ⟨k, c, u, r, e⟩ := t
  refine CW_in Tryz.f246 (by kernel_rfl) (by kernel_rfl) rfl rfl ?_
  simp only [Tryz.f246, Tar.cells]
  have c4 : k = 1 ∨ k = 2 ∨ k = 3 ∨ k = 4 := by simp only at h1 h4; omega
  rcases c4 with rfl | rfl | rfl | rfl
  · have w : IntKind.i64.wrap ((1 : Int) - 1) = 0 := by decide
    simp (maxDischargeDepth := 30) only [AA, ↓reduceIte, Nat.reduceLT, Nat.reduceEqDiff, Nat.reduceAdd, Nat.reduceMul, reduceCtorEq, Nat.reduceLeDiff, Int.reduceNe, Int.reduceEq, F246_U5, hk, w]
    exact ⟨rfl, (Fr.refl hk).alloc _⟩
  · have w : IntKind.i64.wrap ((2 : Int) - 1) = 1 := by decide
    simp (maxDischargeDepth := 30) only [AA, ↓reduceIte, Nat.reduceLT, Nat.reduceEqDiff, Nat.reduceAdd, Nat.reduceMul, reduceCtorEq, Nat.reduceLeDiff, Int.reduceNe, Int.reduceEq, F246_U5, hk, w]
    exact ⟨rfl, (Fr.refl hk).alloc _⟩
  · have w : IntKind.i64.wrap ((3 : Int) - 1) = 2 := by decide
    simp (maxDischargeDepth := 30) only [AA, ↓reduceIte, Nat.reduceLT, Nat.reduceEqDiff, Nat.reduceAdd, Nat.reduceMul, reduceCtorEq, Nat.reduceLeDiff, Int.reduceNe, Int.reduceEq, F246_U5, hk, w]
    exact ⟨rfl, (Fr.refl hk).alloc _⟩
  · have w : IntKind.i64.wrap ((4 : Int) - 1) = 3 := by decide
    simp (maxDischargeDepth := 30) only [AA, ↓reduceIte, Nat.reduceLT, Nat.reduceEqDiff, Nat.reduceAdd, Nat.reduceMul, reduceCtorEq, Nat.reduceLeDiff, Int.reduceNe, Int.reduceEq, F246_U5, hk, w]
    exact ⟨rfl, (Fr.refl hk).alloc _⟩
def qtys (t : Tar) (bs : List Board) (hs : List Int) : List Int := (bs.zip hs).map fun p => qty t.kind p.1 p.2
theorem qtys_len {t : Tar} {bs : List Board} {hs : List Int} (h : hs.length = bs.length) : (qtys t bs hs).length = bs.length := by simp [qtys, h]
theorem qtys_get {t : Tar} {bs : List Board} {hs : List Int} {i : Nat} {b : Board} {x : Int} (h1 : bs[i]? = some b) (h2 : hs[i]? = some x) : (qtys t bs hs)[i]? = some (qty t.kind b x) := by
  simp only [qtys, List.getElem?_map]
  rw [List.getElem?_zip_eq_some (z := (b, x)) |>.2 ⟨h1, h2⟩]; rfl
structure IsBill (h : Heap) (v : Value) (s : Sheet) (hs : List Int) (m : Nat) : Prop where
  ex : ∃ a b c d, v = .agg ⟨[a, b, c, d, .map (some m)]⟩ ∧ IsSheet h a b c s ∧ LS h d hs ints 1
theorem IsBill.fr {h h' : Heap} {v : Value} {s : Sheet} {hs : List Int} {m : Nat} (q : IsBill h v s hs m) (hk : HOK h) (f : Fr h h') : IsBill h' v s hs m := by
  obtain ⟨a, b, c, d, e, q1, q2⟩ := q.ex
  exact ⟨a, b, c, d, e, q1.fr hk f, q2.fr hk f⟩
set_option maxRecDepth 10000 in
set_option maxHeartbeats 1000000 in
theorem quantities_107 {h : Heap} (hk : HOK h) (hp : 0 < h.next) {v : Value} {s : Sheet} {hs : List Int} {m : Nat} {t : Tar} (hv : IsBill h v s hs m) (h1 : 1 ≤ t.kind) (h4 : t.kind ≤ 4) (hl : hs.length = s.boards.length) (hn : s.boards.length ≤ 1000) :
    CW CC 166 [v, .agg ⟨t.cells⟩] h fun r h' => SL h.next h' r ((qtys t s.boards hs).flatMap ints) 1 s.boards.length ∧ Fr h h' := by
  obtain ⟨a, b, c, d, rfl, hsh, hh⟩ := hv.ex
  obtain ⟨p1, c1, rfl, _⟩ := hsh.offs.open
  obtain ⟨p2, c2, rfl, x2⟩ := hsh.boards.open
  obtain ⟨p3, c3, rfl, _⟩ := hsh.tars.open
  obtain ⟨p4, c4, rfl, x4⟩ := hh.open
  refine CW_in Tryz.f166 (by kernel_rfl) (by kernel_rfl) rfl rfl ?_
  simp only [Tryz.f166]
  have kt : take? t.cells 0 5 = some t.cells := rfl
  simp (maxDischargeDepth := 30) only [AA, ↓reduceIte, Nat.reduceLT, Nat.reduceEqDiff, Nat.reduceAdd, Nat.reduceMul, reduceCtorEq, Nat.reduceLeDiff, Int.reduceNe, Int.reduceEq, F166_U5, hk, kt]
  refine W_call (kindOf_138 h1 h4 (hk.alloc _ |>.alloc _)) ?_
  rintro _ h2 ⟨rfl, fr2⟩
  have f1 : ∀ x y, Fr h ((h.alloc x).alloc y) := fun x y => ((Fr.refl hk).alloc x).alloc y
  have r1 : rowAt ((h.alloc (.row [.slice p1 s.offs.length c1, .slice p2 s.boards.length c2, .slice p3 s.tars.length c3, .slice p4 hs.length c4, .map (some m)] 0 true)).alloc (.row t.cells 0 true)) h.next = some [.slice p1 s.offs.length c1, .slice p2 s.boards.length c2, .slice p3 s.tars.length c3, .slice p4 hs.length c4, .map (some m)] := by
    rw [rowAt_old _ (by simp), rowAt_new]
  have f2 := (f1 _ _).trans fr2
  have r2 := fr2.row' (f1 _ _).ok r1
  have m2 : h.next < h2.next := by have := fr2.next; simp at this; omega
  clear r1 f1
  simp (maxDischargeDepth := 30) only [AA, ↓reduceIte, Nat.reduceLT, Nat.reduceEqDiff, Nat.reduceAdd, Nat.reduceMul, reduceCtorEq, Nat.reduceLeDiff, Int.reduceNe, Int.reduceEq, F166_U5, hk, r2, m2]
  refine W_loop s.boards.length (fun m' f h' => ∃ i, i ≤ s.boards.length ∧ m' = s.boards.length - i ∧ f 2 = .pointer (some ⟨h.next, 0, none⟩) ∧ f 6 = kindV t.kind ∧ f 13 = .slice p2 s.boards.length c2 ∧ f 14 = .int .i64 s.boards.length ∧ f 15 = .int .i64 i ∧
      SL h.next h' (f 5) (((qtys t s.boards hs).take i).flatMap ints) 1 i ∧ blkOf (f 5) ≠ some h.next ∧ Fr h h' ∧ h.next < h'.next ∧ rowAt h' h.next = some [.slice p1 s.offs.length c1, .slice p2 s.boards.length c2, .slice p3 s.tars.length c3, .slice p4 hs.length c4, .map (some m)])
    ⟨0, by omega, by omega, by simp [upd_at], by simp [upd_at], by simp [upd_at], by simp [upd_at], by simp [upd_at], by simpa [upd_at] using SL.nil h.next h2 1, by simp [upd_at, blkOf], f2, m2, r2⟩ ?_
  clear f2 r2 m2 fr2 h2
  rintro m' f h' ⟨i, hi, rfl, g2, g6, g13, g14, g15, q5, nb, fr, m2, r2⟩ ih
  have k' := fr.ok
  by_cases hil : i < s.boards.length
  · obtain ⟨x, gx⟩ : ∃ x, s.boards[i]? = some x := ⟨_, List.getElem?_eq_getElem hil⟩
    have hil' : i < hs.length := by omega
    obtain ⟨y, gy⟩ : ∃ y, hs[i]? = some y := ⟨_, List.getElem?_eq_getElem hil'⟩
    rcases x2 with hx | ⟨b2, o2, sp2, row2, rfl, rr2, x2⟩
    · rw [hx] at hil; simp at hil
    rcases x4 with hx | ⟨b4, o4, sp4, row4, rfl, rr4, x4⟩
    · rw [hx] at hil'; simp at hil'
    have e1 : take? row2 (o2 + i * 5) 5 = some x.cells := (x2 _ _ gx).1
    have e2 : row4[o4 + i]? = some (.int .i64 y) := by simpa [ints] using (x4 _ _ gy).2 0 (by omega)
    have rr2' := fr.row' hk rr2
    have rr4' := fr.row' hk rr4
    have n4 : b4 < h'.next := Nat.lt_of_lt_of_le (row_lt hk rr4) fr.next
    have kx : take? x.cells 0 5 = some x.cells := rfl
    have lx : x.cells.length = 5 := rfl
    have ax : allOne x.cells = true := rfl
    simp (maxDischargeDepth := 30) only [AA, ↓reduceIte, Nat.reduceLT, Nat.reduceEqDiff, Nat.reduceAdd, Nat.reduceMul, reduceCtorEq, Nat.reduceLeDiff, Int.reduceNe, Int.reduceEq, F166_U5, k', g2, g6, g13, g14, g15, r2, m2, lt_t hil, hil, rr2', e1, kx, lx, ax]
    refine W_draw [(true, 0), (true, 1), (true, 2), (true, 3), (true, 4), (true, 5), (true, 6), (true, 7), (true, 8), (true, 9), (true, 10), (true, 11), (true, 12), (true, 13), (true, 14)] (by kernel_rfl) ?_
    have fb : Fr h ((h'.alloc (.row [.int .i64 0, .int .i64 0, .int .i64 0, .int .i64 0, .int .i64 0] 0 true)).set h'.next (.row x.cells 0 true)) := (fr.alloc _).set (by omega) (by simp) _
    obtain ⟨h3, e3, fr3⟩ := quantity_at h1 h4 x y fb.ok
    have f3 := fb.trans fr3
    have k3 := f3.ok
    have q3 : SL h.next h3 (f 5) (((qtys t s.boards hs).take i).flatMap ints) 1 i := by
      refine (q5.keep (h' := (h'.alloc (.row [.int .i64 0, .int .i64 0, .int .i64 0, .int .i64 0, .int .i64 0] 0 true)).set h'.next (.row x.cells 0 true)) fun b hb => ?_).fr fb.ok fr3
      have := (q5.blk_lt k' hb).2
      rw [Heap.get_set_ne _ _ (by omega), Heap.get_alloc_ne _ _ (by omega)]
    have m3 : h.next < h3.next := by have := fr3.next; simp at this; omega
    have r3 : rowAt h3 h.next = some [.slice p1 s.offs.length c1, .slice (some ⟨b2, o2, sp2⟩) s.boards.length c2, .slice p3 s.tars.length c3, .slice (some ⟨b4, o4, sp4⟩) hs.length c4, .map (some m)] := by
      refine fr3.row' fb.ok ?_
      rw [rowAt_set_lt _ m2, rowAt_old _ m2]; exact r2
    obtain ⟨h5, e5, q5', f5, n5, g5⟩ := append_one (ts := []) app_22 f3 (by omega) q3 (v := .int .i64 (qty t.kind x y)) rfl (by omega)
    simp (maxDischargeDepth := 30) only [AA, ↓reduceIte, Nat.reduceLT, Nat.reduceEqDiff, Nat.reduceAdd, Nat.reduceMul, reduceCtorEq, Nat.reduceLeDiff, Int.reduceNe, Int.reduceEq, F166_U5, k', k3, g2, g6, g13, g14, g15, r2, m2, n4, hil', rr4', Nat.mul_one, e2, kx, lx, nil_kind h1 h4, e3, bs_22 (cells_int _ _), e5, i_next hil hn]
    refine ih (s.boards.length - (i + 1)) _ _ (by omega) ?_
    refine ⟨i + 1, by omega, rfl, by simp [upd_at, g2], by simp [upd_at, g6], by simp [upd_at, g13], by simp [upd_at, g14], by simp [upd_at], ?_, by simp [upd_at, blkOf]; omega, f5, by omega, ?_⟩
    · rw [take_snoc (qtys_get gx gy), List.flatMap_append]
      simpa [upd_at, ints] using q5'
    · unfold rowAt
      rw [g5 _ m3 nb]
      exact r3
  · have : i = s.boards.length := by omega
    subst this
    simp (maxDischargeDepth := 30) only [AA, ↓reduceIte, Nat.reduceLT, Nat.reduceEqDiff, Nat.reduceAdd, Nat.reduceMul, reduceCtorEq, Nat.reduceLeDiff, Int.reduceNe, Int.reduceEq, F166_U5, k', g2, g6, g13, g14, g15, lt_f]
    refine ⟨?_, fr⟩
    rw [List.take_of_length_le (by rw [qtys_len hl]; exact Nat.le_refl _)] at q5
    exact q5
end Go.Am

namespace Go.Am
open Go Go.Proofs
def F165_U6 := A2 @bld_353 <| A2 @bld_355 <| A2 @fld_353_0 <| A2 @fld_353_1 <| A2 @fld_355_0 <| A2 @fld_355_1 <| A2 @fp_166_1 <| A2 @fp_166_2 <| A2 @fp_166_3 <| A2 @fp_177_2 <| A2 @ld_164 <| A2 @ld_166 <| A2 @ld_175 <| A2 @ld_3 <| A2 @ld_353 <| A2 @size_175 <| A2 @size_353 <| A2 @size_355 <| A2 @sp_353_0 <| A2 @sp_353_1 <| A2 @sp_355_0 <| A2 @sp_355_1 <| A2 @und_175 <| A2 @zero_175 <| A2 @zero_353 @zero_355
section
variable (k : IntKind) (n : Int) (b : Bool) (s : ByteArray) (p : Option Addr) (m c : Nat) (r : Option Nat) (l : List Value)
end
theorem IsSheet.rk {h h' : Heap} {a b c : Value} {s : Sheet} (q : IsSheet h a b c s) (f : RK h h') : IsSheet h' a b c s := ⟨q.offs.rk f, q.boards.rk f, q.tars.rk f⟩
theorem IsBill.rk {h h' : Heap} {v : Value} {s : Sheet} {hs : List Int} {m : Nat} (q : IsBill h v s hs m) (f : RK h h') : IsBill h' v s hs m := by
  obtain ⟨a, b, c, d, e, q1, q2⟩ := q.ex
  exact ⟨a, b, c, d, e, q1.rk f, q2.rk f⟩
def price1 (t : Tar) (q : Int) : Int := rnd (t.rule - 1) (q * t.coins) t.units
def amount (t : Tar) (q : Int) : List Value := [.int .i64 t.kind, .int .i64 t.coins, .int .i64 t.units, .int .i64 t.rule, .bool t.each, .int .i64 q]
def Memo (es : List MapEntry) : Prop := ∀ e ∈ es, ∃ t q, e.key = .agg ⟨amount t q⟩ ∧ e.val = .int .i64 (price1 t q)
def HasMap (h : Heap) (m : Nat) : Prop := ∃ es c, h.get m = some (.map es c) ∧ Memo es
structure FrM (m : Nat) (h h' : Heap) : Prop where
  ok : HOK h'
  next : h.next ≤ h'.next
  get : ∀ i, i < h.next → i ≠ m → h'.get i = h.get i
  map : HasMap h' m
theorem HasMap.lt {h : Heap} {m : Nat} (hk : HOK h) (q : HasMap h m) : m < h.next := by
  obtain ⟨es, c, e, _⟩ := q; exact get_lt hk e
theorem HasMap.fr {h h' : Heap} {m : Nat} (q : HasMap h m) (hk : HOK h) (f : Fr h h') : HasMap h' m := by
  obtain ⟨es, c, e, q⟩ := q; exact ⟨es, c, f.get' hk e, q⟩
theorem Fr.frM {h h' : Heap} {m : Nat} (f : Fr h h') (hk : HOK h) (q : HasMap h m) : FrM m h h' := ⟨f.ok, f.next, fun i hi _ => f.get i hi, q.fr hk f⟩
theorem FrM.trans {m : Nat} {a b c : Heap} (h : FrM m a b) (h' : FrM m b c) : FrM m a c := ⟨h'.ok, Nat.le_trans h.next h'.next, fun i hi hm => (h'.get i (Nat.lt_of_lt_of_le hi h.next) hm).trans (h.get i hi hm), h'.map⟩
theorem FrM.fr {m : Nat} {a b c : Heap} (h : Fr a b) (hm : a.next ≤ m) (h' : FrM m b c) : Fr a c := ⟨h'.ok, Nat.le_trans h.next h'.next, fun i hi => (h'.get i (Nat.lt_of_lt_of_le hi h.next) (by omega)).trans (h.get i hi)⟩
theorem FrM.rk {m : Nat} {h h' : Heap} (f : FrM m h h') (hk : HOK h) (q : HasMap h m) : RK h h' := by
  refine ⟨f.ok, f.next, fun i l s o hr => ?_⟩
  obtain ⟨es, c, e, _⟩ := q
  rw [f.get i (get_lt hk hr) (by rintro rfl; rw [e] at hr; simp at hr)]
  exact hr
noncomputable instance Tar.dec : DecidableEq Tar := fun _ _ => Classical.propDecidable _
theorem amount_eq (t t' : Tar) (q q' : Int) : cellsEq (amount t q) (amount t' q') = some (decide (t = t' ∧ q = q')) := by
  obtain ⟨k, c, u, r, e⟩ := t
  obtain ⟨k', c', u', r', e'⟩ := t'
  simp only [amount, cellsEq_int, cellsEq_bool, cellsEq_nil, Tar.mk.injEq]
  repeat' split
  all_goals simp [*]
theorem find_memo (t : Tar) (q : Int) : ∀ (es : List MapEntry) (i : Nat), Memo es → aFind (.agg ⟨amount t q⟩) es i = some none ∨ ∃ j, aFind (.agg ⟨amount t q⟩) es i = some (some (j, .int .i64 (price1 t q)))
  | [], i, _ => .inl rfl
  | e :: es, i, hm => by
    obtain ⟨t', q', h1, h2⟩ := hm e List.mem_cons_self
    have ih := find_memo t q es (i + 1) fun x hx => hm x (List.mem_cons_of_mem _ hx)
    have hk : keyEq (.agg ⟨amount t q⟩) e.key = some (decide (t = t' ∧ q = q')) := by
      rw [h1]
      show guardB (likeAll (amount t q) (amount t' q')) (cellsEq (amount t q) (amount t' q')) = _
      have : likeAll (amount t q) (amount t' q') = true := rfl
      rw [this, guardB_true, amount_eq]
    rw [aFind_cons, hk]
    by_cases hc : t = t' ∧ q = q'
    · obtain ⟨rfl, rfl⟩ := hc
      right
      refine ⟨i, ?_⟩
      rw [decide_eq_true (by simp), h2]
    · rw [decide_eq_false hc]
      exact ih
theorem fits_353 (t : Tar) (q : Int) : keyFits CC 353 (.agg ⟨amount t q⟩) = true := by kernel_rfl
theorem lookup_175 {h : Heap} {m : Nat} {es : List MapEntry} {c : Nat} (hm : h.get m = some (.map es c)) (t : Tar) (q : Int) : aLookup CC 175 (.map (some m)) (.agg ⟨amount t q⟩) true h = obind (aFind (.agg ⟨amount t q⟩) es 0) (found (.int .i64 0) true) :=
  lookup_of und_175 (fits_353 t q) zero_3 hm
theorem update_175 {h : Heap} {m : Nat} {es : List MapEntry} {c : Nat} (hm : h.get m = some (.map es c)) (t : Tar) (q : Int) (v : Value) (hf : aFind (.agg ⟨amount t q⟩) es 0 = some none) :
    aMapUpdate CC 175 (.map (some m)) (.agg ⟨amount t q⟩) v h = some (h.set m (.map (es ++ [{ key := .agg ⟨amount t q⟩, val := v, born := c }]) (c + 1))) :=
  update_of und_175 (fits_353 t q) hm hf
theorem Memo.snoc {es : List MapEntry} (hm : Memo es) (t : Tar) (q : Int) (c : Nat) : Memo (es ++ [{ key := .agg ⟨amount t q⟩, val := .int .i64 (price1 t q), born := c }]) := by
  intro e he
  rcases List.mem_append.1 he with h | h
  · exact hm e h
  · simp at h; subst h; exact ⟨t, q, rfl, rfl⟩
theorem Tar.ok_at {t : Tar} (h : t.ok = true) : 1 ≤ t.kind ∧ t.kind ≤ 4 ∧ 1 ≤ t.rule ∧ t.rule ≤ 4 ∧ 0 ≤ t.coins ∧ t.coins ≤ 500 ∧ 1 ≤ t.units ∧ t.units ≤ 12 := of_decide_eq_true h
set_option maxRecDepth 10000 in
set_option maxHeartbeats 1000000 in
theorem price_106 {h : Heap} (hk : HOK h) {v : Value} {s : Sheet} {hs : List Int} {m : Nat} {t : Tar} {q : Int} (hv : IsBill h v s hs m) (hm : HasMap h m) (ht : t.ok = true) (hq : 0 ≤ q) (hq' : q ≤ 1000000) :
    CW CC 165 [v, .agg ⟨t.cells⟩, .int .i64 q] h fun r h' => r = .int .i64 (price1 t q) ∧ FrM m h h' := by
  obtain ⟨a, b, c, d, rfl, hsh, hh⟩ := hv.ex
  obtain ⟨p1, c1, rfl, _⟩ := hsh.offs.open
  obtain ⟨p2, c2, rfl, _⟩ := hsh.boards.open
  obtain ⟨p3, c3, rfl, _⟩ := hsh.tars.open
  obtain ⟨p4, c4, rfl, _⟩ := hh.open
  have hml := hm.lt hk
  obtain ⟨es, cl, em, hmemo⟩ := hm
  have tk := Tar.ok_at ht
  have hq2 : 0 ≤ q * t.coins := Int.mul_nonneg hq (by omega)
  have hq3 : q * t.coins ≤ 1000000 * 500 := Int.mul_le_mul hq' (by omega) (by omega) (by omega)
  have hf := find_memo t q es 0 hmemo
  have hl := fun h' (e : h'.get m = some (.map es cl)) => lookup_175 (h := h') e t q
  have hu := fun h' (e : h'.get m = some (.map es cl)) => update_175 (h := h') e t q (.int .i64 (price1 t q))
  have hsn := hmemo.snoc t q cl
  have hpr : price1 t q = rnd (t.rule - 1) (q * t.coins) t.units := rfl
  generalize hP : price1 t q = P at hf hu hsn hpr
  obtain ⟨kd, co, un, ru, ea⟩ := t
  simp only [amount] at hf hl hu hsn
  simp only at tk hq2 hq3 hpr
  refine CW_in Tryz.f165 (by kernel_rfl) (by kernel_rfl) rfl rfl ?_
  simp only [Tryz.f165, Tar.cells]
  have fa : ∀ x y z w, Fr h ((((h.alloc x).alloc y).alloc z).set (h.next + 1 + 1) w) := fun x y z w => ((((Fr.refl hk).alloc x).alloc y).alloc z).set (by omega) (by simp) w
  have hm0 : HasMap h m := ⟨es, cl, em, hmemo⟩
  rcases hf with hf | ⟨j, hf⟩
  · -- a new amount
    simp (maxDischargeDepth := 30) only [AA, ↓reduceIte, Nat.reduceLT, Nat.reduceEqDiff, Nat.reduceAdd, Nat.reduceMul, reduceCtorEq, Nat.reduceLeDiff, Int.reduceNe, Int.reduceEq, F165_U6, hk, hml, em, hl, hf, found_miss]
    refine W_draw [(true, 0), (true, 1), (true, 2), (true, 3), (true, 4), (true, 5), (true, 6), (true, 7), (true, 8), (true, 9), (false, 2), (false, 5), (true, 10), (true, 11)] (by kernel_rfl) ?_
    simp (maxDischargeDepth := 30) only [AA, ↓reduceIte, Nat.reduceLT, Nat.reduceEqDiff, Nat.reduceAdd, Nat.reduceMul, reduceCtorEq, Nat.reduceLeDiff, Int.reduceNe, Int.reduceEq, AMR, F165_U6, hk, place_137 (r := ru) tk.2.2.1 tk.2.2.2.1, wrap64 (n := q * co) (by omega) (by omega)]
    refine W_callP (rounded_136 hq2 (by omega) tk.2.2.2.2.2.2.1 (by omega) (by omega) (by omega) (fa _ _ _ _).ok) ?_
    rintro _ h2 ⟨rfl, fr2⟩
    have f2 := (fa _ _ _ _).trans fr2
    have em2 := f2.get' hk em
    have hml2 : m < h2.next := get_lt f2.ok em2
    have rb : rowAt h2 h.next = some [.slice p1 s.offs.length c1, .slice p2 s.boards.length c2, .slice p3 s.tars.length c3, .slice p4 hs.length c4, .map (some m)] := by
      refine fr2.row' (fa _ _ _ _).ok ?_
      rw [rowAt_set_lt _ (by omega), rowAt_old _ (by simp; omega), rowAt_old _ (by simp), rowAt_new]
    have rk : rowAt h2 (h.next + 1 + 1) = some [.int .i64 kd, .int .i64 co, .int .i64 un, .int .i64 ru, .bool ea, .int .i64 q] := by
      refine fr2.row' (fa _ _ _ _).ok ?_
      rw [rowAt_set_self]
    rw [← hpr]
    simp (maxDischargeDepth := 30) only [AA, ↓reduceIte, Nat.reduceLT, Nat.reduceEqDiff, Nat.reduceAdd, Nat.reduceMul, reduceCtorEq, Nat.reduceLeDiff, Int.reduceNe, Int.reduceEq, AMR, F165_U6, f2.ok, rb, rk, hu h2 em2 hf]
    refine ⟨trivial, f2.ok.set hml2 _, by simpa using f2.next, fun i hi hne => ?_, _, _, Heap.get_set_self _ _ _, hsn⟩
    rw [Heap.get_set_ne _ _ hne]; exact f2.get i hi
  · -- one that was met
    simp (maxDischargeDepth := 30) only [AA, ↓reduceIte, Nat.reduceLT, Nat.reduceEqDiff, Nat.reduceAdd, Nat.reduceMul, reduceCtorEq, Nat.reduceLeDiff, Int.reduceNe, Int.reduceEq, F165_U6, hk, hml, em, hl, hf, found_hit]
    exact ⟨trivial, (fa _ _ _ _).frM hk hm0⟩
end Go.Am
