/- Parts T72, T73 of the abstract machine over this program, joined: what each part says stands at its head. -/
import Derived.Test.YtlflfbnnjlkkcaaGreatJX0
set_option linter.unusedSimpArgs false
set_option linter.unusedVariables false
/- The abstract machine over this program: sheets of tints that are as defined. -/
namespace Go.Am
open Go Go.Proofs
theorem F16_T72 : type_of% (And.intro @fp_143_0 <| And.intro @fp_43_0 <| And.intro @fp_43_1 <| And.intro @fp_43_2 <| And.intro @fp_43_3 <| And.intro @fp_43_4 <| And.intro @ia_39_0 <| And.intro @ia_39_1 <| And.intro @ia_39_2 <| And.intro @ia_40_0 <| And.intro @ia_40_1 <| And.intro @ia_40_2 <| And.intro @ix_41 <| And.intro @ld_25 <| And.intro @ld_3 <| And.intro @ld_41 <| And.intro @len_41 <| And.intro @part_143 <| And.intro @part_25 <| And.intro @part_3 <| And.intro @size_143 <| And.intro @size_25 <| And.intro @size_3 <| And.intro @size_39 <| And.intro @size_40 <| And.intro @size_41 <| And.intro @und_39 <| And.intro @und_40 <| And.intro @und_41 <| And.intro @xi_39_0 <| And.intro @xi_39_1 <| And.intro @xi_39_2 <| And.intro @zero_39 <| And.intro @zero_40 @zero_41) := And.intro @fp_143_0 <| And.intro @fp_43_0 <| And.intro @fp_43_1 <| And.intro @fp_43_2 <| And.intro @fp_43_3 <| And.intro @fp_43_4 <| And.intro @ia_39_0 <| And.intro @ia_39_1 <| And.intro @ia_39_2 <| And.intro @ia_40_0 <| And.intro @ia_40_1 <| And.intro @ia_40_2 <| And.intro @ix_41 <| And.intro @ld_25 <| And.intro @ld_3 <| And.intro @ld_41 <| And.intro @len_41 <| And.intro @part_143 <| And.intro @part_25 <| And.intro @part_3 <| And.intro @size_143 <| And.intro @size_25 <| And.intro @size_3 <| And.intro @size_39 <| And.intro @size_40 <| And.intro @size_41 <| And.intro @und_39 <| And.intro @und_40 <| And.intro @und_41 <| And.intro @xi_39_0 <| And.intro @xi_39_1 <| And.intro @xi_39_2 <| And.intro @zero_39 <| And.intro @zero_40 @zero_41

/-- the cells of a sheet of tints -/
def TintS.cells (s : TintS) (v : Value) : List Value := [.int .i64 s.o1, .int .i64 s.o2, .int .i64 s.o3, .int .i64 s.f1.lo, .int .i64 s.f1.hi, .int .i64 s.f2.lo, .int .i64 s.f2.hi, .int .i64 s.f3.lo, .int .i64 s.f3.hi, .int .i64 s.years.lo, .int .i64 s.years.hi, .int .i64 s.off, v]
def Sp.ok (x : Sp) (most : Int) : Bool := spanP x.lo x.hi most
def TintS.old (s : TintS) : Nat → Int
  | 0 => s.o1
  | 1 => s.o2
  | _ => s.o3
def TintS.fade (s : TintS) : Nat → Sp
  | 0 => s.f1
  | 1 => s.f2
  | _ => s.f3
def Tin.pig (t : Tin) : Nat → Sp
  | 0 => t.a
  | 1 => t.b
  | _ => t.c
def TintS.okP (s : TintS) (p : Nat) : Bool := inP (s.old p) 0 99 && ((s.fade p).ok 9 && s.tins.all fun t => (t.pig p).ok 99)
/-- a sheet of tints that is as defined -/
structure TintS.Good (s : TintS) : Prop where
  years : s.years.ok 20 = true
  off : inP s.off 1 20 = true
  tins : inP s.tins.length 1 4 = true
  pigs : ∀ p, p < 3 → s.okP p = true

theorem take_two {l : List Value} {p : Nat} {a b : Value} (h1 : l[p]? = some a) (h2 : l[p + 1]? = some b) : take? l p 2 = some [a, b] := by
  unfold take?
  have : (l.drop p).take 2 = [a, b] := by
    obtain ⟨w1, e1⟩ := List.getElem?_eq_some_iff.1 h1
    obtain ⟨w2, e2⟩ := List.getElem?_eq_some_iff.1 h2
    rw [List.drop_eq_getElem_cons w1, List.drop_eq_getElem_cons w2, e1, e2]; rfl
  rw [this]; rfl
set_option maxRecDepth 10000 in
set_option maxHeartbeats 4000000 in
theorem Sheet_7 {v : Value} {s : TintS} {h : Heap} (hk : HOK h) (hv : LS h v s.tins Tin.cells 6) (hl : s.tins.length ≤ 1000) :
    CW CC 16 [.agg ⟨s.cells v⟩] h fun r h' => (∃ b, r = .bool b ∧ (b = true → s.Good)) ∧ Fr h h' := by
  obtain ⟨q, c, rfl, hx⟩ := hv.open
  unfold TintS.cells
  refine CW_in Tryz.f16 (by kernel_rfl) (by kernel_rfl) rfl rfl ?_
  simp only [Tryz.f16]
  obtain ⟨R, hR⟩ : ∃ R, R = [Value.int .i64 s.o1, .int .i64 s.o2, .int .i64 s.o3, .int .i64 s.f1.lo, .int .i64 s.f1.hi, .int .i64 s.f2.lo, .int .i64 s.f2.hi, .int .i64 s.f3.lo, .int .i64 s.f3.hi, .int .i64 s.years.lo, .int .i64 s.years.hi, .int .i64 s.off, .slice q s.tins.length c] := ⟨_, rfl⟩
  have f1 : Fr h (h.alloc (.row R 0 true)) := (Fr.refl hk).alloc _
  have r1 : rowAt (h.alloc (.row R 0 true)) h.next = some R := rowAt_new _ _ _ _
  rw [hR] at f1 r1
  simp (maxDischargeDepth := 30) only [AMS, AMH, ↓reduceIte, Nat.reduceLT, Nat.reduceEqDiff, Nat.reduceAdd, Nat.reduceMul, reduceCtorEq, decide_true, decide_false, Nat.reduceLeDiff, Int.reduceNe, Int.reduceEq, ne_eq, not_false_eq_true, and_self, F16_T72, hk]
  rw [← hR] at f1 r1
  rw [← hR]
  generalize (h.alloc (.row R 0 true)) = h1 at f1 r1 ⊢
  subst hR
  have k1 := f1.ok
  have no : ∀ {h'}, Fr h h' → (∃ b, (Value.bool false) = .bool b ∧ (b = true → s.Good)) ∧ Fr h h' := fun f => ⟨⟨false, rfl, fun e => by cases e⟩, f⟩
  refine W_call (span_7 _ _ _ k1) ?_
  rintro _ h2 ⟨rfl, fr2⟩
  have f2 := f1.trans fr2
  have k2 := f2.ok
  have r2 := fr2.row' k1 r1
  cases hy : spanP s.years.lo s.years.hi 20 with
  | false =>
    simp (maxDischargeDepth := 30) only [AMS, AMH, ↓reduceIte, Nat.reduceLT, Nat.reduceEqDiff, Nat.reduceAdd, Nat.reduceMul, reduceCtorEq, decide_true, decide_false, Nat.reduceLeDiff, Int.reduceNe, Int.reduceEq, ne_eq, not_false_eq_true, and_self, F16_T72, k2, r2]
    exact no f2
  | true =>
  cases ho : inP s.off 1 20 with
  | false =>
    simp (maxDischargeDepth := 30) only [AMS, AMH, ↓reduceIte, Nat.reduceLT, Nat.reduceEqDiff, Nat.reduceAdd, Nat.reduceMul, reduceCtorEq, decide_true, decide_false, Nat.reduceLeDiff, Int.reduceNe, Int.reduceEq, ne_eq, not_false_eq_true, and_self, F16_T72, k2, r2, off_7, ho]
    exact no f2
  | true =>
  cases hn : inP s.tins.length 1 4 with
  | false =>
    simp (maxDischargeDepth := 30) only [AMS, AMH, ↓reduceIte, Nat.reduceLT, Nat.reduceEqDiff, Nat.reduceAdd, Nat.reduceMul, reduceCtorEq, decide_true, decide_false, Nat.reduceLeDiff, Int.reduceNe, Int.reduceEq, ne_eq, not_false_eq_true, and_self, F16_T72, k2, r2, off_7, ho, in_7, hn]
    exact no f2
  | true =>
  simp (maxDischargeDepth := 30) only [AMS, AMH, ↓reduceIte, Nat.reduceLT, Nat.reduceEqDiff, Nat.reduceAdd, Nat.reduceMul, reduceCtorEq, decide_true, decide_false, Nat.reduceLeDiff, Int.reduceNe, Int.reduceEq, ne_eq, not_false_eq_true, and_self, F16_T72, k2, r2, off_7, ho, in_7, hn]
  refine W_loop 3 (fun m f h' => ∃ p : Nat, p ≤ 3 ∧ m = 3 - p ∧ f 1 = .pointer (some ⟨h.next, 0, none⟩) ∧ f 3 = .int .i64 (p : Int) ∧ (∀ j, j < p → s.okP j = true) ∧ Fr h2 h')
    ⟨0, by omega, by omega, by simp [upd_at, argsFn_at], by simp [upd_at], fun j hj => by omega, Fr.refl k2⟩ ?_
  rintro m f h3 ⟨p, hp, rfl, g1, g3, hall, fr3⟩ ih
  have f3 := f2.trans fr3
  have k3 := f3.ok
  have r3 := fr3.row' k2 r2
  have hp' : p = 0 ∨ p = 1 ∨ p = 2 ∨ p = 3 := by omega
  rcases hp' with rfl | rfl | rfl | rfl
  · have g3 : f 3 = .int .i64 0 := g3
    have d3 : decide ((0 : Int) < 3) = true := rfl
    have up : IntKind.i64.wrap ((0 : Int) + 1) = ((1 : Nat) : Int) := rfl
    cases h0 : inP s.o1 0 99 with
    | false =>
      simp (maxDischargeDepth := 30) only [AMS, AMH, ↓reduceIte, Nat.reduceLT, Nat.reduceEqDiff, Nat.reduceAdd, Nat.reduceMul, reduceCtorEq, decide_true, decide_false, Nat.reduceLeDiff, Int.reduceNe, Int.reduceEq, ne_eq, not_false_eq_true, and_self, F16_T72, k3, r3, g1, g3, d3, in_7, h0]
      exact no f3
    | true =>
    simp (maxDischargeDepth := 30) only [AMS, AMH, ↓reduceIte, Nat.reduceLT, Nat.reduceEqDiff, Nat.reduceAdd, Nat.reduceMul, reduceCtorEq, decide_true, decide_false, Nat.reduceLeDiff, Int.reduceNe, Int.reduceEq, ne_eq, not_false_eq_true, and_self, F16_T72, k3, r3, g1, g3, d3, in_7, h0]
    refine W_call (span_7 _ _ _ k3) ?_
    rintro _ h4 ⟨rfl, fr4⟩
    have f4 := f3.trans fr4
    have k4 := f4.ok
    have r4 := fr4.row' k3 r3
    cases hf : spanP s.f1.lo s.f1.hi 9 with
    | false =>
      simp (maxDischargeDepth := 30) only [AMS, AMH, ↓reduceIte, Nat.reduceLT, Nat.reduceEqDiff, Nat.reduceAdd, Nat.reduceMul, reduceCtorEq, decide_true, decide_false, Nat.reduceLeDiff, Int.reduceNe, Int.reduceEq, ne_eq, not_false_eq_true, and_self, F16_T72, k4, r4, g1, g3]
      exact no f4
    | true =>
    simp (maxDischargeDepth := 30) only [AMS, AMH, ↓reduceIte, Nat.reduceLT, Nat.reduceEqDiff, Nat.reduceAdd, Nat.reduceMul, reduceCtorEq, decide_true, decide_false, Nat.reduceLeDiff, Int.reduceNe, Int.reduceEq, ne_eq, not_false_eq_true, and_self, F16_T72, k4, r4, g1, g3]
    refine W_loop s.tins.length (fun m f h' => ∃ i, i ≤ s.tins.length ∧ m = s.tins.length - i ∧ f 1 = .pointer (some ⟨h.next, 0, none⟩) ∧ f 3 = .int .i64 0 ∧ f 4 = .int .i64 (i : Int) ∧ (∀ (j : Nat) t, j < i → s.tins[j]? = some t → t.a.ok 99 = true) ∧ Fr h4 h')
      ⟨0, by omega, by omega, by simp [upd_at, g1], by simp [upd_at, g3], by simp [upd_at], fun j t hj => by omega, Fr.refl k4⟩ ?_
    rintro m f' h5 ⟨i, hi, rfl, e1, e3, e4, hal, fr5⟩ ih2
    have f5 := f4.trans fr5
    have k5 := f5.ok
    have r5 := fr5.row' k4 r4
    by_cases hil : i < s.tins.length
    · obtain ⟨t, gt⟩ : ∃ t, s.tins[i]? = some t := ⟨_, List.getElem?_eq_getElem hil⟩
      rcases hx with hx | ⟨b, o, sp, row, rfl, hr, hx⟩
      · rw [hx] at hil; simp at hil
      have hc1 : row[o + i * 6]? = some (.int .i64 t.a.lo) := by simpa [Tin.cells] using (hx _ _ gt).2 0 (by omega)
      have hc2 : row[o + i * 6 + 1]? = some (.int .i64 t.a.hi) := by simpa [Tin.cells] using (hx _ _ gt).2 1 (by omega)
      have hc : take? row (o + i * 6) 2 = some [.int .i64 t.a.lo, .int .i64 t.a.hi] := take_two hc1 hc2
      have hr5 := f5.row' hk hr
      simp (maxDischargeDepth := 30) only [AMS, AMH, ↓reduceIte, Nat.reduceLT, Nat.reduceEqDiff, Nat.reduceAdd, Nat.reduceMul, reduceCtorEq, decide_true, decide_false, Nat.reduceLeDiff, Int.reduceNe, Int.reduceEq, ne_eq, not_false_eq_true, and_self, F16_T72, k5, r5, e1, e3, e4, lt_t hil, hil, hr5, hc, Nat.add_zero]
      refine W_call (span_7 _ _ _ k5) ?_
      rintro _ h6 ⟨rfl, fr6⟩
      have f6 := f5.trans fr6
      cases ht : spanP t.a.lo t.a.hi 99 with
      | false =>
        simp (maxDischargeDepth := 30) only [AMS, AMH, ↓reduceIte, Nat.reduceLT, Nat.reduceEqDiff, Nat.reduceAdd, Nat.reduceMul, reduceCtorEq, decide_true, decide_false, Nat.reduceLeDiff, Int.reduceNe, Int.reduceEq, ne_eq, not_false_eq_true, and_self, F16_T72, f6.ok]
        exact no f6
      | true =>
        simp (maxDischargeDepth := 30) only [AMS, AMH, ↓reduceIte, Nat.reduceLT, Nat.reduceEqDiff, Nat.reduceAdd, Nat.reduceMul, reduceCtorEq, decide_true, decide_false, Nat.reduceLeDiff, Int.reduceNe, Int.reduceEq, ne_eq, not_false_eq_true, and_self, F16_T72, f6.ok, e1, e3, e4, i_next hil hl]
        refine ih2 (s.tins.length - (i + 1)) _ _ (by omega) ?_
        refine ⟨i + 1, by omega, rfl, by simp [upd_at, e1], by simp [upd_at, e3], by simp [upd_at], fun j y hj hy => ?_, fr5.trans fr6⟩
        rcases Nat.lt_or_ge j i with w | w
        · exact hal j y w hy
        · have : j = i := by omega
          subst this
          rw [gt] at hy; simp at hy; subst hy; exact ht
    · have : i = s.tins.length := by omega
      subst this
      simp (maxDischargeDepth := 30) only [AMS, AMH, ↓reduceIte, Nat.reduceLT, Nat.reduceEqDiff, Nat.reduceAdd, Nat.reduceMul, reduceCtorEq, decide_true, decide_false, Nat.reduceLeDiff, Int.reduceNe, Int.reduceEq, ne_eq, not_false_eq_true, and_self, F16_T72, k5, r5, e1, e3, e4, lt_f, up]
      refine ih 2 _ _ (by omega) ?_
      refine ⟨1, by omega, by omega, by simp [upd_at, e1], by simp [upd_at], fun j hj => ?_, fr3.trans (fr4.trans fr5)⟩
      rcases Nat.lt_or_ge j 0 with w | w
      · exact hall j w
      · have : j = 0 := by omega
        subst this
        have ha : (s.tins.all fun t => (t.pig 0).ok 99) = true := by
          rw [List.all_eq_true]
          intro t ht
          obtain ⟨j, hj⟩ := List.mem_iff_getElem?.1 ht
          exact hal j t (List.getElem?_eq_some_iff.1 hj).1 hj
        show (inP s.o1 0 99 && (spanP s.f1.lo s.f1.hi 9 && s.tins.all fun t => (t.pig 0).ok 99)) = true
        rw [h0, hf, ha]; rfl
  · have g3 : f 3 = .int .i64 1 := g3
    have d3 : decide ((1 : Int) < 3) = true := rfl
    have up : IntKind.i64.wrap ((1 : Int) + 1) = ((2 : Nat) : Int) := rfl
    cases h0 : inP s.o2 0 99 with
    | false =>
      simp (maxDischargeDepth := 30) only [AMS, AMH, ↓reduceIte, Nat.reduceLT, Nat.reduceEqDiff, Nat.reduceAdd, Nat.reduceMul, reduceCtorEq, decide_true, decide_false, Nat.reduceLeDiff, Int.reduceNe, Int.reduceEq, ne_eq, not_false_eq_true, and_self, F16_T72, k3, r3, g1, g3, d3, in_7, h0]
      exact no f3
    | true =>
    simp (maxDischargeDepth := 30) only [AMS, AMH, ↓reduceIte, Nat.reduceLT, Nat.reduceEqDiff, Nat.reduceAdd, Nat.reduceMul, reduceCtorEq, decide_true, decide_false, Nat.reduceLeDiff, Int.reduceNe, Int.reduceEq, ne_eq, not_false_eq_true, and_self, F16_T72, k3, r3, g1, g3, d3, in_7, h0]
    refine W_call (span_7 _ _ _ k3) ?_
    rintro _ h4 ⟨rfl, fr4⟩
    have f4 := f3.trans fr4
    have k4 := f4.ok
    have r4 := fr4.row' k3 r3
    cases hf : spanP s.f2.lo s.f2.hi 9 with
    | false =>
      simp (maxDischargeDepth := 30) only [AMS, AMH, ↓reduceIte, Nat.reduceLT, Nat.reduceEqDiff, Nat.reduceAdd, Nat.reduceMul, reduceCtorEq, decide_true, decide_false, Nat.reduceLeDiff, Int.reduceNe, Int.reduceEq, ne_eq, not_false_eq_true, and_self, F16_T72, k4, r4, g1, g3]
      exact no f4
    | true =>
    simp (maxDischargeDepth := 30) only [AMS, AMH, ↓reduceIte, Nat.reduceLT, Nat.reduceEqDiff, Nat.reduceAdd, Nat.reduceMul, reduceCtorEq, decide_true, decide_false, Nat.reduceLeDiff, Int.reduceNe, Int.reduceEq, ne_eq, not_false_eq_true, and_self, F16_T72, k4, r4, g1, g3]
    refine W_loop s.tins.length (fun m f h' => ∃ i, i ≤ s.tins.length ∧ m = s.tins.length - i ∧ f 1 = .pointer (some ⟨h.next, 0, none⟩) ∧ f 3 = .int .i64 1 ∧ f 4 = .int .i64 (i : Int) ∧ (∀ (j : Nat) t, j < i → s.tins[j]? = some t → t.b.ok 99 = true) ∧ Fr h4 h')
      ⟨0, by omega, by omega, by simp [upd_at, g1], by simp [upd_at, g3], by simp [upd_at], fun j t hj => by omega, Fr.refl k4⟩ ?_
    rintro m f' h5 ⟨i, hi, rfl, e1, e3, e4, hal, fr5⟩ ih2
    have f5 := f4.trans fr5
    have k5 := f5.ok
    have r5 := fr5.row' k4 r4
    by_cases hil : i < s.tins.length
    · obtain ⟨t, gt⟩ : ∃ t, s.tins[i]? = some t := ⟨_, List.getElem?_eq_getElem hil⟩
      rcases hx with hx | ⟨b, o, sp, row, rfl, hr, hx⟩
      · rw [hx] at hil; simp at hil
      have hc1 : row[o + i * 6 + 2]? = some (.int .i64 t.b.lo) := by simpa [Tin.cells] using (hx _ _ gt).2 2 (by omega)
      have hc2 : row[o + i * 6 + 3]? = some (.int .i64 t.b.hi) := by simpa [Tin.cells] using (hx _ _ gt).2 3 (by omega)
      have hc : take? row (o + i * 6 + 2) 2 = some [.int .i64 t.b.lo, .int .i64 t.b.hi] := take_two hc1 hc2
      have hr5 := f5.row' hk hr
      simp (maxDischargeDepth := 30) only [AMS, AMH, ↓reduceIte, Nat.reduceLT, Nat.reduceEqDiff, Nat.reduceAdd, Nat.reduceMul, reduceCtorEq, decide_true, decide_false, Nat.reduceLeDiff, Int.reduceNe, Int.reduceEq, ne_eq, not_false_eq_true, and_self, F16_T72, k5, r5, e1, e3, e4, lt_t hil, hil, hr5, hc, Nat.add_zero]
      refine W_call (span_7 _ _ _ k5) ?_
      rintro _ h6 ⟨rfl, fr6⟩
      have f6 := f5.trans fr6
      cases ht : spanP t.b.lo t.b.hi 99 with
      | false =>
        simp (maxDischargeDepth := 30) only [AMS, AMH, ↓reduceIte, Nat.reduceLT, Nat.reduceEqDiff, Nat.reduceAdd, Nat.reduceMul, reduceCtorEq, decide_true, decide_false, Nat.reduceLeDiff, Int.reduceNe, Int.reduceEq, ne_eq, not_false_eq_true, and_self, F16_T72, f6.ok]
        exact no f6
      | true =>
        simp (maxDischargeDepth := 30) only [AMS, AMH, ↓reduceIte, Nat.reduceLT, Nat.reduceEqDiff, Nat.reduceAdd, Nat.reduceMul, reduceCtorEq, decide_true, decide_false, Nat.reduceLeDiff, Int.reduceNe, Int.reduceEq, ne_eq, not_false_eq_true, and_self, F16_T72, f6.ok, e1, e3, e4, i_next hil hl]
        refine ih2 (s.tins.length - (i + 1)) _ _ (by omega) ?_
        refine ⟨i + 1, by omega, rfl, by simp [upd_at, e1], by simp [upd_at, e3], by simp [upd_at], fun j y hj hy => ?_, fr5.trans fr6⟩
        rcases Nat.lt_or_ge j i with w | w
        · exact hal j y w hy
        · have : j = i := by omega
          subst this
          rw [gt] at hy; simp at hy; subst hy; exact ht
    · have : i = s.tins.length := by omega
      subst this
      simp (maxDischargeDepth := 30) only [AMS, AMH, ↓reduceIte, Nat.reduceLT, Nat.reduceEqDiff, Nat.reduceAdd, Nat.reduceMul, reduceCtorEq, decide_true, decide_false, Nat.reduceLeDiff, Int.reduceNe, Int.reduceEq, ne_eq, not_false_eq_true, and_self, F16_T72, k5, r5, e1, e3, e4, lt_f, up]
      refine ih 1 _ _ (by omega) ?_
      refine ⟨2, by omega, by omega, by simp [upd_at, e1], by simp [upd_at], fun j hj => ?_, fr3.trans (fr4.trans fr5)⟩
      rcases Nat.lt_or_ge j 1 with w | w
      · exact hall j w
      · have : j = 1 := by omega
        subst this
        have ha : (s.tins.all fun t => (t.pig 1).ok 99) = true := by
          rw [List.all_eq_true]
          intro t ht
          obtain ⟨j, hj⟩ := List.mem_iff_getElem?.1 ht
          exact hal j t (List.getElem?_eq_some_iff.1 hj).1 hj
        show (inP s.o2 0 99 && (spanP s.f2.lo s.f2.hi 9 && s.tins.all fun t => (t.pig 1).ok 99)) = true
        rw [h0, hf, ha]; rfl
  · have g3 : f 3 = .int .i64 2 := g3
    have d3 : decide ((2 : Int) < 3) = true := rfl
    have up : IntKind.i64.wrap ((2 : Int) + 1) = ((3 : Nat) : Int) := rfl
    cases h0 : inP s.o3 0 99 with
    | false =>
      simp (maxDischargeDepth := 30) only [AMS, AMH, ↓reduceIte, Nat.reduceLT, Nat.reduceEqDiff, Nat.reduceAdd, Nat.reduceMul, reduceCtorEq, decide_true, decide_false, Nat.reduceLeDiff, Int.reduceNe, Int.reduceEq, ne_eq, not_false_eq_true, and_self, F16_T72, k3, r3, g1, g3, d3, in_7, h0]
      exact no f3
    | true =>
    simp (maxDischargeDepth := 30) only [AMS, AMH, ↓reduceIte, Nat.reduceLT, Nat.reduceEqDiff, Nat.reduceAdd, Nat.reduceMul, reduceCtorEq, decide_true, decide_false, Nat.reduceLeDiff, Int.reduceNe, Int.reduceEq, ne_eq, not_false_eq_true, and_self, F16_T72, k3, r3, g1, g3, d3, in_7, h0]
    refine W_call (span_7 _ _ _ k3) ?_
    rintro _ h4 ⟨rfl, fr4⟩
    have f4 := f3.trans fr4
    have k4 := f4.ok
    have r4 := fr4.row' k3 r3
    cases hf : spanP s.f3.lo s.f3.hi 9 with
    | false =>
      simp (maxDischargeDepth := 30) only [AMS, AMH, ↓reduceIte, Nat.reduceLT, Nat.reduceEqDiff, Nat.reduceAdd, Nat.reduceMul, reduceCtorEq, decide_true, decide_false, Nat.reduceLeDiff, Int.reduceNe, Int.reduceEq, ne_eq, not_false_eq_true, and_self, F16_T72, k4, r4, g1, g3]
      exact no f4
    | true =>
    simp (maxDischargeDepth := 30) only [AMS, AMH, ↓reduceIte, Nat.reduceLT, Nat.reduceEqDiff, Nat.reduceAdd, Nat.reduceMul, reduceCtorEq, decide_true, decide_false, Nat.reduceLeDiff, Int.reduceNe, Int.reduceEq, ne_eq, not_false_eq_true, and_self, F16_T72, k4, r4, g1, g3]
    refine W_loop s.tins.length (fun m f h' => ∃ i, i ≤ s.tins.length ∧ m = s.tins.length - i ∧ f 1 = .pointer (some ⟨h.next, 0, none⟩) ∧ f 3 = .int .i64 2 ∧ f 4 = .int .i64 (i : Int) ∧ (∀ (j : Nat) t, j < i → s.tins[j]? = some t → t.c.ok 99 = true) ∧ Fr h4 h')
      ⟨0, by omega, by omega, by simp [upd_at, g1], by simp [upd_at, g3], by simp [upd_at], fun j t hj => by omega, Fr.refl k4⟩ ?_
    rintro m f' h5 ⟨i, hi, rfl, e1, e3, e4, hal, fr5⟩ ih2
    have f5 := f4.trans fr5
    have k5 := f5.ok
    have r5 := fr5.row' k4 r4
    by_cases hil : i < s.tins.length
    · obtain ⟨t, gt⟩ : ∃ t, s.tins[i]? = some t := ⟨_, List.getElem?_eq_getElem hil⟩
      rcases hx with hx | ⟨b, o, sp, row, rfl, hr, hx⟩
      · rw [hx] at hil; simp at hil
      have hc1 : row[o + i * 6 + 4]? = some (.int .i64 t.c.lo) := by simpa [Tin.cells] using (hx _ _ gt).2 4 (by omega)
      have hc2 : row[o + i * 6 + 5]? = some (.int .i64 t.c.hi) := by simpa [Tin.cells] using (hx _ _ gt).2 5 (by omega)
      have hc : take? row (o + i * 6 + 4) 2 = some [.int .i64 t.c.lo, .int .i64 t.c.hi] := take_two hc1 hc2
      have hr5 := f5.row' hk hr
      simp (maxDischargeDepth := 30) only [AMS, AMH, ↓reduceIte, Nat.reduceLT, Nat.reduceEqDiff, Nat.reduceAdd, Nat.reduceMul, reduceCtorEq, decide_true, decide_false, Nat.reduceLeDiff, Int.reduceNe, Int.reduceEq, ne_eq, not_false_eq_true, and_self, F16_T72, k5, r5, e1, e3, e4, lt_t hil, hil, hr5, hc, Nat.add_zero]
      refine W_call (span_7 _ _ _ k5) ?_
      rintro _ h6 ⟨rfl, fr6⟩
      have f6 := f5.trans fr6
      cases ht : spanP t.c.lo t.c.hi 99 with
      | false =>
        simp (maxDischargeDepth := 30) only [AMS, AMH, ↓reduceIte, Nat.reduceLT, Nat.reduceEqDiff, Nat.reduceAdd, Nat.reduceMul, reduceCtorEq, decide_true, decide_false, Nat.reduceLeDiff, Int.reduceNe, Int.reduceEq, ne_eq, not_false_eq_true, and_self, F16_T72, f6.ok]
        exact no f6
      | true =>
        simp (maxDischargeDepth := 30) only [AMS, AMH, ↓reduceIte, Nat.reduceLT, Nat.reduceEqDiff, Nat.reduceAdd, Nat.reduceMul, reduceCtorEq, decide_true, decide_false, Nat.reduceLeDiff, Int.reduceNe, Int.reduceEq, ne_eq, not_false_eq_true, and_self, F16_T72, f6.ok, e1, e3, e4, i_next hil hl]
        refine ih2 (s.tins.length - (i + 1)) _ _ (by omega) ?_
        refine ⟨i + 1, by omega, rfl, by simp [upd_at, e1], by simp [upd_at, e3], by simp [upd_at], fun j y hj hy => ?_, fr5.trans fr6⟩
        rcases Nat.lt_or_ge j i with w | w
        · exact hal j y w hy
        · have : j = i := by omega
          subst this
          rw [gt] at hy; simp at hy; subst hy; exact ht
    · have : i = s.tins.length := by omega
      subst this
      simp (maxDischargeDepth := 30) only [AMS, AMH, ↓reduceIte, Nat.reduceLT, Nat.reduceEqDiff, Nat.reduceAdd, Nat.reduceMul, reduceCtorEq, decide_true, decide_false, Nat.reduceLeDiff, Int.reduceNe, Int.reduceEq, ne_eq, not_false_eq_true, and_self, F16_T72, k5, r5, e1, e3, e4, lt_f, up]
      refine ih 0 _ _ (by omega) ?_
      refine ⟨3, by omega, by omega, by simp [upd_at, e1], by simp [upd_at], fun j hj => ?_, fr3.trans (fr4.trans fr5)⟩
      rcases Nat.lt_or_ge j 2 with w | w
      · exact hall j w
      · have : j = 2 := by omega
        subst this
        have ha : (s.tins.all fun t => (t.pig 2).ok 99) = true := by
          rw [List.all_eq_true]
          intro t ht
          obtain ⟨j, hj⟩ := List.mem_iff_getElem?.1 ht
          exact hal j t (List.getElem?_eq_some_iff.1 hj).1 hj
        show (inP s.o3 0 99 && (spanP s.f3.lo s.f3.hi 9 && s.tins.all fun t => (t.pig 2).ok 99)) = true
        rw [h0, hf, ha]; rfl
  · have g3 : f 3 = .int .i64 3 := g3
    have d3 : decide ((3 : Int) < 3) = false := rfl
    simp (maxDischargeDepth := 30) only [AMS, AMH, ↓reduceIte, Nat.reduceLT, Nat.reduceEqDiff, Nat.reduceAdd, Nat.reduceMul, reduceCtorEq, decide_true, decide_false, Nat.reduceLeDiff, Int.reduceNe, Int.reduceEq, ne_eq, not_false_eq_true, and_self, F16_T72, k3, g1, g3, d3]
    exact ⟨⟨true, by first | rfl | trivial, fun _ => ⟨hy, ho, hn, hall⟩⟩, f3⟩
end Go.Am

/- The abstract machine over this program: sheets of tints that are as defined, of the program; mixtures. -/
namespace Go.Am
open Go Go.Proofs
theorem F48_T73 : type_of% (And.intro @fp_43_0 <| And.intro @fp_43_1 <| And.intro @fp_43_2 <| And.intro @fp_43_3 <| And.intro @fp_43_4 <| And.intro @ia_39_0 <| And.intro @ia_39_1 <| And.intro @ia_39_2 <| And.intro @ia_40_0 <| And.intro @ia_40_1 <| And.intro @ia_40_2 <| And.intro @ld_25 <| And.intro @ld_3 <| And.intro @ld_41 <| And.intro @len_41 <| And.intro @part_25 <| And.intro @part_3 <| And.intro @size_25 <| And.intro @size_3 <| And.intro @size_39 <| And.intro @size_40 <| And.intro @und_3 <| And.intro @und_39 <| And.intro @und_40 <| And.intro @xi_39_0 <| And.intro @xi_39_1 <| And.intro @xi_39_2 <| And.intro @zero_3 <| And.intro @zero_39 @zero_40) := And.intro @fp_43_0 <| And.intro @fp_43_1 <| And.intro @fp_43_2 <| And.intro @fp_43_3 <| And.intro @fp_43_4 <| And.intro @ia_39_0 <| And.intro @ia_39_1 <| And.intro @ia_39_2 <| And.intro @ia_40_0 <| And.intro @ia_40_1 <| And.intro @ia_40_2 <| And.intro @ld_25 <| And.intro @ld_3 <| And.intro @ld_41 <| And.intro @len_41 <| And.intro @part_25 <| And.intro @part_3 <| And.intro @size_25 <| And.intro @size_3 <| And.intro @size_39 <| And.intro @size_40 <| And.intro @und_3 <| And.intro @und_39 <| And.intro @und_40 <| And.intro @xi_39_0 <| And.intro @xi_39_1 <| And.intro @xi_39_2 <| And.intro @zero_3 <| And.intro @zero_39 @zero_40
theorem F134_T73 : type_of% (And.intro @fp_143_0 <| And.intro @ia_40_0 <| And.intro @ia_40_1 <| And.intro @ia_40_2 <| And.intro @ld_25 <| And.intro @ld_3 <| And.intro @part_25 <| And.intro @size_25 <| And.intro @size_40 <| And.intro @und_40 @zero_40) := And.intro @fp_143_0 <| And.intro @ia_40_0 <| And.intro @ia_40_1 <| And.intro @ia_40_2 <| And.intro @ld_25 <| And.intro @ld_3 <| And.intro @part_25 <| And.intro @size_25 <| And.intro @size_40 <| And.intro @und_40 @zero_40

theorem sheet1_0 {b : Nat} {h : Heap} (hk : HOK h) (t : Tin) (hb : rowAt h b = some [.int .i64 0]) : ∃ h2, callF CC (Lim CC) 134 [.agg ⟨t.cells⟩, .pointer (some ⟨b, 0, none⟩)] h = some (.ret (.bool (!(t.a).ok 99)) h2 none) ∧ Fr h h2 := by
  have key : CW CC 134 [.agg ⟨t.cells⟩, .pointer (some ⟨b, 0, none⟩)] h fun r h' => r = .bool (!(t.a).ok 99) ∧ Fr h h' := by
    refine CW_in Tryz.f134 (by kernel_rfl) (by kernel_rfl) rfl rfl ?_
    simp only [Tryz.f134, Tin.cells]
    have f1 : Fr h (h.alloc (.row [.int .i64 t.a.lo, .int .i64 t.a.hi, .int .i64 t.b.lo, .int .i64 t.b.hi, .int .i64 t.c.lo, .int .i64 t.c.hi] 0 true)) := (Fr.refl hk).alloc _
    have hb1 := f1.row' hk hb
    have r1 : rowAt (h.alloc (.row [.int .i64 t.a.lo, .int .i64 t.a.hi, .int .i64 t.b.lo, .int .i64 t.b.hi, .int .i64 t.c.lo, .int .i64 t.c.hi] 0 true)) h.next = some [.int .i64 t.a.lo, .int .i64 t.a.hi, .int .i64 t.b.lo, .int .i64 t.b.hi, .int .i64 t.c.lo, .int .i64 t.c.hi] := rowAt_new _ _ _ _
    simp (maxDischargeDepth := 30) only [AMS, AMH, ↓reduceIte, Nat.reduceLT, Nat.reduceEqDiff, Nat.reduceAdd, Nat.reduceMul, reduceCtorEq, decide_true, decide_false, Nat.reduceLeDiff, Int.reduceNe, Int.reduceEq, ne_eq, not_false_eq_true, and_self, F134_T73, hk]
    generalize (h.alloc (.row [.int .i64 t.a.lo, .int .i64 t.a.hi, .int .i64 t.b.lo, .int .i64 t.b.hi, .int .i64 t.c.lo, .int .i64 t.c.hi] 0 true)) = h1 at f1 hb1 r1 ⊢
    simp (maxDischargeDepth := 30) only [AMS, AMH, ↓reduceIte, Nat.reduceLT, Nat.reduceEqDiff, Nat.reduceAdd, Nat.reduceMul, reduceCtorEq, decide_true, decide_false, Nat.reduceLeDiff, Int.reduceNe, Int.reduceEq, ne_eq, not_false_eq_true, and_self, F134_T73, f1.ok, hb1, r1]
    refine W_call (span_t _ _ _ f1.ok) ?_
    rintro _ h2 ⟨rfl, fr2⟩
    simp (maxDischargeDepth := 30) only [AMS, AMH, ↓reduceIte, Nat.reduceLT, Nat.reduceEqDiff, Nat.reduceAdd, Nat.reduceMul, reduceCtorEq, decide_true, decide_false, Nat.reduceLeDiff, Int.reduceNe, Int.reduceEq, ne_eq, not_false_eq_true, and_self, F134_T73, fr2.ok]
    exact ⟨by first | rfl | trivial, f1.trans fr2⟩
  obtain ⟨r, h2, e, rfl, f⟩ := key
  exact ⟨h2, e, f⟩
theorem sheet1_1 {b : Nat} {h : Heap} (hk : HOK h) (t : Tin) (hb : rowAt h b = some [.int .i64 1]) : ∃ h2, callF CC (Lim CC) 134 [.agg ⟨t.cells⟩, .pointer (some ⟨b, 0, none⟩)] h = some (.ret (.bool (!(t.b).ok 99)) h2 none) ∧ Fr h h2 := by
  have key : CW CC 134 [.agg ⟨t.cells⟩, .pointer (some ⟨b, 0, none⟩)] h fun r h' => r = .bool (!(t.b).ok 99) ∧ Fr h h' := by
    refine CW_in Tryz.f134 (by kernel_rfl) (by kernel_rfl) rfl rfl ?_
    simp only [Tryz.f134, Tin.cells]
    have f1 : Fr h (h.alloc (.row [.int .i64 t.a.lo, .int .i64 t.a.hi, .int .i64 t.b.lo, .int .i64 t.b.hi, .int .i64 t.c.lo, .int .i64 t.c.hi] 0 true)) := (Fr.refl hk).alloc _
    have hb1 := f1.row' hk hb
    have r1 : rowAt (h.alloc (.row [.int .i64 t.a.lo, .int .i64 t.a.hi, .int .i64 t.b.lo, .int .i64 t.b.hi, .int .i64 t.c.lo, .int .i64 t.c.hi] 0 true)) h.next = some [.int .i64 t.a.lo, .int .i64 t.a.hi, .int .i64 t.b.lo, .int .i64 t.b.hi, .int .i64 t.c.lo, .int .i64 t.c.hi] := rowAt_new _ _ _ _
    simp (maxDischargeDepth := 30) only [AMS, AMH, ↓reduceIte, Nat.reduceLT, Nat.reduceEqDiff, Nat.reduceAdd, Nat.reduceMul, reduceCtorEq, decide_true, decide_false, Nat.reduceLeDiff, Int.reduceNe, Int.reduceEq, ne_eq, not_false_eq_true, and_self, F134_T73, hk]
    generalize (h.alloc (.row [.int .i64 t.a.lo, .int .i64 t.a.hi, .int .i64 t.b.lo, .int .i64 t.b.hi, .int .i64 t.c.lo, .int .i64 t.c.hi] 0 true)) = h1 at f1 hb1 r1 ⊢
    simp (maxDischargeDepth := 30) only [AMS, AMH, ↓reduceIte, Nat.reduceLT, Nat.reduceEqDiff, Nat.reduceAdd, Nat.reduceMul, reduceCtorEq, decide_true, decide_false, Nat.reduceLeDiff, Int.reduceNe, Int.reduceEq, ne_eq, not_false_eq_true, and_self, F134_T73, f1.ok, hb1, r1]
    refine W_call (span_t _ _ _ f1.ok) ?_
    rintro _ h2 ⟨rfl, fr2⟩
    simp (maxDischargeDepth := 30) only [AMS, AMH, ↓reduceIte, Nat.reduceLT, Nat.reduceEqDiff, Nat.reduceAdd, Nat.reduceMul, reduceCtorEq, decide_true, decide_false, Nat.reduceLeDiff, Int.reduceNe, Int.reduceEq, ne_eq, not_false_eq_true, and_self, F134_T73, fr2.ok]
    exact ⟨by first | rfl | trivial, f1.trans fr2⟩
  obtain ⟨r, h2, e, rfl, f⟩ := key
  exact ⟨h2, e, f⟩
theorem sheet1_2 {b : Nat} {h : Heap} (hk : HOK h) (t : Tin) (hb : rowAt h b = some [.int .i64 2]) : ∃ h2, callF CC (Lim CC) 134 [.agg ⟨t.cells⟩, .pointer (some ⟨b, 0, none⟩)] h = some (.ret (.bool (!(t.c).ok 99)) h2 none) ∧ Fr h h2 := by
  have key : CW CC 134 [.agg ⟨t.cells⟩, .pointer (some ⟨b, 0, none⟩)] h fun r h' => r = .bool (!(t.c).ok 99) ∧ Fr h h' := by
    refine CW_in Tryz.f134 (by kernel_rfl) (by kernel_rfl) rfl rfl ?_
    simp only [Tryz.f134, Tin.cells]
    have f1 : Fr h (h.alloc (.row [.int .i64 t.a.lo, .int .i64 t.a.hi, .int .i64 t.b.lo, .int .i64 t.b.hi, .int .i64 t.c.lo, .int .i64 t.c.hi] 0 true)) := (Fr.refl hk).alloc _
    have hb1 := f1.row' hk hb
    have r1 : rowAt (h.alloc (.row [.int .i64 t.a.lo, .int .i64 t.a.hi, .int .i64 t.b.lo, .int .i64 t.b.hi, .int .i64 t.c.lo, .int .i64 t.c.hi] 0 true)) h.next = some [.int .i64 t.a.lo, .int .i64 t.a.hi, .int .i64 t.b.lo, .int .i64 t.b.hi, .int .i64 t.c.lo, .int .i64 t.c.hi] := rowAt_new _ _ _ _
    simp (maxDischargeDepth := 30) only [AMS, AMH, ↓reduceIte, Nat.reduceLT, Nat.reduceEqDiff, Nat.reduceAdd, Nat.reduceMul, reduceCtorEq, decide_true, decide_false, Nat.reduceLeDiff, Int.reduceNe, Int.reduceEq, ne_eq, not_false_eq_true, and_self, F134_T73, hk]
    generalize (h.alloc (.row [.int .i64 t.a.lo, .int .i64 t.a.hi, .int .i64 t.b.lo, .int .i64 t.b.hi, .int .i64 t.c.lo, .int .i64 t.c.hi] 0 true)) = h1 at f1 hb1 r1 ⊢
    simp (maxDischargeDepth := 30) only [AMS, AMH, ↓reduceIte, Nat.reduceLT, Nat.reduceEqDiff, Nat.reduceAdd, Nat.reduceMul, reduceCtorEq, decide_true, decide_false, Nat.reduceLeDiff, Int.reduceNe, Int.reduceEq, ne_eq, not_false_eq_true, and_self, F134_T73, f1.ok, hb1, r1]
    refine W_call (span_t _ _ _ f1.ok) ?_
    rintro _ h2 ⟨rfl, fr2⟩
    simp (maxDischargeDepth := 30) only [AMS, AMH, ↓reduceIte, Nat.reduceLT, Nat.reduceEqDiff, Nat.reduceAdd, Nat.reduceMul, reduceCtorEq, decide_true, decide_false, Nat.reduceLeDiff, Int.reduceNe, Int.reduceEq, ne_eq, not_false_eq_true, and_self, F134_T73, fr2.ok]
    exact ⟨by first | rfl | trivial, f1.trans fr2⟩
  obtain ⟨r, h2, e, rfl, f⟩ := key
  exact ⟨h2, e, f⟩
theorem any_none {α : Type} {l : List α} {g : α → Bool} (h : l.all g = true) : (l.any fun x => !g x) = false := by
  rw [List.any_eq_false]
  intro x hx
  rw [List.all_eq_true.1 h x hx]; simp
theorem TintS.Good.parts {s : TintS} (G : s.Good) (p : Nat) (hp : p < 3) : inP (s.old p) 0 99 = true ∧ spanP (s.fade p).lo (s.fade p).hi 9 = true ∧ (s.tins.all fun t => (t.pig p).ok 99) = true := by
  have := G.pigs p hp
  unfold TintS.okP at this
  rw [Bool.and_eq_true, Bool.and_eq_true] at this
  exact ⟨this.1, this.2.1, this.2.2⟩
set_option maxRecDepth 10000 in
set_option maxHeartbeats 4000000 in
theorem isSheet_t {v : Value} {s : TintS} {h : Heap} (hk : HOK h) (hv : LS h v s.tins Tin.cells 6) (G : s.Good) :
    CW CC 48 [.agg ⟨s.cells v⟩] h fun r h' => r = .bool true ∧ Fr h h' := by
  have hl : s.tins.length ≤ 1000 := by have := of_decide_eq_true G.tins; omega
  obtain ⟨q, c, rfl, _⟩ := hv.open
  unfold TintS.cells
  refine CW_in Tryz.f48 (by kernel_rfl) (by kernel_rfl) rfl rfl ?_
  simp only [Tryz.f48]
  obtain ⟨R, hR⟩ : ∃ R, R = [Value.int .i64 s.o1, .int .i64 s.o2, .int .i64 s.o3, .int .i64 s.f1.lo, .int .i64 s.f1.hi, .int .i64 s.f2.lo, .int .i64 s.f2.hi, .int .i64 s.f3.lo, .int .i64 s.f3.hi, .int .i64 s.years.lo, .int .i64 s.years.hi, .int .i64 s.off, .slice q s.tins.length c] := ⟨_, rfl⟩
  have f1 : Fr h (h.alloc (.row R 0 true)) := (Fr.refl hk).alloc _
  have r1 : rowAt (h.alloc (.row R 0 true)) h.next = some R := rowAt_new _ _ _ _
  rw [hR] at f1 r1
  simp (maxDischargeDepth := 30) only [AMS, AMH, ↓reduceIte, Nat.reduceLT, Nat.reduceEqDiff, Nat.reduceAdd, Nat.reduceMul, reduceCtorEq, decide_true, decide_false, Nat.reduceLeDiff, Int.reduceNe, Int.reduceEq, ne_eq, not_false_eq_true, and_self, F48_T73, hk]
  rw [← hR] at f1 r1
  rw [← hR]
  generalize (h.alloc (.row R 0 true)) = h1 at f1 r1 ⊢
  subst hR
  have k1 := f1.ok
  refine W_loop 3 (fun m f h' => ∃ p : Nat, p ≤ 3 ∧ m = 3 - p ∧ f 1 = .pointer (some ⟨h.next, 0, none⟩) ∧ f 4 = .int .i64 (p : Int) ∧ Fr h1 h')
    ⟨0, by omega, by omega, by simp [upd_at, argsFn_at], by simp [upd_at], Fr.refl k1⟩ ?_
  rintro m f h3 ⟨p, hp, rfl, g1, g4, fr3⟩ ih
  have f3 := f1.trans fr3
  have k3 := f3.ok
  have r3 := fr3.row' k1 r1
  have hp' : p = 0 ∨ p = 1 ∨ p = 2 ∨ p = 3 := by omega
  rcases hp' with rfl | rfl | rfl | rfl
  · have g4 : f 4 = .int .i64 0 := g4
    have d3 : decide ((0 : Int) < 3) = true := rfl
    have up : IntKind.i64.wrap ((0 : Int) + 1) = ((1 : Nat) : Int) := rfl
    obtain ⟨h0, hf, ha⟩ := G.parts 0 (by omega)
    have h0 : inP s.o1 0 99 = true := h0
    have hf : spanP s.f1.lo s.f1.hi 9 = true := hf
    have ha : (s.tins.any fun t => !(t.a).ok 99) = false := any_none ha
    have fa := ((Fr.refl k3).alloc (.row [.int .i64 0] 0 true)).set (Nat.le_refl _) (by simp) (.row [.int .i64 0] 0 true)
    have ra : rowAt ((h3.alloc (.row [.int .i64 0] 0 true)).set h3.next (.row [.int .i64 0] 0 true)) h3.next = some [.int .i64 0] := rowAt_set_self _ _ _ _ _
    have r4 := fa.row' k3 r3
    simp (maxDischargeDepth := 30) only [AMS, AMH, ↓reduceIte, Nat.reduceLT, Nat.reduceEqDiff, Nat.reduceAdd, Nat.reduceMul, reduceCtorEq, decide_true, decide_false, Nat.reduceLeDiff, Int.reduceNe, Int.reduceEq, ne_eq, not_false_eq_true, and_self, F48_T73, k3, r3, g1, g4, d3, in_t, h0, List.set_cons_zero]
    generalize ((h3.alloc (.row [.int .i64 0] 0 true)).set h3.next (.row [.int .i64 0] 0 true)) = h4 at fa ra r4 ⊢
    have k4 := fa.ok
    simp (maxDischargeDepth := 30) only [AMS, AMH, ↓reduceIte, Nat.reduceLT, Nat.reduceEqDiff, Nat.reduceAdd, Nat.reduceMul, reduceCtorEq, decide_true, decide_false, Nat.reduceLeDiff, Int.reduceNe, Int.reduceEq, ne_eq, not_false_eq_true, and_self, F48_T73, k4, r4, ra, g1, g4, d3, in_t, h0]
    refine W_call (span_t _ _ _ k4) ?_
    rintro _ h5 ⟨rfl, fr5⟩
    have k5 := fr5.ok
    have r5 := fr5.row' k4 r4
    have ra5 := fr5.row' k4 ra
    have f5 := (f3.trans fa).trans fr5
    rw [hf]
    simp (maxDischargeDepth := 30) only [AMS, AMH, ↓reduceIte, Nat.reduceLT, Nat.reduceEqDiff, Nat.reduceAdd, Nat.reduceMul, reduceCtorEq, decide_true, decide_false, Nat.reduceLeDiff, Int.reduceNe, Int.reduceEq, ne_eq, not_false_eq_true, and_self, F48_T73, k5, r5, ra5, g1, g4]
    refine W_call (contains_tins k5 (fun t => !(t.a).ok 99) (hv.fr hk f5) hl fun h6 f6 t _ => ?_) ?_
    · rw [V_clo]
      exact sheet1_0 f6.ok t (f6.row' k5 ra5)
    rintro _ h6 ⟨rfl, fr6⟩
    rw [ha]
    simp (maxDischargeDepth := 30) only [AMS, AMH, ↓reduceIte, Nat.reduceLT, Nat.reduceEqDiff, Nat.reduceAdd, Nat.reduceMul, reduceCtorEq, decide_true, decide_false, Nat.reduceLeDiff, Int.reduceNe, Int.reduceEq, ne_eq, not_false_eq_true, and_self, F48_T73, fr6.ok, g1, g4, up]
    refine ih 2 _ _ (by omega) ?_
    exact ⟨1, by omega, by omega, by simp [upd_at, g1], by simp [upd_at], ((fr3.trans fa).trans fr5).trans fr6⟩
  · have g4 : f 4 = .int .i64 1 := g4
    have d3 : decide ((1 : Int) < 3) = true := rfl
    have up : IntKind.i64.wrap ((1 : Int) + 1) = ((2 : Nat) : Int) := rfl
    obtain ⟨h0, hf, ha⟩ := G.parts 1 (by omega)
    have h0 : inP s.o2 0 99 = true := h0
    have hf : spanP s.f2.lo s.f2.hi 9 = true := hf
    have ha : (s.tins.any fun t => !(t.b).ok 99) = false := any_none ha
    have fa := ((Fr.refl k3).alloc (.row [.int .i64 0] 0 true)).set (Nat.le_refl _) (by simp) (.row [.int .i64 1] 0 true)
    have ra : rowAt ((h3.alloc (.row [.int .i64 0] 0 true)).set h3.next (.row [.int .i64 1] 0 true)) h3.next = some [.int .i64 1] := rowAt_set_self _ _ _ _ _
    have r4 := fa.row' k3 r3
    simp (maxDischargeDepth := 30) only [AMS, AMH, ↓reduceIte, Nat.reduceLT, Nat.reduceEqDiff, Nat.reduceAdd, Nat.reduceMul, reduceCtorEq, decide_true, decide_false, Nat.reduceLeDiff, Int.reduceNe, Int.reduceEq, ne_eq, not_false_eq_true, and_self, F48_T73, k3, r3, g1, g4, d3, in_t, h0, List.set_cons_zero]
    generalize ((h3.alloc (.row [.int .i64 0] 0 true)).set h3.next (.row [.int .i64 1] 0 true)) = h4 at fa ra r4 ⊢
    have k4 := fa.ok
    simp (maxDischargeDepth := 30) only [AMS, AMH, ↓reduceIte, Nat.reduceLT, Nat.reduceEqDiff, Nat.reduceAdd, Nat.reduceMul, reduceCtorEq, decide_true, decide_false, Nat.reduceLeDiff, Int.reduceNe, Int.reduceEq, ne_eq, not_false_eq_true, and_self, F48_T73, k4, r4, ra, g1, g4, d3, in_t, h0]
    refine W_call (span_t _ _ _ k4) ?_
    rintro _ h5 ⟨rfl, fr5⟩
    have k5 := fr5.ok
    have r5 := fr5.row' k4 r4
    have ra5 := fr5.row' k4 ra
    have f5 := (f3.trans fa).trans fr5
    rw [hf]
    simp (maxDischargeDepth := 30) only [AMS, AMH, ↓reduceIte, Nat.reduceLT, Nat.reduceEqDiff, Nat.reduceAdd, Nat.reduceMul, reduceCtorEq, decide_true, decide_false, Nat.reduceLeDiff, Int.reduceNe, Int.reduceEq, ne_eq, not_false_eq_true, and_self, F48_T73, k5, r5, ra5, g1, g4]
    refine W_call (contains_tins k5 (fun t => !(t.b).ok 99) (hv.fr hk f5) hl fun h6 f6 t _ => ?_) ?_
    · rw [V_clo]
      exact sheet1_1 f6.ok t (f6.row' k5 ra5)
    rintro _ h6 ⟨rfl, fr6⟩
    rw [ha]
    simp (maxDischargeDepth := 30) only [AMS, AMH, ↓reduceIte, Nat.reduceLT, Nat.reduceEqDiff, Nat.reduceAdd, Nat.reduceMul, reduceCtorEq, decide_true, decide_false, Nat.reduceLeDiff, Int.reduceNe, Int.reduceEq, ne_eq, not_false_eq_true, and_self, F48_T73, fr6.ok, g1, g4, up]
    refine ih 1 _ _ (by omega) ?_
    exact ⟨2, by omega, by omega, by simp [upd_at, g1], by simp [upd_at], ((fr3.trans fa).trans fr5).trans fr6⟩
  · have g4 : f 4 = .int .i64 2 := g4
    have d3 : decide ((2 : Int) < 3) = true := rfl
    have up : IntKind.i64.wrap ((2 : Int) + 1) = ((3 : Nat) : Int) := rfl
    obtain ⟨h0, hf, ha⟩ := G.parts 2 (by omega)
    have h0 : inP s.o3 0 99 = true := h0
    have hf : spanP s.f3.lo s.f3.hi 9 = true := hf
    have ha : (s.tins.any fun t => !(t.c).ok 99) = false := any_none ha
    have fa := ((Fr.refl k3).alloc (.row [.int .i64 0] 0 true)).set (Nat.le_refl _) (by simp) (.row [.int .i64 2] 0 true)
    have ra : rowAt ((h3.alloc (.row [.int .i64 0] 0 true)).set h3.next (.row [.int .i64 2] 0 true)) h3.next = some [.int .i64 2] := rowAt_set_self _ _ _ _ _
    have r4 := fa.row' k3 r3
    simp (maxDischargeDepth := 30) only [AMS, AMH, ↓reduceIte, Nat.reduceLT, Nat.reduceEqDiff, Nat.reduceAdd, Nat.reduceMul, reduceCtorEq, decide_true, decide_false, Nat.reduceLeDiff, Int.reduceNe, Int.reduceEq, ne_eq, not_false_eq_true, and_self, F48_T73, k3, r3, g1, g4, d3, in_t, h0, List.set_cons_zero]
    generalize ((h3.alloc (.row [.int .i64 0] 0 true)).set h3.next (.row [.int .i64 2] 0 true)) = h4 at fa ra r4 ⊢
    have k4 := fa.ok
    simp (maxDischargeDepth := 30) only [AMS, AMH, ↓reduceIte, Nat.reduceLT, Nat.reduceEqDiff, Nat.reduceAdd, Nat.reduceMul, reduceCtorEq, decide_true, decide_false, Nat.reduceLeDiff, Int.reduceNe, Int.reduceEq, ne_eq, not_false_eq_true, and_self, F48_T73, k4, r4, ra, g1, g4, d3, in_t, h0]
    refine W_call (span_t _ _ _ k4) ?_
    rintro _ h5 ⟨rfl, fr5⟩
    have k5 := fr5.ok
    have r5 := fr5.row' k4 r4
    have ra5 := fr5.row' k4 ra
    have f5 := (f3.trans fa).trans fr5
    rw [hf]
    simp (maxDischargeDepth := 30) only [AMS, AMH, ↓reduceIte, Nat.reduceLT, Nat.reduceEqDiff, Nat.reduceAdd, Nat.reduceMul, reduceCtorEq, decide_true, decide_false, Nat.reduceLeDiff, Int.reduceNe, Int.reduceEq, ne_eq, not_false_eq_true, and_self, F48_T73, k5, r5, ra5, g1, g4]
    refine W_call (contains_tins k5 (fun t => !(t.c).ok 99) (hv.fr hk f5) hl fun h6 f6 t _ => ?_) ?_
    · rw [V_clo]
      exact sheet1_2 f6.ok t (f6.row' k5 ra5)
    rintro _ h6 ⟨rfl, fr6⟩
    rw [ha]
    simp (maxDischargeDepth := 30) only [AMS, AMH, ↓reduceIte, Nat.reduceLT, Nat.reduceEqDiff, Nat.reduceAdd, Nat.reduceMul, reduceCtorEq, decide_true, decide_false, Nat.reduceLeDiff, Int.reduceNe, Int.reduceEq, ne_eq, not_false_eq_true, and_self, F48_T73, fr6.ok, g1, g4, up]
    refine ih 0 _ _ (by omega) ?_
    exact ⟨3, by omega, by omega, by simp [upd_at, g1], by simp [upd_at], ((fr3.trans fa).trans fr5).trans fr6⟩
  · have g4 : f 4 = .int .i64 3 := g4
    have d3 : decide ((3 : Int) < 3) = false := rfl
    have hy : spanP s.years.lo s.years.hi 20 = true := G.years
    simp (maxDischargeDepth := 30) only [AMS, AMH, ↓reduceIte, Nat.reduceLT, Nat.reduceEqDiff, Nat.reduceAdd, Nat.reduceMul, reduceCtorEq, decide_true, decide_false, Nat.reduceLeDiff, Int.reduceNe, Int.reduceEq, ne_eq, not_false_eq_true, and_self, F48_T73, k3, r3, g1, g4, d3]
    refine W_call (span_t _ _ _ k3) ?_
    rintro _ h4 ⟨rfl, fr4⟩
    have r4 := fr4.row' k3 r3
    rw [hy]
    simp (maxDischargeDepth := 30) only [AMS, AMH, ↓reduceIte, Nat.reduceLT, Nat.reduceEqDiff, Nat.reduceAdd, Nat.reduceMul, reduceCtorEq, decide_true, decide_false, Nat.reduceLeDiff, Int.reduceNe, Int.reduceEq, ne_eq, not_false_eq_true, and_self, F48_T73, fr4.ok, r4, g1, g4, in_t, G.off, G.tins]
    exact ⟨by first | rfl | trivial, f3.trans fr4⟩
end Go.Am
