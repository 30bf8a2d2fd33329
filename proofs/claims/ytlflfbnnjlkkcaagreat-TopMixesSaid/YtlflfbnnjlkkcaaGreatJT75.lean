/- The abstract machine over this program: how much a mixture has of a pigment, at least and at most. -/
import Derived.Test.YtlflfbnnjlkkcaaGreatJT74
set_option linter.unusedSimpArgs false
set_option linter.unusedVariables false
namespace Go.Am
open Go Go.Proofs
theorem F305_T75 : type_of% (And.intro @bs_22 <| And.intro @fp_143_0 <| And.intro @fp_151_0 <| And.intro @fp_151_1 <| And.intro @fp_25_0 <| And.intro @fp_43_4 <| And.intro @ia_40_0 <| And.intro @ia_40_1 <| And.intro @ia_40_2 <| And.intro @ix_22 <| And.intro @ix_41 <| And.intro @ld_22 <| And.intro @ld_3 <| And.intro @ld_41 <| And.intro @len_22 <| And.intro @part_143 <| And.intro @part_25 <| And.intro @part_3 <| And.intro @size_143 <| And.intro @size_22 <| And.intro @size_25 <| And.intro @size_3 <| And.intro @size_40 <| And.intro @size_41 <| And.intro @und_22 <| And.intro @und_40 <| And.intro @und_41 <| And.intro @zero_22 <| And.intro @zero_40 @zero_41) := And.intro @bs_22 <| And.intro @fp_143_0 <| And.intro @fp_151_0 <| And.intro @fp_151_1 <| And.intro @fp_25_0 <| And.intro @fp_43_4 <| And.intro @ia_40_0 <| And.intro @ia_40_1 <| And.intro @ia_40_2 <| And.intro @ix_22 <| And.intro @ix_41 <| And.intro @ld_22 <| And.intro @ld_3 <| And.intro @ld_41 <| And.intro @len_22 <| And.intro @part_143 <| And.intro @part_25 <| And.intro @part_3 <| And.intro @size_143 <| And.intro @size_22 <| And.intro @size_25 <| And.intro @size_3 <| And.intro @size_40 <| And.intro @size_41 <| And.intro @und_22 <| And.intro @und_40 <| And.intro @und_41 <| And.intro @zero_22 <| And.intro @zero_40 @zero_41
theorem F306_T75 : type_of% (And.intro @bs_22 <| And.intro @fp_143_0 <| And.intro @fp_151_0 <| And.intro @fp_151_1 <| And.intro @fp_25_1 <| And.intro @fp_43_4 <| And.intro @ia_40_0 <| And.intro @ia_40_1 <| And.intro @ia_40_2 <| And.intro @ix_22 <| And.intro @ix_41 <| And.intro @ld_22 <| And.intro @ld_3 <| And.intro @ld_41 <| And.intro @len_22 <| And.intro @part_143 <| And.intro @part_25 <| And.intro @part_3 <| And.intro @size_143 <| And.intro @size_22 <| And.intro @size_25 <| And.intro @size_3 <| And.intro @size_40 <| And.intro @size_41 <| And.intro @und_22 <| And.intro @und_40 <| And.intro @und_41 <| And.intro @zero_22 <| And.intro @zero_40 @zero_41) := And.intro @bs_22 <| And.intro @fp_143_0 <| And.intro @fp_151_0 <| And.intro @fp_151_1 <| And.intro @fp_25_1 <| And.intro @fp_43_4 <| And.intro @ia_40_0 <| And.intro @ia_40_1 <| And.intro @ia_40_2 <| And.intro @ix_22 <| And.intro @ix_41 <| And.intro @ld_22 <| And.intro @ld_3 <| And.intro @ld_41 <| And.intro @len_22 <| And.intro @part_143 <| And.intro @part_25 <| And.intro @part_3 <| And.intro @size_143 <| And.intro @size_22 <| And.intro @size_25 <| And.intro @size_3 <| And.intro @size_40 <| And.intro @size_41 <| And.intro @und_22 <| And.intro @und_40 <| And.intro @und_41 <| And.intro @zero_22 <| And.intro @zero_40 @zero_41

/-- a sheet with a mixture -/
def potC (s : TintS) (v w : Value) : List Value := [.int .i64 s.o1, .int .i64 s.o2, .int .i64 s.o3, .int .i64 s.f1.lo, .int .i64 s.f1.hi, .int .i64 s.f2.lo, .int .i64 s.f2.hi, .int .i64 s.f3.lo, .int .i64 s.f3.hi, .int .i64 s.years.lo, .int .i64 s.years.hi, .int .i64 s.off, v, w]
def leftP (old y f : Int) : Int := max 0 (old - y * f)
theorem left_t (o y f : Int) (ho : 0 ≤ o ∧ o ≤ 99) (hy : 0 ≤ y ∧ y ≤ 20) (hf : 0 ≤ f ∧ f ≤ 9) (h : Heap) : callF CC (Lim CC) 273 [.int .i64 o, .int .i64 y, .int .i64 f] h = some (.ret (.int .i64 (leftP o y f)) h none) := by
  have b : 0 ≤ y * f ∧ y * f ≤ 20 * 9 := ⟨Int.mul_nonneg hy.1 hf.1, Int.mul_le_mul hy.2 hf.2 hf.1 (by omega)⟩
  refine CW.eq (CW_in Tryz.f273 (by kernel_rfl) (by kernel_rfl) rfl rfl ?_)
  simp only [Tryz.f273]
  have w1 : IntKind.i64.wrap (y * f) = y * f := wrap64 (by omega) (by omega)
  have w2 : IntKind.i64.wrap (o - y * f) = o - y * f := wrap64 (by omega) (by omega)
  have m : foldV max2 [.int .i64 (o - y * f)] (.int .i64 0) = some (.int .i64 (leftP o y f)) := by
    show some (Value.int .i64 (if 0 < o - y * f then o - y * f else 0)) = _
    unfold leftP
    rw [Int.max_def]
    congr 2
    split <;> split <;> omega
  simp (maxDischargeDepth := 30) only [AMS, AMH, ↓reduceIte, Nat.reduceLT, Nat.reduceEqDiff, Nat.reduceAdd, Nat.reduceMul, reduceCtorEq, decide_true, decide_false, Nat.reduceLeDiff, Int.reduceNe, Int.reduceEq, ne_eq, not_false_eq_true, and_self, L_nil, w1, w2, m]
  try exact ⟨rfl, trivial⟩
/-- the products of a mixture's parts with what is in the tins -/
def prods (g : Tin → Int) (l : List Int) (ts : List Tin) : List Int := List.zipWith (fun n t => n * g t) l ts
theorem prods_at {g : Tin → Int} {l : List Int} {ts : List Tin} {i : Nat} {n : Int} {t : Tin} (h1 : l[i]? = some n) (h2 : ts[i]? = some t) : (prods g l ts)[i]? = some (n * g t) := by
  unfold prods
  rw [List.getElem?_zipWith, h1, h2]
set_option maxRecDepth 10000 in
set_option maxHeartbeats 1000000 in
theorem least_0 {v w : Value} {s : TintS} {l : List Int} {h : Heap} (hk : HOK h) (hp : 0 < h.next) (hv : LS h v s.tins Tin.cells 6) (hw : LS h w l ints 1) (G : s.Good) (M : MixGood s l) :
    CW CC 305 [.agg ⟨potC s v w⟩, .int .i64 0] h fun r h' => r = .int .i64 (sumI (prods (fun t => t.a.lo) l s.tins)) ∧ Fr h h' := by
  have hl4 : l.length ≤ 4 := by rw [M.len]; have := of_decide_eq_true G.tins; omega
  obtain ⟨q, c, rfl, hx⟩ := hv.open
  obtain ⟨q', c', rfl, hy⟩ := hw.open
  refine CW_in Tryz.f305 (by kernel_rfl) (by kernel_rfl) rfl rfl ?_
  simp only [Tryz.f305]
  obtain ⟨R, hR⟩ : ∃ R, R = potC s (.slice q s.tins.length c) (.slice q' l.length c') := ⟨_, rfl⟩
  have f1 : Fr h (h.alloc (.row R 0 true)) := (Fr.refl hk).alloc _
  have r1 : rowAt (h.alloc (.row R 0 true)) h.next = some R := rowAt_new _ _ _ _
  have n1 : (h.alloc (.row R 0 true)).next = h.next + 1 := by simp
  have c1 : R[12]? = some (.slice q s.tins.length c) := by rw [hR]; rfl
  have c2 : R[13]? = some (.slice q' l.length c') := by rw [hR]; rfl
  rw [← hR]
  simp (maxDischargeDepth := 30) only [AMS, AMH, ↓reduceIte, Nat.reduceLT, Nat.reduceEqDiff, Nat.reduceAdd, Nat.reduceMul, reduceCtorEq, decide_true, decide_false, Nat.reduceLeDiff, Int.reduceNe, Int.reduceEq, ne_eq, not_false_eq_true, and_self, F305_T75, hk]
  generalize (h.alloc (.row R 0 true)) = h1 at f1 r1 n1 ⊢
  have k1 := f1.ok
  simp (maxDischargeDepth := 30) only [AMS, AMH, ↓reduceIte, Nat.reduceLT, Nat.reduceEqDiff, Nat.reduceAdd, Nat.reduceMul, reduceCtorEq, decide_true, decide_false, Nat.reduceLeDiff, Int.reduceNe, Int.reduceEq, ne_eq, not_false_eq_true, and_self, F305_T75, k1, r1, c1, c2]
  refine W_loop l.length (fun m f h' => ∃ i, i ≤ l.length ∧ m = l.length - i ∧ f 1 = .int .i64 0 ∧ f 2 = .pointer (some ⟨h.next, 0, none⟩) ∧ f 9 = .slice q' l.length c' ∧ f 10 = .int .i64 l.length ∧ f 11 = .int .i64 (i : Int) ∧ SL h1.next h' (f 5) (((prods (fun t => t.a.lo) l s.tins).take i).flatMap ints) 1 i ∧ Fr h1 h')
    ⟨0, by omega, by omega, by simp [upd_at, argsFn_at], by simp [upd_at], by simp [upd_at], by simp [upd_at], by simp [upd_at], by simpa [upd_at] using SL.nil h1.next h1 1, Fr.refl k1⟩ ?_
  rintro m f h2 ⟨i, hi, rfl, g1, g2, g9, g10, g11, q5, f2⟩ ih
  have k2 := f2.ok
  have r2 := f2.row' k1 r1
  by_cases hil : i < l.length
  · have hit : i < s.tins.length := by rw [← M.len]; exact hil
    obtain ⟨n, gn⟩ : ∃ n, l[i]? = some n := ⟨_, List.getElem?_eq_getElem hil⟩
    obtain ⟨t, gt⟩ : ∃ t, s.tins[i]? = some t := ⟨_, List.getElem?_eq_getElem hit⟩
    rcases hx with hx | ⟨b, o, sp, row, rfl, hr, hx⟩
    · rw [hx] at hit; simp at hit
    rcases hy with hy | ⟨b', o', sp', row', rfl, hr', hy⟩
    · rw [hy] at hil; simp at hil
    have hc1 : row'[o' + i]? = some (.int .i64 n) := by simpa [ints] using (hy _ _ gn).2 0 (by omega)
    have hc2 : row[o + i * 6]? = some (.int .i64 t.a.lo) := by simpa [Tin.cells, Nat.add_assoc] using (hx _ _ gt).2 0 (by omega)
    have hr2 := (f1.trans f2).row' hk hr
    have hr2' := (f1.trans f2).row' hk hr'
    have bn := of_decide_eq_true (M.all n (List.mem_of_getElem? gn))
    obtain ⟨_, _, ha⟩ := G.parts 0 (by omega)
    have ha := List.all_eq_true.1 ha t (List.mem_of_getElem? gt)
    have ha : spanP t.a.lo t.a.hi 99 = true := ha
    unfold spanP at ha
    rw [Bool.and_eq_true] at ha
    have b1 := of_decide_eq_true ha.1
    have b2 := of_decide_eq_true ha.2
    have bm : 0 ≤ n * t.a.lo ∧ n * t.a.lo ≤ 8 * 99 := ⟨Int.mul_nonneg bn.1 (by omega), Int.mul_le_mul bn.2 (by omega) (by omega) (by omega)⟩
    have wm : IntKind.i64.wrap (n * t.a.lo) = n * t.a.lo := wrap64 (by omega) (by omega)
    obtain ⟨h3, e3, q3, f3, n3, _⟩ := append_one (ts := []) app_22 f2 (by have := f2.next; omega) q5 (v := .int .i64 (n * t.a.lo)) rfl (by omega)
    simp (maxDischargeDepth := 30) only [AMS, AMH, ↓reduceIte, Nat.reduceLT, Nat.reduceEqDiff, Nat.reduceAdd, Nat.reduceMul, reduceCtorEq, decide_true, decide_false, Nat.reduceLeDiff, Int.reduceNe, Int.reduceEq, ne_eq, not_false_eq_true, and_self, F305_T75, k2, r2, c1, c2, g1, g2, g9, g10, g11, lt_t hil, hil, hit, hr2, hr2', Nat.mul_one, hc1, hc2, wm, e3, f3.ok, i_next hil (by omega : l.length ≤ 1000)]
    refine ih (l.length - (i + 1)) _ _ (by omega) ?_
    refine ⟨i + 1, by omega, rfl, by simp [upd_at, g1], by simp [upd_at, g2], by simp [upd_at, g9], by simp [upd_at, g10], by simp [upd_at], ?_, f3⟩
    have e : ((prods (fun t => t.a.lo) l s.tins).take (i + 1)).flatMap ints = ((prods (fun t => t.a.lo) l s.tins).take i).flatMap ints ++ [.int .i64 (n * t.a.lo)] := by
      rw [take_snoc (prods_at gn gt), List.flatMap_append]; rfl
    rw [e]; simpa [upd_at] using q3
  · have : i = l.length := by omega
    subst this
    have hpl : (prods (fun t => t.a.lo) l s.tins).length = l.length := by unfold prods; rw [List.length_zipWith, ← M.len]; omega
    rw [List.take_of_length_le (by omega)] at q5
    have q5' : SL h1.next h2 (f 5) ((prods (fun t => t.a.lo) l s.tins).flatMap ints) 1 (prods (fun t => t.a.lo) l s.tins).length := by rw [hpl]; exact q5
    have hb : ∀ x ∈ prods (fun t => t.a.lo) l s.tins, 0 ≤ x ∧ x ≤ 1000000000 := by
      intro x hx
      obtain ⟨j, hj⟩ := List.mem_iff_getElem?.1 hx
      unfold prods at hj
      rw [List.getElem?_zipWith] at hj
      cases e1 : l[j]? with
      | none => rw [e1] at hj; cases hj
      | some n =>
        cases e2 : s.tins[j]? with
        | none => rw [e1, e2] at hj; cases hj
        | some t =>
          rw [e1, e2] at hj
          have hj : some (n * t.a.lo) = some x := hj
          have hj := Option.some.inj hj
          have bn := of_decide_eq_true (M.all n (List.mem_of_getElem? e1))
          obtain ⟨_, _, ha⟩ := G.parts 0 (by omega)
          have ha := List.all_eq_true.1 ha t (List.mem_of_getElem? e2)
          have ha : spanP t.a.lo t.a.hi 99 = true := ha
          unfold spanP at ha
          rw [Bool.and_eq_true] at ha
          have b1 := of_decide_eq_true ha.1
          have b2 := of_decide_eq_true ha.2
          have bm : 0 ≤ n * t.a.lo ∧ n * t.a.lo ≤ 8 * 99 := ⟨Int.mul_nonneg bn.1 (by omega), Int.mul_le_mul bn.2 (by omega) (by omega) (by omega)⟩
          omega
    simp (maxDischargeDepth := 30) only [AMS, AMH, ↓reduceIte, Nat.reduceLT, Nat.reduceEqDiff, Nat.reduceAdd, Nat.reduceMul, reduceCtorEq, decide_true, decide_false, Nat.reduceLeDiff, Int.reduceNe, Int.reduceEq, ne_eq, not_false_eq_true, and_self, F305_T75, k2, g1, g2, g9, g10, g11, lt_f]
    refine W_call (sum_t _ (SL.ls ints_len q5') (by omega) hb) ?_
    rintro _ _ ⟨rfl, rfl⟩
    simp (maxDischargeDepth := 30) only [AMS, AMH, ↓reduceIte, Nat.reduceLT, Nat.reduceEqDiff, Nat.reduceAdd, Nat.reduceMul, reduceCtorEq, decide_true, decide_false, Nat.reduceLeDiff, Int.reduceNe, Int.reduceEq, ne_eq, not_false_eq_true, and_self, F305_T75, k2]
    exact ⟨by first | rfl | trivial, f1.trans f2⟩
set_option maxRecDepth 10000 in
set_option maxHeartbeats 1000000 in
theorem least_1 {v w : Value} {s : TintS} {l : List Int} {h : Heap} (hk : HOK h) (hp : 0 < h.next) (hv : LS h v s.tins Tin.cells 6) (hw : LS h w l ints 1) (G : s.Good) (M : MixGood s l) :
    CW CC 305 [.agg ⟨potC s v w⟩, .int .i64 1] h fun r h' => r = .int .i64 (sumI (prods (fun t => t.b.lo) l s.tins)) ∧ Fr h h' := by
  have hl4 : l.length ≤ 4 := by rw [M.len]; have := of_decide_eq_true G.tins; omega
  obtain ⟨q, c, rfl, hx⟩ := hv.open
  obtain ⟨q', c', rfl, hy⟩ := hw.open
  refine CW_in Tryz.f305 (by kernel_rfl) (by kernel_rfl) rfl rfl ?_
  simp only [Tryz.f305]
  obtain ⟨R, hR⟩ : ∃ R, R = potC s (.slice q s.tins.length c) (.slice q' l.length c') := ⟨_, rfl⟩
  have f1 : Fr h (h.alloc (.row R 0 true)) := (Fr.refl hk).alloc _
  have r1 : rowAt (h.alloc (.row R 0 true)) h.next = some R := rowAt_new _ _ _ _
  have n1 : (h.alloc (.row R 0 true)).next = h.next + 1 := by simp
  have c1 : R[12]? = some (.slice q s.tins.length c) := by rw [hR]; rfl
  have c2 : R[13]? = some (.slice q' l.length c') := by rw [hR]; rfl
  rw [← hR]
  simp (maxDischargeDepth := 30) only [AMS, AMH, ↓reduceIte, Nat.reduceLT, Nat.reduceEqDiff, Nat.reduceAdd, Nat.reduceMul, reduceCtorEq, decide_true, decide_false, Nat.reduceLeDiff, Int.reduceNe, Int.reduceEq, ne_eq, not_false_eq_true, and_self, F305_T75, hk]
  generalize (h.alloc (.row R 0 true)) = h1 at f1 r1 n1 ⊢
  have k1 := f1.ok
  simp (maxDischargeDepth := 30) only [AMS, AMH, ↓reduceIte, Nat.reduceLT, Nat.reduceEqDiff, Nat.reduceAdd, Nat.reduceMul, reduceCtorEq, decide_true, decide_false, Nat.reduceLeDiff, Int.reduceNe, Int.reduceEq, ne_eq, not_false_eq_true, and_self, F305_T75, k1, r1, c1, c2]
  refine W_loop l.length (fun m f h' => ∃ i, i ≤ l.length ∧ m = l.length - i ∧ f 1 = .int .i64 1 ∧ f 2 = .pointer (some ⟨h.next, 0, none⟩) ∧ f 9 = .slice q' l.length c' ∧ f 10 = .int .i64 l.length ∧ f 11 = .int .i64 (i : Int) ∧ SL h1.next h' (f 5) (((prods (fun t => t.b.lo) l s.tins).take i).flatMap ints) 1 i ∧ Fr h1 h')
    ⟨0, by omega, by omega, by simp [upd_at, argsFn_at], by simp [upd_at], by simp [upd_at], by simp [upd_at], by simp [upd_at], by simpa [upd_at] using SL.nil h1.next h1 1, Fr.refl k1⟩ ?_
  rintro m f h2 ⟨i, hi, rfl, g1, g2, g9, g10, g11, q5, f2⟩ ih
  have k2 := f2.ok
  have r2 := f2.row' k1 r1
  by_cases hil : i < l.length
  · have hit : i < s.tins.length := by rw [← M.len]; exact hil
    obtain ⟨n, gn⟩ : ∃ n, l[i]? = some n := ⟨_, List.getElem?_eq_getElem hil⟩
    obtain ⟨t, gt⟩ : ∃ t, s.tins[i]? = some t := ⟨_, List.getElem?_eq_getElem hit⟩
    rcases hx with hx | ⟨b, o, sp, row, rfl, hr, hx⟩
    · rw [hx] at hit; simp at hit
    rcases hy with hy | ⟨b', o', sp', row', rfl, hr', hy⟩
    · rw [hy] at hil; simp at hil
    have hc1 : row'[o' + i]? = some (.int .i64 n) := by simpa [ints] using (hy _ _ gn).2 0 (by omega)
    have hc2 : row[o + i * 6 + 2]? = some (.int .i64 t.b.lo) := by simpa [Tin.cells, Nat.add_assoc] using (hx _ _ gt).2 2 (by omega)
    have hr2 := (f1.trans f2).row' hk hr
    have hr2' := (f1.trans f2).row' hk hr'
    have bn := of_decide_eq_true (M.all n (List.mem_of_getElem? gn))
    obtain ⟨_, _, ha⟩ := G.parts 1 (by omega)
    have ha := List.all_eq_true.1 ha t (List.mem_of_getElem? gt)
    have ha : spanP t.b.lo t.b.hi 99 = true := ha
    unfold spanP at ha
    rw [Bool.and_eq_true] at ha
    have b1 := of_decide_eq_true ha.1
    have b2 := of_decide_eq_true ha.2
    have bm : 0 ≤ n * t.b.lo ∧ n * t.b.lo ≤ 8 * 99 := ⟨Int.mul_nonneg bn.1 (by omega), Int.mul_le_mul bn.2 (by omega) (by omega) (by omega)⟩
    have wm : IntKind.i64.wrap (n * t.b.lo) = n * t.b.lo := wrap64 (by omega) (by omega)
    obtain ⟨h3, e3, q3, f3, n3, _⟩ := append_one (ts := []) app_22 f2 (by have := f2.next; omega) q5 (v := .int .i64 (n * t.b.lo)) rfl (by omega)
    simp (maxDischargeDepth := 30) only [AMS, AMH, ↓reduceIte, Nat.reduceLT, Nat.reduceEqDiff, Nat.reduceAdd, Nat.reduceMul, reduceCtorEq, decide_true, decide_false, Nat.reduceLeDiff, Int.reduceNe, Int.reduceEq, ne_eq, not_false_eq_true, and_self, F305_T75, k2, r2, c1, c2, g1, g2, g9, g10, g11, lt_t hil, hil, hit, hr2, hr2', Nat.mul_one, hc1, hc2, wm, e3, f3.ok, i_next hil (by omega : l.length ≤ 1000)]
    refine ih (l.length - (i + 1)) _ _ (by omega) ?_
    refine ⟨i + 1, by omega, rfl, by simp [upd_at, g1], by simp [upd_at, g2], by simp [upd_at, g9], by simp [upd_at, g10], by simp [upd_at], ?_, f3⟩
    have e : ((prods (fun t => t.b.lo) l s.tins).take (i + 1)).flatMap ints = ((prods (fun t => t.b.lo) l s.tins).take i).flatMap ints ++ [.int .i64 (n * t.b.lo)] := by
      rw [take_snoc (prods_at gn gt), List.flatMap_append]; rfl
    rw [e]; simpa [upd_at] using q3
  · have : i = l.length := by omega
    subst this
    have hpl : (prods (fun t => t.b.lo) l s.tins).length = l.length := by unfold prods; rw [List.length_zipWith, ← M.len]; omega
    rw [List.take_of_length_le (by omega)] at q5
    have q5' : SL h1.next h2 (f 5) ((prods (fun t => t.b.lo) l s.tins).flatMap ints) 1 (prods (fun t => t.b.lo) l s.tins).length := by rw [hpl]; exact q5
    have hb : ∀ x ∈ prods (fun t => t.b.lo) l s.tins, 0 ≤ x ∧ x ≤ 1000000000 := by
      intro x hx
      obtain ⟨j, hj⟩ := List.mem_iff_getElem?.1 hx
      unfold prods at hj
      rw [List.getElem?_zipWith] at hj
      cases e1 : l[j]? with
      | none => rw [e1] at hj; cases hj
      | some n =>
        cases e2 : s.tins[j]? with
        | none => rw [e1, e2] at hj; cases hj
        | some t =>
          rw [e1, e2] at hj
          have hj : some (n * t.b.lo) = some x := hj
          have hj := Option.some.inj hj
          have bn := of_decide_eq_true (M.all n (List.mem_of_getElem? e1))
          obtain ⟨_, _, ha⟩ := G.parts 1 (by omega)
          have ha := List.all_eq_true.1 ha t (List.mem_of_getElem? e2)
          have ha : spanP t.b.lo t.b.hi 99 = true := ha
          unfold spanP at ha
          rw [Bool.and_eq_true] at ha
          have b1 := of_decide_eq_true ha.1
          have b2 := of_decide_eq_true ha.2
          have bm : 0 ≤ n * t.b.lo ∧ n * t.b.lo ≤ 8 * 99 := ⟨Int.mul_nonneg bn.1 (by omega), Int.mul_le_mul bn.2 (by omega) (by omega) (by omega)⟩
          omega
    simp (maxDischargeDepth := 30) only [AMS, AMH, ↓reduceIte, Nat.reduceLT, Nat.reduceEqDiff, Nat.reduceAdd, Nat.reduceMul, reduceCtorEq, decide_true, decide_false, Nat.reduceLeDiff, Int.reduceNe, Int.reduceEq, ne_eq, not_false_eq_true, and_self, F305_T75, k2, g1, g2, g9, g10, g11, lt_f]
    refine W_call (sum_t _ (SL.ls ints_len q5') (by omega) hb) ?_
    rintro _ _ ⟨rfl, rfl⟩
    simp (maxDischargeDepth := 30) only [AMS, AMH, ↓reduceIte, Nat.reduceLT, Nat.reduceEqDiff, Nat.reduceAdd, Nat.reduceMul, reduceCtorEq, decide_true, decide_false, Nat.reduceLeDiff, Int.reduceNe, Int.reduceEq, ne_eq, not_false_eq_true, and_self, F305_T75, k2]
    exact ⟨by first | rfl | trivial, f1.trans f2⟩
set_option maxRecDepth 10000 in
set_option maxHeartbeats 1000000 in
theorem least_2 {v w : Value} {s : TintS} {l : List Int} {h : Heap} (hk : HOK h) (hp : 0 < h.next) (hv : LS h v s.tins Tin.cells 6) (hw : LS h w l ints 1) (G : s.Good) (M : MixGood s l) :
    CW CC 305 [.agg ⟨potC s v w⟩, .int .i64 2] h fun r h' => r = .int .i64 (sumI (prods (fun t => t.c.lo) l s.tins)) ∧ Fr h h' := by
  have hl4 : l.length ≤ 4 := by rw [M.len]; have := of_decide_eq_true G.tins; omega
  obtain ⟨q, c, rfl, hx⟩ := hv.open
  obtain ⟨q', c', rfl, hy⟩ := hw.open
  refine CW_in Tryz.f305 (by kernel_rfl) (by kernel_rfl) rfl rfl ?_
  simp only [Tryz.f305]
  obtain ⟨R, hR⟩ : ∃ R, R = potC s (.slice q s.tins.length c) (.slice q' l.length c') := ⟨_, rfl⟩
  have f1 : Fr h (h.alloc (.row R 0 true)) := (Fr.refl hk).alloc _
  have r1 : rowAt (h.alloc (.row R 0 true)) h.next = some R := rowAt_new _ _ _ _
  have n1 : (h.alloc (.row R 0 true)).next = h.next + 1 := by simp
  have c1 : R[12]? = some (.slice q s.tins.length c) := by rw [hR]; rfl
  have c2 : R[13]? = some (.slice q' l.length c') := by rw [hR]; rfl
  rw [← hR]
  simp (maxDischargeDepth := 30) only [AMS, AMH, ↓reduceIte, Nat.reduceLT, Nat.reduceEqDiff, Nat.reduceAdd, Nat.reduceMul, reduceCtorEq, decide_true, decide_false, Nat.reduceLeDiff, Int.reduceNe, Int.reduceEq, ne_eq, not_false_eq_true, and_self, F305_T75, hk]
  generalize (h.alloc (.row R 0 true)) = h1 at f1 r1 n1 ⊢
  have k1 := f1.ok
  simp (maxDischargeDepth := 30) only [AMS, AMH, ↓reduceIte, Nat.reduceLT, Nat.reduceEqDiff, Nat.reduceAdd, Nat.reduceMul, reduceCtorEq, decide_true, decide_false, Nat.reduceLeDiff, Int.reduceNe, Int.reduceEq, ne_eq, not_false_eq_true, and_self, F305_T75, k1, r1, c1, c2]
  refine W_loop l.length (fun m f h' => ∃ i, i ≤ l.length ∧ m = l.length - i ∧ f 1 = .int .i64 2 ∧ f 2 = .pointer (some ⟨h.next, 0, none⟩) ∧ f 9 = .slice q' l.length c' ∧ f 10 = .int .i64 l.length ∧ f 11 = .int .i64 (i : Int) ∧ SL h1.next h' (f 5) (((prods (fun t => t.c.lo) l s.tins).take i).flatMap ints) 1 i ∧ Fr h1 h')
    ⟨0, by omega, by omega, by simp [upd_at, argsFn_at], by simp [upd_at], by simp [upd_at], by simp [upd_at], by simp [upd_at], by simpa [upd_at] using SL.nil h1.next h1 1, Fr.refl k1⟩ ?_
  rintro m f h2 ⟨i, hi, rfl, g1, g2, g9, g10, g11, q5, f2⟩ ih
  have k2 := f2.ok
  have r2 := f2.row' k1 r1
  by_cases hil : i < l.length
  · have hit : i < s.tins.length := by rw [← M.len]; exact hil
    obtain ⟨n, gn⟩ : ∃ n, l[i]? = some n := ⟨_, List.getElem?_eq_getElem hil⟩
    obtain ⟨t, gt⟩ : ∃ t, s.tins[i]? = some t := ⟨_, List.getElem?_eq_getElem hit⟩
    rcases hx with hx | ⟨b, o, sp, row, rfl, hr, hx⟩
    · rw [hx] at hit; simp at hit
    rcases hy with hy | ⟨b', o', sp', row', rfl, hr', hy⟩
    · rw [hy] at hil; simp at hil
    have hc1 : row'[o' + i]? = some (.int .i64 n) := by simpa [ints] using (hy _ _ gn).2 0 (by omega)
    have hc2 : row[o + i * 6 + 4]? = some (.int .i64 t.c.lo) := by simpa [Tin.cells, Nat.add_assoc] using (hx _ _ gt).2 4 (by omega)
    have hr2 := (f1.trans f2).row' hk hr
    have hr2' := (f1.trans f2).row' hk hr'
    have bn := of_decide_eq_true (M.all n (List.mem_of_getElem? gn))
    obtain ⟨_, _, ha⟩ := G.parts 2 (by omega)
    have ha := List.all_eq_true.1 ha t (List.mem_of_getElem? gt)
    have ha : spanP t.c.lo t.c.hi 99 = true := ha
    unfold spanP at ha
    rw [Bool.and_eq_true] at ha
    have b1 := of_decide_eq_true ha.1
    have b2 := of_decide_eq_true ha.2
    have bm : 0 ≤ n * t.c.lo ∧ n * t.c.lo ≤ 8 * 99 := ⟨Int.mul_nonneg bn.1 (by omega), Int.mul_le_mul bn.2 (by omega) (by omega) (by omega)⟩
    have wm : IntKind.i64.wrap (n * t.c.lo) = n * t.c.lo := wrap64 (by omega) (by omega)
    obtain ⟨h3, e3, q3, f3, n3, _⟩ := append_one (ts := []) app_22 f2 (by have := f2.next; omega) q5 (v := .int .i64 (n * t.c.lo)) rfl (by omega)
    simp (maxDischargeDepth := 30) only [AMS, AMH, ↓reduceIte, Nat.reduceLT, Nat.reduceEqDiff, Nat.reduceAdd, Nat.reduceMul, reduceCtorEq, decide_true, decide_false, Nat.reduceLeDiff, Int.reduceNe, Int.reduceEq, ne_eq, not_false_eq_true, and_self, F305_T75, k2, r2, c1, c2, g1, g2, g9, g10, g11, lt_t hil, hil, hit, hr2, hr2', Nat.mul_one, hc1, hc2, wm, e3, f3.ok, i_next hil (by omega : l.length ≤ 1000)]
    refine ih (l.length - (i + 1)) _ _ (by omega) ?_
    refine ⟨i + 1, by omega, rfl, by simp [upd_at, g1], by simp [upd_at, g2], by simp [upd_at, g9], by simp [upd_at, g10], by simp [upd_at], ?_, f3⟩
    have e : ((prods (fun t => t.c.lo) l s.tins).take (i + 1)).flatMap ints = ((prods (fun t => t.c.lo) l s.tins).take i).flatMap ints ++ [.int .i64 (n * t.c.lo)] := by
      rw [take_snoc (prods_at gn gt), List.flatMap_append]; rfl
    rw [e]; simpa [upd_at] using q3
  · have : i = l.length := by omega
    subst this
    have hpl : (prods (fun t => t.c.lo) l s.tins).length = l.length := by unfold prods; rw [List.length_zipWith, ← M.len]; omega
    rw [List.take_of_length_le (by omega)] at q5
    have q5' : SL h1.next h2 (f 5) ((prods (fun t => t.c.lo) l s.tins).flatMap ints) 1 (prods (fun t => t.c.lo) l s.tins).length := by rw [hpl]; exact q5
    have hb : ∀ x ∈ prods (fun t => t.c.lo) l s.tins, 0 ≤ x ∧ x ≤ 1000000000 := by
      intro x hx
      obtain ⟨j, hj⟩ := List.mem_iff_getElem?.1 hx
      unfold prods at hj
      rw [List.getElem?_zipWith] at hj
      cases e1 : l[j]? with
      | none => rw [e1] at hj; cases hj
      | some n =>
        cases e2 : s.tins[j]? with
        | none => rw [e1, e2] at hj; cases hj
        | some t =>
          rw [e1, e2] at hj
          have hj : some (n * t.c.lo) = some x := hj
          have hj := Option.some.inj hj
          have bn := of_decide_eq_true (M.all n (List.mem_of_getElem? e1))
          obtain ⟨_, _, ha⟩ := G.parts 2 (by omega)
          have ha := List.all_eq_true.1 ha t (List.mem_of_getElem? e2)
          have ha : spanP t.c.lo t.c.hi 99 = true := ha
          unfold spanP at ha
          rw [Bool.and_eq_true] at ha
          have b1 := of_decide_eq_true ha.1
          have b2 := of_decide_eq_true ha.2
          have bm : 0 ≤ n * t.c.lo ∧ n * t.c.lo ≤ 8 * 99 := ⟨Int.mul_nonneg bn.1 (by omega), Int.mul_le_mul bn.2 (by omega) (by omega) (by omega)⟩
          omega
    simp (maxDischargeDepth := 30) only [AMS, AMH, ↓reduceIte, Nat.reduceLT, Nat.reduceEqDiff, Nat.reduceAdd, Nat.reduceMul, reduceCtorEq, decide_true, decide_false, Nat.reduceLeDiff, Int.reduceNe, Int.reduceEq, ne_eq, not_false_eq_true, and_self, F305_T75, k2, g1, g2, g9, g10, g11, lt_f]
    refine W_call (sum_t _ (SL.ls ints_len q5') (by omega) hb) ?_
    rintro _ _ ⟨rfl, rfl⟩
    simp (maxDischargeDepth := 30) only [AMS, AMH, ↓reduceIte, Nat.reduceLT, Nat.reduceEqDiff, Nat.reduceAdd, Nat.reduceMul, reduceCtorEq, decide_true, decide_false, Nat.reduceLeDiff, Int.reduceNe, Int.reduceEq, ne_eq, not_false_eq_true, and_self, F305_T75, k2]
    exact ⟨by first | rfl | trivial, f1.trans f2⟩
set_option maxRecDepth 10000 in
set_option maxHeartbeats 1000000 in
theorem greatest_0 {v w : Value} {s : TintS} {l : List Int} {h : Heap} (hk : HOK h) (hp : 0 < h.next) (hv : LS h v s.tins Tin.cells 6) (hw : LS h w l ints 1) (G : s.Good) (M : MixGood s l) :
    CW CC 306 [.agg ⟨potC s v w⟩, .int .i64 0] h fun r h' => r = .int .i64 (sumI (prods (fun t => t.a.hi) l s.tins)) ∧ Fr h h' := by
  have hl4 : l.length ≤ 4 := by rw [M.len]; have := of_decide_eq_true G.tins; omega
  obtain ⟨q, c, rfl, hx⟩ := hv.open
  obtain ⟨q', c', rfl, hy⟩ := hw.open
  refine CW_in Tryz.f306 (by kernel_rfl) (by kernel_rfl) rfl rfl ?_
  simp only [Tryz.f306]
  obtain ⟨R, hR⟩ : ∃ R, R = potC s (.slice q s.tins.length c) (.slice q' l.length c') := ⟨_, rfl⟩
  have f1 : Fr h (h.alloc (.row R 0 true)) := (Fr.refl hk).alloc _
  have r1 : rowAt (h.alloc (.row R 0 true)) h.next = some R := rowAt_new _ _ _ _
  have n1 : (h.alloc (.row R 0 true)).next = h.next + 1 := by simp
  have c1 : R[12]? = some (.slice q s.tins.length c) := by rw [hR]; rfl
  have c2 : R[13]? = some (.slice q' l.length c') := by rw [hR]; rfl
  rw [← hR]
  simp (maxDischargeDepth := 30) only [AMS, AMH, ↓reduceIte, Nat.reduceLT, Nat.reduceEqDiff, Nat.reduceAdd, Nat.reduceMul, reduceCtorEq, decide_true, decide_false, Nat.reduceLeDiff, Int.reduceNe, Int.reduceEq, ne_eq, not_false_eq_true, and_self, F306_T75, hk]
  generalize (h.alloc (.row R 0 true)) = h1 at f1 r1 n1 ⊢
  have k1 := f1.ok
  simp (maxDischargeDepth := 30) only [AMS, AMH, ↓reduceIte, Nat.reduceLT, Nat.reduceEqDiff, Nat.reduceAdd, Nat.reduceMul, reduceCtorEq, decide_true, decide_false, Nat.reduceLeDiff, Int.reduceNe, Int.reduceEq, ne_eq, not_false_eq_true, and_self, F306_T75, k1, r1, c1, c2]
  refine W_loop l.length (fun m f h' => ∃ i, i ≤ l.length ∧ m = l.length - i ∧ f 1 = .int .i64 0 ∧ f 2 = .pointer (some ⟨h.next, 0, none⟩) ∧ f 9 = .slice q' l.length c' ∧ f 10 = .int .i64 l.length ∧ f 11 = .int .i64 (i : Int) ∧ SL h1.next h' (f 5) (((prods (fun t => t.a.hi) l s.tins).take i).flatMap ints) 1 i ∧ Fr h1 h')
    ⟨0, by omega, by omega, by simp [upd_at, argsFn_at], by simp [upd_at], by simp [upd_at], by simp [upd_at], by simp [upd_at], by simpa [upd_at] using SL.nil h1.next h1 1, Fr.refl k1⟩ ?_
  rintro m f h2 ⟨i, hi, rfl, g1, g2, g9, g10, g11, q5, f2⟩ ih
  have k2 := f2.ok
  have r2 := f2.row' k1 r1
  by_cases hil : i < l.length
  · have hit : i < s.tins.length := by rw [← M.len]; exact hil
    obtain ⟨n, gn⟩ : ∃ n, l[i]? = some n := ⟨_, List.getElem?_eq_getElem hil⟩
    obtain ⟨t, gt⟩ : ∃ t, s.tins[i]? = some t := ⟨_, List.getElem?_eq_getElem hit⟩
    rcases hx with hx | ⟨b, o, sp, row, rfl, hr, hx⟩
    · rw [hx] at hit; simp at hit
    rcases hy with hy | ⟨b', o', sp', row', rfl, hr', hy⟩
    · rw [hy] at hil; simp at hil
    have hc1 : row'[o' + i]? = some (.int .i64 n) := by simpa [ints] using (hy _ _ gn).2 0 (by omega)
    have hc2 : row[o + i * 6 + 1]? = some (.int .i64 t.a.hi) := by simpa [Tin.cells, Nat.add_assoc] using (hx _ _ gt).2 1 (by omega)
    have hr2 := (f1.trans f2).row' hk hr
    have hr2' := (f1.trans f2).row' hk hr'
    have bn := of_decide_eq_true (M.all n (List.mem_of_getElem? gn))
    obtain ⟨_, _, ha⟩ := G.parts 0 (by omega)
    have ha := List.all_eq_true.1 ha t (List.mem_of_getElem? gt)
    have ha : spanP t.a.lo t.a.hi 99 = true := ha
    unfold spanP at ha
    rw [Bool.and_eq_true] at ha
    have b1 := of_decide_eq_true ha.1
    have b2 := of_decide_eq_true ha.2
    have bm : 0 ≤ n * t.a.hi ∧ n * t.a.hi ≤ 8 * 99 := ⟨Int.mul_nonneg bn.1 (by omega), Int.mul_le_mul bn.2 (by omega) (by omega) (by omega)⟩
    have wm : IntKind.i64.wrap (n * t.a.hi) = n * t.a.hi := wrap64 (by omega) (by omega)
    obtain ⟨h3, e3, q3, f3, n3, _⟩ := append_one (ts := []) app_22 f2 (by have := f2.next; omega) q5 (v := .int .i64 (n * t.a.hi)) rfl (by omega)
    simp (maxDischargeDepth := 30) only [AMS, AMH, ↓reduceIte, Nat.reduceLT, Nat.reduceEqDiff, Nat.reduceAdd, Nat.reduceMul, reduceCtorEq, decide_true, decide_false, Nat.reduceLeDiff, Int.reduceNe, Int.reduceEq, ne_eq, not_false_eq_true, and_self, F306_T75, k2, r2, c1, c2, g1, g2, g9, g10, g11, lt_t hil, hil, hit, hr2, hr2', Nat.mul_one, hc1, hc2, wm, e3, f3.ok, i_next hil (by omega : l.length ≤ 1000)]
    refine ih (l.length - (i + 1)) _ _ (by omega) ?_
    refine ⟨i + 1, by omega, rfl, by simp [upd_at, g1], by simp [upd_at, g2], by simp [upd_at, g9], by simp [upd_at, g10], by simp [upd_at], ?_, f3⟩
    have e : ((prods (fun t => t.a.hi) l s.tins).take (i + 1)).flatMap ints = ((prods (fun t => t.a.hi) l s.tins).take i).flatMap ints ++ [.int .i64 (n * t.a.hi)] := by
      rw [take_snoc (prods_at gn gt), List.flatMap_append]; rfl
    rw [e]; simpa [upd_at] using q3
  · have : i = l.length := by omega
    subst this
    have hpl : (prods (fun t => t.a.hi) l s.tins).length = l.length := by unfold prods; rw [List.length_zipWith, ← M.len]; omega
    rw [List.take_of_length_le (by omega)] at q5
    have q5' : SL h1.next h2 (f 5) ((prods (fun t => t.a.hi) l s.tins).flatMap ints) 1 (prods (fun t => t.a.hi) l s.tins).length := by rw [hpl]; exact q5
    have hb : ∀ x ∈ prods (fun t => t.a.hi) l s.tins, 0 ≤ x ∧ x ≤ 1000000000 := by
      intro x hx
      obtain ⟨j, hj⟩ := List.mem_iff_getElem?.1 hx
      unfold prods at hj
      rw [List.getElem?_zipWith] at hj
      cases e1 : l[j]? with
      | none => rw [e1] at hj; cases hj
      | some n =>
        cases e2 : s.tins[j]? with
        | none => rw [e1, e2] at hj; cases hj
        | some t =>
          rw [e1, e2] at hj
          have hj : some (n * t.a.hi) = some x := hj
          have hj := Option.some.inj hj
          have bn := of_decide_eq_true (M.all n (List.mem_of_getElem? e1))
          obtain ⟨_, _, ha⟩ := G.parts 0 (by omega)
          have ha := List.all_eq_true.1 ha t (List.mem_of_getElem? e2)
          have ha : spanP t.a.lo t.a.hi 99 = true := ha
          unfold spanP at ha
          rw [Bool.and_eq_true] at ha
          have b1 := of_decide_eq_true ha.1
          have b2 := of_decide_eq_true ha.2
          have bm : 0 ≤ n * t.a.hi ∧ n * t.a.hi ≤ 8 * 99 := ⟨Int.mul_nonneg bn.1 (by omega), Int.mul_le_mul bn.2 (by omega) (by omega) (by omega)⟩
          omega
    simp (maxDischargeDepth := 30) only [AMS, AMH, ↓reduceIte, Nat.reduceLT, Nat.reduceEqDiff, Nat.reduceAdd, Nat.reduceMul, reduceCtorEq, decide_true, decide_false, Nat.reduceLeDiff, Int.reduceNe, Int.reduceEq, ne_eq, not_false_eq_true, and_self, F306_T75, k2, g1, g2, g9, g10, g11, lt_f]
    refine W_call (sum_t _ (SL.ls ints_len q5') (by omega) hb) ?_
    rintro _ _ ⟨rfl, rfl⟩
    simp (maxDischargeDepth := 30) only [AMS, AMH, ↓reduceIte, Nat.reduceLT, Nat.reduceEqDiff, Nat.reduceAdd, Nat.reduceMul, reduceCtorEq, decide_true, decide_false, Nat.reduceLeDiff, Int.reduceNe, Int.reduceEq, ne_eq, not_false_eq_true, and_self, F306_T75, k2]
    exact ⟨by first | rfl | trivial, f1.trans f2⟩
set_option maxRecDepth 10000 in
set_option maxHeartbeats 1000000 in
theorem greatest_1 {v w : Value} {s : TintS} {l : List Int} {h : Heap} (hk : HOK h) (hp : 0 < h.next) (hv : LS h v s.tins Tin.cells 6) (hw : LS h w l ints 1) (G : s.Good) (M : MixGood s l) :
    CW CC 306 [.agg ⟨potC s v w⟩, .int .i64 1] h fun r h' => r = .int .i64 (sumI (prods (fun t => t.b.hi) l s.tins)) ∧ Fr h h' := by
  have hl4 : l.length ≤ 4 := by rw [M.len]; have := of_decide_eq_true G.tins; omega
  obtain ⟨q, c, rfl, hx⟩ := hv.open
  obtain ⟨q', c', rfl, hy⟩ := hw.open
  refine CW_in Tryz.f306 (by kernel_rfl) (by kernel_rfl) rfl rfl ?_
  simp only [Tryz.f306]
  obtain ⟨R, hR⟩ : ∃ R, R = potC s (.slice q s.tins.length c) (.slice q' l.length c') := ⟨_, rfl⟩
  have f1 : Fr h (h.alloc (.row R 0 true)) := (Fr.refl hk).alloc _
  have r1 : rowAt (h.alloc (.row R 0 true)) h.next = some R := rowAt_new _ _ _ _
  have n1 : (h.alloc (.row R 0 true)).next = h.next + 1 := by simp
  have c1 : R[12]? = some (.slice q s.tins.length c) := by rw [hR]; rfl
  have c2 : R[13]? = some (.slice q' l.length c') := by rw [hR]; rfl
  rw [← hR]
  simp (maxDischargeDepth := 30) only [AMS, AMH, ↓reduceIte, Nat.reduceLT, Nat.reduceEqDiff, Nat.reduceAdd, Nat.reduceMul, reduceCtorEq, decide_true, decide_false, Nat.reduceLeDiff, Int.reduceNe, Int.reduceEq, ne_eq, not_false_eq_true, and_self, F306_T75, hk]
  generalize (h.alloc (.row R 0 true)) = h1 at f1 r1 n1 ⊢
  have k1 := f1.ok
  simp (maxDischargeDepth := 30) only [AMS, AMH, ↓reduceIte, Nat.reduceLT, Nat.reduceEqDiff, Nat.reduceAdd, Nat.reduceMul, reduceCtorEq, decide_true, decide_false, Nat.reduceLeDiff, Int.reduceNe, Int.reduceEq, ne_eq, not_false_eq_true, and_self, F306_T75, k1, r1, c1, c2]
  refine W_loop l.length (fun m f h' => ∃ i, i ≤ l.length ∧ m = l.length - i ∧ f 1 = .int .i64 1 ∧ f 2 = .pointer (some ⟨h.next, 0, none⟩) ∧ f 9 = .slice q' l.length c' ∧ f 10 = .int .i64 l.length ∧ f 11 = .int .i64 (i : Int) ∧ SL h1.next h' (f 5) (((prods (fun t => t.b.hi) l s.tins).take i).flatMap ints) 1 i ∧ Fr h1 h')
    ⟨0, by omega, by omega, by simp [upd_at, argsFn_at], by simp [upd_at], by simp [upd_at], by simp [upd_at], by simp [upd_at], by simpa [upd_at] using SL.nil h1.next h1 1, Fr.refl k1⟩ ?_
  rintro m f h2 ⟨i, hi, rfl, g1, g2, g9, g10, g11, q5, f2⟩ ih
  have k2 := f2.ok
  have r2 := f2.row' k1 r1
  by_cases hil : i < l.length
  · have hit : i < s.tins.length := by rw [← M.len]; exact hil
    obtain ⟨n, gn⟩ : ∃ n, l[i]? = some n := ⟨_, List.getElem?_eq_getElem hil⟩
    obtain ⟨t, gt⟩ : ∃ t, s.tins[i]? = some t := ⟨_, List.getElem?_eq_getElem hit⟩
    rcases hx with hx | ⟨b, o, sp, row, rfl, hr, hx⟩
    · rw [hx] at hit; simp at hit
    rcases hy with hy | ⟨b', o', sp', row', rfl, hr', hy⟩
    · rw [hy] at hil; simp at hil
    have hc1 : row'[o' + i]? = some (.int .i64 n) := by simpa [ints] using (hy _ _ gn).2 0 (by omega)
    have hc2 : row[o + i * 6 + 2 + 1]? = some (.int .i64 t.b.hi) := by simpa [Tin.cells, Nat.add_assoc] using (hx _ _ gt).2 3 (by omega)
    have hr2 := (f1.trans f2).row' hk hr
    have hr2' := (f1.trans f2).row' hk hr'
    have bn := of_decide_eq_true (M.all n (List.mem_of_getElem? gn))
    obtain ⟨_, _, ha⟩ := G.parts 1 (by omega)
    have ha := List.all_eq_true.1 ha t (List.mem_of_getElem? gt)
    have ha : spanP t.b.lo t.b.hi 99 = true := ha
    unfold spanP at ha
    rw [Bool.and_eq_true] at ha
    have b1 := of_decide_eq_true ha.1
    have b2 := of_decide_eq_true ha.2
    have bm : 0 ≤ n * t.b.hi ∧ n * t.b.hi ≤ 8 * 99 := ⟨Int.mul_nonneg bn.1 (by omega), Int.mul_le_mul bn.2 (by omega) (by omega) (by omega)⟩
    have wm : IntKind.i64.wrap (n * t.b.hi) = n * t.b.hi := wrap64 (by omega) (by omega)
    obtain ⟨h3, e3, q3, f3, n3, _⟩ := append_one (ts := []) app_22 f2 (by have := f2.next; omega) q5 (v := .int .i64 (n * t.b.hi)) rfl (by omega)
    simp (maxDischargeDepth := 30) only [AMS, AMH, ↓reduceIte, Nat.reduceLT, Nat.reduceEqDiff, Nat.reduceAdd, Nat.reduceMul, reduceCtorEq, decide_true, decide_false, Nat.reduceLeDiff, Int.reduceNe, Int.reduceEq, ne_eq, not_false_eq_true, and_self, F306_T75, k2, r2, c1, c2, g1, g2, g9, g10, g11, lt_t hil, hil, hit, hr2, hr2', Nat.mul_one, hc1, hc2, wm, e3, f3.ok, i_next hil (by omega : l.length ≤ 1000)]
    refine ih (l.length - (i + 1)) _ _ (by omega) ?_
    refine ⟨i + 1, by omega, rfl, by simp [upd_at, g1], by simp [upd_at, g2], by simp [upd_at, g9], by simp [upd_at, g10], by simp [upd_at], ?_, f3⟩
    have e : ((prods (fun t => t.b.hi) l s.tins).take (i + 1)).flatMap ints = ((prods (fun t => t.b.hi) l s.tins).take i).flatMap ints ++ [.int .i64 (n * t.b.hi)] := by
      rw [take_snoc (prods_at gn gt), List.flatMap_append]; rfl
    rw [e]; simpa [upd_at] using q3
  · have : i = l.length := by omega
    subst this
    have hpl : (prods (fun t => t.b.hi) l s.tins).length = l.length := by unfold prods; rw [List.length_zipWith, ← M.len]; omega
    rw [List.take_of_length_le (by omega)] at q5
    have q5' : SL h1.next h2 (f 5) ((prods (fun t => t.b.hi) l s.tins).flatMap ints) 1 (prods (fun t => t.b.hi) l s.tins).length := by rw [hpl]; exact q5
    have hb : ∀ x ∈ prods (fun t => t.b.hi) l s.tins, 0 ≤ x ∧ x ≤ 1000000000 := by
      intro x hx
      obtain ⟨j, hj⟩ := List.mem_iff_getElem?.1 hx
      unfold prods at hj
      rw [List.getElem?_zipWith] at hj
      cases e1 : l[j]? with
      | none => rw [e1] at hj; cases hj
      | some n =>
        cases e2 : s.tins[j]? with
        | none => rw [e1, e2] at hj; cases hj
        | some t =>
          rw [e1, e2] at hj
          have hj : some (n * t.b.hi) = some x := hj
          have hj := Option.some.inj hj
          have bn := of_decide_eq_true (M.all n (List.mem_of_getElem? e1))
          obtain ⟨_, _, ha⟩ := G.parts 1 (by omega)
          have ha := List.all_eq_true.1 ha t (List.mem_of_getElem? e2)
          have ha : spanP t.b.lo t.b.hi 99 = true := ha
          unfold spanP at ha
          rw [Bool.and_eq_true] at ha
          have b1 := of_decide_eq_true ha.1
          have b2 := of_decide_eq_true ha.2
          have bm : 0 ≤ n * t.b.hi ∧ n * t.b.hi ≤ 8 * 99 := ⟨Int.mul_nonneg bn.1 (by omega), Int.mul_le_mul bn.2 (by omega) (by omega) (by omega)⟩
          omega
    simp (maxDischargeDepth := 30) only [AMS, AMH, ↓reduceIte, Nat.reduceLT, Nat.reduceEqDiff, Nat.reduceAdd, Nat.reduceMul, reduceCtorEq, decide_true, decide_false, Nat.reduceLeDiff, Int.reduceNe, Int.reduceEq, ne_eq, not_false_eq_true, and_self, F306_T75, k2, g1, g2, g9, g10, g11, lt_f]
    refine W_call (sum_t _ (SL.ls ints_len q5') (by omega) hb) ?_
    rintro _ _ ⟨rfl, rfl⟩
    simp (maxDischargeDepth := 30) only [AMS, AMH, ↓reduceIte, Nat.reduceLT, Nat.reduceEqDiff, Nat.reduceAdd, Nat.reduceMul, reduceCtorEq, decide_true, decide_false, Nat.reduceLeDiff, Int.reduceNe, Int.reduceEq, ne_eq, not_false_eq_true, and_self, F306_T75, k2]
    exact ⟨by first | rfl | trivial, f1.trans f2⟩
set_option maxRecDepth 10000 in
set_option maxHeartbeats 1000000 in
theorem greatest_2 {v w : Value} {s : TintS} {l : List Int} {h : Heap} (hk : HOK h) (hp : 0 < h.next) (hv : LS h v s.tins Tin.cells 6) (hw : LS h w l ints 1) (G : s.Good) (M : MixGood s l) :
    CW CC 306 [.agg ⟨potC s v w⟩, .int .i64 2] h fun r h' => r = .int .i64 (sumI (prods (fun t => t.c.hi) l s.tins)) ∧ Fr h h' := by
  have hl4 : l.length ≤ 4 := by rw [M.len]; have := of_decide_eq_true G.tins; omega
  obtain ⟨q, c, rfl, hx⟩ := hv.open
  obtain ⟨q', c', rfl, hy⟩ := hw.open
  refine CW_in Tryz.f306 (by kernel_rfl) (by kernel_rfl) rfl rfl ?_
  simp only [Tryz.f306]
  obtain ⟨R, hR⟩ : ∃ R, R = potC s (.slice q s.tins.length c) (.slice q' l.length c') := ⟨_, rfl⟩
  have f1 : Fr h (h.alloc (.row R 0 true)) := (Fr.refl hk).alloc _
  have r1 : rowAt (h.alloc (.row R 0 true)) h.next = some R := rowAt_new _ _ _ _
  have n1 : (h.alloc (.row R 0 true)).next = h.next + 1 := by simp
  have c1 : R[12]? = some (.slice q s.tins.length c) := by rw [hR]; rfl
  have c2 : R[13]? = some (.slice q' l.length c') := by rw [hR]; rfl
  rw [← hR]
  simp (maxDischargeDepth := 30) only [AMS, AMH, ↓reduceIte, Nat.reduceLT, Nat.reduceEqDiff, Nat.reduceAdd, Nat.reduceMul, reduceCtorEq, decide_true, decide_false, Nat.reduceLeDiff, Int.reduceNe, Int.reduceEq, ne_eq, not_false_eq_true, and_self, F306_T75, hk]
  generalize (h.alloc (.row R 0 true)) = h1 at f1 r1 n1 ⊢
  have k1 := f1.ok
  simp (maxDischargeDepth := 30) only [AMS, AMH, ↓reduceIte, Nat.reduceLT, Nat.reduceEqDiff, Nat.reduceAdd, Nat.reduceMul, reduceCtorEq, decide_true, decide_false, Nat.reduceLeDiff, Int.reduceNe, Int.reduceEq, ne_eq, not_false_eq_true, and_self, F306_T75, k1, r1, c1, c2]
  refine W_loop l.length (fun m f h' => ∃ i, i ≤ l.length ∧ m = l.length - i ∧ f 1 = .int .i64 2 ∧ f 2 = .pointer (some ⟨h.next, 0, none⟩) ∧ f 9 = .slice q' l.length c' ∧ f 10 = .int .i64 l.length ∧ f 11 = .int .i64 (i : Int) ∧ SL h1.next h' (f 5) (((prods (fun t => t.c.hi) l s.tins).take i).flatMap ints) 1 i ∧ Fr h1 h')
    ⟨0, by omega, by omega, by simp [upd_at, argsFn_at], by simp [upd_at], by simp [upd_at], by simp [upd_at], by simp [upd_at], by simpa [upd_at] using SL.nil h1.next h1 1, Fr.refl k1⟩ ?_
  rintro m f h2 ⟨i, hi, rfl, g1, g2, g9, g10, g11, q5, f2⟩ ih
  have k2 := f2.ok
  have r2 := f2.row' k1 r1
  by_cases hil : i < l.length
  · have hit : i < s.tins.length := by rw [← M.len]; exact hil
    obtain ⟨n, gn⟩ : ∃ n, l[i]? = some n := ⟨_, List.getElem?_eq_getElem hil⟩
    obtain ⟨t, gt⟩ : ∃ t, s.tins[i]? = some t := ⟨_, List.getElem?_eq_getElem hit⟩
    rcases hx with hx | ⟨b, o, sp, row, rfl, hr, hx⟩
    · rw [hx] at hit; simp at hit
    rcases hy with hy | ⟨b', o', sp', row', rfl, hr', hy⟩
    · rw [hy] at hil; simp at hil
    have hc1 : row'[o' + i]? = some (.int .i64 n) := by simpa [ints] using (hy _ _ gn).2 0 (by omega)
    have hc2 : row[o + i * 6 + 4 + 1]? = some (.int .i64 t.c.hi) := by simpa [Tin.cells, Nat.add_assoc] using (hx _ _ gt).2 5 (by omega)
    have hr2 := (f1.trans f2).row' hk hr
    have hr2' := (f1.trans f2).row' hk hr'
    have bn := of_decide_eq_true (M.all n (List.mem_of_getElem? gn))
    obtain ⟨_, _, ha⟩ := G.parts 2 (by omega)
    have ha := List.all_eq_true.1 ha t (List.mem_of_getElem? gt)
    have ha : spanP t.c.lo t.c.hi 99 = true := ha
    unfold spanP at ha
    rw [Bool.and_eq_true] at ha
    have b1 := of_decide_eq_true ha.1
    have b2 := of_decide_eq_true ha.2
    have bm : 0 ≤ n * t.c.hi ∧ n * t.c.hi ≤ 8 * 99 := ⟨Int.mul_nonneg bn.1 (by omega), Int.mul_le_mul bn.2 (by omega) (by omega) (by omega)⟩
    have wm : IntKind.i64.wrap (n * t.c.hi) = n * t.c.hi := wrap64 (by omega) (by omega)
    obtain ⟨h3, e3, q3, f3, n3, _⟩ := append_one (ts := []) app_22 f2 (by have := f2.next; omega) q5 (v := .int .i64 (n * t.c.hi)) rfl (by omega)
    simp (maxDischargeDepth := 30) only [AMS, AMH, ↓reduceIte, Nat.reduceLT, Nat.reduceEqDiff, Nat.reduceAdd, Nat.reduceMul, reduceCtorEq, decide_true, decide_false, Nat.reduceLeDiff, Int.reduceNe, Int.reduceEq, ne_eq, not_false_eq_true, and_self, F306_T75, k2, r2, c1, c2, g1, g2, g9, g10, g11, lt_t hil, hil, hit, hr2, hr2', Nat.mul_one, hc1, hc2, wm, e3, f3.ok, i_next hil (by omega : l.length ≤ 1000)]
    refine ih (l.length - (i + 1)) _ _ (by omega) ?_
    refine ⟨i + 1, by omega, rfl, by simp [upd_at, g1], by simp [upd_at, g2], by simp [upd_at, g9], by simp [upd_at, g10], by simp [upd_at], ?_, f3⟩
    have e : ((prods (fun t => t.c.hi) l s.tins).take (i + 1)).flatMap ints = ((prods (fun t => t.c.hi) l s.tins).take i).flatMap ints ++ [.int .i64 (n * t.c.hi)] := by
      rw [take_snoc (prods_at gn gt), List.flatMap_append]; rfl
    rw [e]; simpa [upd_at] using q3
  · have : i = l.length := by omega
    subst this
    have hpl : (prods (fun t => t.c.hi) l s.tins).length = l.length := by unfold prods; rw [List.length_zipWith, ← M.len]; omega
    rw [List.take_of_length_le (by omega)] at q5
    have q5' : SL h1.next h2 (f 5) ((prods (fun t => t.c.hi) l s.tins).flatMap ints) 1 (prods (fun t => t.c.hi) l s.tins).length := by rw [hpl]; exact q5
    have hb : ∀ x ∈ prods (fun t => t.c.hi) l s.tins, 0 ≤ x ∧ x ≤ 1000000000 := by
      intro x hx
      obtain ⟨j, hj⟩ := List.mem_iff_getElem?.1 hx
      unfold prods at hj
      rw [List.getElem?_zipWith] at hj
      cases e1 : l[j]? with
      | none => rw [e1] at hj; cases hj
      | some n =>
        cases e2 : s.tins[j]? with
        | none => rw [e1, e2] at hj; cases hj
        | some t =>
          rw [e1, e2] at hj
          have hj : some (n * t.c.hi) = some x := hj
          have hj := Option.some.inj hj
          have bn := of_decide_eq_true (M.all n (List.mem_of_getElem? e1))
          obtain ⟨_, _, ha⟩ := G.parts 2 (by omega)
          have ha := List.all_eq_true.1 ha t (List.mem_of_getElem? e2)
          have ha : spanP t.c.lo t.c.hi 99 = true := ha
          unfold spanP at ha
          rw [Bool.and_eq_true] at ha
          have b1 := of_decide_eq_true ha.1
          have b2 := of_decide_eq_true ha.2
          have bm : 0 ≤ n * t.c.hi ∧ n * t.c.hi ≤ 8 * 99 := ⟨Int.mul_nonneg bn.1 (by omega), Int.mul_le_mul bn.2 (by omega) (by omega) (by omega)⟩
          omega
    simp (maxDischargeDepth := 30) only [AMS, AMH, ↓reduceIte, Nat.reduceLT, Nat.reduceEqDiff, Nat.reduceAdd, Nat.reduceMul, reduceCtorEq, decide_true, decide_false, Nat.reduceLeDiff, Int.reduceNe, Int.reduceEq, ne_eq, not_false_eq_true, and_self, F306_T75, k2, g1, g2, g9, g10, g11, lt_f]
    refine W_call (sum_t _ (SL.ls ints_len q5') (by omega) hb) ?_
    rintro _ _ ⟨rfl, rfl⟩
    simp (maxDischargeDepth := 30) only [AMS, AMH, ↓reduceIte, Nat.reduceLT, Nat.reduceEqDiff, Nat.reduceAdd, Nat.reduceMul, reduceCtorEq, decide_true, decide_false, Nat.reduceLeDiff, Int.reduceNe, Int.reduceEq, ne_eq, not_false_eq_true, and_self, F306_T75, k2]
    exact ⟨by first | rfl | trivial, f1.trans f2⟩
end Go.Am
